/- Contracts of functions, over the machine. -/
import Derived.Test.YtoadcfjkkoemdaaRows
import Derived.Test.YtoadcfjkkoemdaaVK
import Derived.Test.YtoadcfjkkoemdaaVJ
namespace Go.Vm
abbrev U : Value := undef
abbrev tm (n : Nat) : Operand := .tmp n
abbrev k0 : Operand := .const (.int .i64 0)
abbrev o1 (d : Nat) (x : AOp) : AOper := ⟨some d, x, none, [], false⟩
abbrev o2 (d : Nat) (x : AOp) : AOper := ⟨some d, x, none, [], true⟩
abbrev o3 (x : AOp) : AOper := ⟨none, x, none, [], false⟩
abbrev o4 (d : Nat) (x : AOp) (t : Nat) : AOper := ⟨some d, x, some (t, true), [], false⟩
abbrev o5 (d : Nat) (x : AOp) (t : Nat) : AOper := ⟨some d, x, some (t, false), [], false⟩
end Go.Vm
set_option linter.unusedSimpArgs false
set_option linter.unusedSectionVars false
noncomputable section
set_option maxRecDepth 100000
set_option linter.unusedVariables false
namespace Go.Proofs.Ytoadcfjkkoemdaa.A
open Go Go.Vm
instance : IsIface Try.prog 20 := ⟨by kernel_rfl⟩
instance : IsIface Try.prog 95 := ⟨by kernel_rfl⟩
instance : IsIface Try.prog 96 := ⟨by kernel_rfl⟩
abbrev prims : List FuncId := [16]
abbrev kepts : List FuncId := [25]
def T0 : Table := withKept (withTrue Try.prog prims) kepts
theorem zqQ_known {h : Heap} : Runs Try.prog T0 (.fn 16) [] h (fun r h' => r = .bool true ∧ h' = h) (fun _ _ => False) := known_runs rfl
instance : IsBoolT Try.prog 4 := ⟨by kernel_rfl⟩
instance : TLeaves Try.prog 7 (.i .i64 :: (.i .i64 :: (.b :: (.i .u8 :: [])))) := ⟨by kernel_rfl, by kernel_rfl, by kernel_rfl⟩
instance : TLeaves Try.prog 8 (.i .i64 :: (.i .i64 :: (.b :: (.i .u8 :: [])))) := ⟨by kernel_rfl, by kernel_rfl, by kernel_rfl⟩
abbrev fn_zvbQ : FuncId := 10
def zvbQ_c : ACode :=
 (.seq (.region [
 o1 2 (.mov (.const (.pointer none))),
 o1 3 (.mov k0)]) (.seq (.seq (.region [
 o1 4 (.mov (tm 0)),
 o1 5 (.bin .lss (so (.binOp .lss 3 (tm 4) (.const (.int .i64 1)) 3) 4) (tm 4) (.const (.int .i64 1))),
 o1 6 (.mov (tm 5)),
 o5 7 (.mov (tm 0)) 6,
 o5 8 (.bin .gtr (so (.binOp .gtr 3 (tm 7) (.const (.int .i64 4096)) 3) 4) (tm 7) (.const (.int .i64 4096))) 6,
 o1 9 (.pick (tm 6) (.const (.bool true)) (tm 8))]) (.cond (tm 9)
 (.seq (.region [
 o1 2 (.mov (.const (.pointer none))),
 o1 3 (.mov (.const (.int .i64 3)))]) .ret)
 .skip)) (.seq (.region [
 o1 10 (.mov (tm 0)),
 o1 11 (.mkMap),
 o1 12 (.build [(.int .i64 0), (.int .i64 0), (.int .i64 0), (.slice none 0 0), (.map none)] [(0, 1, (tm 10)), (4, 1, (tm 11))]),
 o1 13 (.box 65 (tm 12)),
 o1 2 (.mov (tm 13)),
 o1 3 (.mov k0)]) .ret)))
def zvbQ : AFunc := ⟨14, [(2, none), (3, none)], zvbQ_c, none⟩
theorem zvbQ_t0 : tableOf Try.prog 10 = some zvbQ := by kernel_rfl
theorem zvbQ_t : T0 10 = some zvbQ := withKept_t rfl (withTrue_t rfl zvbQ_t0)
theorem zvbQ_runs {v0 : Value} {h : Heap} {R : RP} {X : XP} (k : RunC Try.prog T0 zvbQ_c ⟨[v0, U, U, U, U, U, U, U, U, U, U, U, U, U], [], h, none⟩ (bodyQ Try.prog T0 [(2, none), (3, none)] R X)) :
 Runs Try.prog T0 (.fn 10) [v0] h R X := Runs.fn zvbQ_t rfl k
abbrev fn_zhbQ : FuncId := 12
def zhbQ_c : ACode :=
 (.seq (.region [
 o1 4 (.mov k0)]) (.seq (.region [
 o1 6 (.mov (tm 0)),
 o1 7 (.mov (tm 1)),
 o1 8 (.mov (tm 0)),
 o1 9 (.mkFunc (.func 39) [(tm 8)] []),
 o1 10 (.callV (.func 38) [(tm 6), (tm 7), (tm 9)]),
 o1 5 (.mov (tm 10))]) (.seq (.seq (.region [
 o1 11 (.mov (tm 5)),
 o1 12 (.bin .eql (so (.binOp .eql 24 (tm 11) k0 24) 4) (tm 11) k0)]) (.cond (tm 12)
 (.region [
 o1 13 (.mov (tm 0)),
 o1 14 (.nilCheck (tm 13)),
 o1 15 (.fieldAddr 2 (tm 14)),
 o1 16 (.load none (tm 15)),
 o1 17 (.bin .add (so (.binOp .add 3 (tm 16) (.const (.int .i64 1)) 3) 3) (tm 16) (.const (.int .i64 1))),
 o1 18 (.nilCheck (tm 13)),
 o1 19 (.fieldAddr 2 (tm 18)),
 o3 (.store 1 (tm 19) (tm 17))])
 .skip)) (.seq (.region [
 o1 20 (.mov (tm 5)),
 o1 4 (.mov (tm 20))]) .ret))))
def zhbQ : AFunc := ⟨21, [(4, none)], zhbQ_c, none⟩
theorem zhbQ_t0 : tableOf Try.prog 12 = some zhbQ := by kernel_rfl
theorem zhbQ_t : T0 12 = some zhbQ := withKept_t rfl (withTrue_t rfl zhbQ_t0)
theorem zhbQ_runs {v0 v1 : Value} {h : Heap} {R : RP} {X : XP} (k : RunC Try.prog T0 zhbQ_c ⟨[v0, v1, U, U, U, U, U, U, U, U, U, U, U, U, U, U, U, U, U, U, U], [], h, none⟩ (bodyQ Try.prog T0 [(4, none)] R X)) :
 Runs Try.prog T0 (.fn 12) [v0, v1] h R X := Runs.fn zhbQ_t rfl k
abbrev fn_zobQ : FuncId := 14
def zobQ_c : ACode :=
 (.seq (.region [
 o1 3 (.box 22 (tm 0)),
 o1 5 (.box 3 (tm 2)),
 o1 6 (.alloc 3 [(.int .i64 0)]),
 o1 7 (.mov k0)]) (.seq (.region [
 o1 8 (.load none (tm 3)),
 o1 9 (.mov (tm 1)),
 o1 10 (.mkFunc (.func 40) [] [(tm 5), (tm 3), (tm 6)]),
 o1 11 (.callV (.func 38) [(tm 8), (tm 9), (tm 10)]),
 o1 7 (.mov (tm 11))]) (.seq (.region [
 o1 12 (.load none (tm 6)),
 o1 13 (.mov (tm 7)),
 o3 (.store 1 (tm 6) (tm 12)),
 o1 7 (.mov (tm 13))]) .ret)))
def zobQ : AFunc := ⟨14, [(6, some none), (7, none)], zobQ_c, none⟩
theorem zobQ_t0 : tableOf Try.prog 14 = some zobQ := by kernel_rfl
theorem zobQ_t : T0 14 = some zobQ := withKept_t rfl (withTrue_t rfl zobQ_t0)
theorem zobQ_runs {v0 v1 v2 : Value} {h : Heap} {R : RP} {X : XP} (k : RunC Try.prog T0 zobQ_c ⟨[v0, v1, v2, U, U, U, U, U, U, U, U, U, U, U], [], h, none⟩ (bodyQ Try.prog T0 [(6, some none), (7, none)] R X)) :
 Runs Try.prog T0 (.fn 14) [v0, v1, v2] h R X := Runs.fn zobQ_t rfl k
abbrev fn_zjbQ : FuncId := 15
def zjbQ_c : ACode :=
 (.seq (.region [
 o1 2 (.mov k0),
 o1 3 (.mov (.const (.bool false)))]) (.seq (.seq (.region [
 o1 4 (.mov (tm 0)),
 o1 5 (.callV (.func 43) [(tm 4)]),
 o1 6 (.mov (tm 5)),
 o5 7 (.mov (tm 0)) 6,
 o5 8 (.nilCheck (tm 7)) 6,
 o5 9 (.fieldAddr 3 (tm 8)) 6,
 o5 10 (.load none (tm 9)) 6,
 o5 11 (.lenSl (tm 10)) 6,
 o5 12 (.bin .eql (so (.binOp .eql 3 (tm 11) k0 3) 4) (tm 11) k0) 6,
 o1 13 (.pick (tm 6) (.const (.bool true)) (tm 12))]) (.cond (tm 13)
 (.seq (.region [
 o1 2 (.mov k0),
 o1 3 (.mov (.const (.bool false)))]) .ret)
 .skip)) (.seq (.region [
 o1 14 (.mov (tm 0)),
 o1 15 (.nilCheck (tm 14)),
 o1 16 (.fieldAddr 3 (tm 15)),
 o1 17 (.load none (tm 16)),
 o1 18 (.indexSl 1 (tm 17) k0),
 o1 19 (.load none (tm 18)),
 o1 20 (.nilCheck (tm 19)),
 o1 21 (.fieldAddr 3 (tm 20)),
 o1 22 (.load none (tm 21)),
 o1 2 (.mov (tm 22)),
 o1 3 (.mov (.const (.bool true)))]) .ret)))
def zjbQ : AFunc := ⟨23, [(2, none), (3, none)], zjbQ_c, none⟩
theorem zjbQ_t0 : tableOf Try.prog 15 = some zjbQ := by kernel_rfl
theorem zjbQ_t : T0 15 = some zjbQ := withKept_t rfl (withTrue_t rfl zjbQ_t0)
theorem zjbQ_runs {v0 : Value} {h : Heap} {R : RP} {X : XP} (k : RunC Try.prog T0 zjbQ_c ⟨[v0, U, U, U, U, U, U, U, U, U, U, U, U, U, U, U, U, U, U, U, U, U, U], [], h, none⟩ (bodyQ Try.prog T0 [(2, none), (3, none)] R X)) :
 Runs Try.prog T0 (.fn 15) [v0] h R X := Runs.fn zjbQ_t rfl k
abbrev fn_zbbQ : FuncId := 17
def zbbQ_c : ACode :=
 (.seq (.region [
 o1 2 (.mov (.const (.pointer none))),
 o1 3 (.mov k0)]) (.seq (.seq (.region [
 o1 4 (.mov (tm 0)),
 o1 5 (.bin .lss (so (.binOp .lss 3 (tm 4) (.const (.int .i64 1)) 3) 4) (tm 4) (.const (.int .i64 1))),
 o1 6 (.mov (tm 5)),
 o5 7 (.mov (tm 0)) 6,
 o5 8 (.bin .gtr (so (.binOp .gtr 3 (tm 7) (.const (.int .i64 4096)) 3) 4) (tm 7) (.const (.int .i64 4096))) 6,
 o1 9 (.pick (tm 6) (.const (.bool true)) (tm 8))]) (.cond (tm 9)
 (.seq (.region [
 o1 2 (.mov (.const (.pointer none))),
 o1 3 (.mov (.const (.int .i64 3)))]) .ret)
 .skip)) (.seq (.region [
 o1 10 (.mov (tm 0)),
 o1 11 (.build [(.int .i64 0), (.int .i64 0), (.int .i64 0), (.slice none 0 0)] [(0, 1, (tm 10))]),
 o1 12 (.box 45 (tm 11)),
 o1 2 (.mov (tm 12)),
 o1 3 (.mov k0)]) .ret)))
def zbbQ : AFunc := ⟨13, [(2, none), (3, none)], zbbQ_c, none⟩
theorem zbbQ_t0 : tableOf Try.prog 17 = some zbbQ := by kernel_rfl
theorem zbbQ_t : T0 17 = some zbbQ := withKept_t rfl (withTrue_t rfl zbbQ_t0)
theorem zbbQ_runs {v0 : Value} {h : Heap} {R : RP} {X : XP} (k : RunC Try.prog T0 zbbQ_c ⟨[v0, U, U, U, U, U, U, U, U, U, U, U, U], [], h, none⟩ (bodyQ Try.prog T0 [(2, none), (3, none)] R X)) :
 Runs Try.prog T0 (.fn 17) [v0] h R X := Runs.fn zbbQ_t rfl k
abbrev fn_zkbQ : FuncId := 19
def zkbQ_c : ACode :=
 (.seq (.region [
 o1 10 (.mov k0),
 o1 11 (.mov k0)]) (.seq (.block 0 (.seq (.region [
 o1 13 (.mov (tm 0)),
 o1 14 (.callV (.func 43) [(tm 13)]),
 o1 12 (.mov (tm 14))]) (.cond (tm 12)
 (.seq (.region [
 o1 10 (.mov k0),
 o1 11 (.mov (.const (.int .i64 1)))]) .ret)
 (.seq (.region [
 o1 16 (.mov (tm 1)),
 o1 17 (.callV (.func 44) [(tm 16)]),
 o1 18 (.raw (so (.unOp .not 4 (tm 17)) 4)),
 o1 19 (.mov (tm 18)),
 o5 20 (.mov (tm 2)) 19,
 o5 21 (.callV (.func 44) [(tm 20)]) 19,
 o5 22 (.raw (so (.unOp .not 4 (tm 21)) 4)) 19,
 o1 23 (.pick (tm 19) (.const (.bool true)) (tm 22)),
 o1 24 (.mov (tm 23)),
 o5 25 (.mov (tm 3)) 24,
 o5 26 (.callV (.func 41) [(tm 25)]) 24,
 o5 27 (.raw (so (.unOp .not 4 (tm 26)) 4)) 24,
 o1 28 (.pick (tm 24) (.const (.bool true)) (tm 27)),
 o1 15 (.mov (tm 28))]) (.cond (tm 15)
 (.seq (.region [
 o1 10 (.mov k0),
 o1 11 (.mov (.const (.int .i64 3)))]) .ret)
 (.seq (.region [
 o1 30 (.mov (tm 4)),
 o1 31 (.lenSl (tm 30)),
 o1 32 (.bin .gtr (so (.binOp .gtr 3 (tm 31) (.const (.int .i64 65536)) 3) 4) (tm 31) (.const (.int .i64 65536))),
 o1 29 (.mov (tm 32))]) (.cond (tm 29)
 (.seq (.region [
 o1 10 (.mov k0),
 o1 11 (.mov (.const (.int .i64 4)))]) .ret)
 (.seq (.regionD [
 o1 34 (.mov (tm 0)),
 o1 35 (.nilCheck (tm 34)),
 o1 36 (.fieldAddr 3 (tm 35)),
 o1 37 (.load none (tm 36)),
 o1 38 (.lenSl (tm 37)),
 o1 39 (.mov (tm 0)),
 o1 40 (.nilCheck (tm 39)),
 o1 41 (.fieldAddr 0 (tm 40)),
 o1 42 (.load none (tm 41)),
 o2 43 (.bin .geq (so (.binOp .geq 3 (tm 38) (tm 42) 3) 4) (tm 38) (tm 42)),
 o2 33 (.mov (tm 43))]) (.cond (tm 33)
 (.seq (.region [
 o1 10 (.mov k0),
 o1 11 (.mov (.const (.int .i64 7)))]) .ret)
 .skip))))))))) (.seq (.region [
 o1 44 (.mov (tm 0)),
 o1 45 (.mov (tm 1)),
 o1 46 (.mov (tm 2)),
 o1 47 (.mov (tm 3)),
 o1 48 (.mov (tm 4)),
 o1 49 (.build [(.int .i64 0), (.int .i64 0), (.int .i64 0), (.int .i64 0), (.slice none 0 0)] [(1, 1, (tm 45)), (2, 1, (tm 46)), (3, 1, (tm 47)), (4, 1, (tm 48))]),
 o1 50 (.callV (.func 42) [(tm 44), (tm 49)]),
 o1 10 (.mov (tm 50)),
 o1 11 (.mov k0)]) .ret)))
def zkbQ : AFunc := ⟨51, [(10, none), (11, none)], zkbQ_c, none⟩
theorem zkbQ_t0 : tableOf Try.prog 19 = some zkbQ := by kernel_rfl
theorem zkbQ_t : T0 19 = some zkbQ := withKept_t rfl (withTrue_t rfl zkbQ_t0)
theorem zkbQ_runs {v0 v1 v2 v3 v4 : Value} {h : Heap} {R : RP} {X : XP} (k : RunC Try.prog T0 zkbQ_c ⟨[v0, v1, v2, v3, v4, U, U, U, U, U, U, U, U, U, U, U, U, U, U, U, U, U, U, U, U, U, U, U, U, U, U, U, U, U, U, U, U, U, U, U, U, U, U, U, U, U, U, U, U, U, U], [], h, none⟩ (bodyQ Try.prog T0 [(10, none), (11, none)] R X)) :
 Runs Try.prog T0 (.fn 19) [v0, v1, v2, v3, v4] h R X := Runs.fn zkbQ_t rfl k
abbrev fn_zvQ : FuncId := 20
def zvQ_c : ACode :=
 (.seq (.region [
 o1 10 (.mov k0),
 o1 11 (.mov k0)]) (.seq (.block 0 (.seq (.region [
 o1 13 (.mov (tm 1)),
 o1 14 (.bin .lss (so (.binOp .lss 3 (tm 13) k0 3) 4) (tm 13) k0),
 o1 15 (.mov (tm 14)),
 o5 16 (.mov (tm 1)) 15,
 o5 17 (.bin .gtr (so (.binOp .gtr 3 (tm 16) (.const (.int .i64 16)) 3) 4) (tm 16) (.const (.int .i64 16))) 15,
 o1 18 (.pick (tm 15) (.const (.bool true)) (tm 17)),
 o1 19 (.mov (tm 18)),
 o5 20 (.mov (tm 2)) 19,
 o5 21 (.bin .lss (so (.binOp .lss 3 (tm 20) k0 3) 4) (tm 20) k0) 19,
 o1 22 (.pick (tm 19) (.const (.bool true)) (tm 21)),
 o1 23 (.mov (tm 22)),
 o5 24 (.mov (tm 2)) 23,
 o5 25 (.bin .gtr (so (.binOp .gtr 3 (tm 24) (.const (.int .i64 16)) 3) 4) (tm 24) (.const (.int .i64 16))) 23,
 o1 26 (.pick (tm 23) (.const (.bool true)) (tm 25)),
 o1 27 (.mov (tm 26)),
 o5 28 (.mov (tm 3)) 27,
 o5 29 (.callV (.func 45) [(tm 28)]) 27,
 o5 30 (.raw (so (.unOp .not 4 (tm 29)) 4)) 27,
 o1 31 (.pick (tm 27) (.const (.bool true)) (tm 30)),
 o1 12 (.mov (tm 31))]) (.cond (tm 12)
 (.seq (.region [
 o1 10 (.mov k0),
 o1 11 (.mov (.const (.int .i64 3)))]) .ret)
 (.seq (.region [
 o1 33 (.mov (tm 4)),
 o1 34 (.lenSl (tm 33)),
 o1 35 (.bin .gtr (so (.binOp .gtr 3 (tm 34) (.const (.int .i64 65536)) 3) 4) (tm 34) (.const (.int .i64 65536))),
 o1 32 (.mov (tm 35))]) (.cond (tm 32)
 (.seq (.region [
 o1 10 (.mov k0),
 o1 11 (.mov (.const (.int .i64 4)))]) .ret)
 (.seq (.regionD [
 o1 37 (.mov (tm 0)),
 o1 38 (.nilCheck (tm 37)),
 o1 39 (.fieldAddr 3 (tm 38)),
 o1 40 (.load none (tm 39)),
 o1 41 (.lenSl (tm 40)),
 o1 42 (.mov (tm 0)),
 o1 43 (.nilCheck (tm 42)),
 o1 44 (.fieldAddr 0 (tm 43)),
 o1 45 (.load none (tm 44)),
 o2 46 (.bin .geq (so (.binOp .geq 3 (tm 41) (tm 45) 3) 4) (tm 41) (tm 45)),
 o2 36 (.mov (tm 46))]) (.cond (tm 36)
 (.seq (.region [
 o1 10 (.mov k0),
 o1 11 (.mov (.const (.int .i64 7)))]) .ret)
 .skip))))))) (.seq (.region [
 o1 47 (.mov (tm 0)),
 o1 48 (.nilCheck (tm 47)),
 o1 49 (.fieldAddr 1 (tm 48)),
 o1 50 (.load none (tm 49)),
 o1 51 (.bin .add (so (.binOp .add 3 (tm 50) (.const (.int .i64 1)) 3) 3) (tm 50) (.const (.int .i64 1))),
 o1 52 (.nilCheck (tm 47)),
 o1 53 (.fieldAddr 1 (tm 52)),
 o3 (.store 1 (tm 53) (tm 51))]) (.seq (.regionD [
 o1 54 (.mov (tm 0)),
 o1 55 (.mov (tm 0)),
 o1 56 (.nilCheck (tm 55)),
 o1 57 (.fieldAddr 1 (tm 56)),
 o1 58 (.load none (tm 57)),
 o1 59 (.mov (tm 1)),
 o1 60 (.mov (tm 2)),
 o1 61 (.mov (tm 3)),
 o1 62 (.mov (tm 4)),
 ⟨some 63, .callV (.func 47) [(tm 62)], none, [(some 61, .mov (tm 3), none), (some 60, .mov (tm 2), none), (some 59, .mov (tm 1), none), (some 58, .load none (tm 57), none), (some 57, .fieldAddr 1 (tm 56), none), (some 56, .nilCheck (tm 55), none), (some 55, .mov (tm 0), none), (some 54, .mov (tm 0), none)], false⟩,
 o1 64 (.build [(.int .i64 0), (.int .i64 0), (.int .i64 0), (.int .i64 0), (.slice none 0 0)] [(0, 1, (tm 58)), (1, 1, (tm 59)), (2, 1, (tm 60)), (3, 1, (tm 61)), (4, 1, (tm 63))]),
 o2 65 (.callV (.func 46) [(tm 54), (tm 64)])]) (.seq (.region [
 o1 66 (.mov (tm 0)),
 o1 67 (.nilCheck (tm 66)),
 o1 68 (.fieldAddr 1 (tm 67)),
 o1 69 (.load none (tm 68)),
 o1 10 (.mov (tm 69)),
 o1 11 (.mov k0)]) .ret)))))
def zvQ : AFunc := ⟨70, [(10, none), (11, none)], zvQ_c, none⟩
theorem zvQ_t0 : tableOf Try.prog 20 = some zvQ := by kernel_rfl
theorem zvQ_t : T0 20 = some zvQ := withKept_t rfl (withTrue_t rfl zvQ_t0)
theorem zvQ_runs {v0 v1 v2 v3 v4 : Value} {h : Heap} {R : RP} {X : XP} (k : RunC Try.prog T0 zvQ_c ⟨[v0, v1, v2, v3, v4, U, U, U, U, U, U, U, U, U, U, U, U, U, U, U, U, U, U, U, U, U, U, U, U, U, U, U, U, U, U, U, U, U, U, U, U, U, U, U, U, U, U, U, U, U, U, U, U, U, U, U, U, U, U, U, U, U, U, U, U, U, U, U, U, U], [], h, none⟩ (bodyQ Try.prog T0 [(10, none), (11, none)] R X)) :
 Runs Try.prog T0 (.fn 20) [v0, v1, v2, v3, v4] h R X := Runs.fn zvQ_t rfl k
abbrev fn_zoQ : FuncId := 21
def zoQ_l0 : ACode :=
 (.seq (.seq (.region [
 o1 12 (.mov (tm 5)),
 o1 13 (.mov (tm 12)),
 o4 14 (.mov (tm 6)) 13,
 o4 15 (.mov (tm 0)) 13,
 o4 16 (.lenSl (tm 15)) 13,
 o4 17 (.bin .lss (so (.binOp .lss 3 (tm 14) (tm 16) 3) 4) (tm 14) (tm 16)) 13,
 o1 18 (.pick (tm 13) (tm 17) (.const (.bool false)))]) (.cond (tm 18)
 .skip
 (.exit 0))) (.seq (.block 1 (.regionD [
 o1 21 (.mov (tm 0)),
 o1 22 (.mov (tm 6)),
 o1 23 (.indexSl 5 (tm 21) (tm 22)),
 o1 24 (.fieldAddr 0 (tm 23)),
 o1 25 (.load none (tm 24)),
 o1 26 (.mov (tm 1)),
 o1 27 (.mov (tm 6)),
 o1 28 (.indexSl 5 (tm 26) (tm 27)),
 o1 29 (.fieldAddr 0 (tm 28)),
 o1 30 (.load none (tm 29)),
 o2 31 (.bin .eql (so (.binOp .eql 3 (tm 25) (tm 30) 3) 4) (tm 25) (tm 30)),
 o2 32 (.mov (tm 31)),
 o4 33 (.mov (tm 0)) 32,
 o4 34 (.mov (tm 6)) 32,
 o4 35 (.indexSl 5 (tm 33) (tm 34)) 32,
 o4 36 (.fieldAddr 1 (tm 35)) 32,
 o4 37 (.load none (tm 36)) 32,
 o4 38 (.mov (tm 1)) 32,
 o4 39 (.mov (tm 6)) 32,
 o4 40 (.indexSl 5 (tm 38) (tm 39)) 32,
 o4 41 (.fieldAddr 1 (tm 40)) 32,
 o4 42 (.load none (tm 41)) 32,
 ⟨some 43, .bin .eql (so (.binOp .eql 3 (tm 37) (tm 42) 3) 4) (tm 37) (tm 42), some (32, true), [], true⟩,
 o2 44 (.pick (tm 32) (tm 43) (.const (.bool false))),
 o2 45 (.mov (tm 44)),
 o4 46 (.mov (tm 0)) 45,
 o4 47 (.mov (tm 6)) 45,
 o4 48 (.indexSl 5 (tm 46) (tm 47)) 45,
 o4 49 (.fieldAddr 2 (tm 48)) 45,
 o4 50 (.load none (tm 49)) 45,
 o4 51 (.mov (tm 1)) 45,
 o4 52 (.mov (tm 6)) 45,
 o4 53 (.indexSl 5 (tm 51) (tm 52)) 45,
 o4 54 (.fieldAddr 2 (tm 53)) 45,
 o4 55 (.load none (tm 54)) 45,
 ⟨some 56, .bin .eql (so (.binOp .eql 3 (tm 50) (tm 55) 3) 4) (tm 50) (tm 55), some (45, true), [], true⟩,
 o2 57 (.pick (tm 45) (tm 56) (.const (.bool false))),
 o2 58 (.mov (tm 57)),
 o4 59 (.mov (tm 0)) 58,
 o4 60 (.mov (tm 6)) 58,
 o4 61 (.indexSl 5 (tm 59) (tm 60)) 58,
 o4 62 (.fieldAddr 3 (tm 61)) 58,
 o4 63 (.load none (tm 62)) 58,
 o4 64 (.mov (tm 1)) 58,
 o4 65 (.mov (tm 6)) 58,
 o4 66 (.indexSl 5 (tm 64) (tm 65)) 58,
 o4 67 (.fieldAddr 3 (tm 66)) 58,
 o4 68 (.load none (tm 67)) 58,
 ⟨some 69, .bin .eql (so (.binOp .eql 3 (tm 63) (tm 68) 3) 4) (tm 63) (tm 68), some (58, true), [], true⟩,
 o2 70 (.pick (tm 58) (tm 69) (.const (.bool false))),
 o2 71 (.mov (tm 70)),
 o4 72 (.mov (tm 0)) 71,
 o4 73 (.mov (tm 6)) 71,
 o4 74 (.indexSl 5 (tm 72) (tm 73)) 71,
 o4 75 (.fieldAddr 4 (tm 74)) 71,
 o4 76 (.load none (tm 75)) 71,
 o4 77 (.mov (tm 1)) 71,
 o4 78 (.mov (tm 6)) 71,
 o4 79 (.indexSl 5 (tm 77) (tm 78)) 71,
 o4 80 (.fieldAddr 4 (tm 79)) 71,
 o4 81 (.load none (tm 80)) 71,
 ⟨some 82, .callV (.func 48) [(tm 76), (tm 81)], some (71, true), [], true⟩,
 o2 83 (.pick (tm 71) (tm 82) (.const (.bool false))),
 o2 5 (.mov (tm 83))])) (.region [
 o1 19 (.mov (tm 6)),
 o1 20 (.bin .add (so (.binOp .add 3 (tm 19) (.const (.int .i64 1)) 3) 3) (tm 19) (.const (.int .i64 1))),
 o1 6 (.mov (tm 20))])))
def zoQ_c : ACode :=
 (.seq (.region [
 o1 4 (.mov (.const (.bool false)))]) (.seq (.region [
 o1 7 (.mov (tm 0)),
 o1 8 (.lenSl (tm 7)),
 o1 9 (.mov (tm 1)),
 o1 10 (.lenSl (tm 9)),
 o1 11 (.bin .eql (so (.binOp .eql 3 (tm 8) (tm 10) 3) 4) (tm 8) (tm 10)),
 o1 5 (.mov (tm 11))]) (.seq (.seq (.region [
 o1 6 (.mov k0)]) (.block 0 (.loop zoQ_l0))) (.seq (.region [
 o1 84 (.mov (tm 5)),
 o1 4 (.mov (tm 84))]) .ret))))
def zoQ : AFunc := ⟨85, [(4, none)], zoQ_c, none⟩
theorem zoQ_t0 : tableOf Try.prog 21 = some zoQ := by kernel_rfl
theorem zoQ_t : T0 21 = some zoQ := withKept_t rfl (withTrue_t rfl zoQ_t0)
theorem zoQ_runs {v0 v1 : Value} {h : Heap} {R : RP} {X : XP} (k : RunC Try.prog T0 zoQ_c ⟨[v0, v1, U, U, U, U, U, U, U, U, U, U, U, U, U, U, U, U, U, U, U, U, U, U, U, U, U, U, U, U, U, U, U, U, U, U, U, U, U, U, U, U, U, U, U, U, U, U, U, U, U, U, U, U, U, U, U, U, U, U, U, U, U, U, U, U, U, U, U, U, U, U, U, U, U, U, U, U, U, U, U, U, U, U, U], [], h, none⟩ (bodyQ Try.prog T0 [(4, none)] R X)) :
 Runs Try.prog T0 (.fn 21) [v0, v1] h R X := Runs.fn zoQ_t rfl k
abbrev zoQ_l0_M : List Nat := [0, 0, 0, 0, 0, 2, 2, 0, 0, 0, 0, 0, 1, 1, 1, 1, 1, 1, 1, 1, 1, 1, 1, 1, 1, 1, 1, 1, 1, 1, 1, 1, 1, 1, 1, 1, 1, 1, 1, 1, 1, 1, 1, 1, 1, 1, 1, 1, 1, 1, 1, 1, 1, 1, 1, 1, 1, 1, 1, 1, 1, 1, 1, 1, 1, 1, 1, 1, 1, 1, 1, 1, 1, 1, 1, 1, 1, 1, 1, 1, 1, 1, 1, 1, 0]
abbrev fn_zgbQ : FuncId := 22
def zgbQ_l0 : ACode :=
 (.seq (.region [
 o1 16 (.bin .lss (so (.binOp .lss 3 (tm 15) (tm 14) 3) 0) (tm 15) (tm 14))]) (.seq (.cond (tm 16)
 .skip
 (.exit 0)) (.seq (.block 1 (.seq (.region [
 o1 17 (.indexSl 1 (tm 13) (tm 15)),
 o1 18 (.load none (tm 17)),
 o1 4 (.mov (tm 18))]) (.seq (.region [
 o1 19 (.mov (tm 4)),
 o1 20 (.nilCheck (tm 19)),
 o1 21 (.load (some 5) (tm 20)),
 o1 5 (.alloc 58 [(.int .i64 0), (.int .i64 0), (.int .i64 0), (.int .i64 0), (.slice none 0 0)]),
 o3 (.store 5 (tm 5) (tm 21))]) (.seq (.region [
 o1 22 (.mov (tm 4)),
 o1 23 (.nilCheck (tm 22)),
 o1 24 (.fieldAddr 4 (tm 23)),
 o1 25 (.load none (tm 24)),
 o1 26 (.callV (.func 52) [(tm 25)]),
 o1 27 (.fieldAddr 4 (tm 5)),
 o3 (.store 1 (tm 27) (tm 26))]) (.region [
 o1 28 (.mov (tm 2)),
 o1 29 (.load (some 5) (tm 5)),
 o1 30 (.buildSlice 58 [(.int .i64 0), (.int .i64 0), (.int .i64 0), (.int .i64 0), (.slice none 0 0)] 1 [(0, 5, (tm 29))]),
 o1 31 (.append 58 5 56 [(.int .i64 0), (.int .i64 0), (.int .i64 0), (.int .i64 0), (.slice none 0 0)] false (tm 28) (tm 30)),
 o1 2 (.mov (tm 31))]))))) (.region [
 o1 32 (.bin .add (so (.binOp .add 3 (tm 15) (.const (.int .i64 1)) 3) 3) (tm 15) (.const (.int .i64 1))),
 o1 15 (.mov (tm 32))]))))
def zgbQ_c : ACode :=
 (.seq (.region [
 o1 2 (.mov (.const (.slice none 0 0)))]) (.seq (.seq (.region [
 o1 6 (.mov (tm 0)),
 o1 7 (.callV (.func 43) [(tm 6)])]) (.cond (tm 7)
 (.seq (.region [
 o1 2 (.mov (.const (.slice none 0 0)))]) .ret)
 .skip)) (.seq (.seq (.region [
 o1 8 (.mov (tm 0)),
 o1 9 (.nilCheck (tm 8)),
 o1 10 (.fieldAddr 3 (tm 9)),
 o1 11 (.load none (tm 10)),
 o1 12 (.callV (.func 50) [(tm 11)]),
 o1 13 (.callV (.func 49) [(tm 12), (.func 51)]),
 o1 14 (.lenSl (tm 13)),
 o1 15 (.mov k0)]) (.block 0 (.loop zgbQ_l0))) (.seq (.region [
 o1 33 (.mov (tm 2)),
 o1 2 (.mov (tm 33))]) .ret))))
def zgbQ : AFunc := ⟨34, [(2, none)], zgbQ_c, none⟩
theorem zgbQ_t0 : tableOf Try.prog 22 = some zgbQ := by kernel_rfl
theorem zgbQ_t : T0 22 = some zgbQ := withKept_t rfl (withTrue_t rfl zgbQ_t0)
theorem zgbQ_runs {v0 : Value} {h : Heap} {R : RP} {X : XP} (k : RunC Try.prog T0 zgbQ_c ⟨[v0, U, U, U, U, U, U, U, U, U, U, U, U, U, U, U, U, U, U, U, U, U, U, U, U, U, U, U, U, U, U, U, U, U], [], h, none⟩ (bodyQ Try.prog T0 [(2, none)] R X)) :
 Runs Try.prog T0 (.fn 22) [v0] h R X := Runs.fn zgbQ_t rfl k
abbrev zgbQ_l0_M : List Nat := [0, 0, 2, 0, 1, 1, 0, 0, 0, 0, 0, 0, 0, 0, 0, 2, 1, 1, 1, 1, 1, 1, 1, 1, 1, 1, 1, 1, 1, 1, 1, 1, 1, 0]
abbrev fn_zrQ : FuncId := 23
def zrQ_l0 : ACode :=
 (.seq (.seq (.region [
 o1 4 (.mov (tm 3)),
 o1 5 (.mov (tm 0)),
 o1 6 (.lenSl (tm 5)),
 o1 7 (.bin .lss (so (.binOp .lss 3 (tm 4) (tm 6) 3) 4) (tm 4) (tm 6)),
 o1 8 (.mov (tm 7)),
 o4 9 (.mov (tm 3)) 8,
 o4 10 (.bin .lss (so (.binOp .lss 3 (tm 9) (.const (.int .i64 41)) 3) 4) (tm 9) (.const (.int .i64 41))) 8,
 o1 11 (.pick (tm 8) (tm 10) (.const (.bool false)))]) (.cond (tm 11)
 .skip
 (.exit 0))) (.seq (.block 1 (.seq (.region [
 o1 14 (.mov (tm 0)),
 o1 15 (.mov (tm 3)),
 o1 16 (.indexSl 5 (tm 14) (tm 15)),
 o1 17 (.fieldAddr 4 (tm 16)),
 o1 18 (.load none (tm 17)),
 o1 19 (.lenSl (tm 18)),
 o1 20 (.bin .gtr (so (.binOp .gtr 3 (tm 19) (.const (.int .i64 60)) 3) 4) (tm 19) (.const (.int .i64 60)))]) (.cond (tm 20)
 (.seq (.region [
 o1 2 (.mov (.const (.bool true)))]) .ret)
 .skip))) (.region [
 o1 12 (.mov (tm 3)),
 o1 13 (.bin .add (so (.binOp .add 3 (tm 12) (.const (.int .i64 1)) 3) 3) (tm 12) (.const (.int .i64 1))),
 o1 3 (.mov (tm 13))])))
def zrQ_c : ACode :=
 (.seq (.region [
 o1 2 (.mov (.const (.bool false)))]) (.seq (.seq (.region [
 o1 3 (.mov k0)]) (.block 0 (.loop zrQ_l0))) (.seq (.region [
 o1 21 (.mov (tm 0)),
 o1 22 (.lenSl (tm 21)),
 o1 23 (.bin .gtr (so (.binOp .gtr 3 (tm 22) (.const (.int .i64 40)) 3) 4) (tm 22) (.const (.int .i64 40))),
 o1 2 (.mov (tm 23))]) .ret)))
def zrQ : AFunc := ⟨24, [(2, none)], zrQ_c, none⟩
theorem zrQ_t0 : tableOf Try.prog 23 = some zrQ := by kernel_rfl
theorem zrQ_t : T0 23 = some zrQ := withKept_t rfl (withTrue_t rfl zrQ_t0)
theorem zrQ_runs {v0 : Value} {h : Heap} {R : RP} {X : XP} (k : RunC Try.prog T0 zrQ_c ⟨[v0, U, U, U, U, U, U, U, U, U, U, U, U, U, U, U, U, U, U, U, U, U, U, U], [], h, none⟩ (bodyQ Try.prog T0 [(2, none)] R X)) :
 Runs Try.prog T0 (.fn 23) [v0] h R X := Runs.fn zrQ_t rfl k
abbrev zrQ_l0_M : List Nat := [0, 0, 1, 2, 1, 1, 1, 1, 1, 1, 1, 1, 1, 1, 1, 1, 1, 1, 1, 1, 1, 0, 0, 0]
abbrev fn_zkQ : FuncId := 24
def zkQ_c : ACode :=
 (.seq (.region [
 o1 2 (.mov (.const (.slice none 0 0)))]) (.seq (.region [
 o1 4 (.buildSlice 5 [] 0 []),
 o1 5 (.mov (tm 0)),
 o1 6 (.append 5 1 1 [(.int .u8 0)] false (tm 4) (tm 5)),
 o1 7 (.buildSlice 5 [(.int .u8 0), (.int .u8 0), (.int .u8 0), (.int .u8 0)] 4 [(0, 1, (.const (.int .u8 201))), (1, 1, (.const (.int .u8 202))), (2, 1, (.const (.int .u8 203))), (3, 1, (.const (.int .u8 204)))]),
 o1 8 (.append 5 1 1 [(.int .u8 0)] false (tm 6) (tm 7)),
 o1 3 (.mov (tm 8))]) (.seq (.region [
 o1 9 (.mov (tm 3)),
 o1 10 (.mov (tm 0)),
 o1 11 (.lenSl (tm 10)),
 o1 12 (.sliceSl 1 (tm 9) none (some (tm 11)) none),
 o1 2 (.mov (tm 12))]) .ret)))
def zkQ : AFunc := ⟨13, [(2, none)], zkQ_c, none⟩
theorem zkQ_t0 : tableOf Try.prog 24 = some zkQ := by kernel_rfl
theorem zkQ_t : T0 24 = some zkQ := withKept_t rfl (withTrue_t rfl zkQ_t0)
theorem zkQ_runs {v0 : Value} {h : Heap} {R : RP} {X : XP} (k : RunC Try.prog T0 zkQ_c ⟨[v0, U, U, U, U, U, U, U, U, U, U, U, U], [], h, none⟩ (bodyQ Try.prog T0 [(2, none)] R X)) :
 Runs Try.prog T0 (.fn 24) [v0] h R X := Runs.fn zkQ_t rfl k
abbrev fn_zjQ : FuncId := 25
def zjQ_c : ACode :=
 (.seq (.region [
 o1 4 (.mov (.const (.bool false)))]) (.seq (.region [
 o1 6 (.mov (tm 0)),
 o1 7 (.mov (tm 0)),
 o1 8 (.cap (tm 7)),
 o1 9 (.sliceSl 1 (tm 6) none (some (tm 8)) none),
 o1 5 (.mov (tm 9))]) (.seq (.regionD [
 o1 10 (.mov (tm 0)),
 o1 11 (.lenSl (tm 10)),
 o1 12 (.mov (tm 1)),
 o1 13 (.lenSl (tm 12)),
 o2 14 (.bin .eql (so (.binOp .eql 3 (tm 11) (tm 13) 3) 4) (tm 11) (tm 13)),
 o2 15 (.mov (tm 14)),
 o4 16 (.mov (tm 0)) 15,
 o4 17 (.bytesToStr (tm 16)) 15,
 o4 18 (.mov (tm 1)) 15,
 o4 19 (.bytesToStr (tm 18)) 15,
 ⟨some 20, .bin .eql (so (.binOp .eql 9 (tm 17) (tm 19) 9) 4) (tm 17) (tm 19), some (15, true), [], true⟩,
 o2 21 (.pick (tm 15) (tm 20) (.const (.bool false))),
 o2 22 (.mov (tm 21)),
 o4 23 (.mov (tm 5)) 22,
 o4 24 (.lenSl (tm 23)) 22,
 o4 25 (.mov (tm 1)) 22,
 o4 26 (.lenSl (tm 25)) 22,
 o4 27 (.bin .add (so (.binOp .add 3 (tm 26) (.const (.int .i64 4)) 3) 3) (tm 26) (.const (.int .i64 4))) 22,
 ⟨some 28, .bin .geq (so (.binOp .geq 3 (tm 24) (tm 27) 3) 4) (tm 24) (tm 27), some (22, true), [], true⟩,
 o2 29 (.pick (tm 22) (tm 28) (.const (.bool false))),
 o2 30 (.mov (tm 29)),
 o4 31 (.mov (tm 5)) 30,
 o4 32 (.mov (tm 1)) 30,
 o4 33 (.lenSl (tm 32)) 30,
 o4 34 (.mov (tm 1)) 30,
 o4 35 (.lenSl (tm 34)) 30,
 o4 36 (.bin .add (so (.binOp .add 3 (tm 35) (.const (.int .i64 4)) 3) 3) (tm 35) (.const (.int .i64 4))) 30,
 o4 37 (.sliceSl 1 (tm 31) (some (tm 33)) (some (tm 36)) none) 30,
 o4 38 (.bytesToStr (tm 37)) 30,
 ⟨some 39, .buildSlice 5 [(.int .u8 0), (.int .u8 0), (.int .u8 0), (.int .u8 0)] 4 [(0, 1, (.const (.int .u8 201))), (1, 1, (.const (.int .u8 202))), (2, 1, (.const (.int .u8 203))), (3, 1, (.const (.int .u8 204)))], some (30, true), [(some 38, .bytesToStr (tm 37), some (30, true)), (some 37, .sliceSl 1 (tm 31) (some (tm 33)) (some (tm 36)) none, some (30, true)), (some 36, .bin .add (so (.binOp .add 3 (tm 35) (.const (.int .i64 4)) 3) 3) (tm 35) (.const (.int .i64 4)), some (30, true)), (some 35, .lenSl (tm 34), some (30, true)), (some 34, .mov (tm 1), some (30, true)), (some 33, .lenSl (tm 32), some (30, true)), (some 32, .mov (tm 1), some (30, true)), (some 31, .mov (tm 5), some (30, true))], false⟩,
 o4 40 (.bytesToStr (tm 39)) 30,
 ⟨some 41, .bin .eql (so (.binOp .eql 9 (tm 38) (tm 40) 9) 4) (tm 38) (tm 40), some (30, true), [], true⟩,
 o2 42 (.pick (tm 30) (tm 41) (.const (.bool false))),
 o2 4 (.mov (tm 42))]) .ret)))
def zjQ : AFunc := ⟨43, [(4, none)], zjQ_c, none⟩
theorem zjQ_t0 : tableOf Try.prog 25 = some zjQ := by kernel_rfl
theorem zjQ_kept {h : Heap} {args : List Value} (hp : KeptPre args h) : Runs Try.prog T0 (.fn 25) args h (fun r h' => r = .bool true ∧ h' = h) (fun _ _ => False) := kept_runs rfl hp
theorem zjQ_runs {v0 v1 : Value} {h : Heap} {R : RP} {X : XP} (k : RunC Try.prog (tableOf Try.prog) zjQ_c ⟨[v0, v1, U, U, U, U, U, U, U, U, U, U, U, U, U, U, U, U, U, U, U, U, U, U, U, U, U, U, U, U, U, U, U, U, U, U, U, U, U, U, U, U, U], [], h, none⟩ (bodyQ Try.prog (tableOf Try.prog) [(4, none)] R X)) :
 Runs Try.prog (tableOf Try.prog) (.fn 25) [v0, v1] h R X := Runs.fn zjQ_t0 rfl k
abbrev fn_zlQ : FuncId := 26
def zlQ_l0 : ACode :=
 (.seq (.seq (.region [
 o1 3 (.mov (tm 2)),
 o1 4 (.mov (tm 0)),
 o1 5 (.lenSl (tm 4)),
 o1 6 (.bin .lss (so (.binOp .lss 3 (tm 3) (tm 5) 3) 4) (tm 3) (tm 5))]) (.cond (tm 6)
 .skip
 (.exit 0))) (.seq (.block 1 (.region [
 o1 9 (.mov (tm 0)),
 o1 10 (.mov (tm 2)),
 o1 11 (.mov (tm 0)),
 o1 12 (.mov (tm 2)),
 o1 13 (.indexSl 1 (tm 11) (tm 12)),
 o1 14 (.load none (tm 13)),
 o1 15 (.bin .xor (so (.binOp .xor 5 (tm 14) (.const (.int .u8 165)) 5) 5) (tm 14) (.const (.int .u8 165))),
 o1 16 (.indexSl 1 (tm 9) (tm 10)),
 o3 (.store 1 (tm 16) (tm 15))])) (.region [
 o1 7 (.mov (tm 2)),
 o1 8 (.bin .add (so (.binOp .add 3 (tm 7) (.const (.int .i64 1)) 3) 3) (tm 7) (.const (.int .i64 1))),
 o1 2 (.mov (tm 8))])))
def zlQ_c : ACode :=
 (.seq (.region [
 o1 2 (.mov k0)]) (.block 0 (.loop zlQ_l0)))
def zlQ : AFunc := ⟨17, [], zlQ_c, none⟩
theorem zlQ_t0 : tableOf Try.prog 26 = some zlQ := by kernel_rfl
theorem zlQ_t : T0 26 = some zlQ := withKept_t rfl (withTrue_t rfl zlQ_t0)
theorem zlQ_runs {v0 : Value} {h : Heap} {R : RP} {X : XP} (k : RunC Try.prog T0 zlQ_c ⟨[v0, U, U, U, U, U, U, U, U, U, U, U, U, U, U, U, U], [], h, none⟩ (bodyQ Try.prog T0 [] R X)) :
 Runs Try.prog T0 (.fn 26) [v0] h R X := Runs.fn zlQ_t rfl k
abbrev zlQ_l0_M : List Nat := [0, 0, 2, 1, 1, 1, 1, 1, 1, 1, 1, 1, 1, 1, 1, 1, 1]
abbrev fn_zdbQ : FuncId := 27
def zdbQ_l0 : ACode :=
 (.seq (.seq (.region [
 o1 8 (.mov (tm 0)),
 o1 9 (.nilCheck (tm 8)),
 o1 10 (.fieldAddr 3 (tm 9)),
 o1 11 (.load none (tm 10)),
 o1 12 (.lenSl (tm 11)),
 o1 13 (.bin .gtr (so (.binOp .gtr 3 (tm 12) k0 3) 4) (tm 12) k0),
 o1 14 (.mov (tm 13)),
 o4 15 (.mov (tm 0)) 14,
 o4 16 (.nilCheck (tm 15)) 14,
 o4 17 (.fieldAddr 3 (tm 16)) 14,
 o4 18 (.load none (tm 17)) 14,
 o4 19 (.indexSl 1 (tm 18) k0) 14,
 o4 20 (.load none (tm 19)) 14,
 o4 21 (.nilCheck (tm 20)) 14,
 o4 22 (.fieldAddr 3 (tm 21)) 14,
 o4 23 (.load none (tm 22)) 14,
 o4 24 (.mov (tm 1)) 14,
 o4 25 (.bin .leq (so (.binOp .leq 3 (tm 23) (tm 24) 3) 4) (tm 23) (tm 24)) 14,
 o1 26 (.pick (tm 14) (tm 25) (.const (.bool false)))]) (.cond (tm 26)
 .skip
 (.exit 0))) (.block 1 (.seq (.region [
 o1 27 (.mov (tm 0)),
 o1 28 (.nilCheck (tm 27)),
 o1 29 (.fieldAddr 3 (tm 28)),
 o1 30 (.load none (tm 29)),
 o1 31 (.indexSl 1 (tm 30) k0),
 o1 32 (.load none (tm 31)),
 o1 5 (.mov (tm 32))]) (.seq (.region [
 o1 33 (.mov (tm 0)),
 o1 34 (.mov (tm 5)),
 o1 35 (.callV (.func 39) [(tm 33), (tm 34)])]) (.region [
 o1 36 (.mov (tm 4)),
 o1 37 (.mov (tm 5)),
 o1 38 (.nilCheck (tm 37)),
 o1 39 (.load (some 5) (tm 38)),
 o1 40 (.buildSlice 58 [(.int .i64 0), (.int .i64 0), (.int .i64 0), (.int .i64 0), (.slice none 0 0)] 1 [(0, 5, (tm 39))]),
 o1 41 (.append 58 5 56 [(.int .i64 0), (.int .i64 0), (.int .i64 0), (.int .i64 0), (.slice none 0 0)] false (tm 36) (tm 40)),
 o1 4 (.mov (tm 41))])))))
def zdbQ_c : ACode :=
 (.seq (.region [
 o1 4 (.mov (.const (.slice none 0 0)))]) (.seq (.seq (.region [
 o1 6 (.mov (tm 0)),
 o1 7 (.callV (.func 43) [(tm 6)])]) (.cond (tm 7)
 (.seq (.region [
 o1 4 (.mov (.const (.slice none 0 0)))]) .ret)
 .skip)) (.seq (.block 0 (.loop zdbQ_l0)) (.seq (.region [
 o1 42 (.mov (tm 4)),
 o1 4 (.mov (tm 42))]) .ret))))
def zdbQ : AFunc := ⟨43, [(4, none)], zdbQ_c, none⟩
theorem zdbQ_t0 : tableOf Try.prog 27 = some zdbQ := by kernel_rfl
theorem zdbQ_t : T0 27 = some zdbQ := withKept_t rfl (withTrue_t rfl zdbQ_t0)
theorem zdbQ_runs {v0 v1 : Value} {h : Heap} {R : RP} {X : XP} (k : RunC Try.prog T0 zdbQ_c ⟨[v0, v1, U, U, U, U, U, U, U, U, U, U, U, U, U, U, U, U, U, U, U, U, U, U, U, U, U, U, U, U, U, U, U, U, U, U, U, U, U, U, U, U, U], [], h, none⟩ (bodyQ Try.prog T0 [(4, none)] R X)) :
 Runs Try.prog T0 (.fn 27) [v0, v1] h R X := Runs.fn zdbQ_t rfl k
abbrev zdbQ_l0_M : List Nat := [0, 0, 0, 0, 2, 1, 0, 0, 1, 1, 1, 1, 1, 1, 1, 1, 1, 1, 1, 1, 1, 1, 1, 1, 1, 1, 1, 1, 1, 1, 1, 1, 1, 1, 1, 1, 1, 1, 1, 1, 1, 1, 0]
abbrev fn_zsQ : FuncId := 28
def zsQ_l0 : ACode :=
 (.seq (.seq (.region [
 o1 6 (.mov (tm 0)),
 o1 7 (.nilCheck (tm 6)),
 o1 8 (.fieldAddr 3 (tm 7)),
 o1 9 (.load none (tm 8)),
 o1 10 (.lenSl (tm 9)),
 o1 11 (.bin .gtr (so (.binOp .gtr 3 (tm 10) k0 3) 4) (tm 10) k0),
 o1 12 (.mov (tm 11)),
 o4 13 (.mov (tm 0)) 12,
 o4 14 (.nilCheck (tm 13)) 12,
 o4 15 (.fieldAddr 3 (tm 14)) 12,
 o4 16 (.load none (tm 15)) 12,
 o4 17 (.indexSl 5 (tm 16) k0) 12,
 o4 18 (.fieldAddr 3 (tm 17)) 12,
 o4 19 (.load none (tm 18)) 12,
 o4 20 (.mov (tm 1)) 12,
 o4 21 (.bin .leq (so (.binOp .leq 3 (tm 19) (tm 20) 3) 4) (tm 19) (tm 20)) 12,
 o1 22 (.pick (tm 12) (tm 21) (.const (.bool false)))]) (.cond (tm 22)
 .skip
 (.exit 0))) (.block 1 (.region [
 o1 23 (.mov (tm 5)),
 o1 24 (.mov (tm 0)),
 o1 25 (.callV (.func 53) [(tm 24), k0]),
 o1 26 (.buildSlice 58 [(.int .i64 0), (.int .i64 0), (.int .i64 0), (.int .i64 0), (.slice none 0 0)] 1 [(0, 5, (tm 25))]),
 o1 27 (.append 58 5 56 [(.int .i64 0), (.int .i64 0), (.int .i64 0), (.int .i64 0), (.slice none 0 0)] false (tm 23) (tm 26)),
 o1 5 (.mov (tm 27))])))
def zsQ_c : ACode :=
 (.seq (.region [
 o1 4 (.mov (.const (.slice none 0 0)))]) (.seq (.region [
 o1 5 (.mov (.const (.slice none 0 0)))]) (.seq (.block 0 (.loop zsQ_l0)) (.seq (.region [
 o1 28 (.mov (tm 5)),
 o1 4 (.mov (tm 28))]) .ret))))
def zsQ : AFunc := ⟨29, [(4, none)], zsQ_c, none⟩
theorem zsQ_t0 : tableOf Try.prog 28 = some zsQ := by kernel_rfl
theorem zsQ_t : T0 28 = some zsQ := withKept_t rfl (withTrue_t rfl zsQ_t0)
theorem zsQ_runs {v0 v1 : Value} {h : Heap} {R : RP} {X : XP} (k : RunC Try.prog T0 zsQ_c ⟨[v0, v1, U, U, U, U, U, U, U, U, U, U, U, U, U, U, U, U, U, U, U, U, U, U, U, U, U, U, U], [], h, none⟩ (bodyQ Try.prog T0 [(4, none)] R X)) :
 Runs Try.prog T0 (.fn 28) [v0, v1] h R X := Runs.fn zsQ_t rfl k
abbrev zsQ_l0_M : List Nat := [0, 0, 0, 0, 0, 2, 1, 1, 1, 1, 1, 1, 1, 1, 1, 1, 1, 1, 1, 1, 1, 1, 1, 1, 1, 1, 1, 1, 0]
abbrev fn_zmQ : FuncId := 29
def zmQ_l0 : ACode :=
 (.seq (.seq (.region [
 o1 3 (.mov (tm 2)),
 o1 4 (.mov (tm 0)),
 o1 5 (.lenSl (tm 4)),
 o1 6 (.bin .lss (so (.binOp .lss 3 (tm 3) (tm 5) 3) 4) (tm 3) (tm 5))]) (.cond (tm 6)
 .skip
 (.exit 0))) (.seq (.block 1 (.seq (.region [
 o1 9 (.mov (tm 0)),
 o1 10 (.mov (tm 2)),
 o1 11 (.indexSl 5 (tm 9) (tm 10)),
 o1 12 (.fieldAddr 4 (tm 11)),
 o1 13 (.load none (tm 12)),
 o1 14 (.callV (.func 26) [(tm 13)])]) (.region [
 o1 15 (.mov (tm 0)),
 o1 16 (.mov (tm 2)),
 o1 17 (.build [(.int .i64 0), (.int .i64 0), (.int .i64 0), (.int .i64 0), (.slice none 0 0)] [(0, 1, (.const (.int .i64 (-77))))]),
 o1 18 (.indexSl 5 (tm 15) (tm 16)),
 o3 (.store 5 (tm 18) (tm 17))]))) (.region [
 o1 7 (.mov (tm 2)),
 o1 8 (.bin .add (so (.binOp .add 3 (tm 7) (.const (.int .i64 1)) 3) 3) (tm 7) (.const (.int .i64 1))),
 o1 2 (.mov (tm 8))])))
def zmQ_c : ACode :=
 (.seq (.region [
 o1 2 (.mov k0)]) (.block 0 (.loop zmQ_l0)))
def zmQ : AFunc := ⟨19, [], zmQ_c, none⟩
theorem zmQ_t0 : tableOf Try.prog 29 = some zmQ := by kernel_rfl
theorem zmQ_t : T0 29 = some zmQ := withKept_t rfl (withTrue_t rfl zmQ_t0)
theorem zmQ_runs {v0 : Value} {h : Heap} {R : RP} {X : XP} (k : RunC Try.prog T0 zmQ_c ⟨[v0, U, U, U, U, U, U, U, U, U, U, U, U, U, U, U, U, U, U], [], h, none⟩ (bodyQ Try.prog T0 [] R X)) :
 Runs Try.prog T0 (.fn 29) [v0] h R X := Runs.fn zmQ_t rfl k
abbrev zmQ_l0_M : List Nat := [0, 0, 2, 1, 1, 1, 1, 1, 1, 1, 1, 1, 1, 1, 1, 1, 1, 1, 1]
abbrev fn_zuQ : FuncId := 30
def zuQ_c : ACode :=
 (.seq (.region [
 o1 4 (.mov k0)]) (.seq (.region [
 o1 6 (.mov (tm 0)),
 o1 7 (.mov (tm 1)),
 o1 8 (.callV (.func 54) [(tm 6), (tm 7)]),
 o1 5 (.mov (tm 8))]) (.seq (.seq (.region [
 o1 9 (.mov (tm 5)),
 o1 10 (.bin .lss (so (.binOp .lss 3 (tm 9) k0 3) 4) (tm 9) k0)]) (.cond (tm 10)
 (.seq (.region [
 o1 4 (.mov (.const (.int .i64 10)))]) .ret)
 .skip)) (.seq (.region [
 o1 11 (.mov (tm 0)),
 o1 12 (.mov (tm 5)),
 o1 13 (.callV (.func 53) [(tm 11), (tm 12)])]) (.seq (.region [
 o1 14 (.mov (tm 0)),
 o1 15 (.nilCheck (tm 14)),
 o1 16 (.fieldAddr 2 (tm 15)),
 o1 17 (.load none (tm 16)),
 o1 18 (.bin .add (so (.binOp .add 3 (tm 17) (.const (.int .i64 1)) 3) 3) (tm 17) (.const (.int .i64 1))),
 o1 19 (.nilCheck (tm 14)),
 o1 20 (.fieldAddr 2 (tm 19)),
 o3 (.store 1 (tm 20) (tm 18))]) (.seq (.region [
 o1 4 (.mov k0)]) .ret))))))
def zuQ : AFunc := ⟨21, [(4, none)], zuQ_c, none⟩
theorem zuQ_t0 : tableOf Try.prog 30 = some zuQ := by kernel_rfl
theorem zuQ_t : T0 30 = some zuQ := withKept_t rfl (withTrue_t rfl zuQ_t0)
theorem zuQ_runs {v0 v1 : Value} {h : Heap} {R : RP} {X : XP} (k : RunC Try.prog T0 zuQ_c ⟨[v0, v1, U, U, U, U, U, U, U, U, U, U, U, U, U, U, U, U, U, U, U], [], h, none⟩ (bodyQ Try.prog T0 [(4, none)] R X)) :
 Runs Try.prog T0 (.fn 30) [v0, v1] h R X := Runs.fn zuQ_t rfl k
abbrev fn_zebQ : FuncId := 31
def zebQ_c : ACode :=
 (.seq (.region [
 o1 3 (.box 22 (tm 0)),
 o1 5 (.box 3 (tm 2)),
 o1 6 (.mov k0)]) (.seq (.region [
 o1 7 (.load none (tm 3)),
 o1 8 (.mov (tm 1)),
 o1 9 (.mkFunc (.func 55) [] [(tm 5), (tm 3)]),
 o1 10 (.callV (.func 38) [(tm 7), (tm 8), (tm 9)]),
 o1 6 (.mov (tm 10))]) .ret))
def zebQ : AFunc := ⟨11, [(6, none)], zebQ_c, none⟩
theorem zebQ_t0 : tableOf Try.prog 31 = some zebQ := by kernel_rfl
theorem zebQ_t : T0 31 = some zebQ := withKept_t rfl (withTrue_t rfl zebQ_t0)
theorem zebQ_runs {v0 v1 v2 : Value} {h : Heap} {R : RP} {X : XP} (k : RunC Try.prog T0 zebQ_c ⟨[v0, v1, v2, U, U, U, U, U, U, U, U], [], h, none⟩ (bodyQ Try.prog T0 [(6, none)] R X)) :
 Runs Try.prog T0 (.fn 31) [v0, v1, v2] h R X := Runs.fn zebQ_t rfl k
abbrev fn_ztQ : FuncId := 32
def ztQ_c : ACode :=
 (.seq (.region [
 o1 6 (.mov k0)]) (.seq (.region [
 o1 9 (.mov (tm 0)),
 o1 10 (.mov (tm 1)),
 o1 11 (.callV (.func 54) [(tm 9), (tm 10)]),
 o1 7 (.mov (tm 11))]) (.seq (.block 0 (.seq (.region [
 o1 13 (.mov (tm 7)),
 o1 14 (.bin .lss (so (.binOp .lss 3 (tm 13) k0 3) 4) (tm 13) k0),
 o1 12 (.mov (tm 14))]) (.cond (tm 12)
 (.seq (.region [
 o1 6 (.mov (.const (.int .i64 10)))]) .ret)
 (.seq (.region [
 o1 16 (.mov (tm 2)),
 o1 17 (.callV (.func 45) [(tm 16)]),
 o1 18 (.raw (so (.unOp .not 4 (tm 17)) 4)),
 o1 15 (.mov (tm 18))]) (.cond (tm 15)
 (.seq (.region [
 o1 6 (.mov (.const (.int .i64 3)))]) .ret)
 .skip))))) (.seq (.region [
 o1 19 (.mov (tm 0)),
 o1 20 (.mov (tm 7)),
 o1 21 (.callV (.func 53) [(tm 19), (tm 20)]),
 o1 8 (.alloc 58 [(.int .i64 0), (.int .i64 0), (.int .i64 0), (.int .i64 0), (.slice none 0 0)]),
 o3 (.store 5 (tm 8) (tm 21))]) (.seq (.region [
 o1 22 (.mov (tm 2)),
 o1 23 (.fieldAddr 3 (tm 8)),
 o3 (.store 1 (tm 23) (tm 22))]) (.seq (.region [
 o1 24 (.mov (tm 0)),
 o1 25 (.load (some 5) (tm 8)),
 o1 26 (.callV (.func 46) [(tm 24), (tm 25)])]) (.seq (.region [
 o1 6 (.mov k0)]) .ret)))))))
def ztQ : AFunc := ⟨27, [(6, none)], ztQ_c, none⟩
theorem ztQ_t0 : tableOf Try.prog 32 = some ztQ := by kernel_rfl
theorem ztQ_t : T0 32 = some ztQ := withKept_t rfl (withTrue_t rfl ztQ_t0)
theorem ztQ_runs {v0 v1 v2 : Value} {h : Heap} {R : RP} {X : XP} (k : RunC Try.prog T0 ztQ_c ⟨[v0, v1, v2, U, U, U, U, U, U, U, U, U, U, U, U, U, U, U, U, U, U, U, U, U, U, U, U], [], h, none⟩ (bodyQ Try.prog T0 [(6, none)] R X)) :
 Runs Try.prog T0 (.fn 32) [v0, v1, v2] h R X := Runs.fn ztQ_t rfl k
abbrev fn_zlbQ : FuncId := 33
def zlbQ_c : ACode :=
 (.seq (.region [
 o1 3 (.box 22 (tm 0)),
 o1 5 (.box 3 (tm 2)),
 o1 6 (.mov k0)]) (.seq (.region [
 o1 7 (.load none (tm 3)),
 o1 8 (.mov (tm 1)),
 o1 9 (.mkFunc (.func 57) [] [(tm 3), (tm 5)]),
 o1 10 (.callV (.func 38) [(tm 7), (tm 8), (tm 9)]),
 o1 6 (.mov (tm 10))]) .ret))
def zlbQ : AFunc := ⟨11, [(6, none)], zlbQ_c, none⟩
theorem zlbQ_t0 : tableOf Try.prog 33 = some zlbQ := by kernel_rfl
theorem zlbQ_t : T0 33 = some zlbQ := withKept_t rfl (withTrue_t rfl zlbQ_t0)
theorem zlbQ_runs {v0 v1 v2 : Value} {h : Heap} {R : RP} {X : XP} (k : RunC Try.prog T0 zlbQ_c ⟨[v0, v1, v2, U, U, U, U, U, U, U, U], [], h, none⟩ (bodyQ Try.prog T0 [(6, none)] R X)) :
 Runs Try.prog T0 (.fn 33) [v0, v1, v2] h R X := Runs.fn zlbQ_t rfl k
abbrev fn_zwQ : FuncId := 34
def zwQ_c : ACode :=
 (.seq (.region [
 o1 6 (.mov k0)]) (.seq (.region [
 o1 11 (.mov (tm 0)),
 o1 12 (.mov (tm 1)),
 o1 13 (.callV (.func 54) [(tm 11), (tm 12)]),
 o1 14 (.mov (tm 0)),
 o1 15 (.mov (tm 2)),
 o1 16 (.callV (.func 54) [(tm 14), (tm 15)]),
 o1 7 (.mov (tm 13)),
 o1 8 (.mov (tm 16))]) (.seq (.seq (.region [
 o1 17 (.mov (tm 7)),
 o1 18 (.bin .lss (so (.binOp .lss 3 (tm 17) k0 3) 4) (tm 17) k0),
 o1 19 (.mov (tm 18)),
 o5 20 (.mov (tm 8)) 19,
 o5 21 (.bin .lss (so (.binOp .lss 3 (tm 20) k0 3) 4) (tm 20) k0) 19,
 o1 22 (.pick (tm 19) (.const (.bool true)) (tm 21))]) (.cond (tm 22)
 (.seq (.region [
 o1 6 (.mov (.const (.int .i64 10)))]) .ret)
 .skip)) (.seq (.regionD [
 o1 23 (.mov (tm 0)),
 o1 24 (.nilCheck (tm 23)),
 o1 25 (.fieldAddr 3 (tm 24)),
 o1 26 (.load none (tm 25)),
 o1 27 (.mov (tm 7)),
 o1 28 (.indexSl 5 (tm 26) (tm 27)),
 o1 29 (.fieldAddr 3 (tm 28)),
 o1 30 (.load none (tm 29)),
 o1 31 (.mov (tm 0)),
 o1 32 (.nilCheck (tm 31)),
 o1 33 (.fieldAddr 3 (tm 32)),
 o1 34 (.load none (tm 33)),
 o1 35 (.mov (tm 8)),
 o1 36 (.indexSl 5 (tm 34) (tm 35)),
 o1 37 (.fieldAddr 3 (tm 36)),
 o1 38 (.load none (tm 37)),
 o1 9 (.mov (tm 30)),
 o2 10 (.mov (tm 38))]) (.seq (.region [
 o1 39 (.mov (tm 0)),
 o1 40 (.mov (tm 1)),
 o1 41 (.mov (tm 10)),
 o1 42 (.callV (.func 32) [(tm 39), (tm 40), (tm 41)])]) (.seq (.region [
 o1 43 (.mov (tm 0)),
 o1 44 (.mov (tm 2)),
 o1 45 (.mov (tm 9)),
 o1 46 (.callV (.func 32) [(tm 43), (tm 44), (tm 45)])]) (.seq (.region [
 o1 6 (.mov k0)]) .ret)))))))
def zwQ : AFunc := ⟨47, [(6, none)], zwQ_c, none⟩
theorem zwQ_t0 : tableOf Try.prog 34 = some zwQ := by kernel_rfl
theorem zwQ_t : T0 34 = some zwQ := withKept_t rfl (withTrue_t rfl zwQ_t0)
theorem zwQ_runs {v0 v1 v2 : Value} {h : Heap} {R : RP} {X : XP} (k : RunC Try.prog T0 zwQ_c ⟨[v0, v1, v2, U, U, U, U, U, U, U, U, U, U, U, U, U, U, U, U, U, U, U, U, U, U, U, U, U, U, U, U, U, U, U, U, U, U, U, U, U, U, U, U, U, U, U, U], [], h, none⟩ (bodyQ Try.prog T0 [(6, none)] R X)) :
 Runs Try.prog T0 (.fn 34) [v0, v1, v2] h R X := Runs.fn zwQ_t rfl k
abbrev fn_zxQ : FuncId := 35
def zxQ_c : ACode :=
 (.seq (.region [
 o1 6 (.mov k0),
 o1 7 (.mov k0)]) (.seq (.region [
 o1 9 (.mov (tm 0)),
 o1 10 (.mov (tm 1)),
 o1 11 (.callV (.func 54) [(tm 9), (tm 10)]),
 o1 8 (.mov (tm 11))]) (.seq (.seq (.region [
 o1 12 (.mov (tm 8)),
 o1 13 (.bin .lss (so (.binOp .lss 3 (tm 12) k0 3) 4) (tm 12) k0)]) (.cond (tm 13)
 (.seq (.region [
 o1 6 (.mov k0),
 o1 7 (.mov (.const (.int .i64 10)))]) .ret)
 .skip)) (.seq (.regionD [
 o1 14 (.mov (tm 0)),
 o1 15 (.mov (tm 0)),
 o1 16 (.nilCheck (tm 15)),
 o1 17 (.fieldAddr 3 (tm 16)),
 o1 18 (.load none (tm 17)),
 o1 19 (.mov (tm 8)),
 o1 20 (.indexSl 5 (tm 18) (tm 19)),
 o1 21 (.fieldAddr 1 (tm 20)),
 o1 22 (.load none (tm 21)),
 o1 23 (.mov (tm 0)),
 o1 24 (.nilCheck (tm 23)),
 o1 25 (.fieldAddr 3 (tm 24)),
 o1 26 (.load none (tm 25)),
 o1 27 (.mov (tm 8)),
 o1 28 (.indexSl 5 (tm 26) (tm 27)),
 o1 29 (.fieldAddr 2 (tm 28)),
 o1 30 (.load none (tm 29)),
 o1 31 (.mov (tm 2)),
 o1 32 (.mov (tm 0)),
 o1 33 (.nilCheck (tm 32)),
 o1 34 (.fieldAddr 3 (tm 33)),
 o1 35 (.load none (tm 34)),
 o1 36 (.mov (tm 8)),
 o1 37 (.indexSl 5 (tm 35) (tm 36)),
 o1 38 (.fieldAddr 4 (tm 37)),
 o1 39 (.load none (tm 38)),
 o2 40 (.callV (.func 20) [(tm 14), (tm 22), (tm 30), (tm 31), (tm 39)]),
 o1 41 (.extract 0 (tm 40)),
 o1 42 (.extract 1 (tm 40)),
 o2 6 (.mov (tm 41)),
 o2 7 (.mov (tm 42))]) .ret))))
def zxQ : AFunc := ⟨43, [(6, none), (7, none)], zxQ_c, none⟩
theorem zxQ_t0 : tableOf Try.prog 35 = some zxQ := by kernel_rfl
theorem zxQ_t : T0 35 = some zxQ := withKept_t rfl (withTrue_t rfl zxQ_t0)
theorem zxQ_runs {v0 v1 v2 : Value} {h : Heap} {R : RP} {X : XP} (k : RunC Try.prog T0 zxQ_c ⟨[v0, v1, v2, U, U, U, U, U, U, U, U, U, U, U, U, U, U, U, U, U, U, U, U, U, U, U, U, U, U, U, U, U, U, U, U, U, U, U, U, U, U, U, U], [], h, none⟩ (bodyQ Try.prog T0 [(6, none), (7, none)] R X)) :
 Runs Try.prog T0 (.fn 35) [v0, v1, v2] h R X := Runs.fn zxQ_t rfl k
abbrev fn_zibQ : FuncId := 36
def zibQ_c : ACode :=
 (.seq (.region [
 o1 2 (.mov k0)]) (.seq (.seq (.region [
 o1 3 (.mov (tm 0)),
 o1 4 (.callV (.func 43) [(tm 3)])]) (.cond (tm 4)
 (.seq (.region [
 o1 2 (.mov k0)]) .ret)
 .skip)) (.seq (.region [
 o1 5 (.mov (tm 0)),
 o1 6 (.nilCheck (tm 5)),
 o1 7 (.fieldAddr 2 (tm 6)),
 o1 8 (.load none (tm 7)),
 o1 2 (.mov (tm 8))]) .ret)))
def zibQ : AFunc := ⟨9, [(2, none)], zibQ_c, none⟩
theorem zibQ_t0 : tableOf Try.prog 36 = some zibQ := by kernel_rfl
theorem zibQ_t : T0 36 = some zibQ := withKept_t rfl (withTrue_t rfl zibQ_t0)
theorem zibQ_runs {v0 : Value} {h : Heap} {R : RP} {X : XP} (k : RunC Try.prog T0 zibQ_c ⟨[v0, U, U, U, U, U, U, U, U], [], h, none⟩ (bodyQ Try.prog T0 [(2, none)] R X)) :
 Runs Try.prog T0 (.fn 36) [v0] h R X := Runs.fn zibQ_t rfl k
abbrev fn_zubQ : FuncId := 38
def zubQ_c : ACode :=
 (.seq (.region [
 o1 6 (.mov k0)]) (.seq (.seq (.region [
 o1 9 (.mov (tm 0)),
 o1 10 (.callV (.func 43) [(tm 9)])]) (.cond (tm 10)
 (.seq (.region [
 o1 6 (.mov (.const (.int .i64 1)))]) .ret)
 .skip)) (.seq (.region [
 o1 12 (.mov (tm 0)),
 o1 13 (.nilCheck (tm 12)),
 o1 14 (.fieldAddr 4 (tm 13)),
 o1 15 (.load none (tm 14)),
 o1 16 (.mov (tm 1)),
 o1 17 (.lookup (.int .i64) (.pointer none) true (tm 15) (tm 16)),
 o1 11 (.mov (tm 17)),
 o1 18 (.extract 0 (tm 11)),
 o1 19 (.extract 1 (tm 11)),
 o1 7 (.mov (tm 18)),
 o1 8 (.mov (tm 19))]) (.seq (.seq (.region [
 o1 20 (.mov (tm 8)),
 o1 21 (.raw (so (.unOp .not 4 (tm 20)) 4))]) (.cond (tm 21)
 (.seq (.region [
 o1 6 (.mov (.const (.int .i64 10)))]) .ret)
 .skip)) (.seq (.region [
 o1 22 (.mov (tm 2)),
 o1 23 (.mov (tm 7)),
 o1 24 (.callV (tm 22) [(tm 23)]),
 o1 6 (.mov (tm 24))]) .ret)))))
def zubQ : AFunc := ⟨25, [(6, none)], zubQ_c, none⟩
theorem zubQ_t0 : tableOf Try.prog 38 = some zubQ := by kernel_rfl
theorem zubQ_t : T0 38 = some zubQ := withKept_t rfl (withTrue_t rfl zubQ_t0)
theorem zubQ_runs {v0 v1 v2 : Value} {h : Heap} {R : RP} {X : XP} (k : RunC Try.prog T0 zubQ_c ⟨[v0, v1, v2, U, U, U, U, U, U, U, U, U, U, U, U, U, U, U, U, U, U, U, U, U, U], [], h, none⟩ (bodyQ Try.prog T0 [(6, none)] R X)) :
 Runs Try.prog T0 (.fn 38) [v0, v1, v2] h R X := Runs.fn zubQ_t rfl k
abbrev fn_zqbQ : FuncId := 39
def zqbQ_c : ACode :=
 (.seq (.region [
 o1 4 (.mov k0)]) (.seq (.regionD [
 o1 5 (.mov (tm 0)),
 o1 6 (.nilCheck (tm 5)),
 o1 7 (.fieldAddr 4 (tm 6)),
 o1 8 (.load none (tm 7)),
 o1 9 (.mov (tm 1)),
 o1 10 (.nilCheck (tm 9)),
 o1 11 (.fieldAddr 0 (tm 10)),
 o1 12 (.load none (tm 11)),
 ⟨none, .delete (.int .i64) (tm 8) (tm 12), none, [], true⟩]) (.seq (.regionD [
 o1 13 (.mov (tm 0)),
 o1 14 (.nilCheck (tm 13)),
 o1 15 (.fieldAddr 3 (tm 14)),
 o1 16 (.mkIface 87 (tm 15)),
 o1 17 (.mov (tm 0)),
 o1 18 (.nilCheck (tm 17)),
 o1 19 (.fieldAddr 3 (tm 18)),
 o1 20 (.load none (tm 19)),
 o1 21 (.mov (tm 1)),
 ⟨some 22, .callV (.func 60) [(tm 20), (tm 21)], none, [(some 16, .mkIface 87 (tm 15), none), (some 15, .fieldAddr 3 (tm 14), none), (some 14, .nilCheck (tm 13), none), (some 13, .mov (tm 0), none)], false⟩,
 o2 23 (.callV (.func 59) [(tm 16), (tm 22)])]) (.seq (.region [
 o1 4 (.mov k0)]) .ret))))
def zqbQ : AFunc := ⟨24, [(4, none)], zqbQ_c, none⟩
theorem zqbQ_t0 : tableOf Try.prog 39 = some zqbQ := by kernel_rfl
theorem zqbQ_t : T0 39 = some zqbQ := withKept_t rfl (withTrue_t rfl zqbQ_t0)
theorem zqbQ_runs {v0 v1 : Value} {h : Heap} {R : RP} {X : XP} (k : RunC Try.prog T0 zqbQ_c ⟨[v0, v1, U, U, U, U, U, U, U, U, U, U, U, U, U, U, U, U, U, U, U, U, U, U], [], h, none⟩ (bodyQ Try.prog T0 [(4, none)] R X)) :
 Runs Try.prog T0 (.fn 39) [v0, v1] h R X := Runs.fn zqbQ_t rfl k
abbrev fn_zpbQ : FuncId := 40
def zpbQ_c : ACode :=
 (.seq (.region [
 o1 5 (.mov k0)]) (.seq (.block 0 (.seq (.region [
 o1 8 (.load none (tm 1)),
 o1 9 (.callV (.func 41) [(tm 8)]),
 o1 10 (.raw (so (.unOp .not 4 (tm 9)) 4)),
 o1 7 (.mov (tm 10))]) (.cond (tm 7)
 (.seq (.region [
 o1 5 (.mov (.const (.int .i64 3)))]) .ret)
 (.seq (.regionD [
 o1 12 (.load none (tm 2)),
 o1 13 (.nilCheck (tm 12)),
 o1 14 (.fieldAddr 3 (tm 13)),
 o1 15 (.load none (tm 14)),
 o1 16 (.lenSl (tm 15)),
 o1 17 (.load none (tm 2)),
 o1 18 (.nilCheck (tm 17)),
 o1 19 (.fieldAddr 0 (tm 18)),
 o1 20 (.load none (tm 19)),
 o2 21 (.bin .geq (so (.binOp .geq 3 (tm 16) (tm 20) 3) 4) (tm 16) (tm 20)),
 o2 11 (.mov (tm 21))]) (.cond (tm 11)
 (.seq (.region [
 o1 5 (.mov (.const (.int .i64 7)))]) .ret)
 .skip))))) (.seq (.region [
 o1 22 (.mov (tm 0)),
 o1 23 (.nilCheck (tm 22)),
 o1 24 (.load (some 5) (tm 23)),
 o1 6 (.alloc 58 [(.int .i64 0), (.int .i64 0), (.int .i64 0), (.int .i64 0), (.slice none 0 0)]),
 o3 (.store 5 (tm 6) (tm 24))]) (.seq (.region [
 o1 25 (.load none (tm 1)),
 o1 26 (.fieldAddr 3 (tm 6)),
 o3 (.store 1 (tm 26) (tm 25))]) (.seq (.region [
 o1 27 (.load none (tm 2)),
 o1 28 (.load (some 5) (tm 6)),
 o1 29 (.callV (.func 42) [(tm 27), (tm 28)]),
 o3 (.store 1 (tm 3) (tm 29))]) (.seq (.region [
 o1 5 (.mov k0)]) .ret))))))
def zpbQ : AFunc := ⟨30, [(5, none)], zpbQ_c, none⟩
theorem zpbQ_t0 : tableOf Try.prog 40 = some zpbQ := by kernel_rfl
theorem zpbQ_t : T0 40 = some zpbQ := withKept_t rfl (withTrue_t rfl zpbQ_t0)
theorem zpbQ_runs {v0 v1 v2 v3 : Value} {h : Heap} {R : RP} {X : XP} (k : RunC Try.prog T0 zpbQ_c ⟨[v0, v1, v2, v3, U, U, U, U, U, U, U, U, U, U, U, U, U, U, U, U, U, U, U, U, U, U, U, U, U, U], [], h, none⟩ (bodyQ Try.prog T0 [(5, none)] R X)) :
 Runs Try.prog T0 (.fn 40) [v0, v1, v2, v3] h R X := Runs.fn zpbQ_t rfl k
abbrev fn_zxbQ : FuncId := 41
def zxbQ_c : ACode :=
 (.seq (.region [
 o1 2 (.mov (.const (.bool false)))]) (.seq (.region [
 o1 3 (.mov (tm 0)),
 o1 4 (.bin .geq (so (.binOp .geq 3 (tm 3) k0 3) 4) (tm 3) k0),
 o1 5 (.mov (tm 4)),
 o4 6 (.mov (tm 0)) 5,
 o4 7 (.bin .leq (so (.binOp .leq 3 (tm 6) (.const (.int .i64 1099511627776)) 3) 4) (tm 6) (.const (.int .i64 1099511627776))) 5,
 o1 8 (.pick (tm 5) (tm 7) (.const (.bool false))),
 o1 2 (.mov (tm 8))]) .ret))
def zxbQ : AFunc := ⟨9, [(2, none)], zxbQ_c, none⟩
theorem zxbQ_t0 : tableOf Try.prog 41 = some zxbQ := by kernel_rfl
theorem zxbQ_t : T0 41 = some zxbQ := withKept_t rfl (withTrue_t rfl zxbQ_t0)
theorem zxbQ_runs {v0 : Value} {h : Heap} {R : RP} {X : XP} (k : RunC Try.prog T0 zxbQ_c ⟨[v0, U, U, U, U, U, U, U, U], [], h, none⟩ (bodyQ Try.prog T0 [(2, none)] R X)) :
 Runs Try.prog T0 (.fn 41) [v0] h R X := Runs.fn zxbQ_t rfl k
abbrev fn_zrbQ : FuncId := 42
def zrbQ_c : ACode :=
 (.seq (.region [
 o1 3 (.box 58 (tm 1)),
 o1 4 (.mov k0)]) (.seq (.region [
 o1 5 (.mov (tm 0)),
 o1 6 (.nilCheck (tm 5)),
 o1 7 (.fieldAddr 1 (tm 6)),
 o1 8 (.load none (tm 7)),
 o1 9 (.bin .add (so (.binOp .add 3 (tm 8) (.const (.int .i64 1)) 3) 3) (tm 8) (.const (.int .i64 1))),
 o1 10 (.nilCheck (tm 5)),
 o1 11 (.fieldAddr 1 (tm 10)),
 o3 (.store 1 (tm 11) (tm 9))]) (.seq (.regionD [
 o1 12 (.mov (tm 0)),
 o1 13 (.nilCheck (tm 12)),
 o1 14 (.fieldAddr 1 (tm 13)),
 o1 15 (.load none (tm 14)),
 o1 16 (.fieldAddr 4 (tm 3)),
 o1 17 (.load none (tm 16)),
 ⟨some 18, .callV (.func 52) [(tm 17)], none, [(some 15, .load none (tm 14), none), (some 14, .fieldAddr 1 (tm 13), none), (some 13, .nilCheck (tm 12), none), (some 12, .mov (tm 0), none)], false⟩,
 o2 19 (.fieldAddr 0 (tm 3)),
 ⟨none, .store 1 (tm 19) (tm 15), none, [], true⟩,
 o2 20 (.fieldAddr 4 (tm 3)),
 ⟨none, .store 1 (tm 20) (tm 18), none, [], true⟩]) (.seq (.regionD [
 o1 21 (.mov (tm 0)),
 o1 22 (.nilCheck (tm 21)),
 o1 23 (.fieldAddr 4 (tm 22)),
 o1 24 (.load none (tm 23)),
 o1 25 (.fieldAddr 0 (tm 3)),
 o1 26 (.load none (tm 25)),
 ⟨none, .mapUpdate (.int .i64) (tm 24) (tm 26) (tm 3), none, [], true⟩]) (.seq (.region [
 o1 27 (.mov (tm 0)),
 o1 28 (.nilCheck (tm 27)),
 o1 29 (.fieldAddr 3 (tm 28)),
 o1 30 (.mkIface 87 (tm 29)),
 o1 31 (.mkIface 74 (tm 3)),
 o1 32 (.callV (.func 61) [(tm 30), (tm 31)])]) (.seq (.region [
 o1 33 (.fieldAddr 0 (tm 3)),
 o1 34 (.load none (tm 33)),
 o1 4 (.mov (tm 34))]) .ret))))))
def zrbQ : AFunc := ⟨35, [(4, none)], zrbQ_c, none⟩
theorem zrbQ_t0 : tableOf Try.prog 42 = some zrbQ := by kernel_rfl
theorem zrbQ_t : T0 42 = some zrbQ := withKept_t rfl (withTrue_t rfl zrbQ_t0)
theorem zrbQ_runs {v0 v1 : Value} {h : Heap} {R : RP} {X : XP} (k : RunC Try.prog T0 zrbQ_c ⟨[v0, v1, U, U, U, U, U, U, U, U, U, U, U, U, U, U, U, U, U, U, U, U, U, U, U, U, U, U, U, U, U, U, U, U, U], [], h, none⟩ (bodyQ Try.prog T0 [(4, none)] R X)) :
 Runs Try.prog T0 (.fn 42) [v0, v1] h R X := Runs.fn zrbQ_t rfl k
abbrev fn_ztbQ : FuncId := 43
def ztbQ_c : ACode :=
 (.seq (.region [
 o1 2 (.mov (.const (.bool false)))]) (.seq (.region [
 o1 3 (.mov (tm 0)),
 o1 4 (.eq .ptr false (so (.binOp .eql 22 (tm 3) (.const (.pointer none)) 22) 4) (tm 3) (.const (.pointer none))),
 o1 5 (.mov (tm 4)),
 o5 6 (.mov (tm 0)) 5,
 o5 7 (.nilCheck (tm 6)) 5,
 o5 8 (.fieldAddr 4 (tm 7)) 5,
 o5 9 (.load none (tm 8)) 5,
 o5 10 (.eq .map false (so (.binOp .eql 63 (tm 9) (.const (.map none)) 63) 4) (tm 9) (.const (.map none))) 5,
 o1 11 (.pick (tm 5) (.const (.bool true)) (tm 10)),
 o1 2 (.mov (tm 11))]) .ret))
def ztbQ : AFunc := ⟨12, [(2, none)], ztbQ_c, none⟩
theorem ztbQ_t0 : tableOf Try.prog 43 = some ztbQ := by kernel_rfl
theorem ztbQ_t : T0 43 = some ztbQ := withKept_t rfl (withTrue_t rfl ztbQ_t0)
theorem ztbQ_runs {v0 : Value} {h : Heap} {R : RP} {X : XP} (k : RunC Try.prog T0 ztbQ_c ⟨[v0, U, U, U, U, U, U, U, U, U, U, U], [], h, none⟩ (bodyQ Try.prog T0 [(2, none)] R X)) :
 Runs Try.prog T0 (.fn 43) [v0] h R X := Runs.fn ztbQ_t rfl k
abbrev fn_zybQ : FuncId := 44
def zybQ_c : ACode :=
 (.seq (.region [
 o1 2 (.mov (.const (.bool false)))]) (.seq (.region [
 o1 3 (.mov (tm 0)),
 o1 4 (.bin .geq (so (.binOp .geq 3 (tm 3) k0 3) 4) (tm 3) k0),
 o1 5 (.mov (tm 4)),
 o4 6 (.mov (tm 0)) 5,
 o4 7 (.bin .leq (so (.binOp .leq 3 (tm 6) (.const (.int .i64 16)) 3) 4) (tm 6) (.const (.int .i64 16))) 5,
 o1 8 (.pick (tm 5) (tm 7) (.const (.bool false))),
 o1 2 (.mov (tm 8))]) .ret))
def zybQ : AFunc := ⟨9, [(2, none)], zybQ_c, none⟩
theorem zybQ_t0 : tableOf Try.prog 44 = some zybQ := by kernel_rfl
theorem zybQ_t : T0 44 = some zybQ := withKept_t rfl (withTrue_t rfl zybQ_t0)
theorem zybQ_runs {v0 : Value} {h : Heap} {R : RP} {X : XP} (k : RunC Try.prog T0 zybQ_c ⟨[v0, U, U, U, U, U, U, U, U], [], h, none⟩ (bodyQ Try.prog T0 [(2, none)] R X)) :
 Runs Try.prog T0 (.fn 44) [v0] h R X := Runs.fn zybQ_t rfl k
abbrev fn_zcbQ : FuncId := 45
def zcbQ_c : ACode :=
 (.seq (.region [
 o1 2 (.mov (.const (.bool false)))]) (.seq (.region [
 o1 3 (.mov (tm 0)),
 o1 4 (.bin .geq (so (.binOp .geq 3 (tm 3) k0 3) 4) (tm 3) k0),
 o1 5 (.mov (tm 4)),
 o4 6 (.mov (tm 0)) 5,
 o4 7 (.bin .leq (so (.binOp .leq 3 (tm 6) (.const (.int .i64 1099511627776)) 3) 4) (tm 6) (.const (.int .i64 1099511627776))) 5,
 o1 8 (.pick (tm 5) (tm 7) (.const (.bool false))),
 o1 2 (.mov (tm 8))]) .ret))
def zcbQ : AFunc := ⟨9, [(2, none)], zcbQ_c, none⟩
theorem zcbQ_t0 : tableOf Try.prog 45 = some zcbQ := by kernel_rfl
theorem zcbQ_t : T0 45 = some zcbQ := withKept_t rfl (withTrue_t rfl zcbQ_t0)
theorem zcbQ_runs {v0 : Value} {h : Heap} {R : RP} {X : XP} (k : RunC Try.prog T0 zcbQ_c ⟨[v0, U, U, U, U, U, U, U, U], [], h, none⟩ (bodyQ Try.prog T0 [(2, none)] R X)) :
 Runs Try.prog T0 (.fn 45) [v0] h R X := Runs.fn zcbQ_t rfl k
abbrev fn_zzQ : FuncId := 46
def zzQ_l0 : ACode :=
 (.seq (.seq (.regionD [
 o1 6 (.mov (tm 4)),
 o1 7 (.mov (tm 0)),
 o1 8 (.nilCheck (tm 7)),
 o1 9 (.fieldAddr 3 (tm 8)),
 o1 10 (.load none (tm 9)),
 o1 11 (.lenSl (tm 10)),
 o2 12 (.bin .lss (so (.binOp .lss 3 (tm 6) (tm 11) 3) 4) (tm 6) (tm 11)),
 o2 13 (.mov (tm 12)),
 o4 14 (.mov (tm 0)) 13,
 o4 15 (.nilCheck (tm 14)) 13,
 o4 16 (.fieldAddr 3 (tm 15)) 13,
 o4 17 (.load none (tm 16)) 13,
 o4 18 (.mov (tm 4)) 13,
 o4 19 (.indexSl 5 (tm 17) (tm 18)) 13,
 o4 20 (.fieldAddr 3 (tm 19)) 13,
 o4 21 (.load none (tm 20)) 13,
 o4 22 (.fieldAddr 3 (tm 3)) 13,
 o4 23 (.load none (tm 22)) 13,
 ⟨some 24, .bin .lss (so (.binOp .lss 3 (tm 21) (tm 23) 3) 4) (tm 21) (tm 23), some (13, true), [], true⟩,
 ⟨some 25, .mov (tm 24), some (13, true), [], true⟩,
 o5 26 (.mov (tm 0)) 25,
 o5 27 (.nilCheck (tm 26)) 25,
 o5 28 (.fieldAddr 3 (tm 27)) 25,
 o5 29 (.load none (tm 28)) 25,
 o5 30 (.mov (tm 4)) 25,
 o5 31 (.indexSl 5 (tm 29) (tm 30)) 25,
 o5 32 (.fieldAddr 3 (tm 31)) 25,
 o5 33 (.load none (tm 32)) 25,
 o5 34 (.fieldAddr 3 (tm 3)) 25,
 o5 35 (.load none (tm 34)) 25,
 ⟨some 36, .bin .eql (so (.binOp .eql 3 (tm 33) (tm 35) 3) 4) (tm 33) (tm 35), some (25, false), [], true⟩,
 ⟨some 37, .mov (tm 36), some (25, false), [], true⟩,
 o4 38 (.mov (tm 0)) 37,
 o4 39 (.nilCheck (tm 38)) 37,
 o4 40 (.fieldAddr 3 (tm 39)) 37,
 o4 41 (.load none (tm 40)) 37,
 o4 42 (.mov (tm 4)) 37,
 o4 43 (.indexSl 5 (tm 41) (tm 42)) 37,
 o4 44 (.fieldAddr 0 (tm 43)) 37,
 o4 45 (.load none (tm 44)) 37,
 o4 46 (.fieldAddr 0 (tm 3)) 37,
 o4 47 (.load none (tm 46)) 37,
 ⟨some 48, .bin .lss (so (.binOp .lss 3 (tm 45) (tm 47) 3) 4) (tm 45) (tm 47), some (37, true), [], true⟩,
 ⟨some 49, .pick (tm 37) (tm 48) (.const (.bool false)), some (25, false), [], true⟩,
 ⟨some 50, .pick (tm 25) (.const (.bool true)) (tm 49), some (13, true), [], true⟩,
 o2 51 (.pick (tm 13) (tm 50) (.const (.bool false)))]) (.cond (tm 51)
 .skip
 (.exit 0))) (.block 1 (.region [
 o1 52 (.mov (tm 4)),
 o1 53 (.bin .add (so (.binOp .add 3 (tm 52) (.const (.int .i64 1)) 3) 3) (tm 52) (.const (.int .i64 1))),
 o1 4 (.mov (tm 53))])))
def zzQ_c : ACode :=
 (.seq (.region [
 o1 3 (.box 58 (tm 1))]) (.seq (.region [
 o1 4 (.mov k0)]) (.seq (.block 0 (.loop zzQ_l0)) (.seq (.region [
 o1 54 (.buildSlice 58 [] 0 []),
 o1 55 (.mov (tm 0)),
 o1 56 (.nilCheck (tm 55)),
 o1 57 (.fieldAddr 3 (tm 56)),
 o1 58 (.load none (tm 57)),
 o1 59 (.mov (tm 4)),
 o1 60 (.sliceSl 5 (tm 58) (some (tm 59)) none none),
 o1 61 (.append 58 5 56 [(.int .i64 0), (.int .i64 0), (.int .i64 0), (.int .i64 0), (.slice none 0 0)] false (tm 54) (tm 60)),
 o1 5 (.mov (tm 61))]) (.regionM [[
 o1 62 (.mov (tm 0)),
 o1 64 (.mov (tm 0)),
 o1 65 (.nilCheck (tm 64)),
 o1 66 (.fieldAddr 3 (tm 65)),
 o1 67 (.load none (tm 66)),
 o1 68 (.mov (tm 4)),
 o1 69 (.sliceSl 5 (tm 67) none (some (tm 68)) none),
 o1 71 (.load (some 5) (tm 3)),
 o1 74 (.mov (tm 5)),
 ⟨some 63, .buildSlice 58 [] 0 [], none, [(some 74, .mov (tm 5), none), (some 71, .load (some 5) (tm 3), none), (some 69, .sliceSl 5 (tm 67) none (some (tm 68)) none, none), (some 68, .mov (tm 4), none), (some 67, .load none (tm 66), none), (some 66, .fieldAddr 3 (tm 65), none), (some 65, .nilCheck (tm 64), none), (some 64, .mov (tm 0), none), (some 62, .mov (tm 0), none)], false⟩,
 ⟨some 70, .append 58 5 56 [(.int .i64 0), (.int .i64 0), (.int .i64 0), (.int .i64 0), (.slice none 0 0)] false (tm 63) (tm 69), none, [(some 74, .mov (tm 5), none), (some 71, .load (some 5) (tm 3), none), (some 62, .mov (tm 0), none)], false⟩,
 ⟨some 72, .buildSlice 58 [(.int .i64 0), (.int .i64 0), (.int .i64 0), (.int .i64 0), (.slice none 0 0)] 1 [(0, 5, (tm 71))], none, [(some 74, .mov (tm 5), none), (some 69, .sliceSl 5 (tm 67) none (some (tm 68)) none, none), (some 68, .mov (tm 4), none), (some 67, .load none (tm 66), none), (some 66, .fieldAddr 3 (tm 65), none), (some 65, .nilCheck (tm 64), none), (some 64, .mov (tm 0), none), (some 62, .mov (tm 0), none)], false⟩,
 ⟨some 73, .append 58 5 56 [(.int .i64 0), (.int .i64 0), (.int .i64 0), (.int .i64 0), (.slice none 0 0)] false (tm 70) (tm 72), none, [(some 74, .mov (tm 5), none), (some 62, .mov (tm 0), none)], false⟩,
 ⟨some 75, .append 58 5 56 [(.int .i64 0), (.int .i64 0), (.int .i64 0), (.int .i64 0), (.slice none 0 0)] false (tm 73) (tm 74), none, [(some 62, .mov (tm 0), none)], false⟩,
 o2 76 (.nilCheck (tm 62)),
 o2 77 (.fieldAddr 3 (tm 76)),
 ⟨none, .store 1 (tm 77) (tm 75), none, [], true⟩],
 [
 o1 62 (.mov (tm 0)),
 o1 64 (.mov (tm 0)),
 o1 65 (.nilCheck (tm 64)),
 o1 66 (.fieldAddr 3 (tm 65)),
 o1 67 (.load none (tm 66)),
 o1 68 (.mov (tm 4)),
 o1 69 (.sliceSl 5 (tm 67) none (some (tm 68)) none),
 o1 71 (.load (some 5) (tm 3)),
 o1 74 (.mov (tm 5)),
 ⟨some 63, .buildSlice 58 [] 0 [], none, [(some 74, .mov (tm 5), none), (some 71, .load (some 5) (tm 3), none), (some 69, .sliceSl 5 (tm 67) none (some (tm 68)) none, none), (some 68, .mov (tm 4), none), (some 67, .load none (tm 66), none), (some 66, .fieldAddr 3 (tm 65), none), (some 65, .nilCheck (tm 64), none), (some 64, .mov (tm 0), none), (some 62, .mov (tm 0), none)], false⟩,
 ⟨some 72, .buildSlice 58 [(.int .i64 0), (.int .i64 0), (.int .i64 0), (.int .i64 0), (.slice none 0 0)] 1 [(0, 5, (tm 71))], none, [(some 74, .mov (tm 5), none), (some 69, .sliceSl 5 (tm 67) none (some (tm 68)) none, none), (some 68, .mov (tm 4), none), (some 67, .load none (tm 66), none), (some 66, .fieldAddr 3 (tm 65), none), (some 65, .nilCheck (tm 64), none), (some 64, .mov (tm 0), none), (some 62, .mov (tm 0), none)], false⟩,
 ⟨some 70, .append 58 5 56 [(.int .i64 0), (.int .i64 0), (.int .i64 0), (.int .i64 0), (.slice none 0 0)] false (tm 63) (tm 69), none, [(some 74, .mov (tm 5), none), (some 71, .load (some 5) (tm 3), none), (some 62, .mov (tm 0), none)], false⟩,
 ⟨some 73, .append 58 5 56 [(.int .i64 0), (.int .i64 0), (.int .i64 0), (.int .i64 0), (.slice none 0 0)] false (tm 70) (tm 72), none, [(some 74, .mov (tm 5), none), (some 62, .mov (tm 0), none)], false⟩,
 ⟨some 75, .append 58 5 56 [(.int .i64 0), (.int .i64 0), (.int .i64 0), (.int .i64 0), (.slice none 0 0)] false (tm 73) (tm 74), none, [(some 62, .mov (tm 0), none)], false⟩,
 o2 76 (.nilCheck (tm 62)),
 o2 77 (.fieldAddr 3 (tm 76)),
 ⟨none, .store 1 (tm 77) (tm 75), none, [], true⟩],
 [
 o1 62 (.mov (tm 0)),
 o1 64 (.mov (tm 0)),
 o1 65 (.nilCheck (tm 64)),
 o1 66 (.fieldAddr 3 (tm 65)),
 o1 67 (.load none (tm 66)),
 o1 68 (.mov (tm 4)),
 o1 69 (.sliceSl 5 (tm 67) none (some (tm 68)) none),
 o1 71 (.load (some 5) (tm 3)),
 o1 74 (.mov (tm 5)),
 ⟨some 72, .buildSlice 58 [(.int .i64 0), (.int .i64 0), (.int .i64 0), (.int .i64 0), (.slice none 0 0)] 1 [(0, 5, (tm 71))], none, [(some 74, .mov (tm 5), none), (some 69, .sliceSl 5 (tm 67) none (some (tm 68)) none, none), (some 68, .mov (tm 4), none), (some 67, .load none (tm 66), none), (some 66, .fieldAddr 3 (tm 65), none), (some 65, .nilCheck (tm 64), none), (some 64, .mov (tm 0), none), (some 62, .mov (tm 0), none)], false⟩,
 ⟨some 63, .buildSlice 58 [] 0 [], none, [(some 74, .mov (tm 5), none), (some 71, .load (some 5) (tm 3), none), (some 69, .sliceSl 5 (tm 67) none (some (tm 68)) none, none), (some 68, .mov (tm 4), none), (some 67, .load none (tm 66), none), (some 66, .fieldAddr 3 (tm 65), none), (some 65, .nilCheck (tm 64), none), (some 64, .mov (tm 0), none), (some 62, .mov (tm 0), none)], false⟩,
 ⟨some 70, .append 58 5 56 [(.int .i64 0), (.int .i64 0), (.int .i64 0), (.int .i64 0), (.slice none 0 0)] false (tm 63) (tm 69), none, [(some 74, .mov (tm 5), none), (some 71, .load (some 5) (tm 3), none), (some 62, .mov (tm 0), none)], false⟩,
 ⟨some 73, .append 58 5 56 [(.int .i64 0), (.int .i64 0), (.int .i64 0), (.int .i64 0), (.slice none 0 0)] false (tm 70) (tm 72), none, [(some 74, .mov (tm 5), none), (some 62, .mov (tm 0), none)], false⟩,
 ⟨some 75, .append 58 5 56 [(.int .i64 0), (.int .i64 0), (.int .i64 0), (.int .i64 0), (.slice none 0 0)] false (tm 73) (tm 74), none, [(some 62, .mov (tm 0), none)], false⟩,
 o2 76 (.nilCheck (tm 62)),
 o2 77 (.fieldAddr 3 (tm 76)),
 ⟨none, .store 1 (tm 77) (tm 75), none, [], true⟩]])))))
def zzQ : AFunc := ⟨78, [], zzQ_c, none⟩
theorem zzQ_t0 : tableOf Try.prog 46 = some zzQ := by kernel_rfl
theorem zzQ_t : T0 46 = some zzQ := withKept_t rfl (withTrue_t rfl zzQ_t0)
theorem zzQ_runs {v0 v1 : Value} {h : Heap} {R : RP} {X : XP} (k : RunC Try.prog T0 zzQ_c ⟨[v0, v1, U, U, U, U, U, U, U, U, U, U, U, U, U, U, U, U, U, U, U, U, U, U, U, U, U, U, U, U, U, U, U, U, U, U, U, U, U, U, U, U, U, U, U, U, U, U, U, U, U, U, U, U, U, U, U, U, U, U, U, U, U, U, U, U, U, U, U, U, U, U, U, U, U, U, U, U], [], h, none⟩ (bodyQ Try.prog T0 [] R X)) :
 Runs Try.prog T0 (.fn 46) [v0, v1] h R X := Runs.fn zzQ_t rfl k
abbrev zzQ_l0_M : List Nat := [0, 0, 0, 0, 2, 0, 1, 1, 1, 1, 1, 1, 1, 1, 1, 1, 1, 1, 1, 1, 1, 1, 1, 1, 1, 1, 1, 1, 1, 1, 1, 1, 1, 1, 1, 1, 1, 1, 1, 1, 1, 1, 1, 1, 1, 1, 1, 1, 1, 1, 1, 1, 1, 1, 0, 0, 0, 0, 0, 0, 0, 0, 0, 0, 0, 0, 0, 0, 0, 0, 0, 0, 0, 0, 0, 0, 0, 0]
abbrev fn_ziQ : FuncId := 47
def ziQ_c : ACode :=
 (.seq (.region [
 o1 2 (.mov (.const (.slice none 0 0)))]) (.seq (.region [
 o1 3 (.buildSlice 5 [] 0 []),
 o1 4 (.mov (tm 0)),
 o1 5 (.append 5 1 1 [(.int .u8 0)] false (tm 3) (tm 4)),
 o1 2 (.mov (tm 5))]) .ret))
def ziQ : AFunc := ⟨6, [(2, none)], ziQ_c, none⟩
theorem ziQ_t0 : tableOf Try.prog 47 = some ziQ := by kernel_rfl
theorem ziQ_t : T0 47 = some ziQ := withKept_t rfl (withTrue_t rfl ziQ_t0)
theorem ziQ_runs {v0 : Value} {h : Heap} {R : RP} {X : XP} (k : RunC Try.prog T0 ziQ_c ⟨[v0, U, U, U, U, U], [], h, none⟩ (bodyQ Try.prog T0 [(2, none)] R X)) :
 Runs Try.prog T0 (.fn 47) [v0] h R X := Runs.fn ziQ_t rfl k
abbrev fn_znQ : FuncId := 48
def znQ_c : ACode :=
 (.seq (.region [
 o1 4 (.mov (.const (.bool false)))]) (.seq (.region [
 o1 5 (.mov (tm 0)),
 o1 6 (.bytesToStr (tm 5)),
 o1 7 (.mov (tm 1)),
 o1 8 (.bytesToStr (tm 7)),
 o1 9 (.bin .eql (so (.binOp .eql 9 (tm 6) (tm 8) 9) 4) (tm 6) (tm 8)),
 o1 4 (.mov (tm 9))]) .ret))
def znQ : AFunc := ⟨10, [(4, none)], znQ_c, none⟩
theorem znQ_t0 : tableOf Try.prog 48 = some znQ := by kernel_rfl
theorem znQ_t : T0 48 = some znQ := withKept_t rfl (withTrue_t rfl znQ_t0)
theorem znQ_runs {v0 v1 : Value} {h : Heap} {R : RP} {X : XP} (k : RunC Try.prog T0 znQ_c ⟨[v0, v1, U, U, U, U, U, U, U, U], [], h, none⟩ (bodyQ Try.prog T0 [(4, none)] R X)) :
 Runs Try.prog T0 (.fn 48) [v0, v1] h R X := Runs.fn znQ_t rfl k
abbrev fn_zmcQ : FuncId := 49
def zmcQ_c : ACode :=
 (.seq (.region [
 o1 4 (.mov (.const (.slice none 0 0)))]) (.seq (.region [
 o1 6 (.mov (tm 0)),
 o1 7 (.callV (.func 62) [(tm 6)]),
 o1 5 (.mov (tm 7))]) (.seq (.region [
 o1 8 (.mov (tm 5)),
 o1 9 (.mov (tm 1)),
 o1 10 (.callV (.func 63) [(tm 8), (tm 9)])]) (.seq (.region [
 o1 11 (.mov (tm 5)),
 o1 4 (.mov (tm 11))]) .ret))))
def zmcQ : AFunc := ⟨12, [(4, none)], zmcQ_c, none⟩
theorem zmcQ_t0 : tableOf Try.prog 49 = some zmcQ := by kernel_rfl
theorem zmcQ_t : T0 49 = some zmcQ := withKept_t rfl (withTrue_t rfl zmcQ_t0)
theorem zmcQ_runs {v0 v1 : Value} {h : Heap} {R : RP} {X : XP} (k : RunC Try.prog T0 zmcQ_c ⟨[v0, v1, U, U, U, U, U, U, U, U, U, U], [], h, none⟩ (bodyQ Try.prog T0 [(4, none)] R X)) :
 Runs Try.prog T0 (.fn 49) [v0, v1] h R X := Runs.fn zmcQ_t rfl k
abbrev fn_zncQ : FuncId := 50
def zncQ_c : ACode :=
 (.seq (.region [
 o1 1 (.box 62 (tm 0)),
 o1 2 (.mov (.const .nilFunc))]) (.seq (.region [
 o1 3 (.mkFunc (.func 64) [] [(tm 1)]),
 o1 2 (.mov (tm 3))]) .ret))
def zncQ : AFunc := ⟨4, [(2, none)], zncQ_c, none⟩
theorem zncQ_t0 : tableOf Try.prog 50 = some zncQ := by kernel_rfl
theorem zncQ_t : T0 50 = some zncQ := withKept_t rfl (withTrue_t rfl zncQ_t0)
theorem zncQ_runs {v0 : Value} {h : Heap} {R : RP} {X : XP} (k : RunC Try.prog T0 zncQ_c ⟨[v0, U, U, U], [], h, none⟩ (bodyQ Try.prog T0 [(2, none)] R X)) :
 Runs Try.prog T0 (.fn 50) [v0] h R X := Runs.fn zncQ_t rfl k
abbrev fn_zwbQ : FuncId := 51
def zwbQ_c : ACode :=
 (.seq (.region [
 o1 4 (.mov k0)]) (.seq (.regionD [
 o1 5 (.mov (tm 0)),
 o1 6 (.nilCheck (tm 5)),
 o1 7 (.fieldAddr 3 (tm 6)),
 o1 8 (.load none (tm 7)),
 o1 9 (.mov (tm 1)),
 o1 10 (.nilCheck (tm 9)),
 o1 11 (.fieldAddr 3 (tm 10)),
 o1 12 (.load none (tm 11)),
 o1 14 (.mov (tm 0)),
 o1 15 (.nilCheck (tm 14)),
 o1 16 (.fieldAddr 0 (tm 15)),
 o1 17 (.load none (tm 16)),
 o1 18 (.mov (tm 1)),
 o1 19 (.nilCheck (tm 18)),
 o1 20 (.fieldAddr 0 (tm 19)),
 o1 21 (.load none (tm 20)),
 ⟨some 13, .callV (.func 66) [(tm 8), (tm 12)], none, [(some 21, .load none (tm 20), none), (some 20, .fieldAddr 0 (tm 19), none), (some 19, .nilCheck (tm 18), none), (some 18, .mov (tm 1), none), (some 17, .load none (tm 16), none), (some 16, .fieldAddr 0 (tm 15), none), (some 15, .nilCheck (tm 14), none), (some 14, .mov (tm 0), none)], false⟩,
 o2 22 (.callV (.func 66) [(tm 17), (tm 21)]),
 o2 23 (.buildSlice 3 [(.int .i64 0), (.int .i64 0)] 2 [(0, 1, (tm 13)), (1, 1, (tm 22))]),
 o2 24 (.callV (.func 65) [(tm 23)]),
 o2 4 (.mov (tm 24))]) .ret))
def zwbQ : AFunc := ⟨25, [(4, none)], zwbQ_c, none⟩
theorem zwbQ_t0 : tableOf Try.prog 51 = some zwbQ := by kernel_rfl
theorem zwbQ_t : T0 51 = some zwbQ := withKept_t rfl (withTrue_t rfl zwbQ_t0)
theorem zwbQ_runs {v0 v1 : Value} {h : Heap} {R : RP} {X : XP} (k : RunC Try.prog T0 zwbQ_c ⟨[v0, v1, U, U, U, U, U, U, U, U, U, U, U, U, U, U, U, U, U, U, U, U, U, U, U], [], h, none⟩ (bodyQ Try.prog T0 [(4, none)] R X)) :
 Runs Try.prog T0 (.fn 51) [v0, v1] h R X := Runs.fn zwbQ_t rfl k
abbrev fn_zicQ : FuncId := 52
def zicQ_c : ACode :=
 (.seq (.region [
 o1 2 (.mov (.const (.slice none 0 0)))]) (.seq (.seq (.region [
 o1 3 (.mov (tm 0)),
 o1 4 (.eq .slice false (so (.binOp .eql 38 (tm 3) (.const (.slice none 0 0)) 38) 4) (tm 3) (.const (.slice none 0 0)))]) (.cond (tm 4)
 (.seq (.region [
 o1 2 (.mov (.const (.slice none 0 0)))]) .ret)
 .skip)) (.seq (.region [
 o1 5 (.buildSlice 5 [] 0 []),
 o1 6 (.mov (tm 0)),
 o1 7 (.append 5 1 1 [(.int .u8 0)] false (tm 5) (tm 6)),
 o1 2 (.mov (tm 7))]) .ret)))
def zicQ : AFunc := ⟨8, [(2, none)], zicQ_c, none⟩
theorem zicQ_t0 : tableOf Try.prog 52 = some zicQ := by kernel_rfl
theorem zicQ_t : T0 52 = some zicQ := withKept_t rfl (withTrue_t rfl zicQ_t0)
theorem zicQ_runs {v0 : Value} {h : Heap} {R : RP} {X : XP} (k : RunC Try.prog T0 zicQ_c ⟨[v0, U, U, U, U, U, U, U], [], h, none⟩ (bodyQ Try.prog T0 [(2, none)] R X)) :
 Runs Try.prog T0 (.fn 52) [v0] h R X := Runs.fn zicQ_t rfl k
abbrev fn_zabQ : FuncId := 53
def zabQ_c : ACode :=
 (.seq (.region [
 o1 4 (.alloc 58 [(.int .i64 0), (.int .i64 0), (.int .i64 0), (.int .i64 0), (.slice none 0 0)])]) (.seq (.region [
 o1 6 (.mov (tm 0)),
 o1 7 (.nilCheck (tm 6)),
 o1 8 (.fieldAddr 3 (tm 7)),
 o1 9 (.load none (tm 8)),
 o1 10 (.mov (tm 1)),
 o1 11 (.indexSl 5 (tm 9) (tm 10)),
 o1 12 (.load (some 5) (tm 11)),
 o1 5 (.alloc 58 [(.int .i64 0), (.int .i64 0), (.int .i64 0), (.int .i64 0), (.slice none 0 0)]),
 o3 (.store 5 (tm 5) (tm 12))]) (.seq (.regionD [
 o1 13 (.mov (tm 0)),
 o1 15 (.mov (tm 0)),
 o1 16 (.nilCheck (tm 15)),
 o1 17 (.fieldAddr 3 (tm 16)),
 o1 18 (.load none (tm 17)),
 o1 19 (.mov (tm 1)),
 o1 20 (.sliceSl 5 (tm 18) none (some (tm 19)) none),
 o1 22 (.mov (tm 0)),
 o1 23 (.nilCheck (tm 22)),
 o1 24 (.fieldAddr 3 (tm 23)),
 o1 25 (.load none (tm 24)),
 o1 26 (.mov (tm 1)),
 o1 27 (.bin .add (so (.binOp .add 3 (tm 26) (.const (.int .i64 1)) 3) 3) (tm 26) (.const (.int .i64 1))),
 o1 28 (.sliceSl 5 (tm 25) (some (tm 27)) none none),
 ⟨some 14, .buildSlice 58 [] 0 [], none, [(some 28, .sliceSl 5 (tm 25) (some (tm 27)) none none, none), (some 27, .bin .add (so (.binOp .add 3 (tm 26) (.const (.int .i64 1)) 3) 3) (tm 26) (.const (.int .i64 1)), none), (some 26, .mov (tm 1), none), (some 25, .load none (tm 24), none), (some 24, .fieldAddr 3 (tm 23), none), (some 23, .nilCheck (tm 22), none), (some 22, .mov (tm 0), none), (some 20, .sliceSl 5 (tm 18) none (some (tm 19)) none, none), (some 19, .mov (tm 1), none), (some 18, .load none (tm 17), none), (some 17, .fieldAddr 3 (tm 16), none), (some 16, .nilCheck (tm 15), none), (some 15, .mov (tm 0), none), (some 13, .mov (tm 0), none)], false⟩,
 ⟨some 21, .append 58 5 56 [(.int .i64 0), (.int .i64 0), (.int .i64 0), (.int .i64 0), (.slice none 0 0)] false (tm 14) (tm 20), none, [(some 28, .sliceSl 5 (tm 25) (some (tm 27)) none none, none), (some 27, .bin .add (so (.binOp .add 3 (tm 26) (.const (.int .i64 1)) 3) 3) (tm 26) (.const (.int .i64 1)), none), (some 26, .mov (tm 1), none), (some 25, .load none (tm 24), none), (some 24, .fieldAddr 3 (tm 23), none), (some 23, .nilCheck (tm 22), none), (some 22, .mov (tm 0), none), (some 13, .mov (tm 0), none)], false⟩,
 ⟨some 29, .append 58 5 56 [(.int .i64 0), (.int .i64 0), (.int .i64 0), (.int .i64 0), (.slice none 0 0)] false (tm 21) (tm 28), none, [(some 13, .mov (tm 0), none)], false⟩,
 o2 30 (.nilCheck (tm 13)),
 o2 31 (.fieldAddr 3 (tm 30)),
 ⟨none, .store 1 (tm 31) (tm 29), none, [], true⟩]) (.seq (.region [
 o1 32 (.load (some 5) (tm 5)),
 o3 (.store 5 (tm 4) (tm 32))]) .ret))))
def zabQ : AFunc := ⟨33, [(4, some (some 5))], zabQ_c, none⟩
theorem zabQ_t0 : tableOf Try.prog 53 = some zabQ := by kernel_rfl
theorem zabQ_t : T0 53 = some zabQ := withKept_t rfl (withTrue_t rfl zabQ_t0)
theorem zabQ_runs {v0 v1 : Value} {h : Heap} {R : RP} {X : XP} (k : RunC Try.prog T0 zabQ_c ⟨[v0, v1, U, U, U, U, U, U, U, U, U, U, U, U, U, U, U, U, U, U, U, U, U, U, U, U, U, U, U, U, U, U, U], [], h, none⟩ (bodyQ Try.prog T0 [(4, some (some 5))] R X)) :
 Runs Try.prog T0 (.fn 53) [v0, v1] h R X := Runs.fn zabQ_t rfl k
abbrev fn_zyQ : FuncId := 54
def zyQ_l0 : ACode :=
 (.seq (.seq (.region [
 o1 6 (.mov (tm 5)),
 o1 7 (.mov (tm 0)),
 o1 8 (.nilCheck (tm 7)),
 o1 9 (.fieldAddr 3 (tm 8)),
 o1 10 (.load none (tm 9)),
 o1 11 (.lenSl (tm 10)),
 o1 12 (.bin .lss (so (.binOp .lss 3 (tm 6) (tm 11) 3) 4) (tm 6) (tm 11))]) (.cond (tm 12)
 .skip
 (.exit 0))) (.seq (.block 1 (.seq (.region [
 o1 15 (.mov (tm 0)),
 o1 16 (.nilCheck (tm 15)),
 o1 17 (.fieldAddr 3 (tm 16)),
 o1 18 (.load none (tm 17)),
 o1 19 (.mov (tm 5)),
 o1 20 (.indexSl 5 (tm 18) (tm 19)),
 o1 21 (.fieldAddr 0 (tm 20)),
 o1 22 (.load none (tm 21)),
 o1 23 (.mov (tm 1)),
 o1 24 (.bin .eql (so (.binOp .eql 3 (tm 22) (tm 23) 3) 4) (tm 22) (tm 23))]) (.cond (tm 24)
 (.seq (.region [
 o1 25 (.mov (tm 5)),
 o1 4 (.mov (tm 25))]) .ret)
 .skip))) (.region [
 o1 13 (.mov (tm 5)),
 o1 14 (.bin .add (so (.binOp .add 3 (tm 13) (.const (.int .i64 1)) 3) 3) (tm 13) (.const (.int .i64 1))),
 o1 5 (.mov (tm 14))])))
def zyQ_c : ACode :=
 (.seq (.region [
 o1 4 (.mov k0)]) (.seq (.seq (.region [
 o1 5 (.mov k0)]) (.block 0 (.loop zyQ_l0))) (.seq (.region [
 o1 4 (.mov (.const (.int .i64 (-1))))]) .ret)))
def zyQ : AFunc := ⟨26, [(4, none)], zyQ_c, none⟩
theorem zyQ_t0 : tableOf Try.prog 54 = some zyQ := by kernel_rfl
theorem zyQ_t : T0 54 = some zyQ := withKept_t rfl (withTrue_t rfl zyQ_t0)
theorem zyQ_runs {v0 v1 : Value} {h : Heap} {R : RP} {X : XP} (k : RunC Try.prog T0 zyQ_c ⟨[v0, v1, U, U, U, U, U, U, U, U, U, U, U, U, U, U, U, U, U, U, U, U, U, U, U, U], [], h, none⟩ (bodyQ Try.prog T0 [(4, none)] R X)) :
 Runs Try.prog T0 (.fn 54) [v0, v1] h R X := Runs.fn zyQ_t rfl k
abbrev zyQ_l0_M : List Nat := [0, 0, 0, 0, 1, 2, 1, 1, 1, 1, 1, 1, 1, 1, 1, 1, 1, 1, 1, 1, 1, 1, 1, 1, 1, 1]
abbrev fn_zfbQ : FuncId := 55
def zfbQ_c : ACode :=
 (.seq (.region [
 o1 4 (.mov k0)]) (.seq (.seq (.region [
 o1 5 (.load none (tm 1)),
 o1 6 (.callV (.func 41) [(tm 5)]),
 o1 7 (.raw (so (.unOp .not 4 (tm 6)) 4))]) (.cond (tm 7)
 (.seq (.region [
 o1 4 (.mov (.const (.int .i64 3)))]) .ret)
 .skip)) (.seq (.region [
 o1 8 (.load none (tm 2)),
 o1 9 (.mov (tm 0)),
 o1 10 (.load none (tm 1)),
 o1 11 (.callV (.func 56) [(tm 8), (tm 9), (tm 10)])]) (.seq (.region [
 o1 4 (.mov k0)]) .ret))))
def zfbQ : AFunc := ⟨12, [(4, none)], zfbQ_c, none⟩
theorem zfbQ_t0 : tableOf Try.prog 55 = some zfbQ := by kernel_rfl
theorem zfbQ_t : T0 55 = some zfbQ := withKept_t rfl (withTrue_t rfl zfbQ_t0)
theorem zfbQ_runs {v0 v1 v2 : Value} {h : Heap} {R : RP} {X : XP} (k : RunC Try.prog T0 zfbQ_c ⟨[v0, v1, v2, U, U, U, U, U, U, U, U, U], [], h, none⟩ (bodyQ Try.prog T0 [(4, none)] R X)) :
 Runs Try.prog T0 (.fn 55) [v0, v1, v2] h R X := Runs.fn zfbQ_t rfl k
abbrev fn_zsbQ : FuncId := 56
def zsbQ_c : ACode :=
 (.seq (.region [
 o1 6 (.mov (tm 1)),
 o1 7 (.mov (tm 2)),
 o1 8 (.nilCheck (tm 6)),
 o1 9 (.fieldAddr 3 (tm 8)),
 o3 (.store 1 (tm 9) (tm 7))]) (.regionD [
 o1 10 (.mov (tm 0)),
 o1 11 (.nilCheck (tm 10)),
 o1 12 (.fieldAddr 3 (tm 11)),
 o1 13 (.mkIface 87 (tm 12)),
 o1 14 (.mov (tm 0)),
 o1 15 (.nilCheck (tm 14)),
 o1 16 (.fieldAddr 3 (tm 15)),
 o1 17 (.load none (tm 16)),
 o1 18 (.mov (tm 1)),
 ⟨some 19, .callV (.func 60) [(tm 17), (tm 18)], none, [(some 13, .mkIface 87 (tm 12), none), (some 12, .fieldAddr 3 (tm 11), none), (some 11, .nilCheck (tm 10), none), (some 10, .mov (tm 0), none)], false⟩,
 o2 20 (.callV (.func 67) [(tm 13), (tm 19)])]))
def zsbQ : AFunc := ⟨21, [], zsbQ_c, none⟩
theorem zsbQ_t0 : tableOf Try.prog 56 = some zsbQ := by kernel_rfl
theorem zsbQ_t : T0 56 = some zsbQ := withKept_t rfl (withTrue_t rfl zsbQ_t0)
theorem zsbQ_runs {v0 v1 v2 : Value} {h : Heap} {R : RP} {X : XP} (k : RunC Try.prog T0 zsbQ_c ⟨[v0, v1, v2, U, U, U, U, U, U, U, U, U, U, U, U, U, U, U, U, U, U], [], h, none⟩ (bodyQ Try.prog T0 [] R X)) :
 Runs Try.prog T0 (.fn 56) [v0, v1, v2] h R X := Runs.fn zsbQ_t rfl k
abbrev fn_zmbQ : FuncId := 57
def zmbQ_c : ACode :=
 (.seq (.region [
 o1 3 (.box 74 (tm 0)),
 o1 4 (.mov k0)]) (.seq (.region [
 o1 5 (.load none (tm 1)),
 o1 6 (.load none (tm 2)),
 o1 7 (.mkFunc (.func 58) [] [(tm 3), (tm 1)]),
 o1 8 (.callV (.func 38) [(tm 5), (tm 6), (tm 7)]),
 o1 4 (.mov (tm 8))]) .ret))
def zmbQ : AFunc := ⟨9, [(4, none)], zmbQ_c, none⟩
theorem zmbQ_t0 : tableOf Try.prog 57 = some zmbQ := by kernel_rfl
theorem zmbQ_t : T0 57 = some zmbQ := withKept_t rfl (withTrue_t rfl zmbQ_t0)
theorem zmbQ_runs {v0 v1 v2 : Value} {h : Heap} {R : RP} {X : XP} (k : RunC Try.prog T0 zmbQ_c ⟨[v0, v1, v2, U, U, U, U, U, U], [], h, none⟩ (bodyQ Try.prog T0 [(4, none)] R X)) :
 Runs Try.prog T0 (.fn 57) [v0, v1, v2] h R X := Runs.fn zmbQ_t rfl k
abbrev fn_znbQ : FuncId := 58
def znbQ_c : ACode :=
 (.seq (.region [
 o1 4 (.mov k0)]) (.seq (.regionD [
 o1 7 (.load none (tm 1)),
 o1 8 (.nilCheck (tm 7)),
 o1 9 (.fieldAddr 3 (tm 8)),
 o1 10 (.load none (tm 9)),
 o1 11 (.mov (tm 0)),
 o1 12 (.nilCheck (tm 11)),
 o1 13 (.fieldAddr 3 (tm 12)),
 o1 14 (.load none (tm 13)),
 o1 5 (.mov (tm 10)),
 o2 6 (.mov (tm 14))]) (.seq (.region [
 o1 15 (.load none (tm 2)),
 o1 16 (.load none (tm 1)),
 o1 17 (.mov (tm 6)),
 o1 18 (.callV (.func 56) [(tm 15), (tm 16), (tm 17)])]) (.seq (.region [
 o1 19 (.load none (tm 2)),
 o1 20 (.mov (tm 0)),
 o1 21 (.mov (tm 5)),
 o1 22 (.callV (.func 56) [(tm 19), (tm 20), (tm 21)])]) (.seq (.region [
 o1 4 (.mov k0)]) .ret)))))
def znbQ : AFunc := ⟨23, [(4, none)], znbQ_c, none⟩
theorem znbQ_t0 : tableOf Try.prog 58 = some znbQ := by kernel_rfl
theorem znbQ_t : T0 58 = some znbQ := withKept_t rfl (withTrue_t rfl znbQ_t0)
theorem znbQ_runs {v0 v1 v2 : Value} {h : Heap} {R : RP} {X : XP} (k : RunC Try.prog T0 znbQ_c ⟨[v0, v1, v2, U, U, U, U, U, U, U, U, U, U, U, U, U, U, U, U, U, U, U, U], [], h, none⟩ (bodyQ Try.prog T0 [(4, none)] R X)) :
 Runs Try.prog T0 (.fn 58) [v0, v1, v2] h R X := Runs.fn znbQ_t rfl k
abbrev fn_zfQ : FuncId := 59
def zfQ_c : ACode :=
 (.seq (.region [
 o1 4 (.mov (.const .nilIface))]) (.seq (.region [
 o1 6 (.mov (tm 0)),
 o1 7 (.invoke (tm 6) "Len" []),
 o1 8 (.bin .sub (so (.binOp .sub 3 (tm 7) (.const (.int .i64 1)) 3) 3) (tm 7) (.const (.int .i64 1))),
 o1 5 (.mov (tm 8))]) (.seq (.seq (.region [
 o1 9 (.mov (tm 5)),
 o1 10 (.mov (tm 1)),
 o1 11 (.bin .neq (so (.binOp .neq 3 (tm 9) (tm 10) 3) 4) (tm 9) (tm 10))]) (.cond (tm 11)
 (.seq (.region [
 o1 12 (.mov (tm 0)),
 o1 13 (.mov (tm 1)),
 o1 14 (.mov (tm 5)),
 o1 15 (.invoke (tm 12) "Swap" [(tm 13), (tm 14)])]) (.seq (.region [
 o1 16 (.mov (tm 0)),
 o1 17 (.mov (tm 1)),
 o1 18 (.mov (tm 5)),
 o1 19 (.callV (.func 68) [(tm 16), (tm 17), (tm 18)]),
 o1 20 (.raw (so (.unOp .not 4 (tm 19)) 4))]) (.cond (tm 20)
 (.region [
 o1 21 (.mov (tm 0)),
 o1 22 (.mov (tm 1)),
 o1 23 (.callV (.func 69) [(tm 21), (tm 22)])])
 .skip)))
 .skip)) (.seq (.region [
 o1 24 (.mov (tm 0)),
 o1 25 (.invoke (tm 24) "Pop" []),
 o1 4 (.mov (tm 25))]) .ret))))
def zfQ : AFunc := ⟨26, [(4, none)], zfQ_c, none⟩
theorem zfQ_t0 : tableOf Try.prog 59 = some zfQ := by kernel_rfl
theorem zfQ_t : T0 59 = some zfQ := withKept_t rfl (withTrue_t rfl zfQ_t0)
theorem zfQ_runs {v0 v1 : Value} {h : Heap} {R : RP} {X : XP} (k : RunC Try.prog T0 zfQ_c ⟨[v0, v1, U, U, U, U, U, U, U, U, U, U, U, U, U, U, U, U, U, U, U, U, U, U, U, U], [], h, none⟩ (bodyQ Try.prog T0 [(4, none)] R X)) :
 Runs Try.prog T0 (.fn 59) [v0, v1] h R X := Runs.fn zfQ_t rfl k
abbrev fn_zkcQ : FuncId := 60
def zkcQ_l0 : ACode :=
 (.seq (.region [
 o1 9 (.bin .lss (so (.binOp .lss 3 (tm 8) (tm 7) 3) 0) (tm 8) (tm 7))]) (.seq (.cond (tm 9)
 .skip
 (.exit 0)) (.seq (.block 1 (.seq (.region [
 o1 10 (.mov (tm 8)),
 o1 5 (.mov (tm 10))]) (.seq (.region [
 o1 11 (.mov (tm 1)),
 o1 12 (.mov (tm 0)),
 o1 13 (.mov (tm 5)),
 o1 14 (.indexSl 1 (tm 12) (tm 13)),
 o1 15 (.load none (tm 14)),
 o1 16 (.eq .ptr false (so (.binOp .eql 74 (tm 11) (tm 15) 74) 4) (tm 11) (tm 15))]) (.cond (tm 16)
 (.seq (.region [
 o1 17 (.mov (tm 5)),
 o1 4 (.mov (tm 17))]) .ret)
 .skip)))) (.region [
 o1 18 (.bin .add (so (.binOp .add 3 (tm 8) (.const (.int .i64 1)) 3) 3) (tm 8) (.const (.int .i64 1))),
 o1 8 (.mov (tm 18))]))))
def zkcQ_c : ACode :=
 (.seq (.region [
 o1 4 (.mov k0)]) (.seq (.seq (.region [
 o1 6 (.mov (tm 0)),
 o1 7 (.lenSl (tm 6)),
 o1 8 (.mov k0)]) (.block 0 (.loop zkcQ_l0))) (.seq (.region [
 o1 4 (.mov (.const (.int .i64 (-1))))]) .ret)))
def zkcQ : AFunc := ⟨19, [(4, none)], zkcQ_c, none⟩
theorem zkcQ_t0 : tableOf Try.prog 60 = some zkcQ := by kernel_rfl
theorem zkcQ_t : T0 60 = some zkcQ := withKept_t rfl (withTrue_t rfl zkcQ_t0)
theorem zkcQ_runs {v0 v1 : Value} {h : Heap} {R : RP} {X : XP} (k : RunC Try.prog T0 zkcQ_c ⟨[v0, v1, U, U, U, U, U, U, U, U, U, U, U, U, U, U, U, U, U], [], h, none⟩ (bodyQ Try.prog T0 [(4, none)] R X)) :
 Runs Try.prog T0 (.fn 60) [v0, v1] h R X := Runs.fn zkcQ_t rfl k
abbrev zkcQ_l0_M : List Nat := [0, 0, 0, 0, 1, 1, 0, 0, 2, 1, 1, 1, 1, 1, 1, 1, 1, 1, 1]
abbrev fn_zeQ : FuncId := 61
def zeQ_c : ACode :=
 (.seq (.region [
 o1 4 (.mov (tm 0)),
 o1 5 (.mov (tm 1)),
 o1 6 (.invoke (tm 4) "Push" [(tm 5)])]) (.region [
 o1 7 (.mov (tm 0)),
 o1 8 (.mov (tm 0)),
 o1 9 (.invoke (tm 8) "Len" []),
 o1 10 (.bin .sub (so (.binOp .sub 3 (tm 9) (.const (.int .i64 1)) 3) 3) (tm 9) (.const (.int .i64 1))),
 o1 11 (.callV (.func 69) [(tm 7), (tm 10)])]))
def zeQ : AFunc := ⟨12, [], zeQ_c, none⟩
theorem zeQ_t0 : tableOf Try.prog 61 = some zeQ := by kernel_rfl
theorem zeQ_t : T0 61 = some zeQ := withKept_t rfl (withTrue_t rfl zeQ_t0)
theorem zeQ_runs {v0 v1 : Value} {h : Heap} {R : RP} {X : XP} (k : RunC Try.prog T0 zeQ_c ⟨[v0, v1, U, U, U, U, U, U, U, U, U, U], [], h, none⟩ (bodyQ Try.prog T0 [] R X)) :
 Runs Try.prog T0 (.fn 61) [v0, v1] h R X := Runs.fn zeQ_t rfl k
def zjcQ_c : ACode :=
 (.seq (.region [
 o1 2 (.mov (.const (.slice none 0 0)))]) (.seq (.region [
 o1 3 (.mov (tm 0)),
 o1 4 (.callV (.func 70) [(.const (.slice none 0 0)), (tm 3)]),
 o1 2 (.mov (tm 4))]) .ret))
def zjcQ : AFunc := ⟨5, [(2, none)], zjcQ_c, none⟩
theorem zjcQ_t0 : tableOf Try.prog 62 = some zjcQ := by kernel_rfl
theorem zjcQ_t : T0 62 = some zjcQ := withKept_t rfl (withTrue_t rfl zjcQ_t0)
theorem zjcQ_runs {v0 : Value} {h : Heap} {R : RP} {X : XP} (k : RunC Try.prog T0 zjcQ_c ⟨[v0, U, U, U, U], [], h, none⟩ (bodyQ Try.prog T0 [(2, none)] R X)) :
 Runs Try.prog T0 (.fn 62) [v0] h R X := Runs.fn zjcQ_t rfl k
abbrev fn_zlcQ : FuncId := 63
def zlcQ_c : ACode :=
 (.seq (.region [
 o1 5 (.mov (tm 0)),
 o1 6 (.lenSl (tm 5)),
 o1 4 (.mov (tm 6))]) (.region [
 o1 7 (.mov (tm 0)),
 o1 8 (.mov (tm 4)),
 o1 9 (.mov (tm 4)),
 o1 10 (.conv .u64 (so (.convert 3 104 (tm 9)) 104) (tm 9)),
 o1 11 (.callV (.func 72) [(tm 10)]),
 o1 12 (.mov (tm 1)),
 o1 13 (.callV (.func 71) [(tm 7), k0, (tm 8), (tm 11), (tm 12)])]))
def zlcQ : AFunc := ⟨14, [], zlcQ_c, none⟩
theorem zlcQ_t0 : tableOf Try.prog 63 = some zlcQ := by kernel_rfl
theorem zlcQ_t : T0 63 = some zlcQ := withKept_t rfl (withTrue_t rfl zlcQ_t0)
theorem zlcQ_runs {v0 v1 : Value} {h : Heap} {R : RP} {X : XP} (k : RunC Try.prog T0 zlcQ_c ⟨[v0, v1, U, U, U, U, U, U, U, U, U, U, U, U], [], h, none⟩ (bodyQ Try.prog T0 [] R X)) :
 Runs Try.prog T0 (.fn 63) [v0, v1] h R X := Runs.fn zlcQ_t rfl k
abbrev fn_zocQ : FuncId := 64
def zocQ_l0 : ACode :=
 (.seq (.region [
 o1 8 (.bin .lss (so (.binOp .lss 3 (tm 7) (tm 6) 3) 0) (tm 7) (tm 6))]) (.seq (.cond (tm 8)
 .skip
 (.exit 0)) (.seq (.block 1 (.seq (.region [
 o1 9 (.indexSl 1 (tm 5) (tm 7)),
 o1 10 (.load none (tm 9)),
 o1 4 (.mov (tm 10))]) (.seq (.region [
 o1 11 (.mov (tm 0)),
 o1 12 (.mov (tm 4)),
 o1 13 (.callV (tm 11) [(tm 12)]),
 o1 14 (.raw (so (.unOp .not 4 (tm 13)) 4))]) (.cond (tm 14)
 .ret
 .skip)))) (.region [
 o1 15 (.bin .add (so (.binOp .add 3 (tm 7) (.const (.int .i64 1)) 3) 3) (tm 7) (.const (.int .i64 1))),
 o1 7 (.mov (tm 15))]))))
def zocQ_c : ACode :=
 (.seq (.region [
 o1 5 (.load none (tm 1)),
 o1 6 (.lenSl (tm 5)),
 o1 7 (.mov k0)]) (.block 0 (.loop zocQ_l0)))
def zocQ : AFunc := ⟨16, [], zocQ_c, none⟩
theorem zocQ_t0 : tableOf Try.prog 64 = some zocQ := by kernel_rfl
theorem zocQ_t : T0 64 = some zocQ := withKept_t rfl (withTrue_t rfl zocQ_t0)
theorem zocQ_runs {v0 v1 : Value} {h : Heap} {R : RP} {X : XP} (k : RunC Try.prog T0 zocQ_c ⟨[v0, v1, U, U, U, U, U, U, U, U, U, U, U, U, U, U], [], h, none⟩ (bodyQ Try.prog T0 [] R X)) :
 Runs Try.prog T0 (.fn 64) [v0, v1] h R X := Runs.fn zocQ_t rfl k
abbrev zocQ_l0_M : List Nat := [0, 0, 0, 0, 1, 0, 0, 2, 1, 1, 1, 1, 1, 1, 1, 1]
abbrev fn_zbQ : FuncId := 65
def zbQ_l0 : ACode :=
 (.seq (.region [
 o1 9 (.bin .lss (so (.binOp .lss 3 (tm 8) (tm 7) 3) 0) (tm 8) (tm 7))]) (.seq (.cond (tm 9)
 .skip
 (.exit 0)) (.seq (.block 1 (.seq (.region [
 o1 10 (.indexSl 1 (tm 6) (tm 8)),
 o1 11 (.load none (tm 10)),
 o1 5 (.mov (tm 11))]) (.seq (.region [
 o1 12 (.mov (tm 5)),
 o1 13 (.mov (tm 3)),
 o1 14 (.bin .neq (so (.binOp .neq 3 (tm 12) (tm 13) 3) 4) (tm 12) (tm 13))]) (.cond (tm 14)
 (.seq (.region [
 o1 15 (.mov (tm 5)),
 o1 2 (.mov (tm 15))]) .ret)
 .skip)))) (.region [
 o1 16 (.bin .add (so (.binOp .add 3 (tm 8) (.const (.int .i64 1)) 3) 3) (tm 8) (.const (.int .i64 1))),
 o1 8 (.mov (tm 16))]))))
def zbQ_c : ACode :=
 (.seq (.region [
 o1 2 (.mov k0)]) (.seq (.region [
 o1 3 (.mov k0)]) (.seq (.seq (.region [
 o1 6 (.mov (tm 0)),
 o1 7 (.lenSl (tm 6)),
 o1 8 (.mov k0)]) (.block 0 (.loop zbQ_l0))) (.seq (.region [
 o1 17 (.mov (tm 3)),
 o1 2 (.mov (tm 17))]) .ret))))
def zbQ : AFunc := ⟨18, [(2, none)], zbQ_c, none⟩
theorem zbQ_t0 : tableOf Try.prog 65 = some zbQ := by kernel_rfl
theorem zbQ_t : T0 65 = some zbQ := withKept_t rfl (withTrue_t rfl zbQ_t0)
theorem zbQ_runs {v0 : Value} {h : Heap} {R : RP} {X : XP} (k : RunC Try.prog T0 zbQ_c ⟨[v0, U, U, U, U, U, U, U, U, U, U, U, U, U, U, U, U, U], [], h, none⟩ (bodyQ Try.prog T0 [(2, none)] R X)) :
 Runs Try.prog T0 (.fn 65) [v0] h R X := Runs.fn zbQ_t rfl k
abbrev zbQ_l0_M : List Nat := [0, 0, 1, 0, 0, 1, 0, 0, 2, 1, 1, 1, 1, 1, 1, 1, 1, 0]
abbrev fn_zaQ : FuncId := 66
def zaQ_c : ACode :=
 (.seq (.region [
 o1 4 (.mov k0)]) (.seq (.region [
 o1 7 (.mov (tm 0)),
 o1 8 (.callV (.func 73) [(tm 7)]),
 o1 5 (.mov (tm 8))]) (.seq (.region [
 o1 9 (.mov (tm 1)),
 o1 10 (.callV (.func 73) [(tm 9)]),
 o1 6 (.mov (tm 10))]) (.seq (.seq (.region [
 o1 11 (.mov (tm 5))]) (.cond (tm 11)
 (.seq (.seq (.region [
 o1 12 (.mov (tm 6))]) (.cond (tm 12)
 (.seq (.region [
 o1 4 (.mov k0)]) .ret)
 .skip)) (.seq (.region [
 o1 4 (.mov (.const (.int .i64 (-1))))]) .ret))
 .skip)) (.seq (.seq (.region [
 o1 13 (.mov (tm 6))]) (.cond (tm 13)
 (.seq (.region [
 o1 4 (.mov (.const (.int .i64 1)))]) .ret)
 .skip)) (.seq (.seq (.region [
 o1 14 (.mov (tm 0)),
 o1 15 (.mov (tm 1)),
 o1 16 (.bin .lss (so (.binOp .lss 3 (tm 14) (tm 15) 3) 4) (tm 14) (tm 15))]) (.cond (tm 16)
 (.seq (.region [
 o1 4 (.mov (.const (.int .i64 (-1))))]) .ret)
 .skip)) (.seq (.seq (.region [
 o1 17 (.mov (tm 0)),
 o1 18 (.mov (tm 1)),
 o1 19 (.bin .gtr (so (.binOp .gtr 3 (tm 17) (tm 18) 3) 4) (tm 17) (tm 18))]) (.cond (tm 19)
 (.seq (.region [
 o1 4 (.mov (.const (.int .i64 1)))]) .ret)
 .skip)) (.seq (.region [
 o1 4 (.mov k0)]) .ret))))))))
def zaQ : AFunc := ⟨20, [(4, none)], zaQ_c, none⟩
theorem zaQ_t0 : tableOf Try.prog 66 = some zaQ := by kernel_rfl
theorem zaQ_t : T0 66 = some zaQ := withKept_t rfl (withTrue_t rfl zaQ_t0)
theorem zaQ_runs {v0 v1 : Value} {h : Heap} {R : RP} {X : XP} (k : RunC Try.prog T0 zaQ_c ⟨[v0, v1, U, U, U, U, U, U, U, U, U, U, U, U, U, U, U, U, U, U], [], h, none⟩ (bodyQ Try.prog T0 [(4, none)] R X)) :
 Runs Try.prog T0 (.fn 66) [v0, v1] h R X := Runs.fn zaQ_t rfl k
abbrev fn_zdQ : FuncId := 67
def zdQ_c : ACode :=
 (.seq (.region [
 o1 4 (.mov (tm 0)),
 o1 5 (.mov (tm 1)),
 o1 6 (.mov (tm 0)),
 o1 7 (.invoke (tm 6) "Len" []),
 o1 8 (.callV (.func 68) [(tm 4), (tm 5), (tm 7)]),
 o1 9 (.raw (so (.unOp .not 4 (tm 8)) 4))]) (.cond (tm 9)
 (.region [
 o1 10 (.mov (tm 0)),
 o1 11 (.mov (tm 1)),
 o1 12 (.callV (.func 69) [(tm 10), (tm 11)])])
 .skip))
def zdQ : AFunc := ⟨13, [], zdQ_c, none⟩
theorem zdQ_t0 : tableOf Try.prog 67 = some zdQ := by kernel_rfl
theorem zdQ_t : T0 67 = some zdQ := withKept_t rfl (withTrue_t rfl zdQ_t0)
theorem zdQ_runs {v0 v1 : Value} {h : Heap} {R : RP} {X : XP} (k : RunC Try.prog T0 zdQ_c ⟨[v0, v1, U, U, U, U, U, U, U, U, U, U, U], [], h, none⟩ (bodyQ Try.prog T0 [] R X)) :
 Runs Try.prog T0 (.fn 67) [v0, v1] h R X := Runs.fn zdQ_t rfl k
abbrev fn_zgQ : FuncId := 68
def zgQ_l0 : ACode :=
 (.block 1 (.seq (.region [
 o1 12 (.mov (tm 7)),
 o1 13 (.bin .mul (so (.binOp .mul 3 (.const (.int .i64 2)) (tm 12) 3) 3) (.const (.int .i64 2)) (tm 12)),
 o1 14 (.bin .add (so (.binOp .add 3 (tm 13) (.const (.int .i64 1)) 3) 3) (tm 13) (.const (.int .i64 1))),
 o1 8 (.mov (tm 14))]) (.seq (.seq (.region [
 o1 15 (.mov (tm 8)),
 o1 16 (.mov (tm 2)),
 o1 17 (.bin .geq (so (.binOp .geq 3 (tm 15) (tm 16) 3) 4) (tm 15) (tm 16)),
 o1 18 (.mov (tm 17)),
 o5 19 (.mov (tm 8)) 18,
 o5 20 (.bin .lss (so (.binOp .lss 3 (tm 19) k0 3) 4) (tm 19) k0) 18,
 o1 21 (.pick (tm 18) (.const (.bool true)) (tm 20))]) (.cond (tm 21)
 (.exit 0)
 .skip)) (.seq (.region [
 o1 22 (.mov (tm 8)),
 o1 9 (.mov (tm 22))]) (.seq (.seq (.region [
 o1 23 (.mov (tm 8)),
 o1 24 (.bin .add (so (.binOp .add 3 (tm 23) (.const (.int .i64 1)) 3) 3) (tm 23) (.const (.int .i64 1))),
 o1 10 (.mov (tm 24))]) (.seq (.region [
 o1 25 (.mov (tm 10)),
 o1 26 (.mov (tm 2)),
 o1 27 (.bin .lss (so (.binOp .lss 3 (tm 25) (tm 26) 3) 4) (tm 25) (tm 26)),
 o1 28 (.mov (tm 27)),
 o4 29 (.mov (tm 0)) 28,
 o4 30 (.mov (tm 10)) 28,
 o4 31 (.mov (tm 8)) 28,
 o4 32 (.invoke (tm 29) "Less" [(tm 30), (tm 31)]) 28,
 o1 33 (.pick (tm 28) (tm 32) (.const (.bool false)))]) (.cond (tm 33)
 (.region [
 o1 34 (.mov (tm 10)),
 o1 9 (.mov (tm 34))])
 .skip))) (.seq (.seq (.region [
 o1 35 (.mov (tm 0)),
 o1 36 (.mov (tm 9)),
 o1 37 (.mov (tm 7)),
 o1 38 (.invoke (tm 35) "Less" [(tm 36), (tm 37)]),
 o1 39 (.raw (so (.unOp .not 4 (tm 38)) 4))]) (.cond (tm 39)
 (.exit 0)
 .skip)) (.seq (.region [
 o1 40 (.mov (tm 0)),
 o1 41 (.mov (tm 7)),
 o1 42 (.mov (tm 9)),
 o1 43 (.invoke (tm 40) "Swap" [(tm 41), (tm 42)])]) (.region [
 o1 44 (.mov (tm 9)),
 o1 7 (.mov (tm 44))]))))))))
def zgQ_c : ACode :=
 (.seq (.region [
 o1 6 (.mov (.const (.bool false)))]) (.seq (.region [
 o1 11 (.mov (tm 1)),
 o1 7 (.mov (tm 11))]) (.seq (.block 0 (.loop zgQ_l0)) (.seq (.region [
 o1 45 (.mov (tm 7)),
 o1 46 (.mov (tm 1)),
 o1 47 (.bin .gtr (so (.binOp .gtr 3 (tm 45) (tm 46) 3) 4) (tm 45) (tm 46)),
 o1 6 (.mov (tm 47))]) .ret))))
def zgQ : AFunc := ⟨48, [(6, none)], zgQ_c, none⟩
theorem zgQ_t0 : tableOf Try.prog 68 = some zgQ := by kernel_rfl
theorem zgQ_t : T0 68 = some zgQ := withKept_t rfl (withTrue_t rfl zgQ_t0)
theorem zgQ_runs {v0 v1 v2 : Value} {h : Heap} {R : RP} {X : XP} (k : RunC Try.prog T0 zgQ_c ⟨[v0, v1, v2, U, U, U, U, U, U, U, U, U, U, U, U, U, U, U, U, U, U, U, U, U, U, U, U, U, U, U, U, U, U, U, U, U, U, U, U, U, U, U, U, U, U, U, U, U], [], h, none⟩ (bodyQ Try.prog T0 [(6, none)] R X)) :
 Runs Try.prog T0 (.fn 68) [v0, v1, v2] h R X := Runs.fn zgQ_t rfl k
abbrev zgQ_l0_M : List Nat := [0, 0, 0, 0, 0, 0, 0, 2, 1, 1, 1, 0, 1, 1, 1, 1, 1, 1, 1, 1, 1, 1, 1, 1, 1, 1, 1, 1, 1, 1, 1, 1, 1, 1, 1, 1, 1, 1, 1, 1, 1, 1, 1, 1, 1, 0, 0, 0]
abbrev fn_zhQ : FuncId := 69
def zhQ_l0 : ACode :=
 (.block 1 (.seq (.region [
 o1 5 (.mov (tm 1)),
 o1 6 (.bin .sub (so (.binOp .sub 3 (tm 5) (.const (.int .i64 1)) 3) 3) (tm 5) (.const (.int .i64 1))),
 o1 7 (.bin .quo (so (.binOp .quo 3 (tm 6) (.const (.int .i64 2)) 3) 3) (tm 6) (.const (.int .i64 2))),
 o1 4 (.mov (tm 7))]) (.seq (.seq (.region [
 o1 8 (.mov (tm 4)),
 o1 9 (.mov (tm 1)),
 o1 10 (.bin .eql (so (.binOp .eql 3 (tm 8) (tm 9) 3) 4) (tm 8) (tm 9)),
 o1 11 (.mov (tm 10)),
 o5 12 (.mov (tm 0)) 11,
 o5 13 (.mov (tm 1)) 11,
 o5 14 (.mov (tm 4)) 11,
 o5 15 (.invoke (tm 12) "Less" [(tm 13), (tm 14)]) 11,
 o5 16 (.raw (so (.unOp .not 4 (tm 15)) 4)) 11,
 o1 17 (.pick (tm 11) (.const (.bool true)) (tm 16))]) (.cond (tm 17)
 (.exit 0)
 .skip)) (.seq (.region [
 o1 18 (.mov (tm 0)),
 o1 19 (.mov (tm 4)),
 o1 20 (.mov (tm 1)),
 o1 21 (.invoke (tm 18) "Swap" [(tm 19), (tm 20)])]) (.region [
 o1 22 (.mov (tm 4)),
 o1 1 (.mov (tm 22))])))))
def zhQ_c : ACode :=
 (.block 0 (.loop zhQ_l0))
def zhQ : AFunc := ⟨23, [], zhQ_c, none⟩
theorem zhQ_t0 : tableOf Try.prog 69 = some zhQ := by kernel_rfl
theorem zhQ_t : T0 69 = some zhQ := withKept_t rfl (withTrue_t rfl zhQ_t0)
theorem zhQ_runs {v0 v1 : Value} {h : Heap} {R : RP} {X : XP} (k : RunC Try.prog T0 zhQ_c ⟨[v0, v1, U, U, U, U, U, U, U, U, U, U, U, U, U, U, U, U, U, U, U, U, U], [], h, none⟩ (bodyQ Try.prog T0 [] R X)) :
 Runs Try.prog T0 (.fn 69) [v0, v1] h R X := Runs.fn zhQ_t rfl k
abbrev zhQ_l0_M : List Nat := [0, 2, 0, 0, 1, 1, 1, 1, 1, 1, 1, 1, 1, 1, 1, 1, 1, 1, 1, 1, 1, 1, 1]
abbrev fn_zhcQ : FuncId := 70
def zhcQ_ra0 : Code := (rangeParts (subCode ((Try.prog.funcs[70]?).bind (·.body)) [true, false, true, false])).1
def zhcQ_rb0 : Code := (rangeParts (subCode ((Try.prog.funcs[70]?).bind (·.body)) [true, false, true, false])).2
def zhcQ_a0 : ACode :=
 (.region [
 o1 5 (.mov (tm 7))])
def zhcQ_b0 : ACode :=
 (.block 1 (.region [
 o1 8 (.load none (tm 2)),
 o1 9 (.mov (tm 5)),
 o1 10 (.buildSlice 74 [(.pointer none)] 1 [(0, 1, (tm 9))]),
 o1 11 (.append 74 1 8 [(.pointer none)] false (tm 8) (tm 10)),
 o3 (.store 1 (tm 2) (tm 11))]))
theorem zhcQ_ca0 : comp Try.prog zhcQ_ra0 = some zhcQ_a0 := by kernel_rfl
theorem zhcQ_cb0 : comp Try.prog zhcQ_rb0 = some zhcQ_b0 := by kernel_rfl
theorem zhcQ_na0 : noDefer zhcQ_ra0 = true := by kernel_rfl
theorem zhcQ_nb0 : noDefer zhcQ_rb0 = true := by kernel_rfl
def zhcQ_c : ACode :=
 (.seq (.region [
 o1 2 (.box 61 (tm 0)),
 o1 4 (.mov (.const (.slice none 0 0)))]) (.seq (.seq (.region [
 o1 6 (.mov (tm 1))]) (.block 0 (.rangeFunc (tm 6) [7] zhcQ_ra0 zhcQ_rb0))) (.seq (.region [
 o1 12 (.load none (tm 2)),
 o1 4 (.mov (tm 12))]) .ret)))
def zhcQ : AFunc := ⟨13, [(4, none)], zhcQ_c, none⟩
theorem zhcQ_t0 : tableOf Try.prog 70 = some zhcQ := by kernel_rfl
theorem zhcQ_t : T0 70 = some zhcQ := withKept_t rfl (withTrue_t rfl zhcQ_t0)
theorem zhcQ_runs {v0 v1 : Value} {h : Heap} {R : RP} {X : XP} (k : RunC Try.prog T0 zhcQ_c ⟨[v0, v1, U, U, U, U, U, U, U, U, U, U, U], [], h, none⟩ (bodyQ Try.prog T0 [(4, none)] R X)) :
 Runs Try.prog T0 (.fn 70) [v0, v1] h R X := Runs.fn zhcQ_t rfl k
abbrev fn_zadQ : FuncId := 71
def zadQ_l0 : ACode :=
 (.block 1 (.seq (.region [
 o1 21 (.mov (tm 2)),
 o1 22 (.mov (tm 1)),
 o1 23 (.bin .sub (so (.binOp .sub 3 (tm 21) (tm 22) 3) 3) (tm 21) (tm 22)),
 o1 12 (.mov (tm 23))]) (.seq (.seq (.region [
 o1 24 (.mov (tm 12)),
 o1 25 (.bin .leq (so (.binOp .leq 3 (tm 24) (.const (.int .i64 12)) 3) 4) (tm 24) (.const (.int .i64 12)))]) (.cond (tm 25)
 (.seq (.region [
 o1 26 (.mov (tm 0)),
 o1 27 (.mov (tm 1)),
 o1 28 (.mov (tm 2)),
 o1 29 (.mov (tm 4)),
 o1 30 (.callV (.func 74) [(tm 26), (tm 27), (tm 28), (tm 29)])]) .ret)
 .skip)) (.seq (.seq (.region [
 o1 31 (.mov (tm 3)),
 o1 32 (.bin .eql (so (.binOp .eql 3 (tm 31) k0 3) 4) (tm 31) k0)]) (.cond (tm 32)
 (.seq (.region [
 o1 33 (.mov (tm 0)),
 o1 34 (.mov (tm 1)),
 o1 35 (.mov (tm 2)),
 o1 36 (.mov (tm 4)),
 o1 37 (.callV (.func 75) [(tm 33), (tm 34), (tm 35), (tm 36)])]) .ret)
 .skip)) (.seq (.seq (.region [
 o1 38 (.mov (tm 10)),
 o1 39 (.raw (so (.unOp .not 4 (tm 38)) 4))]) (.cond (tm 39)
 (.seq (.region [
 o1 40 (.mov (tm 0)),
 o1 41 (.mov (tm 1)),
 o1 42 (.mov (tm 2)),
 o1 43 (.mov (tm 4)),
 o1 44 (.callV (.func 76) [(tm 40), (tm 41), (tm 42), (tm 43)])]) (.region [
 o1 45 (.mov (tm 3)),
 o1 46 (.bin .sub (so (.binOp .sub 3 (tm 45) (.const (.int .i64 1)) 3) 3) (tm 45) (.const (.int .i64 1))),
 o1 3 (.mov (tm 46))]))
 .skip)) (.seq (.region [
 o1 48 (.mov (tm 0)),
 o1 49 (.mov (tm 1)),
 o1 50 (.mov (tm 2)),
 o1 51 (.mov (tm 4)),
 o1 52 (.callV (.func 77) [(tm 48), (tm 49), (tm 50), (tm 51)]),
 o1 47 (.mov (tm 52)),
 o1 53 (.extract 0 (tm 47)),
 o1 54 (.extract 1 (tm 47)),
 o1 13 (.mov (tm 53)),
 o1 14 (.mov (tm 54))]) (.seq (.seq (.region [
 o1 55 (.mov (tm 14)),
 o1 56 (.bin .eql (so (.binOp .eql 107 (tm 55) (.const (.int .i64 2)) 107) 4) (tm 55) (.const (.int .i64 2)))]) (.cond (tm 56)
 (.seq (.region [
 o1 57 (.mov (tm 0)),
 o1 58 (.mov (tm 1)),
 o1 59 (.mov (tm 2)),
 o1 60 (.mov (tm 4)),
 o1 61 (.callV (.func 78) [(tm 57), (tm 58), (tm 59), (tm 60)])]) (.seq (.region [
 o1 62 (.mov (tm 2)),
 o1 63 (.bin .sub (so (.binOp .sub 3 (tm 62) (.const (.int .i64 1)) 3) 3) (tm 62) (.const (.int .i64 1))),
 o1 64 (.mov (tm 13)),
 o1 65 (.mov (tm 1)),
 o1 66 (.bin .sub (so (.binOp .sub 3 (tm 64) (tm 65) 3) 3) (tm 64) (tm 65)),
 o1 67 (.bin .sub (so (.binOp .sub 3 (tm 63) (tm 66) 3) 3) (tm 63) (tm 66)),
 o1 13 (.mov (tm 67))]) (.region [
 o1 14 (.mov (.const (.int .i64 1)))])))
 .skip)) (.seq (.seq (.region [
 o1 68 (.mov (tm 10)),
 o1 69 (.mov (tm 68)),
 o4 70 (.mov (tm 11)) 69,
 o1 71 (.pick (tm 69) (tm 70) (.const (.bool false))),
 o1 72 (.mov (tm 71)),
 o4 73 (.mov (tm 14)) 72,
 o4 74 (.bin .eql (so (.binOp .eql 107 (tm 73) (.const (.int .i64 1)) 107) 4) (tm 73) (.const (.int .i64 1))) 72,
 o1 75 (.pick (tm 72) (tm 74) (.const (.bool false)))]) (.cond (tm 75)
 (.seq (.region [
 o1 76 (.mov (tm 0)),
 o1 77 (.mov (tm 1)),
 o1 78 (.mov (tm 2)),
 o1 79 (.mov (tm 4)),
 o1 80 (.callV (.func 79) [(tm 76), (tm 77), (tm 78), (tm 79)])]) (.cond (tm 80)
 .ret
 .skip))
 .skip)) (.seq (.seq (.regionD [
 o2 81 (.mov (tm 1)),
 o2 82 (.bin .gtr (so (.binOp .gtr 3 (tm 81) k0 3) 4) (tm 81) k0),
 o2 83 (.mov (tm 82)),
 o4 84 (.mov (tm 4)) 83,
 o4 85 (.mov (tm 0)) 83,
 o4 86 (.mov (tm 1)) 83,
 o4 87 (.bin .sub (so (.binOp .sub 3 (tm 86) (.const (.int .i64 1)) 3) 3) (tm 86) (.const (.int .i64 1))) 83,
 o4 88 (.indexSl 1 (tm 85) (tm 87)) 83,
 o4 89 (.load none (tm 88)) 83,
 o4 90 (.mov (tm 0)) 83,
 o4 91 (.mov (tm 13)) 83,
 o4 92 (.indexSl 1 (tm 90) (tm 91)) 83,
 o4 93 (.load none (tm 92)) 83,
 ⟨some 94, .callV (tm 84) [(tm 89), (tm 93)], some (83, true), [], true⟩,
 ⟨some 95, .bin .lss (so (.binOp .lss 3 (tm 94) k0 3) 4) (tm 94) k0, some (83, true), [], true⟩,
 ⟨some 96, .raw (so (.unOp .not 4 (tm 95)) 4), some (83, true), [], true⟩,
 o2 97 (.pick (tm 83) (tm 96) (.const (.bool false)))]) (.cond (tm 97)
 (.seq (.region [
 o1 98 (.mov (tm 0)),
 o1 99 (.mov (tm 1)),
 o1 100 (.mov (tm 2)),
 o1 101 (.mov (tm 13)),
 o1 102 (.mov (tm 4)),
 o1 103 (.callV (.func 80) [(tm 98), (tm 99), (tm 100), (tm 101), (tm 102)]),
 o1 15 (.mov (tm 103))]) (.seq (.region [
 o1 104 (.mov (tm 15)),
 o1 1 (.mov (tm 104))]) (.exit 1)))
 .skip)) (.seq (.region [
 o1 106 (.mov (tm 0)),
 o1 107 (.mov (tm 1)),
 o1 108 (.mov (tm 2)),
 o1 109 (.mov (tm 13)),
 o1 110 (.mov (tm 4)),
 o1 111 (.callV (.func 81) [(tm 106), (tm 107), (tm 108), (tm 109), (tm 110)]),
 o1 105 (.mov (tm 111)),
 o1 112 (.extract 0 (tm 105)),
 o1 113 (.extract 1 (tm 105)),
 o1 16 (.mov (tm 112)),
 o1 17 (.mov (tm 113))]) (.seq (.region [
 o1 114 (.mov (tm 17)),
 o1 11 (.mov (tm 114))]) (.seq (.region [
 o1 115 (.mov (tm 16)),
 o1 116 (.mov (tm 1)),
 o1 117 (.bin .sub (so (.binOp .sub 3 (tm 115) (tm 116) 3) 3) (tm 115) (tm 116)),
 o1 118 (.mov (tm 2)),
 o1 119 (.mov (tm 16)),
 o1 120 (.bin .sub (so (.binOp .sub 3 (tm 118) (tm 119) 3) 3) (tm 118) (tm 119)),
 o1 18 (.mov (tm 117)),
 o1 19 (.mov (tm 120))]) (.seq (.region [
 o1 121 (.mov (tm 12)),
 o1 122 (.bin .quo (so (.binOp .quo 3 (tm 121) (.const (.int .i64 8)) 3) 3) (tm 121) (.const (.int .i64 8))),
 o1 20 (.mov (tm 122))]) (.seq (.region [
 o1 123 (.mov (tm 18)),
 o1 124 (.mov (tm 19)),
 o1 125 (.bin .lss (so (.binOp .lss 3 (tm 123) (tm 124) 3) 4) (tm 123) (tm 124))]) (.cond (tm 125)
 (.seq (.region [
 o1 126 (.mov (tm 18)),
 o1 127 (.mov (tm 20)),
 o1 128 (.bin .geq (so (.binOp .geq 3 (tm 126) (tm 127) 3) 4) (tm 126) (tm 127)),
 o1 10 (.mov (tm 128))]) (.seq (.region [
 o1 129 (.mov (tm 0)),
 o1 130 (.mov (tm 1)),
 o1 131 (.mov (tm 16)),
 o1 132 (.mov (tm 3)),
 o1 133 (.mov (tm 4)),
 o1 134 (.callV (.func 71) [(tm 129), (tm 130), (tm 131), (tm 132), (tm 133)])]) (.region [
 o1 135 (.mov (tm 16)),
 o1 136 (.bin .add (so (.binOp .add 3 (tm 135) (.const (.int .i64 1)) 3) 3) (tm 135) (.const (.int .i64 1))),
 o1 1 (.mov (tm 136))])))
 (.seq (.region [
 o1 137 (.mov (tm 19)),
 o1 138 (.mov (tm 20)),
 o1 139 (.bin .geq (so (.binOp .geq 3 (tm 137) (tm 138) 3) 4) (tm 137) (tm 138)),
 o1 10 (.mov (tm 139))]) (.seq (.region [
 o1 140 (.mov (tm 0)),
 o1 141 (.mov (tm 16)),
 o1 142 (.bin .add (so (.binOp .add 3 (tm 141) (.const (.int .i64 1)) 3) 3) (tm 141) (.const (.int .i64 1))),
 o1 143 (.mov (tm 2)),
 o1 144 (.mov (tm 3)),
 o1 145 (.mov (tm 4)),
 o1 146 (.callV (.func 71) [(tm 140), (tm 142), (tm 143), (tm 144), (tm 145)])]) (.region [
 o1 147 (.mov (tm 16)),
 o1 2 (.mov (tm 147))]))))))))))))))))))
def zadQ_c : ACode :=
 (.seq (.region [
 o1 10 (.mov (.const (.bool true)))]) (.seq (.region [
 o1 11 (.mov (.const (.bool true)))]) (.block 0 (.loop zadQ_l0))))
def zadQ : AFunc := ⟨148, [], zadQ_c, none⟩
theorem zadQ_t0 : tableOf Try.prog 71 = some zadQ := by kernel_rfl
theorem zadQ_t : T0 71 = some zadQ := withKept_t rfl (withTrue_t rfl zadQ_t0)
theorem zadQ_runs {v0 v1 v2 v3 v4 : Value} {h : Heap} {R : RP} {X : XP} (k : RunC Try.prog T0 zadQ_c ⟨[v0, v1, v2, v3, v4, U, U, U, U, U, U, U, U, U, U, U, U, U, U, U, U, U, U, U, U, U, U, U, U, U, U, U, U, U, U, U, U, U, U, U, U, U, U, U, U, U, U, U, U, U, U, U, U, U, U, U, U, U, U, U, U, U, U, U, U, U, U, U, U, U, U, U, U, U, U, U, U, U, U, U, U, U, U, U, U, U, U, U, U, U, U, U, U, U, U, U, U, U, U, U, U, U, U, U, U, U, U, U, U, U, U, U, U, U, U, U, U, U, U, U, U, U, U, U, U, U, U, U, U, U, U, U, U, U, U, U, U, U, U, U, U, U, U, U, U, U, U, U], [], h, none⟩ (bodyQ Try.prog T0 [] R X)) :
 Runs Try.prog T0 (.fn 71) [v0, v1, v2, v3, v4] h R X := Runs.fn zadQ_t rfl k
abbrev zadQ_l0_M : List Nat := [0, 2, 2, 2, 0, 0, 0, 0, 0, 0, 2, 2, 1, 1, 1, 1, 1, 1, 1, 1, 1, 1, 1, 1, 1, 1, 1, 1, 1, 1, 1, 1, 1, 1, 1, 1, 1, 1, 1, 1, 1, 1, 1, 1, 1, 1, 1, 1, 1, 1, 1, 1, 1, 1, 1, 1, 1, 1, 1, 1, 1, 1, 1, 1, 1, 1, 1, 1, 1, 1, 1, 1, 1, 1, 1, 1, 1, 1, 1, 1, 1, 1, 1, 1, 1, 1, 1, 1, 1, 1, 1, 1, 1, 1, 1, 1, 1, 1, 1, 1, 1, 1, 1, 1, 1, 1, 1, 1, 1, 1, 1, 1, 1, 1, 1, 1, 1, 1, 1, 1, 1, 1, 1, 1, 1, 1, 1, 1, 1, 1, 1, 1, 1, 1, 1, 1, 1, 1, 1, 1, 1, 1, 1, 1, 1, 1, 1, 1]
abbrev fn_zecQ : FuncId := 72
def zecQ_c : ACode :=
 (.seq (.region [
 o1 2 (.mov k0)]) (.seq (.cond (.const (.bool false))
 (.seq (.region [
 o1 3 (.mov (tm 0)),
 o1 4 (.conv .u32 (so (.convert 104 114 (tm 3)) 114) (tm 3)),
 o1 5 (.callV (.func 82) [(tm 4)]),
 o1 2 (.mov (tm 5))]) .ret)
 .skip) (.seq (.region [
 o1 6 (.mov (tm 0)),
 o1 7 (.callV (.func 83) [(tm 6)]),
 o1 2 (.mov (tm 7))]) .ret)))
def zecQ : AFunc := ⟨8, [(2, none)], zecQ_c, none⟩
theorem zecQ_t0 : tableOf Try.prog 72 = some zecQ := by kernel_rfl
theorem zecQ_t : T0 72 = some zecQ := withKept_t rfl (withTrue_t rfl zecQ_t0)
theorem zecQ_runs {v0 : Value} {h : Heap} {R : RP} {X : XP} (k : RunC Try.prog T0 zecQ_c ⟨[v0, U, U, U, U, U, U, U], [], h, none⟩ (bodyQ Try.prog T0 [(2, none)] R X)) :
 Runs Try.prog T0 (.fn 72) [v0] h R X := Runs.fn zecQ_t rfl k
abbrev fn_zcQ : FuncId := 73
def zcQ_c : ACode :=
 (.seq (.region [
 o1 2 (.mov (.const (.bool false)))]) (.seq (.region [
 o1 3 (.mov (tm 0)),
 o1 4 (.mov (tm 0)),
 o1 5 (.bin .neq (so (.binOp .neq 3 (tm 3) (tm 4) 3) 4) (tm 3) (tm 4)),
 o1 2 (.mov (tm 5))]) .ret))
def zcQ : AFunc := ⟨6, [(2, none)], zcQ_c, none⟩
theorem zcQ_t0 : tableOf Try.prog 73 = some zcQ := by kernel_rfl
theorem zcQ_t : T0 73 = some zcQ := withKept_t rfl (withTrue_t rfl zcQ_t0)
theorem zcQ_runs {v0 : Value} {h : Heap} {R : RP} {X : XP} (k : RunC Try.prog T0 zcQ_c ⟨[v0, U, U, U, U, U], [], h, none⟩ (bodyQ Try.prog T0 [(2, none)] R X)) :
 Runs Try.prog T0 (.fn 73) [v0] h R X := Runs.fn zcQ_t rfl k
abbrev fn_zscQ : FuncId := 74
def zscQ_l0 : ACode :=
 (.seq (.seq (.regionD [
 o1 18 (.mov (tm 9)),
 o1 19 (.mov (tm 1)),
 o2 20 (.bin .gtr (so (.binOp .gtr 3 (tm 18) (tm 19) 3) 4) (tm 18) (tm 19)),
 o2 21 (.mov (tm 20)),
 o4 22 (.mov (tm 3)) 21,
 o4 23 (.mov (tm 0)) 21,
 o4 24 (.mov (tm 9)) 21,
 o4 25 (.indexSl 1 (tm 23) (tm 24)) 21,
 o4 26 (.load none (tm 25)) 21,
 o4 27 (.mov (tm 0)) 21,
 o4 28 (.mov (tm 9)) 21,
 o4 29 (.bin .sub (so (.binOp .sub 3 (tm 28) (.const (.int .i64 1)) 3) 3) (tm 28) (.const (.int .i64 1))) 21,
 o4 30 (.indexSl 1 (tm 27) (tm 29)) 21,
 o4 31 (.load none (tm 30)) 21,
 ⟨some 32, .callV (tm 22) [(tm 26), (tm 31)], some (21, true), [], true⟩,
 ⟨some 33, .bin .lss (so (.binOp .lss 3 (tm 32) k0 3) 4) (tm 32) k0, some (21, true), [], true⟩,
 o2 34 (.pick (tm 21) (tm 33) (.const (.bool false)))]) (.cond (tm 34)
 .skip
 (.exit 2))) (.seq (.block 3 (.regionD [
 o1 37 (.mov (tm 0)),
 o1 38 (.mov (tm 9)),
 o1 39 (.mov (tm 0)),
 o1 40 (.mov (tm 9)),
 o1 41 (.bin .sub (so (.binOp .sub 3 (tm 40) (.const (.int .i64 1)) 3) 3) (tm 40) (.const (.int .i64 1))),
 o1 42 (.mov (tm 0)),
 o1 43 (.mov (tm 9)),
 o1 44 (.bin .sub (so (.binOp .sub 3 (tm 43) (.const (.int .i64 1)) 3) 3) (tm 43) (.const (.int .i64 1))),
 o1 45 (.indexSl 1 (tm 42) (tm 44)),
 o1 46 (.load none (tm 45)),
 o1 47 (.mov (tm 0)),
 o1 48 (.mov (tm 9)),
 o1 49 (.indexSl 1 (tm 47) (tm 48)),
 o1 50 (.load none (tm 49)),
 o1 51 (.indexSl 1 (tm 37) (tm 38)),
 ⟨none, .store 1 (tm 51) (tm 46), none, [(some 41, .bin .sub (so (.binOp .sub 3 (tm 40) (.const (.int .i64 1)) 3) 3) (tm 40) (.const (.int .i64 1)), none), (some 40, .mov (tm 9), none), (some 39, .mov (tm 0), none)], false⟩,
 o2 52 (.indexSl 1 (tm 39) (tm 41)),
 ⟨none, .store 1 (tm 52) (tm 50), none, [], true⟩])) (.region [
 o1 35 (.mov (tm 9)),
 o1 36 (.bin .sub (so (.binOp .sub 3 (tm 35) (.const (.int .i64 1)) 3) 3) (tm 35) (.const (.int .i64 1))),
 o1 9 (.mov (tm 36))])))
def zscQ_l1 : ACode :=
 (.seq (.seq (.region [
 o1 12 (.mov (tm 8)),
 o1 13 (.mov (tm 2)),
 o1 14 (.bin .lss (so (.binOp .lss 3 (tm 12) (tm 13) 3) 4) (tm 12) (tm 13))]) (.cond (tm 14)
 .skip
 (.exit 0))) (.seq (.block 1 (.seq (.region [
 o1 17 (.mov (tm 8)),
 o1 9 (.mov (tm 17))]) (.block 2 (.loop zscQ_l0)))) (.region [
 o1 15 (.mov (tm 8)),
 o1 16 (.bin .add (so (.binOp .add 3 (tm 15) (.const (.int .i64 1)) 3) 3) (tm 15) (.const (.int .i64 1))),
 o1 8 (.mov (tm 16))])))
def zscQ_c : ACode :=
 (.seq (.region [
 o1 10 (.mov (tm 1)),
 o1 11 (.bin .add (so (.binOp .add 3 (tm 10) (.const (.int .i64 1)) 3) 3) (tm 10) (.const (.int .i64 1))),
 o1 8 (.mov (tm 11))]) (.block 0 (.loop zscQ_l1)))
def zscQ : AFunc := ⟨53, [], zscQ_c, none⟩
theorem zscQ_t0 : tableOf Try.prog 74 = some zscQ := by kernel_rfl
theorem zscQ_t : T0 74 = some zscQ := withKept_t rfl (withTrue_t rfl zscQ_t0)
theorem zscQ_runs {v0 v1 v2 v3 : Value} {h : Heap} {R : RP} {X : XP} (k : RunC Try.prog T0 zscQ_c ⟨[v0, v1, v2, v3, U, U, U, U, U, U, U, U, U, U, U, U, U, U, U, U, U, U, U, U, U, U, U, U, U, U, U, U, U, U, U, U, U, U, U, U, U, U, U, U, U, U, U, U, U, U, U, U, U], [], h, none⟩ (bodyQ Try.prog T0 [] R X)) :
 Runs Try.prog T0 (.fn 74) [v0, v1, v2, v3] h R X := Runs.fn zscQ_t rfl k
abbrev zscQ_l0_M : List Nat := [0, 0, 0, 0, 0, 0, 0, 0, 0, 2, 0, 0, 0, 0, 0, 0, 0, 0, 1, 1, 1, 1, 1, 1, 1, 1, 1, 1, 1, 1, 1, 1, 1, 1, 1, 1, 1, 1, 1, 1, 1, 1, 1, 1, 1, 1, 1, 1, 1, 1, 1, 1, 1]
abbrev zscQ_l1_M : List Nat := [0, 0, 0, 0, 0, 0, 0, 0, 2, 1, 0, 0, 1, 1, 1, 1, 1, 1, 1, 1, 1, 1, 1, 1, 1, 1, 1, 1, 1, 1, 1, 1, 1, 1, 1, 1, 1, 1, 1, 1, 1, 1, 1, 1, 1, 1, 1, 1, 1, 1, 1, 1, 1]
abbrev fn_zrcQ : FuncId := 75
def zrcQ_l0 : ACode :=
 (.seq (.seq (.region [
 o1 20 (.mov (tm 11)),
 o1 21 (.bin .geq (so (.binOp .geq 3 (tm 20) k0 3) 4) (tm 20) k0)]) (.cond (tm 21)
 .skip
 (.exit 0))) (.seq (.block 1 (.region [
 o1 24 (.mov (tm 0)),
 o1 25 (.mov (tm 11)),
 o1 26 (.mov (tm 10)),
 o1 27 (.mov (tm 8)),
 o1 28 (.mov (tm 3)),
 o1 29 (.callV (.func 84) [(tm 24), (tm 25), (tm 26), (tm 27), (tm 28)])])) (.region [
 o1 22 (.mov (tm 11)),
 o1 23 (.bin .sub (so (.binOp .sub 3 (tm 22) (.const (.int .i64 1)) 3) 3) (tm 22) (.const (.int .i64 1))),
 o1 11 (.mov (tm 23))])))
def zrcQ_l1 : ACode :=
 (.seq (.seq (.region [
 o1 32 (.mov (tm 12)),
 o1 33 (.bin .geq (so (.binOp .geq 3 (tm 32) k0 3) 4) (tm 32) k0)]) (.cond (tm 33)
 .skip
 (.exit 2))) (.seq (.block 3 (.seq (.regionD [
 o1 36 (.mov (tm 0)),
 o1 37 (.mov (tm 8)),
 o1 38 (.mov (tm 0)),
 o1 39 (.mov (tm 8)),
 o1 40 (.mov (tm 12)),
 o1 41 (.bin .add (so (.binOp .add 3 (tm 39) (tm 40) 3) 3) (tm 39) (tm 40)),
 o1 42 (.mov (tm 0)),
 o1 43 (.mov (tm 8)),
 o1 44 (.mov (tm 12)),
 o1 45 (.bin .add (so (.binOp .add 3 (tm 43) (tm 44) 3) 3) (tm 43) (tm 44)),
 o1 46 (.indexSl 1 (tm 42) (tm 45)),
 o1 47 (.load none (tm 46)),
 o1 48 (.mov (tm 0)),
 o1 49 (.mov (tm 8)),
 o1 50 (.indexSl 1 (tm 48) (tm 49)),
 o1 51 (.load none (tm 50)),
 o1 52 (.indexSl 1 (tm 36) (tm 37)),
 ⟨none, .store 1 (tm 52) (tm 47), none, [(some 41, .bin .add (so (.binOp .add 3 (tm 39) (tm 40) 3) 3) (tm 39) (tm 40), none), (some 40, .mov (tm 12), none), (some 39, .mov (tm 8), none), (some 38, .mov (tm 0), none)], false⟩,
 o2 53 (.indexSl 1 (tm 38) (tm 41)),
 ⟨none, .store 1 (tm 53) (tm 51), none, [], true⟩]) (.region [
 o1 54 (.mov (tm 0)),
 o1 55 (.mov (tm 9)),
 o1 56 (.mov (tm 12)),
 o1 57 (.mov (tm 8)),
 o1 58 (.mov (tm 3)),
 o1 59 (.callV (.func 84) [(tm 54), (tm 55), (tm 56), (tm 57), (tm 58)])]))) (.region [
 o1 34 (.mov (tm 12)),
 o1 35 (.bin .sub (so (.binOp .sub 3 (tm 34) (.const (.int .i64 1)) 3) 3) (tm 34) (.const (.int .i64 1))),
 o1 12 (.mov (tm 35))])))
def zrcQ_c : ACode :=
 (.seq (.region [
 o1 13 (.mov (tm 1)),
 o1 8 (.mov (tm 13))]) (.seq (.region [
 o1 9 (.mov k0)]) (.seq (.region [
 o1 14 (.mov (tm 2)),
 o1 15 (.mov (tm 1)),
 o1 16 (.bin .sub (so (.binOp .sub 3 (tm 14) (tm 15) 3) 3) (tm 14) (tm 15)),
 o1 10 (.mov (tm 16))]) (.seq (.seq (.region [
 o1 17 (.mov (tm 10)),
 o1 18 (.bin .sub (so (.binOp .sub 3 (tm 17) (.const (.int .i64 1)) 3) 3) (tm 17) (.const (.int .i64 1))),
 o1 19 (.bin .quo (so (.binOp .quo 3 (tm 18) (.const (.int .i64 2)) 3) 3) (tm 18) (.const (.int .i64 2))),
 o1 11 (.mov (tm 19))]) (.block 0 (.loop zrcQ_l0))) (.seq (.region [
 o1 30 (.mov (tm 10)),
 o1 31 (.bin .sub (so (.binOp .sub 3 (tm 30) (.const (.int .i64 1)) 3) 3) (tm 30) (.const (.int .i64 1))),
 o1 12 (.mov (tm 31))]) (.block 2 (.loop zrcQ_l1)))))))
def zrcQ : AFunc := ⟨60, [], zrcQ_c, none⟩
theorem zrcQ_t0 : tableOf Try.prog 75 = some zrcQ := by kernel_rfl
theorem zrcQ_t : T0 75 = some zrcQ := withKept_t rfl (withTrue_t rfl zrcQ_t0)
theorem zrcQ_runs {v0 v1 v2 v3 : Value} {h : Heap} {R : RP} {X : XP} (k : RunC Try.prog T0 zrcQ_c ⟨[v0, v1, v2, v3, U, U, U, U, U, U, U, U, U, U, U, U, U, U, U, U, U, U, U, U, U, U, U, U, U, U, U, U, U, U, U, U, U, U, U, U, U, U, U, U, U, U, U, U, U, U, U, U, U, U, U, U, U, U, U, U], [], h, none⟩ (bodyQ Try.prog T0 [] R X)) :
 Runs Try.prog T0 (.fn 75) [v0, v1, v2, v3] h R X := Runs.fn zrcQ_t rfl k
abbrev zrcQ_l0_M : List Nat := [0, 0, 0, 0, 0, 0, 0, 0, 0, 0, 0, 2, 0, 0, 0, 0, 0, 0, 0, 0, 1, 1, 1, 1, 1, 1, 1, 1, 1, 1, 0, 0, 0, 0, 0, 0, 0, 0, 0, 0, 0, 0, 0, 0, 0, 0, 0, 0, 0, 0, 0, 0, 0, 0, 0, 0, 0, 0, 0, 0]
abbrev zrcQ_l1_M : List Nat := [0, 0, 0, 0, 0, 0, 0, 0, 0, 0, 0, 0, 2, 0, 0, 0, 0, 0, 0, 0, 0, 0, 0, 0, 0, 0, 0, 0, 0, 0, 0, 0, 1, 1, 1, 1, 1, 1, 1, 1, 1, 1, 1, 1, 1, 1, 1, 1, 1, 1, 1, 1, 1, 1, 1, 1, 1, 1, 1, 1]
abbrev fn_zpcQ : FuncId := 76
def zpcQ_l0 : ACode :=
 (.seq (.seq (.region [
 o1 28 (.mov (tm 11)),
 o1 29 (.mov (tm 1)),
 o1 30 (.mov (tm 8)),
 o1 31 (.bin .quo (so (.binOp .quo 3 (tm 30) (.const (.int .i64 4)) 3) 3) (tm 30) (.const (.int .i64 4))),
 o1 32 (.bin .mul (so (.binOp .mul 3 (tm 31) (.const (.int .i64 2)) 3) 3) (tm 31) (.const (.int .i64 2))),
 o1 33 (.bin .add (so (.binOp .add 3 (tm 29) (tm 32) 3) 3) (tm 29) (tm 32)),
 o1 34 (.bin .add (so (.binOp .add 3 (tm 33) (.const (.int .i64 1)) 3) 3) (tm 33) (.const (.int .i64 1))),
 o1 35 (.bin .leq (so (.binOp .leq 3 (tm 28) (tm 34) 3) 4) (tm 28) (tm 34))]) (.cond (tm 35)
 .skip
 (.exit 0))) (.seq (.block 1 (.seq (.region [
 o1 38 (.callV (.func 86) [(tm 9)]),
 o1 39 (.mov (tm 10)),
 o1 40 (.bin .sub (so (.binOp .sub 104 (tm 39) (.const (.int .u64 1)) 104) 104) (tm 39) (.const (.int .u64 1))),
 o1 41 (.bin .and (so (.binOp .and 104 (tm 38) (tm 40) 104) 104) (tm 38) (tm 40)),
 o1 42 (.conv .i64 (so (.convert 104 3 (tm 41)) 3) (tm 41)),
 o1 12 (.mov (tm 42))]) (.seq (.seq (.region [
 o1 43 (.mov (tm 12)),
 o1 44 (.mov (tm 8)),
 o1 45 (.bin .geq (so (.binOp .geq 3 (tm 43) (tm 44) 3) 4) (tm 43) (tm 44))]) (.cond (tm 45)
 (.region [
 o1 46 (.mov (tm 12)),
 o1 47 (.mov (tm 8)),
 o1 48 (.bin .sub (so (.binOp .sub 3 (tm 46) (tm 47) 3) 3) (tm 46) (tm 47)),
 o1 12 (.mov (tm 48))])
 .skip)) (.regionD [
 o1 49 (.mov (tm 0)),
 o1 50 (.mov (tm 11)),
 o1 51 (.mov (tm 0)),
 o1 52 (.mov (tm 1)),
 o1 53 (.mov (tm 12)),
 o1 54 (.bin .add (so (.binOp .add 3 (tm 52) (tm 53) 3) 3) (tm 52) (tm 53)),
 o1 55 (.mov (tm 0)),
 o1 56 (.mov (tm 1)),
 o1 57 (.mov (tm 12)),
 o1 58 (.bin .add (so (.binOp .add 3 (tm 56) (tm 57) 3) 3) (tm 56) (tm 57)),
 o1 59 (.indexSl 1 (tm 55) (tm 58)),
 o1 60 (.load none (tm 59)),
 o1 61 (.mov (tm 0)),
 o1 62 (.mov (tm 11)),
 o1 63 (.indexSl 1 (tm 61) (tm 62)),
 o1 64 (.load none (tm 63)),
 o1 65 (.indexSl 1 (tm 49) (tm 50)),
 ⟨none, .store 1 (tm 65) (tm 60), none, [(some 54, .bin .add (so (.binOp .add 3 (tm 52) (tm 53) 3) 3) (tm 52) (tm 53), none), (some 53, .mov (tm 12), none), (some 52, .mov (tm 1), none), (some 51, .mov (tm 0), none)], false⟩,
 o2 66 (.indexSl 1 (tm 51) (tm 54)),
 ⟨none, .store 1 (tm 66) (tm 64), none, [], true⟩])))) (.region [
 o1 36 (.mov (tm 11)),
 o1 37 (.bin .add (so (.binOp .add 3 (tm 36) (.const (.int .i64 1)) 3) 3) (tm 36) (.const (.int .i64 1))),
 o1 11 (.mov (tm 37))])))
def zpcQ_c : ACode :=
 (.seq (.region [
 o1 13 (.mov (tm 2)),
 o1 14 (.mov (tm 1)),
 o1 15 (.bin .sub (so (.binOp .sub 3 (tm 13) (tm 14) 3) 3) (tm 13) (tm 14)),
 o1 8 (.mov (tm 15))]) (.seq (.region [
 o1 16 (.mov (tm 8)),
 o1 17 (.bin .geq (so (.binOp .geq 3 (tm 16) (.const (.int .i64 8)) 3) 4) (tm 16) (.const (.int .i64 8)))]) (.cond (tm 17)
 (.seq (.region [
 o1 18 (.mov (tm 8)),
 o1 19 (.conv .u64 (so (.convert 3 117 (tm 18)) 117) (tm 18)),
 o1 9 (.alloc 117 [(.int .u64 0)]),
 o3 (.store 1 (tm 9) (tm 19))]) (.seq (.region [
 o1 20 (.mov (tm 8)),
 o1 21 (.callV (.func 85) [(tm 20)]),
 o1 10 (.mov (tm 21))]) (.seq (.region [
 o1 22 (.mov (tm 1)),
 o1 23 (.mov (tm 8)),
 o1 24 (.bin .quo (so (.binOp .quo 3 (tm 23) (.const (.int .i64 4)) 3) 3) (tm 23) (.const (.int .i64 4))),
 o1 25 (.bin .mul (so (.binOp .mul 3 (tm 24) (.const (.int .i64 2)) 3) 3) (tm 24) (.const (.int .i64 2))),
 o1 26 (.bin .add (so (.binOp .add 3 (tm 22) (tm 25) 3) 3) (tm 22) (tm 25)),
 o1 27 (.bin .sub (so (.binOp .sub 3 (tm 26) (.const (.int .i64 1)) 3) 3) (tm 26) (.const (.int .i64 1))),
 o1 11 (.mov (tm 27))]) (.block 0 (.loop zpcQ_l0)))))
 .skip)))
def zpcQ : AFunc := ⟨67, [], zpcQ_c, none⟩
theorem zpcQ_t0 : tableOf Try.prog 76 = some zpcQ := by kernel_rfl
theorem zpcQ_t : T0 76 = some zpcQ := withKept_t rfl (withTrue_t rfl zpcQ_t0)
theorem zpcQ_runs {v0 v1 v2 v3 : Value} {h : Heap} {R : RP} {X : XP} (k : RunC Try.prog T0 zpcQ_c ⟨[v0, v1, v2, v3, U, U, U, U, U, U, U, U, U, U, U, U, U, U, U, U, U, U, U, U, U, U, U, U, U, U, U, U, U, U, U, U, U, U, U, U, U, U, U, U, U, U, U, U, U, U, U, U, U, U, U, U, U, U, U, U, U, U, U, U, U, U, U], [], h, none⟩ (bodyQ Try.prog T0 [] R X)) :
 Runs Try.prog T0 (.fn 76) [v0, v1, v2, v3] h R X := Runs.fn zpcQ_t rfl k
abbrev zpcQ_l0_M : List Nat := [0, 0, 0, 0, 0, 0, 0, 0, 0, 0, 0, 2, 1, 0, 0, 0, 0, 0, 0, 0, 0, 0, 0, 0, 0, 0, 0, 0, 1, 1, 1, 1, 1, 1, 1, 1, 1, 1, 1, 1, 1, 1, 1, 1, 1, 1, 1, 1, 1, 1, 1, 1, 1, 1, 1, 1, 1, 1, 1, 1, 1, 1, 1, 1, 1, 1, 1]
abbrev fn_zqcQ : FuncId := 77
def zqcQ_c : ACode :=
 (.seq (.region [
 o1 8 (.mov k0),
 o1 9 (.mov k0)]) (.seq (.region [
 o1 15 (.mov (tm 2)),
 o1 16 (.mov (tm 1)),
 o1 17 (.bin .sub (so (.binOp .sub 3 (tm 15) (tm 16) 3) 3) (tm 15) (tm 16)),
 o1 10 (.mov (tm 17))]) (.seq (.region [
 o1 11 (.alloc 3 [(.int .i64 0)])]) (.seq (.region [
 o1 18 (.mov (tm 1)),
 o1 19 (.mov (tm 10)),
 o1 20 (.bin .quo (so (.binOp .quo 3 (tm 19) (.const (.int .i64 4)) 3) 3) (tm 19) (.const (.int .i64 4))),
 o1 21 (.bin .mul (so (.binOp .mul 3 (tm 20) (.const (.int .i64 1)) 3) 3) (tm 20) (.const (.int .i64 1))),
 o1 22 (.bin .add (so (.binOp .add 3 (tm 18) (tm 21) 3) 3) (tm 18) (tm 21)),
 o1 12 (.mov (tm 22))]) (.seq (.region [
 o1 23 (.mov (tm 1)),
 o1 24 (.mov (tm 10)),
 o1 25 (.bin .quo (so (.binOp .quo 3 (tm 24) (.const (.int .i64 4)) 3) 3) (tm 24) (.const (.int .i64 4))),
 o1 26 (.bin .mul (so (.binOp .mul 3 (tm 25) (.const (.int .i64 2)) 3) 3) (tm 25) (.const (.int .i64 2))),
 o1 27 (.bin .add (so (.binOp .add 3 (tm 23) (tm 26) 3) 3) (tm 23) (tm 26)),
 o1 13 (.mov (tm 27))]) (.seq (.region [
 o1 28 (.mov (tm 1)),
 o1 29 (.mov (tm 10)),
 o1 30 (.bin .quo (so (.binOp .quo 3 (tm 29) (.const (.int .i64 4)) 3) 3) (tm 29) (.const (.int .i64 4))),
 o1 31 (.bin .mul (so (.binOp .mul 3 (tm 30) (.const (.int .i64 3)) 3) 3) (tm 30) (.const (.int .i64 3))),
 o1 32 (.bin .add (so (.binOp .add 3 (tm 28) (tm 31) 3) 3) (tm 28) (tm 31)),
 o1 14 (.mov (tm 32))]) (.seq (.seq (.region [
 o1 33 (.mov (tm 10)),
 o1 34 (.bin .geq (so (.binOp .geq 3 (tm 33) (.const (.int .i64 8)) 3) 4) (tm 33) (.const (.int .i64 8)))]) (.cond (tm 34)
 (.seq (.seq (.region [
 o1 35 (.mov (tm 10)),
 o1 36 (.bin .geq (so (.binOp .geq 3 (tm 35) (.const (.int .i64 50)) 3) 4) (tm 35) (.const (.int .i64 50)))]) (.cond (tm 36)
 (.seq (.region [
 o1 37 (.mov (tm 0)),
 o1 38 (.mov (tm 12)),
 o1 39 (.mov (tm 3)),
 o1 40 (.callV (.func 87) [(tm 37), (tm 38), (tm 11), (tm 39)]),
 o1 12 (.mov (tm 40))]) (.seq (.region [
 o1 41 (.mov (tm 0)),
 o1 42 (.mov (tm 13)),
 o1 43 (.mov (tm 3)),
 o1 44 (.callV (.func 87) [(tm 41), (tm 42), (tm 11), (tm 43)]),
 o1 13 (.mov (tm 44))]) (.region [
 o1 45 (.mov (tm 0)),
 o1 46 (.mov (tm 14)),
 o1 47 (.mov (tm 3)),
 o1 48 (.callV (.func 87) [(tm 45), (tm 46), (tm 11), (tm 47)]),
 o1 14 (.mov (tm 48))])))
 .skip)) (.region [
 o1 49 (.mov (tm 0)),
 o1 50 (.mov (tm 12)),
 o1 51 (.mov (tm 13)),
 o1 52 (.mov (tm 14)),
 o1 53 (.mov (tm 3)),
 o1 54 (.callV (.func 88) [(tm 49), (tm 50), (tm 51), (tm 52), (tm 11), (tm 53)]),
 o1 13 (.mov (tm 54))]))
 .skip)) (.seq (.region [
 o1 55 (.load none (tm 11))]) (.block 0 (.seq (.region [
 o1 58 (.bin .eql (so (.binOp .eql 3 (tm 55) k0 3) 4) (tm 55) k0),
 o1 57 (.mov (tm 58))]) (.cond (tm 57)
 (.seq (.region [
 o1 59 (.mov (tm 13)),
 o1 8 (.mov (tm 59)),
 o1 9 (.mov (.const (.int .i64 1)))]) .ret)
 (.seq (.region [
 o1 61 (.bin .eql (so (.binOp .eql 3 (tm 55) (.const (.int .i64 12)) 3) 4) (tm 55) (.const (.int .i64 12))),
 o1 60 (.mov (tm 61))]) (.cond (tm 60)
 (.seq (.region [
 o1 62 (.mov (tm 13)),
 o1 8 (.mov (tm 62)),
 o1 9 (.mov (.const (.int .i64 2)))]) .ret)
 (.seq (.region [
 o1 56 (.mov (tm 13)),
 o1 8 (.mov (tm 56)),
 o1 9 (.mov k0)]) .ret))))))))))))))
def zqcQ : AFunc := ⟨63, [(8, none), (9, none)], zqcQ_c, none⟩
theorem zqcQ_t0 : tableOf Try.prog 77 = some zqcQ := by kernel_rfl
theorem zqcQ_t : T0 77 = some zqcQ := withKept_t rfl (withTrue_t rfl zqcQ_t0)
theorem zqcQ_runs {v0 v1 v2 v3 : Value} {h : Heap} {R : RP} {X : XP} (k : RunC Try.prog T0 zqcQ_c ⟨[v0, v1, v2, v3, U, U, U, U, U, U, U, U, U, U, U, U, U, U, U, U, U, U, U, U, U, U, U, U, U, U, U, U, U, U, U, U, U, U, U, U, U, U, U, U, U, U, U, U, U, U, U, U, U, U, U, U, U, U, U, U, U, U, U], [], h, none⟩ (bodyQ Try.prog T0 [(8, none), (9, none)] R X)) :
 Runs Try.prog T0 (.fn 77) [v0, v1, v2, v3] h R X := Runs.fn zqcQ_t rfl k
abbrev fn_zbdQ : FuncId := 78
def zbdQ_l0 : ACode :=
 (.seq (.seq (.region [
 o1 13 (.mov (tm 8)),
 o1 14 (.mov (tm 9)),
 o1 15 (.bin .lss (so (.binOp .lss 3 (tm 13) (tm 14) 3) 4) (tm 13) (tm 14))]) (.cond (tm 15)
 .skip
 (.exit 0))) (.block 1 (.seq (.regionD [
 o1 16 (.mov (tm 0)),
 o1 17 (.mov (tm 8)),
 o1 18 (.mov (tm 0)),
 o1 19 (.mov (tm 9)),
 o1 20 (.mov (tm 0)),
 o1 21 (.mov (tm 9)),
 o1 22 (.indexSl 1 (tm 20) (tm 21)),
 o1 23 (.load none (tm 22)),
 o1 24 (.mov (tm 0)),
 o1 25 (.mov (tm 8)),
 o1 26 (.indexSl 1 (tm 24) (tm 25)),
 o1 27 (.load none (tm 26)),
 o1 28 (.indexSl 1 (tm 16) (tm 17)),
 ⟨none, .store 1 (tm 28) (tm 23), none, [(some 19, .mov (tm 9), none), (some 18, .mov (tm 0), none)], false⟩,
 o2 29 (.indexSl 1 (tm 18) (tm 19)),
 ⟨none, .store 1 (tm 29) (tm 27), none, [], true⟩]) (.seq (.region [
 o1 30 (.mov (tm 8)),
 o1 31 (.bin .add (so (.binOp .add 3 (tm 30) (.const (.int .i64 1)) 3) 3) (tm 30) (.const (.int .i64 1))),
 o1 8 (.mov (tm 31))]) (.region [
 o1 32 (.mov (tm 9)),
 o1 33 (.bin .sub (so (.binOp .sub 3 (tm 32) (.const (.int .i64 1)) 3) 3) (tm 32) (.const (.int .i64 1))),
 o1 9 (.mov (tm 33))])))))
def zbdQ_c : ACode :=
 (.seq (.region [
 o1 10 (.mov (tm 1)),
 o1 8 (.mov (tm 10))]) (.seq (.region [
 o1 11 (.mov (tm 2)),
 o1 12 (.bin .sub (so (.binOp .sub 3 (tm 11) (.const (.int .i64 1)) 3) 3) (tm 11) (.const (.int .i64 1))),
 o1 9 (.mov (tm 12))]) (.block 0 (.loop zbdQ_l0))))
def zbdQ : AFunc := ⟨34, [], zbdQ_c, none⟩
theorem zbdQ_t0 : tableOf Try.prog 78 = some zbdQ := by kernel_rfl
theorem zbdQ_t : T0 78 = some zbdQ := withKept_t rfl (withTrue_t rfl zbdQ_t0)
theorem zbdQ_runs {v0 v1 v2 v3 : Value} {h : Heap} {R : RP} {X : XP} (k : RunC Try.prog T0 zbdQ_c ⟨[v0, v1, v2, v3, U, U, U, U, U, U, U, U, U, U, U, U, U, U, U, U, U, U, U, U, U, U, U, U, U, U, U, U, U, U], [], h, none⟩ (bodyQ Try.prog T0 [] R X)) :
 Runs Try.prog T0 (.fn 78) [v0, v1, v2, v3] h R X := Runs.fn zbdQ_t rfl k
abbrev zbdQ_l0_M : List Nat := [0, 0, 0, 0, 0, 0, 0, 0, 2, 2, 0, 0, 0, 1, 1, 1, 1, 1, 1, 1, 1, 1, 1, 1, 1, 1, 1, 1, 1, 1, 1, 1, 1, 1]
abbrev fn_zxcQ : FuncId := 79
def zxcQ_l0 : ACode :=
 (.seq (.seq (.regionD [
 o1 19 (.mov (tm 9)),
 o1 20 (.mov (tm 2)),
 o2 21 (.bin .lss (so (.binOp .lss 3 (tm 19) (tm 20) 3) 4) (tm 19) (tm 20)),
 o2 22 (.mov (tm 21)),
 o4 23 (.mov (tm 3)) 22,
 o4 24 (.mov (tm 0)) 22,
 o4 25 (.mov (tm 9)) 22,
 o4 26 (.indexSl 1 (tm 24) (tm 25)) 22,
 o4 27 (.load none (tm 26)) 22,
 o4 28 (.mov (tm 0)) 22,
 o4 29 (.mov (tm 9)) 22,
 o4 30 (.bin .sub (so (.binOp .sub 3 (tm 29) (.const (.int .i64 1)) 3) 3) (tm 29) (.const (.int .i64 1))) 22,
 o4 31 (.indexSl 1 (tm 28) (tm 30)) 22,
 o4 32 (.load none (tm 31)) 22,
 ⟨some 33, .callV (tm 23) [(tm 27), (tm 32)], some (22, true), [], true⟩,
 ⟨some 34, .bin .lss (so (.binOp .lss 3 (tm 33) k0 3) 4) (tm 33) k0, some (22, true), [], true⟩,
 ⟨some 35, .raw (so (.unOp .not 4 (tm 34)) 4), some (22, true), [], true⟩,
 o2 36 (.pick (tm 22) (tm 35) (.const (.bool false)))]) (.cond (tm 36)
 .skip
 (.exit 2))) (.block 3 (.region [
 o1 37 (.mov (tm 9)),
 o1 38 (.bin .add (so (.binOp .add 3 (tm 37) (.const (.int .i64 1)) 3) 3) (tm 37) (.const (.int .i64 1))),
 o1 9 (.mov (tm 38))])))
def zxcQ_l1 : ACode :=
 (.seq (.seq (.region [
 o1 68 (.mov (tm 11)),
 o1 69 (.bin .geq (so (.binOp .geq 3 (tm 68) (.const (.int .i64 1)) 3) 4) (tm 68) (.const (.int .i64 1)))]) (.cond (tm 69)
 .skip
 (.exit 4))) (.seq (.block 5 (.seq (.seq (.regionD [
 o1 72 (.mov (tm 3)),
 o1 73 (.mov (tm 0)),
 o1 74 (.mov (tm 11)),
 o1 75 (.indexSl 1 (tm 73) (tm 74)),
 o1 76 (.load none (tm 75)),
 o1 77 (.mov (tm 0)),
 o1 78 (.mov (tm 11)),
 o1 79 (.bin .sub (so (.binOp .sub 3 (tm 78) (.const (.int .i64 1)) 3) 3) (tm 78) (.const (.int .i64 1))),
 o1 80 (.indexSl 1 (tm 77) (tm 79)),
 o1 81 (.load none (tm 80)),
 o2 82 (.callV (tm 72) [(tm 76), (tm 81)]),
 o2 83 (.bin .lss (so (.binOp .lss 3 (tm 82) k0 3) 4) (tm 82) k0),
 o2 84 (.raw (so (.unOp .not 4 (tm 83)) 4))]) (.cond (tm 84)
 (.exit 4)
 .skip)) (.regionD [
 o1 85 (.mov (tm 0)),
 o1 86 (.mov (tm 11)),
 o1 87 (.mov (tm 0)),
 o1 88 (.mov (tm 11)),
 o1 89 (.bin .sub (so (.binOp .sub 3 (tm 88) (.const (.int .i64 1)) 3) 3) (tm 88) (.const (.int .i64 1))),
 o1 90 (.mov (tm 0)),
 o1 91 (.mov (tm 11)),
 o1 92 (.bin .sub (so (.binOp .sub 3 (tm 91) (.const (.int .i64 1)) 3) 3) (tm 91) (.const (.int .i64 1))),
 o1 93 (.indexSl 1 (tm 90) (tm 92)),
 o1 94 (.load none (tm 93)),
 o1 95 (.mov (tm 0)),
 o1 96 (.mov (tm 11)),
 o1 97 (.indexSl 1 (tm 95) (tm 96)),
 o1 98 (.load none (tm 97)),
 o1 99 (.indexSl 1 (tm 85) (tm 86)),
 ⟨none, .store 1 (tm 99) (tm 94), none, [(some 89, .bin .sub (so (.binOp .sub 3 (tm 88) (.const (.int .i64 1)) 3) 3) (tm 88) (.const (.int .i64 1)), none), (some 88, .mov (tm 11), none), (some 87, .mov (tm 0), none)], false⟩,
 o2 100 (.indexSl 1 (tm 87) (tm 89)),
 ⟨none, .store 1 (tm 100) (tm 98), none, [], true⟩]))) (.region [
 o1 70 (.mov (tm 11)),
 o1 71 (.bin .sub (so (.binOp .sub 3 (tm 70) (.const (.int .i64 1)) 3) 3) (tm 70) (.const (.int .i64 1))),
 o1 11 (.mov (tm 71))])))
def zxcQ_l2 : ACode :=
 (.seq (.seq (.region [
 o1 107 (.mov (tm 12)),
 o1 108 (.mov (tm 2)),
 o1 109 (.bin .lss (so (.binOp .lss 3 (tm 107) (tm 108) 3) 4) (tm 107) (tm 108))]) (.cond (tm 109)
 .skip
 (.exit 6))) (.seq (.block 7 (.seq (.seq (.regionD [
 o1 112 (.mov (tm 3)),
 o1 113 (.mov (tm 0)),
 o1 114 (.mov (tm 12)),
 o1 115 (.indexSl 1 (tm 113) (tm 114)),
 o1 116 (.load none (tm 115)),
 o1 117 (.mov (tm 0)),
 o1 118 (.mov (tm 12)),
 o1 119 (.bin .sub (so (.binOp .sub 3 (tm 118) (.const (.int .i64 1)) 3) 3) (tm 118) (.const (.int .i64 1))),
 o1 120 (.indexSl 1 (tm 117) (tm 119)),
 o1 121 (.load none (tm 120)),
 o2 122 (.callV (tm 112) [(tm 116), (tm 121)]),
 o2 123 (.bin .lss (so (.binOp .lss 3 (tm 122) k0 3) 4) (tm 122) k0),
 o2 124 (.raw (so (.unOp .not 4 (tm 123)) 4))]) (.cond (tm 124)
 (.exit 6)
 .skip)) (.regionD [
 o1 125 (.mov (tm 0)),
 o1 126 (.mov (tm 12)),
 o1 127 (.mov (tm 0)),
 o1 128 (.mov (tm 12)),
 o1 129 (.bin .sub (so (.binOp .sub 3 (tm 128) (.const (.int .i64 1)) 3) 3) (tm 128) (.const (.int .i64 1))),
 o1 130 (.mov (tm 0)),
 o1 131 (.mov (tm 12)),
 o1 132 (.bin .sub (so (.binOp .sub 3 (tm 131) (.const (.int .i64 1)) 3) 3) (tm 131) (.const (.int .i64 1))),
 o1 133 (.indexSl 1 (tm 130) (tm 132)),
 o1 134 (.load none (tm 133)),
 o1 135 (.mov (tm 0)),
 o1 136 (.mov (tm 12)),
 o1 137 (.indexSl 1 (tm 135) (tm 136)),
 o1 138 (.load none (tm 137)),
 o1 139 (.indexSl 1 (tm 125) (tm 126)),
 ⟨none, .store 1 (tm 139) (tm 134), none, [(some 129, .bin .sub (so (.binOp .sub 3 (tm 128) (.const (.int .i64 1)) 3) 3) (tm 128) (.const (.int .i64 1)), none), (some 128, .mov (tm 12), none), (some 127, .mov (tm 0), none)], false⟩,
 o2 140 (.indexSl 1 (tm 127) (tm 129)),
 ⟨none, .store 1 (tm 140) (tm 138), none, [], true⟩]))) (.region [
 o1 110 (.mov (tm 12)),
 o1 111 (.bin .add (so (.binOp .add 3 (tm 110) (.const (.int .i64 1)) 3) 3) (tm 110) (.const (.int .i64 1))),
 o1 12 (.mov (tm 111))])))
def zxcQ_l3 : ACode :=
 (.seq (.seq (.region [
 o1 15 (.mov (tm 10)),
 o1 16 (.bin .lss (so (.binOp .lss 3 (tm 15) (.const (.int .i64 5)) 3) 4) (tm 15) (.const (.int .i64 5)))]) (.cond (tm 16)
 .skip
 (.exit 0))) (.seq (.block 1 (.seq (.block 2 (.loop zxcQ_l0)) (.seq (.seq (.region [
 o1 39 (.mov (tm 9)),
 o1 40 (.mov (tm 2)),
 o1 41 (.bin .eql (so (.binOp .eql 3 (tm 39) (tm 40) 3) 4) (tm 39) (tm 40))]) (.cond (tm 41)
 (.seq (.region [
 o1 8 (.mov (.const (.bool true)))]) .ret)
 .skip)) (.seq (.seq (.region [
 o1 42 (.mov (tm 2)),
 o1 43 (.mov (tm 1)),
 o1 44 (.bin .sub (so (.binOp .sub 3 (tm 42) (tm 43) 3) 3) (tm 42) (tm 43)),
 o1 45 (.bin .lss (so (.binOp .lss 3 (tm 44) (.const (.int .i64 50)) 3) 4) (tm 44) (.const (.int .i64 50)))]) (.cond (tm 45)
 (.seq (.region [
 o1 8 (.mov (.const (.bool false)))]) .ret)
 .skip)) (.seq (.regionD [
 o1 46 (.mov (tm 0)),
 o1 47 (.mov (tm 9)),
 o1 48 (.mov (tm 0)),
 o1 49 (.mov (tm 9)),
 o1 50 (.bin .sub (so (.binOp .sub 3 (tm 49) (.const (.int .i64 1)) 3) 3) (tm 49) (.const (.int .i64 1))),
 o1 51 (.mov (tm 0)),
 o1 52 (.mov (tm 9)),
 o1 53 (.bin .sub (so (.binOp .sub 3 (tm 52) (.const (.int .i64 1)) 3) 3) (tm 52) (.const (.int .i64 1))),
 o1 54 (.indexSl 1 (tm 51) (tm 53)),
 o1 55 (.load none (tm 54)),
 o1 56 (.mov (tm 0)),
 o1 57 (.mov (tm 9)),
 o1 58 (.indexSl 1 (tm 56) (tm 57)),
 o1 59 (.load none (tm 58)),
 o1 60 (.indexSl 1 (tm 46) (tm 47)),
 ⟨none, .store 1 (tm 60) (tm 55), none, [(some 50, .bin .sub (so (.binOp .sub 3 (tm 49) (.const (.int .i64 1)) 3) 3) (tm 49) (.const (.int .i64 1)), none), (some 49, .mov (tm 9), none), (some 48, .mov (tm 0), none)], false⟩,
 o2 61 (.indexSl 1 (tm 48) (tm 50)),
 ⟨none, .store 1 (tm 61) (tm 59), none, [], true⟩]) (.seq (.seq (.region [
 o1 62 (.mov (tm 9)),
 o1 63 (.mov (tm 1)),
 o1 64 (.bin .sub (so (.binOp .sub 3 (tm 62) (tm 63) 3) 3) (tm 62) (tm 63)),
 o1 65 (.bin .geq (so (.binOp .geq 3 (tm 64) (.const (.int .i64 2)) 3) 4) (tm 64) (.const (.int .i64 2)))]) (.cond (tm 65)
 (.seq (.region [
 o1 66 (.mov (tm 9)),
 o1 67 (.bin .sub (so (.binOp .sub 3 (tm 66) (.const (.int .i64 1)) 3) 3) (tm 66) (.const (.int .i64 1))),
 o1 11 (.mov (tm 67))]) (.block 4 (.loop zxcQ_l1)))
 .skip)) (.seq (.region [
 o1 101 (.mov (tm 2)),
 o1 102 (.mov (tm 9)),
 o1 103 (.bin .sub (so (.binOp .sub 3 (tm 101) (tm 102) 3) 3) (tm 101) (tm 102)),
 o1 104 (.bin .geq (so (.binOp .geq 3 (tm 103) (.const (.int .i64 2)) 3) 4) (tm 103) (.const (.int .i64 2)))]) (.cond (tm 104)
 (.seq (.region [
 o1 105 (.mov (tm 9)),
 o1 106 (.bin .add (so (.binOp .add 3 (tm 105) (.const (.int .i64 1)) 3) 3) (tm 105) (.const (.int .i64 1))),
 o1 12 (.mov (tm 106))]) (.block 6 (.loop zxcQ_l2)))
 .skip)))))))) (.region [
 o1 17 (.mov (tm 10)),
 o1 18 (.bin .add (so (.binOp .add 3 (tm 17) (.const (.int .i64 1)) 3) 3) (tm 17) (.const (.int .i64 1))),
 o1 10 (.mov (tm 18))])))
def zxcQ_c : ACode :=
 (.seq (.region [
 o1 8 (.mov (.const (.bool false)))]) (.seq (.region [
 o1 13 (.mov (tm 1)),
 o1 14 (.bin .add (so (.binOp .add 3 (tm 13) (.const (.int .i64 1)) 3) 3) (tm 13) (.const (.int .i64 1))),
 o1 9 (.mov (tm 14))]) (.seq (.seq (.region [
 o1 10 (.mov k0)]) (.block 0 (.loop zxcQ_l3))) (.seq (.region [
 o1 8 (.mov (.const (.bool false)))]) .ret))))
def zxcQ : AFunc := ⟨141, [(8, none)], zxcQ_c, none⟩
theorem zxcQ_t0 : tableOf Try.prog 79 = some zxcQ := by kernel_rfl
theorem zxcQ_t : T0 79 = some zxcQ := withKept_t rfl (withTrue_t rfl zxcQ_t0)
theorem zxcQ_runs {v0 v1 v2 v3 : Value} {h : Heap} {R : RP} {X : XP} (k : RunC Try.prog T0 zxcQ_c ⟨[v0, v1, v2, v3, U, U, U, U, U, U, U, U, U, U, U, U, U, U, U, U, U, U, U, U, U, U, U, U, U, U, U, U, U, U, U, U, U, U, U, U, U, U, U, U, U, U, U, U, U, U, U, U, U, U, U, U, U, U, U, U, U, U, U, U, U, U, U, U, U, U, U, U, U, U, U, U, U, U, U, U, U, U, U, U, U, U, U, U, U, U, U, U, U, U, U, U, U, U, U, U, U, U, U, U, U, U, U, U, U, U, U, U, U, U, U, U, U, U, U, U, U, U, U, U, U, U, U, U, U, U, U, U, U, U, U, U, U, U, U, U, U], [], h, none⟩ (bodyQ Try.prog T0 [(8, none)] R X)) :
 Runs Try.prog T0 (.fn 79) [v0, v1, v2, v3] h R X := Runs.fn zxcQ_t rfl k
abbrev zxcQ_l0_M : List Nat := [0, 0, 0, 0, 0, 0, 0, 0, 0, 2, 0, 0, 0, 0, 0, 0, 0, 0, 0, 1, 1, 1, 1, 1, 1, 1, 1, 1, 1, 1, 1, 1, 1, 1, 1, 1, 1, 1, 1, 0, 0, 0, 0, 0, 0, 0, 0, 0, 0, 0, 0, 0, 0, 0, 0, 0, 0, 0, 0, 0, 0, 0, 0, 0, 0, 0, 0, 0, 0, 0, 0, 0, 0, 0, 0, 0, 0, 0, 0, 0, 0, 0, 0, 0, 0, 0, 0, 0, 0, 0, 0, 0, 0, 0, 0, 0, 0, 0, 0, 0, 0, 0, 0, 0, 0, 0, 0, 0, 0, 0, 0, 0, 0, 0, 0, 0, 0, 0, 0, 0, 0, 0, 0, 0, 0, 0, 0, 0, 0, 0, 0, 0, 0, 0, 0, 0, 0, 0, 0, 0, 0]
abbrev zxcQ_l1_M : List Nat := [0, 0, 0, 0, 0, 0, 0, 0, 0, 0, 0, 2, 0, 0, 0, 0, 0, 0, 0, 0, 0, 0, 0, 0, 0, 0, 0, 0, 0, 0, 0, 0, 0, 0, 0, 0, 0, 0, 0, 0, 0, 0, 0, 0, 0, 0, 0, 0, 0, 0, 0, 0, 0, 0, 0, 0, 0, 0, 0, 0, 0, 0, 0, 0, 0, 0, 0, 0, 1, 1, 1, 1, 1, 1, 1, 1, 1, 1, 1, 1, 1, 1, 1, 1, 1, 1, 1, 1, 1, 1, 1, 1, 1, 1, 1, 1, 1, 1, 1, 1, 1, 0, 0, 0, 0, 0, 0, 0, 0, 0, 0, 0, 0, 0, 0, 0, 0, 0, 0, 0, 0, 0, 0, 0, 0, 0, 0, 0, 0, 0, 0, 0, 0, 0, 0, 0, 0, 0, 0, 0, 0]
abbrev zxcQ_l2_M : List Nat := [0, 0, 0, 0, 0, 0, 0, 0, 0, 0, 0, 0, 2, 0, 0, 0, 0, 0, 0, 0, 0, 0, 0, 0, 0, 0, 0, 0, 0, 0, 0, 0, 0, 0, 0, 0, 0, 0, 0, 0, 0, 0, 0, 0, 0, 0, 0, 0, 0, 0, 0, 0, 0, 0, 0, 0, 0, 0, 0, 0, 0, 0, 0, 0, 0, 0, 0, 0, 0, 0, 0, 0, 0, 0, 0, 0, 0, 0, 0, 0, 0, 0, 0, 0, 0, 0, 0, 0, 0, 0, 0, 0, 0, 0, 0, 0, 0, 0, 0, 0, 0, 0, 0, 0, 0, 0, 0, 1, 1, 1, 1, 1, 1, 1, 1, 1, 1, 1, 1, 1, 1, 1, 1, 1, 1, 1, 1, 1, 1, 1, 1, 1, 1, 1, 1, 1, 1, 1, 1, 1, 1]
abbrev zxcQ_l3_M : List Nat := [0, 0, 0, 0, 0, 0, 0, 0, 1, 2, 2, 1, 1, 0, 0, 1, 1, 1, 1, 1, 1, 1, 1, 1, 1, 1, 1, 1, 1, 1, 1, 1, 1, 1, 1, 1, 1, 1, 1, 1, 1, 1, 1, 1, 1, 1, 1, 1, 1, 1, 1, 1, 1, 1, 1, 1, 1, 1, 1, 1, 1, 1, 1, 1, 1, 1, 1, 1, 1, 1, 1, 1, 1, 1, 1, 1, 1, 1, 1, 1, 1, 1, 1, 1, 1, 1, 1, 1, 1, 1, 1, 1, 1, 1, 1, 1, 1, 1, 1, 1, 1, 1, 1, 1, 1, 1, 1, 1, 1, 1, 1, 1, 1, 1, 1, 1, 1, 1, 1, 1, 1, 1, 1, 1, 1, 1, 1, 1, 1, 1, 1, 1, 1, 1, 1, 1, 1, 1, 1, 1, 1]
abbrev fn_zycQ : FuncId := 81
def zycQ_l0 : ACode :=
 (.seq (.seq (.regionD [
 o1 32 (.mov (tm 12)),
 o1 33 (.mov (tm 13)),
 o2 34 (.bin .leq (so (.binOp .leq 3 (tm 32) (tm 33) 3) 4) (tm 32) (tm 33)),
 o2 35 (.mov (tm 34)),
 o4 36 (.mov (tm 4)) 35,
 o4 37 (.mov (tm 0)) 35,
 o4 38 (.mov (tm 12)) 35,
 o4 39 (.indexSl 1 (tm 37) (tm 38)) 35,
 o4 40 (.load none (tm 39)) 35,
 o4 41 (.mov (tm 0)) 35,
 o4 42 (.mov (tm 1)) 35,
 o4 43 (.indexSl 1 (tm 41) (tm 42)) 35,
 o4 44 (.load none (tm 43)) 35,
 ⟨some 45, .callV (tm 36) [(tm 40), (tm 44)], some (35, true), [], true⟩,
 ⟨some 46, .bin .lss (so (.binOp .lss 3 (tm 45) k0 3) 4) (tm 45) k0, some (35, true), [], true⟩,
 o2 47 (.pick (tm 35) (tm 46) (.const (.bool false)))]) (.cond (tm 47)
 .skip
 (.exit 0))) (.block 1 (.region [
 o1 48 (.mov (tm 12)),
 o1 49 (.bin .add (so (.binOp .add 3 (tm 48) (.const (.int .i64 1)) 3) 3) (tm 48) (.const (.int .i64 1))),
 o1 12 (.mov (tm 49))])))
def zycQ_l1 : ACode :=
 (.seq (.seq (.regionD [
 o1 50 (.mov (tm 12)),
 o1 51 (.mov (tm 13)),
 o2 52 (.bin .leq (so (.binOp .leq 3 (tm 50) (tm 51) 3) 4) (tm 50) (tm 51)),
 o2 53 (.mov (tm 52)),
 o4 54 (.mov (tm 4)) 53,
 o4 55 (.mov (tm 0)) 53,
 o4 56 (.mov (tm 13)) 53,
 o4 57 (.indexSl 1 (tm 55) (tm 56)) 53,
 o4 58 (.load none (tm 57)) 53,
 o4 59 (.mov (tm 0)) 53,
 o4 60 (.mov (tm 1)) 53,
 o4 61 (.indexSl 1 (tm 59) (tm 60)) 53,
 o4 62 (.load none (tm 61)) 53,
 ⟨some 63, .callV (tm 54) [(tm 58), (tm 62)], some (53, true), [], true⟩,
 ⟨some 64, .bin .lss (so (.binOp .lss 3 (tm 63) k0 3) 4) (tm 63) k0, some (53, true), [], true⟩,
 ⟨some 65, .raw (so (.unOp .not 4 (tm 64)) 4), some (53, true), [], true⟩,
 o2 66 (.pick (tm 53) (tm 65) (.const (.bool false)))]) (.cond (tm 66)
 .skip
 (.exit 2))) (.block 3 (.region [
 o1 67 (.mov (tm 13)),
 o1 68 (.bin .sub (so (.binOp .sub 3 (tm 67) (.const (.int .i64 1)) 3) 3) (tm 67) (.const (.int .i64 1))),
 o1 13 (.mov (tm 68))])))
def zycQ_l2 : ACode :=
 (.seq (.seq (.regionD [
 o1 105 (.mov (tm 12)),
 o1 106 (.mov (tm 13)),
 o2 107 (.bin .leq (so (.binOp .leq 3 (tm 105) (tm 106) 3) 4) (tm 105) (tm 106)),
 o2 108 (.mov (tm 107)),
 o4 109 (.mov (tm 4)) 108,
 o4 110 (.mov (tm 0)) 108,
 o4 111 (.mov (tm 12)) 108,
 o4 112 (.indexSl 1 (tm 110) (tm 111)) 108,
 o4 113 (.load none (tm 112)) 108,
 o4 114 (.mov (tm 0)) 108,
 o4 115 (.mov (tm 1)) 108,
 o4 116 (.indexSl 1 (tm 114) (tm 115)) 108,
 o4 117 (.load none (tm 116)) 108,
 ⟨some 118, .callV (tm 109) [(tm 113), (tm 117)], some (108, true), [], true⟩,
 ⟨some 119, .bin .lss (so (.binOp .lss 3 (tm 118) k0 3) 4) (tm 118) k0, some (108, true), [], true⟩,
 o2 120 (.pick (tm 108) (tm 119) (.const (.bool false)))]) (.cond (tm 120)
 .skip
 (.exit 6))) (.block 7 (.region [
 o1 121 (.mov (tm 12)),
 o1 122 (.bin .add (so (.binOp .add 3 (tm 121) (.const (.int .i64 1)) 3) 3) (tm 121) (.const (.int .i64 1))),
 o1 12 (.mov (tm 122))])))
def zycQ_l3 : ACode :=
 (.seq (.seq (.regionD [
 o1 123 (.mov (tm 12)),
 o1 124 (.mov (tm 13)),
 o2 125 (.bin .leq (so (.binOp .leq 3 (tm 123) (tm 124) 3) 4) (tm 123) (tm 124)),
 o2 126 (.mov (tm 125)),
 o4 127 (.mov (tm 4)) 126,
 o4 128 (.mov (tm 0)) 126,
 o4 129 (.mov (tm 13)) 126,
 o4 130 (.indexSl 1 (tm 128) (tm 129)) 126,
 o4 131 (.load none (tm 130)) 126,
 o4 132 (.mov (tm 0)) 126,
 o4 133 (.mov (tm 1)) 126,
 o4 134 (.indexSl 1 (tm 132) (tm 133)) 126,
 o4 135 (.load none (tm 134)) 126,
 ⟨some 136, .callV (tm 127) [(tm 131), (tm 135)], some (126, true), [], true⟩,
 ⟨some 137, .bin .lss (so (.binOp .lss 3 (tm 136) k0 3) 4) (tm 136) k0, some (126, true), [], true⟩,
 ⟨some 138, .raw (so (.unOp .not 4 (tm 137)) 4), some (126, true), [], true⟩,
 o2 139 (.pick (tm 126) (tm 138) (.const (.bool false)))]) (.cond (tm 139)
 .skip
 (.exit 8))) (.block 9 (.region [
 o1 140 (.mov (tm 13)),
 o1 141 (.bin .sub (so (.binOp .sub 3 (tm 140) (.const (.int .i64 1)) 3) 3) (tm 140) (.const (.int .i64 1))),
 o1 13 (.mov (tm 141))])))
def zycQ_l4 : ACode :=
 (.block 5 (.seq (.block 6 (.loop zycQ_l2)) (.seq (.block 8 (.loop zycQ_l3)) (.seq (.seq (.region [
 o1 142 (.mov (tm 12)),
 o1 143 (.mov (tm 13)),
 o1 144 (.bin .gtr (so (.binOp .gtr 3 (tm 142) (tm 143) 3) 4) (tm 142) (tm 143))]) (.cond (tm 144)
 (.exit 4)
 .skip)) (.seq (.regionD [
 o1 145 (.mov (tm 0)),
 o1 146 (.mov (tm 12)),
 o1 147 (.mov (tm 0)),
 o1 148 (.mov (tm 13)),
 o1 149 (.mov (tm 0)),
 o1 150 (.mov (tm 13)),
 o1 151 (.indexSl 1 (tm 149) (tm 150)),
 o1 152 (.load none (tm 151)),
 o1 153 (.mov (tm 0)),
 o1 154 (.mov (tm 12)),
 o1 155 (.indexSl 1 (tm 153) (tm 154)),
 o1 156 (.load none (tm 155)),
 o1 157 (.indexSl 1 (tm 145) (tm 146)),
 ⟨none, .store 1 (tm 157) (tm 152), none, [(some 148, .mov (tm 13), none), (some 147, .mov (tm 0), none)], false⟩,
 o2 158 (.indexSl 1 (tm 147) (tm 148)),
 ⟨none, .store 1 (tm 158) (tm 156), none, [], true⟩]) (.seq (.region [
 o1 159 (.mov (tm 12)),
 o1 160 (.bin .add (so (.binOp .add 3 (tm 159) (.const (.int .i64 1)) 3) 3) (tm 159) (.const (.int .i64 1))),
 o1 12 (.mov (tm 160))]) (.region [
 o1 161 (.mov (tm 13)),
 o1 162 (.bin .sub (so (.binOp .sub 3 (tm 161) (.const (.int .i64 1)) 3) 3) (tm 161) (.const (.int .i64 1))),
 o1 13 (.mov (tm 162))])))))))
def zycQ_c : ACode :=
 (.seq (.region [
 o1 10 (.mov k0),
 o1 11 (.mov (.const (.bool false)))]) (.seq (.regionD [
 o1 14 (.mov (tm 0)),
 o1 15 (.mov (tm 1)),
 o1 16 (.mov (tm 0)),
 o1 17 (.mov (tm 3)),
 o1 18 (.mov (tm 0)),
 o1 19 (.mov (tm 3)),
 o1 20 (.indexSl 1 (tm 18) (tm 19)),
 o1 21 (.load none (tm 20)),
 o1 22 (.mov (tm 0)),
 o1 23 (.mov (tm 1)),
 o1 24 (.indexSl 1 (tm 22) (tm 23)),
 o1 25 (.load none (tm 24)),
 o1 26 (.indexSl 1 (tm 14) (tm 15)),
 ⟨none, .store 1 (tm 26) (tm 21), none, [(some 17, .mov (tm 3), none), (some 16, .mov (tm 0), none)], false⟩,
 o2 27 (.indexSl 1 (tm 16) (tm 17)),
 ⟨none, .store 1 (tm 27) (tm 25), none, [], true⟩]) (.seq (.region [
 o1 28 (.mov (tm 1)),
 o1 29 (.bin .add (so (.binOp .add 3 (tm 28) (.const (.int .i64 1)) 3) 3) (tm 28) (.const (.int .i64 1))),
 o1 30 (.mov (tm 2)),
 o1 31 (.bin .sub (so (.binOp .sub 3 (tm 30) (.const (.int .i64 1)) 3) 3) (tm 30) (.const (.int .i64 1))),
 o1 12 (.mov (tm 29)),
 o1 13 (.mov (tm 31))]) (.seq (.block 0 (.loop zycQ_l0)) (.seq (.block 2 (.loop zycQ_l1)) (.seq (.seq (.region [
 o1 69 (.mov (tm 12)),
 o1 70 (.mov (tm 13)),
 o1 71 (.bin .gtr (so (.binOp .gtr 3 (tm 69) (tm 70) 3) 4) (tm 69) (tm 70))]) (.cond (tm 71)
 (.seq (.regionD [
 o1 72 (.mov (tm 0)),
 o1 73 (.mov (tm 13)),
 o1 74 (.mov (tm 0)),
 o1 75 (.mov (tm 1)),
 o1 76 (.mov (tm 0)),
 o1 77 (.mov (tm 1)),
 o1 78 (.indexSl 1 (tm 76) (tm 77)),
 o1 79 (.load none (tm 78)),
 o1 80 (.mov (tm 0)),
 o1 81 (.mov (tm 13)),
 o1 82 (.indexSl 1 (tm 80) (tm 81)),
 o1 83 (.load none (tm 82)),
 o1 84 (.indexSl 1 (tm 72) (tm 73)),
 ⟨none, .store 1 (tm 84) (tm 79), none, [(some 75, .mov (tm 1), none), (some 74, .mov (tm 0), none)], false⟩,
 o2 85 (.indexSl 1 (tm 74) (tm 75)),
 ⟨none, .store 1 (tm 85) (tm 83), none, [], true⟩]) (.seq (.region [
 o1 86 (.mov (tm 13)),
 o1 10 (.mov (tm 86)),
 o1 11 (.mov (.const (.bool true)))]) .ret))
 .skip)) (.seq (.regionD [
 o1 87 (.mov (tm 0)),
 o1 88 (.mov (tm 12)),
 o1 89 (.mov (tm 0)),
 o1 90 (.mov (tm 13)),
 o1 91 (.mov (tm 0)),
 o1 92 (.mov (tm 13)),
 o1 93 (.indexSl 1 (tm 91) (tm 92)),
 o1 94 (.load none (tm 93)),
 o1 95 (.mov (tm 0)),
 o1 96 (.mov (tm 12)),
 o1 97 (.indexSl 1 (tm 95) (tm 96)),
 o1 98 (.load none (tm 97)),
 o1 99 (.indexSl 1 (tm 87) (tm 88)),
 ⟨none, .store 1 (tm 99) (tm 94), none, [(some 90, .mov (tm 13), none), (some 89, .mov (tm 0), none)], false⟩,
 o2 100 (.indexSl 1 (tm 89) (tm 90)),
 ⟨none, .store 1 (tm 100) (tm 98), none, [], true⟩]) (.seq (.region [
 o1 101 (.mov (tm 12)),
 o1 102 (.bin .add (so (.binOp .add 3 (tm 101) (.const (.int .i64 1)) 3) 3) (tm 101) (.const (.int .i64 1))),
 o1 12 (.mov (tm 102))]) (.seq (.region [
 o1 103 (.mov (tm 13)),
 o1 104 (.bin .sub (so (.binOp .sub 3 (tm 103) (.const (.int .i64 1)) 3) 3) (tm 103) (.const (.int .i64 1))),
 o1 13 (.mov (tm 104))]) (.seq (.block 4 (.loop zycQ_l4)) (.seq (.regionD [
 o1 163 (.mov (tm 0)),
 o1 164 (.mov (tm 13)),
 o1 165 (.mov (tm 0)),
 o1 166 (.mov (tm 1)),
 o1 167 (.mov (tm 0)),
 o1 168 (.mov (tm 1)),
 o1 169 (.indexSl 1 (tm 167) (tm 168)),
 o1 170 (.load none (tm 169)),
 o1 171 (.mov (tm 0)),
 o1 172 (.mov (tm 13)),
 o1 173 (.indexSl 1 (tm 171) (tm 172)),
 o1 174 (.load none (tm 173)),
 o1 175 (.indexSl 1 (tm 163) (tm 164)),
 ⟨none, .store 1 (tm 175) (tm 170), none, [(some 166, .mov (tm 1), none), (some 165, .mov (tm 0), none)], false⟩,
 o2 176 (.indexSl 1 (tm 165) (tm 166)),
 ⟨none, .store 1 (tm 176) (tm 174), none, [], true⟩]) (.seq (.region [
 o1 177 (.mov (tm 13)),
 o1 10 (.mov (tm 177)),
 o1 11 (.mov (.const (.bool false)))]) .ret))))))))))))
def zycQ : AFunc := ⟨178, [(10, none), (11, none)], zycQ_c, none⟩
theorem zycQ_t0 : tableOf Try.prog 81 = some zycQ := by kernel_rfl
theorem zycQ_t : T0 81 = some zycQ := withKept_t rfl (withTrue_t rfl zycQ_t0)
theorem zycQ_runs {v0 v1 v2 v3 v4 : Value} {h : Heap} {R : RP} {X : XP} (k : RunC Try.prog T0 zycQ_c ⟨[v0, v1, v2, v3, v4, U, U, U, U, U, U, U, U, U, U, U, U, U, U, U, U, U, U, U, U, U, U, U, U, U, U, U, U, U, U, U, U, U, U, U, U, U, U, U, U, U, U, U, U, U, U, U, U, U, U, U, U, U, U, U, U, U, U, U, U, U, U, U, U, U, U, U, U, U, U, U, U, U, U, U, U, U, U, U, U, U, U, U, U, U, U, U, U, U, U, U, U, U, U, U, U, U, U, U, U, U, U, U, U, U, U, U, U, U, U, U, U, U, U, U, U, U, U, U, U, U, U, U, U, U, U, U, U, U, U, U, U, U, U, U, U, U, U, U, U, U, U, U, U, U, U, U, U, U, U, U, U, U, U, U, U, U, U, U, U, U, U, U, U, U, U, U, U, U, U, U, U, U], [], h, none⟩ (bodyQ Try.prog T0 [(10, none), (11, none)] R X)) :
 Runs Try.prog T0 (.fn 81) [v0, v1, v2, v3, v4] h R X := Runs.fn zycQ_t rfl k
abbrev zycQ_l0_M : List Nat := [0, 0, 0, 0, 0, 0, 0, 0, 0, 0, 0, 0, 2, 0, 0, 0, 0, 0, 0, 0, 0, 0, 0, 0, 0, 0, 0, 0, 0, 0, 0, 0, 1, 1, 1, 1, 1, 1, 1, 1, 1, 1, 1, 1, 1, 1, 1, 1, 1, 1, 0, 0, 0, 0, 0, 0, 0, 0, 0, 0, 0, 0, 0, 0, 0, 0, 0, 0, 0, 0, 0, 0, 0, 0, 0, 0, 0, 0, 0, 0, 0, 0, 0, 0, 0, 0, 0, 0, 0, 0, 0, 0, 0, 0, 0, 0, 0, 0, 0, 0, 0, 0, 0, 0, 0, 0, 0, 0, 0, 0, 0, 0, 0, 0, 0, 0, 0, 0, 0, 0, 0, 0, 0, 0, 0, 0, 0, 0, 0, 0, 0, 0, 0, 0, 0, 0, 0, 0, 0, 0, 0, 0, 0, 0, 0, 0, 0, 0, 0, 0, 0, 0, 0, 0, 0, 0, 0, 0, 0, 0, 0, 0, 0, 0, 0, 0, 0, 0, 0, 0, 0, 0, 0, 0, 0, 0, 0, 0]
abbrev zycQ_l1_M : List Nat := [0, 0, 0, 0, 0, 0, 0, 0, 0, 0, 0, 0, 0, 2, 0, 0, 0, 0, 0, 0, 0, 0, 0, 0, 0, 0, 0, 0, 0, 0, 0, 0, 0, 0, 0, 0, 0, 0, 0, 0, 0, 0, 0, 0, 0, 0, 0, 0, 0, 0, 1, 1, 1, 1, 1, 1, 1, 1, 1, 1, 1, 1, 1, 1, 1, 1, 1, 1, 1, 0, 0, 0, 0, 0, 0, 0, 0, 0, 0, 0, 0, 0, 0, 0, 0, 0, 0, 0, 0, 0, 0, 0, 0, 0, 0, 0, 0, 0, 0, 0, 0, 0, 0, 0, 0, 0, 0, 0, 0, 0, 0, 0, 0, 0, 0, 0, 0, 0, 0, 0, 0, 0, 0, 0, 0, 0, 0, 0, 0, 0, 0, 0, 0, 0, 0, 0, 0, 0, 0, 0, 0, 0, 0, 0, 0, 0, 0, 0, 0, 0, 0, 0, 0, 0, 0, 0, 0, 0, 0, 0, 0, 0, 0, 0, 0, 0, 0, 0, 0, 0, 0, 0, 0, 0, 0, 0, 0, 0]
abbrev zycQ_l2_M : List Nat := [0, 0, 0, 0, 0, 0, 0, 0, 0, 0, 0, 0, 2, 0, 0, 0, 0, 0, 0, 0, 0, 0, 0, 0, 0, 0, 0, 0, 0, 0, 0, 0, 0, 0, 0, 0, 0, 0, 0, 0, 0, 0, 0, 0, 0, 0, 0, 0, 0, 0, 0, 0, 0, 0, 0, 0, 0, 0, 0, 0, 0, 0, 0, 0, 0, 0, 0, 0, 0, 0, 0, 0, 0, 0, 0, 0, 0, 0, 0, 0, 0, 0, 0, 0, 0, 0, 0, 0, 0, 0, 0, 0, 0, 0, 0, 0, 0, 0, 0, 0, 0, 0, 0, 0, 0, 1, 1, 1, 1, 1, 1, 1, 1, 1, 1, 1, 1, 1, 1, 1, 1, 1, 1, 0, 0, 0, 0, 0, 0, 0, 0, 0, 0, 0, 0, 0, 0, 0, 0, 0, 0, 0, 0, 0, 0, 0, 0, 0, 0, 0, 0, 0, 0, 0, 0, 0, 0, 0, 0, 0, 0, 0, 0, 0, 0, 0, 0, 0, 0, 0, 0, 0, 0, 0, 0, 0, 0, 0]
abbrev zycQ_l3_M : List Nat := [0, 0, 0, 0, 0, 0, 0, 0, 0, 0, 0, 0, 0, 2, 0, 0, 0, 0, 0, 0, 0, 0, 0, 0, 0, 0, 0, 0, 0, 0, 0, 0, 0, 0, 0, 0, 0, 0, 0, 0, 0, 0, 0, 0, 0, 0, 0, 0, 0, 0, 0, 0, 0, 0, 0, 0, 0, 0, 0, 0, 0, 0, 0, 0, 0, 0, 0, 0, 0, 0, 0, 0, 0, 0, 0, 0, 0, 0, 0, 0, 0, 0, 0, 0, 0, 0, 0, 0, 0, 0, 0, 0, 0, 0, 0, 0, 0, 0, 0, 0, 0, 0, 0, 0, 0, 0, 0, 0, 0, 0, 0, 0, 0, 0, 0, 0, 0, 0, 0, 0, 0, 0, 0, 1, 1, 1, 1, 1, 1, 1, 1, 1, 1, 1, 1, 1, 1, 1, 1, 1, 1, 1, 0, 0, 0, 0, 0, 0, 0, 0, 0, 0, 0, 0, 0, 0, 0, 0, 0, 0, 0, 0, 0, 0, 0, 0, 0, 0, 0, 0, 0, 0, 0, 0, 0, 0, 0, 0]
abbrev zycQ_l4_M : List Nat := [0, 0, 0, 0, 0, 0, 0, 0, 0, 0, 0, 0, 2, 2, 0, 0, 0, 0, 0, 0, 0, 0, 0, 0, 0, 0, 0, 0, 0, 0, 0, 0, 0, 0, 0, 0, 0, 0, 0, 0, 0, 0, 0, 0, 0, 0, 0, 0, 0, 0, 0, 0, 0, 0, 0, 0, 0, 0, 0, 0, 0, 0, 0, 0, 0, 0, 0, 0, 0, 0, 0, 0, 0, 0, 0, 0, 0, 0, 0, 0, 0, 0, 0, 0, 0, 0, 0, 0, 0, 0, 0, 0, 0, 0, 0, 0, 0, 0, 0, 0, 0, 0, 0, 0, 0, 1, 1, 1, 1, 1, 1, 1, 1, 1, 1, 1, 1, 1, 1, 1, 1, 1, 1, 1, 1, 1, 1, 1, 1, 1, 1, 1, 1, 1, 1, 1, 1, 1, 1, 1, 1, 1, 1, 1, 1, 1, 1, 1, 1, 1, 1, 1, 1, 1, 1, 1, 1, 1, 1, 1, 1, 1, 1, 0, 0, 0, 0, 0, 0, 0, 0, 0, 0, 0, 0, 0, 0, 0]
abbrev fn_zgcQ : FuncId := 83
def zgcQ_c : ACode :=
 (.seq (.region [
 o1 2 (.mov k0)]) (.seq (.seq (.region [
 o1 3 (.mov (tm 0)),
 o1 4 (.bin .geq (so (.binOp .geq 116 (tm 3) (.const (.int .u64 4294967296)) 116) 4) (tm 3) (.const (.int .u64 4294967296)))]) (.cond (tm 4)
 (.seq (.region [
 o1 5 (.mov (tm 0)),
 o1 6 (.bin .shr (so (.binOp .shr 116 (tm 5) (.const (.int .u64 32)) 104) 116) (tm 5) (.const (.int .u64 32))),
 o1 0 (.mov (tm 6))]) (.region [
 o1 2 (.mov (.const (.int .i64 32)))]))
 .skip)) (.seq (.seq (.region [
 o1 7 (.mov (tm 0)),
 o1 8 (.bin .geq (so (.binOp .geq 116 (tm 7) (.const (.int .u64 65536)) 116) 4) (tm 7) (.const (.int .u64 65536)))]) (.cond (tm 8)
 (.seq (.region [
 o1 9 (.mov (tm 0)),
 o1 10 (.bin .shr (so (.binOp .shr 116 (tm 9) (.const (.int .u64 16)) 104) 116) (tm 9) (.const (.int .u64 16))),
 o1 0 (.mov (tm 10))]) (.region [
 o1 11 (.mov (tm 2)),
 o1 12 (.bin .add (so (.binOp .add 3 (tm 11) (.const (.int .i64 16)) 3) 3) (tm 11) (.const (.int .i64 16))),
 o1 2 (.mov (tm 12))]))
 .skip)) (.seq (.seq (.region [
 o1 13 (.mov (tm 0)),
 o1 14 (.bin .geq (so (.binOp .geq 116 (tm 13) (.const (.int .u64 256)) 116) 4) (tm 13) (.const (.int .u64 256)))]) (.cond (tm 14)
 (.seq (.region [
 o1 15 (.mov (tm 0)),
 o1 16 (.bin .shr (so (.binOp .shr 116 (tm 15) (.const (.int .u64 8)) 104) 116) (tm 15) (.const (.int .u64 8))),
 o1 0 (.mov (tm 16))]) (.region [
 o1 17 (.mov (tm 2)),
 o1 18 (.bin .add (so (.binOp .add 3 (tm 17) (.const (.int .i64 8)) 3) 3) (tm 17) (.const (.int .i64 8))),
 o1 2 (.mov (tm 18))]))
 .skip)) (.seq (.region [
 o1 19 (.mov (tm 2)),
 o1 20 (.mov (tm 0)),
 o1 21 (.conv .u8 (so (.convert 116 5 (tm 20)) 5) (tm 20)),
 o1 22 (.raw (so (.index 9 (.const (.string ⟨⟨[0, 1, 2, 2, 3, 3, 3, 3, 4, 4, 4, 4, 4, 4, 4, 4, 5, 5, 5, 5, 5, 5, 5, 5, 5, 5, 5, 5, 5, 5, 5, 5, 6, 6, 6, 6, 6, 6, 6, 6, 6, 6, 6, 6, 6, 6, 6, 6, 6, 6, 6, 6, 6, 6, 6, 6, 6, 6, 6, 6, 6, 6, 6, 6, 7, 7, 7, 7, 7, 7, 7, 7, 7, 7, 7, 7, 7, 7, 7, 7, 7, 7, 7, 7, 7, 7, 7, 7, 7, 7, 7, 7, 7, 7, 7, 7, 7, 7, 7, 7, 7, 7, 7, 7, 7, 7, 7, 7, 7, 7, 7, 7, 7, 7, 7, 7, 7, 7, 7, 7, 7, 7, 7, 7, 7, 7, 7, 7, 8, 8, 8, 8, 8, 8, 8, 8, 8, 8, 8, 8, 8, 8, 8, 8, 8, 8, 8, 8, 8, 8, 8, 8, 8, 8, 8, 8, 8, 8, 8, 8, 8, 8, 8, 8, 8, 8, 8, 8, 8, 8, 8, 8, 8, 8, 8, 8, 8, 8, 8, 8, 8, 8, 8, 8, 8, 8, 8, 8, 8, 8, 8, 8, 8, 8, 8, 8, 8, 8, 8, 8, 8, 8, 8, 8, 8, 8, 8, 8, 8, 8, 8, 8, 8, 8, 8, 8, 8, 8, 8, 8, 8, 8, 8, 8, 8, 8, 8, 8, 8, 8, 8, 8, 8, 8, 8, 8, 8, 8, 8, 8, 8, 8, 8, 8, 8, 8, 8, 8, 8, 8, 8, 8, 8, 8, 8, 8]⟩⟩)) (tm 21)) 5)),
 o1 23 (.conv .i64 (so (.convert 5 3 (tm 22)) 3) (tm 22)),
 o1 24 (.bin .add (so (.binOp .add 3 (tm 19) (tm 23) 3) 3) (tm 19) (tm 23)),
 o1 2 (.mov (tm 24))]) .ret)))))
def zgcQ : AFunc := ⟨25, [(2, none)], zgcQ_c, none⟩
theorem zgcQ_t0 : tableOf Try.prog 83 = some zgcQ := by kernel_rfl
theorem zgcQ_t : T0 83 = some zgcQ := withKept_t rfl (withTrue_t rfl zgcQ_t0)
theorem zgcQ_runs {v0 : Value} {h : Heap} {R : RP} {X : XP} (k : RunC Try.prog T0 zgcQ_c ⟨[v0, U, U, U, U, U, U, U, U, U, U, U, U, U, U, U, U, U, U, U, U, U, U, U, U], [], h, none⟩ (bodyQ Try.prog T0 [(2, none)] R X)) :
 Runs Try.prog T0 (.fn 83) [v0] h R X := Runs.fn zgcQ_t rfl k
abbrev fn_zcdQ : FuncId := 84
def zcdQ_l0 : ACode :=
 (.block 1 (.seq (.region [
 o1 13 (.mov (tm 10)),
 o1 14 (.bin .mul (so (.binOp .mul 3 (.const (.int .i64 2)) (tm 13) 3) 3) (.const (.int .i64 2)) (tm 13)),
 o1 15 (.bin .add (so (.binOp .add 3 (tm 14) (.const (.int .i64 1)) 3) 3) (tm 14) (.const (.int .i64 1))),
 o1 11 (.mov (tm 15))]) (.seq (.seq (.region [
 o1 16 (.mov (tm 11)),
 o1 17 (.mov (tm 2)),
 o1 18 (.bin .geq (so (.binOp .geq 3 (tm 16) (tm 17) 3) 4) (tm 16) (tm 17))]) (.cond (tm 18)
 (.exit 0)
 .skip)) (.seq (.seq (.regionD [
 o1 19 (.mov (tm 11)),
 o1 20 (.bin .add (so (.binOp .add 3 (tm 19) (.const (.int .i64 1)) 3) 3) (tm 19) (.const (.int .i64 1))),
 o1 21 (.mov (tm 2)),
 o2 22 (.bin .lss (so (.binOp .lss 3 (tm 20) (tm 21) 3) 4) (tm 20) (tm 21)),
 o2 23 (.mov (tm 22)),
 o4 24 (.mov (tm 4)) 23,
 o4 25 (.mov (tm 0)) 23,
 o4 26 (.mov (tm 3)) 23,
 o4 27 (.mov (tm 11)) 23,
 o4 28 (.bin .add (so (.binOp .add 3 (tm 26) (tm 27) 3) 3) (tm 26) (tm 27)) 23,
 o4 29 (.indexSl 1 (tm 25) (tm 28)) 23,
 o4 30 (.load none (tm 29)) 23,
 o4 31 (.mov (tm 0)) 23,
 o4 32 (.mov (tm 3)) 23,
 o4 33 (.mov (tm 11)) 23,
 o4 34 (.bin .add (so (.binOp .add 3 (tm 32) (tm 33) 3) 3) (tm 32) (tm 33)) 23,
 o4 35 (.bin .add (so (.binOp .add 3 (tm 34) (.const (.int .i64 1)) 3) 3) (tm 34) (.const (.int .i64 1))) 23,
 o4 36 (.indexSl 1 (tm 31) (tm 35)) 23,
 o4 37 (.load none (tm 36)) 23,
 ⟨some 38, .callV (tm 24) [(tm 30), (tm 37)], some (23, true), [], true⟩,
 ⟨some 39, .bin .lss (so (.binOp .lss 3 (tm 38) k0 3) 4) (tm 38) k0, some (23, true), [], true⟩,
 o2 40 (.pick (tm 23) (tm 39) (.const (.bool false)))]) (.cond (tm 40)
 (.region [
 o1 41 (.mov (tm 11)),
 o1 42 (.bin .add (so (.binOp .add 3 (tm 41) (.const (.int .i64 1)) 3) 3) (tm 41) (.const (.int .i64 1))),
 o1 11 (.mov (tm 42))])
 .skip)) (.seq (.seq (.regionD [
 o1 43 (.mov (tm 4)),
 o1 44 (.mov (tm 0)),
 o1 45 (.mov (tm 3)),
 o1 46 (.mov (tm 10)),
 o1 47 (.bin .add (so (.binOp .add 3 (tm 45) (tm 46) 3) 3) (tm 45) (tm 46)),
 o1 48 (.indexSl 1 (tm 44) (tm 47)),
 o1 49 (.load none (tm 48)),
 o1 50 (.mov (tm 0)),
 o1 51 (.mov (tm 3)),
 o1 52 (.mov (tm 11)),
 o1 53 (.bin .add (so (.binOp .add 3 (tm 51) (tm 52) 3) 3) (tm 51) (tm 52)),
 o1 54 (.indexSl 1 (tm 50) (tm 53)),
 o1 55 (.load none (tm 54)),
 o2 56 (.callV (tm 43) [(tm 49), (tm 55)]),
 o2 57 (.bin .lss (so (.binOp .lss 3 (tm 56) k0 3) 4) (tm 56) k0),
 o2 58 (.raw (so (.unOp .not 4 (tm 57)) 4))]) (.cond (tm 58)
 .ret
 .skip)) (.seq (.regionD [
 o1 59 (.mov (tm 0)),
 o1 60 (.mov (tm 3)),
 o1 61 (.mov (tm 10)),
 o1 62 (.bin .add (so (.binOp .add 3 (tm 60) (tm 61) 3) 3) (tm 60) (tm 61)),
 o1 63 (.mov (tm 0)),
 o1 64 (.mov (tm 3)),
 o1 65 (.mov (tm 11)),
 o1 66 (.bin .add (so (.binOp .add 3 (tm 64) (tm 65) 3) 3) (tm 64) (tm 65)),
 o1 67 (.mov (tm 0)),
 o1 68 (.mov (tm 3)),
 o1 69 (.mov (tm 11)),
 o1 70 (.bin .add (so (.binOp .add 3 (tm 68) (tm 69) 3) 3) (tm 68) (tm 69)),
 o1 71 (.indexSl 1 (tm 67) (tm 70)),
 o1 72 (.load none (tm 71)),
 o1 73 (.mov (tm 0)),
 o1 74 (.mov (tm 3)),
 o1 75 (.mov (tm 10)),
 o1 76 (.bin .add (so (.binOp .add 3 (tm 74) (tm 75) 3) 3) (tm 74) (tm 75)),
 o1 77 (.indexSl 1 (tm 73) (tm 76)),
 o1 78 (.load none (tm 77)),
 o1 79 (.indexSl 1 (tm 59) (tm 62)),
 ⟨none, .store 1 (tm 79) (tm 72), none, [(some 66, .bin .add (so (.binOp .add 3 (tm 64) (tm 65) 3) 3) (tm 64) (tm 65), none), (some 65, .mov (tm 11), none), (some 64, .mov (tm 3), none), (some 63, .mov (tm 0), none)], false⟩,
 o2 80 (.indexSl 1 (tm 63) (tm 66)),
 ⟨none, .store 1 (tm 80) (tm 78), none, [], true⟩]) (.region [
 o1 81 (.mov (tm 11)),
 o1 10 (.mov (tm 81))])))))))
def zcdQ_c : ACode :=
 (.seq (.region [
 o1 12 (.mov (tm 1)),
 o1 10 (.mov (tm 12))]) (.block 0 (.loop zcdQ_l0)))
def zcdQ : AFunc := ⟨82, [], zcdQ_c, none⟩
theorem zcdQ_t0 : tableOf Try.prog 84 = some zcdQ := by kernel_rfl
theorem zcdQ_t : T0 84 = some zcdQ := withKept_t rfl (withTrue_t rfl zcdQ_t0)
theorem zcdQ_runs {v0 v1 v2 v3 v4 : Value} {h : Heap} {R : RP} {X : XP} (k : RunC Try.prog T0 zcdQ_c ⟨[v0, v1, v2, v3, v4, U, U, U, U, U, U, U, U, U, U, U, U, U, U, U, U, U, U, U, U, U, U, U, U, U, U, U, U, U, U, U, U, U, U, U, U, U, U, U, U, U, U, U, U, U, U, U, U, U, U, U, U, U, U, U, U, U, U, U, U, U, U, U, U, U, U, U, U, U, U, U, U, U, U, U, U, U], [], h, none⟩ (bodyQ Try.prog T0 [] R X)) :
 Runs Try.prog T0 (.fn 84) [v0, v1, v2, v3, v4] h R X := Runs.fn zcdQ_t rfl k
abbrev zcdQ_l0_M : List Nat := [0, 0, 0, 0, 0, 0, 0, 0, 0, 0, 2, 1, 0, 1, 1, 1, 1, 1, 1, 1, 1, 1, 1, 1, 1, 1, 1, 1, 1, 1, 1, 1, 1, 1, 1, 1, 1, 1, 1, 1, 1, 1, 1, 1, 1, 1, 1, 1, 1, 1, 1, 1, 1, 1, 1, 1, 1, 1, 1, 1, 1, 1, 1, 1, 1, 1, 1, 1, 1, 1, 1, 1, 1, 1, 1, 1, 1, 1, 1, 1, 1, 1]
abbrev fn_zvcQ : FuncId := 85
def zvcQ_c : ACode :=
 (.seq (.region [
 o1 2 (.mov (.const (.int .u64 0)))]) (.seq (.region [
 o1 3 (.mov (tm 0)),
 o1 4 (.conv .u64 (so (.convert 3 104 (tm 3)) 104) (tm 3)),
 o1 5 (.callV (.func 72) [(tm 4)]),
 o1 6 (.bin .shl (so (.binOp .shl 104 (.const (.int .u64 1)) (tm 5) 3) 104) (.const (.int .u64 1)) (tm 5)),
 o1 2 (.mov (tm 6))]) .ret))
def zvcQ : AFunc := ⟨7, [(2, none)], zvcQ_c, none⟩
theorem zvcQ_t0 : tableOf Try.prog 85 = some zvcQ := by kernel_rfl
theorem zvcQ_t : T0 85 = some zvcQ := withKept_t rfl (withTrue_t rfl zvcQ_t0)
theorem zvcQ_runs {v0 : Value} {h : Heap} {R : RP} {X : XP} (k : RunC Try.prog T0 zvcQ_c ⟨[v0, U, U, U, U, U, U], [], h, none⟩ (bodyQ Try.prog T0 [(2, none)] R X)) :
 Runs Try.prog T0 (.fn 85) [v0] h R X := Runs.fn zvcQ_t rfl k
abbrev fn_zddQ : FuncId := 86
def zddQ_c : ACode :=
 (.seq (.region [
 o1 2 (.mov (.const (.int .u64 0)))]) (.seq (.regionD [
 o1 3 (.mov (tm 0)),
 o1 4 (.nilCheck (tm 3)),
 o1 5 (.load none (tm 4)),
 o1 6 (.mov (tm 0)),
 o1 7 (.nilCheck (tm 6)),
 o1 8 (.load none (tm 7)),
 o1 9 (.bin .shl (so (.binOp .shl 117 (tm 8) (.const (.int .u64 13)) 104) 117) (tm 8) (.const (.int .u64 13))),
 o2 10 (.bin .xor (so (.binOp .xor 117 (tm 5) (tm 9) 117) 117) (tm 5) (tm 9)),
 o2 11 (.nilCheck (tm 3)),
 ⟨none, .store 1 (tm 11) (tm 10), none, [], true⟩]) (.seq (.regionD [
 o1 12 (.mov (tm 0)),
 o1 13 (.nilCheck (tm 12)),
 o1 14 (.load none (tm 13)),
 o1 15 (.mov (tm 0)),
 o1 16 (.nilCheck (tm 15)),
 o1 17 (.load none (tm 16)),
 o1 18 (.bin .shr (so (.binOp .shr 117 (tm 17) (.const (.int .u64 7)) 104) 117) (tm 17) (.const (.int .u64 7))),
 o2 19 (.bin .xor (so (.binOp .xor 117 (tm 14) (tm 18) 117) 117) (tm 14) (tm 18)),
 o2 20 (.nilCheck (tm 12)),
 ⟨none, .store 1 (tm 20) (tm 19), none, [], true⟩]) (.seq (.regionD [
 o1 21 (.mov (tm 0)),
 o1 22 (.nilCheck (tm 21)),
 o1 23 (.load none (tm 22)),
 o1 24 (.mov (tm 0)),
 o1 25 (.nilCheck (tm 24)),
 o1 26 (.load none (tm 25)),
 o1 27 (.bin .shl (so (.binOp .shl 117 (tm 26) (.const (.int .u64 17)) 104) 117) (tm 26) (.const (.int .u64 17))),
 o2 28 (.bin .xor (so (.binOp .xor 117 (tm 23) (tm 27) 117) 117) (tm 23) (tm 27)),
 o2 29 (.nilCheck (tm 21)),
 ⟨none, .store 1 (tm 29) (tm 28), none, [], true⟩]) (.seq (.region [
 o1 30 (.mov (tm 0)),
 o1 31 (.nilCheck (tm 30)),
 o1 32 (.load none (tm 31)),
 o1 2 (.mov (tm 32))]) .ret)))))
def zddQ : AFunc := ⟨33, [(2, none)], zddQ_c, none⟩
theorem zddQ_t0 : tableOf Try.prog 86 = some zddQ := by kernel_rfl
theorem zddQ_t : T0 86 = some zddQ := withKept_t rfl (withTrue_t rfl zddQ_t0)
theorem zddQ_runs {v0 : Value} {h : Heap} {R : RP} {X : XP} (k : RunC Try.prog T0 zddQ_c ⟨[v0, U, U, U, U, U, U, U, U, U, U, U, U, U, U, U, U, U, U, U, U, U, U, U, U, U, U, U, U, U, U, U, U], [], h, none⟩ (bodyQ Try.prog T0 [(2, none)] R X)) :
 Runs Try.prog T0 (.fn 86) [v0] h R X := Runs.fn zddQ_t rfl k
abbrev fn_ztcQ : FuncId := 87
def ztcQ_c : ACode :=
 (.seq (.region [
 o1 8 (.mov k0)]) (.seq (.region [
 o1 9 (.mov (tm 0)),
 o1 10 (.mov (tm 1)),
 o1 11 (.bin .sub (so (.binOp .sub 3 (tm 10) (.const (.int .i64 1)) 3) 3) (tm 10) (.const (.int .i64 1))),
 o1 12 (.mov (tm 1)),
 o1 13 (.mov (tm 1)),
 o1 14 (.bin .add (so (.binOp .add 3 (tm 13) (.const (.int .i64 1)) 3) 3) (tm 13) (.const (.int .i64 1))),
 o1 15 (.mov (tm 2)),
 o1 16 (.mov (tm 3)),
 o1 17 (.callV (.func 88) [(tm 9), (tm 11), (tm 12), (tm 14), (tm 15), (tm 16)]),
 o1 8 (.mov (tm 17))]) .ret))
def ztcQ : AFunc := ⟨18, [(8, none)], ztcQ_c, none⟩
theorem ztcQ_t0 : tableOf Try.prog 87 = some ztcQ := by kernel_rfl
theorem ztcQ_t : T0 87 = some ztcQ := withKept_t rfl (withTrue_t rfl ztcQ_t0)
theorem ztcQ_runs {v0 v1 v2 v3 : Value} {h : Heap} {R : RP} {X : XP} (k : RunC Try.prog T0 ztcQ_c ⟨[v0, v1, v2, v3, U, U, U, U, U, U, U, U, U, U, U, U, U, U], [], h, none⟩ (bodyQ Try.prog T0 [(8, none)] R X)) :
 Runs Try.prog T0 (.fn 87) [v0, v1, v2, v3] h R X := Runs.fn ztcQ_t rfl k
abbrev fn_zucQ : FuncId := 88
def zucQ_c : ACode :=
 (.seq (.region [
 o1 12 (.mov k0)]) (.seq (.region [
 o1 14 (.mov (tm 0)),
 o1 15 (.mov (tm 1)),
 o1 16 (.mov (tm 2)),
 o1 17 (.mov (tm 4)),
 o1 18 (.mov (tm 5)),
 o1 19 (.callV (.func 89) [(tm 14), (tm 15), (tm 16), (tm 17), (tm 18)]),
 o1 13 (.mov (tm 19)),
 o1 20 (.extract 0 (tm 13)),
 o1 21 (.extract 1 (tm 13)),
 o1 1 (.mov (tm 20)),
 o1 2 (.mov (tm 21))]) (.seq (.region [
 o1 23 (.mov (tm 0)),
 o1 24 (.mov (tm 2)),
 o1 25 (.mov (tm 3)),
 o1 26 (.mov (tm 4)),
 o1 27 (.mov (tm 5)),
 o1 28 (.callV (.func 89) [(tm 23), (tm 24), (tm 25), (tm 26), (tm 27)]),
 o1 22 (.mov (tm 28)),
 o1 29 (.extract 0 (tm 22)),
 o1 30 (.extract 1 (tm 22)),
 o1 2 (.mov (tm 29)),
 o1 3 (.mov (tm 30))]) (.seq (.region [
 o1 32 (.mov (tm 0)),
 o1 33 (.mov (tm 1)),
 o1 34 (.mov (tm 2)),
 o1 35 (.mov (tm 4)),
 o1 36 (.mov (tm 5)),
 o1 37 (.callV (.func 89) [(tm 32), (tm 33), (tm 34), (tm 35), (tm 36)]),
 o1 31 (.mov (tm 37)),
 o1 38 (.extract 0 (tm 31)),
 o1 39 (.extract 1 (tm 31)),
 o1 1 (.mov (tm 38)),
 o1 2 (.mov (tm 39))]) (.seq (.region [
 o1 40 (.mov (tm 2)),
 o1 12 (.mov (tm 40))]) .ret)))))
def zucQ : AFunc := ⟨41, [(12, none)], zucQ_c, none⟩
theorem zucQ_t0 : tableOf Try.prog 88 = some zucQ := by kernel_rfl
theorem zucQ_t : T0 88 = some zucQ := withKept_t rfl (withTrue_t rfl zucQ_t0)
theorem zucQ_runs {v0 v1 v2 v3 v4 v5 : Value} {h : Heap} {R : RP} {X : XP} (k : RunC Try.prog T0 zucQ_c ⟨[v0, v1, v2, v3, v4, v5, U, U, U, U, U, U, U, U, U, U, U, U, U, U, U, U, U, U, U, U, U, U, U, U, U, U, U, U, U, U, U, U, U, U, U], [], h, none⟩ (bodyQ Try.prog T0 [(12, none)] R X)) :
 Runs Try.prog T0 (.fn 88) [v0, v1, v2, v3, v4, v5] h R X := Runs.fn zucQ_t rfl k
abbrev fn_zwcQ : FuncId := 89
def zwcQ_c : ACode :=
 (.seq (.region [
 o1 10 (.mov k0),
 o1 11 (.mov k0)]) (.seq (.seq (.regionD [
 o1 12 (.mov (tm 4)),
 o1 13 (.mov (tm 0)),
 o1 14 (.mov (tm 2)),
 o1 15 (.indexSl 1 (tm 13) (tm 14)),
 o1 16 (.load none (tm 15)),
 o1 17 (.mov (tm 0)),
 o1 18 (.mov (tm 1)),
 o1 19 (.indexSl 1 (tm 17) (tm 18)),
 o1 20 (.load none (tm 19)),
 o2 21 (.callV (tm 12) [(tm 16), (tm 20)]),
 o2 22 (.bin .lss (so (.binOp .lss 3 (tm 21) k0 3) 4) (tm 21) k0)]) (.cond (tm 22)
 (.seq (.region [
 o1 23 (.mov (tm 3)),
 o1 24 (.nilCheck (tm 23)),
 o1 25 (.load none (tm 24)),
 o1 26 (.bin .add (so (.binOp .add 3 (tm 25) (.const (.int .i64 1)) 3) 3) (tm 25) (.const (.int .i64 1))),
 o1 27 (.nilCheck (tm 23)),
 o3 (.store 1 (tm 27) (tm 26))]) (.seq (.region [
 o1 28 (.mov (tm 2)),
 o1 29 (.mov (tm 1)),
 o1 10 (.mov (tm 28)),
 o1 11 (.mov (tm 29))]) .ret))
 .skip)) (.seq (.region [
 o1 30 (.mov (tm 1)),
 o1 31 (.mov (tm 2)),
 o1 10 (.mov (tm 30)),
 o1 11 (.mov (tm 31))]) .ret)))
def zwcQ : AFunc := ⟨32, [(10, none), (11, none)], zwcQ_c, none⟩
theorem zwcQ_t0 : tableOf Try.prog 89 = some zwcQ := by kernel_rfl
theorem zwcQ_t : T0 89 = some zwcQ := withKept_t rfl (withTrue_t rfl zwcQ_t0)
theorem zwcQ_runs {v0 v1 v2 v3 v4 : Value} {h : Heap} {R : RP} {X : XP} (k : RunC Try.prog T0 zwcQ_c ⟨[v0, v1, v2, v3, v4, U, U, U, U, U, U, U, U, U, U, U, U, U, U, U, U, U, U, U, U, U, U, U, U, U, U, U], [], h, none⟩ (bodyQ Try.prog T0 [(10, none), (11, none)] R X)) :
 Runs Try.prog T0 (.fn 89) [v0, v1, v2, v3, v4] h R X := Runs.fn zwcQ_t rfl k
abbrev fn_zzbQ : FuncId := 107
def zzbQ_c : ACode :=
 (.seq (.region [
 o1 2 (.mov k0)]) (.seq (.region [
 o1 3 (.mov (tm 0)),
 o1 4 (.lenSl (tm 3)),
 o1 2 (.mov (tm 4))]) .ret))
def zzbQ : AFunc := ⟨5, [(2, none)], zzbQ_c, none⟩
theorem zzbQ_t0 : tableOf Try.prog 107 = some zzbQ := by kernel_rfl
theorem zzbQ_t : T0 107 = some zzbQ := withKept_t rfl (withTrue_t rfl zzbQ_t0)
theorem zzbQ_runs {v0 : Value} {h : Heap} {R : RP} {X : XP} (k : RunC Try.prog T0 zzbQ_c ⟨[v0, U, U, U, U], [], h, none⟩ (bodyQ Try.prog T0 [(2, none)] R X)) :
 Runs Try.prog T0 (.fn 107) [v0] h R X := Runs.fn zzbQ_t rfl k
abbrev fn_zacQ : FuncId := 108
def zacQ_c : ACode :=
 (.seq (.region [
 o1 6 (.mov (.const (.bool false)))]) (.seq (.regionD [
 o1 7 (.mov (tm 0)),
 o1 8 (.mov (tm 1)),
 o1 9 (.indexSl 1 (tm 7) (tm 8)),
 o1 10 (.load none (tm 9)),
 o1 11 (.mov (tm 0)),
 o1 12 (.mov (tm 2)),
 o1 13 (.indexSl 1 (tm 11) (tm 12)),
 o1 14 (.load none (tm 13)),
 o2 15 (.callV (.func 51) [(tm 10), (tm 14)]),
 o2 16 (.bin .lss (so (.binOp .lss 3 (tm 15) k0 3) 4) (tm 15) k0),
 o2 6 (.mov (tm 16))]) .ret))
def zacQ : AFunc := ⟨17, [(6, none)], zacQ_c, none⟩
theorem zacQ_t0 : tableOf Try.prog 108 = some zacQ := by kernel_rfl
theorem zacQ_t : T0 108 = some zacQ := withKept_t rfl (withTrue_t rfl zacQ_t0)
theorem zacQ_runs {v0 v1 v2 : Value} {h : Heap} {R : RP} {X : XP} (k : RunC Try.prog T0 zacQ_c ⟨[v0, v1, v2, U, U, U, U, U, U, U, U, U, U, U, U, U, U], [], h, none⟩ (bodyQ Try.prog T0 [(6, none)] R X)) :
 Runs Try.prog T0 (.fn 108) [v0, v1, v2] h R X := Runs.fn zacQ_t rfl k
abbrev fn_zdcQ : FuncId := 109
def zdcQ_c : ACode :=
 (.regionD [
 o1 6 (.mov (tm 0)),
 o1 7 (.mov (tm 1)),
 o1 8 (.mov (tm 0)),
 o1 9 (.mov (tm 2)),
 o1 10 (.mov (tm 0)),
 o1 11 (.mov (tm 2)),
 o1 12 (.indexSl 1 (tm 10) (tm 11)),
 o1 13 (.load none (tm 12)),
 o1 14 (.mov (tm 0)),
 o1 15 (.mov (tm 1)),
 o1 16 (.indexSl 1 (tm 14) (tm 15)),
 o1 17 (.load none (tm 16)),
 o1 18 (.indexSl 1 (tm 6) (tm 7)),
 ⟨none, .store 1 (tm 18) (tm 13), none, [(some 9, .mov (tm 2), none), (some 8, .mov (tm 0), none)], false⟩,
 o2 19 (.indexSl 1 (tm 8) (tm 9)),
 ⟨none, .store 1 (tm 19) (tm 17), none, [], true⟩])
def zdcQ : AFunc := ⟨20, [], zdcQ_c, none⟩
theorem zdcQ_t0 : tableOf Try.prog 109 = some zdcQ := by kernel_rfl
theorem zdcQ_t : T0 109 = some zdcQ := withKept_t rfl (withTrue_t rfl zdcQ_t0)
theorem zdcQ_runs {v0 v1 v2 : Value} {h : Heap} {R : RP} {X : XP} (k : RunC Try.prog T0 zdcQ_c ⟨[v0, v1, v2, U, U, U, U, U, U, U, U, U, U, U, U, U, U, U, U, U], [], h, none⟩ (bodyQ Try.prog T0 [] R X)) :
 Runs Try.prog T0 (.fn 109) [v0, v1, v2] h R X := Runs.fn zdcQ_t rfl k
abbrev fn_zbcQ : FuncId := 110
def zbcQ_c : ACode :=
 (.seq (.region [
 o1 2 (.mov (.const .nilIface))]) (.seq (.region [
 o1 5 (.mov (tm 0)),
 o1 6 (.nilCheck (tm 5)),
 o1 7 (.load none (tm 6)),
 o1 8 (.lenSl (tm 7)),
 o1 9 (.bin .sub (so (.binOp .sub 3 (tm 8) (.const (.int .i64 1)) 3) 3) (tm 8) (.const (.int .i64 1))),
 o1 3 (.mov (tm 9))]) (.seq (.region [
 o1 10 (.mov (tm 0)),
 o1 11 (.nilCheck (tm 10)),
 o1 12 (.load none (tm 11)),
 o1 13 (.mov (tm 3)),
 o1 14 (.indexSl 1 (tm 12) (tm 13)),
 o1 15 (.load none (tm 14)),
 o1 4 (.mov (tm 15))]) (.seq (.region [
 o1 16 (.mov (tm 0)),
 o1 17 (.mov (tm 0)),
 o1 18 (.nilCheck (tm 17)),
 o1 19 (.load none (tm 18)),
 o1 20 (.mov (tm 3)),
 o1 21 (.sliceSl 1 (tm 19) none (some (tm 20)) none),
 o1 22 (.nilCheck (tm 16)),
 o3 (.store 1 (tm 22) (tm 21))]) (.seq (.region [
 o1 23 (.mov (tm 4)),
 o1 24 (.mkIface 74 (tm 23)),
 o1 2 (.mov (tm 24))]) .ret)))))
def zbcQ : AFunc := ⟨25, [(2, none)], zbcQ_c, none⟩
theorem zbcQ_t0 : tableOf Try.prog 110 = some zbcQ := by kernel_rfl
theorem zbcQ_t : T0 110 = some zbcQ := withKept_t rfl (withTrue_t rfl zbcQ_t0)
theorem zbcQ_runs {v0 : Value} {h : Heap} {R : RP} {X : XP} (k : RunC Try.prog T0 zbcQ_c ⟨[v0, U, U, U, U, U, U, U, U, U, U, U, U, U, U, U, U, U, U, U, U, U, U, U, U], [], h, none⟩ (bodyQ Try.prog T0 [(2, none)] R X)) :
 Runs Try.prog T0 (.fn 110) [v0] h R X := Runs.fn zbcQ_t rfl k
abbrev fn_zccQ : FuncId := 111
def zccQ_c : ACode :=
 (.regionD [
 o1 4 (.mov (tm 0)),
 o1 5 (.mov (tm 0)),
 o1 6 (.nilCheck (tm 5)),
 o1 7 (.load none (tm 6)),
 o1 8 (.mov (tm 1)),
 o1 9 (.assertTo 74 (.pointer none) false (tm 8)),
 ⟨some 10, .buildSlice 74 [(.pointer none)] 1 [(0, 1, (tm 9))], none, [(some 7, .load none (tm 6), none), (some 6, .nilCheck (tm 5), none), (some 5, .mov (tm 0), none), (some 4, .mov (tm 0), none)], false⟩,
 ⟨some 11, .append 74 1 8 [(.pointer none)] false (tm 7) (tm 10), none, [(some 4, .mov (tm 0), none)], false⟩,
 o2 12 (.nilCheck (tm 4)),
 ⟨none, .store 1 (tm 12) (tm 11), none, [], true⟩])
def zccQ : AFunc := ⟨13, [], zccQ_c, none⟩
theorem zccQ_t0 : tableOf Try.prog 111 = some zccQ := by kernel_rfl
theorem zccQ_t : T0 111 = some zccQ := withKept_t rfl (withTrue_t rfl zccQ_t0)
theorem zccQ_runs {v0 v1 : Value} {h : Heap} {R : RP} {X : XP} (k : RunC Try.prog T0 zccQ_c ⟨[v0, v1, U, U, U, U, U, U, U, U, U, U, U], [], h, none⟩ (bodyQ Try.prog T0 [] R X)) :
 Runs Try.prog T0 (.fn 111) [v0, v1] h R X := Runs.fn zccQ_t rfl k
end Go.Proofs.Ytoadcfjkkoemdaa.A

namespace Go.Proofs.Ytoadcfjkkoemdaa.A
open Go Go.Vm
set_option maxRecDepth 10000
set_option linter.unusedVariables false
def pcells (l : List Nat) : List Value := l.map fun b => .pointer (some ⟨b, 0, none⟩)
theorem pcells_len (l : List Nat) : (pcells l).length = l.length := by simp [pcells]
theorem pcells_append (l m : List Nat) : pcells (l ++ m) = pcells l ++ pcells m := by simp [pcells]
theorem one_ptr {h : Heap} {b es : Nat} : newCells (h.push (.cells [.pointer (some ⟨b, 0, none⟩)] es)) 1 [.pointer none] false (.slice (some ⟨h.n, 0, none⟩) 1 1) = some (1, [.pointer (some ⟨b, 0, none⟩)]) :=
  (Rd.mk (size := 1) (n := 1) (cap := 1) (sp := none) (o := 0) (b := h.n) (c := [.pointer (some ⟨b, 0, none⟩)]) (by simp) (by rw [cellsAt_of (c := [.pointer (some ⟨b, 0, none⟩)]) (by rw [Heap.get_push, if_pos rfl]; rfl) (by simp)]; rfl)).new _
end Go.Proofs.Ytoadcfjkkoemdaa.A

namespace Go.Proofs.Ytoadcfjkkoemdaa.A
open Go Go.Vm
set_option maxRecDepth 10000
set_option linter.unusedVariables false
section
variable {P : Program} {ts : List Value} {h : Heap} {x y : Operand} {t t' ty : TypeId} {A : Bool} {l : List Value} {tl : List LK}
instance (priority := high) xnotT [e : Ev ts x (.bool true)] : XOp P ts h (.raw (so (.unOp .not t x) ty)) (.bool false) h := (XOp.notB (A := true) : XOp P ts h (.raw (so (.unOp .not t x) ty)) (.bool (!true)) h)
instance (priority := high) xnotF [e : Ev ts x (.bool false)] : XOp P ts h (.raw (so (.unOp .not t x) ty)) (.bool true) h := (XOp.notB (A := false) : XOp P ts h (.raw (so (.unOp .not t x) ty)) (.bool (!false)) h)
instance (priority := high) xneqF [i : IsBoolT P t] [e : Ev ts x (.bool A)] [e' : Ev ts y (.bool A)] : XOp P ts h (.bin .neq (so (.binOp .neq t x y t') ty) x y) (.bool false) h := by
  have := (XOp.neqB : XOp P ts h (.bin .neq (so (.binOp .neq t x y t') ty) x y) (.bool (!(A == A))) h)
  rw [beq_self_eq_true] at this
  exact this
instance (priority := high) xneqS [i : TLeaves P t tl] [e : Ev ts x (.agg ⟨l⟩)] [e' : Ev ts y (.agg ⟨l⟩)] [g : GrL l] [k : KL tl l] : XOp P ts h (.bin .neq (so (.binOp .neq t x y t') ty) x y) (.bool false) h := by
  have := (XOp.neqAgg : XOp P ts h (.bin .neq (so (.binOp .neq t x y t') ty) x y) (.bool (!same l l)) h)
  rw [same_self] at this
  exact this
theorem xneqI0 {p q : Int} {O : Oper} (hp : p = q) [e1 : Ev ts x (.int .i64 p)] [e2 : Ev ts y (.int .i64 q)] : XOp P ts h (.bin .neq O x y) (.bool false) h := by
  have := (XOp.neqI : XOp P ts h (.bin .neq O x y) (.bool (!decide (p = q))) h)
  rw [decide_eq_true hp] at this
  exact this
theorem xlss0 {p q : Int} {O : Oper} (hp : ¬ p < q) [e1 : Ev ts x (.int .i64 p)] [e2 : Ev ts y (.int .i64 q)] : XOp P ts h (.bin .lss O x y) (.bool false) h := by
  have := (XOp.lssI : XOp P ts h (.bin .lss O x y) (.bool (decide (p < q))) h)
  rw [decide_eq_false hp] at this
  exact this
theorem xgtr0 {p q : Int} {O : Oper} (hp : ¬ q < p) [e1 : Ev ts x (.int .i64 p)] [e2 : Ev ts y (.int .i64 q)] : XOp P ts h (.bin .gtr O x y) (.bool false) h := by
  have := (XOp.gtrI : XOp P ts h (.bin .gtr O x y) (.bool (decide (q < p))) h)
  rw [decide_eq_false hp] at this
  exact this
theorem xeql0 {p q : Int} {O : Oper} (hp : p ≠ q) [e1 : Ev ts x (.int .i64 p)] [e2 : Ev ts y (.int .i64 q)] : XOp P ts h (.bin .eql O x y) (.bool false) h := by
  have := (XOp.eqlI : XOp P ts h (.bin .eql O x y) (.bool (decide (p = q))) h)
  rw [decide_eq_false hp] at this
  exact this
theorem xeql1 {p q : Int} {O : Oper} (hp : p = q) [e1 : Ev ts x (.int .i64 p)] [e2 : Ev ts y (.int .i64 q)] : XOp P ts h (.bin .eql O x y) (.bool true) h := by
  have := (XOp.eqlI : XOp P ts h (.bin .eql O x y) (.bool (decide (p = q))) h)
  rw [decide_eq_true hp] at this
  exact this
end
end Go.Proofs.Ytoadcfjkkoemdaa.A

namespace Go.Proofs.Ytoadcfjkkoemdaa.A
open Go Go.Vm
set_option maxRecDepth 10000
set_option linter.unusedVariables false
set_option linter.unusedSimpArgs false
section
variable {P : Program} {ts : List Value} {h : Heap} {x y : Operand} {t t' ty : TypeId} {A : Bool}
instance (priority := high) xeqlT [i : IsBoolT P t] [e : Ev ts x (.bool A)] [e' : Ev ts y (.bool A)] : XOp P ts h (.bin .eql (so (.binOp .eql t x y t') ty) x y) (.bool true) h := by
  have := (XOp.eqlB : XOp P ts h (.bin .eql (so (.binOp .eql t x y t') ty) x y) (.bool (A == A)) h)
  rw [beq_self_eq_true] at this
  exact this
theorem xlss1 {p q : Int} {O : Oper} (hp : p < q) [e1 : Ev ts x (.int .i64 p)] [e2 : Ev ts y (.int .i64 q)] : XOp P ts h (.bin .lss O x y) (.bool true) h := by
  have := (XOp.lssI : XOp P ts h (.bin .lss O x y) (.bool (decide (p < q))) h)
  rw [decide_eq_true hp] at this
  exact this
theorem xgtr1 {p q : Int} {O : Oper} (hp : q < p) [e1 : Ev ts x (.int .i64 p)] [e2 : Ev ts y (.int .i64 q)] : XOp P ts h (.bin .gtr O x y) (.bool true) h := by
  have := (XOp.gtrI : XOp P ts h (.bin .gtr O x y) (.bool (decide (q < p))) h)
  rw [decide_eq_true hp] at this
  exact this
end
end Go.Proofs.Ytoadcfjkkoemdaa.A
