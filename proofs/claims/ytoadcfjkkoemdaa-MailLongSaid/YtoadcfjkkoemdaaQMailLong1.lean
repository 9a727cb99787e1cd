/- Contracts of functions, over the machine. -/
import Derived.Test.YtoadcfjkkoemdaaVK
import Derived.Test.YtoadcfjkkoemdaaRows
import Derived.Test.YtoadcfjkkoemdaaVJ
namespace Go.Vm
abbrev U : Value := undef
abbrev tm (n : Nat) : Operand := .tmp n
abbrev k0 : Operand := .const (.int .i64 0)
abbrev o1 (d : Nat) (x : AOp) : AOper := ⟨some d, x, none, [], false⟩
abbrev o2 (d : Nat) (x : AOp) : AOper := ⟨some d, x, none, [], true⟩
abbrev o3 (x : AOp) : AOper := ⟨none, x, none, [], false⟩
abbrev o4 (d : Nat) (x : AOp) (t : Nat) : AOper := ⟨some d, x, some (t, true), [], false⟩
abbrev o5 (d : Nat) (x : AOp) (t : Nat) : AOper := ⟨some d, x, some (t, false), [], false⟩
end Go.Vm
set_option linter.unusedSimpArgs false
noncomputable section
set_option maxRecDepth 100000
set_option linter.unusedVariables false
namespace Go.Proofs.Ytoadcfjkkoemdaa.A
open Go Go.Vm
instance : IsIface Try.prog 20 := ⟨by kernel_rfl⟩
instance : IsIface Try.prog 95 := ⟨by kernel_rfl⟩
instance : IsIface Try.prog 96 := ⟨by kernel_rfl⟩
abbrev prims : List FuncId := [16]
abbrev kepts : List FuncId := []
def T0 : Table := withKept (withTrue Try.prog prims) kepts
theorem zhQ_known {h : Heap} : Runs Try.prog T0 (.fn 16) [] h (fun r h' => r = .bool true ∧ h' = h) (fun _ _ => False) := known_runs rfl
instance : IsBoolT Try.prog 4 := ⟨by kernel_rfl⟩
instance : TLeaves Try.prog 7 (.i .i64 :: (.i .i64 :: (.b :: (.i .u8 :: [])))) := ⟨by kernel_rfl, by kernel_rfl, by kernel_rfl⟩
instance : TLeaves Try.prog 8 (.i .i64 :: (.i .i64 :: (.b :: (.i .u8 :: [])))) := ⟨by kernel_rfl, by kernel_rfl, by kernel_rfl⟩
abbrev fn_zgQ : FuncId := 4
def zgQ_c : ACode :=
 (.seq (.region [
 o1 2 (.mov (.const (.bool false)))]) (.seq (.region [
 o1 13 (.callV (.func 10) [(.const (.int .i64 1))]),
 o1 12 (.mov (tm 13)),
 o1 14 (.extract 0 (tm 12)),
 o1 15 (.extract 1 (tm 12)),
 o1 3 (.mov (tm 14)),
 o1 4 (.mov (tm 15))]) (.seq (.region [
 o1 17 (.callV (.func 17) [(.const (.int .i64 1))]),
 o1 16 (.mov (tm 17)),
 o1 18 (.extract 0 (tm 16)),
 o1 19 (.extract 1 (tm 16)),
 o1 5 (.mov (tm 18)),
 o1 6 (.mov (tm 19))]) (.seq (.seq (.region [
 o1 20 (.mov (tm 4)),
 o1 21 (.bin .neq (so (.binOp .neq 24 (tm 20) k0 24) 4) (tm 20) k0),
 o1 22 (.mov (tm 21)),
 o5 23 (.mov (tm 6)) 22,
 o5 24 (.bin .neq (so (.binOp .neq 24 (tm 23) k0 24) 4) (tm 23) k0) 22,
 o1 25 (.pick (tm 22) (.const (.bool true)) (tm 24)),
 o1 26 (.mov (tm 25)),
 o5 27 (.mov (tm 3)) 26,
 o5 28 (.eq .ptr false (so (.binOp .eql 22 (tm 27) (.const (.pointer none)) 22) 4) (tm 27) (.const (.pointer none))) 26,
 o1 29 (.pick (tm 26) (.const (.bool true)) (tm 28))]) (.cond (tm 29)
 (.seq (.region [
 o1 2 (.mov (.const (.bool false)))]) .ret)
 .skip)) (.seq (.region [
 o1 30 (.mov (tm 0)),
 o1 31 (.callV (.func 18) [(tm 30), (.const (.int .i64 11))]),
 o1 32 (.bin .add (so (.binOp .add 3 (.const (.int .i64 65530)) (tm 31) 3) 3) (.const (.int .i64 65530)) (tm 31)),
 o1 33 (.makeSlice 5 1 1 [(.int .u8 0)] (tm 32) (tm 32)),
 o1 7 (.mov (tm 33))]) (.seq (.region [
 o1 35 (.mov (tm 3)),
 o1 36 (.mov (tm 7)),
 o1 37 (.callV (.func 19) [(tm 35), k0, (.const (.int .i64 1)), (.const (.int .i64 2)), (tm 36)]),
 o1 34 (.mov (tm 37)),
 o1 38 (.extract 0 (tm 34)),
 o1 39 (.extract 1 (tm 34)),
 o1 8 (.mov (tm 38)),
 o1 9 (.mov (tm 39))]) (.seq (.region [
 o1 41 (.mov (tm 5)),
 o1 42 (.mov (tm 7)),
 o1 43 (.callV (.func 20) [(tm 41), k0, (.const (.int .i64 1)), (.const (.int .i64 2)), (tm 42)]),
 o1 40 (.mov (tm 43)),
 o1 44 (.extract 0 (tm 40)),
 o1 45 (.extract 1 (tm 40)),
 o1 10 (.mov (tm 44)),
 o1 11 (.mov (tm 45))]) (.seq (.regionD [
 o1 46 (.mov (tm 8)),
 o1 47 (.mov (tm 10)),
 o2 48 (.bin .eql (so (.binOp .eql 3 (tm 46) (tm 47) 3) 4) (tm 46) (tm 47)),
 o2 49 (.mov (tm 48)),
 o4 50 (.mov (tm 9)) 49,
 o4 51 (.mov (tm 11)) 49,
 ⟨some 52, .bin .eql (so (.binOp .eql 24 (tm 50) (tm 51) 24) 4) (tm 50) (tm 51), some (49, true), [], true⟩,
 o2 53 (.pick (tm 49) (tm 52) (.const (.bool false))),
 o2 54 (.mov (tm 53)),
 o4 55 (.mov (tm 3)) 54,
 o4 57 (.mov (tm 5)) 54,
 o4 58 (.nilCheck (tm 57)) 54,
 o4 59 (.fieldAddr 3 (tm 58)) 54,
 o4 60 (.load none (tm 59)) 54,
 ⟨some 56, .callV (.func 22) [(tm 55)], some (54, true), [(some 60, .load none (tm 59), some (54, true)), (some 59, .fieldAddr 3 (tm 58), some (54, true)), (some 58, .nilCheck (tm 57), some (54, true)), (some 57, .mov (tm 5), some (54, true))], false⟩,
 ⟨some 61, .callV (.func 21) [(tm 56), (tm 60)], some (54, true), [], true⟩,
 o2 62 (.pick (tm 54) (tm 61) (.const (.bool false))),
 o2 63 (.mov (tm 62)),
 ⟨some 64, .callV (.func 16) [], some (63, true), [], true⟩,
 o2 65 (.pick (tm 63) (tm 64) (.const (.bool false))),
 o2 2 (.mov (tm 65))]) .ret))))))))
def zgQ : AFunc := ⟨66, [(2, none)], zgQ_c, none⟩
theorem zgQ_t0 : tableOf Try.prog 4 = some zgQ := by kernel_rfl
theorem zgQ_t : T0 4 = some zgQ := withKept_t rfl (withTrue_t rfl zgQ_t0)
theorem zgQ_runs {v0 : Value} {h : Heap} {R : RP} {X : XP} (k : RunC Try.prog T0 zgQ_c ⟨[v0, U, U, U, U, U, U, U, U, U, U, U, U, U, U, U, U, U, U, U, U, U, U, U, U, U, U, U, U, U, U, U, U, U, U, U, U, U, U, U, U, U, U, U, U, U, U, U, U, U, U, U, U, U, U, U, U, U, U, U, U, U, U, U, U, U], [], h, none⟩ (bodyQ Try.prog T0 [(2, none)] R X)) :
 Runs Try.prog T0 (.fn 4) [v0] h R X := Runs.fn zgQ_t rfl k
abbrev fn_zqQ : FuncId := 10
def zqQ_c : ACode :=
 (.seq (.region [
 o1 2 (.mov (.const (.pointer none))),
 o1 3 (.mov k0)]) (.seq (.seq (.region [
 o1 4 (.mov (tm 0)),
 o1 5 (.bin .lss (so (.binOp .lss 3 (tm 4) (.const (.int .i64 1)) 3) 4) (tm 4) (.const (.int .i64 1))),
 o1 6 (.mov (tm 5)),
 o5 7 (.mov (tm 0)) 6,
 o5 8 (.bin .gtr (so (.binOp .gtr 3 (tm 7) (.const (.int .i64 4096)) 3) 4) (tm 7) (.const (.int .i64 4096))) 6,
 o1 9 (.pick (tm 6) (.const (.bool true)) (tm 8))]) (.cond (tm 9)
 (.seq (.region [
 o1 2 (.mov (.const (.pointer none))),
 o1 3 (.mov (.const (.int .i64 3)))]) .ret)
 .skip)) (.seq (.region [
 o1 10 (.mov (tm 0)),
 o1 11 (.mkMap),
 o1 12 (.build [(.int .i64 0), (.int .i64 0), (.int .i64 0), (.slice none 0 0), (.map none)] [(0, 1, (tm 10)), (4, 1, (tm 11))]),
 o1 13 (.box 65 (tm 12)),
 o1 2 (.mov (tm 13)),
 o1 3 (.mov k0)]) .ret)))
def zqQ : AFunc := ⟨14, [(2, none), (3, none)], zqQ_c, none⟩
theorem zqQ_t0 : tableOf Try.prog 10 = some zqQ := by kernel_rfl
theorem zqQ_t : T0 10 = some zqQ := withKept_t rfl (withTrue_t rfl zqQ_t0)
theorem zqQ_runs {v0 : Value} {h : Heap} {R : RP} {X : XP} (k : RunC Try.prog T0 zqQ_c ⟨[v0, U, U, U, U, U, U, U, U, U, U, U, U, U], [], h, none⟩ (bodyQ Try.prog T0 [(2, none), (3, none)] R X)) :
 Runs Try.prog T0 (.fn 10) [v0] h R X := Runs.fn zqQ_t rfl k
abbrev fn_zkQ : FuncId := 17
def zkQ_c : ACode :=
 (.seq (.region [
 o1 2 (.mov (.const (.pointer none))),
 o1 3 (.mov k0)]) (.seq (.seq (.region [
 o1 4 (.mov (tm 0)),
 o1 5 (.bin .lss (so (.binOp .lss 3 (tm 4) (.const (.int .i64 1)) 3) 4) (tm 4) (.const (.int .i64 1))),
 o1 6 (.mov (tm 5)),
 o5 7 (.mov (tm 0)) 6,
 o5 8 (.bin .gtr (so (.binOp .gtr 3 (tm 7) (.const (.int .i64 4096)) 3) 4) (tm 7) (.const (.int .i64 4096))) 6,
 o1 9 (.pick (tm 6) (.const (.bool true)) (tm 8))]) (.cond (tm 9)
 (.seq (.region [
 o1 2 (.mov (.const (.pointer none))),
 o1 3 (.mov (.const (.int .i64 3)))]) .ret)
 .skip)) (.seq (.region [
 o1 10 (.mov (tm 0)),
 o1 11 (.build [(.int .i64 0), (.int .i64 0), (.int .i64 0), (.slice none 0 0)] [(0, 1, (tm 10))]),
 o1 12 (.box 45 (tm 11)),
 o1 2 (.mov (tm 12)),
 o1 3 (.mov k0)]) .ret)))
def zkQ : AFunc := ⟨13, [(2, none), (3, none)], zkQ_c, none⟩
theorem zkQ_t0 : tableOf Try.prog 17 = some zkQ := by kernel_rfl
theorem zkQ_t : T0 17 = some zkQ := withKept_t rfl (withTrue_t rfl zkQ_t0)
theorem zkQ_runs {v0 : Value} {h : Heap} {R : RP} {X : XP} (k : RunC Try.prog T0 zkQ_c ⟨[v0, U, U, U, U, U, U, U, U, U, U, U, U], [], h, none⟩ (bodyQ Try.prog T0 [(2, none), (3, none)] R X)) :
 Runs Try.prog T0 (.fn 17) [v0] h R X := Runs.fn zkQ_t rfl k
abbrev fn_zdQ : FuncId := 18
def zdQ_c : ACode :=
 (.seq (.region [
 o1 4 (.mov k0)]) (.seq (.seq (.region [
 o1 5 (.mov (tm 1)),
 o1 6 (.bin .leq (so (.binOp .leq 3 (tm 5) k0 3) 4) (tm 5) k0)]) (.cond (tm 6)
 (.seq (.region [
 o1 4 (.mov k0)]) .ret)
 .skip)) (.seq (.region [
 o1 7 (.mov (tm 0)),
 o1 8 (.mov (tm 1)),
 o1 9 (.bin .rem (so (.binOp .rem 3 (tm 7) (tm 8) 3) 3) (tm 7) (tm 8)),
 o1 0 (.mov (tm 9))]) (.seq (.seq (.region [
 o1 10 (.mov (tm 0)),
 o1 11 (.bin .lss (so (.binOp .lss 3 (tm 10) k0 3) 4) (tm 10) k0)]) (.cond (tm 11)
 (.region [
 o1 12 (.mov (tm 0)),
 o1 13 (.mov (tm 1)),
 o1 14 (.bin .add (so (.binOp .add 3 (tm 12) (tm 13) 3) 3) (tm 12) (tm 13)),
 o1 0 (.mov (tm 14))])
 .skip)) (.seq (.region [
 o1 15 (.mov (tm 0)),
 o1 4 (.mov (tm 15))]) .ret)))))
def zdQ : AFunc := ⟨16, [(4, none)], zdQ_c, none⟩
theorem zdQ_t0 : tableOf Try.prog 18 = some zdQ := by kernel_rfl
theorem zdQ_t : T0 18 = some zdQ := withKept_t rfl (withTrue_t rfl zdQ_t0)
theorem zdQ_runs {v0 v1 : Value} {h : Heap} {R : RP} {X : XP} (k : RunC Try.prog T0 zdQ_c ⟨[v0, v1, U, U, U, U, U, U, U, U, U, U, U, U, U, U], [], h, none⟩ (bodyQ Try.prog T0 [(4, none)] R X)) :
 Runs Try.prog T0 (.fn 18) [v0, v1] h R X := Runs.fn zdQ_t rfl k
abbrev fn_znQ : FuncId := 19
def znQ_c : ACode :=
 (.seq (.region [
 o1 10 (.mov k0),
 o1 11 (.mov k0)]) (.seq (.block 0 (.seq (.region [
 o1 13 (.mov (tm 0)),
 o1 14 (.callV (.func 43) [(tm 13)]),
 o1 12 (.mov (tm 14))]) (.cond (tm 12)
 (.seq (.region [
 o1 10 (.mov k0),
 o1 11 (.mov (.const (.int .i64 1)))]) .ret)
 (.seq (.region [
 o1 16 (.mov (tm 1)),
 o1 17 (.callV (.func 44) [(tm 16)]),
 o1 18 (.raw (so (.unOp .not 4 (tm 17)) 4)),
 o1 19 (.mov (tm 18)),
 o5 20 (.mov (tm 2)) 19,
 o5 21 (.callV (.func 44) [(tm 20)]) 19,
 o5 22 (.raw (so (.unOp .not 4 (tm 21)) 4)) 19,
 o1 23 (.pick (tm 19) (.const (.bool true)) (tm 22)),
 o1 24 (.mov (tm 23)),
 o5 25 (.mov (tm 3)) 24,
 o5 26 (.callV (.func 41) [(tm 25)]) 24,
 o5 27 (.raw (so (.unOp .not 4 (tm 26)) 4)) 24,
 o1 28 (.pick (tm 24) (.const (.bool true)) (tm 27)),
 o1 15 (.mov (tm 28))]) (.cond (tm 15)
 (.seq (.region [
 o1 10 (.mov k0),
 o1 11 (.mov (.const (.int .i64 3)))]) .ret)
 (.seq (.region [
 o1 30 (.mov (tm 4)),
 o1 31 (.lenSl (tm 30)),
 o1 32 (.bin .gtr (so (.binOp .gtr 3 (tm 31) (.const (.int .i64 65536)) 3) 4) (tm 31) (.const (.int .i64 65536))),
 o1 29 (.mov (tm 32))]) (.cond (tm 29)
 (.seq (.region [
 o1 10 (.mov k0),
 o1 11 (.mov (.const (.int .i64 4)))]) .ret)
 (.seq (.regionD [
 o1 34 (.mov (tm 0)),
 o1 35 (.nilCheck (tm 34)),
 o1 36 (.fieldAddr 3 (tm 35)),
 o1 37 (.load none (tm 36)),
 o1 38 (.lenSl (tm 37)),
 o1 39 (.mov (tm 0)),
 o1 40 (.nilCheck (tm 39)),
 o1 41 (.fieldAddr 0 (tm 40)),
 o1 42 (.load none (tm 41)),
 o2 43 (.bin .geq (so (.binOp .geq 3 (tm 38) (tm 42) 3) 4) (tm 38) (tm 42)),
 o2 33 (.mov (tm 43))]) (.cond (tm 33)
 (.seq (.region [
 o1 10 (.mov k0),
 o1 11 (.mov (.const (.int .i64 7)))]) .ret)
 .skip))))))))) (.seq (.region [
 o1 44 (.mov (tm 0)),
 o1 45 (.mov (tm 1)),
 o1 46 (.mov (tm 2)),
 o1 47 (.mov (tm 3)),
 o1 48 (.mov (tm 4)),
 o1 49 (.build [(.int .i64 0), (.int .i64 0), (.int .i64 0), (.int .i64 0), (.slice none 0 0)] [(1, 1, (tm 45)), (2, 1, (tm 46)), (3, 1, (tm 47)), (4, 1, (tm 48))]),
 o1 50 (.callV (.func 42) [(tm 44), (tm 49)]),
 o1 10 (.mov (tm 50)),
 o1 11 (.mov k0)]) .ret)))
def znQ : AFunc := ⟨51, [(10, none), (11, none)], znQ_c, none⟩
theorem znQ_t0 : tableOf Try.prog 19 = some znQ := by kernel_rfl
theorem znQ_t : T0 19 = some znQ := withKept_t rfl (withTrue_t rfl znQ_t0)
theorem znQ_runs {v0 v1 v2 v3 v4 : Value} {h : Heap} {R : RP} {X : XP} (k : RunC Try.prog T0 znQ_c ⟨[v0, v1, v2, v3, v4, U, U, U, U, U, U, U, U, U, U, U, U, U, U, U, U, U, U, U, U, U, U, U, U, U, U, U, U, U, U, U, U, U, U, U, U, U, U, U, U, U, U, U, U, U, U], [], h, none⟩ (bodyQ Try.prog T0 [(10, none), (11, none)] R X)) :
 Runs Try.prog T0 (.fn 19) [v0, v1, v2, v3, v4] h R X := Runs.fn znQ_t rfl k
abbrev fn_ziQ : FuncId := 20
def ziQ_c : ACode :=
 (.seq (.region [
 o1 10 (.mov k0),
 o1 11 (.mov k0)]) (.seq (.block 0 (.seq (.region [
 o1 13 (.mov (tm 1)),
 o1 14 (.bin .lss (so (.binOp .lss 3 (tm 13) k0 3) 4) (tm 13) k0),
 o1 15 (.mov (tm 14)),
 o5 16 (.mov (tm 1)) 15,
 o5 17 (.bin .gtr (so (.binOp .gtr 3 (tm 16) (.const (.int .i64 16)) 3) 4) (tm 16) (.const (.int .i64 16))) 15,
 o1 18 (.pick (tm 15) (.const (.bool true)) (tm 17)),
 o1 19 (.mov (tm 18)),
 o5 20 (.mov (tm 2)) 19,
 o5 21 (.bin .lss (so (.binOp .lss 3 (tm 20) k0 3) 4) (tm 20) k0) 19,
 o1 22 (.pick (tm 19) (.const (.bool true)) (tm 21)),
 o1 23 (.mov (tm 22)),
 o5 24 (.mov (tm 2)) 23,
 o5 25 (.bin .gtr (so (.binOp .gtr 3 (tm 24) (.const (.int .i64 16)) 3) 4) (tm 24) (.const (.int .i64 16))) 23,
 o1 26 (.pick (tm 23) (.const (.bool true)) (tm 25)),
 o1 27 (.mov (tm 26)),
 o5 28 (.mov (tm 3)) 27,
 o5 29 (.callV (.func 45) [(tm 28)]) 27,
 o5 30 (.raw (so (.unOp .not 4 (tm 29)) 4)) 27,
 o1 31 (.pick (tm 27) (.const (.bool true)) (tm 30)),
 o1 12 (.mov (tm 31))]) (.cond (tm 12)
 (.seq (.region [
 o1 10 (.mov k0),
 o1 11 (.mov (.const (.int .i64 3)))]) .ret)
 (.seq (.region [
 o1 33 (.mov (tm 4)),
 o1 34 (.lenSl (tm 33)),
 o1 35 (.bin .gtr (so (.binOp .gtr 3 (tm 34) (.const (.int .i64 65536)) 3) 4) (tm 34) (.const (.int .i64 65536))),
 o1 32 (.mov (tm 35))]) (.cond (tm 32)
 (.seq (.region [
 o1 10 (.mov k0),
 o1 11 (.mov (.const (.int .i64 4)))]) .ret)
 (.seq (.regionD [
 o1 37 (.mov (tm 0)),
 o1 38 (.nilCheck (tm 37)),
 o1 39 (.fieldAddr 3 (tm 38)),
 o1 40 (.load none (tm 39)),
 o1 41 (.lenSl (tm 40)),
 o1 42 (.mov (tm 0)),
 o1 43 (.nilCheck (tm 42)),
 o1 44 (.fieldAddr 0 (tm 43)),
 o1 45 (.load none (tm 44)),
 o2 46 (.bin .geq (so (.binOp .geq 3 (tm 41) (tm 45) 3) 4) (tm 41) (tm 45)),
 o2 36 (.mov (tm 46))]) (.cond (tm 36)
 (.seq (.region [
 o1 10 (.mov k0),
 o1 11 (.mov (.const (.int .i64 7)))]) .ret)
 .skip))))))) (.seq (.region [
 o1 47 (.mov (tm 0)),
 o1 48 (.nilCheck (tm 47)),
 o1 49 (.fieldAddr 1 (tm 48)),
 o1 50 (.load none (tm 49)),
 o1 51 (.bin .add (so (.binOp .add 3 (tm 50) (.const (.int .i64 1)) 3) 3) (tm 50) (.const (.int .i64 1))),
 o1 52 (.nilCheck (tm 47)),
 o1 53 (.fieldAddr 1 (tm 52)),
 o3 (.store 1 (tm 53) (tm 51))]) (.seq (.regionD [
 o1 54 (.mov (tm 0)),
 o1 55 (.mov (tm 0)),
 o1 56 (.nilCheck (tm 55)),
 o1 57 (.fieldAddr 1 (tm 56)),
 o1 58 (.load none (tm 57)),
 o1 59 (.mov (tm 1)),
 o1 60 (.mov (tm 2)),
 o1 61 (.mov (tm 3)),
 o1 62 (.mov (tm 4)),
 ⟨some 63, .callV (.func 47) [(tm 62)], none, [(some 61, .mov (tm 3), none), (some 60, .mov (tm 2), none), (some 59, .mov (tm 1), none), (some 58, .load none (tm 57), none), (some 57, .fieldAddr 1 (tm 56), none), (some 56, .nilCheck (tm 55), none), (some 55, .mov (tm 0), none), (some 54, .mov (tm 0), none)], false⟩,
 o1 64 (.build [(.int .i64 0), (.int .i64 0), (.int .i64 0), (.int .i64 0), (.slice none 0 0)] [(0, 1, (tm 58)), (1, 1, (tm 59)), (2, 1, (tm 60)), (3, 1, (tm 61)), (4, 1, (tm 63))]),
 o2 65 (.callV (.func 46) [(tm 54), (tm 64)])]) (.seq (.region [
 o1 66 (.mov (tm 0)),
 o1 67 (.nilCheck (tm 66)),
 o1 68 (.fieldAddr 1 (tm 67)),
 o1 69 (.load none (tm 68)),
 o1 10 (.mov (tm 69)),
 o1 11 (.mov k0)]) .ret)))))
def ziQ : AFunc := ⟨70, [(10, none), (11, none)], ziQ_c, none⟩
theorem ziQ_t0 : tableOf Try.prog 20 = some ziQ := by kernel_rfl
theorem ziQ_t : T0 20 = some ziQ := withKept_t rfl (withTrue_t rfl ziQ_t0)
theorem ziQ_runs {v0 v1 v2 v3 v4 : Value} {h : Heap} {R : RP} {X : XP} (k : RunC Try.prog T0 ziQ_c ⟨[v0, v1, v2, v3, v4, U, U, U, U, U, U, U, U, U, U, U, U, U, U, U, U, U, U, U, U, U, U, U, U, U, U, U, U, U, U, U, U, U, U, U, U, U, U, U, U, U, U, U, U, U, U, U, U, U, U, U, U, U, U, U, U, U, U, U, U, U, U, U, U, U], [], h, none⟩ (bodyQ Try.prog T0 [(10, none), (11, none)] R X)) :
 Runs Try.prog T0 (.fn 20) [v0, v1, v2, v3, v4] h R X := Runs.fn ziQ_t rfl k
abbrev fn_zfQ : FuncId := 21
def zfQ_l0 : ACode :=
 (.seq (.seq (.region [
 o1 12 (.mov (tm 5)),
 o1 13 (.mov (tm 12)),
 o4 14 (.mov (tm 6)) 13,
 o4 15 (.mov (tm 0)) 13,
 o4 16 (.lenSl (tm 15)) 13,
 o4 17 (.bin .lss (so (.binOp .lss 3 (tm 14) (tm 16) 3) 4) (tm 14) (tm 16)) 13,
 o1 18 (.pick (tm 13) (tm 17) (.const (.bool false)))]) (.cond (tm 18)
 .skip
 (.exit 0))) (.seq (.block 1 (.regionD [
 o1 21 (.mov (tm 0)),
 o1 22 (.mov (tm 6)),
 o1 23 (.indexSl 5 (tm 21) (tm 22)),
 o1 24 (.fieldAddr 0 (tm 23)),
 o1 25 (.load none (tm 24)),
 o1 26 (.mov (tm 1)),
 o1 27 (.mov (tm 6)),
 o1 28 (.indexSl 5 (tm 26) (tm 27)),
 o1 29 (.fieldAddr 0 (tm 28)),
 o1 30 (.load none (tm 29)),
 o2 31 (.bin .eql (so (.binOp .eql 3 (tm 25) (tm 30) 3) 4) (tm 25) (tm 30)),
 o2 32 (.mov (tm 31)),
 o4 33 (.mov (tm 0)) 32,
 o4 34 (.mov (tm 6)) 32,
 o4 35 (.indexSl 5 (tm 33) (tm 34)) 32,
 o4 36 (.fieldAddr 1 (tm 35)) 32,
 o4 37 (.load none (tm 36)) 32,
 o4 38 (.mov (tm 1)) 32,
 o4 39 (.mov (tm 6)) 32,
 o4 40 (.indexSl 5 (tm 38) (tm 39)) 32,
 o4 41 (.fieldAddr 1 (tm 40)) 32,
 o4 42 (.load none (tm 41)) 32,
 ⟨some 43, .bin .eql (so (.binOp .eql 3 (tm 37) (tm 42) 3) 4) (tm 37) (tm 42), some (32, true), [], true⟩,
 o2 44 (.pick (tm 32) (tm 43) (.const (.bool false))),
 o2 45 (.mov (tm 44)),
 o4 46 (.mov (tm 0)) 45,
 o4 47 (.mov (tm 6)) 45,
 o4 48 (.indexSl 5 (tm 46) (tm 47)) 45,
 o4 49 (.fieldAddr 2 (tm 48)) 45,
 o4 50 (.load none (tm 49)) 45,
 o4 51 (.mov (tm 1)) 45,
 o4 52 (.mov (tm 6)) 45,
 o4 53 (.indexSl 5 (tm 51) (tm 52)) 45,
 o4 54 (.fieldAddr 2 (tm 53)) 45,
 o4 55 (.load none (tm 54)) 45,
 ⟨some 56, .bin .eql (so (.binOp .eql 3 (tm 50) (tm 55) 3) 4) (tm 50) (tm 55), some (45, true), [], true⟩,
 o2 57 (.pick (tm 45) (tm 56) (.const (.bool false))),
 o2 58 (.mov (tm 57)),
 o4 59 (.mov (tm 0)) 58,
 o4 60 (.mov (tm 6)) 58,
 o4 61 (.indexSl 5 (tm 59) (tm 60)) 58,
 o4 62 (.fieldAddr 3 (tm 61)) 58,
 o4 63 (.load none (tm 62)) 58,
 o4 64 (.mov (tm 1)) 58,
 o4 65 (.mov (tm 6)) 58,
 o4 66 (.indexSl 5 (tm 64) (tm 65)) 58,
 o4 67 (.fieldAddr 3 (tm 66)) 58,
 o4 68 (.load none (tm 67)) 58,
 ⟨some 69, .bin .eql (so (.binOp .eql 3 (tm 63) (tm 68) 3) 4) (tm 63) (tm 68), some (58, true), [], true⟩,
 o2 70 (.pick (tm 58) (tm 69) (.const (.bool false))),
 o2 71 (.mov (tm 70)),
 o4 72 (.mov (tm 0)) 71,
 o4 73 (.mov (tm 6)) 71,
 o4 74 (.indexSl 5 (tm 72) (tm 73)) 71,
 o4 75 (.fieldAddr 4 (tm 74)) 71,
 o4 76 (.load none (tm 75)) 71,
 o4 77 (.mov (tm 1)) 71,
 o4 78 (.mov (tm 6)) 71,
 o4 79 (.indexSl 5 (tm 77) (tm 78)) 71,
 o4 80 (.fieldAddr 4 (tm 79)) 71,
 o4 81 (.load none (tm 80)) 71,
 ⟨some 82, .callV (.func 48) [(tm 76), (tm 81)], some (71, true), [], true⟩,
 o2 83 (.pick (tm 71) (tm 82) (.const (.bool false))),
 o2 5 (.mov (tm 83))])) (.region [
 o1 19 (.mov (tm 6)),
 o1 20 (.bin .add (so (.binOp .add 3 (tm 19) (.const (.int .i64 1)) 3) 3) (tm 19) (.const (.int .i64 1))),
 o1 6 (.mov (tm 20))])))
def zfQ_c : ACode :=
 (.seq (.region [
 o1 4 (.mov (.const (.bool false)))]) (.seq (.region [
 o1 7 (.mov (tm 0)),
 o1 8 (.lenSl (tm 7)),
 o1 9 (.mov (tm 1)),
 o1 10 (.lenSl (tm 9)),
 o1 11 (.bin .eql (so (.binOp .eql 3 (tm 8) (tm 10) 3) 4) (tm 8) (tm 10)),
 o1 5 (.mov (tm 11))]) (.seq (.seq (.region [
 o1 6 (.mov k0)]) (.block 0 (.loop zfQ_l0))) (.seq (.region [
 o1 84 (.mov (tm 5)),
 o1 4 (.mov (tm 84))]) .ret))))
def zfQ : AFunc := ⟨85, [(4, none)], zfQ_c, none⟩
theorem zfQ_t0 : tableOf Try.prog 21 = some zfQ := by kernel_rfl
theorem zfQ_t : T0 21 = some zfQ := withKept_t rfl (withTrue_t rfl zfQ_t0)
theorem zfQ_runs {v0 v1 : Value} {h : Heap} {R : RP} {X : XP} (k : RunC Try.prog T0 zfQ_c ⟨[v0, v1, U, U, U, U, U, U, U, U, U, U, U, U, U, U, U, U, U, U, U, U, U, U, U, U, U, U, U, U, U, U, U, U, U, U, U, U, U, U, U, U, U, U, U, U, U, U, U, U, U, U, U, U, U, U, U, U, U, U, U, U, U, U, U, U, U, U, U, U, U, U, U, U, U, U, U, U, U, U, U, U, U, U, U], [], h, none⟩ (bodyQ Try.prog T0 [(4, none)] R X)) :
 Runs Try.prog T0 (.fn 21) [v0, v1] h R X := Runs.fn zfQ_t rfl k
abbrev zfQ_l0_M : List Nat := [0, 0, 0, 0, 0, 2, 2, 0, 0, 0, 0, 0, 1, 1, 1, 1, 1, 1, 1, 1, 1, 1, 1, 1, 1, 1, 1, 1, 1, 1, 1, 1, 1, 1, 1, 1, 1, 1, 1, 1, 1, 1, 1, 1, 1, 1, 1, 1, 1, 1, 1, 1, 1, 1, 1, 1, 1, 1, 1, 1, 1, 1, 1, 1, 1, 1, 1, 1, 1, 1, 1, 1, 1, 1, 1, 1, 1, 1, 1, 1, 1, 1, 1, 1, 0]
abbrev fn_zmQ : FuncId := 22
def zmQ_l0 : ACode :=
 (.seq (.region [
 o1 16 (.bin .lss (so (.binOp .lss 3 (tm 15) (tm 14) 3) 0) (tm 15) (tm 14))]) (.seq (.cond (tm 16)
 .skip
 (.exit 0)) (.seq (.block 1 (.seq (.region [
 o1 17 (.indexSl 1 (tm 13) (tm 15)),
 o1 18 (.load none (tm 17)),
 o1 4 (.mov (tm 18))]) (.seq (.region [
 o1 19 (.mov (tm 4)),
 o1 20 (.nilCheck (tm 19)),
 o1 21 (.load (some 5) (tm 20)),
 o1 5 (.alloc 58 [(.int .i64 0), (.int .i64 0), (.int .i64 0), (.int .i64 0), (.slice none 0 0)]),
 o3 (.store 5 (tm 5) (tm 21))]) (.seq (.region [
 o1 22 (.mov (tm 4)),
 o1 23 (.nilCheck (tm 22)),
 o1 24 (.fieldAddr 4 (tm 23)),
 o1 25 (.load none (tm 24)),
 o1 26 (.callV (.func 52) [(tm 25)]),
 o1 27 (.fieldAddr 4 (tm 5)),
 o3 (.store 1 (tm 27) (tm 26))]) (.region [
 o1 28 (.mov (tm 2)),
 o1 29 (.load (some 5) (tm 5)),
 o1 30 (.buildSlice 58 [(.int .i64 0), (.int .i64 0), (.int .i64 0), (.int .i64 0), (.slice none 0 0)] 1 [(0, 5, (tm 29))]),
 o1 31 (.append 58 5 56 [(.int .i64 0), (.int .i64 0), (.int .i64 0), (.int .i64 0), (.slice none 0 0)] false (tm 28) (tm 30)),
 o1 2 (.mov (tm 31))]))))) (.region [
 o1 32 (.bin .add (so (.binOp .add 3 (tm 15) (.const (.int .i64 1)) 3) 3) (tm 15) (.const (.int .i64 1))),
 o1 15 (.mov (tm 32))]))))
def zmQ_c : ACode :=
 (.seq (.region [
 o1 2 (.mov (.const (.slice none 0 0)))]) (.seq (.seq (.region [
 o1 6 (.mov (tm 0)),
 o1 7 (.callV (.func 43) [(tm 6)])]) (.cond (tm 7)
 (.seq (.region [
 o1 2 (.mov (.const (.slice none 0 0)))]) .ret)
 .skip)) (.seq (.seq (.region [
 o1 8 (.mov (tm 0)),
 o1 9 (.nilCheck (tm 8)),
 o1 10 (.fieldAddr 3 (tm 9)),
 o1 11 (.load none (tm 10)),
 o1 12 (.callV (.func 50) [(tm 11)]),
 o1 13 (.callV (.func 49) [(tm 12), (.func 51)]),
 o1 14 (.lenSl (tm 13)),
 o1 15 (.mov k0)]) (.block 0 (.loop zmQ_l0))) (.seq (.region [
 o1 33 (.mov (tm 2)),
 o1 2 (.mov (tm 33))]) .ret))))
def zmQ : AFunc := ⟨34, [(2, none)], zmQ_c, none⟩
theorem zmQ_t0 : tableOf Try.prog 22 = some zmQ := by kernel_rfl
theorem zmQ_t : T0 22 = some zmQ := withKept_t rfl (withTrue_t rfl zmQ_t0)
theorem zmQ_runs {v0 : Value} {h : Heap} {R : RP} {X : XP} (k : RunC Try.prog T0 zmQ_c ⟨[v0, U, U, U, U, U, U, U, U, U, U, U, U, U, U, U, U, U, U, U, U, U, U, U, U, U, U, U, U, U, U, U, U, U], [], h, none⟩ (bodyQ Try.prog T0 [(2, none)] R X)) :
 Runs Try.prog T0 (.fn 22) [v0] h R X := Runs.fn zmQ_t rfl k
abbrev zmQ_l0_M : List Nat := [0, 0, 2, 0, 1, 1, 0, 0, 0, 0, 0, 0, 0, 0, 0, 2, 1, 1, 1, 1, 1, 1, 1, 1, 1, 1, 1, 1, 1, 1, 1, 1, 1, 0]
abbrev fn_zsQ : FuncId := 41
def zsQ_c : ACode :=
 (.seq (.region [
 o1 2 (.mov (.const (.bool false)))]) (.seq (.region [
 o1 3 (.mov (tm 0)),
 o1 4 (.bin .geq (so (.binOp .geq 3 (tm 3) k0 3) 4) (tm 3) k0),
 o1 5 (.mov (tm 4)),
 o4 6 (.mov (tm 0)) 5,
 o4 7 (.bin .leq (so (.binOp .leq 3 (tm 6) (.const (.int .i64 1099511627776)) 3) 4) (tm 6) (.const (.int .i64 1099511627776))) 5,
 o1 8 (.pick (tm 5) (tm 7) (.const (.bool false))),
 o1 2 (.mov (tm 8))]) .ret))
def zsQ : AFunc := ⟨9, [(2, none)], zsQ_c, none⟩
theorem zsQ_t0 : tableOf Try.prog 41 = some zsQ := by kernel_rfl
theorem zsQ_t : T0 41 = some zsQ := withKept_t rfl (withTrue_t rfl zsQ_t0)
theorem zsQ_runs {v0 : Value} {h : Heap} {R : RP} {X : XP} (k : RunC Try.prog T0 zsQ_c ⟨[v0, U, U, U, U, U, U, U, U], [], h, none⟩ (bodyQ Try.prog T0 [(2, none)] R X)) :
 Runs Try.prog T0 (.fn 41) [v0] h R X := Runs.fn zsQ_t rfl k
abbrev fn_zoQ : FuncId := 42
def zoQ_c : ACode :=
 (.seq (.region [
 o1 3 (.box 58 (tm 1)),
 o1 4 (.mov k0)]) (.seq (.region [
 o1 5 (.mov (tm 0)),
 o1 6 (.nilCheck (tm 5)),
 o1 7 (.fieldAddr 1 (tm 6)),
 o1 8 (.load none (tm 7)),
 o1 9 (.bin .add (so (.binOp .add 3 (tm 8) (.const (.int .i64 1)) 3) 3) (tm 8) (.const (.int .i64 1))),
 o1 10 (.nilCheck (tm 5)),
 o1 11 (.fieldAddr 1 (tm 10)),
 o3 (.store 1 (tm 11) (tm 9))]) (.seq (.regionD [
 o1 12 (.mov (tm 0)),
 o1 13 (.nilCheck (tm 12)),
 o1 14 (.fieldAddr 1 (tm 13)),
 o1 15 (.load none (tm 14)),
 o1 16 (.fieldAddr 4 (tm 3)),
 o1 17 (.load none (tm 16)),
 ⟨some 18, .callV (.func 52) [(tm 17)], none, [(some 15, .load none (tm 14), none), (some 14, .fieldAddr 1 (tm 13), none), (some 13, .nilCheck (tm 12), none), (some 12, .mov (tm 0), none)], false⟩,
 o2 19 (.fieldAddr 0 (tm 3)),
 ⟨none, .store 1 (tm 19) (tm 15), none, [], true⟩,
 o2 20 (.fieldAddr 4 (tm 3)),
 ⟨none, .store 1 (tm 20) (tm 18), none, [], true⟩]) (.seq (.regionD [
 o1 21 (.mov (tm 0)),
 o1 22 (.nilCheck (tm 21)),
 o1 23 (.fieldAddr 4 (tm 22)),
 o1 24 (.load none (tm 23)),
 o1 25 (.fieldAddr 0 (tm 3)),
 o1 26 (.load none (tm 25)),
 ⟨none, .mapUpdate (.int .i64) (tm 24) (tm 26) (tm 3), none, [], true⟩]) (.seq (.region [
 o1 27 (.mov (tm 0)),
 o1 28 (.nilCheck (tm 27)),
 o1 29 (.fieldAddr 3 (tm 28)),
 o1 30 (.mkIface 87 (tm 29)),
 o1 31 (.mkIface 74 (tm 3)),
 o1 32 (.callV (.func 61) [(tm 30), (tm 31)])]) (.seq (.region [
 o1 33 (.fieldAddr 0 (tm 3)),
 o1 34 (.load none (tm 33)),
 o1 4 (.mov (tm 34))]) .ret))))))
def zoQ : AFunc := ⟨35, [(4, none)], zoQ_c, none⟩
theorem zoQ_t0 : tableOf Try.prog 42 = some zoQ := by kernel_rfl
theorem zoQ_t : T0 42 = some zoQ := withKept_t rfl (withTrue_t rfl zoQ_t0)
theorem zoQ_runs {v0 v1 : Value} {h : Heap} {R : RP} {X : XP} (k : RunC Try.prog T0 zoQ_c ⟨[v0, v1, U, U, U, U, U, U, U, U, U, U, U, U, U, U, U, U, U, U, U, U, U, U, U, U, U, U, U, U, U, U, U, U, U], [], h, none⟩ (bodyQ Try.prog T0 [(4, none)] R X)) :
 Runs Try.prog T0 (.fn 42) [v0, v1] h R X := Runs.fn zoQ_t rfl k
abbrev fn_zpQ : FuncId := 43
def zpQ_c : ACode :=
 (.seq (.region [
 o1 2 (.mov (.const (.bool false)))]) (.seq (.region [
 o1 3 (.mov (tm 0)),
 o1 4 (.eq .ptr false (so (.binOp .eql 22 (tm 3) (.const (.pointer none)) 22) 4) (tm 3) (.const (.pointer none))),
 o1 5 (.mov (tm 4)),
 o5 6 (.mov (tm 0)) 5,
 o5 7 (.nilCheck (tm 6)) 5,
 o5 8 (.fieldAddr 4 (tm 7)) 5,
 o5 9 (.load none (tm 8)) 5,
 o5 10 (.eq .map false (so (.binOp .eql 63 (tm 9) (.const (.map none)) 63) 4) (tm 9) (.const (.map none))) 5,
 o1 11 (.pick (tm 5) (.const (.bool true)) (tm 10)),
 o1 2 (.mov (tm 11))]) .ret))
def zpQ : AFunc := ⟨12, [(2, none)], zpQ_c, none⟩
theorem zpQ_t0 : tableOf Try.prog 43 = some zpQ := by kernel_rfl
theorem zpQ_t : T0 43 = some zpQ := withKept_t rfl (withTrue_t rfl zpQ_t0)
theorem zpQ_runs {v0 : Value} {h : Heap} {R : RP} {X : XP} (k : RunC Try.prog T0 zpQ_c ⟨[v0, U, U, U, U, U, U, U, U, U, U, U], [], h, none⟩ (bodyQ Try.prog T0 [(2, none)] R X)) :
 Runs Try.prog T0 (.fn 43) [v0] h R X := Runs.fn zpQ_t rfl k
abbrev fn_ztQ : FuncId := 44
def ztQ_c : ACode :=
 (.seq (.region [
 o1 2 (.mov (.const (.bool false)))]) (.seq (.region [
 o1 3 (.mov (tm 0)),
 o1 4 (.bin .geq (so (.binOp .geq 3 (tm 3) k0 3) 4) (tm 3) k0),
 o1 5 (.mov (tm 4)),
 o4 6 (.mov (tm 0)) 5,
 o4 7 (.bin .leq (so (.binOp .leq 3 (tm 6) (.const (.int .i64 16)) 3) 4) (tm 6) (.const (.int .i64 16))) 5,
 o1 8 (.pick (tm 5) (tm 7) (.const (.bool false))),
 o1 2 (.mov (tm 8))]) .ret))
def ztQ : AFunc := ⟨9, [(2, none)], ztQ_c, none⟩
theorem ztQ_t0 : tableOf Try.prog 44 = some ztQ := by kernel_rfl
theorem ztQ_t : T0 44 = some ztQ := withKept_t rfl (withTrue_t rfl ztQ_t0)
theorem ztQ_runs {v0 : Value} {h : Heap} {R : RP} {X : XP} (k : RunC Try.prog T0 ztQ_c ⟨[v0, U, U, U, U, U, U, U, U], [], h, none⟩ (bodyQ Try.prog T0 [(2, none)] R X)) :
 Runs Try.prog T0 (.fn 44) [v0] h R X := Runs.fn ztQ_t rfl k
abbrev fn_zlQ : FuncId := 45
def zlQ_c : ACode :=
 (.seq (.region [
 o1 2 (.mov (.const (.bool false)))]) (.seq (.region [
 o1 3 (.mov (tm 0)),
 o1 4 (.bin .geq (so (.binOp .geq 3 (tm 3) k0 3) 4) (tm 3) k0),
 o1 5 (.mov (tm 4)),
 o4 6 (.mov (tm 0)) 5,
 o4 7 (.bin .leq (so (.binOp .leq 3 (tm 6) (.const (.int .i64 1099511627776)) 3) 4) (tm 6) (.const (.int .i64 1099511627776))) 5,
 o1 8 (.pick (tm 5) (tm 7) (.const (.bool false))),
 o1 2 (.mov (tm 8))]) .ret))
def zlQ : AFunc := ⟨9, [(2, none)], zlQ_c, none⟩
theorem zlQ_t0 : tableOf Try.prog 45 = some zlQ := by kernel_rfl
theorem zlQ_t : T0 45 = some zlQ := withKept_t rfl (withTrue_t rfl zlQ_t0)
theorem zlQ_runs {v0 : Value} {h : Heap} {R : RP} {X : XP} (k : RunC Try.prog T0 zlQ_c ⟨[v0, U, U, U, U, U, U, U, U], [], h, none⟩ (bodyQ Try.prog T0 [(2, none)] R X)) :
 Runs Try.prog T0 (.fn 45) [v0] h R X := Runs.fn zlQ_t rfl k
abbrev fn_zjQ : FuncId := 46
def zjQ_l0 : ACode :=
 (.seq (.seq (.regionD [
 o1 6 (.mov (tm 4)),
 o1 7 (.mov (tm 0)),
 o1 8 (.nilCheck (tm 7)),
 o1 9 (.fieldAddr 3 (tm 8)),
 o1 10 (.load none (tm 9)),
 o1 11 (.lenSl (tm 10)),
 o2 12 (.bin .lss (so (.binOp .lss 3 (tm 6) (tm 11) 3) 4) (tm 6) (tm 11)),
 o2 13 (.mov (tm 12)),
 o4 14 (.mov (tm 0)) 13,
 o4 15 (.nilCheck (tm 14)) 13,
 o4 16 (.fieldAddr 3 (tm 15)) 13,
 o4 17 (.load none (tm 16)) 13,
 o4 18 (.mov (tm 4)) 13,
 o4 19 (.indexSl 5 (tm 17) (tm 18)) 13,
 o4 20 (.fieldAddr 3 (tm 19)) 13,
 o4 21 (.load none (tm 20)) 13,
 o4 22 (.fieldAddr 3 (tm 3)) 13,
 o4 23 (.load none (tm 22)) 13,
 ⟨some 24, .bin .lss (so (.binOp .lss 3 (tm 21) (tm 23) 3) 4) (tm 21) (tm 23), some (13, true), [], true⟩,
 ⟨some 25, .mov (tm 24), some (13, true), [], true⟩,
 o5 26 (.mov (tm 0)) 25,
 o5 27 (.nilCheck (tm 26)) 25,
 o5 28 (.fieldAddr 3 (tm 27)) 25,
 o5 29 (.load none (tm 28)) 25,
 o5 30 (.mov (tm 4)) 25,
 o5 31 (.indexSl 5 (tm 29) (tm 30)) 25,
 o5 32 (.fieldAddr 3 (tm 31)) 25,
 o5 33 (.load none (tm 32)) 25,
 o5 34 (.fieldAddr 3 (tm 3)) 25,
 o5 35 (.load none (tm 34)) 25,
 ⟨some 36, .bin .eql (so (.binOp .eql 3 (tm 33) (tm 35) 3) 4) (tm 33) (tm 35), some (25, false), [], true⟩,
 ⟨some 37, .mov (tm 36), some (25, false), [], true⟩,
 o4 38 (.mov (tm 0)) 37,
 o4 39 (.nilCheck (tm 38)) 37,
 o4 40 (.fieldAddr 3 (tm 39)) 37,
 o4 41 (.load none (tm 40)) 37,
 o4 42 (.mov (tm 4)) 37,
 o4 43 (.indexSl 5 (tm 41) (tm 42)) 37,
 o4 44 (.fieldAddr 0 (tm 43)) 37,
 o4 45 (.load none (tm 44)) 37,
 o4 46 (.fieldAddr 0 (tm 3)) 37,
 o4 47 (.load none (tm 46)) 37,
 ⟨some 48, .bin .lss (so (.binOp .lss 3 (tm 45) (tm 47) 3) 4) (tm 45) (tm 47), some (37, true), [], true⟩,
 ⟨some 49, .pick (tm 37) (tm 48) (.const (.bool false)), some (25, false), [], true⟩,
 ⟨some 50, .pick (tm 25) (.const (.bool true)) (tm 49), some (13, true), [], true⟩,
 o2 51 (.pick (tm 13) (tm 50) (.const (.bool false)))]) (.cond (tm 51)
 .skip
 (.exit 0))) (.block 1 (.region [
 o1 52 (.mov (tm 4)),
 o1 53 (.bin .add (so (.binOp .add 3 (tm 52) (.const (.int .i64 1)) 3) 3) (tm 52) (.const (.int .i64 1))),
 o1 4 (.mov (tm 53))])))
def zjQ_c : ACode :=
 (.seq (.region [
 o1 3 (.box 58 (tm 1))]) (.seq (.region [
 o1 4 (.mov k0)]) (.seq (.block 0 (.loop zjQ_l0)) (.seq (.region [
 o1 54 (.buildSlice 58 [] 0 []),
 o1 55 (.mov (tm 0)),
 o1 56 (.nilCheck (tm 55)),
 o1 57 (.fieldAddr 3 (tm 56)),
 o1 58 (.load none (tm 57)),
 o1 59 (.mov (tm 4)),
 o1 60 (.sliceSl 5 (tm 58) (some (tm 59)) none none),
 o1 61 (.append 58 5 56 [(.int .i64 0), (.int .i64 0), (.int .i64 0), (.int .i64 0), (.slice none 0 0)] false (tm 54) (tm 60)),
 o1 5 (.mov (tm 61))]) (.regionM [[
 o1 62 (.mov (tm 0)),
 o1 64 (.mov (tm 0)),
 o1 65 (.nilCheck (tm 64)),
 o1 66 (.fieldAddr 3 (tm 65)),
 o1 67 (.load none (tm 66)),
 o1 68 (.mov (tm 4)),
 o1 69 (.sliceSl 5 (tm 67) none (some (tm 68)) none),
 o1 71 (.load (some 5) (tm 3)),
 o1 74 (.mov (tm 5)),
 ⟨some 63, .buildSlice 58 [] 0 [], none, [(some 74, .mov (tm 5), none), (some 71, .load (some 5) (tm 3), none), (some 69, .sliceSl 5 (tm 67) none (some (tm 68)) none, none), (some 68, .mov (tm 4), none), (some 67, .load none (tm 66), none), (some 66, .fieldAddr 3 (tm 65), none), (some 65, .nilCheck (tm 64), none), (some 64, .mov (tm 0), none), (some 62, .mov (tm 0), none)], false⟩,
 ⟨some 70, .append 58 5 56 [(.int .i64 0), (.int .i64 0), (.int .i64 0), (.int .i64 0), (.slice none 0 0)] false (tm 63) (tm 69), none, [(some 74, .mov (tm 5), none), (some 71, .load (some 5) (tm 3), none), (some 62, .mov (tm 0), none)], false⟩,
 ⟨some 72, .buildSlice 58 [(.int .i64 0), (.int .i64 0), (.int .i64 0), (.int .i64 0), (.slice none 0 0)] 1 [(0, 5, (tm 71))], none, [(some 74, .mov (tm 5), none), (some 69, .sliceSl 5 (tm 67) none (some (tm 68)) none, none), (some 68, .mov (tm 4), none), (some 67, .load none (tm 66), none), (some 66, .fieldAddr 3 (tm 65), none), (some 65, .nilCheck (tm 64), none), (some 64, .mov (tm 0), none), (some 62, .mov (tm 0), none)], false⟩,
 ⟨some 73, .append 58 5 56 [(.int .i64 0), (.int .i64 0), (.int .i64 0), (.int .i64 0), (.slice none 0 0)] false (tm 70) (tm 72), none, [(some 74, .mov (tm 5), none), (some 62, .mov (tm 0), none)], false⟩,
 ⟨some 75, .append 58 5 56 [(.int .i64 0), (.int .i64 0), (.int .i64 0), (.int .i64 0), (.slice none 0 0)] false (tm 73) (tm 74), none, [(some 62, .mov (tm 0), none)], false⟩,
 o2 76 (.nilCheck (tm 62)),
 o2 77 (.fieldAddr 3 (tm 76)),
 ⟨none, .store 1 (tm 77) (tm 75), none, [], true⟩],
 [
 o1 62 (.mov (tm 0)),
 o1 64 (.mov (tm 0)),
 o1 65 (.nilCheck (tm 64)),
 o1 66 (.fieldAddr 3 (tm 65)),
 o1 67 (.load none (tm 66)),
 o1 68 (.mov (tm 4)),
 o1 69 (.sliceSl 5 (tm 67) none (some (tm 68)) none),
 o1 71 (.load (some 5) (tm 3)),
 o1 74 (.mov (tm 5)),
 ⟨some 63, .buildSlice 58 [] 0 [], none, [(some 74, .mov (tm 5), none), (some 71, .load (some 5) (tm 3), none), (some 69, .sliceSl 5 (tm 67) none (some (tm 68)) none, none), (some 68, .mov (tm 4), none), (some 67, .load none (tm 66), none), (some 66, .fieldAddr 3 (tm 65), none), (some 65, .nilCheck (tm 64), none), (some 64, .mov (tm 0), none), (some 62, .mov (tm 0), none)], false⟩,
 ⟨some 72, .buildSlice 58 [(.int .i64 0), (.int .i64 0), (.int .i64 0), (.int .i64 0), (.slice none 0 0)] 1 [(0, 5, (tm 71))], none, [(some 74, .mov (tm 5), none), (some 69, .sliceSl 5 (tm 67) none (some (tm 68)) none, none), (some 68, .mov (tm 4), none), (some 67, .load none (tm 66), none), (some 66, .fieldAddr 3 (tm 65), none), (some 65, .nilCheck (tm 64), none), (some 64, .mov (tm 0), none), (some 62, .mov (tm 0), none)], false⟩,
 ⟨some 70, .append 58 5 56 [(.int .i64 0), (.int .i64 0), (.int .i64 0), (.int .i64 0), (.slice none 0 0)] false (tm 63) (tm 69), none, [(some 74, .mov (tm 5), none), (some 71, .load (some 5) (tm 3), none), (some 62, .mov (tm 0), none)], false⟩,
 ⟨some 73, .append 58 5 56 [(.int .i64 0), (.int .i64 0), (.int .i64 0), (.int .i64 0), (.slice none 0 0)] false (tm 70) (tm 72), none, [(some 74, .mov (tm 5), none), (some 62, .mov (tm 0), none)], false⟩,
 ⟨some 75, .append 58 5 56 [(.int .i64 0), (.int .i64 0), (.int .i64 0), (.int .i64 0), (.slice none 0 0)] false (tm 73) (tm 74), none, [(some 62, .mov (tm 0), none)], false⟩,
 o2 76 (.nilCheck (tm 62)),
 o2 77 (.fieldAddr 3 (tm 76)),
 ⟨none, .store 1 (tm 77) (tm 75), none, [], true⟩],
 [
 o1 62 (.mov (tm 0)),
 o1 64 (.mov (tm 0)),
 o1 65 (.nilCheck (tm 64)),
 o1 66 (.fieldAddr 3 (tm 65)),
 o1 67 (.load none (tm 66)),
 o1 68 (.mov (tm 4)),
 o1 69 (.sliceSl 5 (tm 67) none (some (tm 68)) none),
 o1 71 (.load (some 5) (tm 3)),
 o1 74 (.mov (tm 5)),
 ⟨some 72, .buildSlice 58 [(.int .i64 0), (.int .i64 0), (.int .i64 0), (.int .i64 0), (.slice none 0 0)] 1 [(0, 5, (tm 71))], none, [(some 74, .mov (tm 5), none), (some 69, .sliceSl 5 (tm 67) none (some (tm 68)) none, none), (some 68, .mov (tm 4), none), (some 67, .load none (tm 66), none), (some 66, .fieldAddr 3 (tm 65), none), (some 65, .nilCheck (tm 64), none), (some 64, .mov (tm 0), none), (some 62, .mov (tm 0), none)], false⟩,
 ⟨some 63, .buildSlice 58 [] 0 [], none, [(some 74, .mov (tm 5), none), (some 71, .load (some 5) (tm 3), none), (some 69, .sliceSl 5 (tm 67) none (some (tm 68)) none, none), (some 68, .mov (tm 4), none), (some 67, .load none (tm 66), none), (some 66, .fieldAddr 3 (tm 65), none), (some 65, .nilCheck (tm 64), none), (some 64, .mov (tm 0), none), (some 62, .mov (tm 0), none)], false⟩,
 ⟨some 70, .append 58 5 56 [(.int .i64 0), (.int .i64 0), (.int .i64 0), (.int .i64 0), (.slice none 0 0)] false (tm 63) (tm 69), none, [(some 74, .mov (tm 5), none), (some 71, .load (some 5) (tm 3), none), (some 62, .mov (tm 0), none)], false⟩,
 ⟨some 73, .append 58 5 56 [(.int .i64 0), (.int .i64 0), (.int .i64 0), (.int .i64 0), (.slice none 0 0)] false (tm 70) (tm 72), none, [(some 74, .mov (tm 5), none), (some 62, .mov (tm 0), none)], false⟩,
 ⟨some 75, .append 58 5 56 [(.int .i64 0), (.int .i64 0), (.int .i64 0), (.int .i64 0), (.slice none 0 0)] false (tm 73) (tm 74), none, [(some 62, .mov (tm 0), none)], false⟩,
 o2 76 (.nilCheck (tm 62)),
 o2 77 (.fieldAddr 3 (tm 76)),
 ⟨none, .store 1 (tm 77) (tm 75), none, [], true⟩]])))))
def zjQ : AFunc := ⟨78, [], zjQ_c, none⟩
theorem zjQ_t0 : tableOf Try.prog 46 = some zjQ := by kernel_rfl
theorem zjQ_t : T0 46 = some zjQ := withKept_t rfl (withTrue_t rfl zjQ_t0)
theorem zjQ_runs {v0 v1 : Value} {h : Heap} {R : RP} {X : XP} (k : RunC Try.prog T0 zjQ_c ⟨[v0, v1, U, U, U, U, U, U, U, U, U, U, U, U, U, U, U, U, U, U, U, U, U, U, U, U, U, U, U, U, U, U, U, U, U, U, U, U, U, U, U, U, U, U, U, U, U, U, U, U, U, U, U, U, U, U, U, U, U, U, U, U, U, U, U, U, U, U, U, U, U, U, U, U, U, U, U, U], [], h, none⟩ (bodyQ Try.prog T0 [] R X)) :
 Runs Try.prog T0 (.fn 46) [v0, v1] h R X := Runs.fn zjQ_t rfl k
abbrev zjQ_l0_M : List Nat := [0, 0, 0, 0, 2, 0, 1, 1, 1, 1, 1, 1, 1, 1, 1, 1, 1, 1, 1, 1, 1, 1, 1, 1, 1, 1, 1, 1, 1, 1, 1, 1, 1, 1, 1, 1, 1, 1, 1, 1, 1, 1, 1, 1, 1, 1, 1, 1, 1, 1, 1, 1, 1, 1, 0, 0, 0, 0, 0, 0, 0, 0, 0, 0, 0, 0, 0, 0, 0, 0, 0, 0, 0, 0, 0, 0, 0, 0]
abbrev fn_zcQ : FuncId := 47
def zcQ_c : ACode :=
 (.seq (.region [
 o1 2 (.mov (.const (.slice none 0 0)))]) (.seq (.region [
 o1 3 (.buildSlice 5 [] 0 []),
 o1 4 (.mov (tm 0)),
 o1 5 (.append 5 1 1 [(.int .u8 0)] false (tm 3) (tm 4)),
 o1 2 (.mov (tm 5))]) .ret))
def zcQ : AFunc := ⟨6, [(2, none)], zcQ_c, none⟩
theorem zcQ_t0 : tableOf Try.prog 47 = some zcQ := by kernel_rfl
theorem zcQ_t : T0 47 = some zcQ := withKept_t rfl (withTrue_t rfl zcQ_t0)
theorem zcQ_runs {v0 : Value} {h : Heap} {R : RP} {X : XP} (k : RunC Try.prog T0 zcQ_c ⟨[v0, U, U, U, U, U], [], h, none⟩ (bodyQ Try.prog T0 [(2, none)] R X)) :
 Runs Try.prog T0 (.fn 47) [v0] h R X := Runs.fn zcQ_t rfl k
abbrev fn_zeQ : FuncId := 48
def zeQ_c : ACode :=
 (.seq (.region [
 o1 4 (.mov (.const (.bool false)))]) (.seq (.region [
 o1 5 (.mov (tm 0)),
 o1 6 (.bytesToStr (tm 5)),
 o1 7 (.mov (tm 1)),
 o1 8 (.bytesToStr (tm 7)),
 o1 9 (.bin .eql (so (.binOp .eql 9 (tm 6) (tm 8) 9) 4) (tm 6) (tm 8)),
 o1 4 (.mov (tm 9))]) .ret))
def zeQ : AFunc := ⟨10, [(4, none)], zeQ_c, none⟩
theorem zeQ_t0 : tableOf Try.prog 48 = some zeQ := by kernel_rfl
theorem zeQ_t : T0 48 = some zeQ := withKept_t rfl (withTrue_t rfl zeQ_t0)
theorem zeQ_runs {v0 v1 : Value} {h : Heap} {R : RP} {X : XP} (k : RunC Try.prog T0 zeQ_c ⟨[v0, v1, U, U, U, U, U, U, U, U], [], h, none⟩ (bodyQ Try.prog T0 [(4, none)] R X)) :
 Runs Try.prog T0 (.fn 48) [v0, v1] h R X := Runs.fn zeQ_t rfl k
abbrev fn_zdbQ : FuncId := 49
def zdbQ_c : ACode :=
 (.seq (.region [
 o1 4 (.mov (.const (.slice none 0 0)))]) (.seq (.region [
 o1 6 (.mov (tm 0)),
 o1 7 (.callV (.func 62) [(tm 6)]),
 o1 5 (.mov (tm 7))]) (.seq (.region [
 o1 8 (.mov (tm 5)),
 o1 9 (.mov (tm 1)),
 o1 10 (.callV (.func 63) [(tm 8), (tm 9)])]) (.seq (.region [
 o1 11 (.mov (tm 5)),
 o1 4 (.mov (tm 11))]) .ret))))
def zdbQ : AFunc := ⟨12, [(4, none)], zdbQ_c, none⟩
theorem zdbQ_t0 : tableOf Try.prog 49 = some zdbQ := by kernel_rfl
theorem zdbQ_t : T0 49 = some zdbQ := withKept_t rfl (withTrue_t rfl zdbQ_t0)
theorem zdbQ_runs {v0 v1 : Value} {h : Heap} {R : RP} {X : XP} (k : RunC Try.prog T0 zdbQ_c ⟨[v0, v1, U, U, U, U, U, U, U, U, U, U], [], h, none⟩ (bodyQ Try.prog T0 [(4, none)] R X)) :
 Runs Try.prog T0 (.fn 49) [v0, v1] h R X := Runs.fn zdbQ_t rfl k
abbrev fn_zebQ : FuncId := 50
def zebQ_c : ACode :=
 (.seq (.region [
 o1 1 (.box 62 (tm 0)),
 o1 2 (.mov (.const .nilFunc))]) (.seq (.region [
 o1 3 (.mkFunc (.func 64) [] [(tm 1)]),
 o1 2 (.mov (tm 3))]) .ret))
def zebQ : AFunc := ⟨4, [(2, none)], zebQ_c, none⟩
theorem zebQ_t0 : tableOf Try.prog 50 = some zebQ := by kernel_rfl
theorem zebQ_t : T0 50 = some zebQ := withKept_t rfl (withTrue_t rfl zebQ_t0)
theorem zebQ_runs {v0 : Value} {h : Heap} {R : RP} {X : XP} (k : RunC Try.prog T0 zebQ_c ⟨[v0, U, U, U], [], h, none⟩ (bodyQ Try.prog T0 [(2, none)] R X)) :
 Runs Try.prog T0 (.fn 50) [v0] h R X := Runs.fn zebQ_t rfl k
abbrev fn_zabQ : FuncId := 52
def zabQ_c : ACode :=
 (.seq (.region [
 o1 2 (.mov (.const (.slice none 0 0)))]) (.seq (.seq (.region [
 o1 3 (.mov (tm 0)),
 o1 4 (.eq .slice false (so (.binOp .eql 38 (tm 3) (.const (.slice none 0 0)) 38) 4) (tm 3) (.const (.slice none 0 0)))]) (.cond (tm 4)
 (.seq (.region [
 o1 2 (.mov (.const (.slice none 0 0)))]) .ret)
 .skip)) (.seq (.region [
 o1 5 (.buildSlice 5 [] 0 []),
 o1 6 (.mov (tm 0)),
 o1 7 (.append 5 1 1 [(.int .u8 0)] false (tm 5) (tm 6)),
 o1 2 (.mov (tm 7))]) .ret)))
def zabQ : AFunc := ⟨8, [(2, none)], zabQ_c, none⟩
theorem zabQ_t0 : tableOf Try.prog 52 = some zabQ := by kernel_rfl
theorem zabQ_t : T0 52 = some zabQ := withKept_t rfl (withTrue_t rfl zabQ_t0)
theorem zabQ_runs {v0 : Value} {h : Heap} {R : RP} {X : XP} (k : RunC Try.prog T0 zabQ_c ⟨[v0, U, U, U, U, U, U, U], [], h, none⟩ (bodyQ Try.prog T0 [(2, none)] R X)) :
 Runs Try.prog T0 (.fn 52) [v0] h R X := Runs.fn zabQ_t rfl k
abbrev fn_zaQ : FuncId := 61
def zaQ_c : ACode :=
 (.seq (.region [
 o1 4 (.mov (tm 0)),
 o1 5 (.mov (tm 1)),
 o1 6 (.invoke (tm 4) "Push" [(tm 5)])]) (.region [
 o1 7 (.mov (tm 0)),
 o1 8 (.mov (tm 0)),
 o1 9 (.invoke (tm 8) "Len" []),
 o1 10 (.bin .sub (so (.binOp .sub 3 (tm 9) (.const (.int .i64 1)) 3) 3) (tm 9) (.const (.int .i64 1))),
 o1 11 (.callV (.func 69) [(tm 7), (tm 10)])]))
def zaQ : AFunc := ⟨12, [], zaQ_c, none⟩
theorem zaQ_t0 : tableOf Try.prog 61 = some zaQ := by kernel_rfl
theorem zaQ_t : T0 61 = some zaQ := withKept_t rfl (withTrue_t rfl zaQ_t0)
theorem zaQ_runs {v0 v1 : Value} {h : Heap} {R : RP} {X : XP} (k : RunC Try.prog T0 zaQ_c ⟨[v0, v1, U, U, U, U, U, U, U, U, U, U], [], h, none⟩ (bodyQ Try.prog T0 [] R X)) :
 Runs Try.prog T0 (.fn 61) [v0, v1] h R X := Runs.fn zaQ_t rfl k
def zbbQ_c : ACode :=
 (.seq (.region [
 o1 2 (.mov (.const (.slice none 0 0)))]) (.seq (.region [
 o1 3 (.mov (tm 0)),
 o1 4 (.callV (.func 70) [(.const (.slice none 0 0)), (tm 3)]),
 o1 2 (.mov (tm 4))]) .ret))
def zbbQ : AFunc := ⟨5, [(2, none)], zbbQ_c, none⟩
theorem zbbQ_t0 : tableOf Try.prog 62 = some zbbQ := by kernel_rfl
theorem zbbQ_t : T0 62 = some zbbQ := withKept_t rfl (withTrue_t rfl zbbQ_t0)
theorem zbbQ_runs {v0 : Value} {h : Heap} {R : RP} {X : XP} (k : RunC Try.prog T0 zbbQ_c ⟨[v0, U, U, U, U], [], h, none⟩ (bodyQ Try.prog T0 [(2, none)] R X)) :
 Runs Try.prog T0 (.fn 62) [v0] h R X := Runs.fn zbbQ_t rfl k
def zcbQ_c : ACode :=
 (.seq (.region [
 o1 5 (.mov (tm 0)),
 o1 6 (.lenSl (tm 5)),
 o1 4 (.mov (tm 6))]) (.region [
 o1 7 (.mov (tm 0)),
 o1 8 (.mov (tm 4)),
 o1 9 (.mov (tm 4)),
 o1 10 (.conv .u64 (so (.convert 3 104 (tm 9)) 104) (tm 9)),
 o1 11 (.callV (.func 72) [(tm 10)]),
 o1 12 (.mov (tm 1)),
 o1 13 (.callV (.func 71) [(tm 7), k0, (tm 8), (tm 11), (tm 12)])]))
def zcbQ : AFunc := ⟨14, [], zcbQ_c, none⟩
theorem zcbQ_t0 : tableOf Try.prog 63 = some zcbQ := by kernel_rfl
theorem zcbQ_t : T0 63 = some zcbQ := withKept_t rfl (withTrue_t rfl zcbQ_t0)
theorem zcbQ_runs {v0 v1 : Value} {h : Heap} {R : RP} {X : XP} (k : RunC Try.prog T0 zcbQ_c ⟨[v0, v1, U, U, U, U, U, U, U, U, U, U, U, U], [], h, none⟩ (bodyQ Try.prog T0 [] R X)) :
 Runs Try.prog T0 (.fn 63) [v0, v1] h R X := Runs.fn zcbQ_t rfl k
abbrev fn_zfbQ : FuncId := 64
def zfbQ_l0 : ACode :=
 (.seq (.region [
 o1 8 (.bin .lss (so (.binOp .lss 3 (tm 7) (tm 6) 3) 0) (tm 7) (tm 6))]) (.seq (.cond (tm 8)
 .skip
 (.exit 0)) (.seq (.block 1 (.seq (.region [
 o1 9 (.indexSl 1 (tm 5) (tm 7)),
 o1 10 (.load none (tm 9)),
 o1 4 (.mov (tm 10))]) (.seq (.region [
 o1 11 (.mov (tm 0)),
 o1 12 (.mov (tm 4)),
 o1 13 (.callV (tm 11) [(tm 12)]),
 o1 14 (.raw (so (.unOp .not 4 (tm 13)) 4))]) (.cond (tm 14)
 .ret
 .skip)))) (.region [
 o1 15 (.bin .add (so (.binOp .add 3 (tm 7) (.const (.int .i64 1)) 3) 3) (tm 7) (.const (.int .i64 1))),
 o1 7 (.mov (tm 15))]))))
def zfbQ_c : ACode :=
 (.seq (.region [
 o1 5 (.load none (tm 1)),
 o1 6 (.lenSl (tm 5)),
 o1 7 (.mov k0)]) (.block 0 (.loop zfbQ_l0)))
def zfbQ : AFunc := ⟨16, [], zfbQ_c, none⟩
theorem zfbQ_t0 : tableOf Try.prog 64 = some zfbQ := by kernel_rfl
theorem zfbQ_t : T0 64 = some zfbQ := withKept_t rfl (withTrue_t rfl zfbQ_t0)
theorem zfbQ_runs {v0 v1 : Value} {h : Heap} {R : RP} {X : XP} (k : RunC Try.prog T0 zfbQ_c ⟨[v0, v1, U, U, U, U, U, U, U, U, U, U, U, U, U, U], [], h, none⟩ (bodyQ Try.prog T0 [] R X)) :
 Runs Try.prog T0 (.fn 64) [v0, v1] h R X := Runs.fn zfbQ_t rfl k
abbrev zfbQ_l0_M : List Nat := [0, 0, 0, 0, 1, 0, 0, 2, 1, 1, 1, 1, 1, 1, 1, 1]
abbrev fn_zbQ : FuncId := 69
def zbQ_l0 : ACode :=
 (.block 1 (.seq (.region [
 o1 5 (.mov (tm 1)),
 o1 6 (.bin .sub (so (.binOp .sub 3 (tm 5) (.const (.int .i64 1)) 3) 3) (tm 5) (.const (.int .i64 1))),
 o1 7 (.bin .quo (so (.binOp .quo 3 (tm 6) (.const (.int .i64 2)) 3) 3) (tm 6) (.const (.int .i64 2))),
 o1 4 (.mov (tm 7))]) (.seq (.seq (.region [
 o1 8 (.mov (tm 4)),
 o1 9 (.mov (tm 1)),
 o1 10 (.bin .eql (so (.binOp .eql 3 (tm 8) (tm 9) 3) 4) (tm 8) (tm 9)),
 o1 11 (.mov (tm 10)),
 o5 12 (.mov (tm 0)) 11,
 o5 13 (.mov (tm 1)) 11,
 o5 14 (.mov (tm 4)) 11,
 o5 15 (.invoke (tm 12) "Less" [(tm 13), (tm 14)]) 11,
 o5 16 (.raw (so (.unOp .not 4 (tm 15)) 4)) 11,
 o1 17 (.pick (tm 11) (.const (.bool true)) (tm 16))]) (.cond (tm 17)
 (.exit 0)
 .skip)) (.seq (.region [
 o1 18 (.mov (tm 0)),
 o1 19 (.mov (tm 4)),
 o1 20 (.mov (tm 1)),
 o1 21 (.invoke (tm 18) "Swap" [(tm 19), (tm 20)])]) (.region [
 o1 22 (.mov (tm 4)),
 o1 1 (.mov (tm 22))])))))
def zbQ_c : ACode :=
 (.block 0 (.loop zbQ_l0))
def zbQ : AFunc := ⟨23, [], zbQ_c, none⟩
theorem zbQ_t0 : tableOf Try.prog 69 = some zbQ := by kernel_rfl
theorem zbQ_t : T0 69 = some zbQ := withKept_t rfl (withTrue_t rfl zbQ_t0)
theorem zbQ_runs {v0 v1 : Value} {h : Heap} {R : RP} {X : XP} (k : RunC Try.prog T0 zbQ_c ⟨[v0, v1, U, U, U, U, U, U, U, U, U, U, U, U, U, U, U, U, U, U, U, U, U], [], h, none⟩ (bodyQ Try.prog T0 [] R X)) :
 Runs Try.prog T0 (.fn 69) [v0, v1] h R X := Runs.fn zbQ_t rfl k
abbrev zbQ_l0_M : List Nat := [0, 2, 0, 0, 1, 1, 1, 1, 1, 1, 1, 1, 1, 1, 1, 1, 1, 1, 1, 1, 1, 1, 1]
abbrev fn_zzQ : FuncId := 70
def zzQ_ra0 : Code := (rangeParts (subCode ((Try.prog.funcs[70]?).bind (·.body)) [true, false, true, false])).1
def zzQ_rb0 : Code := (rangeParts (subCode ((Try.prog.funcs[70]?).bind (·.body)) [true, false, true, false])).2
def zzQ_a0 : ACode :=
 (.region [
 o1 5 (.mov (tm 7))])
def zzQ_b0 : ACode :=
 (.block 1 (.region [
 o1 8 (.load none (tm 2)),
 o1 9 (.mov (tm 5)),
 o1 10 (.buildSlice 74 [(.pointer none)] 1 [(0, 1, (tm 9))]),
 o1 11 (.append 74 1 8 [(.pointer none)] false (tm 8) (tm 10)),
 o3 (.store 1 (tm 2) (tm 11))]))
theorem zzQ_ca0 : comp Try.prog zzQ_ra0 = some zzQ_a0 := by kernel_rfl
theorem zzQ_cb0 : comp Try.prog zzQ_rb0 = some zzQ_b0 := by kernel_rfl
theorem zzQ_na0 : noDefer zzQ_ra0 = true := by kernel_rfl
theorem zzQ_nb0 : noDefer zzQ_rb0 = true := by kernel_rfl
def zzQ_c : ACode :=
 (.seq (.region [
 o1 2 (.box 61 (tm 0)),
 o1 4 (.mov (.const (.slice none 0 0)))]) (.seq (.seq (.region [
 o1 6 (.mov (tm 1))]) (.block 0 (.rangeFunc (tm 6) [7] zzQ_ra0 zzQ_rb0))) (.seq (.region [
 o1 12 (.load none (tm 2)),
 o1 4 (.mov (tm 12))]) .ret)))
def zzQ : AFunc := ⟨13, [(4, none)], zzQ_c, none⟩
theorem zzQ_t0 : tableOf Try.prog 70 = some zzQ := by kernel_rfl
theorem zzQ_t : T0 70 = some zzQ := withKept_t rfl (withTrue_t rfl zzQ_t0)
theorem zzQ_runs {v0 v1 : Value} {h : Heap} {R : RP} {X : XP} (k : RunC Try.prog T0 zzQ_c ⟨[v0, v1, U, U, U, U, U, U, U, U, U, U, U], [], h, none⟩ (bodyQ Try.prog T0 [(4, none)] R X)) :
 Runs Try.prog T0 (.fn 70) [v0, v1] h R X := Runs.fn zzQ_t rfl k
abbrev fn_zhbQ : FuncId := 71
def zhbQ_l0 : ACode :=
 (.block 1 (.seq (.region [
 o1 21 (.mov (tm 2)),
 o1 22 (.mov (tm 1)),
 o1 23 (.bin .sub (so (.binOp .sub 3 (tm 21) (tm 22) 3) 3) (tm 21) (tm 22)),
 o1 12 (.mov (tm 23))]) (.seq (.seq (.region [
 o1 24 (.mov (tm 12)),
 o1 25 (.bin .leq (so (.binOp .leq 3 (tm 24) (.const (.int .i64 12)) 3) 4) (tm 24) (.const (.int .i64 12)))]) (.cond (tm 25)
 (.seq (.region [
 o1 26 (.mov (tm 0)),
 o1 27 (.mov (tm 1)),
 o1 28 (.mov (tm 2)),
 o1 29 (.mov (tm 4)),
 o1 30 (.callV (.func 74) [(tm 26), (tm 27), (tm 28), (tm 29)])]) .ret)
 .skip)) (.seq (.seq (.region [
 o1 31 (.mov (tm 3)),
 o1 32 (.bin .eql (so (.binOp .eql 3 (tm 31) k0 3) 4) (tm 31) k0)]) (.cond (tm 32)
 (.seq (.region [
 o1 33 (.mov (tm 0)),
 o1 34 (.mov (tm 1)),
 o1 35 (.mov (tm 2)),
 o1 36 (.mov (tm 4)),
 o1 37 (.callV (.func 75) [(tm 33), (tm 34), (tm 35), (tm 36)])]) .ret)
 .skip)) (.seq (.seq (.region [
 o1 38 (.mov (tm 10)),
 o1 39 (.raw (so (.unOp .not 4 (tm 38)) 4))]) (.cond (tm 39)
 (.seq (.region [
 o1 40 (.mov (tm 0)),
 o1 41 (.mov (tm 1)),
 o1 42 (.mov (tm 2)),
 o1 43 (.mov (tm 4)),
 o1 44 (.callV (.func 76) [(tm 40), (tm 41), (tm 42), (tm 43)])]) (.region [
 o1 45 (.mov (tm 3)),
 o1 46 (.bin .sub (so (.binOp .sub 3 (tm 45) (.const (.int .i64 1)) 3) 3) (tm 45) (.const (.int .i64 1))),
 o1 3 (.mov (tm 46))]))
 .skip)) (.seq (.region [
 o1 48 (.mov (tm 0)),
 o1 49 (.mov (tm 1)),
 o1 50 (.mov (tm 2)),
 o1 51 (.mov (tm 4)),
 o1 52 (.callV (.func 77) [(tm 48), (tm 49), (tm 50), (tm 51)]),
 o1 47 (.mov (tm 52)),
 o1 53 (.extract 0 (tm 47)),
 o1 54 (.extract 1 (tm 47)),
 o1 13 (.mov (tm 53)),
 o1 14 (.mov (tm 54))]) (.seq (.seq (.region [
 o1 55 (.mov (tm 14)),
 o1 56 (.bin .eql (so (.binOp .eql 107 (tm 55) (.const (.int .i64 2)) 107) 4) (tm 55) (.const (.int .i64 2)))]) (.cond (tm 56)
 (.seq (.region [
 o1 57 (.mov (tm 0)),
 o1 58 (.mov (tm 1)),
 o1 59 (.mov (tm 2)),
 o1 60 (.mov (tm 4)),
 o1 61 (.callV (.func 78) [(tm 57), (tm 58), (tm 59), (tm 60)])]) (.seq (.region [
 o1 62 (.mov (tm 2)),
 o1 63 (.bin .sub (so (.binOp .sub 3 (tm 62) (.const (.int .i64 1)) 3) 3) (tm 62) (.const (.int .i64 1))),
 o1 64 (.mov (tm 13)),
 o1 65 (.mov (tm 1)),
 o1 66 (.bin .sub (so (.binOp .sub 3 (tm 64) (tm 65) 3) 3) (tm 64) (tm 65)),
 o1 67 (.bin .sub (so (.binOp .sub 3 (tm 63) (tm 66) 3) 3) (tm 63) (tm 66)),
 o1 13 (.mov (tm 67))]) (.region [
 o1 14 (.mov (.const (.int .i64 1)))])))
 .skip)) (.seq (.seq (.region [
 o1 68 (.mov (tm 10)),
 o1 69 (.mov (tm 68)),
 o4 70 (.mov (tm 11)) 69,
 o1 71 (.pick (tm 69) (tm 70) (.const (.bool false))),
 o1 72 (.mov (tm 71)),
 o4 73 (.mov (tm 14)) 72,
 o4 74 (.bin .eql (so (.binOp .eql 107 (tm 73) (.const (.int .i64 1)) 107) 4) (tm 73) (.const (.int .i64 1))) 72,
 o1 75 (.pick (tm 72) (tm 74) (.const (.bool false)))]) (.cond (tm 75)
 (.seq (.region [
 o1 76 (.mov (tm 0)),
 o1 77 (.mov (tm 1)),
 o1 78 (.mov (tm 2)),
 o1 79 (.mov (tm 4)),
 o1 80 (.callV (.func 79) [(tm 76), (tm 77), (tm 78), (tm 79)])]) (.cond (tm 80)
 .ret
 .skip))
 .skip)) (.seq (.seq (.regionD [
 o2 81 (.mov (tm 1)),
 o2 82 (.bin .gtr (so (.binOp .gtr 3 (tm 81) k0 3) 4) (tm 81) k0),
 o2 83 (.mov (tm 82)),
 o4 84 (.mov (tm 4)) 83,
 o4 85 (.mov (tm 0)) 83,
 o4 86 (.mov (tm 1)) 83,
 o4 87 (.bin .sub (so (.binOp .sub 3 (tm 86) (.const (.int .i64 1)) 3) 3) (tm 86) (.const (.int .i64 1))) 83,
 o4 88 (.indexSl 1 (tm 85) (tm 87)) 83,
 o4 89 (.load none (tm 88)) 83,
 o4 90 (.mov (tm 0)) 83,
 o4 91 (.mov (tm 13)) 83,
 o4 92 (.indexSl 1 (tm 90) (tm 91)) 83,
 o4 93 (.load none (tm 92)) 83,
 ⟨some 94, .callV (tm 84) [(tm 89), (tm 93)], some (83, true), [], true⟩,
 ⟨some 95, .bin .lss (so (.binOp .lss 3 (tm 94) k0 3) 4) (tm 94) k0, some (83, true), [], true⟩,
 ⟨some 96, .raw (so (.unOp .not 4 (tm 95)) 4), some (83, true), [], true⟩,
 o2 97 (.pick (tm 83) (tm 96) (.const (.bool false)))]) (.cond (tm 97)
 (.seq (.region [
 o1 98 (.mov (tm 0)),
 o1 99 (.mov (tm 1)),
 o1 100 (.mov (tm 2)),
 o1 101 (.mov (tm 13)),
 o1 102 (.mov (tm 4)),
 o1 103 (.callV (.func 80) [(tm 98), (tm 99), (tm 100), (tm 101), (tm 102)]),
 o1 15 (.mov (tm 103))]) (.seq (.region [
 o1 104 (.mov (tm 15)),
 o1 1 (.mov (tm 104))]) (.exit 1)))
 .skip)) (.seq (.region [
 o1 106 (.mov (tm 0)),
 o1 107 (.mov (tm 1)),
 o1 108 (.mov (tm 2)),
 o1 109 (.mov (tm 13)),
 o1 110 (.mov (tm 4)),
 o1 111 (.callV (.func 81) [(tm 106), (tm 107), (tm 108), (tm 109), (tm 110)]),
 o1 105 (.mov (tm 111)),
 o1 112 (.extract 0 (tm 105)),
 o1 113 (.extract 1 (tm 105)),
 o1 16 (.mov (tm 112)),
 o1 17 (.mov (tm 113))]) (.seq (.region [
 o1 114 (.mov (tm 17)),
 o1 11 (.mov (tm 114))]) (.seq (.region [
 o1 115 (.mov (tm 16)),
 o1 116 (.mov (tm 1)),
 o1 117 (.bin .sub (so (.binOp .sub 3 (tm 115) (tm 116) 3) 3) (tm 115) (tm 116)),
 o1 118 (.mov (tm 2)),
 o1 119 (.mov (tm 16)),
 o1 120 (.bin .sub (so (.binOp .sub 3 (tm 118) (tm 119) 3) 3) (tm 118) (tm 119)),
 o1 18 (.mov (tm 117)),
 o1 19 (.mov (tm 120))]) (.seq (.region [
 o1 121 (.mov (tm 12)),
 o1 122 (.bin .quo (so (.binOp .quo 3 (tm 121) (.const (.int .i64 8)) 3) 3) (tm 121) (.const (.int .i64 8))),
 o1 20 (.mov (tm 122))]) (.seq (.region [
 o1 123 (.mov (tm 18)),
 o1 124 (.mov (tm 19)),
 o1 125 (.bin .lss (so (.binOp .lss 3 (tm 123) (tm 124) 3) 4) (tm 123) (tm 124))]) (.cond (tm 125)
 (.seq (.region [
 o1 126 (.mov (tm 18)),
 o1 127 (.mov (tm 20)),
 o1 128 (.bin .geq (so (.binOp .geq 3 (tm 126) (tm 127) 3) 4) (tm 126) (tm 127)),
 o1 10 (.mov (tm 128))]) (.seq (.region [
 o1 129 (.mov (tm 0)),
 o1 130 (.mov (tm 1)),
 o1 131 (.mov (tm 16)),
 o1 132 (.mov (tm 3)),
 o1 133 (.mov (tm 4)),
 o1 134 (.callV (.func 71) [(tm 129), (tm 130), (tm 131), (tm 132), (tm 133)])]) (.region [
 o1 135 (.mov (tm 16)),
 o1 136 (.bin .add (so (.binOp .add 3 (tm 135) (.const (.int .i64 1)) 3) 3) (tm 135) (.const (.int .i64 1))),
 o1 1 (.mov (tm 136))])))
 (.seq (.region [
 o1 137 (.mov (tm 19)),
 o1 138 (.mov (tm 20)),
 o1 139 (.bin .geq (so (.binOp .geq 3 (tm 137) (tm 138) 3) 4) (tm 137) (tm 138)),
 o1 10 (.mov (tm 139))]) (.seq (.region [
 o1 140 (.mov (tm 0)),
 o1 141 (.mov (tm 16)),
 o1 142 (.bin .add (so (.binOp .add 3 (tm 141) (.const (.int .i64 1)) 3) 3) (tm 141) (.const (.int .i64 1))),
 o1 143 (.mov (tm 2)),
 o1 144 (.mov (tm 3)),
 o1 145 (.mov (tm 4)),
 o1 146 (.callV (.func 71) [(tm 140), (tm 142), (tm 143), (tm 144), (tm 145)])]) (.region [
 o1 147 (.mov (tm 16)),
 o1 2 (.mov (tm 147))]))))))))))))))))))
def zhbQ_c : ACode :=
 (.seq (.region [
 o1 10 (.mov (.const (.bool true)))]) (.seq (.region [
 o1 11 (.mov (.const (.bool true)))]) (.block 0 (.loop zhbQ_l0))))
def zhbQ : AFunc := ⟨148, [], zhbQ_c, none⟩
theorem zhbQ_t0 : tableOf Try.prog 71 = some zhbQ := by kernel_rfl
theorem zhbQ_t : T0 71 = some zhbQ := withKept_t rfl (withTrue_t rfl zhbQ_t0)
theorem zhbQ_runs {v0 v1 v2 v3 v4 : Value} {h : Heap} {R : RP} {X : XP} (k : RunC Try.prog T0 zhbQ_c ⟨[v0, v1, v2, v3, v4, U, U, U, U, U, U, U, U, U, U, U, U, U, U, U, U, U, U, U, U, U, U, U, U, U, U, U, U, U, U, U, U, U, U, U, U, U, U, U, U, U, U, U, U, U, U, U, U, U, U, U, U, U, U, U, U, U, U, U, U, U, U, U, U, U, U, U, U, U, U, U, U, U, U, U, U, U, U, U, U, U, U, U, U, U, U, U, U, U, U, U, U, U, U, U, U, U, U, U, U, U, U, U, U, U, U, U, U, U, U, U, U, U, U, U, U, U, U, U, U, U, U, U, U, U, U, U, U, U, U, U, U, U, U, U, U, U, U, U, U, U, U, U], [], h, none⟩ (bodyQ Try.prog T0 [] R X)) :
 Runs Try.prog T0 (.fn 71) [v0, v1, v2, v3, v4] h R X := Runs.fn zhbQ_t rfl k
abbrev zhbQ_l0_M : List Nat := [0, 2, 2, 2, 0, 0, 0, 0, 0, 0, 2, 2, 1, 1, 1, 1, 1, 1, 1, 1, 1, 1, 1, 1, 1, 1, 1, 1, 1, 1, 1, 1, 1, 1, 1, 1, 1, 1, 1, 1, 1, 1, 1, 1, 1, 1, 1, 1, 1, 1, 1, 1, 1, 1, 1, 1, 1, 1, 1, 1, 1, 1, 1, 1, 1, 1, 1, 1, 1, 1, 1, 1, 1, 1, 1, 1, 1, 1, 1, 1, 1, 1, 1, 1, 1, 1, 1, 1, 1, 1, 1, 1, 1, 1, 1, 1, 1, 1, 1, 1, 1, 1, 1, 1, 1, 1, 1, 1, 1, 1, 1, 1, 1, 1, 1, 1, 1, 1, 1, 1, 1, 1, 1, 1, 1, 1, 1, 1, 1, 1, 1, 1, 1, 1, 1, 1, 1, 1, 1, 1, 1, 1, 1, 1, 1, 1, 1, 1]
abbrev fn_zwQ : FuncId := 72
def zwQ_c : ACode :=
 (.seq (.region [
 o1 2 (.mov k0)]) (.seq (.cond (.const (.bool false))
 (.seq (.region [
 o1 3 (.mov (tm 0)),
 o1 4 (.conv .u32 (so (.convert 104 114 (tm 3)) 114) (tm 3)),
 o1 5 (.callV (.func 82) [(tm 4)]),
 o1 2 (.mov (tm 5))]) .ret)
 .skip) (.seq (.region [
 o1 6 (.mov (tm 0)),
 o1 7 (.callV (.func 83) [(tm 6)]),
 o1 2 (.mov (tm 7))]) .ret)))
def zwQ : AFunc := ⟨8, [(2, none)], zwQ_c, none⟩
theorem zwQ_t0 : tableOf Try.prog 72 = some zwQ := by kernel_rfl
theorem zwQ_t : T0 72 = some zwQ := withKept_t rfl (withTrue_t rfl zwQ_t0)
theorem zwQ_runs {v0 : Value} {h : Heap} {R : RP} {X : XP} (k : RunC Try.prog T0 zwQ_c ⟨[v0, U, U, U, U, U, U, U], [], h, none⟩ (bodyQ Try.prog T0 [(2, none)] R X)) :
 Runs Try.prog T0 (.fn 72) [v0] h R X := Runs.fn zwQ_t rfl k
abbrev fn_zgbQ : FuncId := 74
def zgbQ_l0 : ACode :=
 (.seq (.seq (.regionD [
 o1 18 (.mov (tm 9)),
 o1 19 (.mov (tm 1)),
 o2 20 (.bin .gtr (so (.binOp .gtr 3 (tm 18) (tm 19) 3) 4) (tm 18) (tm 19)),
 o2 21 (.mov (tm 20)),
 o4 22 (.mov (tm 3)) 21,
 o4 23 (.mov (tm 0)) 21,
 o4 24 (.mov (tm 9)) 21,
 o4 25 (.indexSl 1 (tm 23) (tm 24)) 21,
 o4 26 (.load none (tm 25)) 21,
 o4 27 (.mov (tm 0)) 21,
 o4 28 (.mov (tm 9)) 21,
 o4 29 (.bin .sub (so (.binOp .sub 3 (tm 28) (.const (.int .i64 1)) 3) 3) (tm 28) (.const (.int .i64 1))) 21,
 o4 30 (.indexSl 1 (tm 27) (tm 29)) 21,
 o4 31 (.load none (tm 30)) 21,
 ⟨some 32, .callV (tm 22) [(tm 26), (tm 31)], some (21, true), [], true⟩,
 ⟨some 33, .bin .lss (so (.binOp .lss 3 (tm 32) k0 3) 4) (tm 32) k0, some (21, true), [], true⟩,
 o2 34 (.pick (tm 21) (tm 33) (.const (.bool false)))]) (.cond (tm 34)
 .skip
 (.exit 2))) (.seq (.block 3 (.regionD [
 o1 37 (.mov (tm 0)),
 o1 38 (.mov (tm 9)),
 o1 39 (.mov (tm 0)),
 o1 40 (.mov (tm 9)),
 o1 41 (.bin .sub (so (.binOp .sub 3 (tm 40) (.const (.int .i64 1)) 3) 3) (tm 40) (.const (.int .i64 1))),
 o1 42 (.mov (tm 0)),
 o1 43 (.mov (tm 9)),
 o1 44 (.bin .sub (so (.binOp .sub 3 (tm 43) (.const (.int .i64 1)) 3) 3) (tm 43) (.const (.int .i64 1))),
 o1 45 (.indexSl 1 (tm 42) (tm 44)),
 o1 46 (.load none (tm 45)),
 o1 47 (.mov (tm 0)),
 o1 48 (.mov (tm 9)),
 o1 49 (.indexSl 1 (tm 47) (tm 48)),
 o1 50 (.load none (tm 49)),
 o1 51 (.indexSl 1 (tm 37) (tm 38)),
 ⟨none, .store 1 (tm 51) (tm 46), none, [(some 41, .bin .sub (so (.binOp .sub 3 (tm 40) (.const (.int .i64 1)) 3) 3) (tm 40) (.const (.int .i64 1)), none), (some 40, .mov (tm 9), none), (some 39, .mov (tm 0), none)], false⟩,
 o2 52 (.indexSl 1 (tm 39) (tm 41)),
 ⟨none, .store 1 (tm 52) (tm 50), none, [], true⟩])) (.region [
 o1 35 (.mov (tm 9)),
 o1 36 (.bin .sub (so (.binOp .sub 3 (tm 35) (.const (.int .i64 1)) 3) 3) (tm 35) (.const (.int .i64 1))),
 o1 9 (.mov (tm 36))])))
def zgbQ_l1 : ACode :=
 (.seq (.seq (.region [
 o1 12 (.mov (tm 8)),
 o1 13 (.mov (tm 2)),
 o1 14 (.bin .lss (so (.binOp .lss 3 (tm 12) (tm 13) 3) 4) (tm 12) (tm 13))]) (.cond (tm 14)
 .skip
 (.exit 0))) (.seq (.block 1 (.seq (.region [
 o1 17 (.mov (tm 8)),
 o1 9 (.mov (tm 17))]) (.block 2 (.loop zgbQ_l0)))) (.region [
 o1 15 (.mov (tm 8)),
 o1 16 (.bin .add (so (.binOp .add 3 (tm 15) (.const (.int .i64 1)) 3) 3) (tm 15) (.const (.int .i64 1))),
 o1 8 (.mov (tm 16))])))
def zgbQ_c : ACode :=
 (.seq (.region [
 o1 10 (.mov (tm 1)),
 o1 11 (.bin .add (so (.binOp .add 3 (tm 10) (.const (.int .i64 1)) 3) 3) (tm 10) (.const (.int .i64 1))),
 o1 8 (.mov (tm 11))]) (.block 0 (.loop zgbQ_l1)))
def zgbQ : AFunc := ⟨53, [], zgbQ_c, none⟩
theorem zgbQ_t0 : tableOf Try.prog 74 = some zgbQ := by kernel_rfl
theorem zgbQ_t : T0 74 = some zgbQ := withKept_t rfl (withTrue_t rfl zgbQ_t0)
theorem zgbQ_runs {v0 v1 v2 v3 : Value} {h : Heap} {R : RP} {X : XP} (k : RunC Try.prog T0 zgbQ_c ⟨[v0, v1, v2, v3, U, U, U, U, U, U, U, U, U, U, U, U, U, U, U, U, U, U, U, U, U, U, U, U, U, U, U, U, U, U, U, U, U, U, U, U, U, U, U, U, U, U, U, U, U, U, U, U, U], [], h, none⟩ (bodyQ Try.prog T0 [] R X)) :
 Runs Try.prog T0 (.fn 74) [v0, v1, v2, v3] h R X := Runs.fn zgbQ_t rfl k
abbrev zgbQ_l1_M : List Nat := [0, 0, 0, 0, 0, 0, 0, 0, 2, 1, 0, 0, 1, 1, 1, 1, 1, 1, 1, 1, 1, 1, 1, 1, 1, 1, 1, 1, 1, 1, 1, 1, 1, 1, 1, 1, 1, 1, 1, 1, 1, 1, 1, 1, 1, 1, 1, 1, 1, 1, 1, 1, 1]
abbrev fn_zyQ : FuncId := 83
def zyQ_c : ACode :=
 (.seq (.region [
 o1 2 (.mov k0)]) (.seq (.seq (.region [
 o1 3 (.mov (tm 0)),
 o1 4 (.bin .geq (so (.binOp .geq 116 (tm 3) (.const (.int .u64 4294967296)) 116) 4) (tm 3) (.const (.int .u64 4294967296)))]) (.cond (tm 4)
 (.seq (.region [
 o1 5 (.mov (tm 0)),
 o1 6 (.bin .shr (so (.binOp .shr 116 (tm 5) (.const (.int .u64 32)) 104) 116) (tm 5) (.const (.int .u64 32))),
 o1 0 (.mov (tm 6))]) (.region [
 o1 2 (.mov (.const (.int .i64 32)))]))
 .skip)) (.seq (.seq (.region [
 o1 7 (.mov (tm 0)),
 o1 8 (.bin .geq (so (.binOp .geq 116 (tm 7) (.const (.int .u64 65536)) 116) 4) (tm 7) (.const (.int .u64 65536)))]) (.cond (tm 8)
 (.seq (.region [
 o1 9 (.mov (tm 0)),
 o1 10 (.bin .shr (so (.binOp .shr 116 (tm 9) (.const (.int .u64 16)) 104) 116) (tm 9) (.const (.int .u64 16))),
 o1 0 (.mov (tm 10))]) (.region [
 o1 11 (.mov (tm 2)),
 o1 12 (.bin .add (so (.binOp .add 3 (tm 11) (.const (.int .i64 16)) 3) 3) (tm 11) (.const (.int .i64 16))),
 o1 2 (.mov (tm 12))]))
 .skip)) (.seq (.seq (.region [
 o1 13 (.mov (tm 0)),
 o1 14 (.bin .geq (so (.binOp .geq 116 (tm 13) (.const (.int .u64 256)) 116) 4) (tm 13) (.const (.int .u64 256)))]) (.cond (tm 14)
 (.seq (.region [
 o1 15 (.mov (tm 0)),
 o1 16 (.bin .shr (so (.binOp .shr 116 (tm 15) (.const (.int .u64 8)) 104) 116) (tm 15) (.const (.int .u64 8))),
 o1 0 (.mov (tm 16))]) (.region [
 o1 17 (.mov (tm 2)),
 o1 18 (.bin .add (so (.binOp .add 3 (tm 17) (.const (.int .i64 8)) 3) 3) (tm 17) (.const (.int .i64 8))),
 o1 2 (.mov (tm 18))]))
 .skip)) (.seq (.region [
 o1 19 (.mov (tm 2)),
 o1 20 (.mov (tm 0)),
 o1 21 (.conv .u8 (so (.convert 116 5 (tm 20)) 5) (tm 20)),
 o1 22 (.raw (so (.index 9 (.const (.string ⟨⟨[0, 1, 2, 2, 3, 3, 3, 3, 4, 4, 4, 4, 4, 4, 4, 4, 5, 5, 5, 5, 5, 5, 5, 5, 5, 5, 5, 5, 5, 5, 5, 5, 6, 6, 6, 6, 6, 6, 6, 6, 6, 6, 6, 6, 6, 6, 6, 6, 6, 6, 6, 6, 6, 6, 6, 6, 6, 6, 6, 6, 6, 6, 6, 6, 7, 7, 7, 7, 7, 7, 7, 7, 7, 7, 7, 7, 7, 7, 7, 7, 7, 7, 7, 7, 7, 7, 7, 7, 7, 7, 7, 7, 7, 7, 7, 7, 7, 7, 7, 7, 7, 7, 7, 7, 7, 7, 7, 7, 7, 7, 7, 7, 7, 7, 7, 7, 7, 7, 7, 7, 7, 7, 7, 7, 7, 7, 7, 7, 8, 8, 8, 8, 8, 8, 8, 8, 8, 8, 8, 8, 8, 8, 8, 8, 8, 8, 8, 8, 8, 8, 8, 8, 8, 8, 8, 8, 8, 8, 8, 8, 8, 8, 8, 8, 8, 8, 8, 8, 8, 8, 8, 8, 8, 8, 8, 8, 8, 8, 8, 8, 8, 8, 8, 8, 8, 8, 8, 8, 8, 8, 8, 8, 8, 8, 8, 8, 8, 8, 8, 8, 8, 8, 8, 8, 8, 8, 8, 8, 8, 8, 8, 8, 8, 8, 8, 8, 8, 8, 8, 8, 8, 8, 8, 8, 8, 8, 8, 8, 8, 8, 8, 8, 8, 8, 8, 8, 8, 8, 8, 8, 8, 8, 8, 8, 8, 8, 8, 8, 8, 8, 8, 8, 8, 8, 8, 8]⟩⟩)) (tm 21)) 5)),
 o1 23 (.conv .i64 (so (.convert 5 3 (tm 22)) 3) (tm 22)),
 o1 24 (.bin .add (so (.binOp .add 3 (tm 19) (tm 23) 3) 3) (tm 19) (tm 23)),
 o1 2 (.mov (tm 24))]) .ret)))))
def zyQ : AFunc := ⟨25, [(2, none)], zyQ_c, none⟩
theorem zyQ_t0 : tableOf Try.prog 83 = some zyQ := by kernel_rfl
theorem zyQ_t : T0 83 = some zyQ := withKept_t rfl (withTrue_t rfl zyQ_t0)
theorem zyQ_runs {v0 : Value} {h : Heap} {R : RP} {X : XP} (k : RunC Try.prog T0 zyQ_c ⟨[v0, U, U, U, U, U, U, U, U, U, U, U, U, U, U, U, U, U, U, U, U, U, U, U, U], [], h, none⟩ (bodyQ Try.prog T0 [(2, none)] R X)) :
 Runs Try.prog T0 (.fn 83) [v0] h R X := Runs.fn zyQ_t rfl k
abbrev fn_zuQ : FuncId := 107
def zuQ_c : ACode :=
 (.seq (.region [
 o1 2 (.mov k0)]) (.seq (.region [
 o1 3 (.mov (tm 0)),
 o1 4 (.lenSl (tm 3)),
 o1 2 (.mov (tm 4))]) .ret))
def zuQ : AFunc := ⟨5, [(2, none)], zuQ_c, none⟩
theorem zuQ_t0 : tableOf Try.prog 107 = some zuQ := by kernel_rfl
theorem zuQ_t : T0 107 = some zuQ := withKept_t rfl (withTrue_t rfl zuQ_t0)
theorem zuQ_runs {v0 : Value} {h : Heap} {R : RP} {X : XP} (k : RunC Try.prog T0 zuQ_c ⟨[v0, U, U, U, U], [], h, none⟩ (bodyQ Try.prog T0 [(2, none)] R X)) :
 Runs Try.prog T0 (.fn 107) [v0] h R X := Runs.fn zuQ_t rfl k
abbrev fn_zvQ : FuncId := 111
def zvQ_c : ACode :=
 (.regionD [
 o1 4 (.mov (tm 0)),
 o1 5 (.mov (tm 0)),
 o1 6 (.nilCheck (tm 5)),
 o1 7 (.load none (tm 6)),
 o1 8 (.mov (tm 1)),
 o1 9 (.assertTo 74 (.pointer none) false (tm 8)),
 ⟨some 10, .buildSlice 74 [(.pointer none)] 1 [(0, 1, (tm 9))], none, [(some 7, .load none (tm 6), none), (some 6, .nilCheck (tm 5), none), (some 5, .mov (tm 0), none), (some 4, .mov (tm 0), none)], false⟩,
 ⟨some 11, .append 74 1 8 [(.pointer none)] false (tm 7) (tm 10), none, [(some 4, .mov (tm 0), none)], false⟩,
 o2 12 (.nilCheck (tm 4)),
 ⟨none, .store 1 (tm 12) (tm 11), none, [], true⟩])
def zvQ : AFunc := ⟨13, [], zvQ_c, none⟩
theorem zvQ_t0 : tableOf Try.prog 111 = some zvQ := by kernel_rfl
theorem zvQ_t : T0 111 = some zvQ := withKept_t rfl (withTrue_t rfl zvQ_t0)
theorem zvQ_runs {v0 v1 : Value} {h : Heap} {R : RP} {X : XP} (k : RunC Try.prog T0 zvQ_c ⟨[v0, v1, U, U, U, U, U, U, U, U, U, U, U], [], h, none⟩ (bodyQ Try.prog T0 [] R X)) :
 Runs Try.prog T0 (.fn 111) [v0, v1] h R X := Runs.fn zvQ_t rfl k
end Go.Proofs.Ytoadcfjkkoemdaa.A

namespace Go.Proofs.Ytoadcfjkkoemdaa.A
open Go Go.Vm
set_option maxRecDepth 10000
set_option linter.unusedVariables false
theorem XOp.makeSlice {P : Program} {ts : List Value} {h : Heap} {el : TypeId} {size bytes n : Nat} {zero : List Value} {x y : Operand} (hn : n < 1048576) (hb : bytes < 1048576) (hz : size ≠ 0) [e1 : Ev ts x (.int .i64 (n : Nat))] [e2 : Ev ts y (.int .i64 (n : Nat))] :
    XOp P ts h (.makeSlice el size bytes zero x y) (.slice (some ⟨h.n, 0, none⟩) n n) (h.push (.cells (repeatL zero n) 0)) := ⟨rfl, by
  simp only [xop, e1.eq, e2.eq]
  rw [if_pos ⟨by omega, by omega, by omega, hb, hz⟩]
  simp⟩
theorem repeat_bytes : ∀ n : Nat, repeatL [.int .u8 0] n = bcells (List.replicate n 0)
  | 0 => rfl
  | n + 1 => by
    rw [List.replicate_succ]
    show [Value.int .u8 0] ++ repeatL [.int .u8 0] n = _
    rw [repeat_bytes n]
    rfl
theorem mNew_ok {h : Heap} : Runs Try.prog T0 (.fn fn_zqQ) [.int .i64 1] h
    (fun r h' => r = .tuple ⟨[.pointer (some ⟨h.n + 1, 0, none⟩), .int .i64 0]⟩ ∧ h'.n = h.n + 2 ∧ h'.get (h.n + 1) = .cells [.int .i64 1, .int .i64 0, .int .i64 0, .slice none 0 0, .map (some h.n)] 0 ∧ h'.get h.n = .map [] 0 ∧ Fr (fun _ => False) h h') (fun _ _ => False) := by
  refine zqQ_runs ?_
  refine stp ?_
  refine ⟨rfl, rfl, HGet.new.eq, ?_, Fr.refl.push.push⟩
  rw [Heap.get_push, if_neg (by simp), Heap.get_push, if_pos rfl]
theorem rNew_ok {h : Heap} : Runs Try.prog T0 (.fn fn_zkQ) [.int .i64 1] h
    (fun r h' => r = .tuple ⟨[.pointer (some ⟨h.n, 0, none⟩), .int .i64 0]⟩ ∧ h'.n = h.n + 1 ∧ h'.get h.n = .cells [.int .i64 1, .int .i64 0, .int .i64 0, .slice none 0 0] 0 ∧ Fr (fun _ => False) h h') (fun _ _ => False) := by
  refine zkQ_runs ?_
  refine stp ?_
  exact ⟨rfl, rfl, HGet.new.eq, Fr.refl.push⟩
theorem none_ok {h : Heap} {p m : Nat} {a b c : Int} {u : Value} (hp : h.get p = .cells [.int .i64 a, .int .i64 b, .int .i64 c, u, .map (some m)] 0) : Runs Try.prog T0 (.fn fn_zpQ) [.pointer (some ⟨p, 0, none⟩)] h (fun r h' => r = .bool false ∧ h' = h) (fun _ _ => False) := by
  haveI : HGet h p _ := ⟨hp⟩
  refine zpQ_runs ?_
  refine stp ?_
  exact ⟨rfl, rfl⟩
theorem ends_ok {h : Heap} {x : Int} (h0 : 0 ≤ x) (h1 : x ≤ 16) : Runs Try.prog T0 (.fn fn_ztQ) [.int .i64 x] h (fun r h' => r = .bool true ∧ h' = h) (fun _ _ => False) := by
  refine ztQ_runs ?_
  refine stp ?_
  refine O.dec (fun e => ?_) (fun e => absurd h0 e)
  refine stp ?_
  exact ⟨by rw [decide_eq_true h1], rfl⟩
theorem due_ok {h : Heap} {x : Int} (h0 : 0 ≤ x) (h1 : x ≤ 1000000) : Runs Try.prog T0 (.fn fn_zsQ) [.int .i64 x] h (fun r h' => r = .bool true ∧ h' = h) (fun _ _ => False) := by
  refine zsQ_runs ?_
  refine stp ?_
  refine O.dec (fun e => ?_) (fun e => absurd h0 e)
  refine stp ?_
  exact ⟨by congr 1; exact decide_eq_true (by omega), rfl⟩
theorem within_ok {h : Heap} {x : Int} (h0 : 0 ≤ x) (h1 : x ≤ 1000000) : Runs Try.prog T0 (.fn fn_zlQ) [.int .i64 x] h (fun r h' => r = .bool true ∧ h' = h) (fun _ _ => False) := by
  refine zlQ_runs ?_
  refine stp ?_
  refine O.dec (fun e => ?_) (fun e => absurd h0 e)
  refine stp ?_
  exact ⟨by congr 1; exact decide_eq_true (by omega), rfl⟩
theorem Len64_ok {h : Heap} {n : Nat} (hn : n < 2) : Runs Try.prog T0 (.fn fn_zyQ) [.int .u64 (n : Nat)] h (fun r h' => (∃ k : Int, r = .int .i64 k) ∧ h' = h) (fun _ _ => False) := by
  have : n = 0 ∨ n = 1 := by omega
  rcases this with rfl | rfl
  all_goals
    refine zyQ_runs ?_
    refine stp ?_
  case' inl => refine O.how (XOp.mkIndexStr (k := 0) (by kernel_rfl) rfl (by simp)) ?_
  case' inr => refine O.how (XOp.mkIndexStr (k := 1) (by kernel_rfl) rfl (by simp)) ?_
  all_goals
    generalize (List.getD _ _ _ : UInt8) = z
    have hz := z.toNat_lt
    refine stp ?_
    exact ⟨⟨_, rfl⟩, rfl⟩
theorem Len_ok {h : Heap} {n : Nat} (hn : n < 2) : Runs Try.prog T0 (.fn fn_zwQ) [.int .u64 (n : Nat)] h (fun r h' => (∃ k : Int, r = .int .i64 k) ∧ h' = h) (fun _ _ => False) := by
  refine zwQ_runs ?_
  refine stp ?_
  refine O.call' (Len64_ok hn) (fun r h1 hr => ?_)
  obtain ⟨⟨k, rfl⟩, rfl⟩ := hr
  refine stp ?_
  exact ⟨⟨_, rfl⟩, rfl⟩
end Go.Proofs.Ytoadcfjkkoemdaa.A

namespace Go.Proofs.Ytoadcfjkkoemdaa.A
open Go Go.Vm
set_option maxRecDepth 10000
set_option linter.unusedVariables false
def pcells (l : List Nat) : List Value := l.map fun b => .pointer (some ⟨b, 0, none⟩)
theorem pcells_append (l m : List Nat) : pcells (l ++ m) = pcells l ++ pcells m := by simp [pcells]
theorem one_ptr {h : Heap} {b es : Nat} : newCells (h.push (.cells [.pointer (some ⟨b, 0, none⟩)] es)) 1 [.pointer none] false (.slice (some ⟨h.n, 0, none⟩) 1 1) = some (1, [.pointer (some ⟨b, 0, none⟩)]) :=
  (Rd.mk (size := 1) (n := 1) (cap := 1) (sp := none) (o := 0) (b := h.n) (c := [.pointer (some ⟨b, 0, none⟩)]) (by simp) (by rw [cellsAt_of (c := [.pointer (some ⟨b, 0, none⟩)]) (by rw [Heap.get_push, if_pos rfl]; rfl) (by simp)]; rfl)).new _
end Go.Proofs.Ytoadcfjkkoemdaa.A

namespace Go.Proofs.Ytoadcfjkkoemdaa.A
open Go Go.Vm
set_option maxRecDepth 10000
set_option linter.unusedVariables false
section
variable {P : Program} {ts : List Value} {h : Heap} {x y : Operand} {t t' ty : TypeId} {A : Bool} {l : List Value} {tl : List LK}
instance (priority := high) xnotT [e : Ev ts x (.bool true)] : XOp P ts h (.raw (so (.unOp .not t x) ty)) (.bool false) h := (XOp.notB (A := true) : XOp P ts h (.raw (so (.unOp .not t x) ty)) (.bool (!true)) h)
instance (priority := high) xnotF [e : Ev ts x (.bool false)] : XOp P ts h (.raw (so (.unOp .not t x) ty)) (.bool true) h := (XOp.notB (A := false) : XOp P ts h (.raw (so (.unOp .not t x) ty)) (.bool (!false)) h)
instance (priority := high) xneqF [i : IsBoolT P t] [e : Ev ts x (.bool A)] [e' : Ev ts y (.bool A)] : XOp P ts h (.bin .neq (so (.binOp .neq t x y t') ty) x y) (.bool false) h := by
  have := (XOp.neqB : XOp P ts h (.bin .neq (so (.binOp .neq t x y t') ty) x y) (.bool (!(A == A))) h)
  rw [beq_self_eq_true] at this
  exact this
instance (priority := high) xneqS [i : TLeaves P t tl] [e : Ev ts x (.agg ⟨l⟩)] [e' : Ev ts y (.agg ⟨l⟩)] [g : GrL l] [k : KL tl l] : XOp P ts h (.bin .neq (so (.binOp .neq t x y t') ty) x y) (.bool false) h := by
  have := (XOp.neqAgg : XOp P ts h (.bin .neq (so (.binOp .neq t x y t') ty) x y) (.bool (!same l l)) h)
  rw [same_self] at this
  exact this
theorem xneqI0 {p q : Int} {O : Oper} (hp : p = q) [e1 : Ev ts x (.int .i64 p)] [e2 : Ev ts y (.int .i64 q)] : XOp P ts h (.bin .neq O x y) (.bool false) h := by
  have := (XOp.neqI : XOp P ts h (.bin .neq O x y) (.bool (!decide (p = q))) h)
  rw [decide_eq_true hp] at this
  exact this
theorem xlss0 {p q : Int} {O : Oper} (hp : ¬ p < q) [e1 : Ev ts x (.int .i64 p)] [e2 : Ev ts y (.int .i64 q)] : XOp P ts h (.bin .lss O x y) (.bool false) h := by
  have := (XOp.lssI : XOp P ts h (.bin .lss O x y) (.bool (decide (p < q))) h)
  rw [decide_eq_false hp] at this
  exact this
theorem xgtr0 {p q : Int} {O : Oper} (hp : ¬ q < p) [e1 : Ev ts x (.int .i64 p)] [e2 : Ev ts y (.int .i64 q)] : XOp P ts h (.bin .gtr O x y) (.bool false) h := by
  have := (XOp.gtrI : XOp P ts h (.bin .gtr O x y) (.bool (decide (q < p))) h)
  rw [decide_eq_false hp] at this
  exact this
theorem xeql1 {p q : Int} {O : Oper} (hp : p = q) [e1 : Ev ts x (.int .i64 p)] [e2 : Ev ts y (.int .i64 q)] : XOp P ts h (.bin .eql O x y) (.bool true) h := by
  have := (XOp.eqlI : XOp P ts h (.bin .eql O x y) (.bool (decide (p = q))) h)
  rw [decide_eq_true hp] at this
  exact this
end
end Go.Proofs.Ytoadcfjkkoemdaa.A

namespace Go.Proofs.Ytoadcfjkkoemdaa.A
open Go Go.Vm
set_option maxRecDepth 10000
set_option linter.unusedVariables false
theorem Clone_ok {h : Heap} {v : Value} {l : List UInt8} (hr : Rd h 1 v (bcells l) l.length) (hs : l.length < 1048576) :
    Runs Try.prog T0 (.fn fn_zabQ) [v] h
      (fun r h' => Own h' 1 r (bcells l) l.length ∧ Fr (fun _ => False) h h' ∧ ∀ i, ownedBy r i → h.n ≤ i) (fun _ _ => False) := by
  have hnew := hr.new
  obtain ⟨a, cap, rfl, hlen, hc⟩ := hr
  refine zabQ_runs ?_
  cases a with
  | none =>
    have hl : l = [] := by
      cases l with
      | nil => rfl
      | cons b l => obtain ⟨_, _, _, h1, _⟩ := hc (by simp); cases h1
    subst hl
    refine stp ?_
    exact ⟨.none, Fr.refl, fun i hi => hi.elim⟩
  | some a =>
    refine stp ?_
    have hz : Own (h.push (.cells [] 0)) 1 (.slice (some ⟨h.n, 0, none⟩) 0 0) [] 0 := .lit (by simp) (by rw [Heap.get_push, if_pos rfl])
    have hnew' := ((Rd.keep (S := fun _ => False) ⟨some a, cap, rfl, hlen, hc⟩ (Fr.refl.push (o := .cells [] 0)) fun _ _ => id).new (size := 1)) [.int .u8 0]
    refine O.append hz hnew' hlen (bcells_one l) (by omega) (by omega) (by omega) (fun v' h' h1 h2 h3 => ?_)
    refine stp ?_
    rw [Nat.zero_add, List.nil_append] at h1
    refine ⟨h1, (Fr.refl.push (o := .cells [] 0)).trans (S := fun _ => False) h2 (fun i hi ho => ?_), fun i hi => ?_⟩
    · have : h.n = i := ho
      omega
    · rcases h3 i hi with h4 | h4
      · have : h.n = i := h4
        omega
      · simp at h4; omega
end Go.Proofs.Ytoadcfjkkoemdaa.A

namespace Go.Proofs.Ytoadcfjkkoemdaa.A
open Go Go.Vm
set_option maxRecDepth 10000
set_option linter.unusedVariables false
abbrev lcells (a b c d : Int) (v : Value) : List Value := [.int .i64 a, .int .i64 b, .int .i64 c, .int .i64 d, v]
abbrev mcells (a b c : Int) (u : Value) (m : Nat) : List Value := [.int .i64 a, .int .i64 b, .int .i64 c, u, .map (some m)]
section
variable {P : Program} {T : Table} {ts : List Value} {ds : List Deferred} {h : Heap} {rd : Option Nat} {dst size bytes n m el : Nat} {zero : List Value} {zeros : Bool} {x y : Operand} {v w : Value} {c d : List Value} {chk : List (Option Nat × AOp × Option (Nat × Bool))} {pan : Bool} {rest : List AOper} {Q : QP} {F : Value → List Value}
theorem D.appendC [e1 : Ev ts x v] [e2 : Ev ts y w] [s : LSetF ts dst F] (ho : Own h size v c n) (hx : newCells h size zero zeros w = some (m, d)) (hd : d.length = m * size) (h1 : d.all Value.oneCell' = true) (hs : size ≠ 0) (hb : bytes < 1048576) (hsm : n + m < 1048576)
    (hk : ∀ v' h', Own h' size v' (c ++ d) (n + m) → Fr (ownedBy v) h h' → (∀ i, ownedBy v' i → ownedBy v i ∨ h.n ≤ i) → chk.all (stable P (F v') h') = true ∧ RunD P T rest ⟨F v', ds, h', rd⟩ Q) : RunD P T (⟨some dst, .append el size bytes zero zeros x y, none, chk, pan⟩ :: rest) ⟨ts, ds, h, rd⟩ Q := by
  obtain ⟨v', h', hx, h2, h3, h4⟩ := append_own hs hb hsm ho hx hd h1
  exact RunD.cons rfl (RunX.ok (h' := h') (v := v') (fun call => by rw [xo_plain rfl]; simp only [xop, e1.eq, e2.eq, hx]) (by
    show chk.all (stable P (lset ts dst v') h') = true ∧ RunD P T rest ⟨lset ts dst v', ds, h', rd⟩ Q
    rw [s.eq]; exact hk v' h' h2 h3 h4))
end
theorem up0_ok {h : Heap} {v : Value} : Runs Try.prog T0 (.fn fn_zbQ) [v, .int .i64 0] h (fun r h' => h' = h) (fun _ _ => False) := by
  refine zbQ_runs ?_
  refine stp ?_
  refine loop1 zbQ_l0_M 1 (fun k v1 hx => v1 = .int .i64 0 ∧ hx = h) ?_ 0 ⟨rfl, rfl⟩
  rintro m v1 h' x4 x5 x6 x7 x8 x9 x10 x11 x12 x13 x14 x15 x16 x17 x18 x19 x20 x21 x22 ⟨rfl, rfl⟩
  refine stp ?_
  refine O.how (XOp.quoI (by decide)) ?_
  have e1 : IntKind.i64.wrap ((0 - 1 : Int).tdiv 2) = 0 := by decide
  rw [e1]
  haveI q : ∀ {ts : List Value} {h : Heap} {O : Oper} {x y : Operand} [Ev ts x (.int .i64 0)] [Ev ts y (.int .i64 0)], XOp Try.prog ts h (.bin .eql O x y) (.bool true) h := xeql1 rfl
  refine stp ?_
  rfl
set_option maxHeartbeats 4000000 in
theorem hpush_ok {h : Heap} {p m b : Nat} {x y z : Int} (hp : h.get p = .cells (mcells x y z (.slice none 0 0) m) 0) (hpl : p < h.n) :
    Runs Try.prog T0 (.fn fn_zaQ) [.iface 87 (.pointer (some ⟨p, 3, none⟩)), .iface 74 (.pointer (some ⟨b, 0, none⟩))] h
      (fun r h' => ∃ u, h'.get p = .cells (mcells x y z u m) 0 ∧ Own h' 1 u (pcells [b]) 1 ∧ (∀ i, ownedBy u i → h.n ≤ i) ∧ Fr (fun i => i = p) h h') (fun _ _ => False) := by
  haveI : HGet h p _ := ⟨hp⟩
  haveI : BLt p h := ⟨hpl⟩
  refine zaQ_runs ?_
  refine stp ?_
  refine O.invoke (methodOf_ptr (f := fn_zvQ) (by kernel_rfl) (by kernel_rfl : Try.prog.underlying 87 = some (.pointer 62))) (zvQ_runs (R := fun r h' => ∃ u, h'.get p = .cells (mcells x y z u m) 0 ∧ Own h' 1 u (pcells [b]) 1 ∧ (∀ i, ownedBy u i → h.n ≤ i) ∧ Fr (fun i => i = p) h h') (X := fun _ _ => False) ?_) (fun r h1 hr => ?_)
  · refine stp ?_
    refine D.oneS ?_
    have F0 : Fr (fun i => i = p) h (h.push (.cells [.pointer (some ⟨b, 0, none⟩)] 0)) := Fr.refl.push
    refine D.appendC (Own.none) one_ptr rfl rfl (by omega) (by omega) (by omega) (fun v' h' h1 h2 h3 => ⟨StabL.ok, ?_⟩)
    have n2 := h2.n
    simp only [Heap.n_push] at n2 h3
    have g2 : h'.get p = .cells (mcells x y z (.slice none 0 0) m) 0 := by rw [h2.get _ (by simp; omega) id, Heap.get_push, if_neg (by omega)]; exact hp
    haveI : HGet h' p _ := ⟨g2⟩
    obtain ⟨a, c, rfl, _, _⟩ := id h1.rd
    refine stp ?_
    have hnew : ∀ i, ownedBy (.slice a (0 + 1) c) i → h.n < i := fun i hi => by
      rcases h3 i hi with h4 | h4
      · exact h4.elim
      · omega
    refine ⟨_, by rw [Heap.get_set, if_pos rfl], h1.keep (Fr.refl.set (S := fun i => i = p) fun _ => rfl) fun i hi e => by have := hnew i hi; omega, fun i hi => by have := hnew i hi; omega, ((F0.trans' (h2.mono fun _ _ e => e.elim)).set fun _ => rfl)⟩
  · obtain ⟨u, g1, ho, hn, f1⟩ := hr
    haveI : HGet h1 p _ := ⟨g1⟩
    obtain ⟨a, c, rfl, _, _⟩ := id ho.rd
    refine stp ?_
    refine O.invoke (methodOf_val (f := fn_zuQ) (el := 62) (by kernel_rfl) (by kernel_rfl) (by kernel_rfl) (Cell.eq (h := h1) (b := p) (off := 3))) (zuQ_runs (R := fun r h' => r = .int .i64 1 ∧ h' = h1) (X := fun _ _ => False) (by refine stp ?_; exact ⟨rfl, rfl⟩)) (fun r h2 hr => ?_)
    obtain ⟨rfl, rfl⟩ := hr
    refine stp ?_
    refine O.call' up0_ok (fun r h3 hr => ?_)
    subst hr
    refine stp ?_
    exact ⟨_, g1, ho, hn, f1⟩
end Go.Proofs.Ytoadcfjkkoemdaa.A

namespace Go.Proofs.Ytoadcfjkkoemdaa.A
open Go Go.Vm
set_option maxRecDepth 10000
set_option linter.unusedVariables false
end Go.Proofs.Ytoadcfjkkoemdaa.A

namespace Go.Proofs.Ytoadcfjkkoemdaa.A
open Go Go.Vm
set_option maxRecDepth 10000
set_option linter.unusedVariables false
structure New0 (h : Heap) (p m : Nat) : Prop where
  gp : h.get p = .cells (mcells 1 0 0 (.slice none 0 0) m) 0
  gm : h.get m = .map [] 0
  pl : p < h.n
  ml : m < h.n
  ne : p ≠ m
structure One1L (h : Heap) (p m b : Nat) (f t d : Int) (u w : Value) (bs : List UInt8) : Prop where
  gp : h.get p = .cells (mcells 1 1 0 u m) 0
  gb : h.get b = .cells (lcells 1 f t d w) 0
  pl : p < h.n
  bl : b < h.n
  ou : Own h 1 u (pcells [b]) 1
  ow : Own h 1 w (bcells bs) bs.length
  dw : ∀ i, ownedBy w i → i ≠ p ∧ i ≠ b
  du : ∀ i, ownedBy u i → i ≠ p ∧ i ≠ b
set_option maxHeartbeats 8000000 in
theorem lay_ok {h : Heap} {p m : Nat} {f t d : Int} {v : Value} {bs : List UInt8} (hs : New0 h p m) (hv : Rd h 1 v (bcells bs) bs.length) (hl : bs.length < 1048576) (hvp : ∀ i, blockOf v i → i ≠ p ∧ i ≠ m) :
    Runs Try.prog T0 (.fn fn_zoQ) [.pointer (some ⟨p, 0, none⟩), .agg ⟨lcells 0 f t d v⟩] h
      (fun r h' => r = .int .i64 1 ∧ (∃ b u w, One1L h' p m b f t d u w bs ∧ h.n ≤ b ∧ (∀ i, ownedBy u i → h.n ≤ i) ∧ ∀ i, ownedBy w i → h.n ≤ i) ∧ Fr (fun i => i = p ∨ i = m) h h') (fun _ _ => False) := by
  obtain ⟨a, cap, rfl, hlen, hc⟩ := id hv
  have hpl := hs.pl
  have hml := hs.ml
  have hne := hs.ne
  haveI : HGet h p _ := ⟨hs.gp⟩
  haveI : BLt p h := ⟨hs.pl⟩
  refine zoQ_runs ?_
  refine stp ?_
  generalize hv0 : Value.slice a bs.length cap = v at *
  haveI : CellsOf v [v] := by rw [← hv0]; infer_instance
  haveI : One1 v := by rw [← hv0]; infer_instance
  have F0 : Fr (fun i => i = p ∨ i = m) h ((h.push (.cells (lcells 0 f t d v) 0)).set p (.cells (mcells 1 1 0 (.slice none 0 0) m) 0)) := Fr.refl.push.set fun _ => .inl rfl
  have g0 : ((h.push (.cells (lcells 0 f t d v) 0)).set p (.cells (mcells 1 1 0 (.slice none 0 0) m) 0)).get h.n = .cells (lcells 0 f t d v) 0 := by rw [Heap.get_set, if_neg (by omega), Heap.get_push, if_pos rfl]
  have gp0 : ((h.push (.cells (lcells 0 f t d v) 0)).set p (.cells (mcells 1 1 0 (.slice none 0 0) m) 0)).get p = .cells (mcells 1 1 0 (.slice none 0 0) m) 0 := by rw [Heap.get_set, if_pos rfl]
  have gm0 : ((h.push (.cells (lcells 0 f t d v) 0)).set p (.cells (mcells 1 1 0 (.slice none 0 0) m) 0)).get m = .map [] 0 := by rw [Heap.get_set, if_neg (by omega), Heap.get_push, if_neg (by omega)]; exact hs.gm
  have hrd0 : Rd ((h.push (.cells (lcells 0 f t d v) 0)).set p (.cells (mcells 1 1 0 (.slice none 0 0) m) 0)) 1 v (bcells bs) bs.length := hv.keep F0 fun i hi e => by
    have := hvp i hi
    rcases e with e | e
    · exact this.1 e
    · exact this.2 e
  have n0 : ((h.push (.cells (lcells 0 f t d v) 0)).set p (.cells (mcells 1 1 0 (.slice none 0 0) m) 0)).n = h.n + 1 := rfl
  have e01 : (0 : Int) + 1 = 1 := rfl
  rw [e01]
  generalize (h.push (.cells (lcells 0 f t d v) 0)).set p (.cells (mcells 1 1 0 (.slice none 0 0) m) 0) = h0 at *
  haveI : HGet h0 p _ := ⟨gp0⟩
  haveI : HGet h0 h.n _ := ⟨g0⟩
  haveI : BLt h.n h0 := ⟨by omega⟩
  haveI : BLt p h0 := ⟨by omega⟩
  refine D.callX (Clone_ok hrd0 hl) (fun r h1 hr => ?_) (fun r h1 hr => ?_) (fun _ _ hx => hx.elim)
  · obtain ⟨_, hf, _⟩ := hr
    haveI : HGet h1 p _ := hf.keep ⟨gp0⟩ (by omega) id
    exact StabL.ok
  obtain ⟨ow, f1, nw⟩ := hr
  have g1 := (f1.keep ⟨g0⟩ (by omega) id : HGet h1 h.n _)
  have gp1 := (f1.keep ⟨gp0⟩ (by omega) id : HGet h1 p _)
  have gm1 := (f1.keep ⟨gm0⟩ (by omega) id : HGet h1 m _)
  haveI := g1
  haveI := gp1
  have n1 := f1.n
  haveI : BLt h.n h1 := ⟨by omega⟩
  obtain ⟨a1, c1, rfl, _, _⟩ := id ow.rd
  haveI : BNe p h.n := ⟨by omega⟩
  haveI : BNe h.n p := ⟨by omega⟩
  haveI : BNe m h.n := ⟨by omega⟩
  refine stp ?_
  refine D.one0 (k := XOp.mapAdd (l := []) (c := 0) (r := m) (by simp)) rfl ?_
  refine stp ?_
  have F2 : ∀ {A B : AObj}, Fr (fun i => i = h.n ∨ i = m) h1 ((h1.set h.n A).set m B) := fun {A B} => (Fr.refl.set fun _ => .inl rfl).set fun _ => .inr rfl
  have ow2 : ∀ {A B : AObj}, Own ((h1.set h.n A).set m B) 1 (.slice a1 bs.length c1) (bcells bs) bs.length := fun {A B} => ow.keep F2 fun i hi e => by have := nw i hi; omega
  have gp2 : ∀ {A B : AObj}, ((h1.set h.n A).set m B).get p = .cells (mcells 1 1 0 (.slice none 0 0) m) 0 := fun {A B} => by rw [F2.get _ (by omega) (by omega)]; exact gp1.eq
  have g2 : ∀ {A B : AObj}, ((h1.set h.n A).set m B).get h.n = A := fun {A B} => by rw [Heap.get_set, if_neg (by omega), Heap.get_set, if_pos rfl]
  have n2 : ∀ {A B : AObj}, ((h1.set h.n A).set m B).n = h1.n := fun {A B} => rfl
  refine O.call' (hpush_ok gp2 (by rw [n2]; omega)) (fun r h3 hr => ?_)
  obtain ⟨u, g3, ou, nu, f3⟩ := hr
  rw [n2] at nu
  have g4 := f3.get h.n (by rw [n2]; omega) (by omega)
  rw [g2] at g4
  haveI : HGet h3 h.n _ := ⟨g4⟩
  have q3 := f3.n
  rw [n2] at q3
  refine stp ?_
  refine ⟨rfl, ⟨h.n, u, _, ⟨g3, g4, by omega, by omega, ou, ow2.keep f3 fun i hi e => by have := nw i hi; omega, fun i hi => by have := nw i hi; omega, fun i hi => by have := nu i hi; omega⟩, Nat.le_refl _, fun i hi => by have := nu i hi; omega, fun i hi => by have := nw i hi; omega⟩, ?_⟩
  exact ((F0.trans' (f1.mono fun _ _ e => e.elim)).trans F2 fun i hi e => by
    rcases e with e | e
    · omega
    · exact .inr e).trans' (f3.mono fun _ _ e => .inl e)
set_option maxHeartbeats 8000000 in
theorem Post_ok {h : Heap} {p m : Nat} {v : Value} {bs : List UInt8} (hs : New0 h p m) (hv : Rd h 1 v (bcells bs) bs.length) (hl : bs.length < 1048576) (hvp : ∀ i, blockOf v i → i ≠ p ∧ i ≠ m) :
    Runs Try.prog T0 (.fn fn_znQ) [.pointer (some ⟨p, 0, none⟩), .int .i64 0, .int .i64 1, .int .i64 2, v] h
      (fun r h' => Fr (fun i => i = p ∨ i = m) h h' ∧ (65536 < bs.length ∧ r = .tuple ⟨[.int .i64 0, .int .i64 4]⟩ ∧ h' = h ∨ bs.length ≤ 65536 ∧ r = .tuple ⟨[.int .i64 1, .int .i64 0]⟩ ∧ ∃ b u w, One1L h' p m b 0 1 2 u w bs ∧ h.n ≤ b ∧ (∀ i, ownedBy u i → h.n ≤ i) ∧ ∀ i, ownedBy w i → h.n ≤ i)) (fun _ _ => False) := by
  obtain ⟨a, cap, rfl, hlen, hc⟩ := id hv
  haveI : HGet h p _ := ⟨hs.gp⟩
  refine znQ_runs ?_
  refine stp ?_
  refine O.call' (none_ok hs.gp) (fun r h hr => ?_)
  obtain ⟨rfl, rfl⟩ := hr
  refine stp ?_
  refine O.call' (ends_ok (x := 0) (by omega) (by omega)) (fun r h hr => ?_)
  obtain ⟨rfl, rfl⟩ := hr
  refine stp ?_
  refine O.callT (ends_ok (x := 1) (by omega) (by omega)) (fun r h hr => ?_)
  obtain ⟨rfl, rfl⟩ := hr
  refine stp ?_
  refine O.callT (due_ok (x := 2) (by omega) (by omega)) (fun r h hr => ?_)
  obtain ⟨rfl, rfl⟩ := hr
  refine stp ?_
  refine C.if (fun h1 => ?_) (fun h1 => ?_)
  · refine stp ?_
    exact ⟨Fr.refl, .inl ⟨by omega, rfl, rfl⟩⟩
  · refine stp ?_
    refine O.call' (lay_ok hs hv hl hvp) (fun r h2 hr => ?_)
    obtain ⟨rfl, hone, f2⟩ := hr
    refine stp ?_
    exact ⟨f2, .inr ⟨by omega, rfl, hone⟩⟩
end Go.Proofs.Ytoadcfjkkoemdaa.A

namespace Go.Proofs.Ytoadcfjkkoemdaa.A
open Go Go.Vm
set_option maxRecDepth 10000
set_option linter.unusedVariables false
theorem pcell_at {h : Heap} {b o n k : Nat} {l : List Nat} (hc : cellsAt h b o (n * 1) = some (pcells l)) (hn : l.length = n) (hk : k < n) : Cell h b (o + k) (.pointer (some ⟨l.getD k 0, 0, none⟩)) := ⟨by
  have := cellsAt_sub (k := k) (m := 1) hc (by omega)
  rw [this]
  subst hn
  unfold pcells
  have g : l.getD k 0 = l[k] := by simp [List.getD, hk]
  rw [← List.map_drop, List.drop_eq_getElem_cons hk, List.map_cons, g]
  rfl⟩
theorem Values_ok {h : Heap} {u : Value} [CellsOf u [u]] : Runs Try.prog T0 (.fn fn_zebQ) [u] h (fun r h' => r = .func (.func fn_zfbQ) ⟨[]⟩ ⟨[.pointer (some ⟨h.n, 0, none⟩)]⟩ ∧ h'.n = h.n + 1 ∧ h'.get h.n = .cells [u] 0 ∧ Fr (fun _ => False) h h') (fun _ _ => False) := by
  refine zebQ_runs ?_
  refine stp ?_
  exact ⟨rfl, rfl, HGet.new.eq, Fr.refl.push⟩
set_option maxHeartbeats 4000000 in
theorem vals64_ok {h : Heap} {bx y : Nat} {u : Value} {L : List Nat} {I : Nat → Heap → Prop} (hbx : h.get bx = .cells [u] 0) (hrd : ∀ k hx, I k hx → Rd hx 1 u (pcells L) L.length) (hl : L.length < 100000) (h0 : I 0 h)
    (hr : ∀ k hx, k < L.length → I k hx → Runs Try.prog T0 (.yield y) [.pointer (some ⟨L.getD k 0, 0, none⟩)] hx (fun r h' => r = .bool true ∧ I (k + 1) h') (fun _ _ => False)) :
    Runs Try.prog T0 (.fn fn_zfbQ) [.func (.yield y) ⟨[]⟩ ⟨[]⟩, .pointer (some ⟨bx, 0, none⟩)] h (fun _ h' => I L.length h') (fun _ _ => False) := by
  haveI : HGet h bx _ := ⟨hbx⟩
  obtain ⟨a, cap, rfl, _, _⟩ := id (hrd 0 h h0)
  refine zfbQ_runs ?_
  refine stp ?_
  refine loop1 zfbQ_l0_M 7 (fun q v7 hx => ∃ k : Nat, k ≤ L.length ∧ q = L.length - k ∧ v7 = .int .i64 k ∧ I k hx) ?_ L.length ⟨0, by omega, rfl, rfl, h0⟩
  rintro m v7 h' x4 x8 x9 x10 x11 x12 x13 x14 x15 ⟨k, hk, rfl, rfl, hi⟩
  refine stp ?_
  refine C.if (fun hlt => ?_) (fun hge => ?_)
  · have hlt : k < L.length := by omega
    obtain ⟨_, _, e1, _, hcx⟩ := id (hrd k _ hi)
    obtain ⟨b, o, sp, e2, hb, hcc⟩ := hcx (by omega)
    injection e1 with e1 _ _
    rw [e2] at e1
    subst e1
    haveI := pcell_at hcc rfl hlt
    refine stp ?_
    refine O.yield (hr k _ hlt hi) (fun r h3 hr => ?_)
    obtain ⟨rfl, hi3⟩ := hr
    refine stp ?_
    exact loop1a 7 (L.length - (k + 1)) (by omega) ⟨k + 1, by omega, rfl, rfl, hi3⟩
  · obtain rfl : k = L.length := by omega
    refine stp ?_
    exact hi
set_option maxHeartbeats 4000000 in
theorem aq_round {h : Heap} {lp p2 b : Nat} {v : Value} {L : List Nat} {f0 f1 f3 f4 f5 f6 f7 f8 f9 f10 f11 f12 : Value} (hlp : h.get lp = .loop .ready none [f0, f1, .pointer (some ⟨p2, 0, none⟩), f3, f4, f5, f6, f7, f8, f9, f10, f11, f12] [7] zzQ_ra0 zzQ_rb0)
    (h2 : h.get p2 = .cells [v] 0) (ho : Own h 1 v (pcells L) L.length) (hL : L.length < 100000) (hv : ∀ i, ownedBy v i → i ≠ lp ∧ i ≠ p2) (ll : lp < h.n) (m2 : p2 < h.n) (n2 : p2 ≠ lp) :
    Runs Try.prog T0 (.yield lp) [.pointer (some ⟨b, 0, none⟩)] h (fun r g => r = .bool true ∧ g.get lp = .loop .ready none [f0, f1, .pointer (some ⟨p2, 0, none⟩), f3, f4, f5, f6, f7, f8, f9, f10, f11, f12] [7] zzQ_ra0 zzQ_rb0 ∧
      (∃ v', g.get p2 = .cells [v'] 0 ∧ Own g 1 v' (pcells (L ++ [b])) (L ++ [b]).length ∧ (∀ i, ownedBy v' i → ownedBy v i ∨ h.n ≤ i)) ∧ Fr (fun i => i = lp ∨ i = p2 ∨ ownedBy v i) h g) (fun _ _ => False) := by
  haveI : HGet h lp _ := ⟨hlp⟩
  haveI : HGet h p2 _ := ⟨h2⟩
  haveI : BLt lp h := ⟨ll⟩
  haveI : BLt p2 h := ⟨m2⟩
  haveI : BNe p2 lp := ⟨n2⟩
  haveI : BNe lp p2 := ⟨fun e => n2 e.symm⟩
  refine Runs.round hlp put_one rfl zzQ_na0 zzQ_nb0 zzQ_ca0 zzQ_cb0 ?_
  refine stp ?_
  refine A.go ?_
  refine stp ?_
  have hL1 : (L ++ [b]).length = L.length + 1 := by simp
  refine O.append ((ho.keep (Fr.refl.set (S := fun i => i = lp) fun _ => rfl) fun b hb e => (hv b hb).1 e).keep (S := fun _ => False) Fr.refl.push fun _ _ => id) one_ptr rfl rfl (by omega) (by omega) (by omega) (fun v6 h6 ho6 hf6 hn6 => ?_)
  have q6 := hf6.n
  simp only [Heap.n_set, Heap.n_push] at q6 hn6
  haveI := hf6.keep (b := lp) inferInstance (by simp; omega) (fun e => (hv lp e).1 rfl)
  haveI := hf6.keep (b := p2) (o := .cells [v] 0) inferInstance (by simp; omega) (fun e => (hv p2 e).2 rfl)
  haveI : BLt lp h6 := ⟨by omega⟩
  haveI : BLt p2 h6 := ⟨by omega⟩
  have F6 : Fr (fun i => i = lp ∨ ownedBy v i) h h6 := ((Fr.refl.set (S := fun i => i = lp ∨ ownedBy v i) fun _ => .inl rfl).push).trans' (hf6.mono fun _ _ e => .inr e)
  obtain ⟨a6, c6, rfl, _, _⟩ := id ho6.rd
  refine stp ?_
  refine A.on ?_
  have fS : ∀ {A B : AObj}, Fr (fun i => i = p2 ∨ i = lp) h6 ((h6.set p2 A).set lp B) := fun {A B} => (Fr.refl.set fun _ => .inl rfl).set fun _ => .inr rfl
  refine ⟨rfl, by rw [Heap.get_set, if_pos rfl], ⟨_, by rw [Heap.get_set, if_neg n2, Heap.get_set, if_pos rfl], ?_, fun i hi => ?_⟩, (F6.mono fun _ _ e => e.elim .inl fun e => .inr (.inr e)).trans' (fS.mono fun _ _ e => e.elim (fun e => .inr (.inl e)) .inl)⟩
  · rw [pcells_append, hL1]
    exact ho6.keep fS fun b hb e => by
      rcases hn6 b hb with h7 | h7
      · have := hv b h7; omega
      · omega
  · rcases hn6 i hi with h7 | h7
    · exact .inl h7
    · exact .inr (by omega)
noncomputable abbrev qrec (bx p2 : Nat) : AObj := .loop .ready none [.slice none 0 0, .func (.func fn_zfbQ) ⟨[]⟩ ⟨[.pointer (some ⟨bx, 0, none⟩)]⟩, .pointer (some ⟨p2, 0, none⟩), undef, .slice none 0 0, undef, .func (.func fn_zfbQ) ⟨[]⟩ ⟨[.pointer (some ⟨bx, 0, none⟩)]⟩, undef, undef, undef, undef, undef, undef] [7] zzQ_ra0 zzQ_rb0
set_option maxHeartbeats 8000000 in
theorem AppendSeq_ok {h : Heap} {bx : Nat} {u : Value} {L : List Nat} (hbx : h.get bx = .cells [u] 0) (hb : bx < h.n) (hu : Rd h 1 u (pcells L) L.length) (hlen : L.length < 100000) :
    Runs Try.prog T0 (.fn fn_zzQ) [.slice none 0 0, .func (.func fn_zfbQ) ⟨[]⟩ ⟨[.pointer (some ⟨bx, 0, none⟩)]⟩] h
      (fun r h' => Own h' 1 r (pcells L) L.length ∧ (∀ i, ownedBy r i → h.n ≤ i) ∧ Fr (fun _ => False) h h') (fun _ _ => False) := by
  refine zzQ_runs ?_
  refine stp ?_
  have F0 : Fr (fun _ => False) h (h.push (.cells [.slice none 0 0] 0)) := Fr.refl.push
  have n0 : (h.push (.cells [.slice none 0 0] 0)).n = h.n + 1 := rfl
  have g2 : (h.push (.cells [.slice none 0 0] 0)).get h.n = .cells [.slice none 0 0] 0 := by rw [Heap.get_push, if_pos rfl]
  generalize h.push (.cells [.slice none 0 0] 0) = ha at *
  have FL : Fr (fun _ => False) ha ((ha.push (.defs false)).push (qrec bx h.n)) := Fr.refl.push.push
  have F1 := F0.trans' FL
  have nl : ((ha.push (.defs false)).push (qrec bx h.n)).n = ha.n + 2 := rfl
  have hd : (ha.push (.defs false)).n = ha.n + 1 := rfl
  have gq : ((ha.push (.defs false)).push (qrec bx h.n)).get (ha.n + 1) = qrec bx h.n := HGet.new.eq
  have FQ : Fr (fun i => i = ha.n + 1 ∨ i = h.n) (ha.push (.defs false)) ((ha.push (.defs false)).push (qrec bx h.n)) := Fr.refl.push
  have tk : ∀ k, k < L.length → L.take (k + 1) = L.take k ++ [L.getD k 0] := fun k hk => by
    have g : L.getD k 0 = L[k] := by simp [List.getD, hk]
    rw [List.take_succ_eq_append_getElem hk, g]
  refine range_on (J := fun hx => (∃ (v : Value), hx.get h.n = .cells [v] 0 ∧ Own hx 1 v (pcells L) L.length ∧ ∀ i, ownedBy v i → ha.n + 1 < i) ∧ Fr (fun i => i = ha.n + 1 ∨ i = h.n) (ha.push (.defs false)) hx) ?_ (fun hx hJ => ?_)
  · show Runs _ _ _ _ ((ha.push (.defs false)).push (qrec bx h.n)) _ _
    generalize (ha.push (.defs false)).push (qrec bx h.n) = hl at *
    refine Runs.mono (vals64_ok (u := u) (L := L) (I := fun k hx => hx.get (ha.n + 1) = qrec bx h.n ∧ (∃ v, hx.get h.n = .cells [v] 0 ∧ Own hx 1 v (pcells (L.take k)) (L.take k).length ∧ ∀ i, ownedBy v i → ha.n + 1 < i) ∧ ha.n + 1 < hx.n ∧ Fr (fun i => i = ha.n + 1 ∨ i = h.n) (ha.push (.defs false)) hx) (by rw [F1.get _ hb id]; exact hbx) ?_ hlen ?_ ?_) (fun _ h' hh => ?_) (fun _ _ h => h)
    · rintro k hx ⟨i1, ⟨v, i2, i3, i4⟩, i5, i6⟩
      have FD : Fr (fun i => i = ha.n + 1 ∨ i = h.n) ha hx := Fr.trans' (Fr.refl.push (o := .defs false)) i6
      have FX : Fr (fun _ => False) h hx := F0.trans FD fun i hi e => by omega
      exact hu.keep FX fun _ _ => id
    · refine ⟨gq, ⟨_, ?_, .none, fun i hi => hi.elim⟩, by omega, FQ⟩
      rw [FL.get _ (by omega) id]
      exact g2
    · rintro k hx hk ⟨i1, ⟨v, i2, i3, i4⟩, i5, i6⟩
      have i7 := i6.n
      refine Runs.mono (aq_round (b := L.getD k 0) i1 i2 i3 (by rw [List.length_take]; omega) (fun i hi => ?_) i5 (by omega) (by omega)) (fun r h' hh => ?_) (fun _ _ h => h)
      · have := i4 i hi
        omega
      · obtain ⟨rfl, j1, ⟨v', j2, j3, j4⟩, j5⟩ := hh
        have j6 : Fr (fun i => i = ha.n + 1 ∨ i = h.n) (ha.push (.defs false)) h' := i6.trans j5 fun i hi e => by
          rcases e with e | e | e
          · exact .inl e
          · exact .inr e
          · have := i4 i e
            omega
        refine ⟨rfl, j1, ⟨v', j2, by rw [tk k hk]; exact j3, fun i hi => ?_⟩, j5.lt i5, j6⟩
        rcases j4 i hi with h7 | h7
        · exact i4 i h7
        · omega
    · obtain ⟨i1, ⟨v, i2, i3, i4⟩, i5, i6⟩ := hh
      rw [List.take_length] at i3
      exact ⟨i1, ⟨v, i2, i3, i4⟩, i6⟩
  · obtain ⟨⟨v, q4, ho, hnew⟩, hf⟩ := hJ
    have gdf : hx.get ha.n = .defs false := by rw [hf.get _ (by omega) (by omega)]; exact HGet.new.eq
    have FD : Fr (fun i => i = ha.n + 1 ∨ i = h.n) ha hx := Fr.trans' (Fr.refl.push (o := .defs false)) hf
    have hfx : Fr (fun _ => False) h hx := F0.trans FD fun i hi e => by omega
    have hxn := hf.n
    haveI : HGet hx h.n _ := ⟨q4⟩
    haveI : HGet hx ha.n _ := ⟨gdf⟩
    haveI : BLt h.n hx := ⟨by omega⟩
    haveI : BNe h.n (ha.n + 1) := ⟨by omega⟩
    haveI : BNe ha.n (ha.n + 1) := ⟨by omega⟩
    haveI : BNe ha.n h.n := ⟨by omega⟩
    haveI : BNe h.n ha.n := ⟨by omega⟩
    obtain ⟨a3, c3, rfl, _, _⟩ := id ho.rd
    refine stp ?_
    refine B.retC ?_
    have fS : ∀ {A B C : AObj}, Fr (fun i => i = ha.n + 1 ∨ i = ha.n) hx (((hx.set (ha.n + 1) A).set (ha.n + 1) B).set ha.n C) := fun {A B C} => ((Fr.refl.set fun _ => .inl rfl).set fun _ => .inl rfl).set fun _ => .inr rfl
    exact ⟨ho.keep fS fun b hb e => by have := hnew b hb; omega, fun i hi => by have := hnew i hi; omega, hfx.trans fS fun i hi e => by omega⟩
theorem insert_ok {h : Heap} {v : Value} {n : Nat} {f : Value} (hn : n < 2) : Runs Try.prog T0 (.fn fn_zgbQ) [v, .int .i64 0, .int .i64 (n : Nat), f] h (fun r h' => h' = h) (fun _ _ => False) := by
  refine zgbQ_runs ?_
  refine stp ?_
  refine loop1 zgbQ_l1_M 8 (fun q v8 hx => v8 = .int .i64 (0 + 1) ∧ hx = h) ?_ 0 ⟨rfl, rfl⟩
  rintro m v8 h' x9 x12 x13 x14 x15 x16 x17 x18 x19 x20 x21 x22 x23 x24 x25 x26 x27 x28 x29 x30 x31 x32 x33 x34 x35 x36 x37 x38 x39 x40 x41 x42 x43 x44 x45 x46 x47 x48 x49 x50 x51 x52 ⟨rfl, rfl⟩
  refine stp ?_
  refine C.if (fun e => absurd e (by omega)) (fun _ => ?_)
  refine stp ?_
  rfl
set_option maxHeartbeats 4000000 in
theorem pdq_ok {h : Heap} {v : Value} {n : Nat} {f : Value} {k : Int} (hn : n < 2) : Runs Try.prog T0 (.fn fn_zhbQ) [v, .int .i64 0, .int .i64 (n : Nat), .int .i64 k, f] h (fun r h' => h' = h) (fun _ _ => False) := by
  refine zhbQ_runs ?_
  refine stp ?_
  refine loop5 zhbQ_l0_M 1 2 3 10 11 (fun q v1 v2 v3 v10 v11 hx => v1 = .int .i64 0 ∧ v2 = .int .i64 (n : Nat) ∧ hx = h) ?_ 0 ⟨rfl, rfl, rfl⟩
  rintro m v1 v2 v3 v10 v11 h' x12 x13 x14 x15 x16 x17 x18 x19 x20 x21 x22 x23 x24 x25 x26 x27 x28 x29 x30 x31 x32 x33 x34 x35 x36 x37 x38 x39 x40 x41 x42 x43 x44 x45 x46 x47 x48 x49 x50 x51 x52 x53 x54 x55 x56 x57 x58 x59 x60 x61 x62 x63 x64 x65 x66 x67 x68 x69 x70 x71 x72 x73 x74 x75 x76 x77 x78 x79 x80 x81 x82 x83 x84 x85 x86 x87 x88 x89 x90 x91 x92 x93 x94 x95 x96 x97 x98 x99 x100 x101 x102 x103 x104 x105 x106 x107 x108 x109 x110 x111 x112 x113 x114 x115 x116 x117 x118 x119 x120 x121 x122 x123 x124 x125 x126 x127 x128 x129 x130 x131 x132 x133 x134 x135 x136 x137 x138 x139 x140 x141 x142 x143 x144 x145 x146 x147 ⟨rfl, rfl, rfl⟩
  refine stp ?_
  refine C.if (fun _ => ?_) (fun e => absurd (show ((n : Nat) : Int) - 0 ≤ 12 by omega) e)
  refine stp ?_
  refine O.call' (insert_ok hn) (fun r h1 hr => ?_)
  subst hr
  refine stp ?_
  rfl
theorem Sorted_ok {h : Heap} {bx : Nat} {u f : Value} {L : List Nat} (hbx : h.get bx = .cells [u] 0) (hb : bx < h.n) (hu : Rd h 1 u (pcells L) L.length) (hlen : L.length < 2) :
    Runs Try.prog T0 (.fn fn_zdbQ) [.func (.func fn_zfbQ) ⟨[]⟩ ⟨[.pointer (some ⟨bx, 0, none⟩)]⟩, f] h
      (fun r h' => Own h' 1 r (pcells L) L.length ∧ (∀ i, ownedBy r i → h.n ≤ i) ∧ Fr (fun _ => False) h h') (fun _ _ => False) := by
  refine zdbQ_runs ?_
  refine stp ?_
  refine O.call' (zbbQ_runs (R := fun r h' => Own h' 1 r (pcells L) L.length ∧ (∀ i, ownedBy r i → h.n ≤ i) ∧ Fr (fun _ => False) h h') (X := fun _ _ => False) ?_) (fun r h1 hr => ?_)
  · refine stp ?_
    refine O.call' (AppendSeq_ok hbx hb hu (by omega)) (fun r h1 hr => ?_)
    refine stp ?_
    exact hr
  · obtain ⟨ho, hn, f1⟩ := hr
    obtain ⟨a, c, rfl, _, _⟩ := id ho.rd
    refine stp ?_
    refine O.call' (zcbQ_runs (R := fun r h' => h' = h1) (X := fun _ _ => False) ?_) (fun r h2 hr => ?_)
    · refine stp ?_
      refine O.call' (Len_ok hlen) (fun r h2 hr => ?_)
      obtain ⟨⟨k, rfl⟩, rfl⟩ := hr
      refine stp ?_
      refine O.call' (pdq_ok hlen) (fun r h3 hr => ?_)
      subst hr
      refine stp ?_
      rfl
    · subst hr
      refine stp ?_
      exact ⟨ho, hn, f1⟩
end Go.Proofs.Ytoadcfjkkoemdaa.A

namespace Go.Proofs.Ytoadcfjkkoemdaa.A
open Go Go.Vm
set_option maxRecDepth 10000
set_option linter.unusedVariables false
theorem SameBytes_ok {h : Heap} {v w : Value} {a b : List UInt8} (hv : Rd h 1 v (bcells a) a.length) (hw : Rd h 1 w (bcells b) b.length) :
    Runs Try.prog T0 (.fn fn_zeQ) [v, w] h (fun r h' => r = .bool (decide (a = b)) ∧ h' = h) (fun _ _ => False) := by
  refine zeQ_runs ?_
  refine stp ?_
  refine O.how (XOp.mkStr hv) ?_
  refine stp ?_
  refine O.how (XOp.mkStr hw) ?_
  refine stp ?_
  refine ⟨?_, rfl⟩
  congr 1
  rw [ByteArray.toList_eq, ByteArray.toList_eq]
  show (a == b) = decide (a = b)
  by_cases e : a = b
  · subst e; simp
  · simp [e]
end Go.Proofs.Ytoadcfjkkoemdaa.A

namespace Go.Proofs.Ytoadcfjkkoemdaa.A
open Go Go.Vm
set_option maxRecDepth 10000
set_option linter.unusedVariables false
theorem one_let {h : Heap} {a b c d : Int} {v : Value} {es : Nat} : newCells (h.push (.cells (lcells a b c d v) es)) 5 [.int .i64 0, .int .i64 0, .int .i64 0, .int .i64 0, .slice none 0 0] false (.slice (some ⟨h.n, 0, none⟩) 1 1) = some (1, lcells a b c d v) :=
  (Rd.mk (size := 5) (n := 1) (cap := 1) (sp := none) (o := 0) (b := h.n) (c := lcells a b c d v) (by simp) (by rw [cellsAt_of (c := lcells a b c d v) (by rw [Heap.get_push, if_pos rfl]; rfl) (by simp)]; rfl)).new _
instance (priority := high) xeqIS {P : Program} {ts : List Value} {h : Heap} {x y : Operand} {O : Oper} {p : Int} [e1 : Ev ts x (.int .i64 p)] [e2 : Ev ts y (.int .i64 p)] : XOp P ts h (.bin .eql O x y) (.bool true) h := xeql1 rfl
def OneSh (h : Heap) (r : Value) (f t d : Int) (bs : List UInt8) : Prop := ∃ w, Rd h 5 r (lcells 1 f t d w) 1 ∧ Rd h 1 w (bcells bs) bs.length
set_option maxHeartbeats 8000000 in
theorem List1_ok {h : Heap} {p m b : Nat} {f t d : Int} {u w : Value} {bs : List UInt8} (hs : One1L h p m b f t d u w bs) (hl : bs.length < 1048576) :
    Runs Try.prog T0 (.fn fn_zmQ) [.pointer (some ⟨p, 0, none⟩)] h (fun r h' => OneSh h' r f t d bs ∧ Fr (fun _ => False) h h') (fun _ _ => False) := by
  haveI : HGet h p _ := ⟨hs.gp⟩
  obtain ⟨au, cu, rfl, _, _⟩ := id hs.ou.rd
  refine zmQ_runs ?_
  refine stp ?_
  refine O.call' (none_ok hs.gp) (fun r h hr => ?_)
  obtain ⟨rfl, rfl⟩ := hr
  refine stp ?_
  refine O.call' Values_ok (fun r h1 hr => ?_)
  obtain ⟨rfl, n1, g1, f1⟩ := hr
  refine stp ?_
  refine O.call' (Sorted_ok (L := [b]) g1 (by omega) ((hs.ou.keep f1 fun _ _ => id).rd) (by simp)) (fun r h2 hr => ?_)
  obtain ⟨o2, m2, f2⟩ := hr
  have F2 := f1.trans' f2
  obtain ⟨a2, c2, rfl, _, hc2⟩ := id o2.rd
  refine stp ?_
  have gb2 : h2.get b = .cells (lcells 1 f t d w) 0 := by rw [F2.get _ hs.bl id]; exact hs.gb
  have ow2 := hs.ow.keep F2 fun _ _ => id
  have nb2 := F2.lt hs.bl
  refine loop2 zmQ_l0_M 2 15 (fun q v2 v15 hx => q = 1 ∧ v2 = .slice none 0 0 ∧ v15 = .int .i64 0 ∧ hx = h2 ∨ q = 0 ∧ v15 = .int .i64 1 ∧ OneSh hx v2 f t d bs ∧ (∃ a n c, v2 = .slice a n c) ∧ Fr (fun _ => False) h2 hx) ?_ 1 (.inl ⟨rfl, rfl, rfl, rfl⟩)
  rintro m v2 v15 h' x4 x5 x16 x17 x18 x19 x20 x21 x22 x23 x24 x25 x26 x27 x28 x29 x30 x31 x32 (⟨rfl, rfl, rfl, rfl⟩ | ⟨rfl, rfl, hone, ⟨a, n, c, rfl⟩, hF⟩)
  · refine stp ?_
    obtain ⟨q, o, sp, rfl, hq, hcc⟩ := hc2 (by simp)
    haveI : Cell h' q (o + 0) (.pointer (some ⟨b, 0, none⟩)) := pcell_at (l := [b]) hcc rfl (by simp)
    have e1 : ([b] : List Nat).length = 1 := rfl
    rw [e1]
    obtain ⟨aw, cw, rfl, _, _⟩ := id ow2.rd
    haveI : HGet h' b _ := ⟨gb2⟩
    refine stp ?_
    have g3 : (h'.push (.cells (lcells 1 f t d (.slice aw bs.length cw)) 0)).get h'.n = .cells (lcells 1 f t d (.slice aw bs.length cw)) 0 := HGet.new.eq
    have F3 : Fr (fun _ => False) h' (h'.push (.cells (lcells 1 f t d (.slice aw bs.length cw)) 0)) := Fr.refl.push
    have n3 : (h'.push (.cells (lcells 1 f t d (.slice aw bs.length cw)) 0)).n = h'.n + 1 := rfl
    have gb3 : (h'.push (.cells (lcells 1 f t d (.slice aw bs.length cw)) 0)).get b = .cells (lcells 1 f t d (.slice aw bs.length cw)) 0 := by rw [F3.get _ nb2 id]; exact gb2
    generalize h'.push (.cells (lcells 1 f t d (.slice aw bs.length cw)) 0) = h3 at *
    haveI : HGet h3 h'.n _ := ⟨g3⟩
    haveI : HGet h3 b _ := ⟨gb3⟩
    refine stp ?_
    refine O.call' (Clone_ok ((ow2.keep F3 fun _ _ => id).rd) hl) (fun r h4 hr => ?_)
    obtain ⟨o4, f4, m4⟩ := hr
    have g4 : h4.get h'.n = .cells (lcells 1 f t d (.slice aw bs.length cw)) 0 := by rw [f4.get _ (by omega) id]; exact g3
    haveI : HGet h4 h'.n _ := ⟨g4⟩
    haveI : BLt h'.n h4 := ⟨by have := f4.n; omega⟩
    obtain ⟨a5, c5, rfl, _, _⟩ := id o4.rd
    refine stp ?_
    have F5 : ∀ {A : AObj}, Fr (fun i => i = h'.n) h4 (h4.set h'.n A) := fun {A} => Fr.refl.set fun _ => rfl
    have q4 := f4.n
    refine O.append .none one_let rfl rfl (by omega) (by omega) (by omega) (fun v6 h6 ho6 hf6 hn6 => ?_)
    have q6 := hf6.n
    have o6 : Rd h6 1 (.slice a5 bs.length c5) (bcells bs) bs.length := ((((o4.keep F5 fun i hi e => by have := m4 i hi; omega).keep (Fr.refl.push (S := fun _ => False)) fun _ _ => id).keep hf6 fun _ _ e => e.elim).rd)
    have F6 : Fr (fun _ => False) h' h6 := ((F3.trans' f4).trans F5 fun i hi e => by omega).trans' ((Fr.refl.push).trans' (hf6.mono fun _ _ e => e.elim))
    obtain ⟨a7, c7, rfl, _, _⟩ := id ho6.rd
    refine stp ?_
    exact loop2a 2 15 0 (by omega) (.inr ⟨rfl, rfl, ⟨_, ho6.rd, o6⟩, ⟨_, _, _, rfl⟩, F6⟩)
  · refine stp ?_
    exact ⟨hone, F2.trans' hF⟩
set_option maxHeartbeats 8000000 in
theorem List0_ok {h : Heap} {p m : Nat} (hs : New0 h p m) :
    Runs Try.prog T0 (.fn fn_zmQ) [.pointer (some ⟨p, 0, none⟩)] h (fun r h' => r = .slice none 0 0 ∧ Fr (fun _ => False) h h') (fun _ _ => False) := by
  haveI : HGet h p _ := ⟨hs.gp⟩
  refine zmQ_runs ?_
  refine stp ?_
  refine O.call' (none_ok hs.gp) (fun r h hr => ?_)
  obtain ⟨rfl, rfl⟩ := hr
  refine stp ?_
  refine O.call' Values_ok (fun r h1 hr => ?_)
  obtain ⟨rfl, n1, g1, f1⟩ := hr
  refine stp ?_
  refine O.call' (Sorted_ok (L := []) g1 (by omega) Rd.nil (by simp)) (fun r h2 hr => ?_)
  obtain ⟨o2, m2, f2⟩ := hr
  have F2 := f1.trans' f2
  obtain ⟨a2, c2, rfl, _, hc2⟩ := id o2.rd
  refine stp ?_
  refine loop2 zmQ_l0_M 2 15 (fun q v2 v15 hx => v2 = .slice none 0 0 ∧ v15 = .int .i64 0 ∧ hx = h2) ?_ 1 ⟨rfl, rfl, rfl⟩
  rintro m v2 v15 h' x4 x5 x16 x17 x18 x19 x20 x21 x22 x23 x24 x25 x26 x27 x28 x29 x30 x31 x32 ⟨rfl, rfl, rfl⟩
  refine stp ?_
  exact ⟨rfl, F2⟩
set_option maxHeartbeats 8000000 in
theorem SameL1_ok {h : Heap} {r s : Value} {f t d : Int} {bs : List UInt8} (hr : OneSh h r f t d bs) (hs : OneSh h s f t d bs) :
    Runs Try.prog T0 (.fn fn_zfQ) [r, s] h (fun r h' => r = .bool true ∧ h' = h) (fun _ _ => False) := by
  obtain ⟨w1, r1, r2⟩ := hr
  obtain ⟨w2, s1, s2⟩ := hs
  obtain ⟨a1, c1, rfl, _, hc1⟩ := id r1
  obtain ⟨a2, c2, rfl, _, hc2⟩ := id s1
  refine zfQ_runs ?_
  refine stp ?_
  refine loop2 zfQ_l0_M 5 6 (fun q v5 v6 hx => hx = h ∧ v5 = .bool true ∧ (q = 1 ∧ v6 = .int .i64 0 ∨ q = 0 ∧ v6 = .int .i64 1)) ?_ 1 ⟨rfl, by simp, .inl ⟨rfl, rfl⟩⟩
  rintro m v5 v6 h' x12 x13 x14 x15 x16 x17 x18 x19 x20 x21 x22 x23 x24 x25 x26 x27 x28 x29 x30 x31 x32 x33 x34 x35 x36 x37 x38 x39 x40 x41 x42 x43 x44 x45 x46 x47 x48 x49 x50 x51 x52 x53 x54 x55 x56 x57 x58 x59 x60 x61 x62 x63 x64 x65 x66 x67 x68 x69 x70 x71 x72 x73 x74 x75 x76 x77 x78 x79 x80 x81 x82 x83 ⟨rfl, rfl, ⟨rfl, rfl⟩ | ⟨rfl, rfl⟩⟩
  · obtain ⟨b1, o1, sp1, rfl, hb1, hcc1⟩ := hc1 (by decide)
    obtain ⟨b2, o2, sp2, rfl, hb2, hcc2⟩ := hc2 (by decide)
    have cells : ∀ {b o : Nat} {w : Value}, cellsAt h' b o (1 * 5) = some (lcells 1 f t d w) → Cell h' b o (.int .i64 1) ∧ Cell h' b (o + 1) (.int .i64 f) ∧ Cell h' b (o + 2) (.int .i64 t) ∧ Cell h' b (o + 3) (.int .i64 d) ∧ Cell h' b (o + 4) w := fun {b o w} hc =>
      ⟨⟨(cellsAt_sub (k := 0) (m := 1) hc (by omega))⟩, ⟨(cellsAt_sub (k := 1) (m := 1) hc (by omega))⟩, ⟨(cellsAt_sub (k := 2) (m := 1) hc (by omega))⟩, ⟨(cellsAt_sub (k := 3) (m := 1) hc (by omega))⟩, ⟨(cellsAt_sub (k := 4) (m := 1) hc (by omega))⟩⟩
    obtain ⟨x0, x1, x2, x3, x4⟩ := cells hcc1
    obtain ⟨y0, y1, y2, y3, y4⟩ := cells hcc2
    haveI := x0
    haveI := x1
    haveI := x2
    haveI := x3
    haveI := x4
    haveI := y0
    haveI := y1
    haveI := y2
    haveI := y3
    haveI := y4
    haveI iz : ∀ {o : Nat}, IdxOff o 0 5 o := fun {o} => ⟨by simp⟩
    refine stp ?_
    iterate 9
      try refine D.howT (XOp.mkIndexSl (by omega)) rfl ?_
      refine stp ?_
    refine D.callT (Runs.mono (SameBytes_ok r2 s2) (fun r h' hh => (⟨by rw [hh.1]; simp, hh.2⟩ : r = .bool true ∧ h' = _)) (fun _ _ h => h)) (fun r h3 hr => rfl) (fun r h3 hr => ?_)
    obtain ⟨rfl, rfl⟩ := hr
    refine stp ?_
    exact loop2a 5 6 0 (by omega) ⟨rfl, rfl, .inr ⟨rfl, rfl⟩⟩
  · refine stp ?_
    exact ⟨rfl, rfl⟩
theorem SameL0_ok {h : Heap} {a1 a2 : Option Addr} {c1 c2 : Nat} :
    Runs Try.prog T0 (.fn fn_zfQ) [.slice a1 0 c1, .slice a2 0 c2] h (fun r h' => r = .bool true ∧ h' = h) (fun _ _ => False) := by
  refine zfQ_runs ?_
  refine stp ?_
  refine loop2 zfQ_l0_M 5 6 (fun q v5 v6 hx => v5 = .bool true ∧ v6 = .int .i64 0 ∧ hx = h) ?_ 1 ⟨by simp, rfl, rfl⟩
  rintro m v5 v6 h' x12 x13 x14 x15 x16 x17 x18 x19 x20 x21 x22 x23 x24 x25 x26 x27 x28 x29 x30 x31 x32 x33 x34 x35 x36 x37 x38 x39 x40 x41 x42 x43 x44 x45 x46 x47 x48 x49 x50 x51 x52 x53 x54 x55 x56 x57 x58 x59 x60 x61 x62 x63 x64 x65 x66 x67 x68 x69 x70 x71 x72 x73 x74 x75 x76 x77 x78 x79 x80 x81 x82 x83 ⟨rfl, rfl, rfl⟩
  refine stp ?_
  exact ⟨rfl, rfl⟩
end Go.Proofs.Ytoadcfjkkoemdaa.A

namespace Go.Proofs.Ytoadcfjkkoemdaa.A
open Go Go.Vm
set_option maxRecDepth 10000
set_option linter.unusedVariables false
section
variable {P : Program} {ts : List Value} {h : Heap} {x lo hi : Operand} {size : Nat} {K : IntKind} {zero : List Value}
instance sliceNilLo [e : Ev ts x (.slice none 0 0)] [f : Ev ts lo (.int K 0)] : XOp P ts h (.sliceSl size x (some lo) none none) (.slice none 0 0) h := ⟨rfl, by
  simp only [xop, e.eq, sliceOf, bnd, f.eq]
  rfl⟩
instance sliceNilHi [e : Ev ts x (.slice none 0 0)] [f : Ev ts hi (.int K 0)] : XOp P ts h (.sliceSl size x none (some hi) none) (.slice none 0 0) h := ⟨rfl, by
  simp only [xop, e.eq, sliceOf, bnd, f.eq]
  rfl⟩
theorem new_nil : newCells h size zero false (.slice none 0 0) = some (0, []) := rfl
end
abbrev rcells (a b c : Int) (u : Value) : List Value := [.int .i64 a, .int .i64 b, .int .i64 c, u]
set_option maxHeartbeats 8000000 in
theorem rlay_ok {h : Heap} {p : Nat} {f t d : Int} {w : Value} {bs : List UInt8} (hp : h.get p = .cells (rcells 1 1 0 (.slice none 0 0)) 0) (pl : p < h.n) (hw : Rd h 1 w (bcells bs) bs.length) (hwp : ∀ i, blockOf w i → i ≠ p) :
    Runs Try.prog T0 (.fn fn_zjQ) [.pointer (some ⟨p, 0, none⟩), .agg ⟨lcells 1 f t d w⟩] h
      (fun r h' => ∃ u, h'.get p = .cells (rcells 1 1 0 u) 0 ∧ OneSh h' u f t d bs ∧ (∀ i, blockOf u i → h.n ≤ i) ∧ Fr (fun i => i = p) h h') (fun _ _ => False) := by
  obtain ⟨aw, cw, rfl, _, _⟩ := id hw
  haveI : HGet h p _ := ⟨hp⟩
  haveI : BLt p h := ⟨pl⟩
  refine zjQ_runs ?_
  refine stp ?_
  have g0 : (h.push (.cells (lcells 1 f t d (.slice aw bs.length cw)) 0)).get h.n = .cells (lcells 1 f t d (.slice aw bs.length cw)) 0 := HGet.new.eq
  have gp0 : (h.push (.cells (lcells 1 f t d (.slice aw bs.length cw)) 0)).get p = .cells (rcells 1 1 0 (.slice none 0 0)) 0 := by rw [Heap.get_push, if_neg (by omega)]; exact hp
  have F0 : Fr (fun _ => False) h (h.push (.cells (lcells 1 f t d (.slice aw bs.length cw)) 0)) := Fr.refl.push
  have n0 : (h.push (.cells (lcells 1 f t d (.slice aw bs.length cw)) 0)).n = h.n + 1 := rfl
  generalize h.push (.cells (lcells 1 f t d (.slice aw bs.length cw)) 0) = h0 at *
  haveI : HGet h0 h.n _ := ⟨g0⟩
  haveI : HGet h0 p _ := ⟨gp0⟩
  haveI : BLt h.n h0 := ⟨by omega⟩
  haveI : BLt p h0 := ⟨by omega⟩
  refine loop1 zjQ_l0_M 4 (fun q v4 hx => v4 = .int .i64 0 ∧ hx = h0) ?_ 0 ⟨rfl, rfl⟩
  rintro m v4 h' x6 x7 x8 x9 x10 x11 x12 x13 x14 x15 x16 x17 x18 x19 x20 x21 x22 x23 x24 x25 x26 x27 x28 x29 x30 x31 x32 x33 x34 x35 x36 x37 x38 x39 x40 x41 x42 x43 x44 x45 x46 x47 x48 x49 x50 x51 x52 x53 ⟨rfl, rfl⟩
  refine stp ?_
  refine O.append (.lit (by simp) (by rw [Heap.get_push, if_pos rfl])) new_nil rfl rfl (by omega) (by omega) (by omega) (fun vr h2 o2 f2 m2 => ?_)
  simp only [Heap.n_push] at *
  refine stp ?_
  have G0 : Fr (fun _ => False) h' (h'.push (.cells [] 0)) := Fr.refl.push
  have Fx : Fr (fun _ => False) h' h2 := G0.trans f2 fun i hi e => by
    have e : h'.n = i := e
    omega
  have F2 : Fr (fun _ => False) h h2 := F0.trans' Fx
  have gp2 : h2.get p = .cells (rcells 1 1 0 (.slice none 0 0)) 0 := by rw [Fx.get _ (by omega) id]; exact gp0
  have g2 : h2.get h.n = .cells (lcells 1 f t d (.slice aw bs.length cw)) 0 := by rw [Fx.get _ (by omega) id]; exact g0
  have q2 := Fx.n
  have hw2 := hw.keep F2 fun _ _ => id
  have hvr : ∀ i, ownedBy vr i → i < h2.n := fun i hi => o2.lt hi
  haveI : HGet h2 p _ := ⟨gp2⟩
  haveI : HGet h2 h.n _ := ⟨g2⟩
  haveI : BLt p h2 := ⟨by omega⟩
  haveI : BLt h.n h2 := ⟨by omega⟩
  have keepP : ∀ {hx : Heap}, Fr (fun _ => False) h2 hx → HGet hx p (.cells (rcells 1 1 0 (.slice none 0 0)) 0) ∧ HGet hx h.n (.cells (lcells 1 f t d (.slice aw bs.length cw)) 0) ∧ BLt p hx ∧ BLt h.n hx := fun G => ⟨G.keep ⟨gp2⟩ (by omega) id, G.keep ⟨g2⟩ (by omega) id, ⟨G.lt (by omega)⟩, ⟨G.lt (by omega)⟩⟩
  have fin : ∀ {hx : Heap} {v : Value}, Fr (fun _ => False) h2 hx → Own hx 5 v (lcells 1 f t d (.slice aw bs.length cw)) 1 → (∀ i, ownedBy v i → h2.n ≤ i) → ∃ u, (hx.set p (.cells (rcells 1 1 0 v) 0)).get p = .cells (rcells 1 1 0 u) 0 ∧ OneSh (hx.set p (.cells (rcells 1 1 0 v) 0)) u f t d bs ∧ (∀ i, blockOf u i → h.n ≤ i) ∧ Fr (fun i => i = p) h (hx.set p (.cells (rcells 1 1 0 v) 0)) := fun {hx v} G ho hm =>
    have fS : Fr (fun i => i = p) hx (hx.set p (.cells (rcells 1 1 0 v) 0)) := Fr.refl.set fun _ => rfl
    ⟨v, by rw [Heap.get_set, if_pos rfl], ⟨_, (ho.keep fS fun i hi e => by have := hm i hi; omega).rd, (hw2.keep G fun _ _ => id).keep fS fun i hi e => hwp i hi e⟩, fun i hi => by
      have : ownedBy v i := by
        obtain ⟨a, c, rfl, _, _⟩ := id ho.rd
        cases a with
        | none => exact hi.elim
        | some a => exact hi.1
      have := hm i this
      omega, ((F2.trans' G).mono fun _ _ e => e.elim).trans' fS⟩
  refine RunC.regionM ?_ (RunC.regionM ?_ (RunC.regionM ?_ RunC.regionM0))
  · refine stp ?_
    have G_0 : Fr (fun _ => False) h2 h2 := Fr.refl
    refine D.one ?_ ?_
    · repeat refine stab_cons inferInstance ?_
      rfl
    have G_1 : Fr (fun _ => False) h2 ((h2).push (.cells [] 0)) := G_0.push
    have N63 : h2.n ≤ (h2).n := G_0.n
    have o63 : Own ((h2).push (.cells [] 0)) 5 (.slice (some ⟨(h2).n, 0, none⟩) 0 0) [] 0 := .lit (by simp) (by rw [Heap.get_push, if_pos rfl])
    refine stp ?_
    have M63 : ∀ i, ownedBy (.slice (some ⟨(h2).n, 0, none⟩) 0 0) i → h2.n ≤ i := fun i hi => by
      have hi : (h2).n = i := hi
      omega
    refine D.appendC o63 new_nil rfl rfl (by omega) (by omega) (by omega) (fun v70 h70 o70 f70 m70 => ?_)
    have G_2 : Fr (fun _ => False) h2 h70 := G_1.trans f70 fun i hi e => by have := M63 i e; omega
    have M70 : ∀ i, ownedBy v70 i → h2.n ≤ i := fun i hi => by
      have := G_1.n
      rcases m70 i hi with e | e
      · exact M63 i e
      · (try simp only [Heap.n_push] at e this)
        omega
    obtain ⟨i1, i2, i3, i4⟩ := keepP G_2
    refine ⟨?_, ?_⟩
    · repeat refine stab_cons inferInstance ?_
      rfl
    refine stp ?_
    refine D.one ?_ ?_
    · repeat refine stab_cons inferInstance ?_
      rfl
    have G_3 : Fr (fun _ => False) h2 ((h70).push (.cells (lcells 1 f t d (.slice aw bs.length cw)) 0)) := G_2.push
    have l72 : Rd ((h70).push (.cells (lcells 1 f t d (.slice aw bs.length cw)) 0)) 5 (.slice (some ⟨(h70).n, 0, none⟩) 1 1) (lcells 1 f t d (.slice aw bs.length cw)) 1 := Rd.mk (size := 5) (n := 1) (cap := 1) (sp := none) (o := 0) (by simp) (by rw [cellsAt_of (c := lcells 1 f t d (.slice aw bs.length cw)) (by rw [Heap.get_push, if_pos rfl]; rfl) (by simp)]; rfl)
    have o70 := o70.keep (S := fun _ => False) (h' := (h70).push (.cells (lcells 1 f t d (.slice aw bs.length cw)) 0)) Fr.refl.push fun _ _ => id
    refine stp ?_
    refine D.appendC o70 (l72.new _) rfl rfl (by omega) (by omega) (by omega) (fun v73 h73 o73 f73 m73 => ?_)
    have G_4 : Fr (fun _ => False) h2 h73 := G_3.trans f73 fun i hi e => by have := M70 i e; omega
    have M73 : ∀ i, ownedBy v73 i → h2.n ≤ i := fun i hi => by
      have := G_3.n
      rcases m73 i hi with e | e
      · exact M70 i e
      · (try simp only [Heap.n_push] at e this)
        omega
    obtain ⟨i1, i2, i3, i4⟩ := keepP G_4
    refine ⟨?_, ?_⟩
    · repeat refine stab_cons inferInstance ?_
      rfl
    refine stp ?_
    refine D.appendC o73 ((o2.keep G_4 fun _ _ => id).rd.new _) rfl rfl (by omega) (by omega) (by omega) (fun v75 h75 o75 f75 m75 => ?_)
    have G_5 : Fr (fun _ => False) h2 h75 := G_4.trans f75 fun i hi e => by have := M73 i e; omega
    have M75 : ∀ i, ownedBy v75 i → h2.n ≤ i := fun i hi => by
      have := G_4.n
      rcases m75 i hi with e | e
      · exact M73 i e
      · (try simp only [Heap.n_push] at e this)
        omega
    obtain ⟨i1, i2, i3, i4⟩ := keepP G_5
    refine ⟨?_, ?_⟩
    · repeat refine stab_cons inferInstance ?_
      rfl
    refine stp ?_
    obtain ⟨a9, c9, e9, _, _⟩ := id o75.rd
    subst e9
    refine stp ?_
    exact fin G_5 o75 M75
  · refine stp ?_
    have G_0 : Fr (fun _ => False) h2 h2 := Fr.refl
    refine D.one ?_ ?_
    · repeat refine stab_cons inferInstance ?_
      rfl
    have G_1 : Fr (fun _ => False) h2 ((h2).push (.cells [] 0)) := G_0.push
    have N63 : h2.n ≤ (h2).n := G_0.n
    have o63 : Own ((h2).push (.cells [] 0)) 5 (.slice (some ⟨(h2).n, 0, none⟩) 0 0) [] 0 := .lit (by simp) (by rw [Heap.get_push, if_pos rfl])
    refine stp ?_
    refine D.one ?_ ?_
    · repeat refine stab_cons inferInstance ?_
      rfl
    have G_2 : Fr (fun _ => False) h2 (((h2).push (.cells [] 0)).push (.cells (lcells 1 f t d (.slice aw bs.length cw)) 0)) := G_1.push
    have l72 : Rd (((h2).push (.cells [] 0)).push (.cells (lcells 1 f t d (.slice aw bs.length cw)) 0)) 5 (.slice (some ⟨((h2).push (.cells [] 0)).n, 0, none⟩) 1 1) (lcells 1 f t d (.slice aw bs.length cw)) 1 := Rd.mk (size := 5) (n := 1) (cap := 1) (sp := none) (o := 0) (by simp) (by rw [cellsAt_of (c := lcells 1 f t d (.slice aw bs.length cw)) (by rw [Heap.get_push, if_pos rfl]; rfl) (by simp)]; rfl)
    have o63 := o63.keep (S := fun _ => False) (h' := ((h2).push (.cells [] 0)).push (.cells (lcells 1 f t d (.slice aw bs.length cw)) 0)) Fr.refl.push fun _ _ => id
    refine stp ?_
    have M63 : ∀ i, ownedBy (.slice (some ⟨(h2).n, 0, none⟩) 0 0) i → h2.n ≤ i := fun i hi => by
      have hi : (h2).n = i := hi
      omega
    refine D.appendC o63 new_nil rfl rfl (by omega) (by omega) (by omega) (fun v70 h70 o70 f70 m70 => ?_)
    have G_3 : Fr (fun _ => False) h2 h70 := G_2.trans f70 fun i hi e => by have := M63 i e; omega
    have M70 : ∀ i, ownedBy v70 i → h2.n ≤ i := fun i hi => by
      have := G_2.n
      rcases m70 i hi with e | e
      · exact M63 i e
      · (try simp only [Heap.n_push] at e this)
        omega
    obtain ⟨i1, i2, i3, i4⟩ := keepP G_3
    have l72 := l72.keep f70 fun i hi e => by
      have e : _ = i := e
      have hi := hi.1
      simp only [Heap.n_push] at e hi
      omega
    refine ⟨?_, ?_⟩
    · repeat refine stab_cons inferInstance ?_
      rfl
    refine stp ?_
    refine D.appendC o70 (l72.new _) rfl rfl (by omega) (by omega) (by omega) (fun v73 h73 o73 f73 m73 => ?_)
    have G_4 : Fr (fun _ => False) h2 h73 := G_3.trans f73 fun i hi e => by have := M70 i e; omega
    have M73 : ∀ i, ownedBy v73 i → h2.n ≤ i := fun i hi => by
      have := G_3.n
      rcases m73 i hi with e | e
      · exact M70 i e
      · (try simp only [Heap.n_push] at e this)
        omega
    obtain ⟨i1, i2, i3, i4⟩ := keepP G_4
    refine ⟨?_, ?_⟩
    · repeat refine stab_cons inferInstance ?_
      rfl
    refine stp ?_
    refine D.appendC o73 ((o2.keep G_4 fun _ _ => id).rd.new _) rfl rfl (by omega) (by omega) (by omega) (fun v75 h75 o75 f75 m75 => ?_)
    have G_5 : Fr (fun _ => False) h2 h75 := G_4.trans f75 fun i hi e => by have := M73 i e; omega
    have M75 : ∀ i, ownedBy v75 i → h2.n ≤ i := fun i hi => by
      have := G_4.n
      rcases m75 i hi with e | e
      · exact M73 i e
      · (try simp only [Heap.n_push] at e this)
        omega
    obtain ⟨i1, i2, i3, i4⟩ := keepP G_5
    refine ⟨?_, ?_⟩
    · repeat refine stab_cons inferInstance ?_
      rfl
    refine stp ?_
    obtain ⟨a9, c9, e9, _, _⟩ := id o75.rd
    subst e9
    refine stp ?_
    exact fin G_5 o75 M75
  · refine stp ?_
    have G_0 : Fr (fun _ => False) h2 h2 := Fr.refl
    refine D.one ?_ ?_
    · repeat refine stab_cons inferInstance ?_
      rfl
    have G_1 : Fr (fun _ => False) h2 ((h2).push (.cells (lcells 1 f t d (.slice aw bs.length cw)) 0)) := G_0.push
    have l72 : Rd ((h2).push (.cells (lcells 1 f t d (.slice aw bs.length cw)) 0)) 5 (.slice (some ⟨(h2).n, 0, none⟩) 1 1) (lcells 1 f t d (.slice aw bs.length cw)) 1 := Rd.mk (size := 5) (n := 1) (cap := 1) (sp := none) (o := 0) (by simp) (by rw [cellsAt_of (c := lcells 1 f t d (.slice aw bs.length cw)) (by rw [Heap.get_push, if_pos rfl]; rfl) (by simp)]; rfl)
    refine stp ?_
    refine D.one ?_ ?_
    · repeat refine stab_cons inferInstance ?_
      rfl
    have G_2 : Fr (fun _ => False) h2 (((h2).push (.cells (lcells 1 f t d (.slice aw bs.length cw)) 0)).push (.cells [] 0)) := G_1.push
    have N63 : h2.n ≤ ((h2).push (.cells (lcells 1 f t d (.slice aw bs.length cw)) 0)).n := G_1.n
    have l72 := l72.keep (S := fun _ => False) (h' := (h2.push (.cells (lcells 1 f t d (.slice aw bs.length cw)) 0)).push (.cells [] 0)) Fr.refl.push fun _ _ => id
    have o63 : Own (((h2).push (.cells (lcells 1 f t d (.slice aw bs.length cw)) 0)).push (.cells [] 0)) 5 (.slice (some ⟨((h2).push (.cells (lcells 1 f t d (.slice aw bs.length cw)) 0)).n, 0, none⟩) 0 0) [] 0 := .lit (by simp) (by rw [Heap.get_push, if_pos rfl])
    refine stp ?_
    have M63 : ∀ i, ownedBy (.slice (some ⟨((h2).push (.cells (lcells 1 f t d (.slice aw bs.length cw)) 0)).n, 0, none⟩) 0 0) i → h2.n ≤ i := fun i hi => by
      have hi : ((h2).push (.cells (lcells 1 f t d (.slice aw bs.length cw)) 0)).n = i := hi
      omega
    refine D.appendC o63 new_nil rfl rfl (by omega) (by omega) (by omega) (fun v70 h70 o70 f70 m70 => ?_)
    have G_3 : Fr (fun _ => False) h2 h70 := G_2.trans f70 fun i hi e => by have := M63 i e; omega
    have M70 : ∀ i, ownedBy v70 i → h2.n ≤ i := fun i hi => by
      have := G_2.n
      rcases m70 i hi with e | e
      · exact M63 i e
      · (try simp only [Heap.n_push] at e this)
        omega
    obtain ⟨i1, i2, i3, i4⟩ := keepP G_3
    have l72 := l72.keep f70 fun i hi e => by
      have e : _ = i := e
      have hi := hi.1
      simp only [Heap.n_push] at e hi
      omega
    refine ⟨?_, ?_⟩
    · repeat refine stab_cons inferInstance ?_
      rfl
    refine stp ?_
    refine D.appendC o70 (l72.new _) rfl rfl (by omega) (by omega) (by omega) (fun v73 h73 o73 f73 m73 => ?_)
    have G_4 : Fr (fun _ => False) h2 h73 := G_3.trans f73 fun i hi e => by have := M70 i e; omega
    have M73 : ∀ i, ownedBy v73 i → h2.n ≤ i := fun i hi => by
      have := G_3.n
      rcases m73 i hi with e | e
      · exact M70 i e
      · (try simp only [Heap.n_push] at e this)
        omega
    obtain ⟨i1, i2, i3, i4⟩ := keepP G_4
    refine ⟨?_, ?_⟩
    · repeat refine stab_cons inferInstance ?_
      rfl
    refine stp ?_
    refine D.appendC o73 ((o2.keep G_4 fun _ _ => id).rd.new _) rfl rfl (by omega) (by omega) (by omega) (fun v75 h75 o75 f75 m75 => ?_)
    have G_5 : Fr (fun _ => False) h2 h75 := G_4.trans f75 fun i hi e => by have := M73 i e; omega
    have M75 : ∀ i, ownedBy v75 i → h2.n ≤ i := fun i hi => by
      have := G_4.n
      rcases m75 i hi with e | e
      · exact M73 i e
      · (try simp only [Heap.n_push] at e this)
        omega
    obtain ⟨i1, i2, i3, i4⟩ := keepP G_5
    refine ⟨?_, ?_⟩
    · repeat refine stab_cons inferInstance ?_
      rfl
    refine stp ?_
    obtain ⟨a9, c9, e9, _, _⟩ := id o75.rd
    subst e9
    refine stp ?_
    exact fin G_5 o75 M75
end Go.Proofs.Ytoadcfjkkoemdaa.A

namespace Go.Proofs.Ytoadcfjkkoemdaa.A
open Go Go.Vm
set_option maxRecDepth 10000
set_option linter.unusedVariables false
theorem CopyBytes_ok {h : Heap} {v : Value} {l : List UInt8} (hr : Rd h 1 v (bcells l) l.length) (hs : l.length < 1048576) :
    Runs Try.prog T0 (.fn fn_zcQ) [v] h (fun r h' => Own h' 1 r (bcells l) l.length ∧ (∀ i, ownedBy r i → h.n ≤ i) ∧ Fr (fun _ => False) h h') (fun _ _ => False) := by
  refine zcQ_runs ?_
  refine stp ?_
  have hz : Own (h.push (.cells [] 0)) 1 (.slice (some ⟨h.n, 0, none⟩) 0 0) [] 0 := .lit (by simp) (by rw [Heap.get_push, if_pos rfl])
  refine O.append hz ((hr.keep (S := fun _ => False) Fr.refl.push fun _ _ => id).new [.int .u8 0]) (by rw [bcells_len]; omega) (bcells_one l) (by omega) (by omega) (by omega) (fun v' h' h1 h2 h3 => ?_)
  refine stp ?_
  rw [Nat.zero_add, List.nil_append] at h1
  refine ⟨h1, fun i hi => ?_, Fr.trans (S := fun _ => False) Fr.refl.push h2 fun i hi ho => ?_⟩
  · rcases h3 i hi with h4 | h4
    · rw [← h4]; exact Nat.le_refl _
    · simp at h4; omega
  · have : h.n = i := ho
    omega
def pickS (x n : Int) : Int := if n ≤ 0 then 0 else x % n
theorem Pick_ok {h : Heap} {x n : Int} (hn : n ≤ 9223372036854775807) : Runs Try.prog T0 (.fn fn_zdQ) [.int .i64 x, .int .i64 n] h (fun r h' => r = .int .i64 (pickS x n) ∧ h' = h) (fun _ _ => False) := by
  refine zdQ_runs ?_
  refine stp ?_
  unfold pickS
  refine C.if (fun h0 => ?_) (fun h0 => ?_)
  · refine stp ?_
    rw [if_pos h0]
    exact ⟨rfl, rfl⟩
  · refine stp ?_
    refine O.how (XOp.remI (by omega)) ?_
    have h1 := Int.tmod_lt_of_pos x (show 0 < n by omega)
    have h2 : -n < x.tmod n := by
      have := Int.lt_tmod_of_pos x (show 0 < n by omega)
      omega
    have e := Int.tmod_eq_emod (a := x) (b := n)
    have p1 := Int.emod_nonneg x (show n ≠ 0 by omega)
    have p2 := Int.emod_lt_of_pos x (show 0 < n by omega)
    have p3 : (n.natAbs : Int) = n := Int.natAbs_of_nonneg (by omega)
    refine stp ?_
    rw [if_neg h0]
    refine C.if (fun h3 => ?_) (fun h3 => ?_)
    · refine stp ?_
      refine ⟨?_, rfl⟩
      congr 1
      split at e <;> omega
    · refine stp ?_
      refine ⟨?_, rfl⟩
      congr 1
      split at e <;> omega
end Go.Proofs.Ytoadcfjkkoemdaa.A

namespace Go.Proofs.Ytoadcfjkkoemdaa.A
open Go Go.Vm
set_option maxRecDepth 10000
set_option linter.unusedVariables false
set_option linter.unusedSimpArgs false
section
variable {P : Program} {ts : List Value} {h : Heap} {chk : List (Option Nat × AOp × Option (Nat × Bool))}
theorem stabT {d2 t : Nat} {b : Bool} {op2 : AOp} {v2 : Value} {h2 : Heap} (k2 : XOp P ts h op2 v2 h2) [gt : LGet ts t (.bool b)] [g : LGet ts d2 v2] (r : chk.all (stable P ts h) = true) : ((some d2, op2, some (t, b)) :: chk).all (stable P ts h) = true := by
  haveI : StabL P ts h chk := ⟨r⟩
  haveI := k2
  exact StabL.ok
end
theorem own_of_block {a : Option Addr} {n c i : Nat} (h : blockOf (.slice a n c) i) : ownedBy (.slice a n c) i := by
  cases a with
  | none => exact h.elim
  | some a => exact h.1
set_option maxHeartbeats 8000000 in
theorem rPost_ok {h : Heap} {p : Nat} {v : Value} {bs : List UInt8} (hp : h.get p = .cells (rcells 1 0 0 (.slice none 0 0)) 0) (pl : p < h.n) (hv : Rd h 1 v (bcells bs) bs.length) (hl : bs.length < 1048576) (hvp : ∀ i, blockOf v i → i ≠ p) :
    Runs Try.prog T0 (.fn fn_ziQ) [.pointer (some ⟨p, 0, none⟩), .int .i64 0, .int .i64 1, .int .i64 2, v] h
      (fun r h' => Fr (fun i => i = p) h h' ∧ (65536 < bs.length ∧ r = .tuple ⟨[.int .i64 0, .int .i64 4]⟩ ∧ h' = h ∨ bs.length ≤ 65536 ∧ r = .tuple ⟨[.int .i64 1, .int .i64 0]⟩ ∧ ∃ u, h'.get p = .cells (rcells 1 1 0 u) 0 ∧ OneSh h' u 0 1 2 bs ∧ ∀ i, blockOf u i → i ≠ p)) (fun _ _ => False) := by
  obtain ⟨a, cap, rfl, hlen, hc⟩ := id hv
  haveI : HGet h p _ := ⟨hp⟩
  haveI : BLt p h := ⟨pl⟩
  haveI q1 : ∀ {ts : List Value} {h : Heap} {O : Oper} {x y : Operand} [Ev ts x (.int .i64 0)] [Ev ts y (.int .i64 0)], XOp Try.prog ts h (.bin .lss O x y) (.bool false) h := xlss0 (by omega)
  haveI q2 : ∀ {ts : List Value} {h : Heap} {O : Oper} {x y : Operand} [Ev ts x (.int .i64 0)] [Ev ts y (.int .i64 16)], XOp Try.prog ts h (.bin .gtr O x y) (.bool false) h := xgtr0 (by omega)
  haveI q3 : ∀ {ts : List Value} {h : Heap} {O : Oper} {x y : Operand} [Ev ts x (.int .i64 1)] [Ev ts y (.int .i64 0)], XOp Try.prog ts h (.bin .lss O x y) (.bool false) h := xlss0 (by omega)
  haveI q4 : ∀ {ts : List Value} {h : Heap} {O : Oper} {x y : Operand} [Ev ts x (.int .i64 1)] [Ev ts y (.int .i64 16)], XOp Try.prog ts h (.bin .gtr O x y) (.bool false) h := xgtr0 (by omega)
  refine ziQ_runs ?_
  refine stp ?_
  refine O.callT (within_ok (x := 2) (by omega) (by omega)) (fun r h hr => ?_)
  obtain ⟨rfl, rfl⟩ := hr
  refine stp ?_
  refine C.if (fun h1 => ?_) (fun h1 => ?_)
  · refine stp ?_
    exact ⟨Fr.refl, .inl ⟨by omega, rfl, rfl⟩⟩
  · refine stp ?_
    have e01 : (0 : Int) + 1 = 1 := rfl
    rw [e01]
    have f1 : Fr (fun i => i = p) h (h.set p (.cells (rcells 1 1 0 (.slice none 0 0)) 0)) := Fr.refl.set fun _ => rfl
    have g1 : (h.set p (.cells (rcells 1 1 0 (.slice none 0 0)) 0)).get p = .cells (rcells 1 1 0 (.slice none 0 0)) 0 := by rw [Heap.get_set, if_pos rfl]
    have n1 : (h.set p (.cells (rcells 1 1 0 (.slice none 0 0)) 0)).n = h.n := rfl
    generalize h.set p (.cells (rcells 1 1 0 (.slice none 0 0)) 0) = h2 at *
    refine D.callX (CopyBytes_ok (hv.keep f1 fun i hi e => hvp i hi e) hl) (fun r h3 hr => ?_) (fun r h3 hr => ?_) (fun _ _ hx => hx.elim)
    · obtain ⟨_, _, hf⟩ := hr
      haveI : HGet h3 p _ := hf.keep ⟨g1⟩ (by omega) id
      repeat refine stab_cons inferInstance ?_
      rfl
    obtain ⟨o3, m3, f3⟩ := hr
    have g3 : h3.get p = _ := (f3.get _ (by omega) id).trans g1
    haveI : HGet h3 p _ := ⟨g3⟩
    obtain ⟨a3, c3, rfl, _, _⟩ := id o3.rd
    refine stp ?_
    refine D.callX (rlay_ok (bs := bs) g3 (by have := f3.n; omega) o3.rd (fun i hi => by have := m3 i (own_of_block hi); omega)) (fun r h4 hr => rfl) (fun r h4 hr => ?_) (fun _ _ hx => hx.elim)
    obtain ⟨u, g4, hone, mu, f4⟩ := hr
    haveI : HGet h4 p _ := ⟨g4⟩
    refine stp ?_
    have q3 := f3.n
    exact ⟨(f1.trans' (f3.mono fun _ _ e => e.elim)).trans' f4, .inr ⟨by omega, rfl, u, g4, hone, fun i hi => by have := mu i hi; omega⟩⟩
set_option maxHeartbeats 16000000 in
theorem MailLong_true {h : Heap} {n : Int} : Runs Try.prog T0 (.fn fn_zgQ) [.int .i64 n] h (fun r h' => r = .bool true) (fun _ _ => False) := by
  haveI q0 : ∀ {ts : List Value} {h : Heap} {O : Oper} {x y : Operand} [Ev ts x (.int .i64 0)] [Ev ts y (.int .i64 0)], XOp Try.prog ts h (.bin .neq O x y) (.bool false) h := xneqI0 rfl
  refine zgQ_runs ?_
  refine stp ?_
  refine O.call' mNew_ok (fun r h1 hr => ?_)
  obtain ⟨rfl, n1, gp1, gm1, f1⟩ := hr
  refine stp ?_
  refine O.call' rNew_ok (fun r h2 hr => ?_)
  obtain ⟨rfl, n2, gr2, f2⟩ := hr
  refine stp ?_
  refine O.call' (Pick_ok (n := 11) (by decide)) (fun r h3 hr => ?_)
  obtain ⟨rfl, rfl⟩ := hr
  have hpk : 0 ≤ pickS n 11 ∧ pickS n 11 < 11 := by
    unfold pickS
    rw [if_neg (by decide)]
    exact ⟨Int.emod_nonneg _ (by decide), Int.emod_lt_of_pos _ (by decide)⟩
  obtain ⟨N, hN⟩ : ∃ N : Nat, 65530 + pickS n 11 = (N : Int) := ⟨(65530 + pickS n 11).toNat, by omega⟩
  refine stp ?_
  rw [hN]
  refine O.how (XOp.makeSlice (n := N) (by omega) (by omega) (by omega)) ?_
  rw [repeat_bytes]
  have hlenN : (List.replicate N (0 : UInt8)).length = N := List.length_replicate
  have hv : Rd (h3.push (.cells (bcells (List.replicate N 0)) 0)) 1 (.slice (some ⟨h3.n, 0, none⟩) N N) (bcells (List.replicate N 0)) N := Rd.mk (by simp) (by rw [cellsAt_of (c := bcells (List.replicate N 0)) (by rw [Heap.get_push, if_pos rfl]; rfl) (by rw [bcells_len, hlenN]; omega), List.drop_zero, List.take_of_length_le (by rw [bcells_len, hlenN]; omega)])
  have F4 : Fr (fun _ => False) h3 (h3.push (.cells (bcells (List.replicate N 0)) 0)) := Fr.refl.push
  have n4 : (h3.push (.cells (bcells (List.replicate N 0)) 0)).n = h3.n + 1 := rfl
  generalize h3.push (.cells (bcells (List.replicate N 0)) 0) = h4 at *
  generalize hbs : List.replicate N (0 : UInt8) = bs at *
  subst hlenN
  have F14 := f2.trans' F4
  have hs4 : New0 h4 (h.n + 1) h.n := ⟨by rw [F14.get _ (by omega) id]; exact gp1, by rw [F14.get _ (by omega) id]; exact gm1, by omega, by omega, by omega⟩
  have gr4 : h4.get h1.n = .cells (rcells 1 0 0 (.slice none 0 0)) 0 := by rw [F4.get _ (by omega) id]; exact gr2
  refine stp ?_
  refine O.call' (Post_ok hs4 hv (by omega) (fun i hi => by have hi : h3.n = i := hi.1; omega)) (fun r h5 hr => ?_)
  obtain ⟨f5, hr5⟩ := hr
  have n5 := f5.n
  have gr5 : h5.get h1.n = .cells (rcells 1 0 0 (.slice none 0 0)) 0 := by rw [f5.get _ (by omega) (by omega)]; exact gr4
  have hv5 := hv.keep f5 fun i hi e => by
    have hi : h3.n = i := hi.1
    omega
  have hrp := rPost_ok gr5 (by omega) hv5 (by omega) (fun i hi => by have hi : h3.n = i := hi.1; omega)
  have hcase : (65536 < bs.length ∧ r = .tuple ⟨[.int .i64 0, .int .i64 4]⟩ ∧ h5 = h4) ∨ (bs.length ≤ 65536 ∧ r = .tuple ⟨[.int .i64 1, .int .i64 0]⟩ ∧ ∃ b u w, One1L h5 (h.n + 1) h.n b 0 1 2 u w bs ∧ h4.n ≤ b ∧ (∀ i, ownedBy u i → h4.n ≤ i) ∧ ∀ i, ownedBy w i → h4.n ≤ i) := hr5
  rcases hcase with ⟨hlong, rfl, rfl⟩ | ⟨hshort, rfl, b, u, w, hone, hb4, hu4, hw4⟩
  · refine stp ?_
    refine O.call' hrp (fun r h6 hr => ?_)
    obtain ⟨f6, ⟨_, rfl, rfl⟩ | ⟨hno, _⟩⟩ := hr
    case inr => omega
    haveI : HGet h6 h1.n _ := ⟨gr5⟩
    refine stp ?_
    refine D.callT (List0_ok hs4) (fun r h7 hr => ?_) (fun r h7 hr => ?_)
    · obtain ⟨_, f7⟩ := hr
      haveI : HGet h7 h1.n _ := f7.keep ⟨gr5⟩ (by omega) id
      repeat refine stabT inferInstance ?_
      rfl
    obtain ⟨rfl, f7⟩ := hr
    refine stp ?_
    refine D.callT SameL0_ok (fun r h8 hr => rfl) (fun r h8 hr => ?_)
    obtain ⟨rfl, rfl⟩ := hr
    refine stp ?_
    refine D.callT zhQ_known (fun r h9 hr => rfl) (fun r h9 hr => ?_)
    obtain ⟨rfl, rfl⟩ := hr
    refine stp ?_
    rfl
  · refine stp ?_
    refine O.call' hrp (fun r h6 hr => ?_)
    obtain ⟨f6, ⟨hno, _⟩ | ⟨_, rfl, u2, g6, sh6, du6⟩⟩ := hr
    case inl => omega
    haveI : HGet h6 h1.n _ := ⟨g6⟩
    refine stp ?_
    have n6 := f6.n
    have one6 : One1L h6 (h.n + 1) h.n b 0 1 2 u w bs := ⟨by rw [f6.get _ hone.pl (by omega)]; exact hone.gp, by rw [f6.get _ hone.bl (by omega)]; exact hone.gb, f6.lt hone.pl, f6.lt hone.bl, hone.ou.keep f6 fun i hi e => by have := hu4 i hi; omega, hone.ow.keep f6 fun i hi e => by have := hw4 i hi; omega, hone.dw, hone.du⟩
    refine D.callT (List1_ok one6 (by omega)) (fun r h7 hr => ?_) (fun r h7 hr => ?_)
    · obtain ⟨_, f7⟩ := hr
      haveI : HGet h7 h1.n _ := f7.keep ⟨g6⟩ (by have := f6.n; omega) id
      repeat refine stabT inferInstance ?_
      rfl
    obtain ⟨sh7, f7⟩ := hr
    have sh7' : OneSh h7 u2 0 1 2 bs := by
      obtain ⟨w9, r9, s9⟩ := sh6
      exact ⟨w9, r9.keep f7 fun _ _ => id, s9.keep f7 fun _ _ => id⟩
    refine stp ?_
    refine D.callT (SameL1_ok sh7 sh7') (fun r h8 hr => rfl) (fun r h8 hr => ?_)
    obtain ⟨rfl, rfl⟩ := hr
    refine stp ?_
    refine D.callT zhQ_known (fun r h9 hr => rfl) (fun r h9 hr => ?_)
    obtain ⟨rfl, rfl⟩ := hr
    refine stp ?_
    rfl
end Go.Proofs.Ytoadcfjkkoemdaa.A

namespace Go.Proofs.Ytoadcfjkkoemdaa.A
open Go Go.Vm
set_option maxRecDepth 100000
set_option linter.unusedVariables false
theorem MailLong_run (h : Heap) (vs : List Value) (hf : FitsAll Try.prog h 8 [3] vs) : Runs Try.prog T0 (.fn fn_zgQ) vs h (fun r _ => r = .bool true) (fun _ _ => False) := by
  obtain ⟨v1, _, rfl, h1, hf⟩ := hf.cons
  obtain rfl := hf.nil
  obtain ⟨n, rfl, _⟩ := FitsV.int (k := .i64) h1 (by kernel_rfl)
  exact MailLong_true
end Go.Proofs.Ytoadcfjkkoemdaa.A

namespace Go.Proofs.Ytoadcfjkkoemdaa.A
open Go Go.Vm
set_option maxRecDepth 100000
theorem ran_16 : allTrue (xcall Try.prog (tableOf Try.prog) 1000 60 (.fn 16) [] Heap.init) = true := by kernel_rfl
theorem has_16 : (tableOf Try.prog 16).isSome = true := by kernel_rfl
theorem known : KnownAll Try.prog prims := ⟨⟨Option.isSome_iff_exists.1 has_16, fun w => known_calls (Checked.mixed Try.checked) tableOf_ok ran_16 w⟩, trivial⟩
theorem T0_ok : TableOK Try.prog T0 := withKept_ok (withTrue_ok known) fun k hk => by simp at hk
end Go.Proofs.Ytoadcfjkkoemdaa.A
