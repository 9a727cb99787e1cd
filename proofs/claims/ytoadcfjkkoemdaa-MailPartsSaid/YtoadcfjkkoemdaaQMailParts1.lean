/- Contracts of functions, over the machine. -/
import Derived.Test.YtoadcfjkkoemdaaRows
import Derived.Test.YtoadcfjkkoemdaaVK
import Derived.Test.YtoadcfjkkoemdaaVJ
namespace Go.Vm
abbrev U : Value := undef
abbrev tm (n : Nat) : Operand := .tmp n
abbrev k0 : Operand := .const (.int .i64 0)
abbrev o1 (d : Nat) (x : AOp) : AOper := ⟨some d, x, none, [], false⟩
abbrev o2 (d : Nat) (x : AOp) : AOper := ⟨some d, x, none, [], true⟩
abbrev o3 (x : AOp) : AOper := ⟨none, x, none, [], false⟩
abbrev o4 (d : Nat) (x : AOp) (t : Nat) : AOper := ⟨some d, x, some (t, true), [], false⟩
abbrev o5 (d : Nat) (x : AOp) (t : Nat) : AOper := ⟨some d, x, some (t, false), [], false⟩
end Go.Vm
set_option linter.unusedSimpArgs false
set_option linter.unusedSectionVars false
noncomputable section
set_option maxRecDepth 100000
set_option linter.unusedVariables false
namespace Go.Proofs.Ytoadcfjkkoemdaa.A
open Go Go.Vm
instance : IsIface Try.prog 20 := ⟨by kernel_rfl⟩
instance : IsIface Try.prog 95 := ⟨by kernel_rfl⟩
instance : IsIface Try.prog 96 := ⟨by kernel_rfl⟩
abbrev prims : List FuncId := [3]
abbrev kepts : List FuncId := []
def T0 : Table := withKept (withTrue Try.prog prims) kepts
theorem zlQ_known {h : Heap} : Runs Try.prog T0 (.fn 3) [] h (fun r h' => r = .bool true ∧ h' = h) (fun _ _ => False) := known_runs rfl
instance : IsBoolT Try.prog 4 := ⟨by kernel_rfl⟩
instance : TLeaves Try.prog 7 (.i .i64 :: (.i .i64 :: (.b :: (.i .u8 :: [])))) := ⟨by kernel_rfl, by kernel_rfl, by kernel_rfl⟩
instance : TLeaves Try.prog 8 (.i .i64 :: (.i .i64 :: (.b :: (.i .u8 :: [])))) := ⟨by kernel_rfl, by kernel_rfl, by kernel_rfl⟩
abbrev fn_znbQ : FuncId := 10
def znbQ_c : ACode :=
 (.seq (.region [
 o1 2 (.mov (.const (.pointer none))),
 o1 3 (.mov k0)]) (.seq (.seq (.region [
 o1 4 (.mov (tm 0)),
 o1 5 (.bin .lss (so (.binOp .lss 3 (tm 4) (.const (.int .i64 1)) 3) 4) (tm 4) (.const (.int .i64 1))),
 o1 6 (.mov (tm 5)),
 o5 7 (.mov (tm 0)) 6,
 o5 8 (.bin .gtr (so (.binOp .gtr 3 (tm 7) (.const (.int .i64 4096)) 3) 4) (tm 7) (.const (.int .i64 4096))) 6,
 o1 9 (.pick (tm 6) (.const (.bool true)) (tm 8))]) (.cond (tm 9)
 (.seq (.region [
 o1 2 (.mov (.const (.pointer none))),
 o1 3 (.mov (.const (.int .i64 3)))]) .ret)
 .skip)) (.seq (.region [
 o1 10 (.mov (tm 0)),
 o1 11 (.mkMap),
 o1 12 (.build [(.int .i64 0), (.int .i64 0), (.int .i64 0), (.slice none 0 0), (.map none)] [(0, 1, (tm 10)), (4, 1, (tm 11))]),
 o1 13 (.box 65 (tm 12)),
 o1 2 (.mov (tm 13)),
 o1 3 (.mov k0)]) .ret)))
def znbQ : AFunc := ⟨14, [(2, none), (3, none)], znbQ_c, none⟩
theorem znbQ_t0 : tableOf Try.prog 10 = some znbQ := by kernel_rfl
theorem znbQ_t : T0 10 = some znbQ := withKept_t rfl (withTrue_t rfl znbQ_t0)
theorem znbQ_runs {v0 : Value} {h : Heap} {R : RP} {X : XP} (k : RunC Try.prog T0 znbQ_c ⟨[v0, U, U, U, U, U, U, U, U, U, U, U, U, U], [], h, none⟩ (bodyQ Try.prog T0 [(2, none), (3, none)] R X)) :
 Runs Try.prog T0 (.fn 10) [v0] h R X := Runs.fn znbQ_t rfl k
abbrev fn_zzQ : FuncId := 12
def zzQ_c : ACode :=
 (.seq (.region [
 o1 4 (.mov k0)]) (.seq (.region [
 o1 6 (.mov (tm 0)),
 o1 7 (.mov (tm 1)),
 o1 8 (.mov (tm 0)),
 o1 9 (.mkFunc (.func 39) [(tm 8)] []),
 o1 10 (.callV (.func 38) [(tm 6), (tm 7), (tm 9)]),
 o1 5 (.mov (tm 10))]) (.seq (.seq (.region [
 o1 11 (.mov (tm 5)),
 o1 12 (.bin .eql (so (.binOp .eql 24 (tm 11) k0 24) 4) (tm 11) k0)]) (.cond (tm 12)
 (.region [
 o1 13 (.mov (tm 0)),
 o1 14 (.nilCheck (tm 13)),
 o1 15 (.fieldAddr 2 (tm 14)),
 o1 16 (.load none (tm 15)),
 o1 17 (.bin .add (so (.binOp .add 3 (tm 16) (.const (.int .i64 1)) 3) 3) (tm 16) (.const (.int .i64 1))),
 o1 18 (.nilCheck (tm 13)),
 o1 19 (.fieldAddr 2 (tm 18)),
 o3 (.store 1 (tm 19) (tm 17))])
 .skip)) (.seq (.region [
 o1 20 (.mov (tm 5)),
 o1 4 (.mov (tm 20))]) .ret))))
def zzQ : AFunc := ⟨21, [(4, none)], zzQ_c, none⟩
theorem zzQ_t0 : tableOf Try.prog 12 = some zzQ := by kernel_rfl
theorem zzQ_t : T0 12 = some zzQ := withKept_t rfl (withTrue_t rfl zzQ_t0)
theorem zzQ_runs {v0 v1 : Value} {h : Heap} {R : RP} {X : XP} (k : RunC Try.prog T0 zzQ_c ⟨[v0, v1, U, U, U, U, U, U, U, U, U, U, U, U, U, U, U, U, U, U, U], [], h, none⟩ (bodyQ Try.prog T0 [(4, none)] R X)) :
 Runs Try.prog T0 (.fn 12) [v0, v1] h R X := Runs.fn zzQ_t rfl k
abbrev fn_zgbQ : FuncId := 14
def zgbQ_c : ACode :=
 (.seq (.region [
 o1 3 (.box 22 (tm 0)),
 o1 5 (.box 3 (tm 2)),
 o1 6 (.alloc 3 [(.int .i64 0)]),
 o1 7 (.mov k0)]) (.seq (.region [
 o1 8 (.load none (tm 3)),
 o1 9 (.mov (tm 1)),
 o1 10 (.mkFunc (.func 40) [] [(tm 5), (tm 3), (tm 6)]),
 o1 11 (.callV (.func 38) [(tm 8), (tm 9), (tm 10)]),
 o1 7 (.mov (tm 11))]) (.seq (.region [
 o1 12 (.load none (tm 6)),
 o1 13 (.mov (tm 7)),
 o3 (.store 1 (tm 6) (tm 12)),
 o1 7 (.mov (tm 13))]) .ret)))
def zgbQ : AFunc := ⟨14, [(6, some none), (7, none)], zgbQ_c, none⟩
theorem zgbQ_t0 : tableOf Try.prog 14 = some zgbQ := by kernel_rfl
theorem zgbQ_t : T0 14 = some zgbQ := withKept_t rfl (withTrue_t rfl zgbQ_t0)
theorem zgbQ_runs {v0 v1 v2 : Value} {h : Heap} {R : RP} {X : XP} (k : RunC Try.prog T0 zgbQ_c ⟨[v0, v1, v2, U, U, U, U, U, U, U, U, U, U, U], [], h, none⟩ (bodyQ Try.prog T0 [(6, some none), (7, none)] R X)) :
 Runs Try.prog T0 (.fn 14) [v0, v1, v2] h R X := Runs.fn zgbQ_t rfl k
abbrev fn_zbbQ : FuncId := 15
def zbbQ_c : ACode :=
 (.seq (.region [
 o1 2 (.mov k0),
 o1 3 (.mov (.const (.bool false)))]) (.seq (.seq (.region [
 o1 4 (.mov (tm 0)),
 o1 5 (.callV (.func 43) [(tm 4)]),
 o1 6 (.mov (tm 5)),
 o5 7 (.mov (tm 0)) 6,
 o5 8 (.nilCheck (tm 7)) 6,
 o5 9 (.fieldAddr 3 (tm 8)) 6,
 o5 10 (.load none (tm 9)) 6,
 o5 11 (.lenSl (tm 10)) 6,
 o5 12 (.bin .eql (so (.binOp .eql 3 (tm 11) k0 3) 4) (tm 11) k0) 6,
 o1 13 (.pick (tm 6) (.const (.bool true)) (tm 12))]) (.cond (tm 13)
 (.seq (.region [
 o1 2 (.mov k0),
 o1 3 (.mov (.const (.bool false)))]) .ret)
 .skip)) (.seq (.region [
 o1 14 (.mov (tm 0)),
 o1 15 (.nilCheck (tm 14)),
 o1 16 (.fieldAddr 3 (tm 15)),
 o1 17 (.load none (tm 16)),
 o1 18 (.indexSl 1 (tm 17) k0),
 o1 19 (.load none (tm 18)),
 o1 20 (.nilCheck (tm 19)),
 o1 21 (.fieldAddr 3 (tm 20)),
 o1 22 (.load none (tm 21)),
 o1 2 (.mov (tm 22)),
 o1 3 (.mov (.const (.bool true)))]) .ret)))
def zbbQ : AFunc := ⟨23, [(2, none), (3, none)], zbbQ_c, none⟩
theorem zbbQ_t0 : tableOf Try.prog 15 = some zbbQ := by kernel_rfl
theorem zbbQ_t : T0 15 = some zbbQ := withKept_t rfl (withTrue_t rfl zbbQ_t0)
theorem zbbQ_runs {v0 : Value} {h : Heap} {R : RP} {X : XP} (k : RunC Try.prog T0 zbbQ_c ⟨[v0, U, U, U, U, U, U, U, U, U, U, U, U, U, U, U, U, U, U, U, U, U, U], [], h, none⟩ (bodyQ Try.prog T0 [(2, none), (3, none)] R X)) :
 Runs Try.prog T0 (.fn 15) [v0] h R X := Runs.fn zbbQ_t rfl k
abbrev fn_zcbQ : FuncId := 19
def zcbQ_c : ACode :=
 (.seq (.region [
 o1 10 (.mov k0),
 o1 11 (.mov k0)]) (.seq (.block 0 (.seq (.region [
 o1 13 (.mov (tm 0)),
 o1 14 (.callV (.func 43) [(tm 13)]),
 o1 12 (.mov (tm 14))]) (.cond (tm 12)
 (.seq (.region [
 o1 10 (.mov k0),
 o1 11 (.mov (.const (.int .i64 1)))]) .ret)
 (.seq (.region [
 o1 16 (.mov (tm 1)),
 o1 17 (.callV (.func 44) [(tm 16)]),
 o1 18 (.raw (so (.unOp .not 4 (tm 17)) 4)),
 o1 19 (.mov (tm 18)),
 o5 20 (.mov (tm 2)) 19,
 o5 21 (.callV (.func 44) [(tm 20)]) 19,
 o5 22 (.raw (so (.unOp .not 4 (tm 21)) 4)) 19,
 o1 23 (.pick (tm 19) (.const (.bool true)) (tm 22)),
 o1 24 (.mov (tm 23)),
 o5 25 (.mov (tm 3)) 24,
 o5 26 (.callV (.func 41) [(tm 25)]) 24,
 o5 27 (.raw (so (.unOp .not 4 (tm 26)) 4)) 24,
 o1 28 (.pick (tm 24) (.const (.bool true)) (tm 27)),
 o1 15 (.mov (tm 28))]) (.cond (tm 15)
 (.seq (.region [
 o1 10 (.mov k0),
 o1 11 (.mov (.const (.int .i64 3)))]) .ret)
 (.seq (.region [
 o1 30 (.mov (tm 4)),
 o1 31 (.lenSl (tm 30)),
 o1 32 (.bin .gtr (so (.binOp .gtr 3 (tm 31) (.const (.int .i64 65536)) 3) 4) (tm 31) (.const (.int .i64 65536))),
 o1 29 (.mov (tm 32))]) (.cond (tm 29)
 (.seq (.region [
 o1 10 (.mov k0),
 o1 11 (.mov (.const (.int .i64 4)))]) .ret)
 (.seq (.regionD [
 o1 34 (.mov (tm 0)),
 o1 35 (.nilCheck (tm 34)),
 o1 36 (.fieldAddr 3 (tm 35)),
 o1 37 (.load none (tm 36)),
 o1 38 (.lenSl (tm 37)),
 o1 39 (.mov (tm 0)),
 o1 40 (.nilCheck (tm 39)),
 o1 41 (.fieldAddr 0 (tm 40)),
 o1 42 (.load none (tm 41)),
 o2 43 (.bin .geq (so (.binOp .geq 3 (tm 38) (tm 42) 3) 4) (tm 38) (tm 42)),
 o2 33 (.mov (tm 43))]) (.cond (tm 33)
 (.seq (.region [
 o1 10 (.mov k0),
 o1 11 (.mov (.const (.int .i64 7)))]) .ret)
 .skip))))))))) (.seq (.region [
 o1 44 (.mov (tm 0)),
 o1 45 (.mov (tm 1)),
 o1 46 (.mov (tm 2)),
 o1 47 (.mov (tm 3)),
 o1 48 (.mov (tm 4)),
 o1 49 (.build [(.int .i64 0), (.int .i64 0), (.int .i64 0), (.int .i64 0), (.slice none 0 0)] [(1, 1, (tm 45)), (2, 1, (tm 46)), (3, 1, (tm 47)), (4, 1, (tm 48))]),
 o1 50 (.callV (.func 42) [(tm 44), (tm 49)]),
 o1 10 (.mov (tm 50)),
 o1 11 (.mov k0)]) .ret)))
def zcbQ : AFunc := ⟨51, [(10, none), (11, none)], zcbQ_c, none⟩
theorem zcbQ_t0 : tableOf Try.prog 19 = some zcbQ := by kernel_rfl
theorem zcbQ_t : T0 19 = some zcbQ := withKept_t rfl (withTrue_t rfl zcbQ_t0)
theorem zcbQ_runs {v0 v1 v2 v3 v4 : Value} {h : Heap} {R : RP} {X : XP} (k : RunC Try.prog T0 zcbQ_c ⟨[v0, v1, v2, v3, v4, U, U, U, U, U, U, U, U, U, U, U, U, U, U, U, U, U, U, U, U, U, U, U, U, U, U, U, U, U, U, U, U, U, U, U, U, U, U, U, U, U, U, U, U, U, U], [], h, none⟩ (bodyQ Try.prog T0 [(10, none), (11, none)] R X)) :
 Runs Try.prog T0 (.fn 19) [v0, v1, v2, v3, v4] h R X := Runs.fn zcbQ_t rfl k
abbrev fn_zjQ : FuncId := 21
def zjQ_l0 : ACode :=
 (.seq (.seq (.region [
 o1 12 (.mov (tm 5)),
 o1 13 (.mov (tm 12)),
 o4 14 (.mov (tm 6)) 13,
 o4 15 (.mov (tm 0)) 13,
 o4 16 (.lenSl (tm 15)) 13,
 o4 17 (.bin .lss (so (.binOp .lss 3 (tm 14) (tm 16) 3) 4) (tm 14) (tm 16)) 13,
 o1 18 (.pick (tm 13) (tm 17) (.const (.bool false)))]) (.cond (tm 18)
 .skip
 (.exit 0))) (.seq (.block 1 (.regionD [
 o1 21 (.mov (tm 0)),
 o1 22 (.mov (tm 6)),
 o1 23 (.indexSl 5 (tm 21) (tm 22)),
 o1 24 (.fieldAddr 0 (tm 23)),
 o1 25 (.load none (tm 24)),
 o1 26 (.mov (tm 1)),
 o1 27 (.mov (tm 6)),
 o1 28 (.indexSl 5 (tm 26) (tm 27)),
 o1 29 (.fieldAddr 0 (tm 28)),
 o1 30 (.load none (tm 29)),
 o2 31 (.bin .eql (so (.binOp .eql 3 (tm 25) (tm 30) 3) 4) (tm 25) (tm 30)),
 o2 32 (.mov (tm 31)),
 o4 33 (.mov (tm 0)) 32,
 o4 34 (.mov (tm 6)) 32,
 o4 35 (.indexSl 5 (tm 33) (tm 34)) 32,
 o4 36 (.fieldAddr 1 (tm 35)) 32,
 o4 37 (.load none (tm 36)) 32,
 o4 38 (.mov (tm 1)) 32,
 o4 39 (.mov (tm 6)) 32,
 o4 40 (.indexSl 5 (tm 38) (tm 39)) 32,
 o4 41 (.fieldAddr 1 (tm 40)) 32,
 o4 42 (.load none (tm 41)) 32,
 ⟨some 43, .bin .eql (so (.binOp .eql 3 (tm 37) (tm 42) 3) 4) (tm 37) (tm 42), some (32, true), [], true⟩,
 o2 44 (.pick (tm 32) (tm 43) (.const (.bool false))),
 o2 45 (.mov (tm 44)),
 o4 46 (.mov (tm 0)) 45,
 o4 47 (.mov (tm 6)) 45,
 o4 48 (.indexSl 5 (tm 46) (tm 47)) 45,
 o4 49 (.fieldAddr 2 (tm 48)) 45,
 o4 50 (.load none (tm 49)) 45,
 o4 51 (.mov (tm 1)) 45,
 o4 52 (.mov (tm 6)) 45,
 o4 53 (.indexSl 5 (tm 51) (tm 52)) 45,
 o4 54 (.fieldAddr 2 (tm 53)) 45,
 o4 55 (.load none (tm 54)) 45,
 ⟨some 56, .bin .eql (so (.binOp .eql 3 (tm 50) (tm 55) 3) 4) (tm 50) (tm 55), some (45, true), [], true⟩,
 o2 57 (.pick (tm 45) (tm 56) (.const (.bool false))),
 o2 58 (.mov (tm 57)),
 o4 59 (.mov (tm 0)) 58,
 o4 60 (.mov (tm 6)) 58,
 o4 61 (.indexSl 5 (tm 59) (tm 60)) 58,
 o4 62 (.fieldAddr 3 (tm 61)) 58,
 o4 63 (.load none (tm 62)) 58,
 o4 64 (.mov (tm 1)) 58,
 o4 65 (.mov (tm 6)) 58,
 o4 66 (.indexSl 5 (tm 64) (tm 65)) 58,
 o4 67 (.fieldAddr 3 (tm 66)) 58,
 o4 68 (.load none (tm 67)) 58,
 ⟨some 69, .bin .eql (so (.binOp .eql 3 (tm 63) (tm 68) 3) 4) (tm 63) (tm 68), some (58, true), [], true⟩,
 o2 70 (.pick (tm 58) (tm 69) (.const (.bool false))),
 o2 71 (.mov (tm 70)),
 o4 72 (.mov (tm 0)) 71,
 o4 73 (.mov (tm 6)) 71,
 o4 74 (.indexSl 5 (tm 72) (tm 73)) 71,
 o4 75 (.fieldAddr 4 (tm 74)) 71,
 o4 76 (.load none (tm 75)) 71,
 o4 77 (.mov (tm 1)) 71,
 o4 78 (.mov (tm 6)) 71,
 o4 79 (.indexSl 5 (tm 77) (tm 78)) 71,
 o4 80 (.fieldAddr 4 (tm 79)) 71,
 o4 81 (.load none (tm 80)) 71,
 ⟨some 82, .callV (.func 48) [(tm 76), (tm 81)], some (71, true), [], true⟩,
 o2 83 (.pick (tm 71) (tm 82) (.const (.bool false))),
 o2 5 (.mov (tm 83))])) (.region [
 o1 19 (.mov (tm 6)),
 o1 20 (.bin .add (so (.binOp .add 3 (tm 19) (.const (.int .i64 1)) 3) 3) (tm 19) (.const (.int .i64 1))),
 o1 6 (.mov (tm 20))])))
def zjQ_c : ACode :=
 (.seq (.region [
 o1 4 (.mov (.const (.bool false)))]) (.seq (.region [
 o1 7 (.mov (tm 0)),
 o1 8 (.lenSl (tm 7)),
 o1 9 (.mov (tm 1)),
 o1 10 (.lenSl (tm 9)),
 o1 11 (.bin .eql (so (.binOp .eql 3 (tm 8) (tm 10) 3) 4) (tm 8) (tm 10)),
 o1 5 (.mov (tm 11))]) (.seq (.seq (.region [
 o1 6 (.mov k0)]) (.block 0 (.loop zjQ_l0))) (.seq (.region [
 o1 84 (.mov (tm 5)),
 o1 4 (.mov (tm 84))]) .ret))))
def zjQ : AFunc := ⟨85, [(4, none)], zjQ_c, none⟩
theorem zjQ_t0 : tableOf Try.prog 21 = some zjQ := by kernel_rfl
theorem zjQ_t : T0 21 = some zjQ := withKept_t rfl (withTrue_t rfl zjQ_t0)
theorem zjQ_runs {v0 v1 : Value} {h : Heap} {R : RP} {X : XP} (k : RunC Try.prog T0 zjQ_c ⟨[v0, v1, U, U, U, U, U, U, U, U, U, U, U, U, U, U, U, U, U, U, U, U, U, U, U, U, U, U, U, U, U, U, U, U, U, U, U, U, U, U, U, U, U, U, U, U, U, U, U, U, U, U, U, U, U, U, U, U, U, U, U, U, U, U, U, U, U, U, U, U, U, U, U, U, U, U, U, U, U, U, U, U, U, U, U], [], h, none⟩ (bodyQ Try.prog T0 [(4, none)] R X)) :
 Runs Try.prog T0 (.fn 21) [v0, v1] h R X := Runs.fn zjQ_t rfl k
abbrev zjQ_l0_M : List Nat := [0, 0, 0, 0, 0, 2, 2, 0, 0, 0, 0, 0, 1, 1, 1, 1, 1, 1, 1, 1, 1, 1, 1, 1, 1, 1, 1, 1, 1, 1, 1, 1, 1, 1, 1, 1, 1, 1, 1, 1, 1, 1, 1, 1, 1, 1, 1, 1, 1, 1, 1, 1, 1, 1, 1, 1, 1, 1, 1, 1, 1, 1, 1, 1, 1, 1, 1, 1, 1, 1, 1, 1, 1, 1, 1, 1, 1, 1, 1, 1, 1, 1, 1, 1, 0]
abbrev fn_zyQ : FuncId := 22
def zyQ_l0 : ACode :=
 (.seq (.region [
 o1 16 (.bin .lss (so (.binOp .lss 3 (tm 15) (tm 14) 3) 0) (tm 15) (tm 14))]) (.seq (.cond (tm 16)
 .skip
 (.exit 0)) (.seq (.block 1 (.seq (.region [
 o1 17 (.indexSl 1 (tm 13) (tm 15)),
 o1 18 (.load none (tm 17)),
 o1 4 (.mov (tm 18))]) (.seq (.region [
 o1 19 (.mov (tm 4)),
 o1 20 (.nilCheck (tm 19)),
 o1 21 (.load (some 5) (tm 20)),
 o1 5 (.alloc 58 [(.int .i64 0), (.int .i64 0), (.int .i64 0), (.int .i64 0), (.slice none 0 0)]),
 o3 (.store 5 (tm 5) (tm 21))]) (.seq (.region [
 o1 22 (.mov (tm 4)),
 o1 23 (.nilCheck (tm 22)),
 o1 24 (.fieldAddr 4 (tm 23)),
 o1 25 (.load none (tm 24)),
 o1 26 (.callV (.func 52) [(tm 25)]),
 o1 27 (.fieldAddr 4 (tm 5)),
 o3 (.store 1 (tm 27) (tm 26))]) (.region [
 o1 28 (.mov (tm 2)),
 o1 29 (.load (some 5) (tm 5)),
 o1 30 (.buildSlice 58 [(.int .i64 0), (.int .i64 0), (.int .i64 0), (.int .i64 0), (.slice none 0 0)] 1 [(0, 5, (tm 29))]),
 o1 31 (.append 58 5 56 [(.int .i64 0), (.int .i64 0), (.int .i64 0), (.int .i64 0), (.slice none 0 0)] false (tm 28) (tm 30)),
 o1 2 (.mov (tm 31))]))))) (.region [
 o1 32 (.bin .add (so (.binOp .add 3 (tm 15) (.const (.int .i64 1)) 3) 3) (tm 15) (.const (.int .i64 1))),
 o1 15 (.mov (tm 32))]))))
def zyQ_c : ACode :=
 (.seq (.region [
 o1 2 (.mov (.const (.slice none 0 0)))]) (.seq (.seq (.region [
 o1 6 (.mov (tm 0)),
 o1 7 (.callV (.func 43) [(tm 6)])]) (.cond (tm 7)
 (.seq (.region [
 o1 2 (.mov (.const (.slice none 0 0)))]) .ret)
 .skip)) (.seq (.seq (.region [
 o1 8 (.mov (tm 0)),
 o1 9 (.nilCheck (tm 8)),
 o1 10 (.fieldAddr 3 (tm 9)),
 o1 11 (.load none (tm 10)),
 o1 12 (.callV (.func 50) [(tm 11)]),
 o1 13 (.callV (.func 49) [(tm 12), (.func 51)]),
 o1 14 (.lenSl (tm 13)),
 o1 15 (.mov k0)]) (.block 0 (.loop zyQ_l0))) (.seq (.region [
 o1 33 (.mov (tm 2)),
 o1 2 (.mov (tm 33))]) .ret))))
def zyQ : AFunc := ⟨34, [(2, none)], zyQ_c, none⟩
theorem zyQ_t0 : tableOf Try.prog 22 = some zyQ := by kernel_rfl
theorem zyQ_t : T0 22 = some zyQ := withKept_t rfl (withTrue_t rfl zyQ_t0)
theorem zyQ_runs {v0 : Value} {h : Heap} {R : RP} {X : XP} (k : RunC Try.prog T0 zyQ_c ⟨[v0, U, U, U, U, U, U, U, U, U, U, U, U, U, U, U, U, U, U, U, U, U, U, U, U, U, U, U, U, U, U, U, U, U], [], h, none⟩ (bodyQ Try.prog T0 [(2, none)] R X)) :
 Runs Try.prog T0 (.fn 22) [v0] h R X := Runs.fn zyQ_t rfl k
abbrev zyQ_l0_M : List Nat := [0, 0, 2, 0, 1, 1, 0, 0, 0, 0, 0, 0, 0, 0, 0, 2, 1, 1, 1, 1, 1, 1, 1, 1, 1, 1, 1, 1, 1, 1, 1, 1, 1, 0]
abbrev fn_znQ : FuncId := 23
def znQ_l0 : ACode :=
 (.seq (.seq (.region [
 o1 4 (.mov (tm 3)),
 o1 5 (.mov (tm 0)),
 o1 6 (.lenSl (tm 5)),
 o1 7 (.bin .lss (so (.binOp .lss 3 (tm 4) (tm 6) 3) 4) (tm 4) (tm 6)),
 o1 8 (.mov (tm 7)),
 o4 9 (.mov (tm 3)) 8,
 o4 10 (.bin .lss (so (.binOp .lss 3 (tm 9) (.const (.int .i64 41)) 3) 4) (tm 9) (.const (.int .i64 41))) 8,
 o1 11 (.pick (tm 8) (tm 10) (.const (.bool false)))]) (.cond (tm 11)
 .skip
 (.exit 0))) (.seq (.block 1 (.seq (.region [
 o1 14 (.mov (tm 0)),
 o1 15 (.mov (tm 3)),
 o1 16 (.indexSl 5 (tm 14) (tm 15)),
 o1 17 (.fieldAddr 4 (tm 16)),
 o1 18 (.load none (tm 17)),
 o1 19 (.lenSl (tm 18)),
 o1 20 (.bin .gtr (so (.binOp .gtr 3 (tm 19) (.const (.int .i64 60)) 3) 4) (tm 19) (.const (.int .i64 60)))]) (.cond (tm 20)
 (.seq (.region [
 o1 2 (.mov (.const (.bool true)))]) .ret)
 .skip))) (.region [
 o1 12 (.mov (tm 3)),
 o1 13 (.bin .add (so (.binOp .add 3 (tm 12) (.const (.int .i64 1)) 3) 3) (tm 12) (.const (.int .i64 1))),
 o1 3 (.mov (tm 13))])))
def znQ_c : ACode :=
 (.seq (.region [
 o1 2 (.mov (.const (.bool false)))]) (.seq (.seq (.region [
 o1 3 (.mov k0)]) (.block 0 (.loop znQ_l0))) (.seq (.region [
 o1 21 (.mov (tm 0)),
 o1 22 (.lenSl (tm 21)),
 o1 23 (.bin .gtr (so (.binOp .gtr 3 (tm 22) (.const (.int .i64 40)) 3) 4) (tm 22) (.const (.int .i64 40))),
 o1 2 (.mov (tm 23))]) .ret)))
def znQ : AFunc := ⟨24, [(2, none)], znQ_c, none⟩
theorem znQ_t0 : tableOf Try.prog 23 = some znQ := by kernel_rfl
theorem znQ_t : T0 23 = some znQ := withKept_t rfl (withTrue_t rfl znQ_t0)
theorem znQ_runs {v0 : Value} {h : Heap} {R : RP} {X : XP} (k : RunC Try.prog T0 znQ_c ⟨[v0, U, U, U, U, U, U, U, U, U, U, U, U, U, U, U, U, U, U, U, U, U, U, U], [], h, none⟩ (bodyQ Try.prog T0 [(2, none)] R X)) :
 Runs Try.prog T0 (.fn 23) [v0] h R X := Runs.fn znQ_t rfl k
abbrev znQ_l0_M : List Nat := [0, 0, 1, 2, 1, 1, 1, 1, 1, 1, 1, 1, 1, 1, 1, 1, 1, 1, 1, 1, 1, 0, 0, 0]
abbrev fn_zvQ : FuncId := 27
def zvQ_l0 : ACode :=
 (.seq (.seq (.region [
 o1 8 (.mov (tm 0)),
 o1 9 (.nilCheck (tm 8)),
 o1 10 (.fieldAddr 3 (tm 9)),
 o1 11 (.load none (tm 10)),
 o1 12 (.lenSl (tm 11)),
 o1 13 (.bin .gtr (so (.binOp .gtr 3 (tm 12) k0 3) 4) (tm 12) k0),
 o1 14 (.mov (tm 13)),
 o4 15 (.mov (tm 0)) 14,
 o4 16 (.nilCheck (tm 15)) 14,
 o4 17 (.fieldAddr 3 (tm 16)) 14,
 o4 18 (.load none (tm 17)) 14,
 o4 19 (.indexSl 1 (tm 18) k0) 14,
 o4 20 (.load none (tm 19)) 14,
 o4 21 (.nilCheck (tm 20)) 14,
 o4 22 (.fieldAddr 3 (tm 21)) 14,
 o4 23 (.load none (tm 22)) 14,
 o4 24 (.mov (tm 1)) 14,
 o4 25 (.bin .leq (so (.binOp .leq 3 (tm 23) (tm 24) 3) 4) (tm 23) (tm 24)) 14,
 o1 26 (.pick (tm 14) (tm 25) (.const (.bool false)))]) (.cond (tm 26)
 .skip
 (.exit 0))) (.block 1 (.seq (.region [
 o1 27 (.mov (tm 0)),
 o1 28 (.nilCheck (tm 27)),
 o1 29 (.fieldAddr 3 (tm 28)),
 o1 30 (.load none (tm 29)),
 o1 31 (.indexSl 1 (tm 30) k0),
 o1 32 (.load none (tm 31)),
 o1 5 (.mov (tm 32))]) (.seq (.region [
 o1 33 (.mov (tm 0)),
 o1 34 (.mov (tm 5)),
 o1 35 (.callV (.func 39) [(tm 33), (tm 34)])]) (.region [
 o1 36 (.mov (tm 4)),
 o1 37 (.mov (tm 5)),
 o1 38 (.nilCheck (tm 37)),
 o1 39 (.load (some 5) (tm 38)),
 o1 40 (.buildSlice 58 [(.int .i64 0), (.int .i64 0), (.int .i64 0), (.int .i64 0), (.slice none 0 0)] 1 [(0, 5, (tm 39))]),
 o1 41 (.append 58 5 56 [(.int .i64 0), (.int .i64 0), (.int .i64 0), (.int .i64 0), (.slice none 0 0)] false (tm 36) (tm 40)),
 o1 4 (.mov (tm 41))])))))
def zvQ_c : ACode :=
 (.seq (.region [
 o1 4 (.mov (.const (.slice none 0 0)))]) (.seq (.seq (.region [
 o1 6 (.mov (tm 0)),
 o1 7 (.callV (.func 43) [(tm 6)])]) (.cond (tm 7)
 (.seq (.region [
 o1 4 (.mov (.const (.slice none 0 0)))]) .ret)
 .skip)) (.seq (.block 0 (.loop zvQ_l0)) (.seq (.region [
 o1 42 (.mov (tm 4)),
 o1 4 (.mov (tm 42))]) .ret))))
def zvQ : AFunc := ⟨43, [(4, none)], zvQ_c, none⟩
theorem zvQ_t0 : tableOf Try.prog 27 = some zvQ := by kernel_rfl
theorem zvQ_t : T0 27 = some zvQ := withKept_t rfl (withTrue_t rfl zvQ_t0)
theorem zvQ_runs {v0 v1 : Value} {h : Heap} {R : RP} {X : XP} (k : RunC Try.prog T0 zvQ_c ⟨[v0, v1, U, U, U, U, U, U, U, U, U, U, U, U, U, U, U, U, U, U, U, U, U, U, U, U, U, U, U, U, U, U, U, U, U, U, U, U, U, U, U, U, U], [], h, none⟩ (bodyQ Try.prog T0 [(4, none)] R X)) :
 Runs Try.prog T0 (.fn 27) [v0, v1] h R X := Runs.fn zvQ_t rfl k
abbrev zvQ_l0_M : List Nat := [0, 0, 0, 0, 2, 1, 0, 0, 1, 1, 1, 1, 1, 1, 1, 1, 1, 1, 1, 1, 1, 1, 1, 1, 1, 1, 1, 1, 1, 1, 1, 1, 1, 1, 1, 1, 1, 1, 1, 1, 1, 1, 0]
abbrev fn_zwQ : FuncId := 31
def zwQ_c : ACode :=
 (.seq (.region [
 o1 3 (.box 22 (tm 0)),
 o1 5 (.box 3 (tm 2)),
 o1 6 (.mov k0)]) (.seq (.region [
 o1 7 (.load none (tm 3)),
 o1 8 (.mov (tm 1)),
 o1 9 (.mkFunc (.func 55) [] [(tm 5), (tm 3)]),
 o1 10 (.callV (.func 38) [(tm 7), (tm 8), (tm 9)]),
 o1 6 (.mov (tm 10))]) .ret))
def zwQ : AFunc := ⟨11, [(6, none)], zwQ_c, none⟩
theorem zwQ_t0 : tableOf Try.prog 31 = some zwQ := by kernel_rfl
theorem zwQ_t : T0 31 = some zwQ := withKept_t rfl (withTrue_t rfl zwQ_t0)
theorem zwQ_runs {v0 v1 v2 : Value} {h : Heap} {R : RP} {X : XP} (k : RunC Try.prog T0 zwQ_c ⟨[v0, v1, v2, U, U, U, U, U, U, U, U], [], h, none⟩ (bodyQ Try.prog T0 [(6, none)] R X)) :
 Runs Try.prog T0 (.fn 31) [v0, v1, v2] h R X := Runs.fn zwQ_t rfl k
abbrev fn_zdbQ : FuncId := 33
def zdbQ_c : ACode :=
 (.seq (.region [
 o1 3 (.box 22 (tm 0)),
 o1 5 (.box 3 (tm 2)),
 o1 6 (.mov k0)]) (.seq (.region [
 o1 7 (.load none (tm 3)),
 o1 8 (.mov (tm 1)),
 o1 9 (.mkFunc (.func 57) [] [(tm 3), (tm 5)]),
 o1 10 (.callV (.func 38) [(tm 7), (tm 8), (tm 9)]),
 o1 6 (.mov (tm 10))]) .ret))
def zdbQ : AFunc := ⟨11, [(6, none)], zdbQ_c, none⟩
theorem zdbQ_t0 : tableOf Try.prog 33 = some zdbQ := by kernel_rfl
theorem zdbQ_t : T0 33 = some zdbQ := withKept_t rfl (withTrue_t rfl zdbQ_t0)
theorem zdbQ_runs {v0 v1 v2 : Value} {h : Heap} {R : RP} {X : XP} (k : RunC Try.prog T0 zdbQ_c ⟨[v0, v1, v2, U, U, U, U, U, U, U, U], [], h, none⟩ (bodyQ Try.prog T0 [(6, none)] R X)) :
 Runs Try.prog T0 (.fn 33) [v0, v1, v2] h R X := Runs.fn zdbQ_t rfl k
abbrev fn_zoQ : FuncId := 37
def zoQ_l0 : ACode :=
 (.seq (.seq (.region [
 o1 21 (.mov (tm 9)),
 o1 22 (.mov (tm 0)),
 o1 23 (.lenSl (tm 22)),
 o1 24 (.bin .lss (so (.binOp .lss 3 (tm 21) (tm 23) 3) 4) (tm 21) (tm 23))]) (.cond (tm 24)
 .skip
 (.exit 0))) (.seq (.block 1 (.seq (.region [
 o1 27 (.mov (tm 0)),
 o1 28 (.mov (tm 9)),
 o1 29 (.indexSl 5 (tm 27) (tm 28)),
 o1 30 (.load (some 5) (tm 29)),
 o1 10 (.alloc 50 [(.int .i64 0), (.int .i64 0), (.int .i64 0), (.int .i64 0), (.slice none 0 0)]),
 o3 (.store 5 (tm 10) (tm 30))]) (.seq (.region [
 o1 31 (.fieldAddr 0 (tm 10)),
 o1 32 (.load none (tm 31))]) (.block 2 (.seq (.region [
 o1 34 (.bin .eql (so (.binOp .eql 3 (tm 32) k0 3) 4) (tm 32) k0),
 o1 33 (.mov (tm 34))]) (.cond (tm 33)
 (.seq (.region [
 o1 36 (.mov (tm 5)),
 o1 37 (.fieldAddr 1 (tm 10)),
 o1 38 (.load none (tm 37)),
 o1 39 (.fieldAddr 2 (tm 10)),
 o1 40 (.load none (tm 39)),
 o1 41 (.fieldAddr 3 (tm 10)),
 o1 42 (.load none (tm 41)),
 o1 43 (.fieldAddr 4 (tm 10)),
 o1 44 (.load none (tm 43)),
 o1 45 (.callV (.func 19) [(tm 36), (tm 38), (tm 40), (tm 42), (tm 44)]),
 o1 35 (.mov (tm 45)),
 o1 46 (.extract 0 (tm 35)),
 o1 47 (.extract 1 (tm 35)),
 o1 11 (.mov (tm 46)),
 o1 12 (.mov (tm 47))]) (.seq (.region [
 o1 48 (.mov (tm 12)),
 o1 49 (.bin .eql (so (.binOp .eql 24 (tm 48) k0 24) 4) (tm 48) k0)]) (.cond (tm 49)
 (.region [
 o1 50 (.mov (tm 7)),
 o1 51 (.bin .add (so (.binOp .add 3 (tm 50) (.const (.int .i64 1)) 3) 3) (tm 50) (.const (.int .i64 1))),
 o1 7 (.mov (tm 51))])
 .skip)))
 (.seq (.region [
 o1 53 (.bin .eql (so (.binOp .eql 3 (tm 32) (.const (.int .i64 1)) 3) 4) (tm 32) (.const (.int .i64 1))),
 o1 52 (.mov (tm 53))]) (.cond (tm 52)
 (.region [
 o1 54 (.mov (tm 8)),
 o1 55 (.mov (tm 5)),
 o1 56 (.fieldAddr 3 (tm 10)),
 o1 57 (.load none (tm 56)),
 o1 58 (.callV (.func 27) [(tm 55), (tm 57)]),
 o1 59 (.lenSl (tm 58)),
 o1 60 (.bin .add (so (.binOp .add 3 (tm 54) (tm 59) 3) 3) (tm 54) (tm 59)),
 o1 8 (.mov (tm 60))])
 (.seq (.region [
 o1 62 (.bin .eql (so (.binOp .eql 3 (tm 32) (.const (.int .i64 2)) 3) 4) (tm 32) (.const (.int .i64 2))),
 o1 61 (.mov (tm 62))]) (.cond (tm 61)
 (.region [
 o1 63 (.mov (tm 5)),
 o1 64 (.fieldAddr 1 (tm 10)),
 o1 65 (.load none (tm 64)),
 o1 66 (.callV (.func 12) [(tm 63), (tm 65)])])
 (.seq (.region [
 o1 68 (.bin .eql (so (.binOp .eql 3 (tm 32) (.const (.int .i64 3)) 3) 4) (tm 32) (.const (.int .i64 3))),
 o1 67 (.mov (tm 68))]) (.cond (tm 67)
 (.region [
 o1 69 (.mov (tm 5)),
 o1 70 (.fieldAddr 1 (tm 10)),
 o1 71 (.load none (tm 70)),
 o1 72 (.fieldAddr 3 (tm 10)),
 o1 73 (.load none (tm 72)),
 o1 74 (.callV (.func 31) [(tm 69), (tm 71), (tm 73)])])
 (.seq (.region [
 o1 76 (.bin .eql (so (.binOp .eql 3 (tm 32) (.const (.int .i64 4)) 3) 4) (tm 32) (.const (.int .i64 4))),
 o1 75 (.mov (tm 76))]) (.cond (tm 75)
 (.region [
 o1 77 (.mov (tm 5)),
 o1 78 (.fieldAddr 1 (tm 10)),
 o1 79 (.load none (tm 78)),
 o1 80 (.fieldAddr 2 (tm 10)),
 o1 81 (.load none (tm 80)),
 o1 82 (.callV (.func 33) [(tm 77), (tm 79), (tm 81)])])
 (.seq (.region [
 o1 84 (.bin .eql (so (.binOp .eql 3 (tm 32) (.const (.int .i64 5)) 3) 4) (tm 32) (.const (.int .i64 5))),
 o1 83 (.mov (tm 84))]) (.cond (tm 83)
 (.seq (.region [
 o1 86 (.mov (tm 5)),
 o1 87 (.fieldAddr 1 (tm 10)),
 o1 88 (.load none (tm 87)),
 o1 89 (.fieldAddr 3 (tm 10)),
 o1 90 (.load none (tm 89)),
 o1 91 (.callV (.func 14) [(tm 86), (tm 88), (tm 90)]),
 o1 85 (.mov (tm 91)),
 o1 92 (.extract 0 (tm 85)),
 o1 93 (.extract 1 (tm 85)),
 o1 13 (.mov (tm 92)),
 o1 14 (.mov (tm 93))]) (.seq (.region [
 o1 94 (.mov (tm 14)),
 o1 95 (.bin .eql (so (.binOp .eql 24 (tm 94) k0 24) 4) (tm 94) k0)]) (.cond (tm 95)
 (.region [
 o1 96 (.mov (tm 7)),
 o1 97 (.bin .add (so (.binOp .add 3 (tm 96) (.const (.int .i64 1)) 3) 3) (tm 96) (.const (.int .i64 1))),
 o1 7 (.mov (tm 97))])
 .skip)))
 .skip)))))))))))))))) (.region [
 o1 25 (.mov (tm 9)),
 o1 26 (.bin .add (so (.binOp .add 3 (tm 25) (.const (.int .i64 1)) 3) 3) (tm 25) (.const (.int .i64 1))),
 o1 9 (.mov (tm 26))])))
def zoQ_c : ACode :=
 (.seq (.region [
 o1 2 (.mov (.const (.pointer none))),
 o1 3 (.mov k0),
 o1 4 (.mov k0)]) (.seq (.region [
 o1 16 (.callV (.func 10) [(.const (.int .i64 4096))]),
 o1 15 (.mov (tm 16)),
 o1 17 (.extract 0 (tm 15)),
 o1 18 (.extract 1 (tm 15)),
 o1 5 (.mov (tm 17)),
 o1 6 (.mov (tm 18))]) (.seq (.seq (.region [
 o1 19 (.mov (tm 6)),
 o1 20 (.bin .neq (so (.binOp .neq 24 (tm 19) k0 24) 4) (tm 19) k0)]) (.cond (tm 20)
 (.seq (.region [
 o1 2 (.mov (.const (.pointer none))),
 o1 3 (.mov k0),
 o1 4 (.mov k0)]) .ret)
 .skip)) (.seq (.region [
 o1 7 (.mov k0),
 o1 8 (.mov k0)]) (.seq (.seq (.region [
 o1 9 (.mov k0)]) (.block 0 (.loop zoQ_l0))) (.seq (.region [
 o1 98 (.mov (tm 5)),
 o1 99 (.mov (tm 7)),
 o1 100 (.mov (tm 8)),
 o1 2 (.mov (tm 98)),
 o1 3 (.mov (tm 99)),
 o1 4 (.mov (tm 100))]) .ret))))))
def zoQ : AFunc := ⟨101, [(2, none), (3, none), (4, none)], zoQ_c, none⟩
theorem zoQ_t0 : tableOf Try.prog 37 = some zoQ := by kernel_rfl
theorem zoQ_t : T0 37 = some zoQ := withKept_t rfl (withTrue_t rfl zoQ_t0)
theorem zoQ_runs {v0 : Value} {h : Heap} {R : RP} {X : XP} (k : RunC Try.prog T0 zoQ_c ⟨[v0, U, U, U, U, U, U, U, U, U, U, U, U, U, U, U, U, U, U, U, U, U, U, U, U, U, U, U, U, U, U, U, U, U, U, U, U, U, U, U, U, U, U, U, U, U, U, U, U, U, U, U, U, U, U, U, U, U, U, U, U, U, U, U, U, U, U, U, U, U, U, U, U, U, U, U, U, U, U, U, U, U, U, U, U, U, U, U, U, U, U, U, U, U, U, U, U, U, U, U, U], [], h, none⟩ (bodyQ Try.prog T0 [(2, none), (3, none), (4, none)] R X)) :
 Runs Try.prog T0 (.fn 37) [v0] h R X := Runs.fn zoQ_t rfl k
abbrev zoQ_l0_M : List Nat := [0, 0, 0, 0, 0, 0, 0, 2, 2, 2, 1, 1, 1, 1, 1, 0, 0, 0, 0, 0, 0, 1, 1, 1, 1, 1, 1, 1, 1, 1, 1, 1, 1, 1, 1, 1, 1, 1, 1, 1, 1, 1, 1, 1, 1, 1, 1, 1, 1, 1, 1, 1, 1, 1, 1, 1, 1, 1, 1, 1, 1, 1, 1, 1, 1, 1, 1, 1, 1, 1, 1, 1, 1, 1, 1, 1, 1, 1, 1, 1, 1, 1, 1, 1, 1, 1, 1, 1, 1, 1, 1, 1, 1, 1, 1, 1, 1, 1, 0, 0, 0]
abbrev fn_zmbQ : FuncId := 38
def zmbQ_c : ACode :=
 (.seq (.region [
 o1 6 (.mov k0)]) (.seq (.seq (.region [
 o1 9 (.mov (tm 0)),
 o1 10 (.callV (.func 43) [(tm 9)])]) (.cond (tm 10)
 (.seq (.region [
 o1 6 (.mov (.const (.int .i64 1)))]) .ret)
 .skip)) (.seq (.region [
 o1 12 (.mov (tm 0)),
 o1 13 (.nilCheck (tm 12)),
 o1 14 (.fieldAddr 4 (tm 13)),
 o1 15 (.load none (tm 14)),
 o1 16 (.mov (tm 1)),
 o1 17 (.lookup (.int .i64) (.pointer none) true (tm 15) (tm 16)),
 o1 11 (.mov (tm 17)),
 o1 18 (.extract 0 (tm 11)),
 o1 19 (.extract 1 (tm 11)),
 o1 7 (.mov (tm 18)),
 o1 8 (.mov (tm 19))]) (.seq (.seq (.region [
 o1 20 (.mov (tm 8)),
 o1 21 (.raw (so (.unOp .not 4 (tm 20)) 4))]) (.cond (tm 21)
 (.seq (.region [
 o1 6 (.mov (.const (.int .i64 10)))]) .ret)
 .skip)) (.seq (.region [
 o1 22 (.mov (tm 2)),
 o1 23 (.mov (tm 7)),
 o1 24 (.callV (tm 22) [(tm 23)]),
 o1 6 (.mov (tm 24))]) .ret)))))
def zmbQ : AFunc := ⟨25, [(6, none)], zmbQ_c, none⟩
theorem zmbQ_t0 : tableOf Try.prog 38 = some zmbQ := by kernel_rfl
theorem zmbQ_t : T0 38 = some zmbQ := withKept_t rfl (withTrue_t rfl zmbQ_t0)
theorem zmbQ_runs {v0 v1 v2 : Value} {h : Heap} {R : RP} {X : XP} (k : RunC Try.prog T0 zmbQ_c ⟨[v0, v1, v2, U, U, U, U, U, U, U, U, U, U, U, U, U, U, U, U, U, U, U, U, U, U], [], h, none⟩ (bodyQ Try.prog T0 [(6, none)] R X)) :
 Runs Try.prog T0 (.fn 38) [v0, v1, v2] h R X := Runs.fn zmbQ_t rfl k
abbrev fn_zibQ : FuncId := 39
def zibQ_c : ACode :=
 (.seq (.region [
 o1 4 (.mov k0)]) (.seq (.regionD [
 o1 5 (.mov (tm 0)),
 o1 6 (.nilCheck (tm 5)),
 o1 7 (.fieldAddr 4 (tm 6)),
 o1 8 (.load none (tm 7)),
 o1 9 (.mov (tm 1)),
 o1 10 (.nilCheck (tm 9)),
 o1 11 (.fieldAddr 0 (tm 10)),
 o1 12 (.load none (tm 11)),
 ⟨none, .delete (.int .i64) (tm 8) (tm 12), none, [], true⟩]) (.seq (.regionD [
 o1 13 (.mov (tm 0)),
 o1 14 (.nilCheck (tm 13)),
 o1 15 (.fieldAddr 3 (tm 14)),
 o1 16 (.mkIface 87 (tm 15)),
 o1 17 (.mov (tm 0)),
 o1 18 (.nilCheck (tm 17)),
 o1 19 (.fieldAddr 3 (tm 18)),
 o1 20 (.load none (tm 19)),
 o1 21 (.mov (tm 1)),
 ⟨some 22, .callV (.func 60) [(tm 20), (tm 21)], none, [(some 16, .mkIface 87 (tm 15), none), (some 15, .fieldAddr 3 (tm 14), none), (some 14, .nilCheck (tm 13), none), (some 13, .mov (tm 0), none)], false⟩,
 o2 23 (.callV (.func 59) [(tm 16), (tm 22)])]) (.seq (.region [
 o1 4 (.mov k0)]) .ret))))
def zibQ : AFunc := ⟨24, [(4, none)], zibQ_c, none⟩
theorem zibQ_t0 : tableOf Try.prog 39 = some zibQ := by kernel_rfl
theorem zibQ_t : T0 39 = some zibQ := withKept_t rfl (withTrue_t rfl zibQ_t0)
theorem zibQ_runs {v0 v1 : Value} {h : Heap} {R : RP} {X : XP} (k : RunC Try.prog T0 zibQ_c ⟨[v0, v1, U, U, U, U, U, U, U, U, U, U, U, U, U, U, U, U, U, U, U, U, U, U], [], h, none⟩ (bodyQ Try.prog T0 [(4, none)] R X)) :
 Runs Try.prog T0 (.fn 39) [v0, v1] h R X := Runs.fn zibQ_t rfl k
abbrev fn_zhbQ : FuncId := 40
def zhbQ_c : ACode :=
 (.seq (.region [
 o1 5 (.mov k0)]) (.seq (.block 0 (.seq (.region [
 o1 8 (.load none (tm 1)),
 o1 9 (.callV (.func 41) [(tm 8)]),
 o1 10 (.raw (so (.unOp .not 4 (tm 9)) 4)),
 o1 7 (.mov (tm 10))]) (.cond (tm 7)
 (.seq (.region [
 o1 5 (.mov (.const (.int .i64 3)))]) .ret)
 (.seq (.regionD [
 o1 12 (.load none (tm 2)),
 o1 13 (.nilCheck (tm 12)),
 o1 14 (.fieldAddr 3 (tm 13)),
 o1 15 (.load none (tm 14)),
 o1 16 (.lenSl (tm 15)),
 o1 17 (.load none (tm 2)),
 o1 18 (.nilCheck (tm 17)),
 o1 19 (.fieldAddr 0 (tm 18)),
 o1 20 (.load none (tm 19)),
 o2 21 (.bin .geq (so (.binOp .geq 3 (tm 16) (tm 20) 3) 4) (tm 16) (tm 20)),
 o2 11 (.mov (tm 21))]) (.cond (tm 11)
 (.seq (.region [
 o1 5 (.mov (.const (.int .i64 7)))]) .ret)
 .skip))))) (.seq (.region [
 o1 22 (.mov (tm 0)),
 o1 23 (.nilCheck (tm 22)),
 o1 24 (.load (some 5) (tm 23)),
 o1 6 (.alloc 58 [(.int .i64 0), (.int .i64 0), (.int .i64 0), (.int .i64 0), (.slice none 0 0)]),
 o3 (.store 5 (tm 6) (tm 24))]) (.seq (.region [
 o1 25 (.load none (tm 1)),
 o1 26 (.fieldAddr 3 (tm 6)),
 o3 (.store 1 (tm 26) (tm 25))]) (.seq (.region [
 o1 27 (.load none (tm 2)),
 o1 28 (.load (some 5) (tm 6)),
 o1 29 (.callV (.func 42) [(tm 27), (tm 28)]),
 o3 (.store 1 (tm 3) (tm 29))]) (.seq (.region [
 o1 5 (.mov k0)]) .ret))))))
def zhbQ : AFunc := ⟨30, [(5, none)], zhbQ_c, none⟩
theorem zhbQ_t0 : tableOf Try.prog 40 = some zhbQ := by kernel_rfl
theorem zhbQ_t : T0 40 = some zhbQ := withKept_t rfl (withTrue_t rfl zhbQ_t0)
theorem zhbQ_runs {v0 v1 v2 v3 : Value} {h : Heap} {R : RP} {X : XP} (k : RunC Try.prog T0 zhbQ_c ⟨[v0, v1, v2, v3, U, U, U, U, U, U, U, U, U, U, U, U, U, U, U, U, U, U, U, U, U, U, U, U, U, U], [], h, none⟩ (bodyQ Try.prog T0 [(5, none)] R X)) :
 Runs Try.prog T0 (.fn 40) [v0, v1, v2, v3] h R X := Runs.fn zhbQ_t rfl k
abbrev fn_zpbQ : FuncId := 41
def zpbQ_c : ACode :=
 (.seq (.region [
 o1 2 (.mov (.const (.bool false)))]) (.seq (.region [
 o1 3 (.mov (tm 0)),
 o1 4 (.bin .geq (so (.binOp .geq 3 (tm 3) k0 3) 4) (tm 3) k0),
 o1 5 (.mov (tm 4)),
 o4 6 (.mov (tm 0)) 5,
 o4 7 (.bin .leq (so (.binOp .leq 3 (tm 6) (.const (.int .i64 1099511627776)) 3) 4) (tm 6) (.const (.int .i64 1099511627776))) 5,
 o1 8 (.pick (tm 5) (tm 7) (.const (.bool false))),
 o1 2 (.mov (tm 8))]) .ret))
def zpbQ : AFunc := ⟨9, [(2, none)], zpbQ_c, none⟩
theorem zpbQ_t0 : tableOf Try.prog 41 = some zpbQ := by kernel_rfl
theorem zpbQ_t : T0 41 = some zpbQ := withKept_t rfl (withTrue_t rfl zpbQ_t0)
theorem zpbQ_runs {v0 : Value} {h : Heap} {R : RP} {X : XP} (k : RunC Try.prog T0 zpbQ_c ⟨[v0, U, U, U, U, U, U, U, U], [], h, none⟩ (bodyQ Try.prog T0 [(2, none)] R X)) :
 Runs Try.prog T0 (.fn 41) [v0] h R X := Runs.fn zpbQ_t rfl k
abbrev fn_zjbQ : FuncId := 42
def zjbQ_c : ACode :=
 (.seq (.region [
 o1 3 (.box 58 (tm 1)),
 o1 4 (.mov k0)]) (.seq (.region [
 o1 5 (.mov (tm 0)),
 o1 6 (.nilCheck (tm 5)),
 o1 7 (.fieldAddr 1 (tm 6)),
 o1 8 (.load none (tm 7)),
 o1 9 (.bin .add (so (.binOp .add 3 (tm 8) (.const (.int .i64 1)) 3) 3) (tm 8) (.const (.int .i64 1))),
 o1 10 (.nilCheck (tm 5)),
 o1 11 (.fieldAddr 1 (tm 10)),
 o3 (.store 1 (tm 11) (tm 9))]) (.seq (.regionD [
 o1 12 (.mov (tm 0)),
 o1 13 (.nilCheck (tm 12)),
 o1 14 (.fieldAddr 1 (tm 13)),
 o1 15 (.load none (tm 14)),
 o1 16 (.fieldAddr 4 (tm 3)),
 o1 17 (.load none (tm 16)),
 ⟨some 18, .callV (.func 52) [(tm 17)], none, [(some 15, .load none (tm 14), none), (some 14, .fieldAddr 1 (tm 13), none), (some 13, .nilCheck (tm 12), none), (some 12, .mov (tm 0), none)], false⟩,
 o2 19 (.fieldAddr 0 (tm 3)),
 ⟨none, .store 1 (tm 19) (tm 15), none, [], true⟩,
 o2 20 (.fieldAddr 4 (tm 3)),
 ⟨none, .store 1 (tm 20) (tm 18), none, [], true⟩]) (.seq (.regionD [
 o1 21 (.mov (tm 0)),
 o1 22 (.nilCheck (tm 21)),
 o1 23 (.fieldAddr 4 (tm 22)),
 o1 24 (.load none (tm 23)),
 o1 25 (.fieldAddr 0 (tm 3)),
 o1 26 (.load none (tm 25)),
 ⟨none, .mapUpdate (.int .i64) (tm 24) (tm 26) (tm 3), none, [], true⟩]) (.seq (.region [
 o1 27 (.mov (tm 0)),
 o1 28 (.nilCheck (tm 27)),
 o1 29 (.fieldAddr 3 (tm 28)),
 o1 30 (.mkIface 87 (tm 29)),
 o1 31 (.mkIface 74 (tm 3)),
 o1 32 (.callV (.func 61) [(tm 30), (tm 31)])]) (.seq (.region [
 o1 33 (.fieldAddr 0 (tm 3)),
 o1 34 (.load none (tm 33)),
 o1 4 (.mov (tm 34))]) .ret))))))
def zjbQ : AFunc := ⟨35, [(4, none)], zjbQ_c, none⟩
theorem zjbQ_t0 : tableOf Try.prog 42 = some zjbQ := by kernel_rfl
theorem zjbQ_t : T0 42 = some zjbQ := withKept_t rfl (withTrue_t rfl zjbQ_t0)
theorem zjbQ_runs {v0 v1 : Value} {h : Heap} {R : RP} {X : XP} (k : RunC Try.prog T0 zjbQ_c ⟨[v0, v1, U, U, U, U, U, U, U, U, U, U, U, U, U, U, U, U, U, U, U, U, U, U, U, U, U, U, U, U, U, U, U, U, U], [], h, none⟩ (bodyQ Try.prog T0 [(4, none)] R X)) :
 Runs Try.prog T0 (.fn 42) [v0, v1] h R X := Runs.fn zjbQ_t rfl k
abbrev fn_zlbQ : FuncId := 43
def zlbQ_c : ACode :=
 (.seq (.region [
 o1 2 (.mov (.const (.bool false)))]) (.seq (.region [
 o1 3 (.mov (tm 0)),
 o1 4 (.eq .ptr false (so (.binOp .eql 22 (tm 3) (.const (.pointer none)) 22) 4) (tm 3) (.const (.pointer none))),
 o1 5 (.mov (tm 4)),
 o5 6 (.mov (tm 0)) 5,
 o5 7 (.nilCheck (tm 6)) 5,
 o5 8 (.fieldAddr 4 (tm 7)) 5,
 o5 9 (.load none (tm 8)) 5,
 o5 10 (.eq .map false (so (.binOp .eql 63 (tm 9) (.const (.map none)) 63) 4) (tm 9) (.const (.map none))) 5,
 o1 11 (.pick (tm 5) (.const (.bool true)) (tm 10)),
 o1 2 (.mov (tm 11))]) .ret))
def zlbQ : AFunc := ⟨12, [(2, none)], zlbQ_c, none⟩
theorem zlbQ_t0 : tableOf Try.prog 43 = some zlbQ := by kernel_rfl
theorem zlbQ_t : T0 43 = some zlbQ := withKept_t rfl (withTrue_t rfl zlbQ_t0)
theorem zlbQ_runs {v0 : Value} {h : Heap} {R : RP} {X : XP} (k : RunC Try.prog T0 zlbQ_c ⟨[v0, U, U, U, U, U, U, U, U, U, U, U], [], h, none⟩ (bodyQ Try.prog T0 [(2, none)] R X)) :
 Runs Try.prog T0 (.fn 43) [v0] h R X := Runs.fn zlbQ_t rfl k
abbrev fn_zqbQ : FuncId := 44
def zqbQ_c : ACode :=
 (.seq (.region [
 o1 2 (.mov (.const (.bool false)))]) (.seq (.region [
 o1 3 (.mov (tm 0)),
 o1 4 (.bin .geq (so (.binOp .geq 3 (tm 3) k0 3) 4) (tm 3) k0),
 o1 5 (.mov (tm 4)),
 o4 6 (.mov (tm 0)) 5,
 o4 7 (.bin .leq (so (.binOp .leq 3 (tm 6) (.const (.int .i64 16)) 3) 4) (tm 6) (.const (.int .i64 16))) 5,
 o1 8 (.pick (tm 5) (tm 7) (.const (.bool false))),
 o1 2 (.mov (tm 8))]) .ret))
def zqbQ : AFunc := ⟨9, [(2, none)], zqbQ_c, none⟩
theorem zqbQ_t0 : tableOf Try.prog 44 = some zqbQ := by kernel_rfl
theorem zqbQ_t : T0 44 = some zqbQ := withKept_t rfl (withTrue_t rfl zqbQ_t0)
theorem zqbQ_runs {v0 : Value} {h : Heap} {R : RP} {X : XP} (k : RunC Try.prog T0 zqbQ_c ⟨[v0, U, U, U, U, U, U, U, U], [], h, none⟩ (bodyQ Try.prog T0 [(2, none)] R X)) :
 Runs Try.prog T0 (.fn 44) [v0] h R X := Runs.fn zqbQ_t rfl k
abbrev fn_ziQ : FuncId := 48
def ziQ_c : ACode :=
 (.seq (.region [
 o1 4 (.mov (.const (.bool false)))]) (.seq (.region [
 o1 5 (.mov (tm 0)),
 o1 6 (.bytesToStr (tm 5)),
 o1 7 (.mov (tm 1)),
 o1 8 (.bytesToStr (tm 7)),
 o1 9 (.bin .eql (so (.binOp .eql 9 (tm 6) (tm 8) 9) 4) (tm 6) (tm 8)),
 o1 4 (.mov (tm 9))]) .ret))
def ziQ : AFunc := ⟨10, [(4, none)], ziQ_c, none⟩
theorem ziQ_t0 : tableOf Try.prog 48 = some ziQ := by kernel_rfl
theorem ziQ_t : T0 48 = some ziQ := withKept_t rfl (withTrue_t rfl ziQ_t0)
theorem ziQ_runs {v0 v1 : Value} {h : Heap} {R : RP} {X : XP} (k : RunC Try.prog T0 ziQ_c ⟨[v0, v1, U, U, U, U, U, U, U, U], [], h, none⟩ (bodyQ Try.prog T0 [(4, none)] R X)) :
 Runs Try.prog T0 (.fn 48) [v0, v1] h R X := Runs.fn ziQ_t rfl k
abbrev fn_zecQ : FuncId := 49
def zecQ_c : ACode :=
 (.seq (.region [
 o1 4 (.mov (.const (.slice none 0 0)))]) (.seq (.region [
 o1 6 (.mov (tm 0)),
 o1 7 (.callV (.func 62) [(tm 6)]),
 o1 5 (.mov (tm 7))]) (.seq (.region [
 o1 8 (.mov (tm 5)),
 o1 9 (.mov (tm 1)),
 o1 10 (.callV (.func 63) [(tm 8), (tm 9)])]) (.seq (.region [
 o1 11 (.mov (tm 5)),
 o1 4 (.mov (tm 11))]) .ret))))
def zecQ : AFunc := ⟨12, [(4, none)], zecQ_c, none⟩
theorem zecQ_t0 : tableOf Try.prog 49 = some zecQ := by kernel_rfl
theorem zecQ_t : T0 49 = some zecQ := withKept_t rfl (withTrue_t rfl zecQ_t0)
theorem zecQ_runs {v0 v1 : Value} {h : Heap} {R : RP} {X : XP} (k : RunC Try.prog T0 zecQ_c ⟨[v0, v1, U, U, U, U, U, U, U, U, U, U], [], h, none⟩ (bodyQ Try.prog T0 [(4, none)] R X)) :
 Runs Try.prog T0 (.fn 49) [v0, v1] h R X := Runs.fn zecQ_t rfl k
abbrev fn_zfcQ : FuncId := 50
def zfcQ_c : ACode :=
 (.seq (.region [
 o1 1 (.box 62 (tm 0)),
 o1 2 (.mov (.const .nilFunc))]) (.seq (.region [
 o1 3 (.mkFunc (.func 64) [] [(tm 1)]),
 o1 2 (.mov (tm 3))]) .ret))
def zfcQ : AFunc := ⟨4, [(2, none)], zfcQ_c, none⟩
theorem zfcQ_t0 : tableOf Try.prog 50 = some zfcQ := by kernel_rfl
theorem zfcQ_t : T0 50 = some zfcQ := withKept_t rfl (withTrue_t rfl zfcQ_t0)
theorem zfcQ_runs {v0 : Value} {h : Heap} {R : RP} {X : XP} (k : RunC Try.prog T0 zfcQ_c ⟨[v0, U, U, U], [], h, none⟩ (bodyQ Try.prog T0 [(2, none)] R X)) :
 Runs Try.prog T0 (.fn 50) [v0] h R X := Runs.fn zfcQ_t rfl k
abbrev fn_zobQ : FuncId := 51
def zobQ_c : ACode :=
 (.seq (.region [
 o1 4 (.mov k0)]) (.seq (.regionD [
 o1 5 (.mov (tm 0)),
 o1 6 (.nilCheck (tm 5)),
 o1 7 (.fieldAddr 3 (tm 6)),
 o1 8 (.load none (tm 7)),
 o1 9 (.mov (tm 1)),
 o1 10 (.nilCheck (tm 9)),
 o1 11 (.fieldAddr 3 (tm 10)),
 o1 12 (.load none (tm 11)),
 o1 14 (.mov (tm 0)),
 o1 15 (.nilCheck (tm 14)),
 o1 16 (.fieldAddr 0 (tm 15)),
 o1 17 (.load none (tm 16)),
 o1 18 (.mov (tm 1)),
 o1 19 (.nilCheck (tm 18)),
 o1 20 (.fieldAddr 0 (tm 19)),
 o1 21 (.load none (tm 20)),
 ⟨some 13, .callV (.func 66) [(tm 8), (tm 12)], none, [(some 21, .load none (tm 20), none), (some 20, .fieldAddr 0 (tm 19), none), (some 19, .nilCheck (tm 18), none), (some 18, .mov (tm 1), none), (some 17, .load none (tm 16), none), (some 16, .fieldAddr 0 (tm 15), none), (some 15, .nilCheck (tm 14), none), (some 14, .mov (tm 0), none)], false⟩,
 o2 22 (.callV (.func 66) [(tm 17), (tm 21)]),
 o2 23 (.buildSlice 3 [(.int .i64 0), (.int .i64 0)] 2 [(0, 1, (tm 13)), (1, 1, (tm 22))]),
 o2 24 (.callV (.func 65) [(tm 23)]),
 o2 4 (.mov (tm 24))]) .ret))
def zobQ : AFunc := ⟨25, [(4, none)], zobQ_c, none⟩
theorem zobQ_t0 : tableOf Try.prog 51 = some zobQ := by kernel_rfl
theorem zobQ_t : T0 51 = some zobQ := withKept_t rfl (withTrue_t rfl zobQ_t0)
theorem zobQ_runs {v0 v1 : Value} {h : Heap} {R : RP} {X : XP} (k : RunC Try.prog T0 zobQ_c ⟨[v0, v1, U, U, U, U, U, U, U, U, U, U, U, U, U, U, U, U, U, U, U, U, U, U, U], [], h, none⟩ (bodyQ Try.prog T0 [(4, none)] R X)) :
 Runs Try.prog T0 (.fn 51) [v0, v1] h R X := Runs.fn zobQ_t rfl k
abbrev fn_zacQ : FuncId := 52
def zacQ_c : ACode :=
 (.seq (.region [
 o1 2 (.mov (.const (.slice none 0 0)))]) (.seq (.seq (.region [
 o1 3 (.mov (tm 0)),
 o1 4 (.eq .slice false (so (.binOp .eql 38 (tm 3) (.const (.slice none 0 0)) 38) 4) (tm 3) (.const (.slice none 0 0)))]) (.cond (tm 4)
 (.seq (.region [
 o1 2 (.mov (.const (.slice none 0 0)))]) .ret)
 .skip)) (.seq (.region [
 o1 5 (.buildSlice 5 [] 0 []),
 o1 6 (.mov (tm 0)),
 o1 7 (.append 5 1 1 [(.int .u8 0)] false (tm 5) (tm 6)),
 o1 2 (.mov (tm 7))]) .ret)))
def zacQ : AFunc := ⟨8, [(2, none)], zacQ_c, none⟩
theorem zacQ_t0 : tableOf Try.prog 52 = some zacQ := by kernel_rfl
theorem zacQ_t : T0 52 = some zacQ := withKept_t rfl (withTrue_t rfl zacQ_t0)
theorem zacQ_runs {v0 : Value} {h : Heap} {R : RP} {X : XP} (k : RunC Try.prog T0 zacQ_c ⟨[v0, U, U, U, U, U, U, U], [], h, none⟩ (bodyQ Try.prog T0 [(2, none)] R X)) :
 Runs Try.prog T0 (.fn 52) [v0] h R X := Runs.fn zacQ_t rfl k
abbrev fn_zxQ : FuncId := 55
def zxQ_c : ACode :=
 (.seq (.region [
 o1 4 (.mov k0)]) (.seq (.seq (.region [
 o1 5 (.load none (tm 1)),
 o1 6 (.callV (.func 41) [(tm 5)]),
 o1 7 (.raw (so (.unOp .not 4 (tm 6)) 4))]) (.cond (tm 7)
 (.seq (.region [
 o1 4 (.mov (.const (.int .i64 3)))]) .ret)
 .skip)) (.seq (.region [
 o1 8 (.load none (tm 2)),
 o1 9 (.mov (tm 0)),
 o1 10 (.load none (tm 1)),
 o1 11 (.callV (.func 56) [(tm 8), (tm 9), (tm 10)])]) (.seq (.region [
 o1 4 (.mov k0)]) .ret))))
def zxQ : AFunc := ⟨12, [(4, none)], zxQ_c, none⟩
theorem zxQ_t0 : tableOf Try.prog 55 = some zxQ := by kernel_rfl
theorem zxQ_t : T0 55 = some zxQ := withKept_t rfl (withTrue_t rfl zxQ_t0)
theorem zxQ_runs {v0 v1 v2 : Value} {h : Heap} {R : RP} {X : XP} (k : RunC Try.prog T0 zxQ_c ⟨[v0, v1, v2, U, U, U, U, U, U, U, U, U], [], h, none⟩ (bodyQ Try.prog T0 [(4, none)] R X)) :
 Runs Try.prog T0 (.fn 55) [v0, v1, v2] h R X := Runs.fn zxQ_t rfl k
abbrev fn_zkbQ : FuncId := 56
def zkbQ_c : ACode :=
 (.seq (.region [
 o1 6 (.mov (tm 1)),
 o1 7 (.mov (tm 2)),
 o1 8 (.nilCheck (tm 6)),
 o1 9 (.fieldAddr 3 (tm 8)),
 o3 (.store 1 (tm 9) (tm 7))]) (.regionD [
 o1 10 (.mov (tm 0)),
 o1 11 (.nilCheck (tm 10)),
 o1 12 (.fieldAddr 3 (tm 11)),
 o1 13 (.mkIface 87 (tm 12)),
 o1 14 (.mov (tm 0)),
 o1 15 (.nilCheck (tm 14)),
 o1 16 (.fieldAddr 3 (tm 15)),
 o1 17 (.load none (tm 16)),
 o1 18 (.mov (tm 1)),
 ⟨some 19, .callV (.func 60) [(tm 17), (tm 18)], none, [(some 13, .mkIface 87 (tm 12), none), (some 12, .fieldAddr 3 (tm 11), none), (some 11, .nilCheck (tm 10), none), (some 10, .mov (tm 0), none)], false⟩,
 o2 20 (.callV (.func 67) [(tm 13), (tm 19)])]))
def zkbQ : AFunc := ⟨21, [], zkbQ_c, none⟩
theorem zkbQ_t0 : tableOf Try.prog 56 = some zkbQ := by kernel_rfl
theorem zkbQ_t : T0 56 = some zkbQ := withKept_t rfl (withTrue_t rfl zkbQ_t0)
theorem zkbQ_runs {v0 v1 v2 : Value} {h : Heap} {R : RP} {X : XP} (k : RunC Try.prog T0 zkbQ_c ⟨[v0, v1, v2, U, U, U, U, U, U, U, U, U, U, U, U, U, U, U, U, U, U], [], h, none⟩ (bodyQ Try.prog T0 [] R X)) :
 Runs Try.prog T0 (.fn 56) [v0, v1, v2] h R X := Runs.fn zkbQ_t rfl k
abbrev fn_zebQ : FuncId := 57
def zebQ_c : ACode :=
 (.seq (.region [
 o1 3 (.box 74 (tm 0)),
 o1 4 (.mov k0)]) (.seq (.region [
 o1 5 (.load none (tm 1)),
 o1 6 (.load none (tm 2)),
 o1 7 (.mkFunc (.func 58) [] [(tm 3), (tm 1)]),
 o1 8 (.callV (.func 38) [(tm 5), (tm 6), (tm 7)]),
 o1 4 (.mov (tm 8))]) .ret))
def zebQ : AFunc := ⟨9, [(4, none)], zebQ_c, none⟩
theorem zebQ_t0 : tableOf Try.prog 57 = some zebQ := by kernel_rfl
theorem zebQ_t : T0 57 = some zebQ := withKept_t rfl (withTrue_t rfl zebQ_t0)
theorem zebQ_runs {v0 v1 v2 : Value} {h : Heap} {R : RP} {X : XP} (k : RunC Try.prog T0 zebQ_c ⟨[v0, v1, v2, U, U, U, U, U, U], [], h, none⟩ (bodyQ Try.prog T0 [(4, none)] R X)) :
 Runs Try.prog T0 (.fn 57) [v0, v1, v2] h R X := Runs.fn zebQ_t rfl k
abbrev fn_zfbQ : FuncId := 58
def zfbQ_c : ACode :=
 (.seq (.region [
 o1 4 (.mov k0)]) (.seq (.regionD [
 o1 7 (.load none (tm 1)),
 o1 8 (.nilCheck (tm 7)),
 o1 9 (.fieldAddr 3 (tm 8)),
 o1 10 (.load none (tm 9)),
 o1 11 (.mov (tm 0)),
 o1 12 (.nilCheck (tm 11)),
 o1 13 (.fieldAddr 3 (tm 12)),
 o1 14 (.load none (tm 13)),
 o1 5 (.mov (tm 10)),
 o2 6 (.mov (tm 14))]) (.seq (.region [
 o1 15 (.load none (tm 2)),
 o1 16 (.load none (tm 1)),
 o1 17 (.mov (tm 6)),
 o1 18 (.callV (.func 56) [(tm 15), (tm 16), (tm 17)])]) (.seq (.region [
 o1 19 (.load none (tm 2)),
 o1 20 (.mov (tm 0)),
 o1 21 (.mov (tm 5)),
 o1 22 (.callV (.func 56) [(tm 19), (tm 20), (tm 21)])]) (.seq (.region [
 o1 4 (.mov k0)]) .ret)))))
def zfbQ : AFunc := ⟨23, [(4, none)], zfbQ_c, none⟩
theorem zfbQ_t0 : tableOf Try.prog 58 = some zfbQ := by kernel_rfl
theorem zfbQ_t : T0 58 = some zfbQ := withKept_t rfl (withTrue_t rfl zfbQ_t0)
theorem zfbQ_runs {v0 v1 v2 : Value} {h : Heap} {R : RP} {X : XP} (k : RunC Try.prog T0 zfbQ_c ⟨[v0, v1, v2, U, U, U, U, U, U, U, U, U, U, U, U, U, U, U, U, U, U, U, U], [], h, none⟩ (bodyQ Try.prog T0 [(4, none)] R X)) :
 Runs Try.prog T0 (.fn 58) [v0, v1, v2] h R X := Runs.fn zfbQ_t rfl k
abbrev fn_zfQ : FuncId := 59
def zfQ_c : ACode :=
 (.seq (.region [
 o1 4 (.mov (.const .nilIface))]) (.seq (.region [
 o1 6 (.mov (tm 0)),
 o1 7 (.invoke (tm 6) "Len" []),
 o1 8 (.bin .sub (so (.binOp .sub 3 (tm 7) (.const (.int .i64 1)) 3) 3) (tm 7) (.const (.int .i64 1))),
 o1 5 (.mov (tm 8))]) (.seq (.seq (.region [
 o1 9 (.mov (tm 5)),
 o1 10 (.mov (tm 1)),
 o1 11 (.bin .neq (so (.binOp .neq 3 (tm 9) (tm 10) 3) 4) (tm 9) (tm 10))]) (.cond (tm 11)
 (.seq (.region [
 o1 12 (.mov (tm 0)),
 o1 13 (.mov (tm 1)),
 o1 14 (.mov (tm 5)),
 o1 15 (.invoke (tm 12) "Swap" [(tm 13), (tm 14)])]) (.seq (.region [
 o1 16 (.mov (tm 0)),
 o1 17 (.mov (tm 1)),
 o1 18 (.mov (tm 5)),
 o1 19 (.callV (.func 68) [(tm 16), (tm 17), (tm 18)]),
 o1 20 (.raw (so (.unOp .not 4 (tm 19)) 4))]) (.cond (tm 20)
 (.region [
 o1 21 (.mov (tm 0)),
 o1 22 (.mov (tm 1)),
 o1 23 (.callV (.func 69) [(tm 21), (tm 22)])])
 .skip)))
 .skip)) (.seq (.region [
 o1 24 (.mov (tm 0)),
 o1 25 (.invoke (tm 24) "Pop" []),
 o1 4 (.mov (tm 25))]) .ret))))
def zfQ : AFunc := ⟨26, [(4, none)], zfQ_c, none⟩
theorem zfQ_t0 : tableOf Try.prog 59 = some zfQ := by kernel_rfl
theorem zfQ_t : T0 59 = some zfQ := withKept_t rfl (withTrue_t rfl zfQ_t0)
theorem zfQ_runs {v0 v1 : Value} {h : Heap} {R : RP} {X : XP} (k : RunC Try.prog T0 zfQ_c ⟨[v0, v1, U, U, U, U, U, U, U, U, U, U, U, U, U, U, U, U, U, U, U, U, U, U, U, U], [], h, none⟩ (bodyQ Try.prog T0 [(4, none)] R X)) :
 Runs Try.prog T0 (.fn 59) [v0, v1] h R X := Runs.fn zfQ_t rfl k
abbrev fn_zccQ : FuncId := 60
def zccQ_l0 : ACode :=
 (.seq (.region [
 o1 9 (.bin .lss (so (.binOp .lss 3 (tm 8) (tm 7) 3) 0) (tm 8) (tm 7))]) (.seq (.cond (tm 9)
 .skip
 (.exit 0)) (.seq (.block 1 (.seq (.region [
 o1 10 (.mov (tm 8)),
 o1 5 (.mov (tm 10))]) (.seq (.region [
 o1 11 (.mov (tm 1)),
 o1 12 (.mov (tm 0)),
 o1 13 (.mov (tm 5)),
 o1 14 (.indexSl 1 (tm 12) (tm 13)),
 o1 15 (.load none (tm 14)),
 o1 16 (.eq .ptr false (so (.binOp .eql 74 (tm 11) (tm 15) 74) 4) (tm 11) (tm 15))]) (.cond (tm 16)
 (.seq (.region [
 o1 17 (.mov (tm 5)),
 o1 4 (.mov (tm 17))]) .ret)
 .skip)))) (.region [
 o1 18 (.bin .add (so (.binOp .add 3 (tm 8) (.const (.int .i64 1)) 3) 3) (tm 8) (.const (.int .i64 1))),
 o1 8 (.mov (tm 18))]))))
def zccQ_c : ACode :=
 (.seq (.region [
 o1 4 (.mov k0)]) (.seq (.seq (.region [
 o1 6 (.mov (tm 0)),
 o1 7 (.lenSl (tm 6)),
 o1 8 (.mov k0)]) (.block 0 (.loop zccQ_l0))) (.seq (.region [
 o1 4 (.mov (.const (.int .i64 (-1))))]) .ret)))
def zccQ : AFunc := ⟨19, [(4, none)], zccQ_c, none⟩
theorem zccQ_t0 : tableOf Try.prog 60 = some zccQ := by kernel_rfl
theorem zccQ_t : T0 60 = some zccQ := withKept_t rfl (withTrue_t rfl zccQ_t0)
theorem zccQ_runs {v0 v1 : Value} {h : Heap} {R : RP} {X : XP} (k : RunC Try.prog T0 zccQ_c ⟨[v0, v1, U, U, U, U, U, U, U, U, U, U, U, U, U, U, U, U, U], [], h, none⟩ (bodyQ Try.prog T0 [(4, none)] R X)) :
 Runs Try.prog T0 (.fn 60) [v0, v1] h R X := Runs.fn zccQ_t rfl k
abbrev zccQ_l0_M : List Nat := [0, 0, 0, 0, 1, 1, 0, 0, 2, 1, 1, 1, 1, 1, 1, 1, 1, 1, 1]
abbrev fn_zeQ : FuncId := 61
def zeQ_c : ACode :=
 (.seq (.region [
 o1 4 (.mov (tm 0)),
 o1 5 (.mov (tm 1)),
 o1 6 (.invoke (tm 4) "Push" [(tm 5)])]) (.region [
 o1 7 (.mov (tm 0)),
 o1 8 (.mov (tm 0)),
 o1 9 (.invoke (tm 8) "Len" []),
 o1 10 (.bin .sub (so (.binOp .sub 3 (tm 9) (.const (.int .i64 1)) 3) 3) (tm 9) (.const (.int .i64 1))),
 o1 11 (.callV (.func 69) [(tm 7), (tm 10)])]))
def zeQ : AFunc := ⟨12, [], zeQ_c, none⟩
theorem zeQ_t0 : tableOf Try.prog 61 = some zeQ := by kernel_rfl
theorem zeQ_t : T0 61 = some zeQ := withKept_t rfl (withTrue_t rfl zeQ_t0)
theorem zeQ_runs {v0 v1 : Value} {h : Heap} {R : RP} {X : XP} (k : RunC Try.prog T0 zeQ_c ⟨[v0, v1, U, U, U, U, U, U, U, U, U, U], [], h, none⟩ (bodyQ Try.prog T0 [] R X)) :
 Runs Try.prog T0 (.fn 61) [v0, v1] h R X := Runs.fn zeQ_t rfl k
def zbcQ_c : ACode :=
 (.seq (.region [
 o1 2 (.mov (.const (.slice none 0 0)))]) (.seq (.region [
 o1 3 (.mov (tm 0)),
 o1 4 (.callV (.func 70) [(.const (.slice none 0 0)), (tm 3)]),
 o1 2 (.mov (tm 4))]) .ret))
def zbcQ : AFunc := ⟨5, [(2, none)], zbcQ_c, none⟩
theorem zbcQ_t0 : tableOf Try.prog 62 = some zbcQ := by kernel_rfl
theorem zbcQ_t : T0 62 = some zbcQ := withKept_t rfl (withTrue_t rfl zbcQ_t0)
theorem zbcQ_runs {v0 : Value} {h : Heap} {R : RP} {X : XP} (k : RunC Try.prog T0 zbcQ_c ⟨[v0, U, U, U, U], [], h, none⟩ (bodyQ Try.prog T0 [(2, none)] R X)) :
 Runs Try.prog T0 (.fn 62) [v0] h R X := Runs.fn zbcQ_t rfl k
abbrev fn_zdcQ : FuncId := 63
def zdcQ_c : ACode :=
 (.seq (.region [
 o1 5 (.mov (tm 0)),
 o1 6 (.lenSl (tm 5)),
 o1 4 (.mov (tm 6))]) (.region [
 o1 7 (.mov (tm 0)),
 o1 8 (.mov (tm 4)),
 o1 9 (.mov (tm 4)),
 o1 10 (.conv .u64 (so (.convert 3 104 (tm 9)) 104) (tm 9)),
 o1 11 (.callV (.func 72) [(tm 10)]),
 o1 12 (.mov (tm 1)),
 o1 13 (.callV (.func 71) [(tm 7), k0, (tm 8), (tm 11), (tm 12)])]))
def zdcQ : AFunc := ⟨14, [], zdcQ_c, none⟩
theorem zdcQ_t0 : tableOf Try.prog 63 = some zdcQ := by kernel_rfl
theorem zdcQ_t : T0 63 = some zdcQ := withKept_t rfl (withTrue_t rfl zdcQ_t0)
theorem zdcQ_runs {v0 v1 : Value} {h : Heap} {R : RP} {X : XP} (k : RunC Try.prog T0 zdcQ_c ⟨[v0, v1, U, U, U, U, U, U, U, U, U, U, U, U], [], h, none⟩ (bodyQ Try.prog T0 [] R X)) :
 Runs Try.prog T0 (.fn 63) [v0, v1] h R X := Runs.fn zdcQ_t rfl k
abbrev fn_zgcQ : FuncId := 64
def zgcQ_l0 : ACode :=
 (.seq (.region [
 o1 8 (.bin .lss (so (.binOp .lss 3 (tm 7) (tm 6) 3) 0) (tm 7) (tm 6))]) (.seq (.cond (tm 8)
 .skip
 (.exit 0)) (.seq (.block 1 (.seq (.region [
 o1 9 (.indexSl 1 (tm 5) (tm 7)),
 o1 10 (.load none (tm 9)),
 o1 4 (.mov (tm 10))]) (.seq (.region [
 o1 11 (.mov (tm 0)),
 o1 12 (.mov (tm 4)),
 o1 13 (.callV (tm 11) [(tm 12)]),
 o1 14 (.raw (so (.unOp .not 4 (tm 13)) 4))]) (.cond (tm 14)
 .ret
 .skip)))) (.region [
 o1 15 (.bin .add (so (.binOp .add 3 (tm 7) (.const (.int .i64 1)) 3) 3) (tm 7) (.const (.int .i64 1))),
 o1 7 (.mov (tm 15))]))))
def zgcQ_c : ACode :=
 (.seq (.region [
 o1 5 (.load none (tm 1)),
 o1 6 (.lenSl (tm 5)),
 o1 7 (.mov k0)]) (.block 0 (.loop zgcQ_l0)))
def zgcQ : AFunc := ⟨16, [], zgcQ_c, none⟩
theorem zgcQ_t0 : tableOf Try.prog 64 = some zgcQ := by kernel_rfl
theorem zgcQ_t : T0 64 = some zgcQ := withKept_t rfl (withTrue_t rfl zgcQ_t0)
theorem zgcQ_runs {v0 v1 : Value} {h : Heap} {R : RP} {X : XP} (k : RunC Try.prog T0 zgcQ_c ⟨[v0, v1, U, U, U, U, U, U, U, U, U, U, U, U, U, U], [], h, none⟩ (bodyQ Try.prog T0 [] R X)) :
 Runs Try.prog T0 (.fn 64) [v0, v1] h R X := Runs.fn zgcQ_t rfl k
abbrev zgcQ_l0_M : List Nat := [0, 0, 0, 0, 1, 0, 0, 2, 1, 1, 1, 1, 1, 1, 1, 1]
abbrev fn_zbQ : FuncId := 65
def zbQ_l0 : ACode :=
 (.seq (.region [
 o1 9 (.bin .lss (so (.binOp .lss 3 (tm 8) (tm 7) 3) 0) (tm 8) (tm 7))]) (.seq (.cond (tm 9)
 .skip
 (.exit 0)) (.seq (.block 1 (.seq (.region [
 o1 10 (.indexSl 1 (tm 6) (tm 8)),
 o1 11 (.load none (tm 10)),
 o1 5 (.mov (tm 11))]) (.seq (.region [
 o1 12 (.mov (tm 5)),
 o1 13 (.mov (tm 3)),
 o1 14 (.bin .neq (so (.binOp .neq 3 (tm 12) (tm 13) 3) 4) (tm 12) (tm 13))]) (.cond (tm 14)
 (.seq (.region [
 o1 15 (.mov (tm 5)),
 o1 2 (.mov (tm 15))]) .ret)
 .skip)))) (.region [
 o1 16 (.bin .add (so (.binOp .add 3 (tm 8) (.const (.int .i64 1)) 3) 3) (tm 8) (.const (.int .i64 1))),
 o1 8 (.mov (tm 16))]))))
def zbQ_c : ACode :=
 (.seq (.region [
 o1 2 (.mov k0)]) (.seq (.region [
 o1 3 (.mov k0)]) (.seq (.seq (.region [
 o1 6 (.mov (tm 0)),
 o1 7 (.lenSl (tm 6)),
 o1 8 (.mov k0)]) (.block 0 (.loop zbQ_l0))) (.seq (.region [
 o1 17 (.mov (tm 3)),
 o1 2 (.mov (tm 17))]) .ret))))
def zbQ : AFunc := ⟨18, [(2, none)], zbQ_c, none⟩
theorem zbQ_t0 : tableOf Try.prog 65 = some zbQ := by kernel_rfl
theorem zbQ_t : T0 65 = some zbQ := withKept_t rfl (withTrue_t rfl zbQ_t0)
theorem zbQ_runs {v0 : Value} {h : Heap} {R : RP} {X : XP} (k : RunC Try.prog T0 zbQ_c ⟨[v0, U, U, U, U, U, U, U, U, U, U, U, U, U, U, U, U, U], [], h, none⟩ (bodyQ Try.prog T0 [(2, none)] R X)) :
 Runs Try.prog T0 (.fn 65) [v0] h R X := Runs.fn zbQ_t rfl k
abbrev zbQ_l0_M : List Nat := [0, 0, 1, 0, 0, 1, 0, 0, 2, 1, 1, 1, 1, 1, 1, 1, 1, 0]
abbrev fn_zaQ : FuncId := 66
def zaQ_c : ACode :=
 (.seq (.region [
 o1 4 (.mov k0)]) (.seq (.region [
 o1 7 (.mov (tm 0)),
 o1 8 (.callV (.func 73) [(tm 7)]),
 o1 5 (.mov (tm 8))]) (.seq (.region [
 o1 9 (.mov (tm 1)),
 o1 10 (.callV (.func 73) [(tm 9)]),
 o1 6 (.mov (tm 10))]) (.seq (.seq (.region [
 o1 11 (.mov (tm 5))]) (.cond (tm 11)
 (.seq (.seq (.region [
 o1 12 (.mov (tm 6))]) (.cond (tm 12)
 (.seq (.region [
 o1 4 (.mov k0)]) .ret)
 .skip)) (.seq (.region [
 o1 4 (.mov (.const (.int .i64 (-1))))]) .ret))
 .skip)) (.seq (.seq (.region [
 o1 13 (.mov (tm 6))]) (.cond (tm 13)
 (.seq (.region [
 o1 4 (.mov (.const (.int .i64 1)))]) .ret)
 .skip)) (.seq (.seq (.region [
 o1 14 (.mov (tm 0)),
 o1 15 (.mov (tm 1)),
 o1 16 (.bin .lss (so (.binOp .lss 3 (tm 14) (tm 15) 3) 4) (tm 14) (tm 15))]) (.cond (tm 16)
 (.seq (.region [
 o1 4 (.mov (.const (.int .i64 (-1))))]) .ret)
 .skip)) (.seq (.seq (.region [
 o1 17 (.mov (tm 0)),
 o1 18 (.mov (tm 1)),
 o1 19 (.bin .gtr (so (.binOp .gtr 3 (tm 17) (tm 18) 3) 4) (tm 17) (tm 18))]) (.cond (tm 19)
 (.seq (.region [
 o1 4 (.mov (.const (.int .i64 1)))]) .ret)
 .skip)) (.seq (.region [
 o1 4 (.mov k0)]) .ret))))))))
def zaQ : AFunc := ⟨20, [(4, none)], zaQ_c, none⟩
theorem zaQ_t0 : tableOf Try.prog 66 = some zaQ := by kernel_rfl
theorem zaQ_t : T0 66 = some zaQ := withKept_t rfl (withTrue_t rfl zaQ_t0)
theorem zaQ_runs {v0 v1 : Value} {h : Heap} {R : RP} {X : XP} (k : RunC Try.prog T0 zaQ_c ⟨[v0, v1, U, U, U, U, U, U, U, U, U, U, U, U, U, U, U, U, U, U], [], h, none⟩ (bodyQ Try.prog T0 [(4, none)] R X)) :
 Runs Try.prog T0 (.fn 66) [v0, v1] h R X := Runs.fn zaQ_t rfl k
abbrev fn_zdQ : FuncId := 67
def zdQ_c : ACode :=
 (.seq (.region [
 o1 4 (.mov (tm 0)),
 o1 5 (.mov (tm 1)),
 o1 6 (.mov (tm 0)),
 o1 7 (.invoke (tm 6) "Len" []),
 o1 8 (.callV (.func 68) [(tm 4), (tm 5), (tm 7)]),
 o1 9 (.raw (so (.unOp .not 4 (tm 8)) 4))]) (.cond (tm 9)
 (.region [
 o1 10 (.mov (tm 0)),
 o1 11 (.mov (tm 1)),
 o1 12 (.callV (.func 69) [(tm 10), (tm 11)])])
 .skip))
def zdQ : AFunc := ⟨13, [], zdQ_c, none⟩
theorem zdQ_t0 : tableOf Try.prog 67 = some zdQ := by kernel_rfl
theorem zdQ_t : T0 67 = some zdQ := withKept_t rfl (withTrue_t rfl zdQ_t0)
theorem zdQ_runs {v0 v1 : Value} {h : Heap} {R : RP} {X : XP} (k : RunC Try.prog T0 zdQ_c ⟨[v0, v1, U, U, U, U, U, U, U, U, U, U, U], [], h, none⟩ (bodyQ Try.prog T0 [] R X)) :
 Runs Try.prog T0 (.fn 67) [v0, v1] h R X := Runs.fn zdQ_t rfl k
abbrev fn_zgQ : FuncId := 68
def zgQ_l0 : ACode :=
 (.block 1 (.seq (.region [
 o1 12 (.mov (tm 7)),
 o1 13 (.bin .mul (so (.binOp .mul 3 (.const (.int .i64 2)) (tm 12) 3) 3) (.const (.int .i64 2)) (tm 12)),
 o1 14 (.bin .add (so (.binOp .add 3 (tm 13) (.const (.int .i64 1)) 3) 3) (tm 13) (.const (.int .i64 1))),
 o1 8 (.mov (tm 14))]) (.seq (.seq (.region [
 o1 15 (.mov (tm 8)),
 o1 16 (.mov (tm 2)),
 o1 17 (.bin .geq (so (.binOp .geq 3 (tm 15) (tm 16) 3) 4) (tm 15) (tm 16)),
 o1 18 (.mov (tm 17)),
 o5 19 (.mov (tm 8)) 18,
 o5 20 (.bin .lss (so (.binOp .lss 3 (tm 19) k0 3) 4) (tm 19) k0) 18,
 o1 21 (.pick (tm 18) (.const (.bool true)) (tm 20))]) (.cond (tm 21)
 (.exit 0)
 .skip)) (.seq (.region [
 o1 22 (.mov (tm 8)),
 o1 9 (.mov (tm 22))]) (.seq (.seq (.region [
 o1 23 (.mov (tm 8)),
 o1 24 (.bin .add (so (.binOp .add 3 (tm 23) (.const (.int .i64 1)) 3) 3) (tm 23) (.const (.int .i64 1))),
 o1 10 (.mov (tm 24))]) (.seq (.region [
 o1 25 (.mov (tm 10)),
 o1 26 (.mov (tm 2)),
 o1 27 (.bin .lss (so (.binOp .lss 3 (tm 25) (tm 26) 3) 4) (tm 25) (tm 26)),
 o1 28 (.mov (tm 27)),
 o4 29 (.mov (tm 0)) 28,
 o4 30 (.mov (tm 10)) 28,
 o4 31 (.mov (tm 8)) 28,
 o4 32 (.invoke (tm 29) "Less" [(tm 30), (tm 31)]) 28,
 o1 33 (.pick (tm 28) (tm 32) (.const (.bool false)))]) (.cond (tm 33)
 (.region [
 o1 34 (.mov (tm 10)),
 o1 9 (.mov (tm 34))])
 .skip))) (.seq (.seq (.region [
 o1 35 (.mov (tm 0)),
 o1 36 (.mov (tm 9)),
 o1 37 (.mov (tm 7)),
 o1 38 (.invoke (tm 35) "Less" [(tm 36), (tm 37)]),
 o1 39 (.raw (so (.unOp .not 4 (tm 38)) 4))]) (.cond (tm 39)
 (.exit 0)
 .skip)) (.seq (.region [
 o1 40 (.mov (tm 0)),
 o1 41 (.mov (tm 7)),
 o1 42 (.mov (tm 9)),
 o1 43 (.invoke (tm 40) "Swap" [(tm 41), (tm 42)])]) (.region [
 o1 44 (.mov (tm 9)),
 o1 7 (.mov (tm 44))]))))))))
def zgQ_c : ACode :=
 (.seq (.region [
 o1 6 (.mov (.const (.bool false)))]) (.seq (.region [
 o1 11 (.mov (tm 1)),
 o1 7 (.mov (tm 11))]) (.seq (.block 0 (.loop zgQ_l0)) (.seq (.region [
 o1 45 (.mov (tm 7)),
 o1 46 (.mov (tm 1)),
 o1 47 (.bin .gtr (so (.binOp .gtr 3 (tm 45) (tm 46) 3) 4) (tm 45) (tm 46)),
 o1 6 (.mov (tm 47))]) .ret))))
def zgQ : AFunc := ⟨48, [(6, none)], zgQ_c, none⟩
theorem zgQ_t0 : tableOf Try.prog 68 = some zgQ := by kernel_rfl
theorem zgQ_t : T0 68 = some zgQ := withKept_t rfl (withTrue_t rfl zgQ_t0)
theorem zgQ_runs {v0 v1 v2 : Value} {h : Heap} {R : RP} {X : XP} (k : RunC Try.prog T0 zgQ_c ⟨[v0, v1, v2, U, U, U, U, U, U, U, U, U, U, U, U, U, U, U, U, U, U, U, U, U, U, U, U, U, U, U, U, U, U, U, U, U, U, U, U, U, U, U, U, U, U, U, U, U], [], h, none⟩ (bodyQ Try.prog T0 [(6, none)] R X)) :
 Runs Try.prog T0 (.fn 68) [v0, v1, v2] h R X := Runs.fn zgQ_t rfl k
abbrev zgQ_l0_M : List Nat := [0, 0, 0, 0, 0, 0, 0, 2, 1, 1, 1, 0, 1, 1, 1, 1, 1, 1, 1, 1, 1, 1, 1, 1, 1, 1, 1, 1, 1, 1, 1, 1, 1, 1, 1, 1, 1, 1, 1, 1, 1, 1, 1, 1, 1, 0, 0, 0]
abbrev fn_zhQ : FuncId := 69
def zhQ_l0 : ACode :=
 (.block 1 (.seq (.region [
 o1 5 (.mov (tm 1)),
 o1 6 (.bin .sub (so (.binOp .sub 3 (tm 5) (.const (.int .i64 1)) 3) 3) (tm 5) (.const (.int .i64 1))),
 o1 7 (.bin .quo (so (.binOp .quo 3 (tm 6) (.const (.int .i64 2)) 3) 3) (tm 6) (.const (.int .i64 2))),
 o1 4 (.mov (tm 7))]) (.seq (.seq (.region [
 o1 8 (.mov (tm 4)),
 o1 9 (.mov (tm 1)),
 o1 10 (.bin .eql (so (.binOp .eql 3 (tm 8) (tm 9) 3) 4) (tm 8) (tm 9)),
 o1 11 (.mov (tm 10)),
 o5 12 (.mov (tm 0)) 11,
 o5 13 (.mov (tm 1)) 11,
 o5 14 (.mov (tm 4)) 11,
 o5 15 (.invoke (tm 12) "Less" [(tm 13), (tm 14)]) 11,
 o5 16 (.raw (so (.unOp .not 4 (tm 15)) 4)) 11,
 o1 17 (.pick (tm 11) (.const (.bool true)) (tm 16))]) (.cond (tm 17)
 (.exit 0)
 .skip)) (.seq (.region [
 o1 18 (.mov (tm 0)),
 o1 19 (.mov (tm 4)),
 o1 20 (.mov (tm 1)),
 o1 21 (.invoke (tm 18) "Swap" [(tm 19), (tm 20)])]) (.region [
 o1 22 (.mov (tm 4)),
 o1 1 (.mov (tm 22))])))))
def zhQ_c : ACode :=
 (.block 0 (.loop zhQ_l0))
def zhQ : AFunc := ⟨23, [], zhQ_c, none⟩
theorem zhQ_t0 : tableOf Try.prog 69 = some zhQ := by kernel_rfl
theorem zhQ_t : T0 69 = some zhQ := withKept_t rfl (withTrue_t rfl zhQ_t0)
theorem zhQ_runs {v0 v1 : Value} {h : Heap} {R : RP} {X : XP} (k : RunC Try.prog T0 zhQ_c ⟨[v0, v1, U, U, U, U, U, U, U, U, U, U, U, U, U, U, U, U, U, U, U, U, U], [], h, none⟩ (bodyQ Try.prog T0 [] R X)) :
 Runs Try.prog T0 (.fn 69) [v0, v1] h R X := Runs.fn zhQ_t rfl k
abbrev zhQ_l0_M : List Nat := [0, 2, 0, 0, 1, 1, 1, 1, 1, 1, 1, 1, 1, 1, 1, 1, 1, 1, 1, 1, 1, 1, 1]
abbrev fn_zzbQ : FuncId := 70
def zzbQ_ra0 : Code := (rangeParts (subCode ((Try.prog.funcs[70]?).bind (·.body)) [true, false, true, false])).1
def zzbQ_rb0 : Code := (rangeParts (subCode ((Try.prog.funcs[70]?).bind (·.body)) [true, false, true, false])).2
def zzbQ_a0 : ACode :=
 (.region [
 o1 5 (.mov (tm 7))])
def zzbQ_b0 : ACode :=
 (.block 1 (.region [
 o1 8 (.load none (tm 2)),
 o1 9 (.mov (tm 5)),
 o1 10 (.buildSlice 74 [(.pointer none)] 1 [(0, 1, (tm 9))]),
 o1 11 (.append 74 1 8 [(.pointer none)] false (tm 8) (tm 10)),
 o3 (.store 1 (tm 2) (tm 11))]))
theorem zzbQ_ca0 : comp Try.prog zzbQ_ra0 = some zzbQ_a0 := by kernel_rfl
theorem zzbQ_cb0 : comp Try.prog zzbQ_rb0 = some zzbQ_b0 := by kernel_rfl
theorem zzbQ_na0 : noDefer zzbQ_ra0 = true := by kernel_rfl
theorem zzbQ_nb0 : noDefer zzbQ_rb0 = true := by kernel_rfl
def zzbQ_c : ACode :=
 (.seq (.region [
 o1 2 (.box 61 (tm 0)),
 o1 4 (.mov (.const (.slice none 0 0)))]) (.seq (.seq (.region [
 o1 6 (.mov (tm 1))]) (.block 0 (.rangeFunc (tm 6) [7] zzbQ_ra0 zzbQ_rb0))) (.seq (.region [
 o1 12 (.load none (tm 2)),
 o1 4 (.mov (tm 12))]) .ret)))
def zzbQ : AFunc := ⟨13, [(4, none)], zzbQ_c, none⟩
theorem zzbQ_t0 : tableOf Try.prog 70 = some zzbQ := by kernel_rfl
theorem zzbQ_t : T0 70 = some zzbQ := withKept_t rfl (withTrue_t rfl zzbQ_t0)
theorem zzbQ_runs {v0 v1 : Value} {h : Heap} {R : RP} {X : XP} (k : RunC Try.prog T0 zzbQ_c ⟨[v0, v1, U, U, U, U, U, U, U, U, U, U, U], [], h, none⟩ (bodyQ Try.prog T0 [(4, none)] R X)) :
 Runs Try.prog T0 (.fn 70) [v0, v1] h R X := Runs.fn zzbQ_t rfl k
abbrev fn_zscQ : FuncId := 71
def zscQ_l0 : ACode :=
 (.block 1 (.seq (.region [
 o1 21 (.mov (tm 2)),
 o1 22 (.mov (tm 1)),
 o1 23 (.bin .sub (so (.binOp .sub 3 (tm 21) (tm 22) 3) 3) (tm 21) (tm 22)),
 o1 12 (.mov (tm 23))]) (.seq (.seq (.region [
 o1 24 (.mov (tm 12)),
 o1 25 (.bin .leq (so (.binOp .leq 3 (tm 24) (.const (.int .i64 12)) 3) 4) (tm 24) (.const (.int .i64 12)))]) (.cond (tm 25)
 (.seq (.region [
 o1 26 (.mov (tm 0)),
 o1 27 (.mov (tm 1)),
 o1 28 (.mov (tm 2)),
 o1 29 (.mov (tm 4)),
 o1 30 (.callV (.func 74) [(tm 26), (tm 27), (tm 28), (tm 29)])]) .ret)
 .skip)) (.seq (.seq (.region [
 o1 31 (.mov (tm 3)),
 o1 32 (.bin .eql (so (.binOp .eql 3 (tm 31) k0 3) 4) (tm 31) k0)]) (.cond (tm 32)
 (.seq (.region [
 o1 33 (.mov (tm 0)),
 o1 34 (.mov (tm 1)),
 o1 35 (.mov (tm 2)),
 o1 36 (.mov (tm 4)),
 o1 37 (.callV (.func 75) [(tm 33), (tm 34), (tm 35), (tm 36)])]) .ret)
 .skip)) (.seq (.seq (.region [
 o1 38 (.mov (tm 10)),
 o1 39 (.raw (so (.unOp .not 4 (tm 38)) 4))]) (.cond (tm 39)
 (.seq (.region [
 o1 40 (.mov (tm 0)),
 o1 41 (.mov (tm 1)),
 o1 42 (.mov (tm 2)),
 o1 43 (.mov (tm 4)),
 o1 44 (.callV (.func 76) [(tm 40), (tm 41), (tm 42), (tm 43)])]) (.region [
 o1 45 (.mov (tm 3)),
 o1 46 (.bin .sub (so (.binOp .sub 3 (tm 45) (.const (.int .i64 1)) 3) 3) (tm 45) (.const (.int .i64 1))),
 o1 3 (.mov (tm 46))]))
 .skip)) (.seq (.region [
 o1 48 (.mov (tm 0)),
 o1 49 (.mov (tm 1)),
 o1 50 (.mov (tm 2)),
 o1 51 (.mov (tm 4)),
 o1 52 (.callV (.func 77) [(tm 48), (tm 49), (tm 50), (tm 51)]),
 o1 47 (.mov (tm 52)),
 o1 53 (.extract 0 (tm 47)),
 o1 54 (.extract 1 (tm 47)),
 o1 13 (.mov (tm 53)),
 o1 14 (.mov (tm 54))]) (.seq (.seq (.region [
 o1 55 (.mov (tm 14)),
 o1 56 (.bin .eql (so (.binOp .eql 107 (tm 55) (.const (.int .i64 2)) 107) 4) (tm 55) (.const (.int .i64 2)))]) (.cond (tm 56)
 (.seq (.region [
 o1 57 (.mov (tm 0)),
 o1 58 (.mov (tm 1)),
 o1 59 (.mov (tm 2)),
 o1 60 (.mov (tm 4)),
 o1 61 (.callV (.func 78) [(tm 57), (tm 58), (tm 59), (tm 60)])]) (.seq (.region [
 o1 62 (.mov (tm 2)),
 o1 63 (.bin .sub (so (.binOp .sub 3 (tm 62) (.const (.int .i64 1)) 3) 3) (tm 62) (.const (.int .i64 1))),
 o1 64 (.mov (tm 13)),
 o1 65 (.mov (tm 1)),
 o1 66 (.bin .sub (so (.binOp .sub 3 (tm 64) (tm 65) 3) 3) (tm 64) (tm 65)),
 o1 67 (.bin .sub (so (.binOp .sub 3 (tm 63) (tm 66) 3) 3) (tm 63) (tm 66)),
 o1 13 (.mov (tm 67))]) (.region [
 o1 14 (.mov (.const (.int .i64 1)))])))
 .skip)) (.seq (.seq (.region [
 o1 68 (.mov (tm 10)),
 o1 69 (.mov (tm 68)),
 o4 70 (.mov (tm 11)) 69,
 o1 71 (.pick (tm 69) (tm 70) (.const (.bool false))),
 o1 72 (.mov (tm 71)),
 o4 73 (.mov (tm 14)) 72,
 o4 74 (.bin .eql (so (.binOp .eql 107 (tm 73) (.const (.int .i64 1)) 107) 4) (tm 73) (.const (.int .i64 1))) 72,
 o1 75 (.pick (tm 72) (tm 74) (.const (.bool false)))]) (.cond (tm 75)
 (.seq (.region [
 o1 76 (.mov (tm 0)),
 o1 77 (.mov (tm 1)),
 o1 78 (.mov (tm 2)),
 o1 79 (.mov (tm 4)),
 o1 80 (.callV (.func 79) [(tm 76), (tm 77), (tm 78), (tm 79)])]) (.cond (tm 80)
 .ret
 .skip))
 .skip)) (.seq (.seq (.regionD [
 o2 81 (.mov (tm 1)),
 o2 82 (.bin .gtr (so (.binOp .gtr 3 (tm 81) k0 3) 4) (tm 81) k0),
 o2 83 (.mov (tm 82)),
 o4 84 (.mov (tm 4)) 83,
 o4 85 (.mov (tm 0)) 83,
 o4 86 (.mov (tm 1)) 83,
 o4 87 (.bin .sub (so (.binOp .sub 3 (tm 86) (.const (.int .i64 1)) 3) 3) (tm 86) (.const (.int .i64 1))) 83,
 o4 88 (.indexSl 1 (tm 85) (tm 87)) 83,
 o4 89 (.load none (tm 88)) 83,
 o4 90 (.mov (tm 0)) 83,
 o4 91 (.mov (tm 13)) 83,
 o4 92 (.indexSl 1 (tm 90) (tm 91)) 83,
 o4 93 (.load none (tm 92)) 83,
 ⟨some 94, .callV (tm 84) [(tm 89), (tm 93)], some (83, true), [], true⟩,
 ⟨some 95, .bin .lss (so (.binOp .lss 3 (tm 94) k0 3) 4) (tm 94) k0, some (83, true), [], true⟩,
 ⟨some 96, .raw (so (.unOp .not 4 (tm 95)) 4), some (83, true), [], true⟩,
 o2 97 (.pick (tm 83) (tm 96) (.const (.bool false)))]) (.cond (tm 97)
 (.seq (.region [
 o1 98 (.mov (tm 0)),
 o1 99 (.mov (tm 1)),
 o1 100 (.mov (tm 2)),
 o1 101 (.mov (tm 13)),
 o1 102 (.mov (tm 4)),
 o1 103 (.callV (.func 80) [(tm 98), (tm 99), (tm 100), (tm 101), (tm 102)]),
 o1 15 (.mov (tm 103))]) (.seq (.region [
 o1 104 (.mov (tm 15)),
 o1 1 (.mov (tm 104))]) (.exit 1)))
 .skip)) (.seq (.region [
 o1 106 (.mov (tm 0)),
 o1 107 (.mov (tm 1)),
 o1 108 (.mov (tm 2)),
 o1 109 (.mov (tm 13)),
 o1 110 (.mov (tm 4)),
 o1 111 (.callV (.func 81) [(tm 106), (tm 107), (tm 108), (tm 109), (tm 110)]),
 o1 105 (.mov (tm 111)),
 o1 112 (.extract 0 (tm 105)),
 o1 113 (.extract 1 (tm 105)),
 o1 16 (.mov (tm 112)),
 o1 17 (.mov (tm 113))]) (.seq (.region [
 o1 114 (.mov (tm 17)),
 o1 11 (.mov (tm 114))]) (.seq (.region [
 o1 115 (.mov (tm 16)),
 o1 116 (.mov (tm 1)),
 o1 117 (.bin .sub (so (.binOp .sub 3 (tm 115) (tm 116) 3) 3) (tm 115) (tm 116)),
 o1 118 (.mov (tm 2)),
 o1 119 (.mov (tm 16)),
 o1 120 (.bin .sub (so (.binOp .sub 3 (tm 118) (tm 119) 3) 3) (tm 118) (tm 119)),
 o1 18 (.mov (tm 117)),
 o1 19 (.mov (tm 120))]) (.seq (.region [
 o1 121 (.mov (tm 12)),
 o1 122 (.bin .quo (so (.binOp .quo 3 (tm 121) (.const (.int .i64 8)) 3) 3) (tm 121) (.const (.int .i64 8))),
 o1 20 (.mov (tm 122))]) (.seq (.region [
 o1 123 (.mov (tm 18)),
 o1 124 (.mov (tm 19)),
 o1 125 (.bin .lss (so (.binOp .lss 3 (tm 123) (tm 124) 3) 4) (tm 123) (tm 124))]) (.cond (tm 125)
 (.seq (.region [
 o1 126 (.mov (tm 18)),
 o1 127 (.mov (tm 20)),
 o1 128 (.bin .geq (so (.binOp .geq 3 (tm 126) (tm 127) 3) 4) (tm 126) (tm 127)),
 o1 10 (.mov (tm 128))]) (.seq (.region [
 o1 129 (.mov (tm 0)),
 o1 130 (.mov (tm 1)),
 o1 131 (.mov (tm 16)),
 o1 132 (.mov (tm 3)),
 o1 133 (.mov (tm 4)),
 o1 134 (.callV (.func 71) [(tm 129), (tm 130), (tm 131), (tm 132), (tm 133)])]) (.region [
 o1 135 (.mov (tm 16)),
 o1 136 (.bin .add (so (.binOp .add 3 (tm 135) (.const (.int .i64 1)) 3) 3) (tm 135) (.const (.int .i64 1))),
 o1 1 (.mov (tm 136))])))
 (.seq (.region [
 o1 137 (.mov (tm 19)),
 o1 138 (.mov (tm 20)),
 o1 139 (.bin .geq (so (.binOp .geq 3 (tm 137) (tm 138) 3) 4) (tm 137) (tm 138)),
 o1 10 (.mov (tm 139))]) (.seq (.region [
 o1 140 (.mov (tm 0)),
 o1 141 (.mov (tm 16)),
 o1 142 (.bin .add (so (.binOp .add 3 (tm 141) (.const (.int .i64 1)) 3) 3) (tm 141) (.const (.int .i64 1))),
 o1 143 (.mov (tm 2)),
 o1 144 (.mov (tm 3)),
 o1 145 (.mov (tm 4)),
 o1 146 (.callV (.func 71) [(tm 140), (tm 142), (tm 143), (tm 144), (tm 145)])]) (.region [
 o1 147 (.mov (tm 16)),
 o1 2 (.mov (tm 147))]))))))))))))))))))
def zscQ_c : ACode :=
 (.seq (.region [
 o1 10 (.mov (.const (.bool true)))]) (.seq (.region [
 o1 11 (.mov (.const (.bool true)))]) (.block 0 (.loop zscQ_l0))))
def zscQ : AFunc := ⟨148, [], zscQ_c, none⟩
theorem zscQ_t0 : tableOf Try.prog 71 = some zscQ := by kernel_rfl
theorem zscQ_t : T0 71 = some zscQ := withKept_t rfl (withTrue_t rfl zscQ_t0)
theorem zscQ_runs {v0 v1 v2 v3 v4 : Value} {h : Heap} {R : RP} {X : XP} (k : RunC Try.prog T0 zscQ_c ⟨[v0, v1, v2, v3, v4, U, U, U, U, U, U, U, U, U, U, U, U, U, U, U, U, U, U, U, U, U, U, U, U, U, U, U, U, U, U, U, U, U, U, U, U, U, U, U, U, U, U, U, U, U, U, U, U, U, U, U, U, U, U, U, U, U, U, U, U, U, U, U, U, U, U, U, U, U, U, U, U, U, U, U, U, U, U, U, U, U, U, U, U, U, U, U, U, U, U, U, U, U, U, U, U, U, U, U, U, U, U, U, U, U, U, U, U, U, U, U, U, U, U, U, U, U, U, U, U, U, U, U, U, U, U, U, U, U, U, U, U, U, U, U, U, U, U, U, U, U, U, U], [], h, none⟩ (bodyQ Try.prog T0 [] R X)) :
 Runs Try.prog T0 (.fn 71) [v0, v1, v2, v3, v4] h R X := Runs.fn zscQ_t rfl k
abbrev zscQ_l0_M : List Nat := [0, 2, 2, 2, 0, 0, 0, 0, 0, 0, 2, 2, 1, 1, 1, 1, 1, 1, 1, 1, 1, 1, 1, 1, 1, 1, 1, 1, 1, 1, 1, 1, 1, 1, 1, 1, 1, 1, 1, 1, 1, 1, 1, 1, 1, 1, 1, 1, 1, 1, 1, 1, 1, 1, 1, 1, 1, 1, 1, 1, 1, 1, 1, 1, 1, 1, 1, 1, 1, 1, 1, 1, 1, 1, 1, 1, 1, 1, 1, 1, 1, 1, 1, 1, 1, 1, 1, 1, 1, 1, 1, 1, 1, 1, 1, 1, 1, 1, 1, 1, 1, 1, 1, 1, 1, 1, 1, 1, 1, 1, 1, 1, 1, 1, 1, 1, 1, 1, 1, 1, 1, 1, 1, 1, 1, 1, 1, 1, 1, 1, 1, 1, 1, 1, 1, 1, 1, 1, 1, 1, 1, 1, 1, 1, 1, 1, 1, 1]
abbrev fn_zwbQ : FuncId := 72
def zwbQ_c : ACode :=
 (.seq (.region [
 o1 2 (.mov k0)]) (.seq (.cond (.const (.bool false))
 (.seq (.region [
 o1 3 (.mov (tm 0)),
 o1 4 (.conv .u32 (so (.convert 104 114 (tm 3)) 114) (tm 3)),
 o1 5 (.callV (.func 82) [(tm 4)]),
 o1 2 (.mov (tm 5))]) .ret)
 .skip) (.seq (.region [
 o1 6 (.mov (tm 0)),
 o1 7 (.callV (.func 83) [(tm 6)]),
 o1 2 (.mov (tm 7))]) .ret)))
def zwbQ : AFunc := ⟨8, [(2, none)], zwbQ_c, none⟩
theorem zwbQ_t0 : tableOf Try.prog 72 = some zwbQ := by kernel_rfl
theorem zwbQ_t : T0 72 = some zwbQ := withKept_t rfl (withTrue_t rfl zwbQ_t0)
theorem zwbQ_runs {v0 : Value} {h : Heap} {R : RP} {X : XP} (k : RunC Try.prog T0 zwbQ_c ⟨[v0, U, U, U, U, U, U, U], [], h, none⟩ (bodyQ Try.prog T0 [(2, none)] R X)) :
 Runs Try.prog T0 (.fn 72) [v0] h R X := Runs.fn zwbQ_t rfl k
abbrev fn_zcQ : FuncId := 73
def zcQ_c : ACode :=
 (.seq (.region [
 o1 2 (.mov (.const (.bool false)))]) (.seq (.region [
 o1 3 (.mov (tm 0)),
 o1 4 (.mov (tm 0)),
 o1 5 (.bin .neq (so (.binOp .neq 3 (tm 3) (tm 4) 3) 4) (tm 3) (tm 4)),
 o1 2 (.mov (tm 5))]) .ret))
def zcQ : AFunc := ⟨6, [(2, none)], zcQ_c, none⟩
theorem zcQ_t0 : tableOf Try.prog 73 = some zcQ := by kernel_rfl
theorem zcQ_t : T0 73 = some zcQ := withKept_t rfl (withTrue_t rfl zcQ_t0)
theorem zcQ_runs {v0 : Value} {h : Heap} {R : RP} {X : XP} (k : RunC Try.prog T0 zcQ_c ⟨[v0, U, U, U, U, U], [], h, none⟩ (bodyQ Try.prog T0 [(2, none)] R X)) :
 Runs Try.prog T0 (.fn 73) [v0] h R X := Runs.fn zcQ_t rfl k
abbrev fn_zkcQ : FuncId := 74
def zkcQ_l0 : ACode :=
 (.seq (.seq (.regionD [
 o1 18 (.mov (tm 9)),
 o1 19 (.mov (tm 1)),
 o2 20 (.bin .gtr (so (.binOp .gtr 3 (tm 18) (tm 19) 3) 4) (tm 18) (tm 19)),
 o2 21 (.mov (tm 20)),
 o4 22 (.mov (tm 3)) 21,
 o4 23 (.mov (tm 0)) 21,
 o4 24 (.mov (tm 9)) 21,
 o4 25 (.indexSl 1 (tm 23) (tm 24)) 21,
 o4 26 (.load none (tm 25)) 21,
 o4 27 (.mov (tm 0)) 21,
 o4 28 (.mov (tm 9)) 21,
 o4 29 (.bin .sub (so (.binOp .sub 3 (tm 28) (.const (.int .i64 1)) 3) 3) (tm 28) (.const (.int .i64 1))) 21,
 o4 30 (.indexSl 1 (tm 27) (tm 29)) 21,
 o4 31 (.load none (tm 30)) 21,
 ⟨some 32, .callV (tm 22) [(tm 26), (tm 31)], some (21, true), [], true⟩,
 ⟨some 33, .bin .lss (so (.binOp .lss 3 (tm 32) k0 3) 4) (tm 32) k0, some (21, true), [], true⟩,
 o2 34 (.pick (tm 21) (tm 33) (.const (.bool false)))]) (.cond (tm 34)
 .skip
 (.exit 2))) (.seq (.block 3 (.regionD [
 o1 37 (.mov (tm 0)),
 o1 38 (.mov (tm 9)),
 o1 39 (.mov (tm 0)),
 o1 40 (.mov (tm 9)),
 o1 41 (.bin .sub (so (.binOp .sub 3 (tm 40) (.const (.int .i64 1)) 3) 3) (tm 40) (.const (.int .i64 1))),
 o1 42 (.mov (tm 0)),
 o1 43 (.mov (tm 9)),
 o1 44 (.bin .sub (so (.binOp .sub 3 (tm 43) (.const (.int .i64 1)) 3) 3) (tm 43) (.const (.int .i64 1))),
 o1 45 (.indexSl 1 (tm 42) (tm 44)),
 o1 46 (.load none (tm 45)),
 o1 47 (.mov (tm 0)),
 o1 48 (.mov (tm 9)),
 o1 49 (.indexSl 1 (tm 47) (tm 48)),
 o1 50 (.load none (tm 49)),
 o1 51 (.indexSl 1 (tm 37) (tm 38)),
 ⟨none, .store 1 (tm 51) (tm 46), none, [(some 41, .bin .sub (so (.binOp .sub 3 (tm 40) (.const (.int .i64 1)) 3) 3) (tm 40) (.const (.int .i64 1)), none), (some 40, .mov (tm 9), none), (some 39, .mov (tm 0), none)], false⟩,
 o2 52 (.indexSl 1 (tm 39) (tm 41)),
 ⟨none, .store 1 (tm 52) (tm 50), none, [], true⟩])) (.region [
 o1 35 (.mov (tm 9)),
 o1 36 (.bin .sub (so (.binOp .sub 3 (tm 35) (.const (.int .i64 1)) 3) 3) (tm 35) (.const (.int .i64 1))),
 o1 9 (.mov (tm 36))])))
def zkcQ_l1 : ACode :=
 (.seq (.seq (.region [
 o1 12 (.mov (tm 8)),
 o1 13 (.mov (tm 2)),
 o1 14 (.bin .lss (so (.binOp .lss 3 (tm 12) (tm 13) 3) 4) (tm 12) (tm 13))]) (.cond (tm 14)
 .skip
 (.exit 0))) (.seq (.block 1 (.seq (.region [
 o1 17 (.mov (tm 8)),
 o1 9 (.mov (tm 17))]) (.block 2 (.loop zkcQ_l0)))) (.region [
 o1 15 (.mov (tm 8)),
 o1 16 (.bin .add (so (.binOp .add 3 (tm 15) (.const (.int .i64 1)) 3) 3) (tm 15) (.const (.int .i64 1))),
 o1 8 (.mov (tm 16))])))
def zkcQ_c : ACode :=
 (.seq (.region [
 o1 10 (.mov (tm 1)),
 o1 11 (.bin .add (so (.binOp .add 3 (tm 10) (.const (.int .i64 1)) 3) 3) (tm 10) (.const (.int .i64 1))),
 o1 8 (.mov (tm 11))]) (.block 0 (.loop zkcQ_l1)))
def zkcQ : AFunc := ⟨53, [], zkcQ_c, none⟩
theorem zkcQ_t0 : tableOf Try.prog 74 = some zkcQ := by kernel_rfl
theorem zkcQ_t : T0 74 = some zkcQ := withKept_t rfl (withTrue_t rfl zkcQ_t0)
theorem zkcQ_runs {v0 v1 v2 v3 : Value} {h : Heap} {R : RP} {X : XP} (k : RunC Try.prog T0 zkcQ_c ⟨[v0, v1, v2, v3, U, U, U, U, U, U, U, U, U, U, U, U, U, U, U, U, U, U, U, U, U, U, U, U, U, U, U, U, U, U, U, U, U, U, U, U, U, U, U, U, U, U, U, U, U, U, U, U, U], [], h, none⟩ (bodyQ Try.prog T0 [] R X)) :
 Runs Try.prog T0 (.fn 74) [v0, v1, v2, v3] h R X := Runs.fn zkcQ_t rfl k
abbrev zkcQ_l0_M : List Nat := [0, 0, 0, 0, 0, 0, 0, 0, 0, 2, 0, 0, 0, 0, 0, 0, 0, 0, 1, 1, 1, 1, 1, 1, 1, 1, 1, 1, 1, 1, 1, 1, 1, 1, 1, 1, 1, 1, 1, 1, 1, 1, 1, 1, 1, 1, 1, 1, 1, 1, 1, 1, 1]
abbrev zkcQ_l1_M : List Nat := [0, 0, 0, 0, 0, 0, 0, 0, 2, 1, 0, 0, 1, 1, 1, 1, 1, 1, 1, 1, 1, 1, 1, 1, 1, 1, 1, 1, 1, 1, 1, 1, 1, 1, 1, 1, 1, 1, 1, 1, 1, 1, 1, 1, 1, 1, 1, 1, 1, 1, 1, 1, 1]
abbrev fn_zjcQ : FuncId := 75
def zjcQ_l0 : ACode :=
 (.seq (.seq (.region [
 o1 20 (.mov (tm 11)),
 o1 21 (.bin .geq (so (.binOp .geq 3 (tm 20) k0 3) 4) (tm 20) k0)]) (.cond (tm 21)
 .skip
 (.exit 0))) (.seq (.block 1 (.region [
 o1 24 (.mov (tm 0)),
 o1 25 (.mov (tm 11)),
 o1 26 (.mov (tm 10)),
 o1 27 (.mov (tm 8)),
 o1 28 (.mov (tm 3)),
 o1 29 (.callV (.func 84) [(tm 24), (tm 25), (tm 26), (tm 27), (tm 28)])])) (.region [
 o1 22 (.mov (tm 11)),
 o1 23 (.bin .sub (so (.binOp .sub 3 (tm 22) (.const (.int .i64 1)) 3) 3) (tm 22) (.const (.int .i64 1))),
 o1 11 (.mov (tm 23))])))
def zjcQ_l1 : ACode :=
 (.seq (.seq (.region [
 o1 32 (.mov (tm 12)),
 o1 33 (.bin .geq (so (.binOp .geq 3 (tm 32) k0 3) 4) (tm 32) k0)]) (.cond (tm 33)
 .skip
 (.exit 2))) (.seq (.block 3 (.seq (.regionD [
 o1 36 (.mov (tm 0)),
 o1 37 (.mov (tm 8)),
 o1 38 (.mov (tm 0)),
 o1 39 (.mov (tm 8)),
 o1 40 (.mov (tm 12)),
 o1 41 (.bin .add (so (.binOp .add 3 (tm 39) (tm 40) 3) 3) (tm 39) (tm 40)),
 o1 42 (.mov (tm 0)),
 o1 43 (.mov (tm 8)),
 o1 44 (.mov (tm 12)),
 o1 45 (.bin .add (so (.binOp .add 3 (tm 43) (tm 44) 3) 3) (tm 43) (tm 44)),
 o1 46 (.indexSl 1 (tm 42) (tm 45)),
 o1 47 (.load none (tm 46)),
 o1 48 (.mov (tm 0)),
 o1 49 (.mov (tm 8)),
 o1 50 (.indexSl 1 (tm 48) (tm 49)),
 o1 51 (.load none (tm 50)),
 o1 52 (.indexSl 1 (tm 36) (tm 37)),
 ⟨none, .store 1 (tm 52) (tm 47), none, [(some 41, .bin .add (so (.binOp .add 3 (tm 39) (tm 40) 3) 3) (tm 39) (tm 40), none), (some 40, .mov (tm 12), none), (some 39, .mov (tm 8), none), (some 38, .mov (tm 0), none)], false⟩,
 o2 53 (.indexSl 1 (tm 38) (tm 41)),
 ⟨none, .store 1 (tm 53) (tm 51), none, [], true⟩]) (.region [
 o1 54 (.mov (tm 0)),
 o1 55 (.mov (tm 9)),
 o1 56 (.mov (tm 12)),
 o1 57 (.mov (tm 8)),
 o1 58 (.mov (tm 3)),
 o1 59 (.callV (.func 84) [(tm 54), (tm 55), (tm 56), (tm 57), (tm 58)])]))) (.region [
 o1 34 (.mov (tm 12)),
 o1 35 (.bin .sub (so (.binOp .sub 3 (tm 34) (.const (.int .i64 1)) 3) 3) (tm 34) (.const (.int .i64 1))),
 o1 12 (.mov (tm 35))])))
def zjcQ_c : ACode :=
 (.seq (.region [
 o1 13 (.mov (tm 1)),
 o1 8 (.mov (tm 13))]) (.seq (.region [
 o1 9 (.mov k0)]) (.seq (.region [
 o1 14 (.mov (tm 2)),
 o1 15 (.mov (tm 1)),
 o1 16 (.bin .sub (so (.binOp .sub 3 (tm 14) (tm 15) 3) 3) (tm 14) (tm 15)),
 o1 10 (.mov (tm 16))]) (.seq (.seq (.region [
 o1 17 (.mov (tm 10)),
 o1 18 (.bin .sub (so (.binOp .sub 3 (tm 17) (.const (.int .i64 1)) 3) 3) (tm 17) (.const (.int .i64 1))),
 o1 19 (.bin .quo (so (.binOp .quo 3 (tm 18) (.const (.int .i64 2)) 3) 3) (tm 18) (.const (.int .i64 2))),
 o1 11 (.mov (tm 19))]) (.block 0 (.loop zjcQ_l0))) (.seq (.region [
 o1 30 (.mov (tm 10)),
 o1 31 (.bin .sub (so (.binOp .sub 3 (tm 30) (.const (.int .i64 1)) 3) 3) (tm 30) (.const (.int .i64 1))),
 o1 12 (.mov (tm 31))]) (.block 2 (.loop zjcQ_l1)))))))
def zjcQ : AFunc := ⟨60, [], zjcQ_c, none⟩
theorem zjcQ_t0 : tableOf Try.prog 75 = some zjcQ := by kernel_rfl
theorem zjcQ_t : T0 75 = some zjcQ := withKept_t rfl (withTrue_t rfl zjcQ_t0)
theorem zjcQ_runs {v0 v1 v2 v3 : Value} {h : Heap} {R : RP} {X : XP} (k : RunC Try.prog T0 zjcQ_c ⟨[v0, v1, v2, v3, U, U, U, U, U, U, U, U, U, U, U, U, U, U, U, U, U, U, U, U, U, U, U, U, U, U, U, U, U, U, U, U, U, U, U, U, U, U, U, U, U, U, U, U, U, U, U, U, U, U, U, U, U, U, U, U], [], h, none⟩ (bodyQ Try.prog T0 [] R X)) :
 Runs Try.prog T0 (.fn 75) [v0, v1, v2, v3] h R X := Runs.fn zjcQ_t rfl k
abbrev zjcQ_l0_M : List Nat := [0, 0, 0, 0, 0, 0, 0, 0, 0, 0, 0, 2, 0, 0, 0, 0, 0, 0, 0, 0, 1, 1, 1, 1, 1, 1, 1, 1, 1, 1, 0, 0, 0, 0, 0, 0, 0, 0, 0, 0, 0, 0, 0, 0, 0, 0, 0, 0, 0, 0, 0, 0, 0, 0, 0, 0, 0, 0, 0, 0]
abbrev zjcQ_l1_M : List Nat := [0, 0, 0, 0, 0, 0, 0, 0, 0, 0, 0, 0, 2, 0, 0, 0, 0, 0, 0, 0, 0, 0, 0, 0, 0, 0, 0, 0, 0, 0, 0, 0, 1, 1, 1, 1, 1, 1, 1, 1, 1, 1, 1, 1, 1, 1, 1, 1, 1, 1, 1, 1, 1, 1, 1, 1, 1, 1, 1, 1]
abbrev fn_zhcQ : FuncId := 76
def zhcQ_l0 : ACode :=
 (.seq (.seq (.region [
 o1 28 (.mov (tm 11)),
 o1 29 (.mov (tm 1)),
 o1 30 (.mov (tm 8)),
 o1 31 (.bin .quo (so (.binOp .quo 3 (tm 30) (.const (.int .i64 4)) 3) 3) (tm 30) (.const (.int .i64 4))),
 o1 32 (.bin .mul (so (.binOp .mul 3 (tm 31) (.const (.int .i64 2)) 3) 3) (tm 31) (.const (.int .i64 2))),
 o1 33 (.bin .add (so (.binOp .add 3 (tm 29) (tm 32) 3) 3) (tm 29) (tm 32)),
 o1 34 (.bin .add (so (.binOp .add 3 (tm 33) (.const (.int .i64 1)) 3) 3) (tm 33) (.const (.int .i64 1))),
 o1 35 (.bin .leq (so (.binOp .leq 3 (tm 28) (tm 34) 3) 4) (tm 28) (tm 34))]) (.cond (tm 35)
 .skip
 (.exit 0))) (.seq (.block 1 (.seq (.region [
 o1 38 (.callV (.func 86) [(tm 9)]),
 o1 39 (.mov (tm 10)),
 o1 40 (.bin .sub (so (.binOp .sub 104 (tm 39) (.const (.int .u64 1)) 104) 104) (tm 39) (.const (.int .u64 1))),
 o1 41 (.bin .and (so (.binOp .and 104 (tm 38) (tm 40) 104) 104) (tm 38) (tm 40)),
 o1 42 (.conv .i64 (so (.convert 104 3 (tm 41)) 3) (tm 41)),
 o1 12 (.mov (tm 42))]) (.seq (.seq (.region [
 o1 43 (.mov (tm 12)),
 o1 44 (.mov (tm 8)),
 o1 45 (.bin .geq (so (.binOp .geq 3 (tm 43) (tm 44) 3) 4) (tm 43) (tm 44))]) (.cond (tm 45)
 (.region [
 o1 46 (.mov (tm 12)),
 o1 47 (.mov (tm 8)),
 o1 48 (.bin .sub (so (.binOp .sub 3 (tm 46) (tm 47) 3) 3) (tm 46) (tm 47)),
 o1 12 (.mov (tm 48))])
 .skip)) (.regionD [
 o1 49 (.mov (tm 0)),
 o1 50 (.mov (tm 11)),
 o1 51 (.mov (tm 0)),
 o1 52 (.mov (tm 1)),
 o1 53 (.mov (tm 12)),
 o1 54 (.bin .add (so (.binOp .add 3 (tm 52) (tm 53) 3) 3) (tm 52) (tm 53)),
 o1 55 (.mov (tm 0)),
 o1 56 (.mov (tm 1)),
 o1 57 (.mov (tm 12)),
 o1 58 (.bin .add (so (.binOp .add 3 (tm 56) (tm 57) 3) 3) (tm 56) (tm 57)),
 o1 59 (.indexSl 1 (tm 55) (tm 58)),
 o1 60 (.load none (tm 59)),
 o1 61 (.mov (tm 0)),
 o1 62 (.mov (tm 11)),
 o1 63 (.indexSl 1 (tm 61) (tm 62)),
 o1 64 (.load none (tm 63)),
 o1 65 (.indexSl 1 (tm 49) (tm 50)),
 ⟨none, .store 1 (tm 65) (tm 60), none, [(some 54, .bin .add (so (.binOp .add 3 (tm 52) (tm 53) 3) 3) (tm 52) (tm 53), none), (some 53, .mov (tm 12), none), (some 52, .mov (tm 1), none), (some 51, .mov (tm 0), none)], false⟩,
 o2 66 (.indexSl 1 (tm 51) (tm 54)),
 ⟨none, .store 1 (tm 66) (tm 64), none, [], true⟩])))) (.region [
 o1 36 (.mov (tm 11)),
 o1 37 (.bin .add (so (.binOp .add 3 (tm 36) (.const (.int .i64 1)) 3) 3) (tm 36) (.const (.int .i64 1))),
 o1 11 (.mov (tm 37))])))
def zhcQ_c : ACode :=
 (.seq (.region [
 o1 13 (.mov (tm 2)),
 o1 14 (.mov (tm 1)),
 o1 15 (.bin .sub (so (.binOp .sub 3 (tm 13) (tm 14) 3) 3) (tm 13) (tm 14)),
 o1 8 (.mov (tm 15))]) (.seq (.region [
 o1 16 (.mov (tm 8)),
 o1 17 (.bin .geq (so (.binOp .geq 3 (tm 16) (.const (.int .i64 8)) 3) 4) (tm 16) (.const (.int .i64 8)))]) (.cond (tm 17)
 (.seq (.region [
 o1 18 (.mov (tm 8)),
 o1 19 (.conv .u64 (so (.convert 3 117 (tm 18)) 117) (tm 18)),
 o1 9 (.alloc 117 [(.int .u64 0)]),
 o3 (.store 1 (tm 9) (tm 19))]) (.seq (.region [
 o1 20 (.mov (tm 8)),
 o1 21 (.callV (.func 85) [(tm 20)]),
 o1 10 (.mov (tm 21))]) (.seq (.region [
 o1 22 (.mov (tm 1)),
 o1 23 (.mov (tm 8)),
 o1 24 (.bin .quo (so (.binOp .quo 3 (tm 23) (.const (.int .i64 4)) 3) 3) (tm 23) (.const (.int .i64 4))),
 o1 25 (.bin .mul (so (.binOp .mul 3 (tm 24) (.const (.int .i64 2)) 3) 3) (tm 24) (.const (.int .i64 2))),
 o1 26 (.bin .add (so (.binOp .add 3 (tm 22) (tm 25) 3) 3) (tm 22) (tm 25)),
 o1 27 (.bin .sub (so (.binOp .sub 3 (tm 26) (.const (.int .i64 1)) 3) 3) (tm 26) (.const (.int .i64 1))),
 o1 11 (.mov (tm 27))]) (.block 0 (.loop zhcQ_l0)))))
 .skip)))
def zhcQ : AFunc := ⟨67, [], zhcQ_c, none⟩
theorem zhcQ_t0 : tableOf Try.prog 76 = some zhcQ := by kernel_rfl
theorem zhcQ_t : T0 76 = some zhcQ := withKept_t rfl (withTrue_t rfl zhcQ_t0)
theorem zhcQ_runs {v0 v1 v2 v3 : Value} {h : Heap} {R : RP} {X : XP} (k : RunC Try.prog T0 zhcQ_c ⟨[v0, v1, v2, v3, U, U, U, U, U, U, U, U, U, U, U, U, U, U, U, U, U, U, U, U, U, U, U, U, U, U, U, U, U, U, U, U, U, U, U, U, U, U, U, U, U, U, U, U, U, U, U, U, U, U, U, U, U, U, U, U, U, U, U, U, U, U, U], [], h, none⟩ (bodyQ Try.prog T0 [] R X)) :
 Runs Try.prog T0 (.fn 76) [v0, v1, v2, v3] h R X := Runs.fn zhcQ_t rfl k
abbrev zhcQ_l0_M : List Nat := [0, 0, 0, 0, 0, 0, 0, 0, 0, 0, 0, 2, 1, 0, 0, 0, 0, 0, 0, 0, 0, 0, 0, 0, 0, 0, 0, 0, 1, 1, 1, 1, 1, 1, 1, 1, 1, 1, 1, 1, 1, 1, 1, 1, 1, 1, 1, 1, 1, 1, 1, 1, 1, 1, 1, 1, 1, 1, 1, 1, 1, 1, 1, 1, 1, 1, 1]
abbrev fn_zicQ : FuncId := 77
def zicQ_c : ACode :=
 (.seq (.region [
 o1 8 (.mov k0),
 o1 9 (.mov k0)]) (.seq (.region [
 o1 15 (.mov (tm 2)),
 o1 16 (.mov (tm 1)),
 o1 17 (.bin .sub (so (.binOp .sub 3 (tm 15) (tm 16) 3) 3) (tm 15) (tm 16)),
 o1 10 (.mov (tm 17))]) (.seq (.region [
 o1 11 (.alloc 3 [(.int .i64 0)])]) (.seq (.region [
 o1 18 (.mov (tm 1)),
 o1 19 (.mov (tm 10)),
 o1 20 (.bin .quo (so (.binOp .quo 3 (tm 19) (.const (.int .i64 4)) 3) 3) (tm 19) (.const (.int .i64 4))),
 o1 21 (.bin .mul (so (.binOp .mul 3 (tm 20) (.const (.int .i64 1)) 3) 3) (tm 20) (.const (.int .i64 1))),
 o1 22 (.bin .add (so (.binOp .add 3 (tm 18) (tm 21) 3) 3) (tm 18) (tm 21)),
 o1 12 (.mov (tm 22))]) (.seq (.region [
 o1 23 (.mov (tm 1)),
 o1 24 (.mov (tm 10)),
 o1 25 (.bin .quo (so (.binOp .quo 3 (tm 24) (.const (.int .i64 4)) 3) 3) (tm 24) (.const (.int .i64 4))),
 o1 26 (.bin .mul (so (.binOp .mul 3 (tm 25) (.const (.int .i64 2)) 3) 3) (tm 25) (.const (.int .i64 2))),
 o1 27 (.bin .add (so (.binOp .add 3 (tm 23) (tm 26) 3) 3) (tm 23) (tm 26)),
 o1 13 (.mov (tm 27))]) (.seq (.region [
 o1 28 (.mov (tm 1)),
 o1 29 (.mov (tm 10)),
 o1 30 (.bin .quo (so (.binOp .quo 3 (tm 29) (.const (.int .i64 4)) 3) 3) (tm 29) (.const (.int .i64 4))),
 o1 31 (.bin .mul (so (.binOp .mul 3 (tm 30) (.const (.int .i64 3)) 3) 3) (tm 30) (.const (.int .i64 3))),
 o1 32 (.bin .add (so (.binOp .add 3 (tm 28) (tm 31) 3) 3) (tm 28) (tm 31)),
 o1 14 (.mov (tm 32))]) (.seq (.seq (.region [
 o1 33 (.mov (tm 10)),
 o1 34 (.bin .geq (so (.binOp .geq 3 (tm 33) (.const (.int .i64 8)) 3) 4) (tm 33) (.const (.int .i64 8)))]) (.cond (tm 34)
 (.seq (.seq (.region [
 o1 35 (.mov (tm 10)),
 o1 36 (.bin .geq (so (.binOp .geq 3 (tm 35) (.const (.int .i64 50)) 3) 4) (tm 35) (.const (.int .i64 50)))]) (.cond (tm 36)
 (.seq (.region [
 o1 37 (.mov (tm 0)),
 o1 38 (.mov (tm 12)),
 o1 39 (.mov (tm 3)),
 o1 40 (.callV (.func 87) [(tm 37), (tm 38), (tm 11), (tm 39)]),
 o1 12 (.mov (tm 40))]) (.seq (.region [
 o1 41 (.mov (tm 0)),
 o1 42 (.mov (tm 13)),
 o1 43 (.mov (tm 3)),
 o1 44 (.callV (.func 87) [(tm 41), (tm 42), (tm 11), (tm 43)]),
 o1 13 (.mov (tm 44))]) (.region [
 o1 45 (.mov (tm 0)),
 o1 46 (.mov (tm 14)),
 o1 47 (.mov (tm 3)),
 o1 48 (.callV (.func 87) [(tm 45), (tm 46), (tm 11), (tm 47)]),
 o1 14 (.mov (tm 48))])))
 .skip)) (.region [
 o1 49 (.mov (tm 0)),
 o1 50 (.mov (tm 12)),
 o1 51 (.mov (tm 13)),
 o1 52 (.mov (tm 14)),
 o1 53 (.mov (tm 3)),
 o1 54 (.callV (.func 88) [(tm 49), (tm 50), (tm 51), (tm 52), (tm 11), (tm 53)]),
 o1 13 (.mov (tm 54))]))
 .skip)) (.seq (.region [
 o1 55 (.load none (tm 11))]) (.block 0 (.seq (.region [
 o1 58 (.bin .eql (so (.binOp .eql 3 (tm 55) k0 3) 4) (tm 55) k0),
 o1 57 (.mov (tm 58))]) (.cond (tm 57)
 (.seq (.region [
 o1 59 (.mov (tm 13)),
 o1 8 (.mov (tm 59)),
 o1 9 (.mov (.const (.int .i64 1)))]) .ret)
 (.seq (.region [
 o1 61 (.bin .eql (so (.binOp .eql 3 (tm 55) (.const (.int .i64 12)) 3) 4) (tm 55) (.const (.int .i64 12))),
 o1 60 (.mov (tm 61))]) (.cond (tm 60)
 (.seq (.region [
 o1 62 (.mov (tm 13)),
 o1 8 (.mov (tm 62)),
 o1 9 (.mov (.const (.int .i64 2)))]) .ret)
 (.seq (.region [
 o1 56 (.mov (tm 13)),
 o1 8 (.mov (tm 56)),
 o1 9 (.mov k0)]) .ret))))))))))))))
def zicQ : AFunc := ⟨63, [(8, none), (9, none)], zicQ_c, none⟩
theorem zicQ_t0 : tableOf Try.prog 77 = some zicQ := by kernel_rfl
theorem zicQ_t : T0 77 = some zicQ := withKept_t rfl (withTrue_t rfl zicQ_t0)
theorem zicQ_runs {v0 v1 v2 v3 : Value} {h : Heap} {R : RP} {X : XP} (k : RunC Try.prog T0 zicQ_c ⟨[v0, v1, v2, v3, U, U, U, U, U, U, U, U, U, U, U, U, U, U, U, U, U, U, U, U, U, U, U, U, U, U, U, U, U, U, U, U, U, U, U, U, U, U, U, U, U, U, U, U, U, U, U, U, U, U, U, U, U, U, U, U, U, U, U], [], h, none⟩ (bodyQ Try.prog T0 [(8, none), (9, none)] R X)) :
 Runs Try.prog T0 (.fn 77) [v0, v1, v2, v3] h R X := Runs.fn zicQ_t rfl k
abbrev fn_ztcQ : FuncId := 78
def ztcQ_l0 : ACode :=
 (.seq (.seq (.region [
 o1 13 (.mov (tm 8)),
 o1 14 (.mov (tm 9)),
 o1 15 (.bin .lss (so (.binOp .lss 3 (tm 13) (tm 14) 3) 4) (tm 13) (tm 14))]) (.cond (tm 15)
 .skip
 (.exit 0))) (.block 1 (.seq (.regionD [
 o1 16 (.mov (tm 0)),
 o1 17 (.mov (tm 8)),
 o1 18 (.mov (tm 0)),
 o1 19 (.mov (tm 9)),
 o1 20 (.mov (tm 0)),
 o1 21 (.mov (tm 9)),
 o1 22 (.indexSl 1 (tm 20) (tm 21)),
 o1 23 (.load none (tm 22)),
 o1 24 (.mov (tm 0)),
 o1 25 (.mov (tm 8)),
 o1 26 (.indexSl 1 (tm 24) (tm 25)),
 o1 27 (.load none (tm 26)),
 o1 28 (.indexSl 1 (tm 16) (tm 17)),
 ⟨none, .store 1 (tm 28) (tm 23), none, [(some 19, .mov (tm 9), none), (some 18, .mov (tm 0), none)], false⟩,
 o2 29 (.indexSl 1 (tm 18) (tm 19)),
 ⟨none, .store 1 (tm 29) (tm 27), none, [], true⟩]) (.seq (.region [
 o1 30 (.mov (tm 8)),
 o1 31 (.bin .add (so (.binOp .add 3 (tm 30) (.const (.int .i64 1)) 3) 3) (tm 30) (.const (.int .i64 1))),
 o1 8 (.mov (tm 31))]) (.region [
 o1 32 (.mov (tm 9)),
 o1 33 (.bin .sub (so (.binOp .sub 3 (tm 32) (.const (.int .i64 1)) 3) 3) (tm 32) (.const (.int .i64 1))),
 o1 9 (.mov (tm 33))])))))
def ztcQ_c : ACode :=
 (.seq (.region [
 o1 10 (.mov (tm 1)),
 o1 8 (.mov (tm 10))]) (.seq (.region [
 o1 11 (.mov (tm 2)),
 o1 12 (.bin .sub (so (.binOp .sub 3 (tm 11) (.const (.int .i64 1)) 3) 3) (tm 11) (.const (.int .i64 1))),
 o1 9 (.mov (tm 12))]) (.block 0 (.loop ztcQ_l0))))
def ztcQ : AFunc := ⟨34, [], ztcQ_c, none⟩
theorem ztcQ_t0 : tableOf Try.prog 78 = some ztcQ := by kernel_rfl
theorem ztcQ_t : T0 78 = some ztcQ := withKept_t rfl (withTrue_t rfl ztcQ_t0)
theorem ztcQ_runs {v0 v1 v2 v3 : Value} {h : Heap} {R : RP} {X : XP} (k : RunC Try.prog T0 ztcQ_c ⟨[v0, v1, v2, v3, U, U, U, U, U, U, U, U, U, U, U, U, U, U, U, U, U, U, U, U, U, U, U, U, U, U, U, U, U, U], [], h, none⟩ (bodyQ Try.prog T0 [] R X)) :
 Runs Try.prog T0 (.fn 78) [v0, v1, v2, v3] h R X := Runs.fn ztcQ_t rfl k
abbrev ztcQ_l0_M : List Nat := [0, 0, 0, 0, 0, 0, 0, 0, 2, 2, 0, 0, 0, 1, 1, 1, 1, 1, 1, 1, 1, 1, 1, 1, 1, 1, 1, 1, 1, 1, 1, 1, 1, 1]
abbrev fn_zpcQ : FuncId := 79
def zpcQ_l0 : ACode :=
 (.seq (.seq (.regionD [
 o1 19 (.mov (tm 9)),
 o1 20 (.mov (tm 2)),
 o2 21 (.bin .lss (so (.binOp .lss 3 (tm 19) (tm 20) 3) 4) (tm 19) (tm 20)),
 o2 22 (.mov (tm 21)),
 o4 23 (.mov (tm 3)) 22,
 o4 24 (.mov (tm 0)) 22,
 o4 25 (.mov (tm 9)) 22,
 o4 26 (.indexSl 1 (tm 24) (tm 25)) 22,
 o4 27 (.load none (tm 26)) 22,
 o4 28 (.mov (tm 0)) 22,
 o4 29 (.mov (tm 9)) 22,
 o4 30 (.bin .sub (so (.binOp .sub 3 (tm 29) (.const (.int .i64 1)) 3) 3) (tm 29) (.const (.int .i64 1))) 22,
 o4 31 (.indexSl 1 (tm 28) (tm 30)) 22,
 o4 32 (.load none (tm 31)) 22,
 ⟨some 33, .callV (tm 23) [(tm 27), (tm 32)], some (22, true), [], true⟩,
 ⟨some 34, .bin .lss (so (.binOp .lss 3 (tm 33) k0 3) 4) (tm 33) k0, some (22, true), [], true⟩,
 ⟨some 35, .raw (so (.unOp .not 4 (tm 34)) 4), some (22, true), [], true⟩,
 o2 36 (.pick (tm 22) (tm 35) (.const (.bool false)))]) (.cond (tm 36)
 .skip
 (.exit 2))) (.block 3 (.region [
 o1 37 (.mov (tm 9)),
 o1 38 (.bin .add (so (.binOp .add 3 (tm 37) (.const (.int .i64 1)) 3) 3) (tm 37) (.const (.int .i64 1))),
 o1 9 (.mov (tm 38))])))
def zpcQ_l1 : ACode :=
 (.seq (.seq (.region [
 o1 68 (.mov (tm 11)),
 o1 69 (.bin .geq (so (.binOp .geq 3 (tm 68) (.const (.int .i64 1)) 3) 4) (tm 68) (.const (.int .i64 1)))]) (.cond (tm 69)
 .skip
 (.exit 4))) (.seq (.block 5 (.seq (.seq (.regionD [
 o1 72 (.mov (tm 3)),
 o1 73 (.mov (tm 0)),
 o1 74 (.mov (tm 11)),
 o1 75 (.indexSl 1 (tm 73) (tm 74)),
 o1 76 (.load none (tm 75)),
 o1 77 (.mov (tm 0)),
 o1 78 (.mov (tm 11)),
 o1 79 (.bin .sub (so (.binOp .sub 3 (tm 78) (.const (.int .i64 1)) 3) 3) (tm 78) (.const (.int .i64 1))),
 o1 80 (.indexSl 1 (tm 77) (tm 79)),
 o1 81 (.load none (tm 80)),
 o2 82 (.callV (tm 72) [(tm 76), (tm 81)]),
 o2 83 (.bin .lss (so (.binOp .lss 3 (tm 82) k0 3) 4) (tm 82) k0),
 o2 84 (.raw (so (.unOp .not 4 (tm 83)) 4))]) (.cond (tm 84)
 (.exit 4)
 .skip)) (.regionD [
 o1 85 (.mov (tm 0)),
 o1 86 (.mov (tm 11)),
 o1 87 (.mov (tm 0)),
 o1 88 (.mov (tm 11)),
 o1 89 (.bin .sub (so (.binOp .sub 3 (tm 88) (.const (.int .i64 1)) 3) 3) (tm 88) (.const (.int .i64 1))),
 o1 90 (.mov (tm 0)),
 o1 91 (.mov (tm 11)),
 o1 92 (.bin .sub (so (.binOp .sub 3 (tm 91) (.const (.int .i64 1)) 3) 3) (tm 91) (.const (.int .i64 1))),
 o1 93 (.indexSl 1 (tm 90) (tm 92)),
 o1 94 (.load none (tm 93)),
 o1 95 (.mov (tm 0)),
 o1 96 (.mov (tm 11)),
 o1 97 (.indexSl 1 (tm 95) (tm 96)),
 o1 98 (.load none (tm 97)),
 o1 99 (.indexSl 1 (tm 85) (tm 86)),
 ⟨none, .store 1 (tm 99) (tm 94), none, [(some 89, .bin .sub (so (.binOp .sub 3 (tm 88) (.const (.int .i64 1)) 3) 3) (tm 88) (.const (.int .i64 1)), none), (some 88, .mov (tm 11), none), (some 87, .mov (tm 0), none)], false⟩,
 o2 100 (.indexSl 1 (tm 87) (tm 89)),
 ⟨none, .store 1 (tm 100) (tm 98), none, [], true⟩]))) (.region [
 o1 70 (.mov (tm 11)),
 o1 71 (.bin .sub (so (.binOp .sub 3 (tm 70) (.const (.int .i64 1)) 3) 3) (tm 70) (.const (.int .i64 1))),
 o1 11 (.mov (tm 71))])))
def zpcQ_l2 : ACode :=
 (.seq (.seq (.region [
 o1 107 (.mov (tm 12)),
 o1 108 (.mov (tm 2)),
 o1 109 (.bin .lss (so (.binOp .lss 3 (tm 107) (tm 108) 3) 4) (tm 107) (tm 108))]) (.cond (tm 109)
 .skip
 (.exit 6))) (.seq (.block 7 (.seq (.seq (.regionD [
 o1 112 (.mov (tm 3)),
 o1 113 (.mov (tm 0)),
 o1 114 (.mov (tm 12)),
 o1 115 (.indexSl 1 (tm 113) (tm 114)),
 o1 116 (.load none (tm 115)),
 o1 117 (.mov (tm 0)),
 o1 118 (.mov (tm 12)),
 o1 119 (.bin .sub (so (.binOp .sub 3 (tm 118) (.const (.int .i64 1)) 3) 3) (tm 118) (.const (.int .i64 1))),
 o1 120 (.indexSl 1 (tm 117) (tm 119)),
 o1 121 (.load none (tm 120)),
 o2 122 (.callV (tm 112) [(tm 116), (tm 121)]),
 o2 123 (.bin .lss (so (.binOp .lss 3 (tm 122) k0 3) 4) (tm 122) k0),
 o2 124 (.raw (so (.unOp .not 4 (tm 123)) 4))]) (.cond (tm 124)
 (.exit 6)
 .skip)) (.regionD [
 o1 125 (.mov (tm 0)),
 o1 126 (.mov (tm 12)),
 o1 127 (.mov (tm 0)),
 o1 128 (.mov (tm 12)),
 o1 129 (.bin .sub (so (.binOp .sub 3 (tm 128) (.const (.int .i64 1)) 3) 3) (tm 128) (.const (.int .i64 1))),
 o1 130 (.mov (tm 0)),
 o1 131 (.mov (tm 12)),
 o1 132 (.bin .sub (so (.binOp .sub 3 (tm 131) (.const (.int .i64 1)) 3) 3) (tm 131) (.const (.int .i64 1))),
 o1 133 (.indexSl 1 (tm 130) (tm 132)),
 o1 134 (.load none (tm 133)),
 o1 135 (.mov (tm 0)),
 o1 136 (.mov (tm 12)),
 o1 137 (.indexSl 1 (tm 135) (tm 136)),
 o1 138 (.load none (tm 137)),
 o1 139 (.indexSl 1 (tm 125) (tm 126)),
 ⟨none, .store 1 (tm 139) (tm 134), none, [(some 129, .bin .sub (so (.binOp .sub 3 (tm 128) (.const (.int .i64 1)) 3) 3) (tm 128) (.const (.int .i64 1)), none), (some 128, .mov (tm 12), none), (some 127, .mov (tm 0), none)], false⟩,
 o2 140 (.indexSl 1 (tm 127) (tm 129)),
 ⟨none, .store 1 (tm 140) (tm 138), none, [], true⟩]))) (.region [
 o1 110 (.mov (tm 12)),
 o1 111 (.bin .add (so (.binOp .add 3 (tm 110) (.const (.int .i64 1)) 3) 3) (tm 110) (.const (.int .i64 1))),
 o1 12 (.mov (tm 111))])))
def zpcQ_l3 : ACode :=
 (.seq (.seq (.region [
 o1 15 (.mov (tm 10)),
 o1 16 (.bin .lss (so (.binOp .lss 3 (tm 15) (.const (.int .i64 5)) 3) 4) (tm 15) (.const (.int .i64 5)))]) (.cond (tm 16)
 .skip
 (.exit 0))) (.seq (.block 1 (.seq (.block 2 (.loop zpcQ_l0)) (.seq (.seq (.region [
 o1 39 (.mov (tm 9)),
 o1 40 (.mov (tm 2)),
 o1 41 (.bin .eql (so (.binOp .eql 3 (tm 39) (tm 40) 3) 4) (tm 39) (tm 40))]) (.cond (tm 41)
 (.seq (.region [
 o1 8 (.mov (.const (.bool true)))]) .ret)
 .skip)) (.seq (.seq (.region [
 o1 42 (.mov (tm 2)),
 o1 43 (.mov (tm 1)),
 o1 44 (.bin .sub (so (.binOp .sub 3 (tm 42) (tm 43) 3) 3) (tm 42) (tm 43)),
 o1 45 (.bin .lss (so (.binOp .lss 3 (tm 44) (.const (.int .i64 50)) 3) 4) (tm 44) (.const (.int .i64 50)))]) (.cond (tm 45)
 (.seq (.region [
 o1 8 (.mov (.const (.bool false)))]) .ret)
 .skip)) (.seq (.regionD [
 o1 46 (.mov (tm 0)),
 o1 47 (.mov (tm 9)),
 o1 48 (.mov (tm 0)),
 o1 49 (.mov (tm 9)),
 o1 50 (.bin .sub (so (.binOp .sub 3 (tm 49) (.const (.int .i64 1)) 3) 3) (tm 49) (.const (.int .i64 1))),
 o1 51 (.mov (tm 0)),
 o1 52 (.mov (tm 9)),
 o1 53 (.bin .sub (so (.binOp .sub 3 (tm 52) (.const (.int .i64 1)) 3) 3) (tm 52) (.const (.int .i64 1))),
 o1 54 (.indexSl 1 (tm 51) (tm 53)),
 o1 55 (.load none (tm 54)),
 o1 56 (.mov (tm 0)),
 o1 57 (.mov (tm 9)),
 o1 58 (.indexSl 1 (tm 56) (tm 57)),
 o1 59 (.load none (tm 58)),
 o1 60 (.indexSl 1 (tm 46) (tm 47)),
 ⟨none, .store 1 (tm 60) (tm 55), none, [(some 50, .bin .sub (so (.binOp .sub 3 (tm 49) (.const (.int .i64 1)) 3) 3) (tm 49) (.const (.int .i64 1)), none), (some 49, .mov (tm 9), none), (some 48, .mov (tm 0), none)], false⟩,
 o2 61 (.indexSl 1 (tm 48) (tm 50)),
 ⟨none, .store 1 (tm 61) (tm 59), none, [], true⟩]) (.seq (.seq (.region [
 o1 62 (.mov (tm 9)),
 o1 63 (.mov (tm 1)),
 o1 64 (.bin .sub (so (.binOp .sub 3 (tm 62) (tm 63) 3) 3) (tm 62) (tm 63)),
 o1 65 (.bin .geq (so (.binOp .geq 3 (tm 64) (.const (.int .i64 2)) 3) 4) (tm 64) (.const (.int .i64 2)))]) (.cond (tm 65)
 (.seq (.region [
 o1 66 (.mov (tm 9)),
 o1 67 (.bin .sub (so (.binOp .sub 3 (tm 66) (.const (.int .i64 1)) 3) 3) (tm 66) (.const (.int .i64 1))),
 o1 11 (.mov (tm 67))]) (.block 4 (.loop zpcQ_l1)))
 .skip)) (.seq (.region [
 o1 101 (.mov (tm 2)),
 o1 102 (.mov (tm 9)),
 o1 103 (.bin .sub (so (.binOp .sub 3 (tm 101) (tm 102) 3) 3) (tm 101) (tm 102)),
 o1 104 (.bin .geq (so (.binOp .geq 3 (tm 103) (.const (.int .i64 2)) 3) 4) (tm 103) (.const (.int .i64 2)))]) (.cond (tm 104)
 (.seq (.region [
 o1 105 (.mov (tm 9)),
 o1 106 (.bin .add (so (.binOp .add 3 (tm 105) (.const (.int .i64 1)) 3) 3) (tm 105) (.const (.int .i64 1))),
 o1 12 (.mov (tm 106))]) (.block 6 (.loop zpcQ_l2)))
 .skip)))))))) (.region [
 o1 17 (.mov (tm 10)),
 o1 18 (.bin .add (so (.binOp .add 3 (tm 17) (.const (.int .i64 1)) 3) 3) (tm 17) (.const (.int .i64 1))),
 o1 10 (.mov (tm 18))])))
def zpcQ_c : ACode :=
 (.seq (.region [
 o1 8 (.mov (.const (.bool false)))]) (.seq (.region [
 o1 13 (.mov (tm 1)),
 o1 14 (.bin .add (so (.binOp .add 3 (tm 13) (.const (.int .i64 1)) 3) 3) (tm 13) (.const (.int .i64 1))),
 o1 9 (.mov (tm 14))]) (.seq (.seq (.region [
 o1 10 (.mov k0)]) (.block 0 (.loop zpcQ_l3))) (.seq (.region [
 o1 8 (.mov (.const (.bool false)))]) .ret))))
def zpcQ : AFunc := ⟨141, [(8, none)], zpcQ_c, none⟩
theorem zpcQ_t0 : tableOf Try.prog 79 = some zpcQ := by kernel_rfl
theorem zpcQ_t : T0 79 = some zpcQ := withKept_t rfl (withTrue_t rfl zpcQ_t0)
theorem zpcQ_runs {v0 v1 v2 v3 : Value} {h : Heap} {R : RP} {X : XP} (k : RunC Try.prog T0 zpcQ_c ⟨[v0, v1, v2, v3, U, U, U, U, U, U, U, U, U, U, U, U, U, U, U, U, U, U, U, U, U, U, U, U, U, U, U, U, U, U, U, U, U, U, U, U, U, U, U, U, U, U, U, U, U, U, U, U, U, U, U, U, U, U, U, U, U, U, U, U, U, U, U, U, U, U, U, U, U, U, U, U, U, U, U, U, U, U, U, U, U, U, U, U, U, U, U, U, U, U, U, U, U, U, U, U, U, U, U, U, U, U, U, U, U, U, U, U, U, U, U, U, U, U, U, U, U, U, U, U, U, U, U, U, U, U, U, U, U, U, U, U, U, U, U, U, U], [], h, none⟩ (bodyQ Try.prog T0 [(8, none)] R X)) :
 Runs Try.prog T0 (.fn 79) [v0, v1, v2, v3] h R X := Runs.fn zpcQ_t rfl k
abbrev zpcQ_l0_M : List Nat := [0, 0, 0, 0, 0, 0, 0, 0, 0, 2, 0, 0, 0, 0, 0, 0, 0, 0, 0, 1, 1, 1, 1, 1, 1, 1, 1, 1, 1, 1, 1, 1, 1, 1, 1, 1, 1, 1, 1, 0, 0, 0, 0, 0, 0, 0, 0, 0, 0, 0, 0, 0, 0, 0, 0, 0, 0, 0, 0, 0, 0, 0, 0, 0, 0, 0, 0, 0, 0, 0, 0, 0, 0, 0, 0, 0, 0, 0, 0, 0, 0, 0, 0, 0, 0, 0, 0, 0, 0, 0, 0, 0, 0, 0, 0, 0, 0, 0, 0, 0, 0, 0, 0, 0, 0, 0, 0, 0, 0, 0, 0, 0, 0, 0, 0, 0, 0, 0, 0, 0, 0, 0, 0, 0, 0, 0, 0, 0, 0, 0, 0, 0, 0, 0, 0, 0, 0, 0, 0, 0, 0]
abbrev zpcQ_l1_M : List Nat := [0, 0, 0, 0, 0, 0, 0, 0, 0, 0, 0, 2, 0, 0, 0, 0, 0, 0, 0, 0, 0, 0, 0, 0, 0, 0, 0, 0, 0, 0, 0, 0, 0, 0, 0, 0, 0, 0, 0, 0, 0, 0, 0, 0, 0, 0, 0, 0, 0, 0, 0, 0, 0, 0, 0, 0, 0, 0, 0, 0, 0, 0, 0, 0, 0, 0, 0, 0, 1, 1, 1, 1, 1, 1, 1, 1, 1, 1, 1, 1, 1, 1, 1, 1, 1, 1, 1, 1, 1, 1, 1, 1, 1, 1, 1, 1, 1, 1, 1, 1, 1, 0, 0, 0, 0, 0, 0, 0, 0, 0, 0, 0, 0, 0, 0, 0, 0, 0, 0, 0, 0, 0, 0, 0, 0, 0, 0, 0, 0, 0, 0, 0, 0, 0, 0, 0, 0, 0, 0, 0, 0]
abbrev zpcQ_l2_M : List Nat := [0, 0, 0, 0, 0, 0, 0, 0, 0, 0, 0, 0, 2, 0, 0, 0, 0, 0, 0, 0, 0, 0, 0, 0, 0, 0, 0, 0, 0, 0, 0, 0, 0, 0, 0, 0, 0, 0, 0, 0, 0, 0, 0, 0, 0, 0, 0, 0, 0, 0, 0, 0, 0, 0, 0, 0, 0, 0, 0, 0, 0, 0, 0, 0, 0, 0, 0, 0, 0, 0, 0, 0, 0, 0, 0, 0, 0, 0, 0, 0, 0, 0, 0, 0, 0, 0, 0, 0, 0, 0, 0, 0, 0, 0, 0, 0, 0, 0, 0, 0, 0, 0, 0, 0, 0, 0, 0, 1, 1, 1, 1, 1, 1, 1, 1, 1, 1, 1, 1, 1, 1, 1, 1, 1, 1, 1, 1, 1, 1, 1, 1, 1, 1, 1, 1, 1, 1, 1, 1, 1, 1]
abbrev zpcQ_l3_M : List Nat := [0, 0, 0, 0, 0, 0, 0, 0, 1, 2, 2, 1, 1, 0, 0, 1, 1, 1, 1, 1, 1, 1, 1, 1, 1, 1, 1, 1, 1, 1, 1, 1, 1, 1, 1, 1, 1, 1, 1, 1, 1, 1, 1, 1, 1, 1, 1, 1, 1, 1, 1, 1, 1, 1, 1, 1, 1, 1, 1, 1, 1, 1, 1, 1, 1, 1, 1, 1, 1, 1, 1, 1, 1, 1, 1, 1, 1, 1, 1, 1, 1, 1, 1, 1, 1, 1, 1, 1, 1, 1, 1, 1, 1, 1, 1, 1, 1, 1, 1, 1, 1, 1, 1, 1, 1, 1, 1, 1, 1, 1, 1, 1, 1, 1, 1, 1, 1, 1, 1, 1, 1, 1, 1, 1, 1, 1, 1, 1, 1, 1, 1, 1, 1, 1, 1, 1, 1, 1, 1, 1, 1]
abbrev fn_zqcQ : FuncId := 81
def zqcQ_l0 : ACode :=
 (.seq (.seq (.regionD [
 o1 32 (.mov (tm 12)),
 o1 33 (.mov (tm 13)),
 o2 34 (.bin .leq (so (.binOp .leq 3 (tm 32) (tm 33) 3) 4) (tm 32) (tm 33)),
 o2 35 (.mov (tm 34)),
 o4 36 (.mov (tm 4)) 35,
 o4 37 (.mov (tm 0)) 35,
 o4 38 (.mov (tm 12)) 35,
 o4 39 (.indexSl 1 (tm 37) (tm 38)) 35,
 o4 40 (.load none (tm 39)) 35,
 o4 41 (.mov (tm 0)) 35,
 o4 42 (.mov (tm 1)) 35,
 o4 43 (.indexSl 1 (tm 41) (tm 42)) 35,
 o4 44 (.load none (tm 43)) 35,
 ⟨some 45, .callV (tm 36) [(tm 40), (tm 44)], some (35, true), [], true⟩,
 ⟨some 46, .bin .lss (so (.binOp .lss 3 (tm 45) k0 3) 4) (tm 45) k0, some (35, true), [], true⟩,
 o2 47 (.pick (tm 35) (tm 46) (.const (.bool false)))]) (.cond (tm 47)
 .skip
 (.exit 0))) (.block 1 (.region [
 o1 48 (.mov (tm 12)),
 o1 49 (.bin .add (so (.binOp .add 3 (tm 48) (.const (.int .i64 1)) 3) 3) (tm 48) (.const (.int .i64 1))),
 o1 12 (.mov (tm 49))])))
def zqcQ_l1 : ACode :=
 (.seq (.seq (.regionD [
 o1 50 (.mov (tm 12)),
 o1 51 (.mov (tm 13)),
 o2 52 (.bin .leq (so (.binOp .leq 3 (tm 50) (tm 51) 3) 4) (tm 50) (tm 51)),
 o2 53 (.mov (tm 52)),
 o4 54 (.mov (tm 4)) 53,
 o4 55 (.mov (tm 0)) 53,
 o4 56 (.mov (tm 13)) 53,
 o4 57 (.indexSl 1 (tm 55) (tm 56)) 53,
 o4 58 (.load none (tm 57)) 53,
 o4 59 (.mov (tm 0)) 53,
 o4 60 (.mov (tm 1)) 53,
 o4 61 (.indexSl 1 (tm 59) (tm 60)) 53,
 o4 62 (.load none (tm 61)) 53,
 ⟨some 63, .callV (tm 54) [(tm 58), (tm 62)], some (53, true), [], true⟩,
 ⟨some 64, .bin .lss (so (.binOp .lss 3 (tm 63) k0 3) 4) (tm 63) k0, some (53, true), [], true⟩,
 ⟨some 65, .raw (so (.unOp .not 4 (tm 64)) 4), some (53, true), [], true⟩,
 o2 66 (.pick (tm 53) (tm 65) (.const (.bool false)))]) (.cond (tm 66)
 .skip
 (.exit 2))) (.block 3 (.region [
 o1 67 (.mov (tm 13)),
 o1 68 (.bin .sub (so (.binOp .sub 3 (tm 67) (.const (.int .i64 1)) 3) 3) (tm 67) (.const (.int .i64 1))),
 o1 13 (.mov (tm 68))])))
def zqcQ_l2 : ACode :=
 (.seq (.seq (.regionD [
 o1 105 (.mov (tm 12)),
 o1 106 (.mov (tm 13)),
 o2 107 (.bin .leq (so (.binOp .leq 3 (tm 105) (tm 106) 3) 4) (tm 105) (tm 106)),
 o2 108 (.mov (tm 107)),
 o4 109 (.mov (tm 4)) 108,
 o4 110 (.mov (tm 0)) 108,
 o4 111 (.mov (tm 12)) 108,
 o4 112 (.indexSl 1 (tm 110) (tm 111)) 108,
 o4 113 (.load none (tm 112)) 108,
 o4 114 (.mov (tm 0)) 108,
 o4 115 (.mov (tm 1)) 108,
 o4 116 (.indexSl 1 (tm 114) (tm 115)) 108,
 o4 117 (.load none (tm 116)) 108,
 ⟨some 118, .callV (tm 109) [(tm 113), (tm 117)], some (108, true), [], true⟩,
 ⟨some 119, .bin .lss (so (.binOp .lss 3 (tm 118) k0 3) 4) (tm 118) k0, some (108, true), [], true⟩,
 o2 120 (.pick (tm 108) (tm 119) (.const (.bool false)))]) (.cond (tm 120)
 .skip
 (.exit 6))) (.block 7 (.region [
 o1 121 (.mov (tm 12)),
 o1 122 (.bin .add (so (.binOp .add 3 (tm 121) (.const (.int .i64 1)) 3) 3) (tm 121) (.const (.int .i64 1))),
 o1 12 (.mov (tm 122))])))
def zqcQ_l3 : ACode :=
 (.seq (.seq (.regionD [
 o1 123 (.mov (tm 12)),
 o1 124 (.mov (tm 13)),
 o2 125 (.bin .leq (so (.binOp .leq 3 (tm 123) (tm 124) 3) 4) (tm 123) (tm 124)),
 o2 126 (.mov (tm 125)),
 o4 127 (.mov (tm 4)) 126,
 o4 128 (.mov (tm 0)) 126,
 o4 129 (.mov (tm 13)) 126,
 o4 130 (.indexSl 1 (tm 128) (tm 129)) 126,
 o4 131 (.load none (tm 130)) 126,
 o4 132 (.mov (tm 0)) 126,
 o4 133 (.mov (tm 1)) 126,
 o4 134 (.indexSl 1 (tm 132) (tm 133)) 126,
 o4 135 (.load none (tm 134)) 126,
 ⟨some 136, .callV (tm 127) [(tm 131), (tm 135)], some (126, true), [], true⟩,
 ⟨some 137, .bin .lss (so (.binOp .lss 3 (tm 136) k0 3) 4) (tm 136) k0, some (126, true), [], true⟩,
 ⟨some 138, .raw (so (.unOp .not 4 (tm 137)) 4), some (126, true), [], true⟩,
 o2 139 (.pick (tm 126) (tm 138) (.const (.bool false)))]) (.cond (tm 139)
 .skip
 (.exit 8))) (.block 9 (.region [
 o1 140 (.mov (tm 13)),
 o1 141 (.bin .sub (so (.binOp .sub 3 (tm 140) (.const (.int .i64 1)) 3) 3) (tm 140) (.const (.int .i64 1))),
 o1 13 (.mov (tm 141))])))
def zqcQ_l4 : ACode :=
 (.block 5 (.seq (.block 6 (.loop zqcQ_l2)) (.seq (.block 8 (.loop zqcQ_l3)) (.seq (.seq (.region [
 o1 142 (.mov (tm 12)),
 o1 143 (.mov (tm 13)),
 o1 144 (.bin .gtr (so (.binOp .gtr 3 (tm 142) (tm 143) 3) 4) (tm 142) (tm 143))]) (.cond (tm 144)
 (.exit 4)
 .skip)) (.seq (.regionD [
 o1 145 (.mov (tm 0)),
 o1 146 (.mov (tm 12)),
 o1 147 (.mov (tm 0)),
 o1 148 (.mov (tm 13)),
 o1 149 (.mov (tm 0)),
 o1 150 (.mov (tm 13)),
 o1 151 (.indexSl 1 (tm 149) (tm 150)),
 o1 152 (.load none (tm 151)),
 o1 153 (.mov (tm 0)),
 o1 154 (.mov (tm 12)),
 o1 155 (.indexSl 1 (tm 153) (tm 154)),
 o1 156 (.load none (tm 155)),
 o1 157 (.indexSl 1 (tm 145) (tm 146)),
 ⟨none, .store 1 (tm 157) (tm 152), none, [(some 148, .mov (tm 13), none), (some 147, .mov (tm 0), none)], false⟩,
 o2 158 (.indexSl 1 (tm 147) (tm 148)),
 ⟨none, .store 1 (tm 158) (tm 156), none, [], true⟩]) (.seq (.region [
 o1 159 (.mov (tm 12)),
 o1 160 (.bin .add (so (.binOp .add 3 (tm 159) (.const (.int .i64 1)) 3) 3) (tm 159) (.const (.int .i64 1))),
 o1 12 (.mov (tm 160))]) (.region [
 o1 161 (.mov (tm 13)),
 o1 162 (.bin .sub (so (.binOp .sub 3 (tm 161) (.const (.int .i64 1)) 3) 3) (tm 161) (.const (.int .i64 1))),
 o1 13 (.mov (tm 162))])))))))
def zqcQ_c : ACode :=
 (.seq (.region [
 o1 10 (.mov k0),
 o1 11 (.mov (.const (.bool false)))]) (.seq (.regionD [
 o1 14 (.mov (tm 0)),
 o1 15 (.mov (tm 1)),
 o1 16 (.mov (tm 0)),
 o1 17 (.mov (tm 3)),
 o1 18 (.mov (tm 0)),
 o1 19 (.mov (tm 3)),
 o1 20 (.indexSl 1 (tm 18) (tm 19)),
 o1 21 (.load none (tm 20)),
 o1 22 (.mov (tm 0)),
 o1 23 (.mov (tm 1)),
 o1 24 (.indexSl 1 (tm 22) (tm 23)),
 o1 25 (.load none (tm 24)),
 o1 26 (.indexSl 1 (tm 14) (tm 15)),
 ⟨none, .store 1 (tm 26) (tm 21), none, [(some 17, .mov (tm 3), none), (some 16, .mov (tm 0), none)], false⟩,
 o2 27 (.indexSl 1 (tm 16) (tm 17)),
 ⟨none, .store 1 (tm 27) (tm 25), none, [], true⟩]) (.seq (.region [
 o1 28 (.mov (tm 1)),
 o1 29 (.bin .add (so (.binOp .add 3 (tm 28) (.const (.int .i64 1)) 3) 3) (tm 28) (.const (.int .i64 1))),
 o1 30 (.mov (tm 2)),
 o1 31 (.bin .sub (so (.binOp .sub 3 (tm 30) (.const (.int .i64 1)) 3) 3) (tm 30) (.const (.int .i64 1))),
 o1 12 (.mov (tm 29)),
 o1 13 (.mov (tm 31))]) (.seq (.block 0 (.loop zqcQ_l0)) (.seq (.block 2 (.loop zqcQ_l1)) (.seq (.seq (.region [
 o1 69 (.mov (tm 12)),
 o1 70 (.mov (tm 13)),
 o1 71 (.bin .gtr (so (.binOp .gtr 3 (tm 69) (tm 70) 3) 4) (tm 69) (tm 70))]) (.cond (tm 71)
 (.seq (.regionD [
 o1 72 (.mov (tm 0)),
 o1 73 (.mov (tm 13)),
 o1 74 (.mov (tm 0)),
 o1 75 (.mov (tm 1)),
 o1 76 (.mov (tm 0)),
 o1 77 (.mov (tm 1)),
 o1 78 (.indexSl 1 (tm 76) (tm 77)),
 o1 79 (.load none (tm 78)),
 o1 80 (.mov (tm 0)),
 o1 81 (.mov (tm 13)),
 o1 82 (.indexSl 1 (tm 80) (tm 81)),
 o1 83 (.load none (tm 82)),
 o1 84 (.indexSl 1 (tm 72) (tm 73)),
 ⟨none, .store 1 (tm 84) (tm 79), none, [(some 75, .mov (tm 1), none), (some 74, .mov (tm 0), none)], false⟩,
 o2 85 (.indexSl 1 (tm 74) (tm 75)),
 ⟨none, .store 1 (tm 85) (tm 83), none, [], true⟩]) (.seq (.region [
 o1 86 (.mov (tm 13)),
 o1 10 (.mov (tm 86)),
 o1 11 (.mov (.const (.bool true)))]) .ret))
 .skip)) (.seq (.regionD [
 o1 87 (.mov (tm 0)),
 o1 88 (.mov (tm 12)),
 o1 89 (.mov (tm 0)),
 o1 90 (.mov (tm 13)),
 o1 91 (.mov (tm 0)),
 o1 92 (.mov (tm 13)),
 o1 93 (.indexSl 1 (tm 91) (tm 92)),
 o1 94 (.load none (tm 93)),
 o1 95 (.mov (tm 0)),
 o1 96 (.mov (tm 12)),
 o1 97 (.indexSl 1 (tm 95) (tm 96)),
 o1 98 (.load none (tm 97)),
 o1 99 (.indexSl 1 (tm 87) (tm 88)),
 ⟨none, .store 1 (tm 99) (tm 94), none, [(some 90, .mov (tm 13), none), (some 89, .mov (tm 0), none)], false⟩,
 o2 100 (.indexSl 1 (tm 89) (tm 90)),
 ⟨none, .store 1 (tm 100) (tm 98), none, [], true⟩]) (.seq (.region [
 o1 101 (.mov (tm 12)),
 o1 102 (.bin .add (so (.binOp .add 3 (tm 101) (.const (.int .i64 1)) 3) 3) (tm 101) (.const (.int .i64 1))),
 o1 12 (.mov (tm 102))]) (.seq (.region [
 o1 103 (.mov (tm 13)),
 o1 104 (.bin .sub (so (.binOp .sub 3 (tm 103) (.const (.int .i64 1)) 3) 3) (tm 103) (.const (.int .i64 1))),
 o1 13 (.mov (tm 104))]) (.seq (.block 4 (.loop zqcQ_l4)) (.seq (.regionD [
 o1 163 (.mov (tm 0)),
 o1 164 (.mov (tm 13)),
 o1 165 (.mov (tm 0)),
 o1 166 (.mov (tm 1)),
 o1 167 (.mov (tm 0)),
 o1 168 (.mov (tm 1)),
 o1 169 (.indexSl 1 (tm 167) (tm 168)),
 o1 170 (.load none (tm 169)),
 o1 171 (.mov (tm 0)),
 o1 172 (.mov (tm 13)),
 o1 173 (.indexSl 1 (tm 171) (tm 172)),
 o1 174 (.load none (tm 173)),
 o1 175 (.indexSl 1 (tm 163) (tm 164)),
 ⟨none, .store 1 (tm 175) (tm 170), none, [(some 166, .mov (tm 1), none), (some 165, .mov (tm 0), none)], false⟩,
 o2 176 (.indexSl 1 (tm 165) (tm 166)),
 ⟨none, .store 1 (tm 176) (tm 174), none, [], true⟩]) (.seq (.region [
 o1 177 (.mov (tm 13)),
 o1 10 (.mov (tm 177)),
 o1 11 (.mov (.const (.bool false)))]) .ret))))))))))))
def zqcQ : AFunc := ⟨178, [(10, none), (11, none)], zqcQ_c, none⟩
theorem zqcQ_t0 : tableOf Try.prog 81 = some zqcQ := by kernel_rfl
theorem zqcQ_t : T0 81 = some zqcQ := withKept_t rfl (withTrue_t rfl zqcQ_t0)
theorem zqcQ_runs {v0 v1 v2 v3 v4 : Value} {h : Heap} {R : RP} {X : XP} (k : RunC Try.prog T0 zqcQ_c ⟨[v0, v1, v2, v3, v4, U, U, U, U, U, U, U, U, U, U, U, U, U, U, U, U, U, U, U, U, U, U, U, U, U, U, U, U, U, U, U, U, U, U, U, U, U, U, U, U, U, U, U, U, U, U, U, U, U, U, U, U, U, U, U, U, U, U, U, U, U, U, U, U, U, U, U, U, U, U, U, U, U, U, U, U, U, U, U, U, U, U, U, U, U, U, U, U, U, U, U, U, U, U, U, U, U, U, U, U, U, U, U, U, U, U, U, U, U, U, U, U, U, U, U, U, U, U, U, U, U, U, U, U, U, U, U, U, U, U, U, U, U, U, U, U, U, U, U, U, U, U, U, U, U, U, U, U, U, U, U, U, U, U, U, U, U, U, U, U, U, U, U, U, U, U, U, U, U, U, U, U, U], [], h, none⟩ (bodyQ Try.prog T0 [(10, none), (11, none)] R X)) :
 Runs Try.prog T0 (.fn 81) [v0, v1, v2, v3, v4] h R X := Runs.fn zqcQ_t rfl k
abbrev zqcQ_l0_M : List Nat := [0, 0, 0, 0, 0, 0, 0, 0, 0, 0, 0, 0, 2, 0, 0, 0, 0, 0, 0, 0, 0, 0, 0, 0, 0, 0, 0, 0, 0, 0, 0, 0, 1, 1, 1, 1, 1, 1, 1, 1, 1, 1, 1, 1, 1, 1, 1, 1, 1, 1, 0, 0, 0, 0, 0, 0, 0, 0, 0, 0, 0, 0, 0, 0, 0, 0, 0, 0, 0, 0, 0, 0, 0, 0, 0, 0, 0, 0, 0, 0, 0, 0, 0, 0, 0, 0, 0, 0, 0, 0, 0, 0, 0, 0, 0, 0, 0, 0, 0, 0, 0, 0, 0, 0, 0, 0, 0, 0, 0, 0, 0, 0, 0, 0, 0, 0, 0, 0, 0, 0, 0, 0, 0, 0, 0, 0, 0, 0, 0, 0, 0, 0, 0, 0, 0, 0, 0, 0, 0, 0, 0, 0, 0, 0, 0, 0, 0, 0, 0, 0, 0, 0, 0, 0, 0, 0, 0, 0, 0, 0, 0, 0, 0, 0, 0, 0, 0, 0, 0, 0, 0, 0, 0, 0, 0, 0, 0, 0]
abbrev zqcQ_l1_M : List Nat := [0, 0, 0, 0, 0, 0, 0, 0, 0, 0, 0, 0, 0, 2, 0, 0, 0, 0, 0, 0, 0, 0, 0, 0, 0, 0, 0, 0, 0, 0, 0, 0, 0, 0, 0, 0, 0, 0, 0, 0, 0, 0, 0, 0, 0, 0, 0, 0, 0, 0, 1, 1, 1, 1, 1, 1, 1, 1, 1, 1, 1, 1, 1, 1, 1, 1, 1, 1, 1, 0, 0, 0, 0, 0, 0, 0, 0, 0, 0, 0, 0, 0, 0, 0, 0, 0, 0, 0, 0, 0, 0, 0, 0, 0, 0, 0, 0, 0, 0, 0, 0, 0, 0, 0, 0, 0, 0, 0, 0, 0, 0, 0, 0, 0, 0, 0, 0, 0, 0, 0, 0, 0, 0, 0, 0, 0, 0, 0, 0, 0, 0, 0, 0, 0, 0, 0, 0, 0, 0, 0, 0, 0, 0, 0, 0, 0, 0, 0, 0, 0, 0, 0, 0, 0, 0, 0, 0, 0, 0, 0, 0, 0, 0, 0, 0, 0, 0, 0, 0, 0, 0, 0, 0, 0, 0, 0, 0, 0]
abbrev zqcQ_l2_M : List Nat := [0, 0, 0, 0, 0, 0, 0, 0, 0, 0, 0, 0, 2, 0, 0, 0, 0, 0, 0, 0, 0, 0, 0, 0, 0, 0, 0, 0, 0, 0, 0, 0, 0, 0, 0, 0, 0, 0, 0, 0, 0, 0, 0, 0, 0, 0, 0, 0, 0, 0, 0, 0, 0, 0, 0, 0, 0, 0, 0, 0, 0, 0, 0, 0, 0, 0, 0, 0, 0, 0, 0, 0, 0, 0, 0, 0, 0, 0, 0, 0, 0, 0, 0, 0, 0, 0, 0, 0, 0, 0, 0, 0, 0, 0, 0, 0, 0, 0, 0, 0, 0, 0, 0, 0, 0, 1, 1, 1, 1, 1, 1, 1, 1, 1, 1, 1, 1, 1, 1, 1, 1, 1, 1, 0, 0, 0, 0, 0, 0, 0, 0, 0, 0, 0, 0, 0, 0, 0, 0, 0, 0, 0, 0, 0, 0, 0, 0, 0, 0, 0, 0, 0, 0, 0, 0, 0, 0, 0, 0, 0, 0, 0, 0, 0, 0, 0, 0, 0, 0, 0, 0, 0, 0, 0, 0, 0, 0, 0]
abbrev zqcQ_l3_M : List Nat := [0, 0, 0, 0, 0, 0, 0, 0, 0, 0, 0, 0, 0, 2, 0, 0, 0, 0, 0, 0, 0, 0, 0, 0, 0, 0, 0, 0, 0, 0, 0, 0, 0, 0, 0, 0, 0, 0, 0, 0, 0, 0, 0, 0, 0, 0, 0, 0, 0, 0, 0, 0, 0, 0, 0, 0, 0, 0, 0, 0, 0, 0, 0, 0, 0, 0, 0, 0, 0, 0, 0, 0, 0, 0, 0, 0, 0, 0, 0, 0, 0, 0, 0, 0, 0, 0, 0, 0, 0, 0, 0, 0, 0, 0, 0, 0, 0, 0, 0, 0, 0, 0, 0, 0, 0, 0, 0, 0, 0, 0, 0, 0, 0, 0, 0, 0, 0, 0, 0, 0, 0, 0, 0, 1, 1, 1, 1, 1, 1, 1, 1, 1, 1, 1, 1, 1, 1, 1, 1, 1, 1, 1, 0, 0, 0, 0, 0, 0, 0, 0, 0, 0, 0, 0, 0, 0, 0, 0, 0, 0, 0, 0, 0, 0, 0, 0, 0, 0, 0, 0, 0, 0, 0, 0, 0, 0, 0, 0]
abbrev zqcQ_l4_M : List Nat := [0, 0, 0, 0, 0, 0, 0, 0, 0, 0, 0, 0, 2, 2, 0, 0, 0, 0, 0, 0, 0, 0, 0, 0, 0, 0, 0, 0, 0, 0, 0, 0, 0, 0, 0, 0, 0, 0, 0, 0, 0, 0, 0, 0, 0, 0, 0, 0, 0, 0, 0, 0, 0, 0, 0, 0, 0, 0, 0, 0, 0, 0, 0, 0, 0, 0, 0, 0, 0, 0, 0, 0, 0, 0, 0, 0, 0, 0, 0, 0, 0, 0, 0, 0, 0, 0, 0, 0, 0, 0, 0, 0, 0, 0, 0, 0, 0, 0, 0, 0, 0, 0, 0, 0, 0, 1, 1, 1, 1, 1, 1, 1, 1, 1, 1, 1, 1, 1, 1, 1, 1, 1, 1, 1, 1, 1, 1, 1, 1, 1, 1, 1, 1, 1, 1, 1, 1, 1, 1, 1, 1, 1, 1, 1, 1, 1, 1, 1, 1, 1, 1, 1, 1, 1, 1, 1, 1, 1, 1, 1, 1, 1, 1, 0, 0, 0, 0, 0, 0, 0, 0, 0, 0, 0, 0, 0, 0, 0]
abbrev fn_zybQ : FuncId := 83
def zybQ_c : ACode :=
 (.seq (.region [
 o1 2 (.mov k0)]) (.seq (.seq (.region [
 o1 3 (.mov (tm 0)),
 o1 4 (.bin .geq (so (.binOp .geq 116 (tm 3) (.const (.int .u64 4294967296)) 116) 4) (tm 3) (.const (.int .u64 4294967296)))]) (.cond (tm 4)
 (.seq (.region [
 o1 5 (.mov (tm 0)),
 o1 6 (.bin .shr (so (.binOp .shr 116 (tm 5) (.const (.int .u64 32)) 104) 116) (tm 5) (.const (.int .u64 32))),
 o1 0 (.mov (tm 6))]) (.region [
 o1 2 (.mov (.const (.int .i64 32)))]))
 .skip)) (.seq (.seq (.region [
 o1 7 (.mov (tm 0)),
 o1 8 (.bin .geq (so (.binOp .geq 116 (tm 7) (.const (.int .u64 65536)) 116) 4) (tm 7) (.const (.int .u64 65536)))]) (.cond (tm 8)
 (.seq (.region [
 o1 9 (.mov (tm 0)),
 o1 10 (.bin .shr (so (.binOp .shr 116 (tm 9) (.const (.int .u64 16)) 104) 116) (tm 9) (.const (.int .u64 16))),
 o1 0 (.mov (tm 10))]) (.region [
 o1 11 (.mov (tm 2)),
 o1 12 (.bin .add (so (.binOp .add 3 (tm 11) (.const (.int .i64 16)) 3) 3) (tm 11) (.const (.int .i64 16))),
 o1 2 (.mov (tm 12))]))
 .skip)) (.seq (.seq (.region [
 o1 13 (.mov (tm 0)),
 o1 14 (.bin .geq (so (.binOp .geq 116 (tm 13) (.const (.int .u64 256)) 116) 4) (tm 13) (.const (.int .u64 256)))]) (.cond (tm 14)
 (.seq (.region [
 o1 15 (.mov (tm 0)),
 o1 16 (.bin .shr (so (.binOp .shr 116 (tm 15) (.const (.int .u64 8)) 104) 116) (tm 15) (.const (.int .u64 8))),
 o1 0 (.mov (tm 16))]) (.region [
 o1 17 (.mov (tm 2)),
 o1 18 (.bin .add (so (.binOp .add 3 (tm 17) (.const (.int .i64 8)) 3) 3) (tm 17) (.const (.int .i64 8))),
 o1 2 (.mov (tm 18))]))
 .skip)) (.seq (.region [
 o1 19 (.mov (tm 2)),
 o1 20 (.mov (tm 0)),
 o1 21 (.conv .u8 (so (.convert 116 5 (tm 20)) 5) (tm 20)),
 o1 22 (.raw (so (.index 9 (.const (.string ⟨⟨[0, 1, 2, 2, 3, 3, 3, 3, 4, 4, 4, 4, 4, 4, 4, 4, 5, 5, 5, 5, 5, 5, 5, 5, 5, 5, 5, 5, 5, 5, 5, 5, 6, 6, 6, 6, 6, 6, 6, 6, 6, 6, 6, 6, 6, 6, 6, 6, 6, 6, 6, 6, 6, 6, 6, 6, 6, 6, 6, 6, 6, 6, 6, 6, 7, 7, 7, 7, 7, 7, 7, 7, 7, 7, 7, 7, 7, 7, 7, 7, 7, 7, 7, 7, 7, 7, 7, 7, 7, 7, 7, 7, 7, 7, 7, 7, 7, 7, 7, 7, 7, 7, 7, 7, 7, 7, 7, 7, 7, 7, 7, 7, 7, 7, 7, 7, 7, 7, 7, 7, 7, 7, 7, 7, 7, 7, 7, 7, 8, 8, 8, 8, 8, 8, 8, 8, 8, 8, 8, 8, 8, 8, 8, 8, 8, 8, 8, 8, 8, 8, 8, 8, 8, 8, 8, 8, 8, 8, 8, 8, 8, 8, 8, 8, 8, 8, 8, 8, 8, 8, 8, 8, 8, 8, 8, 8, 8, 8, 8, 8, 8, 8, 8, 8, 8, 8, 8, 8, 8, 8, 8, 8, 8, 8, 8, 8, 8, 8, 8, 8, 8, 8, 8, 8, 8, 8, 8, 8, 8, 8, 8, 8, 8, 8, 8, 8, 8, 8, 8, 8, 8, 8, 8, 8, 8, 8, 8, 8, 8, 8, 8, 8, 8, 8, 8, 8, 8, 8, 8, 8, 8, 8, 8, 8, 8, 8, 8, 8, 8, 8, 8, 8, 8, 8, 8, 8]⟩⟩)) (tm 21)) 5)),
 o1 23 (.conv .i64 (so (.convert 5 3 (tm 22)) 3) (tm 22)),
 o1 24 (.bin .add (so (.binOp .add 3 (tm 19) (tm 23) 3) 3) (tm 19) (tm 23)),
 o1 2 (.mov (tm 24))]) .ret)))))
def zybQ : AFunc := ⟨25, [(2, none)], zybQ_c, none⟩
theorem zybQ_t0 : tableOf Try.prog 83 = some zybQ := by kernel_rfl
theorem zybQ_t : T0 83 = some zybQ := withKept_t rfl (withTrue_t rfl zybQ_t0)
theorem zybQ_runs {v0 : Value} {h : Heap} {R : RP} {X : XP} (k : RunC Try.prog T0 zybQ_c ⟨[v0, U, U, U, U, U, U, U, U, U, U, U, U, U, U, U, U, U, U, U, U, U, U, U, U], [], h, none⟩ (bodyQ Try.prog T0 [(2, none)] R X)) :
 Runs Try.prog T0 (.fn 83) [v0] h R X := Runs.fn zybQ_t rfl k
abbrev fn_zucQ : FuncId := 84
def zucQ_l0 : ACode :=
 (.block 1 (.seq (.region [
 o1 13 (.mov (tm 10)),
 o1 14 (.bin .mul (so (.binOp .mul 3 (.const (.int .i64 2)) (tm 13) 3) 3) (.const (.int .i64 2)) (tm 13)),
 o1 15 (.bin .add (so (.binOp .add 3 (tm 14) (.const (.int .i64 1)) 3) 3) (tm 14) (.const (.int .i64 1))),
 o1 11 (.mov (tm 15))]) (.seq (.seq (.region [
 o1 16 (.mov (tm 11)),
 o1 17 (.mov (tm 2)),
 o1 18 (.bin .geq (so (.binOp .geq 3 (tm 16) (tm 17) 3) 4) (tm 16) (tm 17))]) (.cond (tm 18)
 (.exit 0)
 .skip)) (.seq (.seq (.regionD [
 o1 19 (.mov (tm 11)),
 o1 20 (.bin .add (so (.binOp .add 3 (tm 19) (.const (.int .i64 1)) 3) 3) (tm 19) (.const (.int .i64 1))),
 o1 21 (.mov (tm 2)),
 o2 22 (.bin .lss (so (.binOp .lss 3 (tm 20) (tm 21) 3) 4) (tm 20) (tm 21)),
 o2 23 (.mov (tm 22)),
 o4 24 (.mov (tm 4)) 23,
 o4 25 (.mov (tm 0)) 23,
 o4 26 (.mov (tm 3)) 23,
 o4 27 (.mov (tm 11)) 23,
 o4 28 (.bin .add (so (.binOp .add 3 (tm 26) (tm 27) 3) 3) (tm 26) (tm 27)) 23,
 o4 29 (.indexSl 1 (tm 25) (tm 28)) 23,
 o4 30 (.load none (tm 29)) 23,
 o4 31 (.mov (tm 0)) 23,
 o4 32 (.mov (tm 3)) 23,
 o4 33 (.mov (tm 11)) 23,
 o4 34 (.bin .add (so (.binOp .add 3 (tm 32) (tm 33) 3) 3) (tm 32) (tm 33)) 23,
 o4 35 (.bin .add (so (.binOp .add 3 (tm 34) (.const (.int .i64 1)) 3) 3) (tm 34) (.const (.int .i64 1))) 23,
 o4 36 (.indexSl 1 (tm 31) (tm 35)) 23,
 o4 37 (.load none (tm 36)) 23,
 ⟨some 38, .callV (tm 24) [(tm 30), (tm 37)], some (23, true), [], true⟩,
 ⟨some 39, .bin .lss (so (.binOp .lss 3 (tm 38) k0 3) 4) (tm 38) k0, some (23, true), [], true⟩,
 o2 40 (.pick (tm 23) (tm 39) (.const (.bool false)))]) (.cond (tm 40)
 (.region [
 o1 41 (.mov (tm 11)),
 o1 42 (.bin .add (so (.binOp .add 3 (tm 41) (.const (.int .i64 1)) 3) 3) (tm 41) (.const (.int .i64 1))),
 o1 11 (.mov (tm 42))])
 .skip)) (.seq (.seq (.regionD [
 o1 43 (.mov (tm 4)),
 o1 44 (.mov (tm 0)),
 o1 45 (.mov (tm 3)),
 o1 46 (.mov (tm 10)),
 o1 47 (.bin .add (so (.binOp .add 3 (tm 45) (tm 46) 3) 3) (tm 45) (tm 46)),
 o1 48 (.indexSl 1 (tm 44) (tm 47)),
 o1 49 (.load none (tm 48)),
 o1 50 (.mov (tm 0)),
 o1 51 (.mov (tm 3)),
 o1 52 (.mov (tm 11)),
 o1 53 (.bin .add (so (.binOp .add 3 (tm 51) (tm 52) 3) 3) (tm 51) (tm 52)),
 o1 54 (.indexSl 1 (tm 50) (tm 53)),
 o1 55 (.load none (tm 54)),
 o2 56 (.callV (tm 43) [(tm 49), (tm 55)]),
 o2 57 (.bin .lss (so (.binOp .lss 3 (tm 56) k0 3) 4) (tm 56) k0),
 o2 58 (.raw (so (.unOp .not 4 (tm 57)) 4))]) (.cond (tm 58)
 .ret
 .skip)) (.seq (.regionD [
 o1 59 (.mov (tm 0)),
 o1 60 (.mov (tm 3)),
 o1 61 (.mov (tm 10)),
 o1 62 (.bin .add (so (.binOp .add 3 (tm 60) (tm 61) 3) 3) (tm 60) (tm 61)),
 o1 63 (.mov (tm 0)),
 o1 64 (.mov (tm 3)),
 o1 65 (.mov (tm 11)),
 o1 66 (.bin .add (so (.binOp .add 3 (tm 64) (tm 65) 3) 3) (tm 64) (tm 65)),
 o1 67 (.mov (tm 0)),
 o1 68 (.mov (tm 3)),
 o1 69 (.mov (tm 11)),
 o1 70 (.bin .add (so (.binOp .add 3 (tm 68) (tm 69) 3) 3) (tm 68) (tm 69)),
 o1 71 (.indexSl 1 (tm 67) (tm 70)),
 o1 72 (.load none (tm 71)),
 o1 73 (.mov (tm 0)),
 o1 74 (.mov (tm 3)),
 o1 75 (.mov (tm 10)),
 o1 76 (.bin .add (so (.binOp .add 3 (tm 74) (tm 75) 3) 3) (tm 74) (tm 75)),
 o1 77 (.indexSl 1 (tm 73) (tm 76)),
 o1 78 (.load none (tm 77)),
 o1 79 (.indexSl 1 (tm 59) (tm 62)),
 ⟨none, .store 1 (tm 79) (tm 72), none, [(some 66, .bin .add (so (.binOp .add 3 (tm 64) (tm 65) 3) 3) (tm 64) (tm 65), none), (some 65, .mov (tm 11), none), (some 64, .mov (tm 3), none), (some 63, .mov (tm 0), none)], false⟩,
 o2 80 (.indexSl 1 (tm 63) (tm 66)),
 ⟨none, .store 1 (tm 80) (tm 78), none, [], true⟩]) (.region [
 o1 81 (.mov (tm 11)),
 o1 10 (.mov (tm 81))])))))))
def zucQ_c : ACode :=
 (.seq (.region [
 o1 12 (.mov (tm 1)),
 o1 10 (.mov (tm 12))]) (.block 0 (.loop zucQ_l0)))
def zucQ : AFunc := ⟨82, [], zucQ_c, none⟩
theorem zucQ_t0 : tableOf Try.prog 84 = some zucQ := by kernel_rfl
theorem zucQ_t : T0 84 = some zucQ := withKept_t rfl (withTrue_t rfl zucQ_t0)
theorem zucQ_runs {v0 v1 v2 v3 v4 : Value} {h : Heap} {R : RP} {X : XP} (k : RunC Try.prog T0 zucQ_c ⟨[v0, v1, v2, v3, v4, U, U, U, U, U, U, U, U, U, U, U, U, U, U, U, U, U, U, U, U, U, U, U, U, U, U, U, U, U, U, U, U, U, U, U, U, U, U, U, U, U, U, U, U, U, U, U, U, U, U, U, U, U, U, U, U, U, U, U, U, U, U, U, U, U, U, U, U, U, U, U, U, U, U, U, U, U], [], h, none⟩ (bodyQ Try.prog T0 [] R X)) :
 Runs Try.prog T0 (.fn 84) [v0, v1, v2, v3, v4] h R X := Runs.fn zucQ_t rfl k
abbrev zucQ_l0_M : List Nat := [0, 0, 0, 0, 0, 0, 0, 0, 0, 0, 2, 1, 0, 1, 1, 1, 1, 1, 1, 1, 1, 1, 1, 1, 1, 1, 1, 1, 1, 1, 1, 1, 1, 1, 1, 1, 1, 1, 1, 1, 1, 1, 1, 1, 1, 1, 1, 1, 1, 1, 1, 1, 1, 1, 1, 1, 1, 1, 1, 1, 1, 1, 1, 1, 1, 1, 1, 1, 1, 1, 1, 1, 1, 1, 1, 1, 1, 1, 1, 1, 1, 1]
abbrev fn_zncQ : FuncId := 85
def zncQ_c : ACode :=
 (.seq (.region [
 o1 2 (.mov (.const (.int .u64 0)))]) (.seq (.region [
 o1 3 (.mov (tm 0)),
 o1 4 (.conv .u64 (so (.convert 3 104 (tm 3)) 104) (tm 3)),
 o1 5 (.callV (.func 72) [(tm 4)]),
 o1 6 (.bin .shl (so (.binOp .shl 104 (.const (.int .u64 1)) (tm 5) 3) 104) (.const (.int .u64 1)) (tm 5)),
 o1 2 (.mov (tm 6))]) .ret))
def zncQ : AFunc := ⟨7, [(2, none)], zncQ_c, none⟩
theorem zncQ_t0 : tableOf Try.prog 85 = some zncQ := by kernel_rfl
theorem zncQ_t : T0 85 = some zncQ := withKept_t rfl (withTrue_t rfl zncQ_t0)
theorem zncQ_runs {v0 : Value} {h : Heap} {R : RP} {X : XP} (k : RunC Try.prog T0 zncQ_c ⟨[v0, U, U, U, U, U, U], [], h, none⟩ (bodyQ Try.prog T0 [(2, none)] R X)) :
 Runs Try.prog T0 (.fn 85) [v0] h R X := Runs.fn zncQ_t rfl k
abbrev fn_zvcQ : FuncId := 86
def zvcQ_c : ACode :=
 (.seq (.region [
 o1 2 (.mov (.const (.int .u64 0)))]) (.seq (.regionD [
 o1 3 (.mov (tm 0)),
 o1 4 (.nilCheck (tm 3)),
 o1 5 (.load none (tm 4)),
 o1 6 (.mov (tm 0)),
 o1 7 (.nilCheck (tm 6)),
 o1 8 (.load none (tm 7)),
 o1 9 (.bin .shl (so (.binOp .shl 117 (tm 8) (.const (.int .u64 13)) 104) 117) (tm 8) (.const (.int .u64 13))),
 o2 10 (.bin .xor (so (.binOp .xor 117 (tm 5) (tm 9) 117) 117) (tm 5) (tm 9)),
 o2 11 (.nilCheck (tm 3)),
 ⟨none, .store 1 (tm 11) (tm 10), none, [], true⟩]) (.seq (.regionD [
 o1 12 (.mov (tm 0)),
 o1 13 (.nilCheck (tm 12)),
 o1 14 (.load none (tm 13)),
 o1 15 (.mov (tm 0)),
 o1 16 (.nilCheck (tm 15)),
 o1 17 (.load none (tm 16)),
 o1 18 (.bin .shr (so (.binOp .shr 117 (tm 17) (.const (.int .u64 7)) 104) 117) (tm 17) (.const (.int .u64 7))),
 o2 19 (.bin .xor (so (.binOp .xor 117 (tm 14) (tm 18) 117) 117) (tm 14) (tm 18)),
 o2 20 (.nilCheck (tm 12)),
 ⟨none, .store 1 (tm 20) (tm 19), none, [], true⟩]) (.seq (.regionD [
 o1 21 (.mov (tm 0)),
 o1 22 (.nilCheck (tm 21)),
 o1 23 (.load none (tm 22)),
 o1 24 (.mov (tm 0)),
 o1 25 (.nilCheck (tm 24)),
 o1 26 (.load none (tm 25)),
 o1 27 (.bin .shl (so (.binOp .shl 117 (tm 26) (.const (.int .u64 17)) 104) 117) (tm 26) (.const (.int .u64 17))),
 o2 28 (.bin .xor (so (.binOp .xor 117 (tm 23) (tm 27) 117) 117) (tm 23) (tm 27)),
 o2 29 (.nilCheck (tm 21)),
 ⟨none, .store 1 (tm 29) (tm 28), none, [], true⟩]) (.seq (.region [
 o1 30 (.mov (tm 0)),
 o1 31 (.nilCheck (tm 30)),
 o1 32 (.load none (tm 31)),
 o1 2 (.mov (tm 32))]) .ret)))))
def zvcQ : AFunc := ⟨33, [(2, none)], zvcQ_c, none⟩
theorem zvcQ_t0 : tableOf Try.prog 86 = some zvcQ := by kernel_rfl
theorem zvcQ_t : T0 86 = some zvcQ := withKept_t rfl (withTrue_t rfl zvcQ_t0)
theorem zvcQ_runs {v0 : Value} {h : Heap} {R : RP} {X : XP} (k : RunC Try.prog T0 zvcQ_c ⟨[v0, U, U, U, U, U, U, U, U, U, U, U, U, U, U, U, U, U, U, U, U, U, U, U, U, U, U, U, U, U, U, U, U], [], h, none⟩ (bodyQ Try.prog T0 [(2, none)] R X)) :
 Runs Try.prog T0 (.fn 86) [v0] h R X := Runs.fn zvcQ_t rfl k
abbrev fn_zlcQ : FuncId := 87
def zlcQ_c : ACode :=
 (.seq (.region [
 o1 8 (.mov k0)]) (.seq (.region [
 o1 9 (.mov (tm 0)),
 o1 10 (.mov (tm 1)),
 o1 11 (.bin .sub (so (.binOp .sub 3 (tm 10) (.const (.int .i64 1)) 3) 3) (tm 10) (.const (.int .i64 1))),
 o1 12 (.mov (tm 1)),
 o1 13 (.mov (tm 1)),
 o1 14 (.bin .add (so (.binOp .add 3 (tm 13) (.const (.int .i64 1)) 3) 3) (tm 13) (.const (.int .i64 1))),
 o1 15 (.mov (tm 2)),
 o1 16 (.mov (tm 3)),
 o1 17 (.callV (.func 88) [(tm 9), (tm 11), (tm 12), (tm 14), (tm 15), (tm 16)]),
 o1 8 (.mov (tm 17))]) .ret))
def zlcQ : AFunc := ⟨18, [(8, none)], zlcQ_c, none⟩
theorem zlcQ_t0 : tableOf Try.prog 87 = some zlcQ := by kernel_rfl
theorem zlcQ_t : T0 87 = some zlcQ := withKept_t rfl (withTrue_t rfl zlcQ_t0)
theorem zlcQ_runs {v0 v1 v2 v3 : Value} {h : Heap} {R : RP} {X : XP} (k : RunC Try.prog T0 zlcQ_c ⟨[v0, v1, v2, v3, U, U, U, U, U, U, U, U, U, U, U, U, U, U], [], h, none⟩ (bodyQ Try.prog T0 [(8, none)] R X)) :
 Runs Try.prog T0 (.fn 87) [v0, v1, v2, v3] h R X := Runs.fn zlcQ_t rfl k
abbrev fn_zmcQ : FuncId := 88
def zmcQ_c : ACode :=
 (.seq (.region [
 o1 12 (.mov k0)]) (.seq (.region [
 o1 14 (.mov (tm 0)),
 o1 15 (.mov (tm 1)),
 o1 16 (.mov (tm 2)),
 o1 17 (.mov (tm 4)),
 o1 18 (.mov (tm 5)),
 o1 19 (.callV (.func 89) [(tm 14), (tm 15), (tm 16), (tm 17), (tm 18)]),
 o1 13 (.mov (tm 19)),
 o1 20 (.extract 0 (tm 13)),
 o1 21 (.extract 1 (tm 13)),
 o1 1 (.mov (tm 20)),
 o1 2 (.mov (tm 21))]) (.seq (.region [
 o1 23 (.mov (tm 0)),
 o1 24 (.mov (tm 2)),
 o1 25 (.mov (tm 3)),
 o1 26 (.mov (tm 4)),
 o1 27 (.mov (tm 5)),
 o1 28 (.callV (.func 89) [(tm 23), (tm 24), (tm 25), (tm 26), (tm 27)]),
 o1 22 (.mov (tm 28)),
 o1 29 (.extract 0 (tm 22)),
 o1 30 (.extract 1 (tm 22)),
 o1 2 (.mov (tm 29)),
 o1 3 (.mov (tm 30))]) (.seq (.region [
 o1 32 (.mov (tm 0)),
 o1 33 (.mov (tm 1)),
 o1 34 (.mov (tm 2)),
 o1 35 (.mov (tm 4)),
 o1 36 (.mov (tm 5)),
 o1 37 (.callV (.func 89) [(tm 32), (tm 33), (tm 34), (tm 35), (tm 36)]),
 o1 31 (.mov (tm 37)),
 o1 38 (.extract 0 (tm 31)),
 o1 39 (.extract 1 (tm 31)),
 o1 1 (.mov (tm 38)),
 o1 2 (.mov (tm 39))]) (.seq (.region [
 o1 40 (.mov (tm 2)),
 o1 12 (.mov (tm 40))]) .ret)))))
def zmcQ : AFunc := ⟨41, [(12, none)], zmcQ_c, none⟩
theorem zmcQ_t0 : tableOf Try.prog 88 = some zmcQ := by kernel_rfl
theorem zmcQ_t : T0 88 = some zmcQ := withKept_t rfl (withTrue_t rfl zmcQ_t0)
theorem zmcQ_runs {v0 v1 v2 v3 v4 v5 : Value} {h : Heap} {R : RP} {X : XP} (k : RunC Try.prog T0 zmcQ_c ⟨[v0, v1, v2, v3, v4, v5, U, U, U, U, U, U, U, U, U, U, U, U, U, U, U, U, U, U, U, U, U, U, U, U, U, U, U, U, U, U, U, U, U, U, U], [], h, none⟩ (bodyQ Try.prog T0 [(12, none)] R X)) :
 Runs Try.prog T0 (.fn 88) [v0, v1, v2, v3, v4, v5] h R X := Runs.fn zmcQ_t rfl k
abbrev fn_zocQ : FuncId := 89
def zocQ_c : ACode :=
 (.seq (.region [
 o1 10 (.mov k0),
 o1 11 (.mov k0)]) (.seq (.seq (.regionD [
 o1 12 (.mov (tm 4)),
 o1 13 (.mov (tm 0)),
 o1 14 (.mov (tm 2)),
 o1 15 (.indexSl 1 (tm 13) (tm 14)),
 o1 16 (.load none (tm 15)),
 o1 17 (.mov (tm 0)),
 o1 18 (.mov (tm 1)),
 o1 19 (.indexSl 1 (tm 17) (tm 18)),
 o1 20 (.load none (tm 19)),
 o2 21 (.callV (tm 12) [(tm 16), (tm 20)]),
 o2 22 (.bin .lss (so (.binOp .lss 3 (tm 21) k0 3) 4) (tm 21) k0)]) (.cond (tm 22)
 (.seq (.region [
 o1 23 (.mov (tm 3)),
 o1 24 (.nilCheck (tm 23)),
 o1 25 (.load none (tm 24)),
 o1 26 (.bin .add (so (.binOp .add 3 (tm 25) (.const (.int .i64 1)) 3) 3) (tm 25) (.const (.int .i64 1))),
 o1 27 (.nilCheck (tm 23)),
 o3 (.store 1 (tm 27) (tm 26))]) (.seq (.region [
 o1 28 (.mov (tm 2)),
 o1 29 (.mov (tm 1)),
 o1 10 (.mov (tm 28)),
 o1 11 (.mov (tm 29))]) .ret))
 .skip)) (.seq (.region [
 o1 30 (.mov (tm 1)),
 o1 31 (.mov (tm 2)),
 o1 10 (.mov (tm 30)),
 o1 11 (.mov (tm 31))]) .ret)))
def zocQ : AFunc := ⟨32, [(10, none), (11, none)], zocQ_c, none⟩
theorem zocQ_t0 : tableOf Try.prog 89 = some zocQ := by kernel_rfl
theorem zocQ_t : T0 89 = some zocQ := withKept_t rfl (withTrue_t rfl zocQ_t0)
theorem zocQ_runs {v0 v1 v2 v3 v4 : Value} {h : Heap} {R : RP} {X : XP} (k : RunC Try.prog T0 zocQ_c ⟨[v0, v1, v2, v3, v4, U, U, U, U, U, U, U, U, U, U, U, U, U, U, U, U, U, U, U, U, U, U, U, U, U, U, U], [], h, none⟩ (bodyQ Try.prog T0 [(10, none), (11, none)] R X)) :
 Runs Try.prog T0 (.fn 89) [v0, v1, v2, v3, v4] h R X := Runs.fn zocQ_t rfl k
abbrev fn_zrbQ : FuncId := 107
def zrbQ_c : ACode :=
 (.seq (.region [
 o1 2 (.mov k0)]) (.seq (.region [
 o1 3 (.mov (tm 0)),
 o1 4 (.lenSl (tm 3)),
 o1 2 (.mov (tm 4))]) .ret))
def zrbQ : AFunc := ⟨5, [(2, none)], zrbQ_c, none⟩
theorem zrbQ_t0 : tableOf Try.prog 107 = some zrbQ := by kernel_rfl
theorem zrbQ_t : T0 107 = some zrbQ := withKept_t rfl (withTrue_t rfl zrbQ_t0)
theorem zrbQ_runs {v0 : Value} {h : Heap} {R : RP} {X : XP} (k : RunC Try.prog T0 zrbQ_c ⟨[v0, U, U, U, U], [], h, none⟩ (bodyQ Try.prog T0 [(2, none)] R X)) :
 Runs Try.prog T0 (.fn 107) [v0] h R X := Runs.fn zrbQ_t rfl k
abbrev fn_zsbQ : FuncId := 108
def zsbQ_c : ACode :=
 (.seq (.region [
 o1 6 (.mov (.const (.bool false)))]) (.seq (.regionD [
 o1 7 (.mov (tm 0)),
 o1 8 (.mov (tm 1)),
 o1 9 (.indexSl 1 (tm 7) (tm 8)),
 o1 10 (.load none (tm 9)),
 o1 11 (.mov (tm 0)),
 o1 12 (.mov (tm 2)),
 o1 13 (.indexSl 1 (tm 11) (tm 12)),
 o1 14 (.load none (tm 13)),
 o2 15 (.callV (.func 51) [(tm 10), (tm 14)]),
 o2 16 (.bin .lss (so (.binOp .lss 3 (tm 15) k0 3) 4) (tm 15) k0),
 o2 6 (.mov (tm 16))]) .ret))
def zsbQ : AFunc := ⟨17, [(6, none)], zsbQ_c, none⟩
theorem zsbQ_t0 : tableOf Try.prog 108 = some zsbQ := by kernel_rfl
theorem zsbQ_t : T0 108 = some zsbQ := withKept_t rfl (withTrue_t rfl zsbQ_t0)
theorem zsbQ_runs {v0 v1 v2 : Value} {h : Heap} {R : RP} {X : XP} (k : RunC Try.prog T0 zsbQ_c ⟨[v0, v1, v2, U, U, U, U, U, U, U, U, U, U, U, U, U, U], [], h, none⟩ (bodyQ Try.prog T0 [(6, none)] R X)) :
 Runs Try.prog T0 (.fn 108) [v0, v1, v2] h R X := Runs.fn zsbQ_t rfl k
abbrev fn_zvbQ : FuncId := 109
def zvbQ_c : ACode :=
 (.regionD [
 o1 6 (.mov (tm 0)),
 o1 7 (.mov (tm 1)),
 o1 8 (.mov (tm 0)),
 o1 9 (.mov (tm 2)),
 o1 10 (.mov (tm 0)),
 o1 11 (.mov (tm 2)),
 o1 12 (.indexSl 1 (tm 10) (tm 11)),
 o1 13 (.load none (tm 12)),
 o1 14 (.mov (tm 0)),
 o1 15 (.mov (tm 1)),
 o1 16 (.indexSl 1 (tm 14) (tm 15)),
 o1 17 (.load none (tm 16)),
 o1 18 (.indexSl 1 (tm 6) (tm 7)),
 ⟨none, .store 1 (tm 18) (tm 13), none, [(some 9, .mov (tm 2), none), (some 8, .mov (tm 0), none)], false⟩,
 o2 19 (.indexSl 1 (tm 8) (tm 9)),
 ⟨none, .store 1 (tm 19) (tm 17), none, [], true⟩])
def zvbQ : AFunc := ⟨20, [], zvbQ_c, none⟩
theorem zvbQ_t0 : tableOf Try.prog 109 = some zvbQ := by kernel_rfl
theorem zvbQ_t : T0 109 = some zvbQ := withKept_t rfl (withTrue_t rfl zvbQ_t0)
theorem zvbQ_runs {v0 v1 v2 : Value} {h : Heap} {R : RP} {X : XP} (k : RunC Try.prog T0 zvbQ_c ⟨[v0, v1, v2, U, U, U, U, U, U, U, U, U, U, U, U, U, U, U, U, U], [], h, none⟩ (bodyQ Try.prog T0 [] R X)) :
 Runs Try.prog T0 (.fn 109) [v0, v1, v2] h R X := Runs.fn zvbQ_t rfl k
abbrev fn_ztbQ : FuncId := 110
def ztbQ_c : ACode :=
 (.seq (.region [
 o1 2 (.mov (.const .nilIface))]) (.seq (.region [
 o1 5 (.mov (tm 0)),
 o1 6 (.nilCheck (tm 5)),
 o1 7 (.load none (tm 6)),
 o1 8 (.lenSl (tm 7)),
 o1 9 (.bin .sub (so (.binOp .sub 3 (tm 8) (.const (.int .i64 1)) 3) 3) (tm 8) (.const (.int .i64 1))),
 o1 3 (.mov (tm 9))]) (.seq (.region [
 o1 10 (.mov (tm 0)),
 o1 11 (.nilCheck (tm 10)),
 o1 12 (.load none (tm 11)),
 o1 13 (.mov (tm 3)),
 o1 14 (.indexSl 1 (tm 12) (tm 13)),
 o1 15 (.load none (tm 14)),
 o1 4 (.mov (tm 15))]) (.seq (.region [
 o1 16 (.mov (tm 0)),
 o1 17 (.mov (tm 0)),
 o1 18 (.nilCheck (tm 17)),
 o1 19 (.load none (tm 18)),
 o1 20 (.mov (tm 3)),
 o1 21 (.sliceSl 1 (tm 19) none (some (tm 20)) none),
 o1 22 (.nilCheck (tm 16)),
 o3 (.store 1 (tm 22) (tm 21))]) (.seq (.region [
 o1 23 (.mov (tm 4)),
 o1 24 (.mkIface 74 (tm 23)),
 o1 2 (.mov (tm 24))]) .ret)))))
def ztbQ : AFunc := ⟨25, [(2, none)], ztbQ_c, none⟩
theorem ztbQ_t0 : tableOf Try.prog 110 = some ztbQ := by kernel_rfl
theorem ztbQ_t : T0 110 = some ztbQ := withKept_t rfl (withTrue_t rfl ztbQ_t0)
theorem ztbQ_runs {v0 : Value} {h : Heap} {R : RP} {X : XP} (k : RunC Try.prog T0 ztbQ_c ⟨[v0, U, U, U, U, U, U, U, U, U, U, U, U, U, U, U, U, U, U, U, U, U, U, U, U], [], h, none⟩ (bodyQ Try.prog T0 [(2, none)] R X)) :
 Runs Try.prog T0 (.fn 110) [v0] h R X := Runs.fn ztbQ_t rfl k
abbrev fn_zubQ : FuncId := 111
def zubQ_c : ACode :=
 (.regionD [
 o1 4 (.mov (tm 0)),
 o1 5 (.mov (tm 0)),
 o1 6 (.nilCheck (tm 5)),
 o1 7 (.load none (tm 6)),
 o1 8 (.mov (tm 1)),
 o1 9 (.assertTo 74 (.pointer none) false (tm 8)),
 ⟨some 10, .buildSlice 74 [(.pointer none)] 1 [(0, 1, (tm 9))], none, [(some 7, .load none (tm 6), none), (some 6, .nilCheck (tm 5), none), (some 5, .mov (tm 0), none), (some 4, .mov (tm 0), none)], false⟩,
 ⟨some 11, .append 74 1 8 [(.pointer none)] false (tm 7) (tm 10), none, [(some 4, .mov (tm 0), none)], false⟩,
 o2 12 (.nilCheck (tm 4)),
 ⟨none, .store 1 (tm 12) (tm 11), none, [], true⟩])
def zubQ : AFunc := ⟨13, [], zubQ_c, none⟩
theorem zubQ_t0 : tableOf Try.prog 111 = some zubQ := by kernel_rfl
theorem zubQ_t : T0 111 = some zubQ := withKept_t rfl (withTrue_t rfl zubQ_t0)
theorem zubQ_runs {v0 v1 : Value} {h : Heap} {R : RP} {X : XP} (k : RunC Try.prog T0 zubQ_c ⟨[v0, v1, U, U, U, U, U, U, U, U, U, U, U], [], h, none⟩ (bodyQ Try.prog T0 [] R X)) :
 Runs Try.prog T0 (.fn 111) [v0, v1] h R X := Runs.fn zubQ_t rfl k
end Go.Proofs.Ytoadcfjkkoemdaa.A

namespace Go.Proofs.Ytoadcfjkkoemdaa.A
open Go Go.Vm
set_option maxRecDepth 10000
set_option linter.unusedVariables false
def pcells (l : List Nat) : List Value := l.map fun b => .pointer (some ⟨b, 0, none⟩)
theorem pcells_len (l : List Nat) : (pcells l).length = l.length := by simp [pcells]
theorem pcells_append (l m : List Nat) : pcells (l ++ m) = pcells l ++ pcells m := by simp [pcells]
theorem one_ptr {h : Heap} {b es : Nat} : newCells (h.push (.cells [.pointer (some ⟨b, 0, none⟩)] es)) 1 [.pointer none] false (.slice (some ⟨h.n, 0, none⟩) 1 1) = some (1, [.pointer (some ⟨b, 0, none⟩)]) :=
  (Rd.mk (size := 1) (n := 1) (cap := 1) (sp := none) (o := 0) (b := h.n) (c := [.pointer (some ⟨b, 0, none⟩)]) (by simp) (by rw [cellsAt_of (c := [.pointer (some ⟨b, 0, none⟩)]) (by rw [Heap.get_push, if_pos rfl]; rfl) (by simp)]; rfl)).new _
end Go.Proofs.Ytoadcfjkkoemdaa.A

namespace Go.Proofs.Ytoadcfjkkoemdaa.A
open Go Go.Vm
set_option maxRecDepth 10000
set_option linter.unusedVariables false
section
variable {P : Program} {ts : List Value} {h : Heap} {x y : Operand} {t t' ty : TypeId} {A : Bool} {l : List Value} {tl : List LK}
instance (priority := high) xnotT [e : Ev ts x (.bool true)] : XOp P ts h (.raw (so (.unOp .not t x) ty)) (.bool false) h := (XOp.notB (A := true) : XOp P ts h (.raw (so (.unOp .not t x) ty)) (.bool (!true)) h)
instance (priority := high) xnotF [e : Ev ts x (.bool false)] : XOp P ts h (.raw (so (.unOp .not t x) ty)) (.bool true) h := (XOp.notB (A := false) : XOp P ts h (.raw (so (.unOp .not t x) ty)) (.bool (!false)) h)
instance (priority := high) xneqF [i : IsBoolT P t] [e : Ev ts x (.bool A)] [e' : Ev ts y (.bool A)] : XOp P ts h (.bin .neq (so (.binOp .neq t x y t') ty) x y) (.bool false) h := by
  have := (XOp.neqB : XOp P ts h (.bin .neq (so (.binOp .neq t x y t') ty) x y) (.bool (!(A == A))) h)
  rw [beq_self_eq_true] at this
  exact this
instance (priority := high) xneqS [i : TLeaves P t tl] [e : Ev ts x (.agg ⟨l⟩)] [e' : Ev ts y (.agg ⟨l⟩)] [g : GrL l] [k : KL tl l] : XOp P ts h (.bin .neq (so (.binOp .neq t x y t') ty) x y) (.bool false) h := by
  have := (XOp.neqAgg : XOp P ts h (.bin .neq (so (.binOp .neq t x y t') ty) x y) (.bool (!same l l)) h)
  rw [same_self] at this
  exact this
theorem xlss0 {p q : Int} {O : Oper} (hp : ¬ p < q) [e1 : Ev ts x (.int .i64 p)] [e2 : Ev ts y (.int .i64 q)] : XOp P ts h (.bin .lss O x y) (.bool false) h := by
  have := (XOp.lssI : XOp P ts h (.bin .lss O x y) (.bool (decide (p < q))) h)
  rw [decide_eq_false hp] at this
  exact this
theorem xgtr0 {p q : Int} {O : Oper} (hp : ¬ q < p) [e1 : Ev ts x (.int .i64 p)] [e2 : Ev ts y (.int .i64 q)] : XOp P ts h (.bin .gtr O x y) (.bool false) h := by
  have := (XOp.gtrI : XOp P ts h (.bin .gtr O x y) (.bool (decide (q < p))) h)
  rw [decide_eq_false hp] at this
  exact this
theorem xeql1 {p q : Int} {O : Oper} (hp : p = q) [e1 : Ev ts x (.int .i64 p)] [e2 : Ev ts y (.int .i64 q)] : XOp P ts h (.bin .eql O x y) (.bool true) h := by
  have := (XOp.eqlI : XOp P ts h (.bin .eql O x y) (.bool (decide (p = q))) h)
  rw [decide_eq_true hp] at this
  exact this
end
end Go.Proofs.Ytoadcfjkkoemdaa.A

namespace Go.Proofs.Ytoadcfjkkoemdaa.A
open Go Go.Vm
set_option maxRecDepth 10000
set_option linter.unusedVariables false
set_option linter.unusedSimpArgs false
section
variable {P : Program} {ts : List Value} {h : Heap} {x y : Operand} {t t' ty : TypeId} {A : Bool}
instance (priority := high) xeqlT [i : IsBoolT P t] [e : Ev ts x (.bool A)] [e' : Ev ts y (.bool A)] : XOp P ts h (.bin .eql (so (.binOp .eql t x y t') ty) x y) (.bool true) h := by
  have := (XOp.eqlB : XOp P ts h (.bin .eql (so (.binOp .eql t x y t') ty) x y) (.bool (A == A)) h)
  rw [beq_self_eq_true] at this
  exact this
theorem xlss1 {p q : Int} {O : Oper} (hp : p < q) [e1 : Ev ts x (.int .i64 p)] [e2 : Ev ts y (.int .i64 q)] : XOp P ts h (.bin .lss O x y) (.bool true) h := by
  have := (XOp.lssI : XOp P ts h (.bin .lss O x y) (.bool (decide (p < q))) h)
  rw [decide_eq_true hp] at this
  exact this
theorem xgtr1 {p q : Int} {O : Oper} (hp : q < p) [e1 : Ev ts x (.int .i64 p)] [e2 : Ev ts y (.int .i64 q)] : XOp P ts h (.bin .gtr O x y) (.bool true) h := by
  have := (XOp.gtrI : XOp P ts h (.bin .gtr O x y) (.bool (decide (q < p))) h)
  rw [decide_eq_true hp] at this
  exact this
end
end Go.Proofs.Ytoadcfjkkoemdaa.A

namespace Go.Proofs.Ytoadcfjkkoemdaa.A
open Go Go.Vm
set_option maxRecDepth 10000
set_option linter.unusedVariables false
section
variable {α : Type} [Inhabited α] {lt : α → α → Bool}
abbrev at' (l : List α) (i : Nat) : α := l.getD i default
theorem at_set {l : List α} {i k : Nat} {x : α} (hi : i < l.length) : at' (l.set i x) k = if k = i then x else at' l k := by
  simp only [at', List.getD_eq_getElem?_getD, List.getElem?_set]
  by_cases h : i = k
  · subst h; simp [hi]
  · rw [if_neg h, if_neg (fun e => h e.symm)]
theorem at_mem {l : List α} {i : Nat} (hi : i < l.length) : at' l i ∈ l := by
  simp only [at', List.getD_eq_getElem?_getD, List.getElem?_eq_getElem hi, Option.getD_some]
  exact List.getElem_mem hi
theorem at_ext {l m : List α} (hl : l.length = m.length) (h : ∀ k, k < l.length → at' l k = at' m k) : l = m := by
  refine List.ext_getElem hl fun i h1 h2 => ?_
  have := h i h1
  simpa only [at', List.getD_eq_getElem?_getD, List.getElem?_eq_getElem h1, List.getElem?_eq_getElem h2, Option.getD_some] using this
theorem at_take {l : List α} {n k : Nat} (hk : k < n) : at' (l.take n) k = at' l k := by
  simp only [at', List.getD_eq_getElem?_getD, List.getElem?_take, if_pos hk]
theorem at_append {l m : List α} {k : Nat} (hk : k < l.length) : at' (l ++ m) k = at' l k := by
  simp only [at', List.getD_eq_getElem?_getD, List.getElem?_append_left hk]
def swp (l : List α) (i j : Nat) : List α := (l.set i (at' l j)).set j (at' l i)
theorem swp_len {l : List α} {i j : Nat} : (swp l i j).length = l.length := by simp [swp]
theorem swp_at {l : List α} {i j k : Nat} (hi : i < l.length) (hj : j < l.length) : at' (swp l i j) k = if k = j then at' l i else if k = i then at' l j else at' l k := by
  unfold swp
  rw [at_set (by simpa using hj), at_set hi]
theorem swp_perm {l : List α} {i j : Nat} (hi : i < l.length) (hj : j < l.length) : (swp l i j).Perm l := by
  classical
  rw [List.perm_iff_count]
  intro b
  have e1 : at' l i = l[i] := by simp only [at', List.getD_eq_getElem?_getD, List.getElem?_eq_getElem hi, Option.getD_some]
  have e2 : at' l j = l[j] := by simp only [at', List.getD_eq_getElem?_getD, List.getElem?_eq_getElem hj, Option.getD_some]
  unfold swp
  rw [e1, e2, List.count_set (by simpa using hj), List.count_set hi]
  have c1 : l[i] = b → 0 < l.count b := fun e => List.count_pos_iff.2 (by rw [← e]; exact List.getElem_mem hi)
  rw [List.getElem_set]
  by_cases h : i = j
  · subst h
    simp only [if_true]
    by_cases h1 : l[i] = b
    · have := c1 h1; simp only [h1, beq_self_eq_true, if_true]; omega
    · have : (l[i] == b) = false := by simpa using h1
      simp only [this]; simp
  · rw [if_neg h]
    by_cases h1 : l[i] = b <;> by_cases h2 : l[j] = b
    · have := c1 h1; simp only [h1, h2, beq_self_eq_true, if_true]; omega
    · have h2' : (l[j] == b) = false := by simpa using h2
      have := c1 h1
      simp only [h1, h2', beq_self_eq_true, if_true]; simp; omega
    · have h1' : (l[i] == b) = false := by simpa using h1
      simp only [h1', h2, beq_self_eq_true, if_true]; simp
    · have h1' : (l[i] == b) = false := by simpa using h1
      have h2' : (l[j] == b) = false := by simpa using h2
      simp only [h1', h2']; simp
structure Ord (lt : α → α → Bool) : Prop where
  asy : ∀ a b, lt a b = true → lt b a = false
  tr : ∀ a b c, lt b a = false → lt c b = false → lt c a = false
abbrev edge (lt : α → α → Bool) (l : List α) (k : Nat) : Prop := lt (at' l k) (at' l ((k - 1) / 2)) = false
def HeapP (lt : α → α → Bool) (lo n : Nat) (l : List α) : Prop := ∀ k, 0 < k → k < n → lo ≤ (k - 1) / 2 → edge lt l k
def upF (lt : α → α → Bool) : Nat → List α → Nat → List α
  | 0, l, _ => l
  | m + 1, l, j => if (j - 1) / 2 = j then l else if lt (at' l j) (at' l ((j - 1) / 2)) then upF lt m (swp l ((j - 1) / 2) j) ((j - 1) / 2) else l
def kid (lt : α → α → Bool) (l : List α) (i n : Nat) : Nat := if 2 * i + 2 < n ∧ lt (at' l (2 * i + 2)) (at' l (2 * i + 1)) = true then 2 * i + 2 else 2 * i + 1
def downF (lt : α → α → Bool) : Nat → List α → Nat → Nat → List α × Nat
  | 0, l, i, _ => (l, i)
  | m + 1, l, i, n => if n ≤ 2 * i + 1 then (l, i) else if lt (at' l (kid lt l i n)) (at' l i) then downF lt m (swp l i (kid lt l i n)) (kid lt l i n) n else (l, i)
structure DInv (lt : α → α → Bool) (lo n i : Nat) (b : Prop) (l : List α) : Prop where
  a : ∀ k, 0 < k → k < n → lo ≤ (k - 1) / 2 → (k - 1) / 2 ≠ i → (k = i → b) → edge lt l k
  c : ∀ k, 0 < k → k < n → (k - 1) / 2 = i → 0 < i → lo ≤ (i - 1) / 2 → lt (at' l k) (at' l ((i - 1) / 2)) = false
theorem kid_lt {l : List α} {i n : Nat} (h : 2 * i + 1 < n) : kid lt l i n < n ∧ (kid lt l i n - 1) / 2 = i ∧ i < kid lt l i n := by
  unfold kid
  split
  · rename_i h1; exact ⟨h1.1, by omega, by omega⟩
  · exact ⟨h, by omega, by omega⟩
theorem kid_least (O : Ord lt) {l : List α} {i n k : Nat} (hk : k < n) (h0 : 0 < k) (hp : (k - 1) / 2 = i) : lt (at' l k) (at' l (kid lt l i n)) = false := by
  have hirr : ∀ a, lt a a = false := fun a => by
    cases h : lt a a with
    | false => rfl
    | true => rw [← O.asy a a h, h]
  unfold kid
  have : k = 2 * i + 1 ∨ k = 2 * i + 2 := by omega
  split
  · rename_i h1
    rcases this with rfl | rfl
    · exact O.asy _ _ h1.2
    · exact hirr _
  · rename_i h1
    rcases this with rfl | rfl
    · exact hirr _
    · have : ¬ lt (at' l (2 * i + 2)) (at' l (2 * i + 1)) = true := fun h => h1 ⟨hk, h⟩
      simpa using this
theorem DInv.step (O : Ord lt) {lo n i : Nat} {b : Prop} {l : List α} (h : DInv lt lo n i b l) (hl : n ≤ l.length) (hn : 2 * i + 1 < n) (hlo : lo ≤ i) (hlt : lt (at' l (kid lt l i n)) (at' l i) = true) : DInv lt lo n (kid lt l i n) True (swp l i (kid lt l i n)) := by
  obtain ⟨k1, k2, k3⟩ := kid_lt (lt := lt) (l := l) hn
  have hmin := fun {k : Nat} (a : k < n) (b : 0 < k) (c : (k - 1) / 2 = i) => kid_least O (l := l) a b c
  generalize kid lt l i n = j at *
  have ha := fun k => swp_at (l := l) (i := i) (j := j) (k := k) (by omega) (by omega)
  refine ⟨fun k h0 hk hlk hp _ => ?_, fun k h0 hk hp _ hlk => ?_⟩
  · show lt (at' (swp l i j) k) (at' (swp l i j) ((k - 1) / 2)) = false
    rw [ha, ha, if_neg hp]
    by_cases e1 : k = j
    · rw [if_pos e1, if_pos (by rw [e1]; exact k2)]
      exact O.asy _ _ hlt
    · rw [if_neg e1]
      by_cases e2 : k = i
      · rw [if_pos e2, if_neg (by omega), e2]
        exact h.c j (by omega) k1 k2 (by omega) (by rw [← e2]; exact hlk)
      · rw [if_neg e2]
        by_cases e3 : (k - 1) / 2 = i
        · rw [if_pos e3]
          exact hmin hk h0 e3
        · rw [if_neg e3]
          exact h.a k h0 hk hlk e3 fun e => absurd e e2
  · rw [ha, ha, k2, if_neg (by omega), if_neg (by omega), if_neg (by omega), if_pos rfl]
    have := h.a k h0 hk (by omega) (by omega) (fun e => by omega)
    show lt (at' l k) (at' l j) = false
    rw [← hp]
    exact this
theorem down_spec (O : Ord lt) : ∀ (m : Nat) (l : List α) (i n lo : Nat) (b : Prop), DInv lt lo n i b l → n ≤ l.length → lo ≤ i → n - i < m →
    (downF lt m l i n).1.length = l.length ∧ (downF lt m l i n).1.Perm l ∧ (∀ k, n ≤ k → at' (downF lt m l i n).1 k = at' l k) ∧ i ≤ (downF lt m l i n).2 ∧ ((downF lt m l i n).2 = i → (downF lt m l i n).1 = l) ∧
    (∀ k, 0 < k → k < n → lo ≤ (k - 1) / 2 → (k = i → b ∨ i < (downF lt m l i n).2) → edge lt (downF lt m l i n).1 k) := by
  intro m
  induction m with
  | zero => intro l i n lo b h hl hlo hm; omega
  | succ m ih =>
    intro l i n lo b h hl hlo hm
    unfold downF
    split
    · rename_i h1
      refine ⟨rfl, .refl _, fun _ _ => rfl, Nat.le_refl _, fun _ => rfl, fun k h0 hk hlk hb => ?_⟩
      exact h.a k h0 hk hlk (by omega) fun e => (hb e).elim id fun e => absurd e (Nat.lt_irrefl _)
    · rename_i h1
      have h1 : 2 * i + 1 < n := by omega
      obtain ⟨k1, k2, k3⟩ := kid_lt (lt := lt) (l := l) h1
      split
      · rename_i h2
        have h3 := h.step O hl h1 hlo h2
        have hk := ih (swp l i (kid lt l i n)) (kid lt l i n) n lo True h3 (by rw [swp_len]; exact hl) (by omega) (by omega)
        generalize kid lt l i n = j at *
        obtain ⟨a1, a2, a3, a4, a5, a6⟩ := hk
        refine ⟨by rw [a1, swp_len], a2.trans (swp_perm (by omega) (by omega)), fun k hk => ?_, by omega, fun e => by omega, fun k h0 hk hlk _ => a6 k h0 hk hlk fun _ => .inl trivial⟩
        rw [a3 k hk, swp_at (by omega) (by omega), if_neg (by omega), if_neg (by omega)]
      · rename_i h2
        refine ⟨rfl, .refl _, fun _ _ => rfl, Nat.le_refl _, fun _ => rfl, fun k h0 hk hlk hb => ?_⟩
        by_cases e : (k - 1) / 2 = i
        · have h4 : lt (at' l (kid lt l i n)) (at' l i) = false := by simpa using h2
          show lt (at' l k) (at' l ((k - 1) / 2)) = false
          rw [e]
          exact O.tr _ _ _ h4 (kid_least O hk h0 e)
        · exact h.a k h0 hk hlk e fun e => (hb e).elim id fun e => absurd e (Nat.lt_irrefl _)
structure UInv (lt : α → α → Bool) (n j : Nat) (l : List α) : Prop where
  a : ∀ k, 0 < k → k < n → k ≠ j → edge lt l k
  c : ∀ k, 0 < k → k < n → (k - 1) / 2 = j → 0 < j → lt (at' l k) (at' l ((j - 1) / 2)) = false
theorem UInv.step (O : Ord lt) {n j : Nat} {l : List α} (h : UInv lt n j l) (hl : n ≤ l.length) (hj : j < n) (h0 : 0 < j) (hlt : lt (at' l j) (at' l ((j - 1) / 2)) = true) : UInv lt n ((j - 1) / 2) (swp l ((j - 1) / 2) j) := by
  generalize hi : (j - 1) / 2 = i at *
  have ha := fun k => swp_at (l := l) (i := i) (j := j) (k := k) (by omega) (by omega)
  refine ⟨fun k h1 hk hne => ?_, fun k h1 hk hp h2 => ?_⟩
  · show lt (at' (swp l i j) k) (at' (swp l i j) ((k - 1) / 2)) = false
    rw [ha, ha]
    by_cases e1 : k = j
    · rw [if_pos e1, if_neg (by omega), if_pos (by rw [e1]; exact hi)]
      exact O.asy _ _ hlt
    · rw [if_neg e1, if_neg hne]
      by_cases e2 : (k - 1) / 2 = j
      · rw [if_pos e2]
        have := h.c k h1 hk e2 h0
        rw [hi] at this
        exact this
      · rw [if_neg e2]
        by_cases e3 : (k - 1) / 2 = i
        · rw [if_pos e3]
          have := h.a k h1 hk e1
          rw [edge, e3] at this
          exact O.tr _ _ _ (O.asy _ _ hlt) this
        · rw [if_neg e3]
          exact h.a k h1 hk e1
  · have h4 : lt (at' l i) (at' l ((i - 1) / 2)) = false := h.a i h2 (by omega) (by omega)
    rw [ha, ha, if_neg (by omega : (i - 1) / 2 ≠ j), if_neg (by omega : (i - 1) / 2 ≠ i)]
    by_cases e1 : k = j
    · rw [if_pos e1]; exact h4
    · rw [if_neg e1, if_neg (by omega)]
      have := h.a k h1 hk e1
      rw [edge, hp] at this
      exact O.tr _ _ _ h4 this
theorem up_spec (O : Ord lt) : ∀ (m : Nat) (l : List α) (j n : Nat), UInv lt n j l → n ≤ l.length → j < n → j < m →
    (upF lt m l j).length = l.length ∧ (upF lt m l j).Perm l ∧ (∀ k, n ≤ k → at' (upF lt m l j) k = at' l k) ∧ HeapP lt 0 n (upF lt m l j) := by
  intro m
  induction m with
  | zero => intro l j n h hl hj hm; omega
  | succ m ih =>
    intro l j n h hl hj hm
    unfold upF
    split
    · rename_i h1
      obtain rfl : j = 0 := by omega
      exact ⟨rfl, .refl _, fun _ _ => rfl, fun k h0 hk _ => h.a k h0 hk (by omega)⟩
    · rename_i h1
      split
      · rename_i h2
        obtain ⟨a1, a2, a3, a4⟩ := ih (swp l ((j - 1) / 2) j) ((j - 1) / 2) n (h.step O hl hj (by omega) h2) (by rw [swp_len]; exact hl) (by omega) (by omega)
        refine ⟨by rw [a1, swp_len], a2.trans (swp_perm (by omega) (by omega)), fun k hk => ?_, a4⟩
        rw [a3 k hk, swp_at (by omega) (by omega), if_neg (by omega), if_neg (by omega)]
      · rename_i h2
        refine ⟨rfl, .refl _, fun _ _ => rfl, fun k h0 hk _ => ?_⟩
        by_cases e : k = j
        · subst e; exact Bool.eq_false_iff.2 h2
        · exact h.a k h0 hk e
def initG (lt : α → α → Bool) : Nat → List α → List α
  | 0, l => l
  | i + 1, l => initG lt i (downF lt (l.length + 1) l i l.length).1
def pushF (lt : α → α → Bool) (l : List α) (x : α) : List α := upF lt (l.length + 1) (l ++ [x]) l.length
def remF (lt : α → α → Bool) (l : List α) (i : Nat) : List α :=
  if l.length - 1 = i then l else
  if i < (downF lt (l.length + 1) (swp l i (l.length - 1)) i (l.length - 1)).2 then (downF lt (l.length + 1) (swp l i (l.length - 1)) i (l.length - 1)).1
  else upF lt (l.length + 1) (downF lt (l.length + 1) (swp l i (l.length - 1)) i (l.length - 1)).1 i
def fixF (lt : α → α → Bool) (l : List α) (i : Nat) : List α :=
  if i < (downF lt (l.length + 1) l i l.length).2 then (downF lt (l.length + 1) l i l.length).1 else upF lt (l.length + 1) (downF lt (l.length + 1) l i l.length).1 i
theorem initG_spec (O : Ord lt) : ∀ (i : Nat) (l : List α), HeapP lt i l.length l → (initG lt i l).length = l.length ∧ (initG lt i l).Perm l ∧ HeapP lt 0 l.length (initG lt i l) := by
  intro i
  induction i with
  | zero => intro l h; exact ⟨rfl, .refl _, h⟩
  | succ i ih =>
    intro l h
    unfold initG
    have hd : DInv lt i l.length i False l := ⟨fun k h0 hk hlk hp _ => h k h0 hk (by omega), fun k h0 hk hp hi hlo => by omega⟩
    obtain ⟨a1, a2, a3, a4, a5, a6⟩ := down_spec O (l.length + 1) l i l.length i False hd (Nat.le_refl _) (Nat.le_refl _) (by omega)
    generalize (downF lt (l.length + 1) l i l.length).2 = i2 at *
    generalize (downF lt (l.length + 1) l i l.length).1 = l2 at *
    obtain ⟨b1, b2, b3⟩ := ih l2 (fun k h0 hk hlk => a6 k h0 (by omega) hlk fun e => by omega)
    exact ⟨by omega, b2.trans a2, by rw [← a1]; exact b3⟩
theorem push_spec (O : Ord lt) {l : List α} {x : α} (h : HeapP lt 0 l.length l) : (pushF lt l x).length = l.length + 1 ∧ (pushF lt l x).Perm (x :: l) ∧ HeapP lt 0 (l.length + 1) (pushF lt l x) := by
  have hu : UInv lt (l.length + 1) l.length (l ++ [x]) := ⟨fun k h0 hk hne => by
    have := h k h0 (by omega) (Nat.zero_le _)
    show lt (at' (l ++ [x]) k) (at' (l ++ [x]) ((k - 1) / 2)) = false
    rw [at_append (by omega), at_append (by omega)]
    exact this, fun k h0 hk hp h1 => by omega⟩
  obtain ⟨a1, a2, a3, a4⟩ := up_spec O (l.length + 1) (l ++ [x]) l.length (l.length + 1) hu (by simp) (by omega) (by omega)
  exact ⟨by rw [pushF, a1]; simp, a2.trans (List.perm_append_singleton _ _), a4⟩
theorem root_least (O : Ord lt) {l : List α} (h : HeapP lt 0 l.length l) : ∀ (k : Nat), k < l.length → lt (at' l k) (at' l 0) = false := by
  intro k
  induction k using Nat.strongRecOn with
  | _ k ih =>
    intro hk
    by_cases h0 : k = 0
    · subst h0
      cases e : lt (at' l 0) (at' l 0) with
      | false => rfl
      | true => rw [← O.asy _ _ e, e]
    · exact O.tr _ _ _ (ih ((k - 1) / 2) (by omega) (by omega)) (h k (by omega) hk (Nat.zero_le _))
theorem root_le (O : Ord lt) {l : List α} (h : HeapP lt 0 l.length l) {x : α} (hx : x ∈ l) : lt x (at' l 0) = false := by
  obtain ⟨k, hk, rfl⟩ := List.mem_iff_getElem.1 hx
  have := root_least O h k hk
  simpa only [at', List.getD_eq_getElem?_getD, List.getElem?_eq_getElem hk, Option.getD_some] using this
theorem last_perm {l : List α} (h : 0 < l.length) : (at' l (l.length - 1) :: l.take (l.length - 1)).Perm l := by
  have e : l = l.take (l.length - 1) ++ [at' l (l.length - 1)] := by
    refine at_ext (by simp; omega) fun k hk => ?_
    by_cases h1 : k < l.length - 1
    · rw [at_append (by simp; omega), at_take h1]
    · obtain rfl : k = l.length - 1 := by omega
      simp only [at', List.getD_eq_getElem?_getD]
      rw [List.getElem?_append_right (by simp), List.length_take]
      rw [show l.length - 1 - min (l.length - 1) l.length = 0 by omega]
      rfl
  conv => rhs; rw [e]
  exact (List.perm_append_singleton _ _).symm
theorem heap_take {l : List α} {n : Nat} (hn : n ≤ l.length) (h : HeapP lt 0 n l) : HeapP lt 0 (l.take n).length (l.take n) := by
  intro k h0 hk hlo
  rw [List.length_take] at hk
  have := h k h0 (by omega) hlo
  show lt (at' (l.take n) k) (at' (l.take n) ((k - 1) / 2)) = false
  rw [at_take (by omega), at_take (by omega)]
  exact this
theorem fixG_spec (O : Ord lt) {l : List α} {i n m : Nat} (hd : DInv lt 0 n i False l) (hn : n ≤ l.length) (hi : i < n) (hm : n < m) :
    ∀ r, r = (if i < (downF lt m l i n).2 then (downF lt m l i n).1 else upF lt m (downF lt m l i n).1 i) → r.length = l.length ∧ r.Perm l ∧ (∀ k, n ≤ k → at' r k = at' l k) ∧ HeapP lt 0 n r := by
  obtain ⟨a1, a2, a3, a4, a5, a6⟩ := down_spec O m l i n 0 False hd hn (Nat.zero_le _) (by omega)
  intro r hr
  generalize downF lt m l i n = d at *
  by_cases h : i < d.2
  · have e : r = d.1 := hr.trans (if_pos h)
    rw [e]
    exact ⟨a1, a2, a3, fun k h0 hk hlo => a6 k h0 hk hlo fun _ => .inr h⟩
  · have e : r = upF lt m d.1 i := hr.trans (if_neg h)
    have e2 : d.1 = l := a5 (by omega)
    have hu : UInv lt n i d.1 := ⟨fun k h0 hk hne => a6 k h0 hk (Nat.zero_le _) fun e => absurd e hne, fun k h0 hk hp h1 => by rw [e2]; exact hd.c k h0 hk hp h1 (Nat.zero_le _)⟩
    obtain ⟨b1, b2, b3, b4⟩ := up_spec O m d.1 i n hu (by rw [e2]; exact hn) hi (by omega)
    rw [e]
    exact ⟨by omega, b2.trans a2, fun k hk => by rw [b3 k hk, a3 k hk], b4⟩
theorem fix_spec (O : Ord lt) {l : List α} {i : Nat} {y : α} (h : HeapP lt 0 l.length l) (hi : i < l.length) : (fixF lt (l.set i y) i).length = l.length ∧ (fixF lt (l.set i y) i).Perm (l.set i y) ∧ HeapP lt 0 l.length (fixF lt (l.set i y) i) := by
  have ha := fun k => at_set (l := l) (i := i) (k := k) (x := y) hi
  have hd : DInv lt 0 (l.set i y).length i False (l.set i y) := ⟨fun k h0 hk hlk hp hb => by
    have hne : k ≠ i := fun e => hb e
    show lt (at' (l.set i y) k) (at' (l.set i y) ((k - 1) / 2)) = false
    rw [ha, ha, if_neg hne, if_neg hp]
    exact h k h0 (by simpa using hk) hlk, fun k h0 hk hp h1 hlo => by
    rw [ha, ha, if_neg (by omega), if_neg (by omega)]
    have e1 := h k h0 (by simpa using hk) (Nat.zero_le _)
    rw [edge, hp] at e1
    exact O.tr _ _ _ (h i h1 hi (Nat.zero_le _)) e1⟩
  have := fixG_spec O (m := (l.set i y).length + 1) hd (Nat.le_refl _) (by simpa using hi) (by omega) (fixF lt (l.set i y) i) rfl
  obtain ⟨b1, b2, b3, b4⟩ := this
  have e : (l.set i y).length = l.length := by simp
  exact ⟨by rw [b1]; simp, b2, by rw [e] at b4; exact b4⟩
theorem rem_spec (O : Ord lt) {l : List α} {i : Nat} (h : HeapP lt 0 l.length l) (hi : i < l.length) : (remF lt l i).length = l.length ∧ at' (remF lt l i) (l.length - 1) = at' l i ∧ (at' l i :: (remF lt l i).take (l.length - 1)).Perm l ∧ HeapP lt 0 (l.length - 1) ((remF lt l i).take (l.length - 1)) := by
  have key : (remF lt l i).length = l.length ∧ (remF lt l i).Perm l ∧ at' (remF lt l i) (l.length - 1) = at' l i ∧ HeapP lt 0 (l.length - 1) (remF lt l i) := by
    unfold remF
    by_cases e : l.length - 1 = i
    · rw [if_pos e]
      exact ⟨rfl, .refl _, by rw [e], fun k h0 hk hlo => h k h0 (by omega) hlo⟩
    · rw [if_neg e]
      have ha := fun k => swp_at (l := l) (i := i) (j := l.length - 1) (k := k) (by omega) (by omega)
      have hd : DInv lt 0 (l.length - 1) i False (swp l i (l.length - 1)) := ⟨fun k h0 hk hlk hp hb => by
        have hne : k ≠ i := fun e => hb e
        show lt (at' (swp l i (l.length - 1)) k) (at' (swp l i (l.length - 1)) ((k - 1) / 2)) = false
        rw [ha, ha, if_neg (by omega), if_neg hne, if_neg (by omega), if_neg hp]
        exact h k h0 (by omega) hlk, fun k h0 hk hp h1 hlo => by
        rw [ha, ha, if_neg (by omega), if_neg (by omega), if_neg (by omega), if_neg (by omega)]
        have e1 := h k h0 (by omega) (Nat.zero_le _)
        rw [edge, hp] at e1
        exact O.tr _ _ _ (h i h1 hi (Nat.zero_le _)) e1⟩
      obtain ⟨b1, b2, b3, b4⟩ := fixG_spec O (m := l.length + 1) hd (by rw [swp_len]; omega) (by omega) (by omega) _ rfl
      exact ⟨by rw [b1, swp_len], b2.trans (swp_perm (by omega) (by omega)), by rw [b3 _ (Nat.le_refl _), ha, if_pos rfl], b4⟩
  obtain ⟨e1, e3, e2, e4⟩ := key
  refine ⟨e1, e2, ?_, ?_⟩
  · have := last_perm (l := remF lt l i) (by omega)
    rw [e1, e2] at this
    exact this.trans e3
  · have := heap_take (lt := lt) (l := remF lt l i) (n := l.length - 1) (by omega) e4
    rw [List.length_take, e1] at this
    rw [show min (l.length - 1) l.length = l.length - 1 by omega] at this
    exact this
end
end Go.Proofs.Ytoadcfjkkoemdaa.A
