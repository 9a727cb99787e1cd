/- Contracts of functions, over the machine. -/
import Derived.Test.YtfmpaoolplnpjaaRows
import Derived.Test.YtfmpaoolplnpjaaVK
import Derived.Test.YtfmpaoolplnpjaaVJ
namespace Go.Vm
abbrev U : Value := undef
abbrev tm (n : Nat) : Operand := .tmp n
abbrev k0 : Operand := .const (.int .i64 0)
abbrev o1 (d : Nat) (x : AOp) : AOper := ⟨some d, x, none, [], false⟩
abbrev o2 (d : Nat) (x : AOp) : AOper := ⟨some d, x, none, [], true⟩
abbrev o3 (x : AOp) : AOper := ⟨none, x, none, [], false⟩
abbrev o4 (d : Nat) (x : AOp) (t : Nat) : AOper := ⟨some d, x, some (t, true), [], false⟩
abbrev o5 (d : Nat) (x : AOp) (t : Nat) : AOper := ⟨some d, x, some (t, false), [], false⟩
end Go.Vm
set_option linter.unusedSimpArgs false
set_option linter.unusedSectionVars false
noncomputable section
set_option maxRecDepth 100000
set_option linter.unusedVariables false
namespace Go.Proofs.Ytfmpaoolplnpjaa.A
open Go Go.Vm
abbrev ty_internal_abi_BoundsErrorCode : TypeId := 6
abbrev ty_runtime_boundsError : TypeId := 8
abbrev ty_runtime_errorString : TypeId := 10
abbrev ty_runtime_plainError : TypeId := 11
abbrev ty_runtime_errorAddressString : TypeId := 14
abbrev ty_internal_runtime_maps_unhashableTypeError : TypeId := 19
abbrev ty_api_Errno : TypeId := 24
abbrev ty_api_Timer : TypeId := 33
abbrev ty_ll18_Act : TypeId := 50
abbrev ty_lr18_Wheel : TypeId := 54
abbrev ty_wheel_slot : TypeId := 58
abbrev ty_wheel_Wheel : TypeId := 62
abbrev ty_iter_Seq__api_Timer_ : TypeId := 79
abbrev ty_container_heap_Interface : TypeId := 82
abbrev ty_slices_sortedHint : TypeId := 97
abbrev ty_slices_xorshift : TypeId := 107
abbrev ty_runtime_TypeAssertionError : TypeId := 118
abbrev ty_runtime_PanicNilError : TypeId := 121
abbrev ty_internal_abi_TFlag : TypeId := 122
abbrev ty_internal_abi_Kind : TypeId := 123
abbrev ty_internal_abi_NameOff : TypeId := 126
abbrev ty_internal_abi_TypeOff : TypeId := 127
abbrev ty_internal_abi_Type : TypeId := 129
instance : IsIface Try.prog 20 := ⟨by kernel_rfl⟩
instance : IsIface Try.prog 81 := ⟨by kernel_rfl⟩
instance : IsIface Try.prog 82 := ⟨by kernel_rfl⟩
abbrev prims : List FuncId := [3]
abbrev kepts : List FuncId := []
def T0 : Table := withKept (withTrue Try.prog prims) kepts
abbrev fn_zkQ : FuncId := 3
theorem zkQ_known {h : Heap} : Runs Try.prog T0 (.fn 3) [] h (fun r h' => r = .bool true ∧ h' = h) (fun _ _ => False) := known_runs rfl
instance : IsBoolT Try.prog 4 := ⟨by kernel_rfl⟩
instance : TLeaves Try.prog 7 (.i .i64 :: (.i .i64 :: (.b :: (.i .u8 :: [])))) := ⟨by kernel_rfl, by kernel_rfl, by kernel_rfl⟩
instance : TLeaves Try.prog 8 (.i .i64 :: (.i .i64 :: (.b :: (.i .u8 :: [])))) := ⟨by kernel_rfl, by kernel_rfl, by kernel_rfl⟩
instance : TLeaves Try.prog 32 (.i .i64 :: (.i .i64 :: [])) := ⟨by kernel_rfl, by kernel_rfl, by kernel_rfl⟩
instance : TLeaves Try.prog 33 (.i .i64 :: (.i .i64 :: [])) := ⟨by kernel_rfl, by kernel_rfl, by kernel_rfl⟩
instance : TLeaves Try.prog 49 (.i .i64 :: (.i .i64 :: (.i .i64 :: []))) := ⟨by kernel_rfl, by kernel_rfl, by kernel_rfl⟩
instance : TLeaves Try.prog 50 (.i .i64 :: (.i .i64 :: (.i .i64 :: []))) := ⟨by kernel_rfl, by kernel_rfl, by kernel_rfl⟩
abbrev fn_zpbQ : FuncId := 9
def zpbQ_c : ACode :=
 (.seq (.region [
 o1 2 (.mov (.const (.pointer none))),
 o1 3 (.mov k0)]) (.seq (.seq (.region [
 o1 4 (.mov (tm 0)),
 o1 5 (.bin .lss (so (.binOp .lss 3 (tm 4) (.const (.int .i64 1)) 3) 4) (tm 4) (.const (.int .i64 1))),
 o1 6 (.mov (tm 5)),
 o5 7 (.mov (tm 0)) 6,
 o5 8 (.bin .gtr (so (.binOp .gtr 3 (tm 7) (.const (.int .i64 256)) 3) 4) (tm 7) (.const (.int .i64 256))) 6,
 o1 9 (.pick (tm 6) (.const (.bool true)) (tm 8))]) (.cond (tm 9)
 (.seq (.region [
 o1 2 (.mov (.const (.pointer none))),
 o1 3 (.mov (.const (.int .i64 3)))]) .ret)
 .skip)) (.seq (.region [
 o1 10 (.mov (tm 0)),
 o1 11 (.mkMap),
 o1 12 (.build [(.int .i64 0), (.slice none 0 0), (.slice none 0 0), (.slice none 0 0), (.slice none 0 0), (.slice none 0 0), (.slice none 0 0), (.slice none 0 0), (.slice none 0 0), (.slice none 0 0), (.slice none 0 0), (.slice none 0 0), (.slice none 0 0), (.slice none 0 0), (.slice none 0 0), (.slice none 0 0), (.slice none 0 0), (.slice none 0 0), (.slice none 0 0), (.slice none 0 0), (.slice none 0 0), (.slice none 0 0), (.slice none 0 0), (.slice none 0 0), (.slice none 0 0), (.slice none 0 0), (.slice none 0 0), (.slice none 0 0), (.slice none 0 0), (.slice none 0 0), (.slice none 0 0), (.slice none 0 0), (.slice none 0 0), (.slice none 0 0), (.slice none 0 0), (.slice none 0 0), (.slice none 0 0), (.slice none 0 0), (.slice none 0 0), (.slice none 0 0), (.slice none 0 0), (.slice none 0 0), (.slice none 0 0), (.slice none 0 0), (.slice none 0 0), (.slice none 0 0), (.slice none 0 0), (.slice none 0 0), (.slice none 0 0), (.slice none 0 0), (.slice none 0 0), (.slice none 0 0), (.slice none 0 0), (.slice none 0 0), (.slice none 0 0), (.slice none 0 0), (.slice none 0 0), (.slice none 0 0), (.slice none 0 0), (.slice none 0 0), (.slice none 0 0), (.slice none 0 0), (.slice none 0 0), (.slice none 0 0), (.slice none 0 0), (.slice none 0 0), (.slice none 0 0), (.slice none 0 0), (.slice none 0 0), (.slice none 0 0), (.slice none 0 0), (.slice none 0 0), (.slice none 0 0), (.slice none 0 0), (.slice none 0 0), (.slice none 0 0), (.slice none 0 0), (.slice none 0 0), (.slice none 0 0), (.slice none 0 0), (.slice none 0 0), (.slice none 0 0), (.slice none 0 0), (.slice none 0 0), (.slice none 0 0), (.slice none 0 0), (.slice none 0 0), (.slice none 0 0), (.slice none 0 0), (.slice none 0 0), (.slice none 0 0), (.slice none 0 0), (.slice none 0 0), (.slice none 0 0), (.slice none 0 0), (.slice none 0 0), (.slice none 0 0), (.slice none 0 0), (.slice none 0 0), (.slice none 0 0), (.slice none 0 0), (.slice none 0 0), (.slice none 0 0), (.slice none 0 0), (.slice none 0 0), (.slice none 0 0), (.slice none 0 0), (.slice none 0 0), (.slice none 0 0), (.slice none 0 0), (.slice none 0 0), (.slice none 0 0), (.slice none 0 0), (.slice none 0 0), (.slice none 0 0), (.slice none 0 0), (.slice none 0 0), (.slice none 0 0), (.slice none 0 0), (.slice none 0 0), (.slice none 0 0), (.slice none 0 0), (.slice none 0 0), (.slice none 0 0), (.slice none 0 0), (.slice none 0 0), (.slice none 0 0), (.slice none 0 0), (.slice none 0 0), (.slice none 0 0), (.slice none 0 0), (.slice none 0 0), (.slice none 0 0), (.slice none 0 0), (.slice none 0 0), (.slice none 0 0), (.slice none 0 0), (.slice none 0 0), (.slice none 0 0), (.slice none 0 0), (.slice none 0 0), (.slice none 0 0), (.slice none 0 0), (.slice none 0 0), (.slice none 0 0), (.slice none 0 0), (.slice none 0 0), (.slice none 0 0), (.slice none 0 0), (.slice none 0 0), (.slice none 0 0), (.slice none 0 0), (.slice none 0 0), (.slice none 0 0), (.slice none 0 0), (.slice none 0 0), (.slice none 0 0), (.slice none 0 0), (.slice none 0 0), (.slice none 0 0), (.slice none 0 0), (.slice none 0 0), (.slice none 0 0), (.slice none 0 0), (.slice none 0 0), (.slice none 0 0), (.slice none 0 0), (.slice none 0 0), (.slice none 0 0), (.slice none 0 0), (.slice none 0 0), (.slice none 0 0), (.slice none 0 0), (.slice none 0 0), (.slice none 0 0), (.slice none 0 0), (.slice none 0 0), (.slice none 0 0), (.slice none 0 0), (.slice none 0 0), (.slice none 0 0), (.slice none 0 0), (.slice none 0 0), (.slice none 0 0), (.slice none 0 0), (.slice none 0 0), (.slice none 0 0), (.slice none 0 0), (.slice none 0 0), (.slice none 0 0), (.slice none 0 0), (.slice none 0 0), (.slice none 0 0), (.slice none 0 0), (.slice none 0 0), (.slice none 0 0), (.slice none 0 0), (.slice none 0 0), (.slice none 0 0), (.slice none 0 0), (.slice none 0 0), (.slice none 0 0), (.slice none 0 0), (.slice none 0 0), (.slice none 0 0), (.slice none 0 0), (.slice none 0 0), (.slice none 0 0), (.slice none 0 0), (.slice none 0 0), (.slice none 0 0), (.slice none 0 0), (.slice none 0 0), (.slice none 0 0), (.slice none 0 0), (.slice none 0 0), (.slice none 0 0), (.slice none 0 0), (.slice none 0 0), (.slice none 0 0), (.slice none 0 0), (.slice none 0 0), (.slice none 0 0), (.slice none 0 0), (.slice none 0 0), (.slice none 0 0), (.slice none 0 0), (.slice none 0 0), (.slice none 0 0), (.slice none 0 0), (.slice none 0 0), (.slice none 0 0), (.slice none 0 0), (.slice none 0 0), (.slice none 0 0), (.slice none 0 0), (.slice none 0 0), (.slice none 0 0), (.slice none 0 0), (.slice none 0 0), (.slice none 0 0), (.slice none 0 0), (.slice none 0 0), (.slice none 0 0), (.slice none 0 0), (.slice none 0 0), (.slice none 0 0), (.slice none 0 0), (.slice none 0 0), (.slice none 0 0), (.slice none 0 0), (.slice none 0 0), (.slice none 0 0), (.slice none 0 0), (.slice none 0 0), (.slice none 0 0), (.slice none 0 0), (.map none)] [(0, 1, (tm 10)), (257, 1, (tm 11))]),
 o1 13 (.box 62 (tm 12)),
 o1 2 (.mov (tm 13)),
 o1 3 (.mov k0)]) .ret)))
def zpbQ : AFunc := ⟨14, [(2, none), (3, none)], zpbQ_c, none⟩
theorem zpbQ_t0 : tableOf Try.prog 9 = some zpbQ := by kernel_rfl
theorem zpbQ_t : T0 9 = some zpbQ := withKept_t rfl (withTrue_t rfl zpbQ_t0)
theorem zpbQ_runs {v0 : Value} {h : Heap} {R : RP} {X : XP} (k : RunC Try.prog T0 zpbQ_c ⟨[v0, U, U, U, U, U, U, U, U, U, U, U, U, U], [], h, none⟩ (bodyQ Try.prog T0 [(2, none), (3, none)] R X)) :
 Runs Try.prog T0 (.fn 9) [v0] h R X := Runs.fn zpbQ_t rfl k
abbrev fn_ztbQ : FuncId := 10
def ztbQ_c : ACode :=
 (.seq (.region [
 o1 2 (.mov k0),
 o1 3 (.mov (.const (.bool false)))]) (.seq (.seq (.region [
 o1 4 (.mov (tm 0)),
 o1 5 (.callV (.func 32) [(tm 4)]),
 o1 6 (.mov (tm 5)),
 o5 7 (.mov (tm 0)) 6,
 o5 8 (.nilCheck (tm 7)) 6,
 o5 9 (.fieldAddr 257 (tm 8)) 6,
 o5 10 (.load none (tm 9)) 6,
 o5 11 (.lenMap (tm 10)) 6,
 o5 12 (.bin .eql (so (.binOp .eql 3 (tm 11) k0 3) 4) (tm 11) k0) 6,
 o1 13 (.pick (tm 6) (.const (.bool true)) (tm 12))]) (.cond (tm 13)
 (.seq (.region [
 o1 2 (.mov k0),
 o1 3 (.mov (.const (.bool false)))]) .ret)
 .skip)) (.seq (.region [
 o1 14 (.mov (tm 0)),
 o1 15 (.callV (.func 33) [(tm 14)]),
 o1 16 (.nilCheck (tm 15)),
 o1 17 (.fieldAddr 1 (tm 16)),
 o1 18 (.load none (tm 17)),
 o1 2 (.mov (tm 18)),
 o1 3 (.mov (.const (.bool true)))]) .ret)))
def ztbQ : AFunc := ⟨19, [(2, none), (3, none)], ztbQ_c, none⟩
theorem ztbQ_t0 : tableOf Try.prog 10 = some ztbQ := by kernel_rfl
theorem ztbQ_t : T0 10 = some ztbQ := withKept_t rfl (withTrue_t rfl ztbQ_t0)
abbrev fn_zvbQ : FuncId := 12
def zvbQ_c : ACode :=
 (.seq (.region [
 o1 4 (.mov (.const (.slice none 0 0)))]) (.seq (.seq (.region [
 o1 5 (.mov (tm 0)),
 o1 6 (.callV (.func 32) [(tm 5)]),
 o1 7 (.mov (tm 6)),
 o5 8 (.mov (tm 1)) 7,
 o5 9 (.bin .lss (so (.binOp .lss 3 (tm 8) k0 3) 4) (tm 8) k0) 7,
 o1 10 (.pick (tm 7) (.const (.bool true)) (tm 9)),
 o1 11 (.mov (tm 10)),
 o5 12 (.mov (tm 1)) 11,
 o5 13 (.mov (tm 0)) 11,
 o5 14 (.nilCheck (tm 13)) 11,
 o5 15 (.fieldAddr 0 (tm 14)) 11,
 o5 16 (.load none (tm 15)) 11,
 o5 17 (.bin .geq (so (.binOp .geq 3 (tm 12) (tm 16) 3) 4) (tm 12) (tm 16)) 11,
 o1 18 (.pick (tm 11) (.const (.bool true)) (tm 17))]) (.cond (tm 18)
 (.seq (.region [
 o1 4 (.mov (.const (.slice none 0 0)))]) .ret)
 .skip)) (.seq (.region [
 o1 19 (.mov (tm 0)),
 o1 20 (.mov (tm 1)),
 o1 21 (.nilCheck (tm 19)),
 o1 22 (.fieldAddr 1 (tm 21)),
 o1 23 (.indexArr 256 1 (tm 22) (tm 20)),
 o1 24 (.load none (tm 23)),
 o1 25 (.callV (.func 34) [(tm 24)]),
 o1 4 (.mov (tm 25))]) .ret)))
def zvbQ : AFunc := ⟨26, [(4, none)], zvbQ_c, none⟩
theorem zvbQ_t0 : tableOf Try.prog 12 = some zvbQ := by kernel_rfl
theorem zvbQ_t : T0 12 = some zvbQ := withKept_t rfl (withTrue_t rfl zvbQ_t0)
theorem zvbQ_runs {v0 v1 : Value} {h : Heap} {R : RP} {X : XP} (k : RunC Try.prog T0 zvbQ_c ⟨[v0, v1, U, U, U, U, U, U, U, U, U, U, U, U, U, U, U, U, U, U, U, U, U, U, U, U], [], h, none⟩ (bodyQ Try.prog T0 [(4, none)] R X)) :
 Runs Try.prog T0 (.fn 12) [v0, v1] h R X := Runs.fn zvbQ_t rfl k
abbrev fn_zqbQ : FuncId := 13
def zqbQ_l0 : ACode :=
 (.seq (.seq (.region [
 o1 10 (.mov (tm 5)),
 o1 11 (.eq .ptr true (so (.binOp .neq 66 (tm 10) (.const (.pointer none)) 66) 4) (tm 10) (.const (.pointer none))),
 o1 12 (.mov (tm 11)),
 o4 13 (.mov (tm 5)) 12,
 o4 14 (.nilCheck (tm 13)) 12,
 o4 15 (.fieldAddr 1 (tm 14)) 12,
 o4 16 (.load none (tm 15)) 12,
 o4 17 (.mov (tm 1)) 12,
 o4 18 (.bin .leq (so (.binOp .leq 3 (tm 16) (tm 17) 3) 4) (tm 16) (tm 17)) 12,
 o1 19 (.pick (tm 12) (tm 18) (.const (.bool false)))]) (.cond (tm 19)
 .skip
 (.exit 0))) (.seq (.block 1 (.seq (.region [
 o1 22 (.mov (tm 4)),
 o1 23 (.mov (tm 5)),
 o1 24 (.nilCheck (tm 23)),
 o1 25 (.fieldAddr 0 (tm 24)),
 o1 26 (.load none (tm 25)),
 o1 27 (.buildSlice 3 [(.int .i64 0)] 1 [(0, 1, (tm 26))]),
 o1 28 (.append 3 1 8 [(.int .i64 0)] false (tm 22) (tm 27)),
 o1 4 (.mov (tm 28))]) (.region [
 o1 29 (.mov (tm 0)),
 o1 30 (.mov (tm 5)),
 o1 31 (.nilCheck (tm 30)),
 o1 32 (.fieldAddr 0 (tm 31)),
 o1 33 (.load none (tm 32)),
 o1 34 (.callV (.func 15) [(tm 29), (tm 33)])]))) (.region [
 o1 20 (.mov (tm 0)),
 o1 21 (.callV (.func 33) [(tm 20)]),
 o1 5 (.mov (tm 21))])))
def zqbQ_c : ACode :=
 (.seq (.region [
 o1 4 (.mov (.const (.slice none 0 0)))]) (.seq (.seq (.region [
 o1 6 (.mov (tm 0)),
 o1 7 (.callV (.func 32) [(tm 6)])]) (.cond (tm 7)
 (.seq (.region [
 o1 4 (.mov (.const (.slice none 0 0)))]) .ret)
 .skip)) (.seq (.seq (.region [
 o1 8 (.mov (tm 0)),
 o1 9 (.callV (.func 33) [(tm 8)]),
 o1 5 (.mov (tm 9))]) (.block 0 (.loop zqbQ_l0))) (.seq (.region [
 o1 35 (.mov (tm 4)),
 o1 4 (.mov (tm 35))]) .ret))))
def zqbQ : AFunc := ⟨36, [(4, none)], zqbQ_c, none⟩
theorem zqbQ_t0 : tableOf Try.prog 13 = some zqbQ := by kernel_rfl
theorem zqbQ_t : T0 13 = some zqbQ := withKept_t rfl (withTrue_t rfl zqbQ_t0)
abbrev fn_zubQ : FuncId := 14
def zubQ_c : ACode :=
 (.seq (.region [
 o1 6 (.mov k0)]) (.seq (.block 0 (.seq (.region [
 o1 11 (.mov (tm 0)),
 o1 12 (.callV (.func 32) [(tm 11)]),
 o1 10 (.mov (tm 12))]) (.cond (tm 10)
 (.seq (.region [
 o1 6 (.mov (.const (.int .i64 1)))]) .ret)
 (.seq (.region [
 o1 14 (.mov (tm 2)),
 o1 15 (.bin .lss (so (.binOp .lss 3 (tm 14) k0 3) 4) (tm 14) k0),
 o1 16 (.mov (tm 15)),
 o5 17 (.mov (tm 2)) 16,
 o5 18 (.bin .gtr (so (.binOp .gtr 3 (tm 17) (.const (.int .i64 1099511627776)) 3) 4) (tm 17) (.const (.int .i64 1099511627776))) 16,
 o1 19 (.pick (tm 16) (.const (.bool true)) (tm 18)),
 o1 13 (.mov (tm 19))]) (.cond (tm 13)
 (.seq (.region [
 o1 6 (.mov (.const (.int .i64 3)))]) .ret)
 .skip))))) (.seq (.seq (.region [
 o1 21 (.mov (tm 0)),
 o1 22 (.nilCheck (tm 21)),
 o1 23 (.fieldAddr 257 (tm 22)),
 o1 24 (.load none (tm 23)),
 o1 25 (.mov (tm 1)),
 o1 26 (.lookup (.int .i64) (.pointer none) true (tm 24) (tm 25)),
 o1 20 (.mov (tm 26)),
 o1 27 (.extract 0 (tm 20)),
 o1 28 (.extract 1 (tm 20)),
 o1 7 (.mov (tm 27)),
 o1 8 (.mov (tm 28))]) (.seq (.region [
 o1 29 (.mov (tm 8))]) (.cond (tm 29)
 (.seq (.region [
 o1 6 (.mov (.const (.int .i64 8)))]) .ret)
 .skip))) (.seq (.region [
 o1 30 (.mov (tm 1)),
 o1 31 (.mov (tm 2)),
 o1 32 (.build [(.int .i64 0), (.int .i64 0)] [(0, 1, (tm 30)), (1, 1, (tm 31))]),
 o1 33 (.box 33 (tm 32)),
 o1 9 (.mov (tm 33))]) (.seq (.region [
 o1 34 (.mov (tm 0)),
 o1 35 (.nilCheck (tm 34)),
 o1 36 (.fieldAddr 257 (tm 35)),
 o1 37 (.load none (tm 36)),
 o1 38 (.mov (tm 1)),
 o1 39 (.mov (tm 9)),
 o3 (.mapUpdate (.int .i64) (tm 37) (tm 38) (tm 39))]) (.seq (.region [
 o1 40 (.mov (tm 0)),
 o1 41 (.mov (tm 2)),
 o1 42 (.callV (.func 36) [(tm 40), (tm 41)]),
 o1 43 (.mkIface 71 (tm 42)),
 o1 44 (.mov (tm 9)),
 o1 45 (.mkIface 66 (tm 44)),
 o1 46 (.callV (.func 35) [(tm 43), (tm 45)])]) (.seq (.region [
 o1 6 (.mov k0)]) .ret)))))))
def zubQ : AFunc := ⟨47, [(6, none)], zubQ_c, none⟩
theorem zubQ_t0 : tableOf Try.prog 14 = some zubQ := by kernel_rfl
theorem zubQ_t : T0 14 = some zubQ := withKept_t rfl (withTrue_t rfl zubQ_t0)
theorem zubQ_runs {v0 v1 v2 : Value} {h : Heap} {R : RP} {X : XP} (k : RunC Try.prog T0 zubQ_c ⟨[v0, v1, v2, U, U, U, U, U, U, U, U, U, U, U, U, U, U, U, U, U, U, U, U, U, U, U, U, U, U, U, U, U, U, U, U, U, U, U, U, U, U, U, U, U, U, U, U], [], h, none⟩ (bodyQ Try.prog T0 [(6, none)] R X)) :
 Runs Try.prog T0 (.fn 14) [v0, v1, v2] h R X := Runs.fn zubQ_t rfl k
abbrev fn_zwbQ : FuncId := 15
def zwbQ_c : ACode :=
 (.seq (.region [
 o1 4 (.mov (.const (.bool false)))]) (.seq (.seq (.region [
 o1 8 (.mov (tm 0)),
 o1 9 (.callV (.func 32) [(tm 8)])]) (.cond (tm 9)
 (.seq (.region [
 o1 4 (.mov (.const (.bool false)))]) .ret)
 .skip)) (.seq (.region [
 o1 11 (.mov (tm 0)),
 o1 12 (.nilCheck (tm 11)),
 o1 13 (.fieldAddr 257 (tm 12)),
 o1 14 (.load none (tm 13)),
 o1 15 (.mov (tm 1)),
 o1 16 (.lookup (.int .i64) (.pointer none) true (tm 14) (tm 15)),
 o1 10 (.mov (tm 16)),
 o1 17 (.extract 0 (tm 10)),
 o1 18 (.extract 1 (tm 10)),
 o1 5 (.mov (tm 17)),
 o1 6 (.mov (tm 18))]) (.seq (.seq (.region [
 o1 19 (.mov (tm 6))]) (.cond (tm 19)
 (.seq (.region [
 o1 20 (.mov (tm 0)),
 o1 21 (.mov (tm 5)),
 o1 22 (.nilCheck (tm 21)),
 o1 23 (.fieldAddr 1 (tm 22)),
 o1 24 (.load none (tm 23)),
 o1 25 (.callV (.func 36) [(tm 20), (tm 24)]),
 o1 7 (.mov (tm 25))]) (.seq (.region [
 o1 26 (.mov (tm 7)),
 o1 27 (.mkIface 71 (tm 26)),
 o1 28 (.mov (tm 7)),
 o1 29 (.nilCheck (tm 28)),
 o1 30 (.load none (tm 29)),
 o1 31 (.mov (tm 5)),
 o1 32 (.callV (.func 38) [(tm 30), (tm 31)]),
 o1 33 (.callV (.func 37) [(tm 27), (tm 32)])]) (.region [
 o1 34 (.mov (tm 0)),
 o1 35 (.nilCheck (tm 34)),
 o1 36 (.fieldAddr 257 (tm 35)),
 o1 37 (.load none (tm 36)),
 o1 38 (.mov (tm 1)),
 o3 (.delete (.int .i64) (tm 37) (tm 38))])))
 .skip)) (.seq (.region [
 o1 39 (.mov (tm 6)),
 o1 4 (.mov (tm 39))]) .ret)))))
def zwbQ : AFunc := ⟨40, [(4, none)], zwbQ_c, none⟩
theorem zwbQ_t0 : tableOf Try.prog 15 = some zwbQ := by kernel_rfl
theorem zwbQ_t : T0 15 = some zwbQ := withKept_t rfl (withTrue_t rfl zwbQ_t0)
abbrev fn_zxbQ : FuncId := 16
def zxbQ_c : ACode :=
 (.seq (.region [
 o1 4 (.mov k0),
 o1 5 (.mov (.const (.bool false)))]) (.seq (.seq (.region [
 o1 8 (.mov (tm 0)),
 o1 9 (.callV (.func 32) [(tm 8)])]) (.cond (tm 9)
 (.seq (.region [
 o1 4 (.mov k0),
 o1 5 (.mov (.const (.bool false)))]) .ret)
 .skip)) (.seq (.region [
 o1 11 (.mov (tm 0)),
 o1 12 (.nilCheck (tm 11)),
 o1 13 (.fieldAddr 257 (tm 12)),
 o1 14 (.load none (tm 13)),
 o1 15 (.mov (tm 1)),
 o1 16 (.lookup (.int .i64) (.pointer none) true (tm 14) (tm 15)),
 o1 10 (.mov (tm 16)),
 o1 17 (.extract 0 (tm 10)),
 o1 18 (.extract 1 (tm 10)),
 o1 6 (.mov (tm 17)),
 o1 7 (.mov (tm 18))]) (.seq (.seq (.region [
 o1 19 (.mov (tm 7)),
 o1 20 (.raw (so (.unOp .not 4 (tm 19)) 4))]) (.cond (tm 20)
 (.seq (.region [
 o1 4 (.mov k0),
 o1 5 (.mov (.const (.bool false)))]) .ret)
 .skip)) (.seq (.region [
 o1 21 (.mov (tm 6)),
 o1 22 (.nilCheck (tm 21)),
 o1 23 (.fieldAddr 1 (tm 22)),
 o1 24 (.load none (tm 23)),
 o1 4 (.mov (tm 24)),
 o1 5 (.mov (.const (.bool true)))]) .ret)))))
def zxbQ : AFunc := ⟨25, [(4, none), (5, none)], zxbQ_c, none⟩
theorem zxbQ_t0 : tableOf Try.prog 16 = some zxbQ := by kernel_rfl
theorem zxbQ_t : T0 16 = some zxbQ := withKept_t rfl (withTrue_t rfl zxbQ_t0)
theorem zxbQ_runs {v0 v1 : Value} {h : Heap} {R : RP} {X : XP} (k : RunC Try.prog T0 zxbQ_c ⟨[v0, v1, U, U, U, U, U, U, U, U, U, U, U, U, U, U, U, U, U, U, U, U, U, U, U], [], h, none⟩ (bodyQ Try.prog T0 [(4, none), (5, none)] R X)) :
 Runs Try.prog T0 (.fn 16) [v0, v1] h R X := Runs.fn zxbQ_t rfl k
abbrev fn_zoQ : FuncId := 18
def zoQ_l0 : ACode :=
 (.seq (.seq (.region [
 o1 21 (.mov (tm 7)),
 o1 22 (.mov (tm 1)),
 o1 23 (.lenSl (tm 22)),
 o1 24 (.bin .lss (so (.binOp .lss 3 (tm 21) (tm 23) 3) 4) (tm 21) (tm 23))]) (.cond (tm 24)
 .skip
 (.exit 0))) (.seq (.block 1 (.seq (.region [
 o1 27 (.mov (tm 5)),
 o1 28 (.mov (tm 7)),
 o1 29 (.mov (tm 1)),
 o1 30 (.mov (tm 7)),
 o1 31 (.indexSl 1 (tm 29) (tm 30)),
 o1 32 (.load none (tm 31)),
 o1 33 (.callV (.func 19) [(tm 32), (.const (.int .i64 1099511627777))]),
 o1 34 (.callV (.func 14) [(tm 27), (tm 28), (tm 33)]),
 o1 35 (.bin .neq (so (.binOp .neq 24 (tm 34) k0 24) 4) (tm 34) k0)]) (.cond (tm 35)
 (.seq (.region [
 o1 4 (.mov (.const (.pointer none)))]) .ret)
 .skip))) (.region [
 o1 25 (.mov (tm 7)),
 o1 26 (.bin .add (so (.binOp .add 3 (tm 25) (.const (.int .i64 1)) 3) 3) (tm 25) (.const (.int .i64 1))),
 o1 7 (.mov (tm 26))])))
def zoQ_c : ACode :=
 (.seq (.region [
 o1 4 (.mov (.const (.pointer none)))]) (.seq (.region [
 o1 9 (.mov (tm 0)),
 o1 10 (.callV (.func 19) [(tm 9), (.const (.int .i64 256))]),
 o1 11 (.bin .add (so (.binOp .add 3 (.const (.int .i64 1)) (tm 10) 3) 3) (.const (.int .i64 1)) (tm 10)),
 o1 12 (.callV (.func 9) [(tm 11)]),
 o1 8 (.mov (tm 12)),
 o1 13 (.extract 0 (tm 8)),
 o1 14 (.extract 1 (tm 8)),
 o1 5 (.mov (tm 13)),
 o1 6 (.mov (tm 14))]) (.seq (.seq (.region [
 o1 15 (.mov (tm 6)),
 o1 16 (.bin .neq (so (.binOp .neq 24 (tm 15) k0 24) 4) (tm 15) k0),
 o1 17 (.mov (tm 16)),
 o5 18 (.mov (tm 5)) 17,
 o5 19 (.eq .ptr false (so (.binOp .eql 22 (tm 18) (.const (.pointer none)) 22) 4) (tm 18) (.const (.pointer none))) 17,
 o1 20 (.pick (tm 17) (.const (.bool true)) (tm 19))]) (.cond (tm 20)
 (.seq (.region [
 o1 4 (.mov (.const (.pointer none)))]) .ret)
 .skip)) (.seq (.seq (.region [
 o1 7 (.mov k0)]) (.block 0 (.loop zoQ_l0))) (.seq (.region [
 o1 36 (.mov (tm 5)),
 o1 4 (.mov (tm 36))]) .ret)))))
def zoQ : AFunc := ⟨37, [(4, none)], zoQ_c, none⟩
theorem zoQ_t0 : tableOf Try.prog 18 = some zoQ := by kernel_rfl
theorem zoQ_t : T0 18 = some zoQ := withKept_t rfl (withTrue_t rfl zoQ_t0)
theorem zoQ_runs {v0 v1 : Value} {h : Heap} {R : RP} {X : XP} (k : RunC Try.prog T0 zoQ_c ⟨[v0, v1, U, U, U, U, U, U, U, U, U, U, U, U, U, U, U, U, U, U, U, U, U, U, U, U, U, U, U, U, U, U, U, U, U, U, U], [], h, none⟩ (bodyQ Try.prog T0 [(4, none)] R X)) :
 Runs Try.prog T0 (.fn 18) [v0, v1] h R X := Runs.fn zoQ_t rfl k
abbrev zoQ_l0_M : List Nat := [0, 0, 0, 0, 1, 0, 0, 2, 0, 0, 0, 0, 0, 0, 0, 0, 0, 0, 0, 0, 0, 1, 1, 1, 1, 1, 1, 1, 1, 1, 1, 1, 1, 1, 1, 1, 0]
abbrev fn_zhQ : FuncId := 19
def zhQ_c : ACode :=
 (.seq (.region [
 o1 4 (.mov k0)]) (.seq (.seq (.region [
 o1 5 (.mov (tm 1)),
 o1 6 (.bin .leq (so (.binOp .leq 3 (tm 5) k0 3) 4) (tm 5) k0)]) (.cond (tm 6)
 (.seq (.region [
 o1 4 (.mov k0)]) .ret)
 .skip)) (.seq (.region [
 o1 7 (.mov (tm 0)),
 o1 8 (.mov (tm 1)),
 o1 9 (.bin .rem (so (.binOp .rem 3 (tm 7) (tm 8) 3) 3) (tm 7) (tm 8)),
 o1 0 (.mov (tm 9))]) (.seq (.seq (.region [
 o1 10 (.mov (tm 0)),
 o1 11 (.bin .lss (so (.binOp .lss 3 (tm 10) k0 3) 4) (tm 10) k0)]) (.cond (tm 11)
 (.region [
 o1 12 (.mov (tm 0)),
 o1 13 (.mov (tm 1)),
 o1 14 (.bin .add (so (.binOp .add 3 (tm 12) (tm 13) 3) 3) (tm 12) (tm 13)),
 o1 0 (.mov (tm 14))])
 .skip)) (.seq (.region [
 o1 15 (.mov (tm 0)),
 o1 4 (.mov (tm 15))]) .ret)))))
def zhQ : AFunc := ⟨16, [(4, none)], zhQ_c, none⟩
theorem zhQ_t0 : tableOf Try.prog 19 = some zhQ := by kernel_rfl
theorem zhQ_t : T0 19 = some zhQ := withKept_t rfl (withTrue_t rfl zhQ_t0)
theorem zhQ_runs {v0 v1 : Value} {h : Heap} {R : RP} {X : XP} (k : RunC Try.prog T0 zhQ_c ⟨[v0, v1, U, U, U, U, U, U, U, U, U, U, U, U, U, U], [], h, none⟩ (bodyQ Try.prog T0 [(4, none)] R X)) :
 Runs Try.prog T0 (.fn 19) [v0, v1] h R X := Runs.fn zhQ_t rfl k
abbrev fn_ziQ : FuncId := 20
def ziQ_l0 : ACode :=
 (.seq (.seq (.region [
 o1 12 (.mov (tm 5)),
 o1 13 (.mov (tm 12)),
 o4 14 (.mov (tm 6)) 13,
 o4 15 (.mov (tm 0)) 13,
 o4 16 (.lenSl (tm 15)) 13,
 o4 17 (.bin .lss (so (.binOp .lss 3 (tm 14) (tm 16) 3) 4) (tm 14) (tm 16)) 13,
 o1 18 (.pick (tm 13) (tm 17) (.const (.bool false)))]) (.cond (tm 18)
 .skip
 (.exit 0))) (.seq (.block 1 (.regionD [
 o1 21 (.mov (tm 0)),
 o1 22 (.mov (tm 6)),
 o1 23 (.indexSl 1 (tm 21) (tm 22)),
 o1 24 (.load none (tm 23)),
 o1 25 (.mov (tm 1)),
 o1 26 (.mov (tm 6)),
 o1 27 (.indexSl 1 (tm 25) (tm 26)),
 o1 28 (.load none (tm 27)),
 o2 29 (.bin .eql (so (.binOp .eql 3 (tm 24) (tm 28) 3) 4) (tm 24) (tm 28)),
 o2 5 (.mov (tm 29))])) (.region [
 o1 19 (.mov (tm 6)),
 o1 20 (.bin .add (so (.binOp .add 3 (tm 19) (.const (.int .i64 1)) 3) 3) (tm 19) (.const (.int .i64 1))),
 o1 6 (.mov (tm 20))])))
def ziQ_c : ACode :=
 (.seq (.region [
 o1 4 (.mov (.const (.bool false)))]) (.seq (.region [
 o1 7 (.mov (tm 0)),
 o1 8 (.lenSl (tm 7)),
 o1 9 (.mov (tm 1)),
 o1 10 (.lenSl (tm 9)),
 o1 11 (.bin .eql (so (.binOp .eql 3 (tm 8) (tm 10) 3) 4) (tm 8) (tm 10)),
 o1 5 (.mov (tm 11))]) (.seq (.seq (.region [
 o1 6 (.mov k0)]) (.block 0 (.loop ziQ_l0))) (.seq (.region [
 o1 30 (.mov (tm 5)),
 o1 4 (.mov (tm 30))]) .ret))))
def ziQ : AFunc := ⟨31, [(4, none)], ziQ_c, none⟩
theorem ziQ_t0 : tableOf Try.prog 20 = some ziQ := by kernel_rfl
theorem ziQ_t : T0 20 = some ziQ := withKept_t rfl (withTrue_t rfl ziQ_t0)
abbrev fn_zrbQ : FuncId := 21
def zrbQ_c : ACode :=
 (.seq (.region [
 o1 2 (.mov k0)]) (.seq (.seq (.region [
 o1 3 (.mov (tm 0)),
 o1 4 (.callV (.func 32) [(tm 3)])]) (.cond (tm 4)
 (.seq (.region [
 o1 2 (.mov k0)]) .ret)
 .skip)) (.seq (.region [
 o1 5 (.mov (tm 0)),
 o1 6 (.nilCheck (tm 5)),
 o1 7 (.fieldAddr 257 (tm 6)),
 o1 8 (.load none (tm 7)),
 o1 9 (.lenMap (tm 8)),
 o1 2 (.mov (tm 9))]) .ret)))
def zrbQ : AFunc := ⟨10, [(2, none)], zrbQ_c, none⟩
theorem zrbQ_t0 : tableOf Try.prog 21 = some zrbQ := by kernel_rfl
theorem zrbQ_t : T0 21 = some zrbQ := withKept_t rfl (withTrue_t rfl zrbQ_t0)
abbrev fn_zsbQ : FuncId := 29
def zsbQ_l0 : ACode :=
 (.seq (.region [
 o1 8 (.bin .lss (so (.binOp .lss 3 (tm 7) (.const (.int .i64 256)) 3) 0) (tm 7) (.const (.int .i64 256)))]) (.seq (.cond (tm 8)
 .skip
 (.exit 0)) (.seq (.block 1 (.seq (.region [
 o1 9 (.mov (tm 7)),
 o1 4 (.mov (tm 9))]) (.region [
 o1 10 (.mov (tm 3)),
 o1 11 (.mov (tm 0)),
 o1 12 (.mov (tm 4)),
 o1 13 (.nilCheck (tm 11)),
 o1 14 (.fieldAddr 1 (tm 13)),
 o1 15 (.indexArr 256 1 (tm 14) (tm 12)),
 o1 16 (.load none (tm 15)),
 o1 17 (.append 66 1 8 [(.pointer none)] false (tm 10) (tm 16)),
 o1 3 (.mov (tm 17))]))) (.region [
 o1 18 (.bin .add (so (.binOp .add 3 (tm 7) (.const (.int .i64 1)) 3) 3) (tm 7) (.const (.int .i64 1))),
 o1 7 (.mov (tm 18))]))))
def zsbQ_c : ACode :=
 (.seq (.region [
 o1 2 (.mov (.const (.slice none 0 0)))]) (.seq (.seq (.region [
 o1 5 (.mov (tm 0)),
 o1 6 (.callV (.func 32) [(tm 5)])]) (.cond (tm 6)
 (.seq (.region [
 o1 2 (.mov (.const (.slice none 0 0)))]) .ret)
 .skip)) (.seq (.region [
 o1 3 (.mov (.const (.slice none 0 0)))]) (.seq (.seq (.region [
 o1 7 (.mov k0)]) (.block 0 (.loop zsbQ_l0))) (.seq (.region [
 o1 19 (.mov (tm 3)),
 o1 20 (.callV (.func 34) [(tm 19)]),
 o1 2 (.mov (tm 20))]) .ret)))))
def zsbQ : AFunc := ⟨21, [(2, none)], zsbQ_c, none⟩
theorem zsbQ_t0 : tableOf Try.prog 29 = some zsbQ := by kernel_rfl
theorem zsbQ_t : T0 29 = some zsbQ := withKept_t rfl (withTrue_t rfl zsbQ_t0)
theorem zsbQ_runs {v0 : Value} {h : Heap} {R : RP} {X : XP} (k : RunC Try.prog T0 zsbQ_c ⟨[v0, U, U, U, U, U, U, U, U, U, U, U, U, U, U, U, U, U, U, U, U], [], h, none⟩ (bodyQ Try.prog T0 [(2, none)] R X)) :
 Runs Try.prog T0 (.fn 29) [v0] h R X := Runs.fn zsbQ_t rfl k
abbrev zsbQ_l0_M : List Nat := [0, 0, 0, 2, 1, 0, 0, 2, 1, 1, 1, 1, 1, 1, 1, 1, 1, 1, 1, 0, 0]
abbrev fn_zacQ : FuncId := 32
def zacQ_c : ACode :=
 (.seq (.region [
 o1 2 (.mov (.const (.bool false)))]) (.seq (.region [
 o1 3 (.mov (tm 0)),
 o1 4 (.eq .ptr false (so (.binOp .eql 22 (tm 3) (.const (.pointer none)) 22) 4) (tm 3) (.const (.pointer none))),
 o1 5 (.mov (tm 4)),
 o5 6 (.mov (tm 0)) 5,
 o5 7 (.nilCheck (tm 6)) 5,
 o5 8 (.fieldAddr 0 (tm 7)) 5,
 o5 9 (.load none (tm 8)) 5,
 o5 10 (.bin .eql (so (.binOp .eql 3 (tm 9) k0 3) 4) (tm 9) k0) 5,
 o1 11 (.pick (tm 5) (.const (.bool true)) (tm 10)),
 o1 2 (.mov (tm 11))]) .ret))
def zacQ : AFunc := ⟨12, [(2, none)], zacQ_c, none⟩
theorem zacQ_t0 : tableOf Try.prog 32 = some zacQ := by kernel_rfl
theorem zacQ_t : T0 32 = some zacQ := withKept_t rfl (withTrue_t rfl zacQ_t0)
theorem zacQ_runs {v0 : Value} {h : Heap} {R : RP} {X : XP} (k : RunC Try.prog T0 zacQ_c ⟨[v0, U, U, U, U, U, U, U, U, U, U, U], [], h, none⟩ (bodyQ Try.prog T0 [(2, none)] R X)) :
 Runs Try.prog T0 (.fn 32) [v0] h R X := Runs.fn zacQ_t rfl k
abbrev fn_zzbQ : FuncId := 33
def zzbQ_l0 : ACode :=
 (.seq (.region [
 o1 6 (.bin .lss (so (.binOp .lss 3 (tm 5) (.const (.int .i64 256)) 3) 0) (tm 5) (.const (.int .i64 256)))]) (.seq (.cond (tm 6)
 .skip
 (.exit 0)) (.seq (.block 1 (.seq (.region [
 o1 7 (.mov (tm 5)),
 o1 3 (.mov (tm 7))]) (.seq (.region [
 o1 8 (.mov (tm 0)),
 o1 9 (.mov (tm 3)),
 o1 10 (.nilCheck (tm 8)),
 o1 11 (.fieldAddr 1 (tm 10)),
 o1 12 (.indexArr 256 1 (tm 11) (tm 9)),
 o1 4 (.mov (tm 12))]) (.seq (.region [
 o1 13 (.mov (tm 4)),
 o1 14 (.nilCheck (tm 13)),
 o1 15 (.load none (tm 14)),
 o1 16 (.callV (.func 40) [(tm 15)]),
 o1 17 (.bin .gtr (so (.binOp .gtr 3 (tm 16) k0 3) 4) (tm 16) k0),
 o1 18 (.mov (tm 17)),
 o4 19 (.mov (tm 2)) 18,
 o4 20 (.eq .ptr false (so (.binOp .eql 66 (tm 19) (.const (.pointer none)) 66) 4) (tm 19) (.const (.pointer none))) 18,
 o4 21 (.mov (tm 20)) 18,
 o5 22 (.mov (tm 4)) 21,
 o5 23 (.nilCheck (tm 22)) 21,
 o5 24 (.load none (tm 23)) 21,
 o5 25 (.indexSl 1 (tm 24) k0) 21,
 o5 26 (.load none (tm 25)) 21,
 o5 27 (.mov (tm 2)) 21,
 o5 28 (.callV (.func 41) [(tm 26), (tm 27)]) 21,
 o5 29 (.bin .lss (so (.binOp .lss 3 (tm 28) k0 3) 4) (tm 28) k0) 21,
 o4 30 (.pick (tm 21) (.const (.bool true)) (tm 29)) 18,
 o1 31 (.pick (tm 18) (tm 30) (.const (.bool false)))]) (.cond (tm 31)
 (.region [
 o1 32 (.mov (tm 4)),
 o1 33 (.nilCheck (tm 32)),
 o1 34 (.load none (tm 33)),
 o1 35 (.indexSl 1 (tm 34) k0),
 o1 36 (.load none (tm 35)),
 o1 2 (.mov (tm 36))])
 .skip))))) (.region [
 o1 37 (.bin .add (so (.binOp .add 3 (tm 5) (.const (.int .i64 1)) 3) 3) (tm 5) (.const (.int .i64 1))),
 o1 5 (.mov (tm 37))]))))
def zzbQ_c : ACode :=
 (.seq (.region [
 o1 2 (.mov (.const (.pointer none)))]) (.seq (.seq (.region [
 o1 5 (.mov k0)]) (.block 0 (.loop zzbQ_l0))) (.seq (.region [
 o1 38 (.mov (tm 2)),
 o1 2 (.mov (tm 38))]) .ret)))
def zzbQ : AFunc := ⟨39, [(2, none)], zzbQ_c, none⟩
theorem zzbQ_t0 : tableOf Try.prog 33 = some zzbQ := by kernel_rfl
theorem zzbQ_t : T0 33 = some zzbQ := withKept_t rfl (withTrue_t rfl zzbQ_t0)
abbrev fn_zhcQ : FuncId := 34
def zhcQ_l0 : ACode :=
 (.seq (.region [
 o1 10 (.bin .lss (so (.binOp .lss 3 (tm 9) (tm 8) 3) 0) (tm 9) (tm 8))]) (.seq (.cond (tm 10)
 .skip
 (.exit 0)) (.seq (.block 1 (.seq (.region [
 o1 11 (.indexSl 1 (tm 7) (tm 9)),
 o1 12 (.load none (tm 11)),
 o1 4 (.mov (tm 12))]) (.region [
 o1 13 (.mov (tm 2)),
 o1 14 (.mov (tm 4)),
 o1 15 (.nilCheck (tm 14)),
 o1 16 (.load (some 2) (tm 15)),
 o1 17 (.buildSlice 33 [(.int .i64 0), (.int .i64 0)] 1 [(0, 2, (tm 16))]),
 o1 18 (.append 33 2 16 [(.int .i64 0), (.int .i64 0)] false (tm 13) (tm 17)),
 o1 2 (.mov (tm 18))]))) (.region [
 o1 19 (.bin .add (so (.binOp .add 3 (tm 9) (.const (.int .i64 1)) 3) 3) (tm 9) (.const (.int .i64 1))),
 o1 9 (.mov (tm 19))]))))
def zhcQ_c : ACode :=
 (.seq (.region [
 o1 2 (.mov (.const (.slice none 0 0)))]) (.seq (.seq (.region [
 o1 5 (.mov (tm 0)),
 o1 6 (.callV (.func 43) [(tm 5)]),
 o1 7 (.callV (.func 42) [(tm 6), (.func 41)]),
 o1 8 (.lenSl (tm 7)),
 o1 9 (.mov k0)]) (.block 0 (.loop zhcQ_l0))) (.seq (.region [
 o1 20 (.mov (tm 2)),
 o1 2 (.mov (tm 20))]) .ret)))
def zhcQ : AFunc := ⟨21, [(2, none)], zhcQ_c, none⟩
theorem zhcQ_t0 : tableOf Try.prog 34 = some zhcQ := by kernel_rfl
theorem zhcQ_t : T0 34 = some zhcQ := withKept_t rfl (withTrue_t rfl zhcQ_t0)
theorem zhcQ_runs {v0 : Value} {h : Heap} {R : RP} {X : XP} (k : RunC Try.prog T0 zhcQ_c ⟨[v0, U, U, U, U, U, U, U, U, U, U, U, U, U, U, U, U, U, U, U, U], [], h, none⟩ (bodyQ Try.prog T0 [(2, none)] R X)) :
 Runs Try.prog T0 (.fn 34) [v0] h R X := Runs.fn zhcQ_t rfl k
abbrev zhcQ_l0_M : List Nat := [0, 0, 2, 0, 1, 0, 0, 0, 0, 2, 1, 1, 1, 1, 1, 1, 1, 1, 1, 1, 0]
abbrev fn_zdQ : FuncId := 35
def zdQ_c : ACode :=
 (.seq (.region [
 o1 4 (.mov (tm 0)),
 o1 5 (.mov (tm 1)),
 o1 6 (.invoke (tm 4) "Push" [(tm 5)])]) (.region [
 o1 7 (.mov (tm 0)),
 o1 8 (.mov (tm 0)),
 o1 9 (.invoke (tm 8) "Len" []),
 o1 10 (.bin .sub (so (.binOp .sub 3 (tm 9) (.const (.int .i64 1)) 3) 3) (tm 9) (.const (.int .i64 1))),
 o1 11 (.callV (.func 44) [(tm 7), (tm 10)])]))
def zdQ : AFunc := ⟨12, [], zdQ_c, none⟩
theorem zdQ_t0 : tableOf Try.prog 35 = some zdQ := by kernel_rfl
theorem zdQ_t : T0 35 = some zdQ := withKept_t rfl (withTrue_t rfl zdQ_t0)
theorem zdQ_runs {v0 v1 : Value} {h : Heap} {R : RP} {X : XP} (k : RunC Try.prog T0 zdQ_c ⟨[v0, v1, U, U, U, U, U, U, U, U, U, U], [], h, none⟩ (bodyQ Try.prog T0 [] R X)) :
 Runs Try.prog T0 (.fn 35) [v0, v1] h R X := Runs.fn zdQ_t rfl k
abbrev fn_zybQ : FuncId := 36
def zybQ_c : ACode :=
 (.seq (.region [
 o1 4 (.mov (.const (.pointer none)))]) (.seq (.regionD [
 o1 5 (.mov (tm 0)),
 o1 6 (.mov (tm 1)),
 o1 7 (.mov (tm 0)),
 o1 8 (.nilCheck (tm 7)),
 o1 9 (.fieldAddr 0 (tm 8)),
 o1 10 (.load none (tm 9)),
 o1 11 (.bin .rem (so (.binOp .rem 3 (tm 6) (tm 10) 3) 3) (tm 6) (tm 10)),
 o1 12 (.nilCheck (tm 5)),
 o1 13 (.fieldAddr 1 (tm 12)),
 o2 14 (.indexArr 256 1 (tm 13) (tm 11)),
 o2 4 (.mov (tm 14))]) .ret))
def zybQ : AFunc := ⟨15, [(4, none)], zybQ_c, none⟩
theorem zybQ_t0 : tableOf Try.prog 36 = some zybQ := by kernel_rfl
theorem zybQ_t : T0 36 = some zybQ := withKept_t rfl (withTrue_t rfl zybQ_t0)
theorem zybQ_runs {v0 v1 : Value} {h : Heap} {R : RP} {X : XP} (k : RunC Try.prog T0 zybQ_c ⟨[v0, v1, U, U, U, U, U, U, U, U, U, U, U, U, U], [], h, none⟩ (bodyQ Try.prog T0 [(4, none)] R X)) :
 Runs Try.prog T0 (.fn 36) [v0, v1] h R X := Runs.fn zybQ_t rfl k
abbrev fn_zeQ : FuncId := 37
def zeQ_c : ACode :=
 (.seq (.region [
 o1 4 (.mov (.const .nilIface))]) (.seq (.region [
 o1 6 (.mov (tm 0)),
 o1 7 (.invoke (tm 6) "Len" []),
 o1 8 (.bin .sub (so (.binOp .sub 3 (tm 7) (.const (.int .i64 1)) 3) 3) (tm 7) (.const (.int .i64 1))),
 o1 5 (.mov (tm 8))]) (.seq (.seq (.region [
 o1 9 (.mov (tm 5)),
 o1 10 (.mov (tm 1)),
 o1 11 (.bin .neq (so (.binOp .neq 3 (tm 9) (tm 10) 3) 4) (tm 9) (tm 10))]) (.cond (tm 11)
 (.seq (.region [
 o1 12 (.mov (tm 0)),
 o1 13 (.mov (tm 1)),
 o1 14 (.mov (tm 5)),
 o1 15 (.invoke (tm 12) "Swap" [(tm 13), (tm 14)])]) (.seq (.region [
 o1 16 (.mov (tm 0)),
 o1 17 (.mov (tm 1)),
 o1 18 (.mov (tm 5)),
 o1 19 (.callV (.func 45) [(tm 16), (tm 17), (tm 18)]),
 o1 20 (.raw (so (.unOp .not 4 (tm 19)) 4))]) (.cond (tm 20)
 (.region [
 o1 21 (.mov (tm 0)),
 o1 22 (.mov (tm 1)),
 o1 23 (.callV (.func 44) [(tm 21), (tm 22)])])
 .skip)))
 .skip)) (.seq (.region [
 o1 24 (.mov (tm 0)),
 o1 25 (.invoke (tm 24) "Pop" []),
 o1 4 (.mov (tm 25))]) .ret))))
def zeQ : AFunc := ⟨26, [(4, none)], zeQ_c, none⟩
theorem zeQ_t0 : tableOf Try.prog 37 = some zeQ := by kernel_rfl
theorem zeQ_t : T0 37 = some zeQ := withKept_t rfl (withTrue_t rfl zeQ_t0)
abbrev fn_zvQ : FuncId := 38
def zvQ_l0 : ACode :=
 (.seq (.region [
 o1 9 (.bin .lss (so (.binOp .lss 3 (tm 8) (tm 7) 3) 0) (tm 8) (tm 7))]) (.seq (.cond (tm 9)
 .skip
 (.exit 0)) (.seq (.block 1 (.seq (.region [
 o1 10 (.mov (tm 8)),
 o1 5 (.mov (tm 10))]) (.seq (.region [
 o1 11 (.mov (tm 1)),
 o1 12 (.mov (tm 0)),
 o1 13 (.mov (tm 5)),
 o1 14 (.indexSl 1 (tm 12) (tm 13)),
 o1 15 (.load none (tm 14)),
 o1 16 (.eq .ptr false (so (.binOp .eql 66 (tm 11) (tm 15) 66) 4) (tm 11) (tm 15))]) (.cond (tm 16)
 (.seq (.region [
 o1 17 (.mov (tm 5)),
 o1 4 (.mov (tm 17))]) .ret)
 .skip)))) (.region [
 o1 18 (.bin .add (so (.binOp .add 3 (tm 8) (.const (.int .i64 1)) 3) 3) (tm 8) (.const (.int .i64 1))),
 o1 8 (.mov (tm 18))]))))
def zvQ_c : ACode :=
 (.seq (.region [
 o1 4 (.mov k0)]) (.seq (.seq (.region [
 o1 6 (.mov (tm 0)),
 o1 7 (.lenSl (tm 6)),
 o1 8 (.mov k0)]) (.block 0 (.loop zvQ_l0))) (.seq (.region [
 o1 4 (.mov (.const (.int .i64 (-1))))]) .ret)))
def zvQ : AFunc := ⟨19, [(4, none)], zvQ_c, none⟩
theorem zvQ_t0 : tableOf Try.prog 38 = some zvQ := by kernel_rfl
theorem zvQ_t : T0 38 = some zvQ := withKept_t rfl (withTrue_t rfl zvQ_t0)
abbrev fn_zccQ : FuncId := 40
def zccQ_c : ACode :=
 (.seq (.region [
 o1 2 (.mov k0)]) (.seq (.region [
 o1 3 (.mov (tm 0)),
 o1 4 (.lenSl (tm 3)),
 o1 2 (.mov (tm 4))]) .ret))
def zccQ : AFunc := ⟨5, [(2, none)], zccQ_c, none⟩
theorem zccQ_t0 : tableOf Try.prog 40 = some zccQ := by kernel_rfl
theorem zccQ_t : T0 40 = some zccQ := withKept_t rfl (withTrue_t rfl zccQ_t0)
theorem zccQ_runs {v0 : Value} {h : Heap} {R : RP} {X : XP} (k : RunC Try.prog T0 zccQ_c ⟨[v0, U, U, U, U], [], h, none⟩ (bodyQ Try.prog T0 [(2, none)] R X)) :
 Runs Try.prog T0 (.fn 40) [v0] h R X := Runs.fn zccQ_t rfl k
abbrev fn_zbcQ : FuncId := 41
def zbcQ_c : ACode :=
 (.seq (.region [
 o1 4 (.mov k0)]) (.seq (.regionD [
 o1 5 (.mov (tm 0)),
 o1 6 (.nilCheck (tm 5)),
 o1 7 (.fieldAddr 1 (tm 6)),
 o1 8 (.load none (tm 7)),
 o1 9 (.mov (tm 1)),
 o1 10 (.nilCheck (tm 9)),
 o1 11 (.fieldAddr 1 (tm 10)),
 o1 12 (.load none (tm 11)),
 o1 14 (.mov (tm 0)),
 o1 15 (.nilCheck (tm 14)),
 o1 16 (.fieldAddr 0 (tm 15)),
 o1 17 (.load none (tm 16)),
 o1 18 (.mov (tm 1)),
 o1 19 (.nilCheck (tm 18)),
 o1 20 (.fieldAddr 0 (tm 19)),
 o1 21 (.load none (tm 20)),
 ⟨some 13, .callV (.func 47) [(tm 8), (tm 12)], none, [(some 21, .load none (tm 20), none), (some 20, .fieldAddr 0 (tm 19), none), (some 19, .nilCheck (tm 18), none), (some 18, .mov (tm 1), none), (some 17, .load none (tm 16), none), (some 16, .fieldAddr 0 (tm 15), none), (some 15, .nilCheck (tm 14), none), (some 14, .mov (tm 0), none)], false⟩,
 o2 22 (.callV (.func 47) [(tm 17), (tm 21)]),
 o2 23 (.buildSlice 3 [(.int .i64 0), (.int .i64 0)] 2 [(0, 1, (tm 13)), (1, 1, (tm 22))]),
 o2 24 (.callV (.func 46) [(tm 23)]),
 o2 4 (.mov (tm 24))]) .ret))
def zbcQ : AFunc := ⟨25, [(4, none)], zbcQ_c, none⟩
theorem zbcQ_t0 : tableOf Try.prog 41 = some zbcQ := by kernel_rfl
theorem zbcQ_t : T0 41 = some zbcQ := withKept_t rfl (withTrue_t rfl zbcQ_t0)
theorem zbcQ_runs {v0 v1 : Value} {h : Heap} {R : RP} {X : XP} (k : RunC Try.prog T0 zbcQ_c ⟨[v0, v1, U, U, U, U, U, U, U, U, U, U, U, U, U, U, U, U, U, U, U, U, U, U, U], [], h, none⟩ (bodyQ Try.prog T0 [(4, none)] R X)) :
 Runs Try.prog T0 (.fn 41) [v0, v1] h R X := Runs.fn zbcQ_t rfl k
abbrev fn_zxQ : FuncId := 42
def zxQ_c : ACode :=
 (.seq (.region [
 o1 4 (.mov (.const (.slice none 0 0)))]) (.seq (.region [
 o1 6 (.mov (tm 0)),
 o1 7 (.callV (.func 48) [(tm 6)]),
 o1 5 (.mov (tm 7))]) (.seq (.region [
 o1 8 (.mov (tm 5)),
 o1 9 (.mov (tm 1)),
 o1 10 (.callV (.func 49) [(tm 8), (tm 9)])]) (.seq (.region [
 o1 11 (.mov (tm 5)),
 o1 4 (.mov (tm 11))]) .ret))))
def zxQ : AFunc := ⟨12, [(4, none)], zxQ_c, none⟩
theorem zxQ_t0 : tableOf Try.prog 42 = some zxQ := by kernel_rfl
theorem zxQ_t : T0 42 = some zxQ := withKept_t rfl (withTrue_t rfl zxQ_t0)
theorem zxQ_runs {v0 v1 : Value} {h : Heap} {R : RP} {X : XP} (k : RunC Try.prog T0 zxQ_c ⟨[v0, v1, U, U, U, U, U, U, U, U, U, U], [], h, none⟩ (bodyQ Try.prog T0 [(4, none)] R X)) :
 Runs Try.prog T0 (.fn 42) [v0, v1] h R X := Runs.fn zxQ_t rfl k
abbrev fn_zyQ : FuncId := 43
def zyQ_c : ACode :=
 (.seq (.region [
 o1 1 (.box 57 (tm 0)),
 o1 2 (.mov (.const .nilFunc))]) (.seq (.region [
 o1 3 (.mkFunc (.func 50) [] [(tm 1)]),
 o1 2 (.mov (tm 3))]) .ret))
def zyQ : AFunc := ⟨4, [(2, none)], zyQ_c, none⟩
theorem zyQ_t0 : tableOf Try.prog 43 = some zyQ := by kernel_rfl
theorem zyQ_t : T0 43 = some zyQ := withKept_t rfl (withTrue_t rfl zyQ_t0)
theorem zyQ_runs {v0 : Value} {h : Heap} {R : RP} {X : XP} (k : RunC Try.prog T0 zyQ_c ⟨[v0, U, U, U], [], h, none⟩ (bodyQ Try.prog T0 [(2, none)] R X)) :
 Runs Try.prog T0 (.fn 43) [v0] h R X := Runs.fn zyQ_t rfl k
abbrev fn_zgQ : FuncId := 44
def zgQ_l0 : ACode :=
 (.block 1 (.seq (.region [
 o1 5 (.mov (tm 1)),
 o1 6 (.bin .sub (so (.binOp .sub 3 (tm 5) (.const (.int .i64 1)) 3) 3) (tm 5) (.const (.int .i64 1))),
 o1 7 (.bin .quo (so (.binOp .quo 3 (tm 6) (.const (.int .i64 2)) 3) 3) (tm 6) (.const (.int .i64 2))),
 o1 4 (.mov (tm 7))]) (.seq (.seq (.region [
 o1 8 (.mov (tm 4)),
 o1 9 (.mov (tm 1)),
 o1 10 (.bin .eql (so (.binOp .eql 3 (tm 8) (tm 9) 3) 4) (tm 8) (tm 9)),
 o1 11 (.mov (tm 10)),
 o5 12 (.mov (tm 0)) 11,
 o5 13 (.mov (tm 1)) 11,
 o5 14 (.mov (tm 4)) 11,
 o5 15 (.invoke (tm 12) "Less" [(tm 13), (tm 14)]) 11,
 o5 16 (.raw (so (.unOp .not 4 (tm 15)) 4)) 11,
 o1 17 (.pick (tm 11) (.const (.bool true)) (tm 16))]) (.cond (tm 17)
 (.exit 0)
 .skip)) (.seq (.region [
 o1 18 (.mov (tm 0)),
 o1 19 (.mov (tm 4)),
 o1 20 (.mov (tm 1)),
 o1 21 (.invoke (tm 18) "Swap" [(tm 19), (tm 20)])]) (.region [
 o1 22 (.mov (tm 4)),
 o1 1 (.mov (tm 22))])))))
def zgQ_c : ACode :=
 (.block 0 (.loop zgQ_l0))
def zgQ : AFunc := ⟨23, [], zgQ_c, none⟩
theorem zgQ_t0 : tableOf Try.prog 44 = some zgQ := by kernel_rfl
theorem zgQ_t : T0 44 = some zgQ := withKept_t rfl (withTrue_t rfl zgQ_t0)
theorem zgQ_runs {v0 v1 : Value} {h : Heap} {R : RP} {X : XP} (k : RunC Try.prog T0 zgQ_c ⟨[v0, v1, U, U, U, U, U, U, U, U, U, U, U, U, U, U, U, U, U, U, U, U, U], [], h, none⟩ (bodyQ Try.prog T0 [] R X)) :
 Runs Try.prog T0 (.fn 44) [v0, v1] h R X := Runs.fn zgQ_t rfl k
abbrev zgQ_l0_M : List Nat := [0, 2, 0, 0, 1, 1, 1, 1, 1, 1, 1, 1, 1, 1, 1, 1, 1, 1, 1, 1, 1, 1, 1]
abbrev fn_zfQ : FuncId := 45
def zfQ_l0 : ACode :=
 (.block 1 (.seq (.region [
 o1 12 (.mov (tm 7)),
 o1 13 (.bin .mul (so (.binOp .mul 3 (.const (.int .i64 2)) (tm 12) 3) 3) (.const (.int .i64 2)) (tm 12)),
 o1 14 (.bin .add (so (.binOp .add 3 (tm 13) (.const (.int .i64 1)) 3) 3) (tm 13) (.const (.int .i64 1))),
 o1 8 (.mov (tm 14))]) (.seq (.seq (.region [
 o1 15 (.mov (tm 8)),
 o1 16 (.mov (tm 2)),
 o1 17 (.bin .geq (so (.binOp .geq 3 (tm 15) (tm 16) 3) 4) (tm 15) (tm 16)),
 o1 18 (.mov (tm 17)),
 o5 19 (.mov (tm 8)) 18,
 o5 20 (.bin .lss (so (.binOp .lss 3 (tm 19) k0 3) 4) (tm 19) k0) 18,
 o1 21 (.pick (tm 18) (.const (.bool true)) (tm 20))]) (.cond (tm 21)
 (.exit 0)
 .skip)) (.seq (.region [
 o1 22 (.mov (tm 8)),
 o1 9 (.mov (tm 22))]) (.seq (.seq (.region [
 o1 23 (.mov (tm 8)),
 o1 24 (.bin .add (so (.binOp .add 3 (tm 23) (.const (.int .i64 1)) 3) 3) (tm 23) (.const (.int .i64 1))),
 o1 10 (.mov (tm 24))]) (.seq (.region [
 o1 25 (.mov (tm 10)),
 o1 26 (.mov (tm 2)),
 o1 27 (.bin .lss (so (.binOp .lss 3 (tm 25) (tm 26) 3) 4) (tm 25) (tm 26)),
 o1 28 (.mov (tm 27)),
 o4 29 (.mov (tm 0)) 28,
 o4 30 (.mov (tm 10)) 28,
 o4 31 (.mov (tm 8)) 28,
 o4 32 (.invoke (tm 29) "Less" [(tm 30), (tm 31)]) 28,
 o1 33 (.pick (tm 28) (tm 32) (.const (.bool false)))]) (.cond (tm 33)
 (.region [
 o1 34 (.mov (tm 10)),
 o1 9 (.mov (tm 34))])
 .skip))) (.seq (.seq (.region [
 o1 35 (.mov (tm 0)),
 o1 36 (.mov (tm 9)),
 o1 37 (.mov (tm 7)),
 o1 38 (.invoke (tm 35) "Less" [(tm 36), (tm 37)]),
 o1 39 (.raw (so (.unOp .not 4 (tm 38)) 4))]) (.cond (tm 39)
 (.exit 0)
 .skip)) (.seq (.region [
 o1 40 (.mov (tm 0)),
 o1 41 (.mov (tm 7)),
 o1 42 (.mov (tm 9)),
 o1 43 (.invoke (tm 40) "Swap" [(tm 41), (tm 42)])]) (.region [
 o1 44 (.mov (tm 9)),
 o1 7 (.mov (tm 44))]))))))))
def zfQ_c : ACode :=
 (.seq (.region [
 o1 6 (.mov (.const (.bool false)))]) (.seq (.region [
 o1 11 (.mov (tm 1)),
 o1 7 (.mov (tm 11))]) (.seq (.block 0 (.loop zfQ_l0)) (.seq (.region [
 o1 45 (.mov (tm 7)),
 o1 46 (.mov (tm 1)),
 o1 47 (.bin .gtr (so (.binOp .gtr 3 (tm 45) (tm 46) 3) 4) (tm 45) (tm 46)),
 o1 6 (.mov (tm 47))]) .ret))))
def zfQ : AFunc := ⟨48, [(6, none)], zfQ_c, none⟩
theorem zfQ_t0 : tableOf Try.prog 45 = some zfQ := by kernel_rfl
theorem zfQ_t : T0 45 = some zfQ := withKept_t rfl (withTrue_t rfl zfQ_t0)
abbrev fn_zbQ : FuncId := 46
def zbQ_l0 : ACode :=
 (.seq (.region [
 o1 9 (.bin .lss (so (.binOp .lss 3 (tm 8) (tm 7) 3) 0) (tm 8) (tm 7))]) (.seq (.cond (tm 9)
 .skip
 (.exit 0)) (.seq (.block 1 (.seq (.region [
 o1 10 (.indexSl 1 (tm 6) (tm 8)),
 o1 11 (.load none (tm 10)),
 o1 5 (.mov (tm 11))]) (.seq (.region [
 o1 12 (.mov (tm 5)),
 o1 13 (.mov (tm 3)),
 o1 14 (.bin .neq (so (.binOp .neq 3 (tm 12) (tm 13) 3) 4) (tm 12) (tm 13))]) (.cond (tm 14)
 (.seq (.region [
 o1 15 (.mov (tm 5)),
 o1 2 (.mov (tm 15))]) .ret)
 .skip)))) (.region [
 o1 16 (.bin .add (so (.binOp .add 3 (tm 8) (.const (.int .i64 1)) 3) 3) (tm 8) (.const (.int .i64 1))),
 o1 8 (.mov (tm 16))]))))
def zbQ_c : ACode :=
 (.seq (.region [
 o1 2 (.mov k0)]) (.seq (.region [
 o1 3 (.mov k0)]) (.seq (.seq (.region [
 o1 6 (.mov (tm 0)),
 o1 7 (.lenSl (tm 6)),
 o1 8 (.mov k0)]) (.block 0 (.loop zbQ_l0))) (.seq (.region [
 o1 17 (.mov (tm 3)),
 o1 2 (.mov (tm 17))]) .ret))))
def zbQ : AFunc := ⟨18, [(2, none)], zbQ_c, none⟩
theorem zbQ_t0 : tableOf Try.prog 46 = some zbQ := by kernel_rfl
theorem zbQ_t : T0 46 = some zbQ := withKept_t rfl (withTrue_t rfl zbQ_t0)
theorem zbQ_runs {v0 : Value} {h : Heap} {R : RP} {X : XP} (k : RunC Try.prog T0 zbQ_c ⟨[v0, U, U, U, U, U, U, U, U, U, U, U, U, U, U, U, U, U], [], h, none⟩ (bodyQ Try.prog T0 [(2, none)] R X)) :
 Runs Try.prog T0 (.fn 46) [v0] h R X := Runs.fn zbQ_t rfl k
abbrev zbQ_l0_M : List Nat := [0, 0, 1, 0, 0, 1, 0, 0, 2, 1, 1, 1, 1, 1, 1, 1, 1, 0]
abbrev fn_zaQ : FuncId := 47
def zaQ_c : ACode :=
 (.seq (.region [
 o1 4 (.mov k0)]) (.seq (.region [
 o1 7 (.mov (tm 0)),
 o1 8 (.callV (.func 51) [(tm 7)]),
 o1 5 (.mov (tm 8))]) (.seq (.region [
 o1 9 (.mov (tm 1)),
 o1 10 (.callV (.func 51) [(tm 9)]),
 o1 6 (.mov (tm 10))]) (.seq (.seq (.region [
 o1 11 (.mov (tm 5))]) (.cond (tm 11)
 (.seq (.seq (.region [
 o1 12 (.mov (tm 6))]) (.cond (tm 12)
 (.seq (.region [
 o1 4 (.mov k0)]) .ret)
 .skip)) (.seq (.region [
 o1 4 (.mov (.const (.int .i64 (-1))))]) .ret))
 .skip)) (.seq (.seq (.region [
 o1 13 (.mov (tm 6))]) (.cond (tm 13)
 (.seq (.region [
 o1 4 (.mov (.const (.int .i64 1)))]) .ret)
 .skip)) (.seq (.seq (.region [
 o1 14 (.mov (tm 0)),
 o1 15 (.mov (tm 1)),
 o1 16 (.bin .lss (so (.binOp .lss 3 (tm 14) (tm 15) 3) 4) (tm 14) (tm 15))]) (.cond (tm 16)
 (.seq (.region [
 o1 4 (.mov (.const (.int .i64 (-1))))]) .ret)
 .skip)) (.seq (.seq (.region [
 o1 17 (.mov (tm 0)),
 o1 18 (.mov (tm 1)),
 o1 19 (.bin .gtr (so (.binOp .gtr 3 (tm 17) (tm 18) 3) 4) (tm 17) (tm 18))]) (.cond (tm 19)
 (.seq (.region [
 o1 4 (.mov (.const (.int .i64 1)))]) .ret)
 .skip)) (.seq (.region [
 o1 4 (.mov k0)]) .ret))))))))
def zaQ : AFunc := ⟨20, [(4, none)], zaQ_c, none⟩
theorem zaQ_t0 : tableOf Try.prog 47 = some zaQ := by kernel_rfl
theorem zaQ_t : T0 47 = some zaQ := withKept_t rfl (withTrue_t rfl zaQ_t0)
theorem zaQ_runs {v0 v1 : Value} {h : Heap} {R : RP} {X : XP} (k : RunC Try.prog T0 zaQ_c ⟨[v0, v1, U, U, U, U, U, U, U, U, U, U, U, U, U, U, U, U, U, U], [], h, none⟩ (bodyQ Try.prog T0 [(4, none)] R X)) :
 Runs Try.prog T0 (.fn 47) [v0, v1] h R X := Runs.fn zaQ_t rfl k
abbrev fn_zuQ : FuncId := 48
def zuQ_c : ACode :=
 (.seq (.region [
 o1 2 (.mov (.const (.slice none 0 0)))]) (.seq (.region [
 o1 3 (.mov (tm 0)),
 o1 4 (.callV (.func 52) [(.const (.slice none 0 0)), (tm 3)]),
 o1 2 (.mov (tm 4))]) .ret))
def zuQ : AFunc := ⟨5, [(2, none)], zuQ_c, none⟩
theorem zuQ_t0 : tableOf Try.prog 48 = some zuQ := by kernel_rfl
theorem zuQ_t : T0 48 = some zuQ := withKept_t rfl (withTrue_t rfl zuQ_t0)
theorem zuQ_runs {v0 : Value} {h : Heap} {R : RP} {X : XP} (k : RunC Try.prog T0 zuQ_c ⟨[v0, U, U, U, U], [], h, none⟩ (bodyQ Try.prog T0 [(2, none)] R X)) :
 Runs Try.prog T0 (.fn 48) [v0] h R X := Runs.fn zuQ_t rfl k
abbrev fn_zwQ : FuncId := 49
def zwQ_c : ACode :=
 (.seq (.region [
 o1 5 (.mov (tm 0)),
 o1 6 (.lenSl (tm 5)),
 o1 4 (.mov (tm 6))]) (.region [
 o1 7 (.mov (tm 0)),
 o1 8 (.mov (tm 4)),
 o1 9 (.mov (tm 4)),
 o1 10 (.conv .u64 (so (.convert 3 95 (tm 9)) 95) (tm 9)),
 o1 11 (.callV (.func 54) [(tm 10)]),
 o1 12 (.mov (tm 1)),
 o1 13 (.callV (.func 53) [(tm 7), k0, (tm 8), (tm 11), (tm 12)])]))
def zwQ : AFunc := ⟨14, [], zwQ_c, none⟩
theorem zwQ_t0 : tableOf Try.prog 49 = some zwQ := by kernel_rfl
theorem zwQ_t : T0 49 = some zwQ := withKept_t rfl (withTrue_t rfl zwQ_t0)
theorem zwQ_runs {v0 v1 : Value} {h : Heap} {R : RP} {X : XP} (k : RunC Try.prog T0 zwQ_c ⟨[v0, v1, U, U, U, U, U, U, U, U, U, U, U, U], [], h, none⟩ (bodyQ Try.prog T0 [] R X)) :
 Runs Try.prog T0 (.fn 49) [v0, v1] h R X := Runs.fn zwQ_t rfl k
abbrev fn_zzQ : FuncId := 50
def zzQ_l0 : ACode :=
 (.seq (.region [
 o1 8 (.bin .lss (so (.binOp .lss 3 (tm 7) (tm 6) 3) 0) (tm 7) (tm 6))]) (.seq (.cond (tm 8)
 .skip
 (.exit 0)) (.seq (.block 1 (.seq (.region [
 o1 9 (.indexSl 1 (tm 5) (tm 7)),
 o1 10 (.load none (tm 9)),
 o1 4 (.mov (tm 10))]) (.seq (.region [
 o1 11 (.mov (tm 0)),
 o1 12 (.mov (tm 4)),
 o1 13 (.callV (tm 11) [(tm 12)]),
 o1 14 (.raw (so (.unOp .not 4 (tm 13)) 4))]) (.cond (tm 14)
 .ret
 .skip)))) (.region [
 o1 15 (.bin .add (so (.binOp .add 3 (tm 7) (.const (.int .i64 1)) 3) 3) (tm 7) (.const (.int .i64 1))),
 o1 7 (.mov (tm 15))]))))
def zzQ_c : ACode :=
 (.seq (.region [
 o1 5 (.load none (tm 1)),
 o1 6 (.lenSl (tm 5)),
 o1 7 (.mov k0)]) (.block 0 (.loop zzQ_l0)))
def zzQ : AFunc := ⟨16, [], zzQ_c, none⟩
theorem zzQ_t0 : tableOf Try.prog 50 = some zzQ := by kernel_rfl
theorem zzQ_t : T0 50 = some zzQ := withKept_t rfl (withTrue_t rfl zzQ_t0)
theorem zzQ_runs {v0 v1 : Value} {h : Heap} {R : RP} {X : XP} (k : RunC Try.prog T0 zzQ_c ⟨[v0, v1, U, U, U, U, U, U, U, U, U, U, U, U, U, U], [], h, none⟩ (bodyQ Try.prog T0 [] R X)) :
 Runs Try.prog T0 (.fn 50) [v0, v1] h R X := Runs.fn zzQ_t rfl k
abbrev zzQ_l0_M : List Nat := [0, 0, 0, 0, 1, 0, 0, 2, 1, 1, 1, 1, 1, 1, 1, 1]
abbrev fn_zcQ : FuncId := 51
def zcQ_c : ACode :=
 (.seq (.region [
 o1 2 (.mov (.const (.bool false)))]) (.seq (.region [
 o1 3 (.mov (tm 0)),
 o1 4 (.mov (tm 0)),
 o1 5 (.bin .neq (so (.binOp .neq 3 (tm 3) (tm 4) 3) 4) (tm 3) (tm 4)),
 o1 2 (.mov (tm 5))]) .ret))
def zcQ : AFunc := ⟨6, [(2, none)], zcQ_c, none⟩
theorem zcQ_t0 : tableOf Try.prog 51 = some zcQ := by kernel_rfl
theorem zcQ_t : T0 51 = some zcQ := withKept_t rfl (withTrue_t rfl zcQ_t0)
theorem zcQ_runs {v0 : Value} {h : Heap} {R : RP} {X : XP} (k : RunC Try.prog T0 zcQ_c ⟨[v0, U, U, U, U, U], [], h, none⟩ (bodyQ Try.prog T0 [(2, none)] R X)) :
 Runs Try.prog T0 (.fn 51) [v0] h R X := Runs.fn zcQ_t rfl k
abbrev fn_ztQ : FuncId := 52
def ztQ_ra0 : Code := (rangeParts (subCode ((Try.prog.funcs[52]?).bind (·.body)) [true, false, true, false])).1
def ztQ_rb0 : Code := (rangeParts (subCode ((Try.prog.funcs[52]?).bind (·.body)) [true, false, true, false])).2
def ztQ_a0 : ACode :=
 (.region [
 o1 5 (.mov (tm 7))])
def ztQ_b0 : ACode :=
 (.block 1 (.region [
 o1 8 (.load none (tm 2)),
 o1 9 (.mov (tm 5)),
 o1 10 (.buildSlice 66 [(.pointer none)] 1 [(0, 1, (tm 9))]),
 o1 11 (.append 66 1 8 [(.pointer none)] false (tm 8) (tm 10)),
 o3 (.store 1 (tm 2) (tm 11))]))
theorem ztQ_ca0 : comp Try.prog ztQ_ra0 = some ztQ_a0 := by kernel_rfl
theorem ztQ_cb0 : comp Try.prog ztQ_rb0 = some ztQ_b0 := by kernel_rfl
theorem ztQ_na0 : noDefer ztQ_ra0 = true := by kernel_rfl
theorem ztQ_nb0 : noDefer ztQ_rb0 = true := by kernel_rfl
def ztQ_c : ACode :=
 (.seq (.region [
 o1 2 (.box 57 (tm 0)),
 o1 4 (.mov (.const (.slice none 0 0)))]) (.seq (.seq (.region [
 o1 6 (.mov (tm 1))]) (.block 0 (.rangeFunc (tm 6) [7] ztQ_ra0 ztQ_rb0))) (.seq (.region [
 o1 12 (.load none (tm 2)),
 o1 4 (.mov (tm 12))]) .ret)))
def ztQ : AFunc := ⟨13, [(4, none)], ztQ_c, none⟩
theorem ztQ_t0 : tableOf Try.prog 52 = some ztQ := by kernel_rfl
theorem ztQ_t : T0 52 = some ztQ := withKept_t rfl (withTrue_t rfl ztQ_t0)
theorem ztQ_runs {v0 v1 : Value} {h : Heap} {R : RP} {X : XP} (k : RunC Try.prog T0 ztQ_c ⟨[v0, v1, U, U, U, U, U, U, U, U, U, U, U], [], h, none⟩ (bodyQ Try.prog T0 [(4, none)] R X)) :
 Runs Try.prog T0 (.fn 52) [v0, v1] h R X := Runs.fn ztQ_t rfl k
abbrev fn_zlbQ : FuncId := 53
def zlbQ_l0 : ACode :=
 (.block 1 (.seq (.region [
 o1 21 (.mov (tm 2)),
 o1 22 (.mov (tm 1)),
 o1 23 (.bin .sub (so (.binOp .sub 3 (tm 21) (tm 22) 3) 3) (tm 21) (tm 22)),
 o1 12 (.mov (tm 23))]) (.seq (.seq (.region [
 o1 24 (.mov (tm 12)),
 o1 25 (.bin .leq (so (.binOp .leq 3 (tm 24) (.const (.int .i64 12)) 3) 4) (tm 24) (.const (.int .i64 12)))]) (.cond (tm 25)
 (.seq (.region [
 o1 26 (.mov (tm 0)),
 o1 27 (.mov (tm 1)),
 o1 28 (.mov (tm 2)),
 o1 29 (.mov (tm 4)),
 o1 30 (.callV (.func 55) [(tm 26), (tm 27), (tm 28), (tm 29)])]) .ret)
 .skip)) (.seq (.seq (.region [
 o1 31 (.mov (tm 3)),
 o1 32 (.bin .eql (so (.binOp .eql 3 (tm 31) k0 3) 4) (tm 31) k0)]) (.cond (tm 32)
 (.seq (.region [
 o1 33 (.mov (tm 0)),
 o1 34 (.mov (tm 1)),
 o1 35 (.mov (tm 2)),
 o1 36 (.mov (tm 4)),
 o1 37 (.callV (.func 56) [(tm 33), (tm 34), (tm 35), (tm 36)])]) .ret)
 .skip)) (.seq (.seq (.region [
 o1 38 (.mov (tm 10)),
 o1 39 (.raw (so (.unOp .not 4 (tm 38)) 4))]) (.cond (tm 39)
 (.seq (.region [
 o1 40 (.mov (tm 0)),
 o1 41 (.mov (tm 1)),
 o1 42 (.mov (tm 2)),
 o1 43 (.mov (tm 4)),
 o1 44 (.callV (.func 57) [(tm 40), (tm 41), (tm 42), (tm 43)])]) (.region [
 o1 45 (.mov (tm 3)),
 o1 46 (.bin .sub (so (.binOp .sub 3 (tm 45) (.const (.int .i64 1)) 3) 3) (tm 45) (.const (.int .i64 1))),
 o1 3 (.mov (tm 46))]))
 .skip)) (.seq (.region [
 o1 48 (.mov (tm 0)),
 o1 49 (.mov (tm 1)),
 o1 50 (.mov (tm 2)),
 o1 51 (.mov (tm 4)),
 o1 52 (.callV (.func 58) [(tm 48), (tm 49), (tm 50), (tm 51)]),
 o1 47 (.mov (tm 52)),
 o1 53 (.extract 0 (tm 47)),
 o1 54 (.extract 1 (tm 47)),
 o1 13 (.mov (tm 53)),
 o1 14 (.mov (tm 54))]) (.seq (.seq (.region [
 o1 55 (.mov (tm 14)),
 o1 56 (.bin .eql (so (.binOp .eql 97 (tm 55) (.const (.int .i64 2)) 97) 4) (tm 55) (.const (.int .i64 2)))]) (.cond (tm 56)
 (.seq (.region [
 o1 57 (.mov (tm 0)),
 o1 58 (.mov (tm 1)),
 o1 59 (.mov (tm 2)),
 o1 60 (.mov (tm 4)),
 o1 61 (.callV (.func 59) [(tm 57), (tm 58), (tm 59), (tm 60)])]) (.seq (.region [
 o1 62 (.mov (tm 2)),
 o1 63 (.bin .sub (so (.binOp .sub 3 (tm 62) (.const (.int .i64 1)) 3) 3) (tm 62) (.const (.int .i64 1))),
 o1 64 (.mov (tm 13)),
 o1 65 (.mov (tm 1)),
 o1 66 (.bin .sub (so (.binOp .sub 3 (tm 64) (tm 65) 3) 3) (tm 64) (tm 65)),
 o1 67 (.bin .sub (so (.binOp .sub 3 (tm 63) (tm 66) 3) 3) (tm 63) (tm 66)),
 o1 13 (.mov (tm 67))]) (.region [
 o1 14 (.mov (.const (.int .i64 1)))])))
 .skip)) (.seq (.seq (.region [
 o1 68 (.mov (tm 10)),
 o1 69 (.mov (tm 68)),
 o4 70 (.mov (tm 11)) 69,
 o1 71 (.pick (tm 69) (tm 70) (.const (.bool false))),
 o1 72 (.mov (tm 71)),
 o4 73 (.mov (tm 14)) 72,
 o4 74 (.bin .eql (so (.binOp .eql 97 (tm 73) (.const (.int .i64 1)) 97) 4) (tm 73) (.const (.int .i64 1))) 72,
 o1 75 (.pick (tm 72) (tm 74) (.const (.bool false)))]) (.cond (tm 75)
 (.seq (.region [
 o1 76 (.mov (tm 0)),
 o1 77 (.mov (tm 1)),
 o1 78 (.mov (tm 2)),
 o1 79 (.mov (tm 4)),
 o1 80 (.callV (.func 60) [(tm 76), (tm 77), (tm 78), (tm 79)])]) (.cond (tm 80)
 .ret
 .skip))
 .skip)) (.seq (.seq (.regionD [
 o2 81 (.mov (tm 1)),
 o2 82 (.bin .gtr (so (.binOp .gtr 3 (tm 81) k0 3) 4) (tm 81) k0),
 o2 83 (.mov (tm 82)),
 o4 84 (.mov (tm 4)) 83,
 o4 85 (.mov (tm 0)) 83,
 o4 86 (.mov (tm 1)) 83,
 o4 87 (.bin .sub (so (.binOp .sub 3 (tm 86) (.const (.int .i64 1)) 3) 3) (tm 86) (.const (.int .i64 1))) 83,
 o4 88 (.indexSl 1 (tm 85) (tm 87)) 83,
 o4 89 (.load none (tm 88)) 83,
 o4 90 (.mov (tm 0)) 83,
 o4 91 (.mov (tm 13)) 83,
 o4 92 (.indexSl 1 (tm 90) (tm 91)) 83,
 o4 93 (.load none (tm 92)) 83,
 ⟨some 94, .callV (tm 84) [(tm 89), (tm 93)], some (83, true), [], true⟩,
 ⟨some 95, .bin .lss (so (.binOp .lss 3 (tm 94) k0 3) 4) (tm 94) k0, some (83, true), [], true⟩,
 ⟨some 96, .raw (so (.unOp .not 4 (tm 95)) 4), some (83, true), [], true⟩,
 o2 97 (.pick (tm 83) (tm 96) (.const (.bool false)))]) (.cond (tm 97)
 (.seq (.region [
 o1 98 (.mov (tm 0)),
 o1 99 (.mov (tm 1)),
 o1 100 (.mov (tm 2)),
 o1 101 (.mov (tm 13)),
 o1 102 (.mov (tm 4)),
 o1 103 (.callV (.func 61) [(tm 98), (tm 99), (tm 100), (tm 101), (tm 102)]),
 o1 15 (.mov (tm 103))]) (.seq (.region [
 o1 104 (.mov (tm 15)),
 o1 1 (.mov (tm 104))]) (.exit 1)))
 .skip)) (.seq (.region [
 o1 106 (.mov (tm 0)),
 o1 107 (.mov (tm 1)),
 o1 108 (.mov (tm 2)),
 o1 109 (.mov (tm 13)),
 o1 110 (.mov (tm 4)),
 o1 111 (.callV (.func 62) [(tm 106), (tm 107), (tm 108), (tm 109), (tm 110)]),
 o1 105 (.mov (tm 111)),
 o1 112 (.extract 0 (tm 105)),
 o1 113 (.extract 1 (tm 105)),
 o1 16 (.mov (tm 112)),
 o1 17 (.mov (tm 113))]) (.seq (.region [
 o1 114 (.mov (tm 17)),
 o1 11 (.mov (tm 114))]) (.seq (.region [
 o1 115 (.mov (tm 16)),
 o1 116 (.mov (tm 1)),
 o1 117 (.bin .sub (so (.binOp .sub 3 (tm 115) (tm 116) 3) 3) (tm 115) (tm 116)),
 o1 118 (.mov (tm 2)),
 o1 119 (.mov (tm 16)),
 o1 120 (.bin .sub (so (.binOp .sub 3 (tm 118) (tm 119) 3) 3) (tm 118) (tm 119)),
 o1 18 (.mov (tm 117)),
 o1 19 (.mov (tm 120))]) (.seq (.region [
 o1 121 (.mov (tm 12)),
 o1 122 (.bin .quo (so (.binOp .quo 3 (tm 121) (.const (.int .i64 8)) 3) 3) (tm 121) (.const (.int .i64 8))),
 o1 20 (.mov (tm 122))]) (.seq (.region [
 o1 123 (.mov (tm 18)),
 o1 124 (.mov (tm 19)),
 o1 125 (.bin .lss (so (.binOp .lss 3 (tm 123) (tm 124) 3) 4) (tm 123) (tm 124))]) (.cond (tm 125)
 (.seq (.region [
 o1 126 (.mov (tm 18)),
 o1 127 (.mov (tm 20)),
 o1 128 (.bin .geq (so (.binOp .geq 3 (tm 126) (tm 127) 3) 4) (tm 126) (tm 127)),
 o1 10 (.mov (tm 128))]) (.seq (.region [
 o1 129 (.mov (tm 0)),
 o1 130 (.mov (tm 1)),
 o1 131 (.mov (tm 16)),
 o1 132 (.mov (tm 3)),
 o1 133 (.mov (tm 4)),
 o1 134 (.callV (.func 53) [(tm 129), (tm 130), (tm 131), (tm 132), (tm 133)])]) (.region [
 o1 135 (.mov (tm 16)),
 o1 136 (.bin .add (so (.binOp .add 3 (tm 135) (.const (.int .i64 1)) 3) 3) (tm 135) (.const (.int .i64 1))),
 o1 1 (.mov (tm 136))])))
 (.seq (.region [
 o1 137 (.mov (tm 19)),
 o1 138 (.mov (tm 20)),
 o1 139 (.bin .geq (so (.binOp .geq 3 (tm 137) (tm 138) 3) 4) (tm 137) (tm 138)),
 o1 10 (.mov (tm 139))]) (.seq (.region [
 o1 140 (.mov (tm 0)),
 o1 141 (.mov (tm 16)),
 o1 142 (.bin .add (so (.binOp .add 3 (tm 141) (.const (.int .i64 1)) 3) 3) (tm 141) (.const (.int .i64 1))),
 o1 143 (.mov (tm 2)),
 o1 144 (.mov (tm 3)),
 o1 145 (.mov (tm 4)),
 o1 146 (.callV (.func 53) [(tm 140), (tm 142), (tm 143), (tm 144), (tm 145)])]) (.region [
 o1 147 (.mov (tm 16)),
 o1 2 (.mov (tm 147))]))))))))))))))))))
def zlbQ_c : ACode :=
 (.seq (.region [
 o1 10 (.mov (.const (.bool true)))]) (.seq (.region [
 o1 11 (.mov (.const (.bool true)))]) (.block 0 (.loop zlbQ_l0))))
def zlbQ : AFunc := ⟨148, [], zlbQ_c, none⟩
theorem zlbQ_t0 : tableOf Try.prog 53 = some zlbQ := by kernel_rfl
theorem zlbQ_t : T0 53 = some zlbQ := withKept_t rfl (withTrue_t rfl zlbQ_t0)
theorem zlbQ_runs {v0 v1 v2 v3 v4 : Value} {h : Heap} {R : RP} {X : XP} (k : RunC Try.prog T0 zlbQ_c ⟨[v0, v1, v2, v3, v4, U, U, U, U, U, U, U, U, U, U, U, U, U, U, U, U, U, U, U, U, U, U, U, U, U, U, U, U, U, U, U, U, U, U, U, U, U, U, U, U, U, U, U, U, U, U, U, U, U, U, U, U, U, U, U, U, U, U, U, U, U, U, U, U, U, U, U, U, U, U, U, U, U, U, U, U, U, U, U, U, U, U, U, U, U, U, U, U, U, U, U, U, U, U, U, U, U, U, U, U, U, U, U, U, U, U, U, U, U, U, U, U, U, U, U, U, U, U, U, U, U, U, U, U, U, U, U, U, U, U, U, U, U, U, U, U, U, U, U, U, U, U, U], [], h, none⟩ (bodyQ Try.prog T0 [] R X)) :
 Runs Try.prog T0 (.fn 53) [v0, v1, v2, v3, v4] h R X := Runs.fn zlbQ_t rfl k
abbrev zlbQ_l0_M : List Nat := [0, 2, 2, 2, 0, 0, 0, 0, 0, 0, 2, 2, 1, 1, 1, 1, 1, 1, 1, 1, 1, 1, 1, 1, 1, 1, 1, 1, 1, 1, 1, 1, 1, 1, 1, 1, 1, 1, 1, 1, 1, 1, 1, 1, 1, 1, 1, 1, 1, 1, 1, 1, 1, 1, 1, 1, 1, 1, 1, 1, 1, 1, 1, 1, 1, 1, 1, 1, 1, 1, 1, 1, 1, 1, 1, 1, 1, 1, 1, 1, 1, 1, 1, 1, 1, 1, 1, 1, 1, 1, 1, 1, 1, 1, 1, 1, 1, 1, 1, 1, 1, 1, 1, 1, 1, 1, 1, 1, 1, 1, 1, 1, 1, 1, 1, 1, 1, 1, 1, 1, 1, 1, 1, 1, 1, 1, 1, 1, 1, 1, 1, 1, 1, 1, 1, 1, 1, 1, 1, 1, 1, 1, 1, 1, 1, 1, 1, 1]
abbrev fn_zqQ : FuncId := 54
def zqQ_c : ACode :=
 (.seq (.region [
 o1 2 (.mov k0)]) (.seq (.cond (.const (.bool false))
 (.seq (.region [
 o1 3 (.mov (tm 0)),
 o1 4 (.conv .u32 (so (.convert 95 104 (tm 3)) 104) (tm 3)),
 o1 5 (.callV (.func 63) [(tm 4)]),
 o1 2 (.mov (tm 5))]) .ret)
 .skip) (.seq (.region [
 o1 6 (.mov (tm 0)),
 o1 7 (.callV (.func 64) [(tm 6)]),
 o1 2 (.mov (tm 7))]) .ret)))
def zqQ : AFunc := ⟨8, [(2, none)], zqQ_c, none⟩
theorem zqQ_t0 : tableOf Try.prog 54 = some zqQ := by kernel_rfl
theorem zqQ_t : T0 54 = some zqQ := withKept_t rfl (withTrue_t rfl zqQ_t0)
theorem zqQ_runs {v0 : Value} {h : Heap} {R : RP} {X : XP} (k : RunC Try.prog T0 zqQ_c ⟨[v0, U, U, U, U, U, U, U], [], h, none⟩ (bodyQ Try.prog T0 [(2, none)] R X)) :
 Runs Try.prog T0 (.fn 54) [v0] h R X := Runs.fn zqQ_t rfl k
abbrev fn_zdbQ : FuncId := 55
def zdbQ_l0 : ACode :=
 (.seq (.seq (.regionD [
 o1 18 (.mov (tm 9)),
 o1 19 (.mov (tm 1)),
 o2 20 (.bin .gtr (so (.binOp .gtr 3 (tm 18) (tm 19) 3) 4) (tm 18) (tm 19)),
 o2 21 (.mov (tm 20)),
 o4 22 (.mov (tm 3)) 21,
 o4 23 (.mov (tm 0)) 21,
 o4 24 (.mov (tm 9)) 21,
 o4 25 (.indexSl 1 (tm 23) (tm 24)) 21,
 o4 26 (.load none (tm 25)) 21,
 o4 27 (.mov (tm 0)) 21,
 o4 28 (.mov (tm 9)) 21,
 o4 29 (.bin .sub (so (.binOp .sub 3 (tm 28) (.const (.int .i64 1)) 3) 3) (tm 28) (.const (.int .i64 1))) 21,
 o4 30 (.indexSl 1 (tm 27) (tm 29)) 21,
 o4 31 (.load none (tm 30)) 21,
 ⟨some 32, .callV (tm 22) [(tm 26), (tm 31)], some (21, true), [], true⟩,
 ⟨some 33, .bin .lss (so (.binOp .lss 3 (tm 32) k0 3) 4) (tm 32) k0, some (21, true), [], true⟩,
 o2 34 (.pick (tm 21) (tm 33) (.const (.bool false)))]) (.cond (tm 34)
 .skip
 (.exit 2))) (.seq (.block 3 (.regionD [
 o1 37 (.mov (tm 0)),
 o1 38 (.mov (tm 9)),
 o1 39 (.mov (tm 0)),
 o1 40 (.mov (tm 9)),
 o1 41 (.bin .sub (so (.binOp .sub 3 (tm 40) (.const (.int .i64 1)) 3) 3) (tm 40) (.const (.int .i64 1))),
 o1 42 (.mov (tm 0)),
 o1 43 (.mov (tm 9)),
 o1 44 (.bin .sub (so (.binOp .sub 3 (tm 43) (.const (.int .i64 1)) 3) 3) (tm 43) (.const (.int .i64 1))),
 o1 45 (.indexSl 1 (tm 42) (tm 44)),
 o1 46 (.load none (tm 45)),
 o1 47 (.mov (tm 0)),
 o1 48 (.mov (tm 9)),
 o1 49 (.indexSl 1 (tm 47) (tm 48)),
 o1 50 (.load none (tm 49)),
 o1 51 (.indexSl 1 (tm 37) (tm 38)),
 ⟨none, .store 1 (tm 51) (tm 46), none, [(some 41, .bin .sub (so (.binOp .sub 3 (tm 40) (.const (.int .i64 1)) 3) 3) (tm 40) (.const (.int .i64 1)), none), (some 40, .mov (tm 9), none), (some 39, .mov (tm 0), none)], false⟩,
 o2 52 (.indexSl 1 (tm 39) (tm 41)),
 ⟨none, .store 1 (tm 52) (tm 50), none, [], true⟩])) (.region [
 o1 35 (.mov (tm 9)),
 o1 36 (.bin .sub (so (.binOp .sub 3 (tm 35) (.const (.int .i64 1)) 3) 3) (tm 35) (.const (.int .i64 1))),
 o1 9 (.mov (tm 36))])))
def zdbQ_l1 : ACode :=
 (.seq (.seq (.region [
 o1 12 (.mov (tm 8)),
 o1 13 (.mov (tm 2)),
 o1 14 (.bin .lss (so (.binOp .lss 3 (tm 12) (tm 13) 3) 4) (tm 12) (tm 13))]) (.cond (tm 14)
 .skip
 (.exit 0))) (.seq (.block 1 (.seq (.region [
 o1 17 (.mov (tm 8)),
 o1 9 (.mov (tm 17))]) (.block 2 (.loop zdbQ_l0)))) (.region [
 o1 15 (.mov (tm 8)),
 o1 16 (.bin .add (so (.binOp .add 3 (tm 15) (.const (.int .i64 1)) 3) 3) (tm 15) (.const (.int .i64 1))),
 o1 8 (.mov (tm 16))])))
def zdbQ_c : ACode :=
 (.seq (.region [
 o1 10 (.mov (tm 1)),
 o1 11 (.bin .add (so (.binOp .add 3 (tm 10) (.const (.int .i64 1)) 3) 3) (tm 10) (.const (.int .i64 1))),
 o1 8 (.mov (tm 11))]) (.block 0 (.loop zdbQ_l1)))
def zdbQ : AFunc := ⟨53, [], zdbQ_c, none⟩
theorem zdbQ_t0 : tableOf Try.prog 55 = some zdbQ := by kernel_rfl
theorem zdbQ_t : T0 55 = some zdbQ := withKept_t rfl (withTrue_t rfl zdbQ_t0)
theorem zdbQ_runs {v0 v1 v2 v3 : Value} {h : Heap} {R : RP} {X : XP} (k : RunC Try.prog T0 zdbQ_c ⟨[v0, v1, v2, v3, U, U, U, U, U, U, U, U, U, U, U, U, U, U, U, U, U, U, U, U, U, U, U, U, U, U, U, U, U, U, U, U, U, U, U, U, U, U, U, U, U, U, U, U, U, U, U, U, U], [], h, none⟩ (bodyQ Try.prog T0 [] R X)) :
 Runs Try.prog T0 (.fn 55) [v0, v1, v2, v3] h R X := Runs.fn zdbQ_t rfl k
abbrev zdbQ_l0_M : List Nat := [0, 0, 0, 0, 0, 0, 0, 0, 0, 2, 0, 0, 0, 0, 0, 0, 0, 0, 1, 1, 1, 1, 1, 1, 1, 1, 1, 1, 1, 1, 1, 1, 1, 1, 1, 1, 1, 1, 1, 1, 1, 1, 1, 1, 1, 1, 1, 1, 1, 1, 1, 1, 1]
abbrev zdbQ_l1_M : List Nat := [0, 0, 0, 0, 0, 0, 0, 0, 2, 1, 0, 0, 1, 1, 1, 1, 1, 1, 1, 1, 1, 1, 1, 1, 1, 1, 1, 1, 1, 1, 1, 1, 1, 1, 1, 1, 1, 1, 1, 1, 1, 1, 1, 1, 1, 1, 1, 1, 1, 1, 1, 1, 1]
abbrev fn_zcbQ : FuncId := 56
def zcbQ_l0 : ACode :=
 (.seq (.seq (.region [
 o1 20 (.mov (tm 11)),
 o1 21 (.bin .geq (so (.binOp .geq 3 (tm 20) k0 3) 4) (tm 20) k0)]) (.cond (tm 21)
 .skip
 (.exit 0))) (.seq (.block 1 (.region [
 o1 24 (.mov (tm 0)),
 o1 25 (.mov (tm 11)),
 o1 26 (.mov (tm 10)),
 o1 27 (.mov (tm 8)),
 o1 28 (.mov (tm 3)),
 o1 29 (.callV (.func 65) [(tm 24), (tm 25), (tm 26), (tm 27), (tm 28)])])) (.region [
 o1 22 (.mov (tm 11)),
 o1 23 (.bin .sub (so (.binOp .sub 3 (tm 22) (.const (.int .i64 1)) 3) 3) (tm 22) (.const (.int .i64 1))),
 o1 11 (.mov (tm 23))])))
def zcbQ_l1 : ACode :=
 (.seq (.seq (.region [
 o1 32 (.mov (tm 12)),
 o1 33 (.bin .geq (so (.binOp .geq 3 (tm 32) k0 3) 4) (tm 32) k0)]) (.cond (tm 33)
 .skip
 (.exit 2))) (.seq (.block 3 (.seq (.regionD [
 o1 36 (.mov (tm 0)),
 o1 37 (.mov (tm 8)),
 o1 38 (.mov (tm 0)),
 o1 39 (.mov (tm 8)),
 o1 40 (.mov (tm 12)),
 o1 41 (.bin .add (so (.binOp .add 3 (tm 39) (tm 40) 3) 3) (tm 39) (tm 40)),
 o1 42 (.mov (tm 0)),
 o1 43 (.mov (tm 8)),
 o1 44 (.mov (tm 12)),
 o1 45 (.bin .add (so (.binOp .add 3 (tm 43) (tm 44) 3) 3) (tm 43) (tm 44)),
 o1 46 (.indexSl 1 (tm 42) (tm 45)),
 o1 47 (.load none (tm 46)),
 o1 48 (.mov (tm 0)),
 o1 49 (.mov (tm 8)),
 o1 50 (.indexSl 1 (tm 48) (tm 49)),
 o1 51 (.load none (tm 50)),
 o1 52 (.indexSl 1 (tm 36) (tm 37)),
 ⟨none, .store 1 (tm 52) (tm 47), none, [(some 41, .bin .add (so (.binOp .add 3 (tm 39) (tm 40) 3) 3) (tm 39) (tm 40), none), (some 40, .mov (tm 12), none), (some 39, .mov (tm 8), none), (some 38, .mov (tm 0), none)], false⟩,
 o2 53 (.indexSl 1 (tm 38) (tm 41)),
 ⟨none, .store 1 (tm 53) (tm 51), none, [], true⟩]) (.region [
 o1 54 (.mov (tm 0)),
 o1 55 (.mov (tm 9)),
 o1 56 (.mov (tm 12)),
 o1 57 (.mov (tm 8)),
 o1 58 (.mov (tm 3)),
 o1 59 (.callV (.func 65) [(tm 54), (tm 55), (tm 56), (tm 57), (tm 58)])]))) (.region [
 o1 34 (.mov (tm 12)),
 o1 35 (.bin .sub (so (.binOp .sub 3 (tm 34) (.const (.int .i64 1)) 3) 3) (tm 34) (.const (.int .i64 1))),
 o1 12 (.mov (tm 35))])))
def zcbQ_c : ACode :=
 (.seq (.region [
 o1 13 (.mov (tm 1)),
 o1 8 (.mov (tm 13))]) (.seq (.region [
 o1 9 (.mov k0)]) (.seq (.region [
 o1 14 (.mov (tm 2)),
 o1 15 (.mov (tm 1)),
 o1 16 (.bin .sub (so (.binOp .sub 3 (tm 14) (tm 15) 3) 3) (tm 14) (tm 15)),
 o1 10 (.mov (tm 16))]) (.seq (.seq (.region [
 o1 17 (.mov (tm 10)),
 o1 18 (.bin .sub (so (.binOp .sub 3 (tm 17) (.const (.int .i64 1)) 3) 3) (tm 17) (.const (.int .i64 1))),
 o1 19 (.bin .quo (so (.binOp .quo 3 (tm 18) (.const (.int .i64 2)) 3) 3) (tm 18) (.const (.int .i64 2))),
 o1 11 (.mov (tm 19))]) (.block 0 (.loop zcbQ_l0))) (.seq (.region [
 o1 30 (.mov (tm 10)),
 o1 31 (.bin .sub (so (.binOp .sub 3 (tm 30) (.const (.int .i64 1)) 3) 3) (tm 30) (.const (.int .i64 1))),
 o1 12 (.mov (tm 31))]) (.block 2 (.loop zcbQ_l1)))))))
def zcbQ : AFunc := ⟨60, [], zcbQ_c, none⟩
theorem zcbQ_t0 : tableOf Try.prog 56 = some zcbQ := by kernel_rfl
theorem zcbQ_t : T0 56 = some zcbQ := withKept_t rfl (withTrue_t rfl zcbQ_t0)
theorem zcbQ_runs {v0 v1 v2 v3 : Value} {h : Heap} {R : RP} {X : XP} (k : RunC Try.prog T0 zcbQ_c ⟨[v0, v1, v2, v3, U, U, U, U, U, U, U, U, U, U, U, U, U, U, U, U, U, U, U, U, U, U, U, U, U, U, U, U, U, U, U, U, U, U, U, U, U, U, U, U, U, U, U, U, U, U, U, U, U, U, U, U, U, U, U, U], [], h, none⟩ (bodyQ Try.prog T0 [] R X)) :
 Runs Try.prog T0 (.fn 56) [v0, v1, v2, v3] h R X := Runs.fn zcbQ_t rfl k
abbrev zcbQ_l0_M : List Nat := [0, 0, 0, 0, 0, 0, 0, 0, 0, 0, 0, 2, 0, 0, 0, 0, 0, 0, 0, 0, 1, 1, 1, 1, 1, 1, 1, 1, 1, 1, 0, 0, 0, 0, 0, 0, 0, 0, 0, 0, 0, 0, 0, 0, 0, 0, 0, 0, 0, 0, 0, 0, 0, 0, 0, 0, 0, 0, 0, 0]
abbrev zcbQ_l1_M : List Nat := [0, 0, 0, 0, 0, 0, 0, 0, 0, 0, 0, 0, 2, 0, 0, 0, 0, 0, 0, 0, 0, 0, 0, 0, 0, 0, 0, 0, 0, 0, 0, 0, 1, 1, 1, 1, 1, 1, 1, 1, 1, 1, 1, 1, 1, 1, 1, 1, 1, 1, 1, 1, 1, 1, 1, 1, 1, 1, 1, 1]
abbrev fn_zabQ : FuncId := 57
def zabQ_l0 : ACode :=
 (.seq (.seq (.region [
 o1 28 (.mov (tm 11)),
 o1 29 (.mov (tm 1)),
 o1 30 (.mov (tm 8)),
 o1 31 (.bin .quo (so (.binOp .quo 3 (tm 30) (.const (.int .i64 4)) 3) 3) (tm 30) (.const (.int .i64 4))),
 o1 32 (.bin .mul (so (.binOp .mul 3 (tm 31) (.const (.int .i64 2)) 3) 3) (tm 31) (.const (.int .i64 2))),
 o1 33 (.bin .add (so (.binOp .add 3 (tm 29) (tm 32) 3) 3) (tm 29) (tm 32)),
 o1 34 (.bin .add (so (.binOp .add 3 (tm 33) (.const (.int .i64 1)) 3) 3) (tm 33) (.const (.int .i64 1))),
 o1 35 (.bin .leq (so (.binOp .leq 3 (tm 28) (tm 34) 3) 4) (tm 28) (tm 34))]) (.cond (tm 35)
 .skip
 (.exit 0))) (.seq (.block 1 (.seq (.region [
 o1 38 (.callV (.func 67) [(tm 9)]),
 o1 39 (.mov (tm 10)),
 o1 40 (.bin .sub (so (.binOp .sub 95 (tm 39) (.const (.int .u64 1)) 95) 95) (tm 39) (.const (.int .u64 1))),
 o1 41 (.bin .and (so (.binOp .and 95 (tm 38) (tm 40) 95) 95) (tm 38) (tm 40)),
 o1 42 (.conv .i64 (so (.convert 95 3 (tm 41)) 3) (tm 41)),
 o1 12 (.mov (tm 42))]) (.seq (.seq (.region [
 o1 43 (.mov (tm 12)),
 o1 44 (.mov (tm 8)),
 o1 45 (.bin .geq (so (.binOp .geq 3 (tm 43) (tm 44) 3) 4) (tm 43) (tm 44))]) (.cond (tm 45)
 (.region [
 o1 46 (.mov (tm 12)),
 o1 47 (.mov (tm 8)),
 o1 48 (.bin .sub (so (.binOp .sub 3 (tm 46) (tm 47) 3) 3) (tm 46) (tm 47)),
 o1 12 (.mov (tm 48))])
 .skip)) (.regionD [
 o1 49 (.mov (tm 0)),
 o1 50 (.mov (tm 11)),
 o1 51 (.mov (tm 0)),
 o1 52 (.mov (tm 1)),
 o1 53 (.mov (tm 12)),
 o1 54 (.bin .add (so (.binOp .add 3 (tm 52) (tm 53) 3) 3) (tm 52) (tm 53)),
 o1 55 (.mov (tm 0)),
 o1 56 (.mov (tm 1)),
 o1 57 (.mov (tm 12)),
 o1 58 (.bin .add (so (.binOp .add 3 (tm 56) (tm 57) 3) 3) (tm 56) (tm 57)),
 o1 59 (.indexSl 1 (tm 55) (tm 58)),
 o1 60 (.load none (tm 59)),
 o1 61 (.mov (tm 0)),
 o1 62 (.mov (tm 11)),
 o1 63 (.indexSl 1 (tm 61) (tm 62)),
 o1 64 (.load none (tm 63)),
 o1 65 (.indexSl 1 (tm 49) (tm 50)),
 ⟨none, .store 1 (tm 65) (tm 60), none, [(some 54, .bin .add (so (.binOp .add 3 (tm 52) (tm 53) 3) 3) (tm 52) (tm 53), none), (some 53, .mov (tm 12), none), (some 52, .mov (tm 1), none), (some 51, .mov (tm 0), none)], false⟩,
 o2 66 (.indexSl 1 (tm 51) (tm 54)),
 ⟨none, .store 1 (tm 66) (tm 64), none, [], true⟩])))) (.region [
 o1 36 (.mov (tm 11)),
 o1 37 (.bin .add (so (.binOp .add 3 (tm 36) (.const (.int .i64 1)) 3) 3) (tm 36) (.const (.int .i64 1))),
 o1 11 (.mov (tm 37))])))
def zabQ_c : ACode :=
 (.seq (.region [
 o1 13 (.mov (tm 2)),
 o1 14 (.mov (tm 1)),
 o1 15 (.bin .sub (so (.binOp .sub 3 (tm 13) (tm 14) 3) 3) (tm 13) (tm 14)),
 o1 8 (.mov (tm 15))]) (.seq (.region [
 o1 16 (.mov (tm 8)),
 o1 17 (.bin .geq (so (.binOp .geq 3 (tm 16) (.const (.int .i64 8)) 3) 4) (tm 16) (.const (.int .i64 8)))]) (.cond (tm 17)
 (.seq (.region [
 o1 18 (.mov (tm 8)),
 o1 19 (.conv .u64 (so (.convert 3 107 (tm 18)) 107) (tm 18)),
 o1 9 (.alloc 107 [(.int .u64 0)]),
 o3 (.store 1 (tm 9) (tm 19))]) (.seq (.region [
 o1 20 (.mov (tm 8)),
 o1 21 (.callV (.func 66) [(tm 20)]),
 o1 10 (.mov (tm 21))]) (.seq (.region [
 o1 22 (.mov (tm 1)),
 o1 23 (.mov (tm 8)),
 o1 24 (.bin .quo (so (.binOp .quo 3 (tm 23) (.const (.int .i64 4)) 3) 3) (tm 23) (.const (.int .i64 4))),
 o1 25 (.bin .mul (so (.binOp .mul 3 (tm 24) (.const (.int .i64 2)) 3) 3) (tm 24) (.const (.int .i64 2))),
 o1 26 (.bin .add (so (.binOp .add 3 (tm 22) (tm 25) 3) 3) (tm 22) (tm 25)),
 o1 27 (.bin .sub (so (.binOp .sub 3 (tm 26) (.const (.int .i64 1)) 3) 3) (tm 26) (.const (.int .i64 1))),
 o1 11 (.mov (tm 27))]) (.block 0 (.loop zabQ_l0)))))
 .skip)))
def zabQ : AFunc := ⟨67, [], zabQ_c, none⟩
theorem zabQ_t0 : tableOf Try.prog 57 = some zabQ := by kernel_rfl
theorem zabQ_t : T0 57 = some zabQ := withKept_t rfl (withTrue_t rfl zabQ_t0)
theorem zabQ_runs {v0 v1 v2 v3 : Value} {h : Heap} {R : RP} {X : XP} (k : RunC Try.prog T0 zabQ_c ⟨[v0, v1, v2, v3, U, U, U, U, U, U, U, U, U, U, U, U, U, U, U, U, U, U, U, U, U, U, U, U, U, U, U, U, U, U, U, U, U, U, U, U, U, U, U, U, U, U, U, U, U, U, U, U, U, U, U, U, U, U, U, U, U, U, U, U, U, U, U], [], h, none⟩ (bodyQ Try.prog T0 [] R X)) :
 Runs Try.prog T0 (.fn 57) [v0, v1, v2, v3] h R X := Runs.fn zabQ_t rfl k
abbrev zabQ_l0_M : List Nat := [0, 0, 0, 0, 0, 0, 0, 0, 0, 0, 0, 2, 1, 0, 0, 0, 0, 0, 0, 0, 0, 0, 0, 0, 0, 0, 0, 0, 1, 1, 1, 1, 1, 1, 1, 1, 1, 1, 1, 1, 1, 1, 1, 1, 1, 1, 1, 1, 1, 1, 1, 1, 1, 1, 1, 1, 1, 1, 1, 1, 1, 1, 1, 1, 1, 1, 1]
abbrev fn_zbbQ : FuncId := 58
def zbbQ_c : ACode :=
 (.seq (.region [
 o1 8 (.mov k0),
 o1 9 (.mov k0)]) (.seq (.region [
 o1 15 (.mov (tm 2)),
 o1 16 (.mov (tm 1)),
 o1 17 (.bin .sub (so (.binOp .sub 3 (tm 15) (tm 16) 3) 3) (tm 15) (tm 16)),
 o1 10 (.mov (tm 17))]) (.seq (.region [
 o1 11 (.alloc 3 [(.int .i64 0)])]) (.seq (.region [
 o1 18 (.mov (tm 1)),
 o1 19 (.mov (tm 10)),
 o1 20 (.bin .quo (so (.binOp .quo 3 (tm 19) (.const (.int .i64 4)) 3) 3) (tm 19) (.const (.int .i64 4))),
 o1 21 (.bin .mul (so (.binOp .mul 3 (tm 20) (.const (.int .i64 1)) 3) 3) (tm 20) (.const (.int .i64 1))),
 o1 22 (.bin .add (so (.binOp .add 3 (tm 18) (tm 21) 3) 3) (tm 18) (tm 21)),
 o1 12 (.mov (tm 22))]) (.seq (.region [
 o1 23 (.mov (tm 1)),
 o1 24 (.mov (tm 10)),
 o1 25 (.bin .quo (so (.binOp .quo 3 (tm 24) (.const (.int .i64 4)) 3) 3) (tm 24) (.const (.int .i64 4))),
 o1 26 (.bin .mul (so (.binOp .mul 3 (tm 25) (.const (.int .i64 2)) 3) 3) (tm 25) (.const (.int .i64 2))),
 o1 27 (.bin .add (so (.binOp .add 3 (tm 23) (tm 26) 3) 3) (tm 23) (tm 26)),
 o1 13 (.mov (tm 27))]) (.seq (.region [
 o1 28 (.mov (tm 1)),
 o1 29 (.mov (tm 10)),
 o1 30 (.bin .quo (so (.binOp .quo 3 (tm 29) (.const (.int .i64 4)) 3) 3) (tm 29) (.const (.int .i64 4))),
 o1 31 (.bin .mul (so (.binOp .mul 3 (tm 30) (.const (.int .i64 3)) 3) 3) (tm 30) (.const (.int .i64 3))),
 o1 32 (.bin .add (so (.binOp .add 3 (tm 28) (tm 31) 3) 3) (tm 28) (tm 31)),
 o1 14 (.mov (tm 32))]) (.seq (.seq (.region [
 o1 33 (.mov (tm 10)),
 o1 34 (.bin .geq (so (.binOp .geq 3 (tm 33) (.const (.int .i64 8)) 3) 4) (tm 33) (.const (.int .i64 8)))]) (.cond (tm 34)
 (.seq (.seq (.region [
 o1 35 (.mov (tm 10)),
 o1 36 (.bin .geq (so (.binOp .geq 3 (tm 35) (.const (.int .i64 50)) 3) 4) (tm 35) (.const (.int .i64 50)))]) (.cond (tm 36)
 (.seq (.region [
 o1 37 (.mov (tm 0)),
 o1 38 (.mov (tm 12)),
 o1 39 (.mov (tm 3)),
 o1 40 (.callV (.func 68) [(tm 37), (tm 38), (tm 11), (tm 39)]),
 o1 12 (.mov (tm 40))]) (.seq (.region [
 o1 41 (.mov (tm 0)),
 o1 42 (.mov (tm 13)),
 o1 43 (.mov (tm 3)),
 o1 44 (.callV (.func 68) [(tm 41), (tm 42), (tm 11), (tm 43)]),
 o1 13 (.mov (tm 44))]) (.region [
 o1 45 (.mov (tm 0)),
 o1 46 (.mov (tm 14)),
 o1 47 (.mov (tm 3)),
 o1 48 (.callV (.func 68) [(tm 45), (tm 46), (tm 11), (tm 47)]),
 o1 14 (.mov (tm 48))])))
 .skip)) (.region [
 o1 49 (.mov (tm 0)),
 o1 50 (.mov (tm 12)),
 o1 51 (.mov (tm 13)),
 o1 52 (.mov (tm 14)),
 o1 53 (.mov (tm 3)),
 o1 54 (.callV (.func 69) [(tm 49), (tm 50), (tm 51), (tm 52), (tm 11), (tm 53)]),
 o1 13 (.mov (tm 54))]))
 .skip)) (.seq (.region [
 o1 55 (.load none (tm 11))]) (.block 0 (.seq (.region [
 o1 58 (.bin .eql (so (.binOp .eql 3 (tm 55) k0 3) 4) (tm 55) k0),
 o1 57 (.mov (tm 58))]) (.cond (tm 57)
 (.seq (.region [
 o1 59 (.mov (tm 13)),
 o1 8 (.mov (tm 59)),
 o1 9 (.mov (.const (.int .i64 1)))]) .ret)
 (.seq (.region [
 o1 61 (.bin .eql (so (.binOp .eql 3 (tm 55) (.const (.int .i64 12)) 3) 4) (tm 55) (.const (.int .i64 12))),
 o1 60 (.mov (tm 61))]) (.cond (tm 60)
 (.seq (.region [
 o1 62 (.mov (tm 13)),
 o1 8 (.mov (tm 62)),
 o1 9 (.mov (.const (.int .i64 2)))]) .ret)
 (.seq (.region [
 o1 56 (.mov (tm 13)),
 o1 8 (.mov (tm 56)),
 o1 9 (.mov k0)]) .ret))))))))))))))
def zbbQ : AFunc := ⟨63, [(8, none), (9, none)], zbbQ_c, none⟩
theorem zbbQ_t0 : tableOf Try.prog 58 = some zbbQ := by kernel_rfl
theorem zbbQ_t : T0 58 = some zbbQ := withKept_t rfl (withTrue_t rfl zbbQ_t0)
theorem zbbQ_runs {v0 v1 v2 v3 : Value} {h : Heap} {R : RP} {X : XP} (k : RunC Try.prog T0 zbbQ_c ⟨[v0, v1, v2, v3, U, U, U, U, U, U, U, U, U, U, U, U, U, U, U, U, U, U, U, U, U, U, U, U, U, U, U, U, U, U, U, U, U, U, U, U, U, U, U, U, U, U, U, U, U, U, U, U, U, U, U, U, U, U, U, U, U, U, U], [], h, none⟩ (bodyQ Try.prog T0 [(8, none), (9, none)] R X)) :
 Runs Try.prog T0 (.fn 58) [v0, v1, v2, v3] h R X := Runs.fn zbbQ_t rfl k
abbrev fn_zmbQ : FuncId := 59
def zmbQ_l0 : ACode :=
 (.seq (.seq (.region [
 o1 13 (.mov (tm 8)),
 o1 14 (.mov (tm 9)),
 o1 15 (.bin .lss (so (.binOp .lss 3 (tm 13) (tm 14) 3) 4) (tm 13) (tm 14))]) (.cond (tm 15)
 .skip
 (.exit 0))) (.block 1 (.seq (.regionD [
 o1 16 (.mov (tm 0)),
 o1 17 (.mov (tm 8)),
 o1 18 (.mov (tm 0)),
 o1 19 (.mov (tm 9)),
 o1 20 (.mov (tm 0)),
 o1 21 (.mov (tm 9)),
 o1 22 (.indexSl 1 (tm 20) (tm 21)),
 o1 23 (.load none (tm 22)),
 o1 24 (.mov (tm 0)),
 o1 25 (.mov (tm 8)),
 o1 26 (.indexSl 1 (tm 24) (tm 25)),
 o1 27 (.load none (tm 26)),
 o1 28 (.indexSl 1 (tm 16) (tm 17)),
 ⟨none, .store 1 (tm 28) (tm 23), none, [(some 19, .mov (tm 9), none), (some 18, .mov (tm 0), none)], false⟩,
 o2 29 (.indexSl 1 (tm 18) (tm 19)),
 ⟨none, .store 1 (tm 29) (tm 27), none, [], true⟩]) (.seq (.region [
 o1 30 (.mov (tm 8)),
 o1 31 (.bin .add (so (.binOp .add 3 (tm 30) (.const (.int .i64 1)) 3) 3) (tm 30) (.const (.int .i64 1))),
 o1 8 (.mov (tm 31))]) (.region [
 o1 32 (.mov (tm 9)),
 o1 33 (.bin .sub (so (.binOp .sub 3 (tm 32) (.const (.int .i64 1)) 3) 3) (tm 32) (.const (.int .i64 1))),
 o1 9 (.mov (tm 33))])))))
def zmbQ_c : ACode :=
 (.seq (.region [
 o1 10 (.mov (tm 1)),
 o1 8 (.mov (tm 10))]) (.seq (.region [
 o1 11 (.mov (tm 2)),
 o1 12 (.bin .sub (so (.binOp .sub 3 (tm 11) (.const (.int .i64 1)) 3) 3) (tm 11) (.const (.int .i64 1))),
 o1 9 (.mov (tm 12))]) (.block 0 (.loop zmbQ_l0))))
def zmbQ : AFunc := ⟨34, [], zmbQ_c, none⟩
theorem zmbQ_t0 : tableOf Try.prog 59 = some zmbQ := by kernel_rfl
theorem zmbQ_t : T0 59 = some zmbQ := withKept_t rfl (withTrue_t rfl zmbQ_t0)
theorem zmbQ_runs {v0 v1 v2 v3 : Value} {h : Heap} {R : RP} {X : XP} (k : RunC Try.prog T0 zmbQ_c ⟨[v0, v1, v2, v3, U, U, U, U, U, U, U, U, U, U, U, U, U, U, U, U, U, U, U, U, U, U, U, U, U, U, U, U, U, U], [], h, none⟩ (bodyQ Try.prog T0 [] R X)) :
 Runs Try.prog T0 (.fn 59) [v0, v1, v2, v3] h R X := Runs.fn zmbQ_t rfl k
abbrev zmbQ_l0_M : List Nat := [0, 0, 0, 0, 0, 0, 0, 0, 2, 2, 0, 0, 0, 1, 1, 1, 1, 1, 1, 1, 1, 1, 1, 1, 1, 1, 1, 1, 1, 1, 1, 1, 1, 1]
abbrev fn_zibQ : FuncId := 60
def zibQ_l0 : ACode :=
 (.seq (.seq (.regionD [
 o1 19 (.mov (tm 9)),
 o1 20 (.mov (tm 2)),
 o2 21 (.bin .lss (so (.binOp .lss 3 (tm 19) (tm 20) 3) 4) (tm 19) (tm 20)),
 o2 22 (.mov (tm 21)),
 o4 23 (.mov (tm 3)) 22,
 o4 24 (.mov (tm 0)) 22,
 o4 25 (.mov (tm 9)) 22,
 o4 26 (.indexSl 1 (tm 24) (tm 25)) 22,
 o4 27 (.load none (tm 26)) 22,
 o4 28 (.mov (tm 0)) 22,
 o4 29 (.mov (tm 9)) 22,
 o4 30 (.bin .sub (so (.binOp .sub 3 (tm 29) (.const (.int .i64 1)) 3) 3) (tm 29) (.const (.int .i64 1))) 22,
 o4 31 (.indexSl 1 (tm 28) (tm 30)) 22,
 o4 32 (.load none (tm 31)) 22,
 ⟨some 33, .callV (tm 23) [(tm 27), (tm 32)], some (22, true), [], true⟩,
 ⟨some 34, .bin .lss (so (.binOp .lss 3 (tm 33) k0 3) 4) (tm 33) k0, some (22, true), [], true⟩,
 ⟨some 35, .raw (so (.unOp .not 4 (tm 34)) 4), some (22, true), [], true⟩,
 o2 36 (.pick (tm 22) (tm 35) (.const (.bool false)))]) (.cond (tm 36)
 .skip
 (.exit 2))) (.block 3 (.region [
 o1 37 (.mov (tm 9)),
 o1 38 (.bin .add (so (.binOp .add 3 (tm 37) (.const (.int .i64 1)) 3) 3) (tm 37) (.const (.int .i64 1))),
 o1 9 (.mov (tm 38))])))
def zibQ_l1 : ACode :=
 (.seq (.seq (.region [
 o1 68 (.mov (tm 11)),
 o1 69 (.bin .geq (so (.binOp .geq 3 (tm 68) (.const (.int .i64 1)) 3) 4) (tm 68) (.const (.int .i64 1)))]) (.cond (tm 69)
 .skip
 (.exit 4))) (.seq (.block 5 (.seq (.seq (.regionD [
 o1 72 (.mov (tm 3)),
 o1 73 (.mov (tm 0)),
 o1 74 (.mov (tm 11)),
 o1 75 (.indexSl 1 (tm 73) (tm 74)),
 o1 76 (.load none (tm 75)),
 o1 77 (.mov (tm 0)),
 o1 78 (.mov (tm 11)),
 o1 79 (.bin .sub (so (.binOp .sub 3 (tm 78) (.const (.int .i64 1)) 3) 3) (tm 78) (.const (.int .i64 1))),
 o1 80 (.indexSl 1 (tm 77) (tm 79)),
 o1 81 (.load none (tm 80)),
 o2 82 (.callV (tm 72) [(tm 76), (tm 81)]),
 o2 83 (.bin .lss (so (.binOp .lss 3 (tm 82) k0 3) 4) (tm 82) k0),
 o2 84 (.raw (so (.unOp .not 4 (tm 83)) 4))]) (.cond (tm 84)
 (.exit 4)
 .skip)) (.regionD [
 o1 85 (.mov (tm 0)),
 o1 86 (.mov (tm 11)),
 o1 87 (.mov (tm 0)),
 o1 88 (.mov (tm 11)),
 o1 89 (.bin .sub (so (.binOp .sub 3 (tm 88) (.const (.int .i64 1)) 3) 3) (tm 88) (.const (.int .i64 1))),
 o1 90 (.mov (tm 0)),
 o1 91 (.mov (tm 11)),
 o1 92 (.bin .sub (so (.binOp .sub 3 (tm 91) (.const (.int .i64 1)) 3) 3) (tm 91) (.const (.int .i64 1))),
 o1 93 (.indexSl 1 (tm 90) (tm 92)),
 o1 94 (.load none (tm 93)),
 o1 95 (.mov (tm 0)),
 o1 96 (.mov (tm 11)),
 o1 97 (.indexSl 1 (tm 95) (tm 96)),
 o1 98 (.load none (tm 97)),
 o1 99 (.indexSl 1 (tm 85) (tm 86)),
 ⟨none, .store 1 (tm 99) (tm 94), none, [(some 89, .bin .sub (so (.binOp .sub 3 (tm 88) (.const (.int .i64 1)) 3) 3) (tm 88) (.const (.int .i64 1)), none), (some 88, .mov (tm 11), none), (some 87, .mov (tm 0), none)], false⟩,
 o2 100 (.indexSl 1 (tm 87) (tm 89)),
 ⟨none, .store 1 (tm 100) (tm 98), none, [], true⟩]))) (.region [
 o1 70 (.mov (tm 11)),
 o1 71 (.bin .sub (so (.binOp .sub 3 (tm 70) (.const (.int .i64 1)) 3) 3) (tm 70) (.const (.int .i64 1))),
 o1 11 (.mov (tm 71))])))
def zibQ_l2 : ACode :=
 (.seq (.seq (.region [
 o1 107 (.mov (tm 12)),
 o1 108 (.mov (tm 2)),
 o1 109 (.bin .lss (so (.binOp .lss 3 (tm 107) (tm 108) 3) 4) (tm 107) (tm 108))]) (.cond (tm 109)
 .skip
 (.exit 6))) (.seq (.block 7 (.seq (.seq (.regionD [
 o1 112 (.mov (tm 3)),
 o1 113 (.mov (tm 0)),
 o1 114 (.mov (tm 12)),
 o1 115 (.indexSl 1 (tm 113) (tm 114)),
 o1 116 (.load none (tm 115)),
 o1 117 (.mov (tm 0)),
 o1 118 (.mov (tm 12)),
 o1 119 (.bin .sub (so (.binOp .sub 3 (tm 118) (.const (.int .i64 1)) 3) 3) (tm 118) (.const (.int .i64 1))),
 o1 120 (.indexSl 1 (tm 117) (tm 119)),
 o1 121 (.load none (tm 120)),
 o2 122 (.callV (tm 112) [(tm 116), (tm 121)]),
 o2 123 (.bin .lss (so (.binOp .lss 3 (tm 122) k0 3) 4) (tm 122) k0),
 o2 124 (.raw (so (.unOp .not 4 (tm 123)) 4))]) (.cond (tm 124)
 (.exit 6)
 .skip)) (.regionD [
 o1 125 (.mov (tm 0)),
 o1 126 (.mov (tm 12)),
 o1 127 (.mov (tm 0)),
 o1 128 (.mov (tm 12)),
 o1 129 (.bin .sub (so (.binOp .sub 3 (tm 128) (.const (.int .i64 1)) 3) 3) (tm 128) (.const (.int .i64 1))),
 o1 130 (.mov (tm 0)),
 o1 131 (.mov (tm 12)),
 o1 132 (.bin .sub (so (.binOp .sub 3 (tm 131) (.const (.int .i64 1)) 3) 3) (tm 131) (.const (.int .i64 1))),
 o1 133 (.indexSl 1 (tm 130) (tm 132)),
 o1 134 (.load none (tm 133)),
 o1 135 (.mov (tm 0)),
 o1 136 (.mov (tm 12)),
 o1 137 (.indexSl 1 (tm 135) (tm 136)),
 o1 138 (.load none (tm 137)),
 o1 139 (.indexSl 1 (tm 125) (tm 126)),
 ⟨none, .store 1 (tm 139) (tm 134), none, [(some 129, .bin .sub (so (.binOp .sub 3 (tm 128) (.const (.int .i64 1)) 3) 3) (tm 128) (.const (.int .i64 1)), none), (some 128, .mov (tm 12), none), (some 127, .mov (tm 0), none)], false⟩,
 o2 140 (.indexSl 1 (tm 127) (tm 129)),
 ⟨none, .store 1 (tm 140) (tm 138), none, [], true⟩]))) (.region [
 o1 110 (.mov (tm 12)),
 o1 111 (.bin .add (so (.binOp .add 3 (tm 110) (.const (.int .i64 1)) 3) 3) (tm 110) (.const (.int .i64 1))),
 o1 12 (.mov (tm 111))])))
def zibQ_l3 : ACode :=
 (.seq (.seq (.region [
 o1 15 (.mov (tm 10)),
 o1 16 (.bin .lss (so (.binOp .lss 3 (tm 15) (.const (.int .i64 5)) 3) 4) (tm 15) (.const (.int .i64 5)))]) (.cond (tm 16)
 .skip
 (.exit 0))) (.seq (.block 1 (.seq (.block 2 (.loop zibQ_l0)) (.seq (.seq (.region [
 o1 39 (.mov (tm 9)),
 o1 40 (.mov (tm 2)),
 o1 41 (.bin .eql (so (.binOp .eql 3 (tm 39) (tm 40) 3) 4) (tm 39) (tm 40))]) (.cond (tm 41)
 (.seq (.region [
 o1 8 (.mov (.const (.bool true)))]) .ret)
 .skip)) (.seq (.seq (.region [
 o1 42 (.mov (tm 2)),
 o1 43 (.mov (tm 1)),
 o1 44 (.bin .sub (so (.binOp .sub 3 (tm 42) (tm 43) 3) 3) (tm 42) (tm 43)),
 o1 45 (.bin .lss (so (.binOp .lss 3 (tm 44) (.const (.int .i64 50)) 3) 4) (tm 44) (.const (.int .i64 50)))]) (.cond (tm 45)
 (.seq (.region [
 o1 8 (.mov (.const (.bool false)))]) .ret)
 .skip)) (.seq (.regionD [
 o1 46 (.mov (tm 0)),
 o1 47 (.mov (tm 9)),
 o1 48 (.mov (tm 0)),
 o1 49 (.mov (tm 9)),
 o1 50 (.bin .sub (so (.binOp .sub 3 (tm 49) (.const (.int .i64 1)) 3) 3) (tm 49) (.const (.int .i64 1))),
 o1 51 (.mov (tm 0)),
 o1 52 (.mov (tm 9)),
 o1 53 (.bin .sub (so (.binOp .sub 3 (tm 52) (.const (.int .i64 1)) 3) 3) (tm 52) (.const (.int .i64 1))),
 o1 54 (.indexSl 1 (tm 51) (tm 53)),
 o1 55 (.load none (tm 54)),
 o1 56 (.mov (tm 0)),
 o1 57 (.mov (tm 9)),
 o1 58 (.indexSl 1 (tm 56) (tm 57)),
 o1 59 (.load none (tm 58)),
 o1 60 (.indexSl 1 (tm 46) (tm 47)),
 ⟨none, .store 1 (tm 60) (tm 55), none, [(some 50, .bin .sub (so (.binOp .sub 3 (tm 49) (.const (.int .i64 1)) 3) 3) (tm 49) (.const (.int .i64 1)), none), (some 49, .mov (tm 9), none), (some 48, .mov (tm 0), none)], false⟩,
 o2 61 (.indexSl 1 (tm 48) (tm 50)),
 ⟨none, .store 1 (tm 61) (tm 59), none, [], true⟩]) (.seq (.seq (.region [
 o1 62 (.mov (tm 9)),
 o1 63 (.mov (tm 1)),
 o1 64 (.bin .sub (so (.binOp .sub 3 (tm 62) (tm 63) 3) 3) (tm 62) (tm 63)),
 o1 65 (.bin .geq (so (.binOp .geq 3 (tm 64) (.const (.int .i64 2)) 3) 4) (tm 64) (.const (.int .i64 2)))]) (.cond (tm 65)
 (.seq (.region [
 o1 66 (.mov (tm 9)),
 o1 67 (.bin .sub (so (.binOp .sub 3 (tm 66) (.const (.int .i64 1)) 3) 3) (tm 66) (.const (.int .i64 1))),
 o1 11 (.mov (tm 67))]) (.block 4 (.loop zibQ_l1)))
 .skip)) (.seq (.region [
 o1 101 (.mov (tm 2)),
 o1 102 (.mov (tm 9)),
 o1 103 (.bin .sub (so (.binOp .sub 3 (tm 101) (tm 102) 3) 3) (tm 101) (tm 102)),
 o1 104 (.bin .geq (so (.binOp .geq 3 (tm 103) (.const (.int .i64 2)) 3) 4) (tm 103) (.const (.int .i64 2)))]) (.cond (tm 104)
 (.seq (.region [
 o1 105 (.mov (tm 9)),
 o1 106 (.bin .add (so (.binOp .add 3 (tm 105) (.const (.int .i64 1)) 3) 3) (tm 105) (.const (.int .i64 1))),
 o1 12 (.mov (tm 106))]) (.block 6 (.loop zibQ_l2)))
 .skip)))))))) (.region [
 o1 17 (.mov (tm 10)),
 o1 18 (.bin .add (so (.binOp .add 3 (tm 17) (.const (.int .i64 1)) 3) 3) (tm 17) (.const (.int .i64 1))),
 o1 10 (.mov (tm 18))])))
def zibQ_c : ACode :=
 (.seq (.region [
 o1 8 (.mov (.const (.bool false)))]) (.seq (.region [
 o1 13 (.mov (tm 1)),
 o1 14 (.bin .add (so (.binOp .add 3 (tm 13) (.const (.int .i64 1)) 3) 3) (tm 13) (.const (.int .i64 1))),
 o1 9 (.mov (tm 14))]) (.seq (.seq (.region [
 o1 10 (.mov k0)]) (.block 0 (.loop zibQ_l3))) (.seq (.region [
 o1 8 (.mov (.const (.bool false)))]) .ret))))
def zibQ : AFunc := ⟨141, [(8, none)], zibQ_c, none⟩
theorem zibQ_t0 : tableOf Try.prog 60 = some zibQ := by kernel_rfl
theorem zibQ_t : T0 60 = some zibQ := withKept_t rfl (withTrue_t rfl zibQ_t0)
theorem zibQ_runs {v0 v1 v2 v3 : Value} {h : Heap} {R : RP} {X : XP} (k : RunC Try.prog T0 zibQ_c ⟨[v0, v1, v2, v3, U, U, U, U, U, U, U, U, U, U, U, U, U, U, U, U, U, U, U, U, U, U, U, U, U, U, U, U, U, U, U, U, U, U, U, U, U, U, U, U, U, U, U, U, U, U, U, U, U, U, U, U, U, U, U, U, U, U, U, U, U, U, U, U, U, U, U, U, U, U, U, U, U, U, U, U, U, U, U, U, U, U, U, U, U, U, U, U, U, U, U, U, U, U, U, U, U, U, U, U, U, U, U, U, U, U, U, U, U, U, U, U, U, U, U, U, U, U, U, U, U, U, U, U, U, U, U, U, U, U, U, U, U, U, U, U, U], [], h, none⟩ (bodyQ Try.prog T0 [(8, none)] R X)) :
 Runs Try.prog T0 (.fn 60) [v0, v1, v2, v3] h R X := Runs.fn zibQ_t rfl k
abbrev zibQ_l0_M : List Nat := [0, 0, 0, 0, 0, 0, 0, 0, 0, 2, 0, 0, 0, 0, 0, 0, 0, 0, 0, 1, 1, 1, 1, 1, 1, 1, 1, 1, 1, 1, 1, 1, 1, 1, 1, 1, 1, 1, 1, 0, 0, 0, 0, 0, 0, 0, 0, 0, 0, 0, 0, 0, 0, 0, 0, 0, 0, 0, 0, 0, 0, 0, 0, 0, 0, 0, 0, 0, 0, 0, 0, 0, 0, 0, 0, 0, 0, 0, 0, 0, 0, 0, 0, 0, 0, 0, 0, 0, 0, 0, 0, 0, 0, 0, 0, 0, 0, 0, 0, 0, 0, 0, 0, 0, 0, 0, 0, 0, 0, 0, 0, 0, 0, 0, 0, 0, 0, 0, 0, 0, 0, 0, 0, 0, 0, 0, 0, 0, 0, 0, 0, 0, 0, 0, 0, 0, 0, 0, 0, 0, 0]
abbrev zibQ_l1_M : List Nat := [0, 0, 0, 0, 0, 0, 0, 0, 0, 0, 0, 2, 0, 0, 0, 0, 0, 0, 0, 0, 0, 0, 0, 0, 0, 0, 0, 0, 0, 0, 0, 0, 0, 0, 0, 0, 0, 0, 0, 0, 0, 0, 0, 0, 0, 0, 0, 0, 0, 0, 0, 0, 0, 0, 0, 0, 0, 0, 0, 0, 0, 0, 0, 0, 0, 0, 0, 0, 1, 1, 1, 1, 1, 1, 1, 1, 1, 1, 1, 1, 1, 1, 1, 1, 1, 1, 1, 1, 1, 1, 1, 1, 1, 1, 1, 1, 1, 1, 1, 1, 1, 0, 0, 0, 0, 0, 0, 0, 0, 0, 0, 0, 0, 0, 0, 0, 0, 0, 0, 0, 0, 0, 0, 0, 0, 0, 0, 0, 0, 0, 0, 0, 0, 0, 0, 0, 0, 0, 0, 0, 0]
abbrev zibQ_l2_M : List Nat := [0, 0, 0, 0, 0, 0, 0, 0, 0, 0, 0, 0, 2, 0, 0, 0, 0, 0, 0, 0, 0, 0, 0, 0, 0, 0, 0, 0, 0, 0, 0, 0, 0, 0, 0, 0, 0, 0, 0, 0, 0, 0, 0, 0, 0, 0, 0, 0, 0, 0, 0, 0, 0, 0, 0, 0, 0, 0, 0, 0, 0, 0, 0, 0, 0, 0, 0, 0, 0, 0, 0, 0, 0, 0, 0, 0, 0, 0, 0, 0, 0, 0, 0, 0, 0, 0, 0, 0, 0, 0, 0, 0, 0, 0, 0, 0, 0, 0, 0, 0, 0, 0, 0, 0, 0, 0, 0, 1, 1, 1, 1, 1, 1, 1, 1, 1, 1, 1, 1, 1, 1, 1, 1, 1, 1, 1, 1, 1, 1, 1, 1, 1, 1, 1, 1, 1, 1, 1, 1, 1, 1]
abbrev zibQ_l3_M : List Nat := [0, 0, 0, 0, 0, 0, 0, 0, 1, 2, 2, 1, 1, 0, 0, 1, 1, 1, 1, 1, 1, 1, 1, 1, 1, 1, 1, 1, 1, 1, 1, 1, 1, 1, 1, 1, 1, 1, 1, 1, 1, 1, 1, 1, 1, 1, 1, 1, 1, 1, 1, 1, 1, 1, 1, 1, 1, 1, 1, 1, 1, 1, 1, 1, 1, 1, 1, 1, 1, 1, 1, 1, 1, 1, 1, 1, 1, 1, 1, 1, 1, 1, 1, 1, 1, 1, 1, 1, 1, 1, 1, 1, 1, 1, 1, 1, 1, 1, 1, 1, 1, 1, 1, 1, 1, 1, 1, 1, 1, 1, 1, 1, 1, 1, 1, 1, 1, 1, 1, 1, 1, 1, 1, 1, 1, 1, 1, 1, 1, 1, 1, 1, 1, 1, 1, 1, 1, 1, 1, 1, 1]
abbrev fn_zkbQ : FuncId := 61
def zkbQ_l0 : ACode :=
 (.seq (.seq (.regionD [
 o1 31 (.mov (tm 11)),
 o1 32 (.mov (tm 12)),
 o2 33 (.bin .leq (so (.binOp .leq 3 (tm 31) (tm 32) 3) 4) (tm 31) (tm 32)),
 o2 34 (.mov (tm 33)),
 o4 35 (.mov (tm 4)) 34,
 o4 36 (.mov (tm 0)) 34,
 o4 37 (.mov (tm 1)) 34,
 o4 38 (.indexSl 1 (tm 36) (tm 37)) 34,
 o4 39 (.load none (tm 38)) 34,
 o4 40 (.mov (tm 0)) 34,
 o4 41 (.mov (tm 11)) 34,
 o4 42 (.indexSl 1 (tm 40) (tm 41)) 34,
 o4 43 (.load none (tm 42)) 34,
 ⟨some 44, .callV (tm 35) [(tm 39), (tm 43)], some (34, true), [], true⟩,
 ⟨some 45, .bin .lss (so (.binOp .lss 3 (tm 44) k0 3) 4) (tm 44) k0, some (34, true), [], true⟩,
 ⟨some 46, .raw (so (.unOp .not 4 (tm 45)) 4), some (34, true), [], true⟩,
 o2 47 (.pick (tm 34) (tm 46) (.const (.bool false)))]) (.cond (tm 47)
 .skip
 (.exit 2))) (.block 3 (.region [
 o1 48 (.mov (tm 11)),
 o1 49 (.bin .add (so (.binOp .add 3 (tm 48) (.const (.int .i64 1)) 3) 3) (tm 48) (.const (.int .i64 1))),
 o1 11 (.mov (tm 49))])))
def zkbQ_l1 : ACode :=
 (.seq (.seq (.regionD [
 o1 50 (.mov (tm 11)),
 o1 51 (.mov (tm 12)),
 o2 52 (.bin .leq (so (.binOp .leq 3 (tm 50) (tm 51) 3) 4) (tm 50) (tm 51)),
 o2 53 (.mov (tm 52)),
 o4 54 (.mov (tm 4)) 53,
 o4 55 (.mov (tm 0)) 53,
 o4 56 (.mov (tm 1)) 53,
 o4 57 (.indexSl 1 (tm 55) (tm 56)) 53,
 o4 58 (.load none (tm 57)) 53,
 o4 59 (.mov (tm 0)) 53,
 o4 60 (.mov (tm 12)) 53,
 o4 61 (.indexSl 1 (tm 59) (tm 60)) 53,
 o4 62 (.load none (tm 61)) 53,
 ⟨some 63, .callV (tm 54) [(tm 58), (tm 62)], some (53, true), [], true⟩,
 ⟨some 64, .bin .lss (so (.binOp .lss 3 (tm 63) k0 3) 4) (tm 63) k0, some (53, true), [], true⟩,
 o2 65 (.pick (tm 53) (tm 64) (.const (.bool false)))]) (.cond (tm 65)
 .skip
 (.exit 4))) (.block 5 (.region [
 o1 66 (.mov (tm 12)),
 o1 67 (.bin .sub (so (.binOp .sub 3 (tm 66) (.const (.int .i64 1)) 3) 3) (tm 66) (.const (.int .i64 1))),
 o1 12 (.mov (tm 67))])))
def zkbQ_l2 : ACode :=
 (.block 1 (.seq (.block 2 (.loop zkbQ_l0)) (.seq (.block 4 (.loop zkbQ_l1)) (.seq (.seq (.region [
 o1 68 (.mov (tm 11)),
 o1 69 (.mov (tm 12)),
 o1 70 (.bin .gtr (so (.binOp .gtr 3 (tm 68) (tm 69) 3) 4) (tm 68) (tm 69))]) (.cond (tm 70)
 (.exit 0)
 .skip)) (.seq (.regionD [
 o1 71 (.mov (tm 0)),
 o1 72 (.mov (tm 11)),
 o1 73 (.mov (tm 0)),
 o1 74 (.mov (tm 12)),
 o1 75 (.mov (tm 0)),
 o1 76 (.mov (tm 12)),
 o1 77 (.indexSl 1 (tm 75) (tm 76)),
 o1 78 (.load none (tm 77)),
 o1 79 (.mov (tm 0)),
 o1 80 (.mov (tm 11)),
 o1 81 (.indexSl 1 (tm 79) (tm 80)),
 o1 82 (.load none (tm 81)),
 o1 83 (.indexSl 1 (tm 71) (tm 72)),
 ⟨none, .store 1 (tm 83) (tm 78), none, [(some 74, .mov (tm 12), none), (some 73, .mov (tm 0), none)], false⟩,
 o2 84 (.indexSl 1 (tm 73) (tm 74)),
 ⟨none, .store 1 (tm 84) (tm 82), none, [], true⟩]) (.seq (.region [
 o1 85 (.mov (tm 11)),
 o1 86 (.bin .add (so (.binOp .add 3 (tm 85) (.const (.int .i64 1)) 3) 3) (tm 85) (.const (.int .i64 1))),
 o1 11 (.mov (tm 86))]) (.region [
 o1 87 (.mov (tm 12)),
 o1 88 (.bin .sub (so (.binOp .sub 3 (tm 87) (.const (.int .i64 1)) 3) 3) (tm 87) (.const (.int .i64 1))),
 o1 12 (.mov (tm 88))])))))))
def zkbQ_c : ACode :=
 (.seq (.region [
 o1 10 (.mov k0)]) (.seq (.regionD [
 o1 13 (.mov (tm 0)),
 o1 14 (.mov (tm 1)),
 o1 15 (.mov (tm 0)),
 o1 16 (.mov (tm 3)),
 o1 17 (.mov (tm 0)),
 o1 18 (.mov (tm 3)),
 o1 19 (.indexSl 1 (tm 17) (tm 18)),
 o1 20 (.load none (tm 19)),
 o1 21 (.mov (tm 0)),
 o1 22 (.mov (tm 1)),
 o1 23 (.indexSl 1 (tm 21) (tm 22)),
 o1 24 (.load none (tm 23)),
 o1 25 (.indexSl 1 (tm 13) (tm 14)),
 ⟨none, .store 1 (tm 25) (tm 20), none, [(some 16, .mov (tm 3), none), (some 15, .mov (tm 0), none)], false⟩,
 o2 26 (.indexSl 1 (tm 15) (tm 16)),
 ⟨none, .store 1 (tm 26) (tm 24), none, [], true⟩]) (.seq (.region [
 o1 27 (.mov (tm 1)),
 o1 28 (.bin .add (so (.binOp .add 3 (tm 27) (.const (.int .i64 1)) 3) 3) (tm 27) (.const (.int .i64 1))),
 o1 29 (.mov (tm 2)),
 o1 30 (.bin .sub (so (.binOp .sub 3 (tm 29) (.const (.int .i64 1)) 3) 3) (tm 29) (.const (.int .i64 1))),
 o1 11 (.mov (tm 28)),
 o1 12 (.mov (tm 30))]) (.seq (.block 0 (.loop zkbQ_l2)) (.seq (.region [
 o1 89 (.mov (tm 11)),
 o1 10 (.mov (tm 89))]) .ret)))))
def zkbQ : AFunc := ⟨90, [(10, none)], zkbQ_c, none⟩
theorem zkbQ_t0 : tableOf Try.prog 61 = some zkbQ := by kernel_rfl
theorem zkbQ_t : T0 61 = some zkbQ := withKept_t rfl (withTrue_t rfl zkbQ_t0)
abbrev fn_zjbQ : FuncId := 62
def zjbQ_l0 : ACode :=
 (.seq (.seq (.regionD [
 o1 32 (.mov (tm 12)),
 o1 33 (.mov (tm 13)),
 o2 34 (.bin .leq (so (.binOp .leq 3 (tm 32) (tm 33) 3) 4) (tm 32) (tm 33)),
 o2 35 (.mov (tm 34)),
 o4 36 (.mov (tm 4)) 35,
 o4 37 (.mov (tm 0)) 35,
 o4 38 (.mov (tm 12)) 35,
 o4 39 (.indexSl 1 (tm 37) (tm 38)) 35,
 o4 40 (.load none (tm 39)) 35,
 o4 41 (.mov (tm 0)) 35,
 o4 42 (.mov (tm 1)) 35,
 o4 43 (.indexSl 1 (tm 41) (tm 42)) 35,
 o4 44 (.load none (tm 43)) 35,
 ⟨some 45, .callV (tm 36) [(tm 40), (tm 44)], some (35, true), [], true⟩,
 ⟨some 46, .bin .lss (so (.binOp .lss 3 (tm 45) k0 3) 4) (tm 45) k0, some (35, true), [], true⟩,
 o2 47 (.pick (tm 35) (tm 46) (.const (.bool false)))]) (.cond (tm 47)
 .skip
 (.exit 0))) (.block 1 (.region [
 o1 48 (.mov (tm 12)),
 o1 49 (.bin .add (so (.binOp .add 3 (tm 48) (.const (.int .i64 1)) 3) 3) (tm 48) (.const (.int .i64 1))),
 o1 12 (.mov (tm 49))])))
def zjbQ_l1 : ACode :=
 (.seq (.seq (.regionD [
 o1 50 (.mov (tm 12)),
 o1 51 (.mov (tm 13)),
 o2 52 (.bin .leq (so (.binOp .leq 3 (tm 50) (tm 51) 3) 4) (tm 50) (tm 51)),
 o2 53 (.mov (tm 52)),
 o4 54 (.mov (tm 4)) 53,
 o4 55 (.mov (tm 0)) 53,
 o4 56 (.mov (tm 13)) 53,
 o4 57 (.indexSl 1 (tm 55) (tm 56)) 53,
 o4 58 (.load none (tm 57)) 53,
 o4 59 (.mov (tm 0)) 53,
 o4 60 (.mov (tm 1)) 53,
 o4 61 (.indexSl 1 (tm 59) (tm 60)) 53,
 o4 62 (.load none (tm 61)) 53,
 ⟨some 63, .callV (tm 54) [(tm 58), (tm 62)], some (53, true), [], true⟩,
 ⟨some 64, .bin .lss (so (.binOp .lss 3 (tm 63) k0 3) 4) (tm 63) k0, some (53, true), [], true⟩,
 ⟨some 65, .raw (so (.unOp .not 4 (tm 64)) 4), some (53, true), [], true⟩,
 o2 66 (.pick (tm 53) (tm 65) (.const (.bool false)))]) (.cond (tm 66)
 .skip
 (.exit 2))) (.block 3 (.region [
 o1 67 (.mov (tm 13)),
 o1 68 (.bin .sub (so (.binOp .sub 3 (tm 67) (.const (.int .i64 1)) 3) 3) (tm 67) (.const (.int .i64 1))),
 o1 13 (.mov (tm 68))])))
def zjbQ_l2 : ACode :=
 (.seq (.seq (.regionD [
 o1 105 (.mov (tm 12)),
 o1 106 (.mov (tm 13)),
 o2 107 (.bin .leq (so (.binOp .leq 3 (tm 105) (tm 106) 3) 4) (tm 105) (tm 106)),
 o2 108 (.mov (tm 107)),
 o4 109 (.mov (tm 4)) 108,
 o4 110 (.mov (tm 0)) 108,
 o4 111 (.mov (tm 12)) 108,
 o4 112 (.indexSl 1 (tm 110) (tm 111)) 108,
 o4 113 (.load none (tm 112)) 108,
 o4 114 (.mov (tm 0)) 108,
 o4 115 (.mov (tm 1)) 108,
 o4 116 (.indexSl 1 (tm 114) (tm 115)) 108,
 o4 117 (.load none (tm 116)) 108,
 ⟨some 118, .callV (tm 109) [(tm 113), (tm 117)], some (108, true), [], true⟩,
 ⟨some 119, .bin .lss (so (.binOp .lss 3 (tm 118) k0 3) 4) (tm 118) k0, some (108, true), [], true⟩,
 o2 120 (.pick (tm 108) (tm 119) (.const (.bool false)))]) (.cond (tm 120)
 .skip
 (.exit 6))) (.block 7 (.region [
 o1 121 (.mov (tm 12)),
 o1 122 (.bin .add (so (.binOp .add 3 (tm 121) (.const (.int .i64 1)) 3) 3) (tm 121) (.const (.int .i64 1))),
 o1 12 (.mov (tm 122))])))
def zjbQ_l3 : ACode :=
 (.seq (.seq (.regionD [
 o1 123 (.mov (tm 12)),
 o1 124 (.mov (tm 13)),
 o2 125 (.bin .leq (so (.binOp .leq 3 (tm 123) (tm 124) 3) 4) (tm 123) (tm 124)),
 o2 126 (.mov (tm 125)),
 o4 127 (.mov (tm 4)) 126,
 o4 128 (.mov (tm 0)) 126,
 o4 129 (.mov (tm 13)) 126,
 o4 130 (.indexSl 1 (tm 128) (tm 129)) 126,
 o4 131 (.load none (tm 130)) 126,
 o4 132 (.mov (tm 0)) 126,
 o4 133 (.mov (tm 1)) 126,
 o4 134 (.indexSl 1 (tm 132) (tm 133)) 126,
 o4 135 (.load none (tm 134)) 126,
 ⟨some 136, .callV (tm 127) [(tm 131), (tm 135)], some (126, true), [], true⟩,
 ⟨some 137, .bin .lss (so (.binOp .lss 3 (tm 136) k0 3) 4) (tm 136) k0, some (126, true), [], true⟩,
 ⟨some 138, .raw (so (.unOp .not 4 (tm 137)) 4), some (126, true), [], true⟩,
 o2 139 (.pick (tm 126) (tm 138) (.const (.bool false)))]) (.cond (tm 139)
 .skip
 (.exit 8))) (.block 9 (.region [
 o1 140 (.mov (tm 13)),
 o1 141 (.bin .sub (so (.binOp .sub 3 (tm 140) (.const (.int .i64 1)) 3) 3) (tm 140) (.const (.int .i64 1))),
 o1 13 (.mov (tm 141))])))
def zjbQ_l4 : ACode :=
 (.block 5 (.seq (.block 6 (.loop zjbQ_l2)) (.seq (.block 8 (.loop zjbQ_l3)) (.seq (.seq (.region [
 o1 142 (.mov (tm 12)),
 o1 143 (.mov (tm 13)),
 o1 144 (.bin .gtr (so (.binOp .gtr 3 (tm 142) (tm 143) 3) 4) (tm 142) (tm 143))]) (.cond (tm 144)
 (.exit 4)
 .skip)) (.seq (.regionD [
 o1 145 (.mov (tm 0)),
 o1 146 (.mov (tm 12)),
 o1 147 (.mov (tm 0)),
 o1 148 (.mov (tm 13)),
 o1 149 (.mov (tm 0)),
 o1 150 (.mov (tm 13)),
 o1 151 (.indexSl 1 (tm 149) (tm 150)),
 o1 152 (.load none (tm 151)),
 o1 153 (.mov (tm 0)),
 o1 154 (.mov (tm 12)),
 o1 155 (.indexSl 1 (tm 153) (tm 154)),
 o1 156 (.load none (tm 155)),
 o1 157 (.indexSl 1 (tm 145) (tm 146)),
 ⟨none, .store 1 (tm 157) (tm 152), none, [(some 148, .mov (tm 13), none), (some 147, .mov (tm 0), none)], false⟩,
 o2 158 (.indexSl 1 (tm 147) (tm 148)),
 ⟨none, .store 1 (tm 158) (tm 156), none, [], true⟩]) (.seq (.region [
 o1 159 (.mov (tm 12)),
 o1 160 (.bin .add (so (.binOp .add 3 (tm 159) (.const (.int .i64 1)) 3) 3) (tm 159) (.const (.int .i64 1))),
 o1 12 (.mov (tm 160))]) (.region [
 o1 161 (.mov (tm 13)),
 o1 162 (.bin .sub (so (.binOp .sub 3 (tm 161) (.const (.int .i64 1)) 3) 3) (tm 161) (.const (.int .i64 1))),
 o1 13 (.mov (tm 162))])))))))
def zjbQ_c : ACode :=
 (.seq (.region [
 o1 10 (.mov k0),
 o1 11 (.mov (.const (.bool false)))]) (.seq (.regionD [
 o1 14 (.mov (tm 0)),
 o1 15 (.mov (tm 1)),
 o1 16 (.mov (tm 0)),
 o1 17 (.mov (tm 3)),
 o1 18 (.mov (tm 0)),
 o1 19 (.mov (tm 3)),
 o1 20 (.indexSl 1 (tm 18) (tm 19)),
 o1 21 (.load none (tm 20)),
 o1 22 (.mov (tm 0)),
 o1 23 (.mov (tm 1)),
 o1 24 (.indexSl 1 (tm 22) (tm 23)),
 o1 25 (.load none (tm 24)),
 o1 26 (.indexSl 1 (tm 14) (tm 15)),
 ⟨none, .store 1 (tm 26) (tm 21), none, [(some 17, .mov (tm 3), none), (some 16, .mov (tm 0), none)], false⟩,
 o2 27 (.indexSl 1 (tm 16) (tm 17)),
 ⟨none, .store 1 (tm 27) (tm 25), none, [], true⟩]) (.seq (.region [
 o1 28 (.mov (tm 1)),
 o1 29 (.bin .add (so (.binOp .add 3 (tm 28) (.const (.int .i64 1)) 3) 3) (tm 28) (.const (.int .i64 1))),
 o1 30 (.mov (tm 2)),
 o1 31 (.bin .sub (so (.binOp .sub 3 (tm 30) (.const (.int .i64 1)) 3) 3) (tm 30) (.const (.int .i64 1))),
 o1 12 (.mov (tm 29)),
 o1 13 (.mov (tm 31))]) (.seq (.block 0 (.loop zjbQ_l0)) (.seq (.block 2 (.loop zjbQ_l1)) (.seq (.seq (.region [
 o1 69 (.mov (tm 12)),
 o1 70 (.mov (tm 13)),
 o1 71 (.bin .gtr (so (.binOp .gtr 3 (tm 69) (tm 70) 3) 4) (tm 69) (tm 70))]) (.cond (tm 71)
 (.seq (.regionD [
 o1 72 (.mov (tm 0)),
 o1 73 (.mov (tm 13)),
 o1 74 (.mov (tm 0)),
 o1 75 (.mov (tm 1)),
 o1 76 (.mov (tm 0)),
 o1 77 (.mov (tm 1)),
 o1 78 (.indexSl 1 (tm 76) (tm 77)),
 o1 79 (.load none (tm 78)),
 o1 80 (.mov (tm 0)),
 o1 81 (.mov (tm 13)),
 o1 82 (.indexSl 1 (tm 80) (tm 81)),
 o1 83 (.load none (tm 82)),
 o1 84 (.indexSl 1 (tm 72) (tm 73)),
 ⟨none, .store 1 (tm 84) (tm 79), none, [(some 75, .mov (tm 1), none), (some 74, .mov (tm 0), none)], false⟩,
 o2 85 (.indexSl 1 (tm 74) (tm 75)),
 ⟨none, .store 1 (tm 85) (tm 83), none, [], true⟩]) (.seq (.region [
 o1 86 (.mov (tm 13)),
 o1 10 (.mov (tm 86)),
 o1 11 (.mov (.const (.bool true)))]) .ret))
 .skip)) (.seq (.regionD [
 o1 87 (.mov (tm 0)),
 o1 88 (.mov (tm 12)),
 o1 89 (.mov (tm 0)),
 o1 90 (.mov (tm 13)),
 o1 91 (.mov (tm 0)),
 o1 92 (.mov (tm 13)),
 o1 93 (.indexSl 1 (tm 91) (tm 92)),
 o1 94 (.load none (tm 93)),
 o1 95 (.mov (tm 0)),
 o1 96 (.mov (tm 12)),
 o1 97 (.indexSl 1 (tm 95) (tm 96)),
 o1 98 (.load none (tm 97)),
 o1 99 (.indexSl 1 (tm 87) (tm 88)),
 ⟨none, .store 1 (tm 99) (tm 94), none, [(some 90, .mov (tm 13), none), (some 89, .mov (tm 0), none)], false⟩,
 o2 100 (.indexSl 1 (tm 89) (tm 90)),
 ⟨none, .store 1 (tm 100) (tm 98), none, [], true⟩]) (.seq (.region [
 o1 101 (.mov (tm 12)),
 o1 102 (.bin .add (so (.binOp .add 3 (tm 101) (.const (.int .i64 1)) 3) 3) (tm 101) (.const (.int .i64 1))),
 o1 12 (.mov (tm 102))]) (.seq (.region [
 o1 103 (.mov (tm 13)),
 o1 104 (.bin .sub (so (.binOp .sub 3 (tm 103) (.const (.int .i64 1)) 3) 3) (tm 103) (.const (.int .i64 1))),
 o1 13 (.mov (tm 104))]) (.seq (.block 4 (.loop zjbQ_l4)) (.seq (.regionD [
 o1 163 (.mov (tm 0)),
 o1 164 (.mov (tm 13)),
 o1 165 (.mov (tm 0)),
 o1 166 (.mov (tm 1)),
 o1 167 (.mov (tm 0)),
 o1 168 (.mov (tm 1)),
 o1 169 (.indexSl 1 (tm 167) (tm 168)),
 o1 170 (.load none (tm 169)),
 o1 171 (.mov (tm 0)),
 o1 172 (.mov (tm 13)),
 o1 173 (.indexSl 1 (tm 171) (tm 172)),
 o1 174 (.load none (tm 173)),
 o1 175 (.indexSl 1 (tm 163) (tm 164)),
 ⟨none, .store 1 (tm 175) (tm 170), none, [(some 166, .mov (tm 1), none), (some 165, .mov (tm 0), none)], false⟩,
 o2 176 (.indexSl 1 (tm 165) (tm 166)),
 ⟨none, .store 1 (tm 176) (tm 174), none, [], true⟩]) (.seq (.region [
 o1 177 (.mov (tm 13)),
 o1 10 (.mov (tm 177)),
 o1 11 (.mov (.const (.bool false)))]) .ret))))))))))))
def zjbQ : AFunc := ⟨178, [(10, none), (11, none)], zjbQ_c, none⟩
theorem zjbQ_t0 : tableOf Try.prog 62 = some zjbQ := by kernel_rfl
theorem zjbQ_t : T0 62 = some zjbQ := withKept_t rfl (withTrue_t rfl zjbQ_t0)
theorem zjbQ_runs {v0 v1 v2 v3 v4 : Value} {h : Heap} {R : RP} {X : XP} (k : RunC Try.prog T0 zjbQ_c ⟨[v0, v1, v2, v3, v4, U, U, U, U, U, U, U, U, U, U, U, U, U, U, U, U, U, U, U, U, U, U, U, U, U, U, U, U, U, U, U, U, U, U, U, U, U, U, U, U, U, U, U, U, U, U, U, U, U, U, U, U, U, U, U, U, U, U, U, U, U, U, U, U, U, U, U, U, U, U, U, U, U, U, U, U, U, U, U, U, U, U, U, U, U, U, U, U, U, U, U, U, U, U, U, U, U, U, U, U, U, U, U, U, U, U, U, U, U, U, U, U, U, U, U, U, U, U, U, U, U, U, U, U, U, U, U, U, U, U, U, U, U, U, U, U, U, U, U, U, U, U, U, U, U, U, U, U, U, U, U, U, U, U, U, U, U, U, U, U, U, U, U, U, U, U, U, U, U, U, U, U, U], [], h, none⟩ (bodyQ Try.prog T0 [(10, none), (11, none)] R X)) :
 Runs Try.prog T0 (.fn 62) [v0, v1, v2, v3, v4] h R X := Runs.fn zjbQ_t rfl k
abbrev zjbQ_l0_M : List Nat := [0, 0, 0, 0, 0, 0, 0, 0, 0, 0, 0, 0, 2, 0, 0, 0, 0, 0, 0, 0, 0, 0, 0, 0, 0, 0, 0, 0, 0, 0, 0, 0, 1, 1, 1, 1, 1, 1, 1, 1, 1, 1, 1, 1, 1, 1, 1, 1, 1, 1, 0, 0, 0, 0, 0, 0, 0, 0, 0, 0, 0, 0, 0, 0, 0, 0, 0, 0, 0, 0, 0, 0, 0, 0, 0, 0, 0, 0, 0, 0, 0, 0, 0, 0, 0, 0, 0, 0, 0, 0, 0, 0, 0, 0, 0, 0, 0, 0, 0, 0, 0, 0, 0, 0, 0, 0, 0, 0, 0, 0, 0, 0, 0, 0, 0, 0, 0, 0, 0, 0, 0, 0, 0, 0, 0, 0, 0, 0, 0, 0, 0, 0, 0, 0, 0, 0, 0, 0, 0, 0, 0, 0, 0, 0, 0, 0, 0, 0, 0, 0, 0, 0, 0, 0, 0, 0, 0, 0, 0, 0, 0, 0, 0, 0, 0, 0, 0, 0, 0, 0, 0, 0, 0, 0, 0, 0, 0, 0]
abbrev zjbQ_l1_M : List Nat := [0, 0, 0, 0, 0, 0, 0, 0, 0, 0, 0, 0, 0, 2, 0, 0, 0, 0, 0, 0, 0, 0, 0, 0, 0, 0, 0, 0, 0, 0, 0, 0, 0, 0, 0, 0, 0, 0, 0, 0, 0, 0, 0, 0, 0, 0, 0, 0, 0, 0, 1, 1, 1, 1, 1, 1, 1, 1, 1, 1, 1, 1, 1, 1, 1, 1, 1, 1, 1, 0, 0, 0, 0, 0, 0, 0, 0, 0, 0, 0, 0, 0, 0, 0, 0, 0, 0, 0, 0, 0, 0, 0, 0, 0, 0, 0, 0, 0, 0, 0, 0, 0, 0, 0, 0, 0, 0, 0, 0, 0, 0, 0, 0, 0, 0, 0, 0, 0, 0, 0, 0, 0, 0, 0, 0, 0, 0, 0, 0, 0, 0, 0, 0, 0, 0, 0, 0, 0, 0, 0, 0, 0, 0, 0, 0, 0, 0, 0, 0, 0, 0, 0, 0, 0, 0, 0, 0, 0, 0, 0, 0, 0, 0, 0, 0, 0, 0, 0, 0, 0, 0, 0, 0, 0, 0, 0, 0, 0]
abbrev zjbQ_l2_M : List Nat := [0, 0, 0, 0, 0, 0, 0, 0, 0, 0, 0, 0, 2, 0, 0, 0, 0, 0, 0, 0, 0, 0, 0, 0, 0, 0, 0, 0, 0, 0, 0, 0, 0, 0, 0, 0, 0, 0, 0, 0, 0, 0, 0, 0, 0, 0, 0, 0, 0, 0, 0, 0, 0, 0, 0, 0, 0, 0, 0, 0, 0, 0, 0, 0, 0, 0, 0, 0, 0, 0, 0, 0, 0, 0, 0, 0, 0, 0, 0, 0, 0, 0, 0, 0, 0, 0, 0, 0, 0, 0, 0, 0, 0, 0, 0, 0, 0, 0, 0, 0, 0, 0, 0, 0, 0, 1, 1, 1, 1, 1, 1, 1, 1, 1, 1, 1, 1, 1, 1, 1, 1, 1, 1, 0, 0, 0, 0, 0, 0, 0, 0, 0, 0, 0, 0, 0, 0, 0, 0, 0, 0, 0, 0, 0, 0, 0, 0, 0, 0, 0, 0, 0, 0, 0, 0, 0, 0, 0, 0, 0, 0, 0, 0, 0, 0, 0, 0, 0, 0, 0, 0, 0, 0, 0, 0, 0, 0, 0]
abbrev zjbQ_l3_M : List Nat := [0, 0, 0, 0, 0, 0, 0, 0, 0, 0, 0, 0, 0, 2, 0, 0, 0, 0, 0, 0, 0, 0, 0, 0, 0, 0, 0, 0, 0, 0, 0, 0, 0, 0, 0, 0, 0, 0, 0, 0, 0, 0, 0, 0, 0, 0, 0, 0, 0, 0, 0, 0, 0, 0, 0, 0, 0, 0, 0, 0, 0, 0, 0, 0, 0, 0, 0, 0, 0, 0, 0, 0, 0, 0, 0, 0, 0, 0, 0, 0, 0, 0, 0, 0, 0, 0, 0, 0, 0, 0, 0, 0, 0, 0, 0, 0, 0, 0, 0, 0, 0, 0, 0, 0, 0, 0, 0, 0, 0, 0, 0, 0, 0, 0, 0, 0, 0, 0, 0, 0, 0, 0, 0, 1, 1, 1, 1, 1, 1, 1, 1, 1, 1, 1, 1, 1, 1, 1, 1, 1, 1, 1, 0, 0, 0, 0, 0, 0, 0, 0, 0, 0, 0, 0, 0, 0, 0, 0, 0, 0, 0, 0, 0, 0, 0, 0, 0, 0, 0, 0, 0, 0, 0, 0, 0, 0, 0, 0]
abbrev zjbQ_l4_M : List Nat := [0, 0, 0, 0, 0, 0, 0, 0, 0, 0, 0, 0, 2, 2, 0, 0, 0, 0, 0, 0, 0, 0, 0, 0, 0, 0, 0, 0, 0, 0, 0, 0, 0, 0, 0, 0, 0, 0, 0, 0, 0, 0, 0, 0, 0, 0, 0, 0, 0, 0, 0, 0, 0, 0, 0, 0, 0, 0, 0, 0, 0, 0, 0, 0, 0, 0, 0, 0, 0, 0, 0, 0, 0, 0, 0, 0, 0, 0, 0, 0, 0, 0, 0, 0, 0, 0, 0, 0, 0, 0, 0, 0, 0, 0, 0, 0, 0, 0, 0, 0, 0, 0, 0, 0, 0, 1, 1, 1, 1, 1, 1, 1, 1, 1, 1, 1, 1, 1, 1, 1, 1, 1, 1, 1, 1, 1, 1, 1, 1, 1, 1, 1, 1, 1, 1, 1, 1, 1, 1, 1, 1, 1, 1, 1, 1, 1, 1, 1, 1, 1, 1, 1, 1, 1, 1, 1, 1, 1, 1, 1, 1, 1, 1, 0, 0, 0, 0, 0, 0, 0, 0, 0, 0, 0, 0, 0, 0, 0]
abbrev fn_zrQ : FuncId := 63
def zrQ_c : ACode :=
 (.seq (.region [
 o1 2 (.mov k0)]) (.seq (.seq (.region [
 o1 3 (.mov (tm 0)),
 o1 4 (.bin .geq (so (.binOp .geq 104 (tm 3) (.const (.int .u32 65536)) 104) 4) (tm 3) (.const (.int .u32 65536)))]) (.cond (tm 4)
 (.seq (.region [
 o1 5 (.mov (tm 0)),
 o1 6 (.bin .shr (so (.binOp .shr 104 (tm 5) (.const (.int .u64 16)) 95) 104) (tm 5) (.const (.int .u64 16))),
 o1 0 (.mov (tm 6))]) (.region [
 o1 2 (.mov (.const (.int .i64 16)))]))
 .skip)) (.seq (.seq (.region [
 o1 7 (.mov (tm 0)),
 o1 8 (.bin .geq (so (.binOp .geq 104 (tm 7) (.const (.int .u32 256)) 104) 4) (tm 7) (.const (.int .u32 256)))]) (.cond (tm 8)
 (.seq (.region [
 o1 9 (.mov (tm 0)),
 o1 10 (.bin .shr (so (.binOp .shr 104 (tm 9) (.const (.int .u64 8)) 95) 104) (tm 9) (.const (.int .u64 8))),
 o1 0 (.mov (tm 10))]) (.region [
 o1 11 (.mov (tm 2)),
 o1 12 (.bin .add (so (.binOp .add 3 (tm 11) (.const (.int .i64 8)) 3) 3) (tm 11) (.const (.int .i64 8))),
 o1 2 (.mov (tm 12))]))
 .skip)) (.seq (.region [
 o1 13 (.mov (tm 2)),
 o1 14 (.mov (tm 0)),
 o1 15 (.conv .u8 (so (.convert 104 5 (tm 14)) 5) (tm 14)),
 o1 16 (.raw (so (.index 9 (.const (.string ⟨⟨[0, 1, 2, 2, 3, 3, 3, 3, 4, 4, 4, 4, 4, 4, 4, 4, 5, 5, 5, 5, 5, 5, 5, 5, 5, 5, 5, 5, 5, 5, 5, 5, 6, 6, 6, 6, 6, 6, 6, 6, 6, 6, 6, 6, 6, 6, 6, 6, 6, 6, 6, 6, 6, 6, 6, 6, 6, 6, 6, 6, 6, 6, 6, 6, 7, 7, 7, 7, 7, 7, 7, 7, 7, 7, 7, 7, 7, 7, 7, 7, 7, 7, 7, 7, 7, 7, 7, 7, 7, 7, 7, 7, 7, 7, 7, 7, 7, 7, 7, 7, 7, 7, 7, 7, 7, 7, 7, 7, 7, 7, 7, 7, 7, 7, 7, 7, 7, 7, 7, 7, 7, 7, 7, 7, 7, 7, 7, 7, 8, 8, 8, 8, 8, 8, 8, 8, 8, 8, 8, 8, 8, 8, 8, 8, 8, 8, 8, 8, 8, 8, 8, 8, 8, 8, 8, 8, 8, 8, 8, 8, 8, 8, 8, 8, 8, 8, 8, 8, 8, 8, 8, 8, 8, 8, 8, 8, 8, 8, 8, 8, 8, 8, 8, 8, 8, 8, 8, 8, 8, 8, 8, 8, 8, 8, 8, 8, 8, 8, 8, 8, 8, 8, 8, 8, 8, 8, 8, 8, 8, 8, 8, 8, 8, 8, 8, 8, 8, 8, 8, 8, 8, 8, 8, 8, 8, 8, 8, 8, 8, 8, 8, 8, 8, 8, 8, 8, 8, 8, 8, 8, 8, 8, 8, 8, 8, 8, 8, 8, 8, 8, 8, 8, 8, 8, 8, 8]⟩⟩)) (tm 15)) 5)),
 o1 17 (.conv .i64 (so (.convert 5 3 (tm 16)) 3) (tm 16)),
 o1 18 (.bin .add (so (.binOp .add 3 (tm 13) (tm 17) 3) 3) (tm 13) (tm 17)),
 o1 2 (.mov (tm 18))]) .ret))))
def zrQ : AFunc := ⟨19, [(2, none)], zrQ_c, none⟩
theorem zrQ_t0 : tableOf Try.prog 63 = some zrQ := by kernel_rfl
theorem zrQ_t : T0 63 = some zrQ := withKept_t rfl (withTrue_t rfl zrQ_t0)
abbrev fn_zsQ : FuncId := 64
def zsQ_c : ACode :=
 (.seq (.region [
 o1 2 (.mov k0)]) (.seq (.seq (.region [
 o1 3 (.mov (tm 0)),
 o1 4 (.bin .geq (so (.binOp .geq 106 (tm 3) (.const (.int .u64 4294967296)) 106) 4) (tm 3) (.const (.int .u64 4294967296)))]) (.cond (tm 4)
 (.seq (.region [
 o1 5 (.mov (tm 0)),
 o1 6 (.bin .shr (so (.binOp .shr 106 (tm 5) (.const (.int .u64 32)) 95) 106) (tm 5) (.const (.int .u64 32))),
 o1 0 (.mov (tm 6))]) (.region [
 o1 2 (.mov (.const (.int .i64 32)))]))
 .skip)) (.seq (.seq (.region [
 o1 7 (.mov (tm 0)),
 o1 8 (.bin .geq (so (.binOp .geq 106 (tm 7) (.const (.int .u64 65536)) 106) 4) (tm 7) (.const (.int .u64 65536)))]) (.cond (tm 8)
 (.seq (.region [
 o1 9 (.mov (tm 0)),
 o1 10 (.bin .shr (so (.binOp .shr 106 (tm 9) (.const (.int .u64 16)) 95) 106) (tm 9) (.const (.int .u64 16))),
 o1 0 (.mov (tm 10))]) (.region [
 o1 11 (.mov (tm 2)),
 o1 12 (.bin .add (so (.binOp .add 3 (tm 11) (.const (.int .i64 16)) 3) 3) (tm 11) (.const (.int .i64 16))),
 o1 2 (.mov (tm 12))]))
 .skip)) (.seq (.seq (.region [
 o1 13 (.mov (tm 0)),
 o1 14 (.bin .geq (so (.binOp .geq 106 (tm 13) (.const (.int .u64 256)) 106) 4) (tm 13) (.const (.int .u64 256)))]) (.cond (tm 14)
 (.seq (.region [
 o1 15 (.mov (tm 0)),
 o1 16 (.bin .shr (so (.binOp .shr 106 (tm 15) (.const (.int .u64 8)) 95) 106) (tm 15) (.const (.int .u64 8))),
 o1 0 (.mov (tm 16))]) (.region [
 o1 17 (.mov (tm 2)),
 o1 18 (.bin .add (so (.binOp .add 3 (tm 17) (.const (.int .i64 8)) 3) 3) (tm 17) (.const (.int .i64 8))),
 o1 2 (.mov (tm 18))]))
 .skip)) (.seq (.region [
 o1 19 (.mov (tm 2)),
 o1 20 (.mov (tm 0)),
 o1 21 (.conv .u8 (so (.convert 106 5 (tm 20)) 5) (tm 20)),
 o1 22 (.raw (so (.index 9 (.const (.string ⟨⟨[0, 1, 2, 2, 3, 3, 3, 3, 4, 4, 4, 4, 4, 4, 4, 4, 5, 5, 5, 5, 5, 5, 5, 5, 5, 5, 5, 5, 5, 5, 5, 5, 6, 6, 6, 6, 6, 6, 6, 6, 6, 6, 6, 6, 6, 6, 6, 6, 6, 6, 6, 6, 6, 6, 6, 6, 6, 6, 6, 6, 6, 6, 6, 6, 7, 7, 7, 7, 7, 7, 7, 7, 7, 7, 7, 7, 7, 7, 7, 7, 7, 7, 7, 7, 7, 7, 7, 7, 7, 7, 7, 7, 7, 7, 7, 7, 7, 7, 7, 7, 7, 7, 7, 7, 7, 7, 7, 7, 7, 7, 7, 7, 7, 7, 7, 7, 7, 7, 7, 7, 7, 7, 7, 7, 7, 7, 7, 7, 8, 8, 8, 8, 8, 8, 8, 8, 8, 8, 8, 8, 8, 8, 8, 8, 8, 8, 8, 8, 8, 8, 8, 8, 8, 8, 8, 8, 8, 8, 8, 8, 8, 8, 8, 8, 8, 8, 8, 8, 8, 8, 8, 8, 8, 8, 8, 8, 8, 8, 8, 8, 8, 8, 8, 8, 8, 8, 8, 8, 8, 8, 8, 8, 8, 8, 8, 8, 8, 8, 8, 8, 8, 8, 8, 8, 8, 8, 8, 8, 8, 8, 8, 8, 8, 8, 8, 8, 8, 8, 8, 8, 8, 8, 8, 8, 8, 8, 8, 8, 8, 8, 8, 8, 8, 8, 8, 8, 8, 8, 8, 8, 8, 8, 8, 8, 8, 8, 8, 8, 8, 8, 8, 8, 8, 8, 8, 8]⟩⟩)) (tm 21)) 5)),
 o1 23 (.conv .i64 (so (.convert 5 3 (tm 22)) 3) (tm 22)),
 o1 24 (.bin .add (so (.binOp .add 3 (tm 19) (tm 23) 3) 3) (tm 19) (tm 23)),
 o1 2 (.mov (tm 24))]) .ret)))))
def zsQ : AFunc := ⟨25, [(2, none)], zsQ_c, none⟩
theorem zsQ_t0 : tableOf Try.prog 64 = some zsQ := by kernel_rfl
theorem zsQ_t : T0 64 = some zsQ := withKept_t rfl (withTrue_t rfl zsQ_t0)
theorem zsQ_runs {v0 : Value} {h : Heap} {R : RP} {X : XP} (k : RunC Try.prog T0 zsQ_c ⟨[v0, U, U, U, U, U, U, U, U, U, U, U, U, U, U, U, U, U, U, U, U, U, U, U, U], [], h, none⟩ (bodyQ Try.prog T0 [(2, none)] R X)) :
 Runs Try.prog T0 (.fn 64) [v0] h R X := Runs.fn zsQ_t rfl k
abbrev fn_znbQ : FuncId := 65
def znbQ_l0 : ACode :=
 (.block 1 (.seq (.region [
 o1 13 (.mov (tm 10)),
 o1 14 (.bin .mul (so (.binOp .mul 3 (.const (.int .i64 2)) (tm 13) 3) 3) (.const (.int .i64 2)) (tm 13)),
 o1 15 (.bin .add (so (.binOp .add 3 (tm 14) (.const (.int .i64 1)) 3) 3) (tm 14) (.const (.int .i64 1))),
 o1 11 (.mov (tm 15))]) (.seq (.seq (.region [
 o1 16 (.mov (tm 11)),
 o1 17 (.mov (tm 2)),
 o1 18 (.bin .geq (so (.binOp .geq 3 (tm 16) (tm 17) 3) 4) (tm 16) (tm 17))]) (.cond (tm 18)
 (.exit 0)
 .skip)) (.seq (.seq (.regionD [
 o1 19 (.mov (tm 11)),
 o1 20 (.bin .add (so (.binOp .add 3 (tm 19) (.const (.int .i64 1)) 3) 3) (tm 19) (.const (.int .i64 1))),
 o1 21 (.mov (tm 2)),
 o2 22 (.bin .lss (so (.binOp .lss 3 (tm 20) (tm 21) 3) 4) (tm 20) (tm 21)),
 o2 23 (.mov (tm 22)),
 o4 24 (.mov (tm 4)) 23,
 o4 25 (.mov (tm 0)) 23,
 o4 26 (.mov (tm 3)) 23,
 o4 27 (.mov (tm 11)) 23,
 o4 28 (.bin .add (so (.binOp .add 3 (tm 26) (tm 27) 3) 3) (tm 26) (tm 27)) 23,
 o4 29 (.indexSl 1 (tm 25) (tm 28)) 23,
 o4 30 (.load none (tm 29)) 23,
 o4 31 (.mov (tm 0)) 23,
 o4 32 (.mov (tm 3)) 23,
 o4 33 (.mov (tm 11)) 23,
 o4 34 (.bin .add (so (.binOp .add 3 (tm 32) (tm 33) 3) 3) (tm 32) (tm 33)) 23,
 o4 35 (.bin .add (so (.binOp .add 3 (tm 34) (.const (.int .i64 1)) 3) 3) (tm 34) (.const (.int .i64 1))) 23,
 o4 36 (.indexSl 1 (tm 31) (tm 35)) 23,
 o4 37 (.load none (tm 36)) 23,
 ⟨some 38, .callV (tm 24) [(tm 30), (tm 37)], some (23, true), [], true⟩,
 ⟨some 39, .bin .lss (so (.binOp .lss 3 (tm 38) k0 3) 4) (tm 38) k0, some (23, true), [], true⟩,
 o2 40 (.pick (tm 23) (tm 39) (.const (.bool false)))]) (.cond (tm 40)
 (.region [
 o1 41 (.mov (tm 11)),
 o1 42 (.bin .add (so (.binOp .add 3 (tm 41) (.const (.int .i64 1)) 3) 3) (tm 41) (.const (.int .i64 1))),
 o1 11 (.mov (tm 42))])
 .skip)) (.seq (.seq (.regionD [
 o1 43 (.mov (tm 4)),
 o1 44 (.mov (tm 0)),
 o1 45 (.mov (tm 3)),
 o1 46 (.mov (tm 10)),
 o1 47 (.bin .add (so (.binOp .add 3 (tm 45) (tm 46) 3) 3) (tm 45) (tm 46)),
 o1 48 (.indexSl 1 (tm 44) (tm 47)),
 o1 49 (.load none (tm 48)),
 o1 50 (.mov (tm 0)),
 o1 51 (.mov (tm 3)),
 o1 52 (.mov (tm 11)),
 o1 53 (.bin .add (so (.binOp .add 3 (tm 51) (tm 52) 3) 3) (tm 51) (tm 52)),
 o1 54 (.indexSl 1 (tm 50) (tm 53)),
 o1 55 (.load none (tm 54)),
 o2 56 (.callV (tm 43) [(tm 49), (tm 55)]),
 o2 57 (.bin .lss (so (.binOp .lss 3 (tm 56) k0 3) 4) (tm 56) k0),
 o2 58 (.raw (so (.unOp .not 4 (tm 57)) 4))]) (.cond (tm 58)
 .ret
 .skip)) (.seq (.regionD [
 o1 59 (.mov (tm 0)),
 o1 60 (.mov (tm 3)),
 o1 61 (.mov (tm 10)),
 o1 62 (.bin .add (so (.binOp .add 3 (tm 60) (tm 61) 3) 3) (tm 60) (tm 61)),
 o1 63 (.mov (tm 0)),
 o1 64 (.mov (tm 3)),
 o1 65 (.mov (tm 11)),
 o1 66 (.bin .add (so (.binOp .add 3 (tm 64) (tm 65) 3) 3) (tm 64) (tm 65)),
 o1 67 (.mov (tm 0)),
 o1 68 (.mov (tm 3)),
 o1 69 (.mov (tm 11)),
 o1 70 (.bin .add (so (.binOp .add 3 (tm 68) (tm 69) 3) 3) (tm 68) (tm 69)),
 o1 71 (.indexSl 1 (tm 67) (tm 70)),
 o1 72 (.load none (tm 71)),
 o1 73 (.mov (tm 0)),
 o1 74 (.mov (tm 3)),
 o1 75 (.mov (tm 10)),
 o1 76 (.bin .add (so (.binOp .add 3 (tm 74) (tm 75) 3) 3) (tm 74) (tm 75)),
 o1 77 (.indexSl 1 (tm 73) (tm 76)),
 o1 78 (.load none (tm 77)),
 o1 79 (.indexSl 1 (tm 59) (tm 62)),
 ⟨none, .store 1 (tm 79) (tm 72), none, [(some 66, .bin .add (so (.binOp .add 3 (tm 64) (tm 65) 3) 3) (tm 64) (tm 65), none), (some 65, .mov (tm 11), none), (some 64, .mov (tm 3), none), (some 63, .mov (tm 0), none)], false⟩,
 o2 80 (.indexSl 1 (tm 63) (tm 66)),
 ⟨none, .store 1 (tm 80) (tm 78), none, [], true⟩]) (.region [
 o1 81 (.mov (tm 11)),
 o1 10 (.mov (tm 81))])))))))
def znbQ_c : ACode :=
 (.seq (.region [
 o1 12 (.mov (tm 1)),
 o1 10 (.mov (tm 12))]) (.block 0 (.loop znbQ_l0)))
def znbQ : AFunc := ⟨82, [], znbQ_c, none⟩
theorem znbQ_t0 : tableOf Try.prog 65 = some znbQ := by kernel_rfl
theorem znbQ_t : T0 65 = some znbQ := withKept_t rfl (withTrue_t rfl znbQ_t0)
theorem znbQ_runs {v0 v1 v2 v3 v4 : Value} {h : Heap} {R : RP} {X : XP} (k : RunC Try.prog T0 znbQ_c ⟨[v0, v1, v2, v3, v4, U, U, U, U, U, U, U, U, U, U, U, U, U, U, U, U, U, U, U, U, U, U, U, U, U, U, U, U, U, U, U, U, U, U, U, U, U, U, U, U, U, U, U, U, U, U, U, U, U, U, U, U, U, U, U, U, U, U, U, U, U, U, U, U, U, U, U, U, U, U, U, U, U, U, U, U, U], [], h, none⟩ (bodyQ Try.prog T0 [] R X)) :
 Runs Try.prog T0 (.fn 65) [v0, v1, v2, v3, v4] h R X := Runs.fn znbQ_t rfl k
abbrev znbQ_l0_M : List Nat := [0, 0, 0, 0, 0, 0, 0, 0, 0, 0, 2, 1, 0, 1, 1, 1, 1, 1, 1, 1, 1, 1, 1, 1, 1, 1, 1, 1, 1, 1, 1, 1, 1, 1, 1, 1, 1, 1, 1, 1, 1, 1, 1, 1, 1, 1, 1, 1, 1, 1, 1, 1, 1, 1, 1, 1, 1, 1, 1, 1, 1, 1, 1, 1, 1, 1, 1, 1, 1, 1, 1, 1, 1, 1, 1, 1, 1, 1, 1, 1, 1, 1]
abbrev fn_zgbQ : FuncId := 66
def zgbQ_c : ACode :=
 (.seq (.region [
 o1 2 (.mov (.const (.int .u64 0)))]) (.seq (.region [
 o1 3 (.mov (tm 0)),
 o1 4 (.conv .u64 (so (.convert 3 95 (tm 3)) 95) (tm 3)),
 o1 5 (.callV (.func 54) [(tm 4)]),
 o1 6 (.bin .shl (so (.binOp .shl 95 (.const (.int .u64 1)) (tm 5) 3) 95) (.const (.int .u64 1)) (tm 5)),
 o1 2 (.mov (tm 6))]) .ret))
def zgbQ : AFunc := ⟨7, [(2, none)], zgbQ_c, none⟩
theorem zgbQ_t0 : tableOf Try.prog 66 = some zgbQ := by kernel_rfl
theorem zgbQ_t : T0 66 = some zgbQ := withKept_t rfl (withTrue_t rfl zgbQ_t0)
theorem zgbQ_runs {v0 : Value} {h : Heap} {R : RP} {X : XP} (k : RunC Try.prog T0 zgbQ_c ⟨[v0, U, U, U, U, U, U], [], h, none⟩ (bodyQ Try.prog T0 [(2, none)] R X)) :
 Runs Try.prog T0 (.fn 66) [v0] h R X := Runs.fn zgbQ_t rfl k
abbrev fn_zobQ : FuncId := 67
def zobQ_c : ACode :=
 (.seq (.region [
 o1 2 (.mov (.const (.int .u64 0)))]) (.seq (.regionD [
 o1 3 (.mov (tm 0)),
 o1 4 (.nilCheck (tm 3)),
 o1 5 (.load none (tm 4)),
 o1 6 (.mov (tm 0)),
 o1 7 (.nilCheck (tm 6)),
 o1 8 (.load none (tm 7)),
 o1 9 (.bin .shl (so (.binOp .shl 107 (tm 8) (.const (.int .u64 13)) 95) 107) (tm 8) (.const (.int .u64 13))),
 o2 10 (.bin .xor (so (.binOp .xor 107 (tm 5) (tm 9) 107) 107) (tm 5) (tm 9)),
 o2 11 (.nilCheck (tm 3)),
 ⟨none, .store 1 (tm 11) (tm 10), none, [], true⟩]) (.seq (.regionD [
 o1 12 (.mov (tm 0)),
 o1 13 (.nilCheck (tm 12)),
 o1 14 (.load none (tm 13)),
 o1 15 (.mov (tm 0)),
 o1 16 (.nilCheck (tm 15)),
 o1 17 (.load none (tm 16)),
 o1 18 (.bin .shr (so (.binOp .shr 107 (tm 17) (.const (.int .u64 7)) 95) 107) (tm 17) (.const (.int .u64 7))),
 o2 19 (.bin .xor (so (.binOp .xor 107 (tm 14) (tm 18) 107) 107) (tm 14) (tm 18)),
 o2 20 (.nilCheck (tm 12)),
 ⟨none, .store 1 (tm 20) (tm 19), none, [], true⟩]) (.seq (.regionD [
 o1 21 (.mov (tm 0)),
 o1 22 (.nilCheck (tm 21)),
 o1 23 (.load none (tm 22)),
 o1 24 (.mov (tm 0)),
 o1 25 (.nilCheck (tm 24)),
 o1 26 (.load none (tm 25)),
 o1 27 (.bin .shl (so (.binOp .shl 107 (tm 26) (.const (.int .u64 17)) 95) 107) (tm 26) (.const (.int .u64 17))),
 o2 28 (.bin .xor (so (.binOp .xor 107 (tm 23) (tm 27) 107) 107) (tm 23) (tm 27)),
 o2 29 (.nilCheck (tm 21)),
 ⟨none, .store 1 (tm 29) (tm 28), none, [], true⟩]) (.seq (.region [
 o1 30 (.mov (tm 0)),
 o1 31 (.nilCheck (tm 30)),
 o1 32 (.load none (tm 31)),
 o1 2 (.mov (tm 32))]) .ret)))))
def zobQ : AFunc := ⟨33, [(2, none)], zobQ_c, none⟩
theorem zobQ_t0 : tableOf Try.prog 67 = some zobQ := by kernel_rfl
theorem zobQ_t : T0 67 = some zobQ := withKept_t rfl (withTrue_t rfl zobQ_t0)
theorem zobQ_runs {v0 : Value} {h : Heap} {R : RP} {X : XP} (k : RunC Try.prog T0 zobQ_c ⟨[v0, U, U, U, U, U, U, U, U, U, U, U, U, U, U, U, U, U, U, U, U, U, U, U, U, U, U, U, U, U, U, U, U], [], h, none⟩ (bodyQ Try.prog T0 [(2, none)] R X)) :
 Runs Try.prog T0 (.fn 67) [v0] h R X := Runs.fn zobQ_t rfl k
abbrev fn_zebQ : FuncId := 68
def zebQ_c : ACode :=
 (.seq (.region [
 o1 8 (.mov k0)]) (.seq (.region [
 o1 9 (.mov (tm 0)),
 o1 10 (.mov (tm 1)),
 o1 11 (.bin .sub (so (.binOp .sub 3 (tm 10) (.const (.int .i64 1)) 3) 3) (tm 10) (.const (.int .i64 1))),
 o1 12 (.mov (tm 1)),
 o1 13 (.mov (tm 1)),
 o1 14 (.bin .add (so (.binOp .add 3 (tm 13) (.const (.int .i64 1)) 3) 3) (tm 13) (.const (.int .i64 1))),
 o1 15 (.mov (tm 2)),
 o1 16 (.mov (tm 3)),
 o1 17 (.callV (.func 69) [(tm 9), (tm 11), (tm 12), (tm 14), (tm 15), (tm 16)]),
 o1 8 (.mov (tm 17))]) .ret))
def zebQ : AFunc := ⟨18, [(8, none)], zebQ_c, none⟩
theorem zebQ_t0 : tableOf Try.prog 68 = some zebQ := by kernel_rfl
theorem zebQ_t : T0 68 = some zebQ := withKept_t rfl (withTrue_t rfl zebQ_t0)
theorem zebQ_runs {v0 v1 v2 v3 : Value} {h : Heap} {R : RP} {X : XP} (k : RunC Try.prog T0 zebQ_c ⟨[v0, v1, v2, v3, U, U, U, U, U, U, U, U, U, U, U, U, U, U], [], h, none⟩ (bodyQ Try.prog T0 [(8, none)] R X)) :
 Runs Try.prog T0 (.fn 68) [v0, v1, v2, v3] h R X := Runs.fn zebQ_t rfl k
abbrev fn_zfbQ : FuncId := 69
def zfbQ_c : ACode :=
 (.seq (.region [
 o1 12 (.mov k0)]) (.seq (.region [
 o1 14 (.mov (tm 0)),
 o1 15 (.mov (tm 1)),
 o1 16 (.mov (tm 2)),
 o1 17 (.mov (tm 4)),
 o1 18 (.mov (tm 5)),
 o1 19 (.callV (.func 70) [(tm 14), (tm 15), (tm 16), (tm 17), (tm 18)]),
 o1 13 (.mov (tm 19)),
 o1 20 (.extract 0 (tm 13)),
 o1 21 (.extract 1 (tm 13)),
 o1 1 (.mov (tm 20)),
 o1 2 (.mov (tm 21))]) (.seq (.region [
 o1 23 (.mov (tm 0)),
 o1 24 (.mov (tm 2)),
 o1 25 (.mov (tm 3)),
 o1 26 (.mov (tm 4)),
 o1 27 (.mov (tm 5)),
 o1 28 (.callV (.func 70) [(tm 23), (tm 24), (tm 25), (tm 26), (tm 27)]),
 o1 22 (.mov (tm 28)),
 o1 29 (.extract 0 (tm 22)),
 o1 30 (.extract 1 (tm 22)),
 o1 2 (.mov (tm 29)),
 o1 3 (.mov (tm 30))]) (.seq (.region [
 o1 32 (.mov (tm 0)),
 o1 33 (.mov (tm 1)),
 o1 34 (.mov (tm 2)),
 o1 35 (.mov (tm 4)),
 o1 36 (.mov (tm 5)),
 o1 37 (.callV (.func 70) [(tm 32), (tm 33), (tm 34), (tm 35), (tm 36)]),
 o1 31 (.mov (tm 37)),
 o1 38 (.extract 0 (tm 31)),
 o1 39 (.extract 1 (tm 31)),
 o1 1 (.mov (tm 38)),
 o1 2 (.mov (tm 39))]) (.seq (.region [
 o1 40 (.mov (tm 2)),
 o1 12 (.mov (tm 40))]) .ret)))))
def zfbQ : AFunc := ⟨41, [(12, none)], zfbQ_c, none⟩
theorem zfbQ_t0 : tableOf Try.prog 69 = some zfbQ := by kernel_rfl
theorem zfbQ_t : T0 69 = some zfbQ := withKept_t rfl (withTrue_t rfl zfbQ_t0)
theorem zfbQ_runs {v0 v1 v2 v3 v4 v5 : Value} {h : Heap} {R : RP} {X : XP} (k : RunC Try.prog T0 zfbQ_c ⟨[v0, v1, v2, v3, v4, v5, U, U, U, U, U, U, U, U, U, U, U, U, U, U, U, U, U, U, U, U, U, U, U, U, U, U, U, U, U, U, U, U, U, U, U], [], h, none⟩ (bodyQ Try.prog T0 [(12, none)] R X)) :
 Runs Try.prog T0 (.fn 69) [v0, v1, v2, v3, v4, v5] h R X := Runs.fn zfbQ_t rfl k
abbrev fn_zhbQ : FuncId := 70
def zhbQ_c : ACode :=
 (.seq (.region [
 o1 10 (.mov k0),
 o1 11 (.mov k0)]) (.seq (.seq (.regionD [
 o1 12 (.mov (tm 4)),
 o1 13 (.mov (tm 0)),
 o1 14 (.mov (tm 2)),
 o1 15 (.indexSl 1 (tm 13) (tm 14)),
 o1 16 (.load none (tm 15)),
 o1 17 (.mov (tm 0)),
 o1 18 (.mov (tm 1)),
 o1 19 (.indexSl 1 (tm 17) (tm 18)),
 o1 20 (.load none (tm 19)),
 o2 21 (.callV (tm 12) [(tm 16), (tm 20)]),
 o2 22 (.bin .lss (so (.binOp .lss 3 (tm 21) k0 3) 4) (tm 21) k0)]) (.cond (tm 22)
 (.seq (.region [
 o1 23 (.mov (tm 3)),
 o1 24 (.nilCheck (tm 23)),
 o1 25 (.load none (tm 24)),
 o1 26 (.bin .add (so (.binOp .add 3 (tm 25) (.const (.int .i64 1)) 3) 3) (tm 25) (.const (.int .i64 1))),
 o1 27 (.nilCheck (tm 23)),
 o3 (.store 1 (tm 27) (tm 26))]) (.seq (.region [
 o1 28 (.mov (tm 2)),
 o1 29 (.mov (tm 1)),
 o1 10 (.mov (tm 28)),
 o1 11 (.mov (tm 29))]) .ret))
 .skip)) (.seq (.region [
 o1 30 (.mov (tm 1)),
 o1 31 (.mov (tm 2)),
 o1 10 (.mov (tm 30)),
 o1 11 (.mov (tm 31))]) .ret)))
def zhbQ : AFunc := ⟨32, [(10, none), (11, none)], zhbQ_c, none⟩
theorem zhbQ_t0 : tableOf Try.prog 70 = some zhbQ := by kernel_rfl
theorem zhbQ_t : T0 70 = some zhbQ := withKept_t rfl (withTrue_t rfl zhbQ_t0)
theorem zhbQ_runs {v0 v1 v2 v3 v4 : Value} {h : Heap} {R : RP} {X : XP} (k : RunC Try.prog T0 zhbQ_c ⟨[v0, v1, v2, v3, v4, U, U, U, U, U, U, U, U, U, U, U, U, U, U, U, U, U, U, U, U, U, U, U, U, U, U, U], [], h, none⟩ (bodyQ Try.prog T0 [(10, none), (11, none)] R X)) :
 Runs Try.prog T0 (.fn 70) [v0, v1, v2, v3, v4] h R X := Runs.fn zhbQ_t rfl k
abbrev fn_zdcQ : FuncId := 88
def zdcQ_c : ACode :=
 (.seq (.region [
 o1 6 (.mov (.const (.bool false)))]) (.seq (.regionD [
 o1 7 (.mov (tm 0)),
 o1 8 (.mov (tm 1)),
 o1 9 (.indexSl 1 (tm 7) (tm 8)),
 o1 10 (.load none (tm 9)),
 o1 11 (.mov (tm 0)),
 o1 12 (.mov (tm 2)),
 o1 13 (.indexSl 1 (tm 11) (tm 12)),
 o1 14 (.load none (tm 13)),
 o2 15 (.callV (.func 41) [(tm 10), (tm 14)]),
 o2 16 (.bin .lss (so (.binOp .lss 3 (tm 15) k0 3) 4) (tm 15) k0),
 o2 6 (.mov (tm 16))]) .ret))
def zdcQ : AFunc := ⟨17, [(6, none)], zdcQ_c, none⟩
theorem zdcQ_t0 : tableOf Try.prog 88 = some zdcQ := by kernel_rfl
theorem zdcQ_t : T0 88 = some zdcQ := withKept_t rfl (withTrue_t rfl zdcQ_t0)
theorem zdcQ_runs {v0 v1 v2 : Value} {h : Heap} {R : RP} {X : XP} (k : RunC Try.prog T0 zdcQ_c ⟨[v0, v1, v2, U, U, U, U, U, U, U, U, U, U, U, U, U, U], [], h, none⟩ (bodyQ Try.prog T0 [(6, none)] R X)) :
 Runs Try.prog T0 (.fn 88) [v0, v1, v2] h R X := Runs.fn zdcQ_t rfl k
abbrev fn_zgcQ : FuncId := 89
def zgcQ_c : ACode :=
 (.regionD [
 o1 6 (.mov (tm 0)),
 o1 7 (.mov (tm 1)),
 o1 8 (.mov (tm 0)),
 o1 9 (.mov (tm 2)),
 o1 10 (.mov (tm 0)),
 o1 11 (.mov (tm 2)),
 o1 12 (.indexSl 1 (tm 10) (tm 11)),
 o1 13 (.load none (tm 12)),
 o1 14 (.mov (tm 0)),
 o1 15 (.mov (tm 1)),
 o1 16 (.indexSl 1 (tm 14) (tm 15)),
 o1 17 (.load none (tm 16)),
 o1 18 (.indexSl 1 (tm 6) (tm 7)),
 ⟨none, .store 1 (tm 18) (tm 13), none, [(some 9, .mov (tm 2), none), (some 8, .mov (tm 0), none)], false⟩,
 o2 19 (.indexSl 1 (tm 8) (tm 9)),
 ⟨none, .store 1 (tm 19) (tm 17), none, [], true⟩])
def zgcQ : AFunc := ⟨20, [], zgcQ_c, none⟩
theorem zgcQ_t0 : tableOf Try.prog 89 = some zgcQ := by kernel_rfl
theorem zgcQ_t : T0 89 = some zgcQ := withKept_t rfl (withTrue_t rfl zgcQ_t0)
theorem zgcQ_runs {v0 v1 v2 : Value} {h : Heap} {R : RP} {X : XP} (k : RunC Try.prog T0 zgcQ_c ⟨[v0, v1, v2, U, U, U, U, U, U, U, U, U, U, U, U, U, U, U, U, U], [], h, none⟩ (bodyQ Try.prog T0 [] R X)) :
 Runs Try.prog T0 (.fn 89) [v0, v1, v2] h R X := Runs.fn zgcQ_t rfl k
abbrev fn_zecQ : FuncId := 90
def zecQ_c : ACode :=
 (.seq (.region [
 o1 2 (.mov (.const .nilIface))]) (.seq (.region [
 o1 5 (.mov (tm 0)),
 o1 6 (.nilCheck (tm 5)),
 o1 7 (.load none (tm 6)),
 o1 8 (.lenSl (tm 7)),
 o1 9 (.bin .sub (so (.binOp .sub 3 (tm 8) (.const (.int .i64 1)) 3) 3) (tm 8) (.const (.int .i64 1))),
 o1 3 (.mov (tm 9))]) (.seq (.region [
 o1 10 (.mov (tm 0)),
 o1 11 (.nilCheck (tm 10)),
 o1 12 (.load none (tm 11)),
 o1 13 (.mov (tm 3)),
 o1 14 (.indexSl 1 (tm 12) (tm 13)),
 o1 15 (.load none (tm 14)),
 o1 4 (.mov (tm 15))]) (.seq (.region [
 o1 16 (.mov (tm 0)),
 o1 17 (.mov (tm 0)),
 o1 18 (.nilCheck (tm 17)),
 o1 19 (.load none (tm 18)),
 o1 20 (.mov (tm 3)),
 o1 21 (.sliceSl 1 (tm 19) none (some (tm 20)) none),
 o1 22 (.nilCheck (tm 16)),
 o3 (.store 1 (tm 22) (tm 21))]) (.seq (.region [
 o1 23 (.mov (tm 4)),
 o1 24 (.mkIface 66 (tm 23)),
 o1 2 (.mov (tm 24))]) .ret)))))
def zecQ : AFunc := ⟨25, [(2, none)], zecQ_c, none⟩
theorem zecQ_t0 : tableOf Try.prog 90 = some zecQ := by kernel_rfl
theorem zecQ_t : T0 90 = some zecQ := withKept_t rfl (withTrue_t rfl zecQ_t0)
abbrev fn_zfcQ : FuncId := 91
def zfcQ_c : ACode :=
 (.regionD [
 o1 4 (.mov (tm 0)),
 o1 5 (.mov (tm 0)),
 o1 6 (.nilCheck (tm 5)),
 o1 7 (.load none (tm 6)),
 o1 8 (.mov (tm 1)),
 o1 9 (.assertTo 66 (.pointer none) false (tm 8)),
 ⟨some 10, .buildSlice 66 [(.pointer none)] 1 [(0, 1, (tm 9))], none, [(some 7, .load none (tm 6), none), (some 6, .nilCheck (tm 5), none), (some 5, .mov (tm 0), none), (some 4, .mov (tm 0), none)], false⟩,
 ⟨some 11, .append 66 1 8 [(.pointer none)] false (tm 7) (tm 10), none, [(some 4, .mov (tm 0), none)], false⟩,
 o2 12 (.nilCheck (tm 4)),
 ⟨none, .store 1 (tm 12) (tm 11), none, [], true⟩])
def zfcQ : AFunc := ⟨13, [], zfcQ_c, none⟩
theorem zfcQ_t0 : tableOf Try.prog 91 = some zfcQ := by kernel_rfl
theorem zfcQ_t : T0 91 = some zfcQ := withKept_t rfl (withTrue_t rfl zfcQ_t0)
theorem zfcQ_runs {v0 v1 : Value} {h : Heap} {R : RP} {X : XP} (k : RunC Try.prog T0 zfcQ_c ⟨[v0, v1, U, U, U, U, U, U, U, U, U, U, U], [], h, none⟩ (bodyQ Try.prog T0 [] R X)) :
 Runs Try.prog T0 (.fn 91) [v0, v1] h R X := Runs.fn zfcQ_t rfl k
end Go.Proofs.Ytfmpaoolplnpjaa.A

namespace Go.Proofs.Ytfmpaoolplnpjaa.A
open Go Go.Vm
set_option maxRecDepth 10000
set_option linter.unusedVariables false
def pcells (l : List Nat) : List Value := l.map fun b => .pointer (some ⟨b, 0, none⟩)
theorem pcells_len (l : List Nat) : (pcells l).length = l.length := by simp [pcells]
theorem pcells_append (l m : List Nat) : pcells (l ++ m) = pcells l ++ pcells m := by simp [pcells]
theorem pcells_one (l : List Nat) : (pcells l).all Value.oneCell' = true := by
  induction l with
  | nil => rfl
  | cons a l ih => exact ih
theorem one_ptr {h : Heap} {b es : Nat} : newCells (h.push (.cells [.pointer (some ⟨b, 0, none⟩)] es)) 1 [.pointer none] false (.slice (some ⟨h.n, 0, none⟩) 1 1) = some (1, [.pointer (some ⟨b, 0, none⟩)]) :=
  (Rd.mk (size := 1) (n := 1) (cap := 1) (sp := none) (o := 0) (b := h.n) (c := [.pointer (some ⟨b, 0, none⟩)]) (by simp) (by rw [cellsAt_of (c := [.pointer (some ⟨b, 0, none⟩)]) (by rw [Heap.get_push, if_pos rfl]; rfl) (by simp)]; rfl)).new _
end Go.Proofs.Ytfmpaoolplnpjaa.A

namespace Go.Proofs.Ytfmpaoolplnpjaa.A
open Go Go.Vm
set_option maxRecDepth 10000
set_option linter.unusedVariables false
section
variable {P : Program} {ts : List Value} {h : Heap} {x y : Operand} {t t' ty : TypeId} {A : Bool} {l : List Value} {tl : List LK}
instance (priority := high) xnotT [e : Ev ts x (.bool true)] : XOp P ts h (.raw (so (.unOp .not t x) ty)) (.bool false) h := (XOp.notB (A := true) : XOp P ts h (.raw (so (.unOp .not t x) ty)) (.bool (!true)) h)
instance (priority := high) xnotF [e : Ev ts x (.bool false)] : XOp P ts h (.raw (so (.unOp .not t x) ty)) (.bool true) h := (XOp.notB (A := false) : XOp P ts h (.raw (so (.unOp .not t x) ty)) (.bool (!false)) h)
instance (priority := high) xneqF [i : IsBoolT P t] [e : Ev ts x (.bool A)] [e' : Ev ts y (.bool A)] : XOp P ts h (.bin .neq (so (.binOp .neq t x y t') ty) x y) (.bool false) h := by
  have := (XOp.neqB : XOp P ts h (.bin .neq (so (.binOp .neq t x y t') ty) x y) (.bool (!(A == A))) h)
  rw [beq_self_eq_true] at this
  exact this
instance (priority := high) xneqS [i : TLeaves P t tl] [e : Ev ts x (.agg ⟨l⟩)] [e' : Ev ts y (.agg ⟨l⟩)] [g : GrL l] [k : KL tl l] : XOp P ts h (.bin .neq (so (.binOp .neq t x y t') ty) x y) (.bool false) h := by
  have := (XOp.neqAgg : XOp P ts h (.bin .neq (so (.binOp .neq t x y t') ty) x y) (.bool (!same l l)) h)
  rw [same_self] at this
  exact this
theorem xneqI0 {p q : Int} {O : Oper} (hp : p = q) [e1 : Ev ts x (.int .i64 p)] [e2 : Ev ts y (.int .i64 q)] : XOp P ts h (.bin .neq O x y) (.bool false) h := by
  have := (XOp.neqI : XOp P ts h (.bin .neq O x y) (.bool (!decide (p = q))) h)
  rw [decide_eq_true hp] at this
  exact this
theorem xlss0 {p q : Int} {O : Oper} (hp : ¬ p < q) [e1 : Ev ts x (.int .i64 p)] [e2 : Ev ts y (.int .i64 q)] : XOp P ts h (.bin .lss O x y) (.bool false) h := by
  have := (XOp.lssI : XOp P ts h (.bin .lss O x y) (.bool (decide (p < q))) h)
  rw [decide_eq_false hp] at this
  exact this
theorem xgtr0 {p q : Int} {O : Oper} (hp : ¬ q < p) [e1 : Ev ts x (.int .i64 p)] [e2 : Ev ts y (.int .i64 q)] : XOp P ts h (.bin .gtr O x y) (.bool false) h := by
  have := (XOp.gtrI : XOp P ts h (.bin .gtr O x y) (.bool (decide (q < p))) h)
  rw [decide_eq_false hp] at this
  exact this
theorem xeql0 {p q : Int} {O : Oper} (hp : p ≠ q) [e1 : Ev ts x (.int .i64 p)] [e2 : Ev ts y (.int .i64 q)] : XOp P ts h (.bin .eql O x y) (.bool false) h := by
  have := (XOp.eqlI : XOp P ts h (.bin .eql O x y) (.bool (decide (p = q))) h)
  rw [decide_eq_false hp] at this
  exact this
theorem xeql1 {p q : Int} {O : Oper} (hp : p = q) [e1 : Ev ts x (.int .i64 p)] [e2 : Ev ts y (.int .i64 q)] : XOp P ts h (.bin .eql O x y) (.bool true) h := by
  have := (XOp.eqlI : XOp P ts h (.bin .eql O x y) (.bool (decide (p = q))) h)
  rw [decide_eq_true hp] at this
  exact this
end
end Go.Proofs.Ytfmpaoolplnpjaa.A

namespace Go.Proofs.Ytfmpaoolplnpjaa.A
open Go Go.Vm
set_option maxRecDepth 10000
set_option linter.unusedVariables false
set_option linter.unusedSimpArgs false
section
variable {P : Program} {ts : List Value} {h : Heap} {x y : Operand} {t t' ty : TypeId} {A : Bool}
instance (priority := high) xeqlT [i : IsBoolT P t] [e : Ev ts x (.bool A)] [e' : Ev ts y (.bool A)] : XOp P ts h (.bin .eql (so (.binOp .eql t x y t') ty) x y) (.bool true) h := by
  have := (XOp.eqlB : XOp P ts h (.bin .eql (so (.binOp .eql t x y t') ty) x y) (.bool (A == A)) h)
  rw [beq_self_eq_true] at this
  exact this
theorem xlss1 {p q : Int} {O : Oper} (hp : p < q) [e1 : Ev ts x (.int .i64 p)] [e2 : Ev ts y (.int .i64 q)] : XOp P ts h (.bin .lss O x y) (.bool true) h := by
  have := (XOp.lssI : XOp P ts h (.bin .lss O x y) (.bool (decide (p < q))) h)
  rw [decide_eq_true hp] at this
  exact this
theorem xgtr1 {p q : Int} {O : Oper} (hp : q < p) [e1 : Ev ts x (.int .i64 p)] [e2 : Ev ts y (.int .i64 q)] : XOp P ts h (.bin .gtr O x y) (.bool true) h := by
  have := (XOp.gtrI : XOp P ts h (.bin .gtr O x y) (.bool (decide (q < p))) h)
  rw [decide_eq_true hp] at this
  exact this
end
end Go.Proofs.Ytfmpaoolplnpjaa.A

namespace Go.Proofs.Ytfmpaoolplnpjaa.A
open Go Go.Vm
set_option maxRecDepth 10000
set_option linter.unusedVariables false
section
variable {α : Type} [Inhabited α] {lt : α → α → Bool}
abbrev at' (l : List α) (i : Nat) : α := l.getD i default
theorem at_set {l : List α} {i k : Nat} {x : α} (hi : i < l.length) : at' (l.set i x) k = if k = i then x else at' l k := by
  simp only [at', List.getD_eq_getElem?_getD, List.getElem?_set]
  by_cases h : i = k
  · subst h; simp [hi]
  · rw [if_neg h, if_neg (fun e => h e.symm)]
theorem at_mem {l : List α} {i : Nat} (hi : i < l.length) : at' l i ∈ l := by
  simp only [at', List.getD_eq_getElem?_getD, List.getElem?_eq_getElem hi, Option.getD_some]
  exact List.getElem_mem hi
theorem at_append {l m : List α} {k : Nat} (hk : k < l.length) : at' (l ++ m) k = at' l k := by
  simp only [at', List.getD_eq_getElem?_getD, List.getElem?_append_left hk]
def swp (l : List α) (i j : Nat) : List α := (l.set i (at' l j)).set j (at' l i)
theorem swp_len {l : List α} {i j : Nat} : (swp l i j).length = l.length := by simp [swp]
theorem swp_at {l : List α} {i j k : Nat} (hi : i < l.length) (hj : j < l.length) : at' (swp l i j) k = if k = j then at' l i else if k = i then at' l j else at' l k := by
  unfold swp
  rw [at_set (by simpa using hj), at_set hi]
theorem swp_perm {l : List α} {i j : Nat} (hi : i < l.length) (hj : j < l.length) : (swp l i j).Perm l := by
  classical
  rw [List.perm_iff_count]
  intro b
  have e1 : at' l i = l[i] := by simp only [at', List.getD_eq_getElem?_getD, List.getElem?_eq_getElem hi, Option.getD_some]
  have e2 : at' l j = l[j] := by simp only [at', List.getD_eq_getElem?_getD, List.getElem?_eq_getElem hj, Option.getD_some]
  unfold swp
  rw [e1, e2, List.count_set (by simpa using hj), List.count_set hi]
  have c1 : l[i] = b → 0 < l.count b := fun e => List.count_pos_iff.2 (by rw [← e]; exact List.getElem_mem hi)
  rw [List.getElem_set]
  by_cases h : i = j
  · subst h
    simp only [if_true]
    by_cases h1 : l[i] = b
    · have := c1 h1; simp only [h1, beq_self_eq_true, if_true]; omega
    · have : (l[i] == b) = false := by simpa using h1
      simp only [this]; simp
  · rw [if_neg h]
    by_cases h1 : l[i] = b <;> by_cases h2 : l[j] = b
    · have := c1 h1; simp only [h1, h2, beq_self_eq_true, if_true]; omega
    · have h2' : (l[j] == b) = false := by simpa using h2
      have := c1 h1
      simp only [h1, h2', beq_self_eq_true, if_true]; simp; omega
    · have h1' : (l[i] == b) = false := by simpa using h1
      simp only [h1', h2, beq_self_eq_true, if_true]; simp
    · have h1' : (l[i] == b) = false := by simpa using h1
      have h2' : (l[j] == b) = false := by simpa using h2
      simp only [h1', h2']; simp
structure Ord (lt : α → α → Bool) : Prop where
  asy : ∀ a b, lt a b = true → lt b a = false
  tr : ∀ a b c, lt b a = false → lt c b = false → lt c a = false
abbrev edge (lt : α → α → Bool) (l : List α) (k : Nat) : Prop := lt (at' l k) (at' l ((k - 1) / 2)) = false
def HeapP (lt : α → α → Bool) (lo n : Nat) (l : List α) : Prop := ∀ k, 0 < k → k < n → lo ≤ (k - 1) / 2 → edge lt l k
def upF (lt : α → α → Bool) : Nat → List α → Nat → List α
  | 0, l, _ => l
  | m + 1, l, j => if (j - 1) / 2 = j then l else if lt (at' l j) (at' l ((j - 1) / 2)) then upF lt m (swp l ((j - 1) / 2) j) ((j - 1) / 2) else l
def kid (lt : α → α → Bool) (l : List α) (i n : Nat) : Nat := if 2 * i + 2 < n ∧ lt (at' l (2 * i + 2)) (at' l (2 * i + 1)) = true then 2 * i + 2 else 2 * i + 1
def downF (lt : α → α → Bool) : Nat → List α → Nat → Nat → List α × Nat
  | 0, l, i, _ => (l, i)
  | m + 1, l, i, n => if n ≤ 2 * i + 1 then (l, i) else if lt (at' l (kid lt l i n)) (at' l i) then downF lt m (swp l i (kid lt l i n)) (kid lt l i n) n else (l, i)
structure DInv (lt : α → α → Bool) (lo n i : Nat) (b : Prop) (l : List α) : Prop where
  a : ∀ k, 0 < k → k < n → lo ≤ (k - 1) / 2 → (k - 1) / 2 ≠ i → (k = i → b) → edge lt l k
  c : ∀ k, 0 < k → k < n → (k - 1) / 2 = i → 0 < i → lo ≤ (i - 1) / 2 → lt (at' l k) (at' l ((i - 1) / 2)) = false
theorem kid_lt {l : List α} {i n : Nat} (h : 2 * i + 1 < n) : kid lt l i n < n ∧ (kid lt l i n - 1) / 2 = i ∧ i < kid lt l i n := by
  unfold kid
  split
  · rename_i h1; exact ⟨h1.1, by omega, by omega⟩
  · exact ⟨h, by omega, by omega⟩
theorem kid_least (O : Ord lt) {l : List α} {i n k : Nat} (hk : k < n) (h0 : 0 < k) (hp : (k - 1) / 2 = i) : lt (at' l k) (at' l (kid lt l i n)) = false := by
  have hirr : ∀ a, lt a a = false := fun a => by
    cases h : lt a a with
    | false => rfl
    | true => rw [← O.asy a a h, h]
  unfold kid
  have : k = 2 * i + 1 ∨ k = 2 * i + 2 := by omega
  split
  · rename_i h1
    rcases this with rfl | rfl
    · exact O.asy _ _ h1.2
    · exact hirr _
  · rename_i h1
    rcases this with rfl | rfl
    · exact hirr _
    · have : ¬ lt (at' l (2 * i + 2)) (at' l (2 * i + 1)) = true := fun h => h1 ⟨hk, h⟩
      simpa using this
theorem DInv.step (O : Ord lt) {lo n i : Nat} {b : Prop} {l : List α} (h : DInv lt lo n i b l) (hl : n ≤ l.length) (hn : 2 * i + 1 < n) (hlo : lo ≤ i) (hlt : lt (at' l (kid lt l i n)) (at' l i) = true) : DInv lt lo n (kid lt l i n) True (swp l i (kid lt l i n)) := by
  obtain ⟨k1, k2, k3⟩ := kid_lt (lt := lt) (l := l) hn
  have hmin := fun {k : Nat} (a : k < n) (b : 0 < k) (c : (k - 1) / 2 = i) => kid_least O (l := l) a b c
  generalize kid lt l i n = j at *
  have ha := fun k => swp_at (l := l) (i := i) (j := j) (k := k) (by omega) (by omega)
  refine ⟨fun k h0 hk hlk hp _ => ?_, fun k h0 hk hp _ hlk => ?_⟩
  · show lt (at' (swp l i j) k) (at' (swp l i j) ((k - 1) / 2)) = false
    rw [ha, ha, if_neg hp]
    by_cases e1 : k = j
    · rw [if_pos e1, if_pos (by rw [e1]; exact k2)]
      exact O.asy _ _ hlt
    · rw [if_neg e1]
      by_cases e2 : k = i
      · rw [if_pos e2, if_neg (by omega), e2]
        exact h.c j (by omega) k1 k2 (by omega) (by rw [← e2]; exact hlk)
      · rw [if_neg e2]
        by_cases e3 : (k - 1) / 2 = i
        · rw [if_pos e3]
          exact hmin hk h0 e3
        · rw [if_neg e3]
          exact h.a k h0 hk hlk e3 fun e => absurd e e2
  · rw [ha, ha, k2, if_neg (by omega), if_neg (by omega), if_neg (by omega), if_pos rfl]
    have := h.a k h0 hk (by omega) (by omega) (fun e => by omega)
    show lt (at' l k) (at' l j) = false
    rw [← hp]
    exact this
theorem down_spec (O : Ord lt) : ∀ (m : Nat) (l : List α) (i n lo : Nat) (b : Prop), DInv lt lo n i b l → n ≤ l.length → lo ≤ i → n - i < m →
    (downF lt m l i n).1.length = l.length ∧ (downF lt m l i n).1.Perm l ∧ (∀ k, n ≤ k → at' (downF lt m l i n).1 k = at' l k) ∧ i ≤ (downF lt m l i n).2 ∧ ((downF lt m l i n).2 = i → (downF lt m l i n).1 = l) ∧
    (∀ k, 0 < k → k < n → lo ≤ (k - 1) / 2 → (k = i → b ∨ i < (downF lt m l i n).2) → edge lt (downF lt m l i n).1 k) := by
  intro m
  induction m with
  | zero => intro l i n lo b h hl hlo hm; omega
  | succ m ih =>
    intro l i n lo b h hl hlo hm
    unfold downF
    split
    · rename_i h1
      refine ⟨rfl, .refl _, fun _ _ => rfl, Nat.le_refl _, fun _ => rfl, fun k h0 hk hlk hb => ?_⟩
      exact h.a k h0 hk hlk (by omega) fun e => (hb e).elim id fun e => absurd e (Nat.lt_irrefl _)
    · rename_i h1
      have h1 : 2 * i + 1 < n := by omega
      obtain ⟨k1, k2, k3⟩ := kid_lt (lt := lt) (l := l) h1
      split
      · rename_i h2
        have h3 := h.step O hl h1 hlo h2
        have hk := ih (swp l i (kid lt l i n)) (kid lt l i n) n lo True h3 (by rw [swp_len]; exact hl) (by omega) (by omega)
        generalize kid lt l i n = j at *
        obtain ⟨a1, a2, a3, a4, a5, a6⟩ := hk
        refine ⟨by rw [a1, swp_len], a2.trans (swp_perm (by omega) (by omega)), fun k hk => ?_, by omega, fun e => by omega, fun k h0 hk hlk _ => a6 k h0 hk hlk fun _ => .inl trivial⟩
        rw [a3 k hk, swp_at (by omega) (by omega), if_neg (by omega), if_neg (by omega)]
      · rename_i h2
        refine ⟨rfl, .refl _, fun _ _ => rfl, Nat.le_refl _, fun _ => rfl, fun k h0 hk hlk hb => ?_⟩
        by_cases e : (k - 1) / 2 = i
        · have h4 : lt (at' l (kid lt l i n)) (at' l i) = false := by simpa using h2
          show lt (at' l k) (at' l ((k - 1) / 2)) = false
          rw [e]
          exact O.tr _ _ _ h4 (kid_least O hk h0 e)
        · exact h.a k h0 hk hlk e fun e => (hb e).elim id fun e => absurd e (Nat.lt_irrefl _)
structure UInv (lt : α → α → Bool) (n j : Nat) (l : List α) : Prop where
  a : ∀ k, 0 < k → k < n → k ≠ j → edge lt l k
  c : ∀ k, 0 < k → k < n → (k - 1) / 2 = j → 0 < j → lt (at' l k) (at' l ((j - 1) / 2)) = false
theorem UInv.step (O : Ord lt) {n j : Nat} {l : List α} (h : UInv lt n j l) (hl : n ≤ l.length) (hj : j < n) (h0 : 0 < j) (hlt : lt (at' l j) (at' l ((j - 1) / 2)) = true) : UInv lt n ((j - 1) / 2) (swp l ((j - 1) / 2) j) := by
  generalize hi : (j - 1) / 2 = i at *
  have ha := fun k => swp_at (l := l) (i := i) (j := j) (k := k) (by omega) (by omega)
  refine ⟨fun k h1 hk hne => ?_, fun k h1 hk hp h2 => ?_⟩
  · show lt (at' (swp l i j) k) (at' (swp l i j) ((k - 1) / 2)) = false
    rw [ha, ha]
    by_cases e1 : k = j
    · rw [if_pos e1, if_neg (by omega), if_pos (by rw [e1]; exact hi)]
      exact O.asy _ _ hlt
    · rw [if_neg e1, if_neg hne]
      by_cases e2 : (k - 1) / 2 = j
      · rw [if_pos e2]
        have := h.c k h1 hk e2 h0
        rw [hi] at this
        exact this
      · rw [if_neg e2]
        by_cases e3 : (k - 1) / 2 = i
        · rw [if_pos e3]
          have := h.a k h1 hk e1
          rw [edge, e3] at this
          exact O.tr _ _ _ (O.asy _ _ hlt) this
        · rw [if_neg e3]
          exact h.a k h1 hk e1
  · have h4 : lt (at' l i) (at' l ((i - 1) / 2)) = false := h.a i h2 (by omega) (by omega)
    rw [ha, ha, if_neg (by omega : (i - 1) / 2 ≠ j), if_neg (by omega : (i - 1) / 2 ≠ i)]
    by_cases e1 : k = j
    · rw [if_pos e1]; exact h4
    · rw [if_neg e1, if_neg (by omega)]
      have := h.a k h1 hk e1
      rw [edge, hp] at this
      exact O.tr _ _ _ h4 this
theorem up_spec (O : Ord lt) : ∀ (m : Nat) (l : List α) (j n : Nat), UInv lt n j l → n ≤ l.length → j < n → j < m →
    (upF lt m l j).length = l.length ∧ (upF lt m l j).Perm l ∧ (∀ k, n ≤ k → at' (upF lt m l j) k = at' l k) ∧ HeapP lt 0 n (upF lt m l j) := by
  intro m
  induction m with
  | zero => intro l j n h hl hj hm; omega
  | succ m ih =>
    intro l j n h hl hj hm
    unfold upF
    split
    · rename_i h1
      obtain rfl : j = 0 := by omega
      exact ⟨rfl, .refl _, fun _ _ => rfl, fun k h0 hk _ => h.a k h0 hk (by omega)⟩
    · rename_i h1
      split
      · rename_i h2
        obtain ⟨a1, a2, a3, a4⟩ := ih (swp l ((j - 1) / 2) j) ((j - 1) / 2) n (h.step O hl hj (by omega) h2) (by rw [swp_len]; exact hl) (by omega) (by omega)
        refine ⟨by rw [a1, swp_len], a2.trans (swp_perm (by omega) (by omega)), fun k hk => ?_, a4⟩
        rw [a3 k hk, swp_at (by omega) (by omega), if_neg (by omega), if_neg (by omega)]
      · rename_i h2
        refine ⟨rfl, .refl _, fun _ _ => rfl, fun k h0 hk _ => ?_⟩
        by_cases e : k = j
        · subst e; exact Bool.eq_false_iff.2 h2
        · exact h.a k h0 hk e
def initG (lt : α → α → Bool) : Nat → List α → List α
  | 0, l => l
  | i + 1, l => initG lt i (downF lt (l.length + 1) l i l.length).1
def pushF (lt : α → α → Bool) (l : List α) (x : α) : List α := upF lt (l.length + 1) (l ++ [x]) l.length
theorem initG_spec (O : Ord lt) : ∀ (i : Nat) (l : List α), HeapP lt i l.length l → (initG lt i l).length = l.length ∧ (initG lt i l).Perm l ∧ HeapP lt 0 l.length (initG lt i l) := by
  intro i
  induction i with
  | zero => intro l h; exact ⟨rfl, .refl _, h⟩
  | succ i ih =>
    intro l h
    unfold initG
    have hd : DInv lt i l.length i False l := ⟨fun k h0 hk hlk hp _ => h k h0 hk (by omega), fun k h0 hk hp hi hlo => by omega⟩
    obtain ⟨a1, a2, a3, a4, a5, a6⟩ := down_spec O (l.length + 1) l i l.length i False hd (Nat.le_refl _) (Nat.le_refl _) (by omega)
    generalize (downF lt (l.length + 1) l i l.length).2 = i2 at *
    generalize (downF lt (l.length + 1) l i l.length).1 = l2 at *
    obtain ⟨b1, b2, b3⟩ := ih l2 (fun k h0 hk hlk => a6 k h0 (by omega) hlk fun e => by omega)
    exact ⟨by omega, b2.trans a2, by rw [← a1]; exact b3⟩
theorem push_spec (O : Ord lt) {l : List α} {x : α} (h : HeapP lt 0 l.length l) : (pushF lt l x).length = l.length + 1 ∧ (pushF lt l x).Perm (x :: l) ∧ HeapP lt 0 (l.length + 1) (pushF lt l x) := by
  have hu : UInv lt (l.length + 1) l.length (l ++ [x]) := ⟨fun k h0 hk hne => by
    have := h k h0 (by omega) (Nat.zero_le _)
    show lt (at' (l ++ [x]) k) (at' (l ++ [x]) ((k - 1) / 2)) = false
    rw [at_append (by omega), at_append (by omega)]
    exact this, fun k h0 hk hp h1 => by omega⟩
  obtain ⟨a1, a2, a3, a4⟩ := up_spec O (l.length + 1) (l ++ [x]) l.length (l.length + 1) hu (by simp) (by omega) (by omega)
  exact ⟨by rw [pushF, a1]; simp, a2.trans (List.perm_append_singleton _ _), a4⟩
end
end Go.Proofs.Ytfmpaoolplnpjaa.A

namespace Go.Proofs.Ytfmpaoolplnpjaa.A
open Go Go.Vm
set_option maxRecDepth 10000
set_option linter.unusedVariables false
structure HeapI {α : Type} [Inhabited α] (lt : α → α → Bool) (t : TypeId) (v : Value) (St : Heap → List α → Prop) : Prop where
  bd : ∀ {h l}, St h l → l.length < 1000000
  len : ∀ {h l}, St h l → MRuns Try.prog T0 t v "Len" [] h (fun r h' => r = .int .i64 l.length ∧ St h' l)
  less : ∀ {h l} {i k : Nat}, St h l → i < l.length → k < l.length → MRuns Try.prog T0 t v "Less" [.int .i64 i, .int .i64 k] h (fun r h' => r = .bool (lt (at' l i) (at' l k)) ∧ St h' l)
  swap : ∀ {h l} {i k : Nat}, St h l → i < l.length → k < l.length → MRuns Try.prog T0 t v "Swap" [.int .i64 i, .int .i64 k] h (fun r h' => St h' (swp l i k))
section
variable {α : Type} [Inhabited α] {lt : α → α → Bool} {t : TypeId} {v : Value} {St : Heap → List α → Prop}
theorem down_len : ∀ (q : Nat) (l : List α) (i n : Nat), (downF lt q l i n).1.length = l.length
  | 0, _, _, _ => rfl
  | q + 1, l, i, n => by
    unfold downF
    split
    · rfl
    · split
      · rw [down_len q, swp_len]
      · rfl
end
end Go.Proofs.Ytfmpaoolplnpjaa.A

namespace Go.Proofs.Ytfmpaoolplnpjaa.A
open Go Go.Vm
set_option maxRecDepth 10000
set_option linter.unusedVariables false
section
variable {α : Type} [Inhabited α] {lt : α → α → Bool} {t : TypeId} {v : Value} {St : Heap → List α → Prop}
theorem half_nat (j : Nat) (hj : j < 1000000) : IntKind.i64.wrap (((j : Int) - 1).tdiv 2) = (((j - 1) / 2 : Nat) : Int) := by
  by_cases h0 : j = 0
  · subst h0; decide
  · have : ((j : Int) - 1).tdiv 2 = (((j - 1) / 2 : Nat) : Int) := by
      rw [Int.tdiv_eq_ediv_of_nonneg (by omega)]; omega
    rw [this]
    exact (inr_i64 (by omega)).eq
set_option maxHeartbeats 4000000 in
theorem up_ok (H : HeapI lt t v St) {h : Heap} {l : List α} {j q : Nat} (hs : St h l) (hj : j < l.length) (hq : j < q) :
    Runs Try.prog T0 (.fn fn_zgQ) [.iface t v, .int .i64 j] h (fun r h' => St h' (upF lt q l j)) (fun _ _ => False) := by
  have hb0 := H.bd hs
  refine zgQ_runs ?_
  refine stp ?_
  refine loop1 zgQ_l0_M 1 (fun k v1 hx => ∃ (j' : Nat) (l' : List α), v1 = .int .i64 j' ∧ St hx l' ∧ l'.length = l.length ∧ upF lt k l' j' = upF lt q l j ∧ j' < l.length ∧ j' < k) ?_ q ⟨j, l, rfl, hs, rfl, rfl, hj, hq⟩
  rintro m v1 h' x4 x5 x6 x7 x8 x9 x10 x11 x12 x13 x14 x15 x16 x17 x18 x19 x20 x21 x22 ⟨j', l', rfl, hs', hl', he, hj', hk⟩
  obtain ⟨k, rfl⟩ : ∃ k', m = k' + 1 := ⟨m - 1, by omega⟩
  rw [upF] at he
  refine stp ?_
  refine O.how (XOp.quoI (by decide)) ?_
  rw [half_nat j' (by omega)]
  refine stp ?_
  refine O.dec (fun h1 => ?_) (fun h1 => ?_)
  · refine stp ?_
    rw [if_pos (by omega)] at he
    rw [← he]
    exact hs'
  rw [if_neg (by omega)] at he
  refine stp ?_
  refine O.methT (H.less hs' (by omega) (by omega)) (fun r h3 hr => ?_)
  obtain ⟨rfl, hs3⟩ := hr
  refine stp ?_
  refine C.ifB (fun h4 => ?_) (fun h4 => ?_)
  · refine stp ?_
    rw [if_neg (by intro e; rw [e] at h4; exact absurd h4 (by decide))] at he
    rw [← he]
    exact hs3
  · refine stp ?_
    refine O.meth (H.swap hs3 (by omega) (by omega)) (fun r h7 hs7 => ?_)
    refine stp ?_
    rw [if_pos (by simpa using h4)] at he
    exact loop1a 1 k (by omega) ⟨_, _, rfl, hs7, by rw [swp_len]; exact hl', he, by omega, by omega⟩
theorem hPush_ok (H : HeapI lt t v St) {h : Heap} {l : List α} {x : Value} {e : α} (hs : St h l) (hp : MRuns Try.prog T0 t v "Push" [x] h (fun _ h' => St h' (l ++ [e]))) :
    Runs Try.prog T0 (.fn fn_zdQ) [.iface t v, x] h (fun _ h' => St h' (pushF lt l e)) (fun _ _ => False) := by
  refine zdQ_runs ?_
  refine stp ?_
  refine O.meth hp (fun r h1 hs1 => ?_)
  have hb0 := H.bd hs1
  rw [List.length_append, List.length_singleton] at hb0
  refine stp ?_
  refine O.meth (H.len hs1) (fun r h2 hr => ?_)
  obtain ⟨rfl, hs2⟩ := hr
  have e1 : ((l ++ [e]).length : Int) - 1 = ((l.length : Nat) : Int) := by rw [List.length_append, List.length_singleton]; omega
  haveI : InR .i64 (((l ++ [e]).length : Int) - 1) := by rw [e1]; exact inr_i64 (by omega)
  refine stp ?_
  rw [e1]
  refine O.call' (up_ok H (q := l.length + 1) (j := l.length) hs2 (by rw [List.length_append, List.length_singleton]; omega) (by omega)) (fun r h3 hs3 => ?_)
  refine stp ?_
  exact hs3
end
end Go.Proofs.Ytfmpaoolplnpjaa.A

namespace Go.Proofs.Ytfmpaoolplnpjaa.A
open Go Go.Vm
set_option maxRecDepth 10000
set_option linter.unusedVariables false
def cutQ1 (m : List Nat) (ts : List Value) (ds : List Deferred) (rd : Option Nat) (e0 : Exit) (E : Value → Heap → Prop) (Q : QP) : QP := fun e s =>
  (e = e0 ∧ ∃ v h us, s = ⟨fillM m [v] us ts, ds, h, rd⟩ ∧ E v h) ∨ Q e s
def cutQ2 (m : List Nat) (ts : List Value) (ds : List Deferred) (rd : Option Nat) (e0 : Exit) (E : Value → Value → Heap → Prop) (Q : QP) : QP := fun e s =>
  (e = e0 ∧ ∃ v w h us, s = ⟨fillM m [v, w] us ts, ds, h, rd⟩ ∧ E v w h) ∨ Q e s
section
variable {P : Program} {T : Table} {c : ACode} {ts us : List Value} {ds : List Deferred} {h : Heap} {rd : Option Nat} {Q : QP} {m : List Nat} {e0 : Exit}
theorem cutQ1.out {E : Value → Heap → Prop} (i0 : Nat) {v : Value} [LGet us i0 v] (hE : E v h) (ha : fillM m [v] us ts = us := by rfl) : cutQ1 m ts ds rd e0 E Q e0 ⟨us, ds, h, rd⟩ :=
  .inl ⟨rfl, v, h, us, by rw [ha], hE⟩
theorem cutQ1.pass {E : Value → Heap → Prop} {e : Exit} {s : St} (hq : Q e s) : cutQ1 m ts ds rd e0 E Q e s := .inr hq
theorem cut1 (m : List Nat) (e0 : Exit) (E : Value → Heap → Prop) (hc : RunC P T c ⟨ts, ds, h, rd⟩ (cutQ1 m ts ds rd e0 E Q)) (hk : ∀ v h', allM m [v] ts fun l => E v h' → Q e0 ⟨l, ds, h', rd⟩) : RunC P T c ⟨ts, ds, h, rd⟩ Q :=
  hc.mono fun e s hq => by
    rcases hq with ⟨rfl, v, h', us, rfl, hE⟩ | hq
    · exact allM_fill (hk v h') us hE
    · exact hq
theorem cutQ2.out {E : Value → Value → Heap → Prop} (i0 i1 : Nat) {v w : Value} [LGet us i0 v] [LGet us i1 w] (hE : E v w h) (ha : fillM m [v, w] us ts = us := by rfl) : cutQ2 m ts ds rd e0 E Q e0 ⟨us, ds, h, rd⟩ :=
  .inl ⟨rfl, v, w, h, us, by rw [ha], hE⟩
theorem cutQ2.pass {E : Value → Value → Heap → Prop} {e : Exit} {s : St} (hq : Q e s) : cutQ2 m ts ds rd e0 E Q e s := .inr hq
theorem cut2 (m : List Nat) (e0 : Exit) (E : Value → Value → Heap → Prop) (hc : RunC P T c ⟨ts, ds, h, rd⟩ (cutQ2 m ts ds rd e0 E Q)) (hk : ∀ v w h', allM m [v, w] ts fun l => E v w h' → Q e0 ⟨l, ds, h', rd⟩) : RunC P T c ⟨ts, ds, h, rd⟩ Q :=
  hc.mono fun e s hq => by
    rcases hq with ⟨rfl, v, w, h', us, rfl, hE⟩ | hq
    · exact allM_fill (hk v w h') us hE
    · exact hq
end
end Go.Proofs.Ytfmpaoolplnpjaa.A

namespace Go.Proofs.Ytfmpaoolplnpjaa.A
open Go Go.Vm
set_option maxRecDepth 10000
set_option linter.unusedVariables false
end Go.Proofs.Ytfmpaoolplnpjaa.A

namespace Go.Proofs.Ytfmpaoolplnpjaa.A
open Go Go.Vm
set_option maxRecDepth 10000
set_option linter.unusedVariables false
section
variable {P : Program} {T : Table} {ts : List Value} {ds : List Deferred} {h : Heap} {rd : Option Nat} {dst size bytes n m el : Nat} {zero : List Value} {zeros : Bool} {x y : Operand} {v w : Value} {c d : List Value} {chk : List (Option Nat × AOp × Option (Nat × Bool))} {pan : Bool} {rest : List AOper} {Q : QP} {F : Value → List Value}
theorem D.appendC [e1 : Ev ts x v] [e2 : Ev ts y w] [s : LSetF ts dst F] (ho : Own h size v c n) (hx : newCells h size zero zeros w = some (m, d)) (hd : d.length = m * size) (h1 : d.all Value.oneCell' = true) (hs : size ≠ 0) (hb : bytes < 1048576) (hsm : n + m < 1048576)
    (hk : ∀ v' h', Own h' size v' (c ++ d) (n + m) → Fr (ownedBy v) h h' → (∀ i, ownedBy v' i → ownedBy v i ∨ h.n ≤ i) → chk.all (stable P (F v') h') = true ∧ RunD P T rest ⟨F v', ds, h', rd⟩ Q) : RunD P T (⟨some dst, .append el size bytes zero zeros x y, none, chk, pan⟩ :: rest) ⟨ts, ds, h, rd⟩ Q := by
  obtain ⟨v', h', hx, h2, h3, h4⟩ := append_own hs hb hsm ho hx hd h1
  exact RunD.cons rfl (RunX.ok (h' := h') (v := v') (fun call => by rw [xo_plain rfl]; simp only [xop, e1.eq, e2.eq, hx]) (by
    show chk.all (stable P (lset ts dst v') h') = true ∧ RunD P T rest ⟨lset ts dst v', ds, h', rd⟩ Q
    rw [s.eq]; exact hk v' h' h2 h3 h4))
end
end Go.Proofs.Ytfmpaoolplnpjaa.A

namespace Go.Proofs.Ytfmpaoolplnpjaa.A
open Go Go.Vm
set_option maxRecDepth 10000
set_option linter.unusedVariables false
theorem pcell_at {h : Heap} {b o n k : Nat} {l : List Nat} (hc : cellsAt h b o (n * 1) = some (pcells l)) (hn : l.length = n) (hk : k < n) : Cell h b (o + k) (.pointer (some ⟨l.getD k 0, 0, none⟩)) := ⟨by
  have := cellsAt_sub (k := k) (m := 1) hc (by omega)
  rw [this]
  subst hn
  unfold pcells
  have g : l.getD k 0 = l[k] := by simp [List.getD, hk]
  rw [← List.map_drop, List.drop_eq_getElem_cons hk, List.map_cons, g]
  rfl⟩
end Go.Proofs.Ytfmpaoolplnpjaa.A

namespace Go.Proofs.Ytfmpaoolplnpjaa.A
open Go Go.Vm
set_option maxRecDepth 10000
set_option linter.unusedVariables false
def cmpI (a b : Int) : Int := if a < b then -1 else if b < a then 1 else 0
def orI (a b : Int) : Int := if a = 0 then b else a
theorem isNaN_ok {h : Heap} {a : Int} : Runs Try.prog T0 (.fn fn_zcQ) [.int .i64 a] h (fun r h' => r = .bool false ∧ h' = h) (fun _ _ => False) := by
  refine zcQ_runs ?_
  refine stp ?_
  exact ⟨by simp, rfl⟩
theorem Compare_ok {h : Heap} {a b : Int} : Runs Try.prog T0 (.fn fn_zaQ) [.int .i64 a, .int .i64 b] h (fun r h' => r = .int .i64 (cmpI a b) ∧ h' = h) (fun _ _ => False) := by
  refine zaQ_runs ?_
  refine stp ?_
  refine O.call' isNaN_ok (fun r h1 hr => ?_)
  obtain ⟨rfl, rfl⟩ := hr
  refine stp ?_
  refine O.call' isNaN_ok (fun r h1 hr => ?_)
  obtain ⟨rfl, rfl⟩ := hr
  refine stp ?_
  unfold cmpI
  refine C.if (fun h1 => ?_) (fun h1 => ?_)
  · refine stp ?_
    rw [if_pos h1]
    exact ⟨rfl, rfl⟩
  · refine stp ?_
    rw [if_neg h1]
    refine C.if (fun h2 => ?_) (fun h2 => ?_)
    · refine stp ?_
      rw [if_pos h2]
      exact ⟨rfl, rfl⟩
    · refine stp ?_
      rw [if_neg h2]
      exact ⟨rfl, rfl⟩
theorem Or_ok {h : Heap} {q : Nat} {a b : Int} (hq : h.get q = .cells [.int .i64 a, .int .i64 b] 0) (ql : q < h.n) : Runs Try.prog T0 (.fn fn_zbQ) [.slice (some ⟨q, 0, none⟩) 2 2] h (fun r h' => r = .int .i64 (orI a b) ∧ h' = h) (fun _ _ => False) := by
  haveI : HGet h q _ := ⟨hq⟩
  refine zbQ_runs ?_
  refine stp ?_
  refine loop1 zbQ_l0_M 8 (fun m v8 hx => hx = h ∧ (m = 2 ∧ v8 = .int .i64 0 ∨ m = 1 ∧ v8 = .int .i64 1 ∧ a = 0 ∨ m = 0 ∧ v8 = .int .i64 2 ∧ a = 0 ∧ b = 0)) ?_ 2 ⟨rfl, .inl ⟨rfl, rfl⟩⟩
  rintro m v8 h' x2 x5 x9 x10 x11 x12 x13 x14 x15 x16 ⟨rfl, ⟨rfl, rfl⟩ | ⟨rfl, rfl, ha⟩ | ⟨rfl, rfl, ha, hb⟩⟩
  · refine stp ?_
    refine C.ifN (fun e1 => ?_) (fun e1 => ?_)
    · refine stp ?_
      unfold orI
      rw [if_neg e1]
      exact ⟨rfl, rfl⟩
    · refine stp ?_
      exact loop1a 8 1 (by omega) ⟨rfl, .inr (.inl ⟨rfl, rfl, e1⟩)⟩
  · refine stp ?_
    refine C.ifN (fun e1 => ?_) (fun e1 => ?_)
    · refine stp ?_
      unfold orI
      rw [if_pos ha]
      exact ⟨rfl, rfl⟩
    · refine stp ?_
      exact loop1a 8 0 (by omega) ⟨rfl, .inr (.inr ⟨rfl, rfl, ha, e1⟩)⟩
  · refine stp ?_
    unfold orI
    rw [if_pos ha, hb]
    exact ⟨rfl, rfl⟩
end Go.Proofs.Ytfmpaoolplnpjaa.A

namespace Go.Proofs.Ytfmpaoolplnpjaa.A
open Go Go.Vm
set_option maxRecDepth 10000
set_option linter.unusedVariables false
theorem at_map {α β : Type} [Inhabited α] [Inhabited β] (f : α → β) {l : List α} {i : Nat} (hi : i < l.length) : at' (l.map f) i = f (at' l i) := by
  simp only [at', List.getD_eq_getElem?_getD, List.getElem?_map, List.getElem?_eq_getElem hi, Option.map_some, Option.getD_some]
theorem pget {l : List Nat} {j : List Value} {i : Nat} (hi : i < l.length) : CGet (pcells l ++ j) i (.pointer (some ⟨at' l i, 0, none⟩)) := by
  refine ⟨?_, by rw [List.length_append, pcells_len]; omega⟩
  induction l generalizing i with
  | nil => simp at hi
  | cons a l ih =>
    cases i with
    | zero => rfl
    | succ i => exact ih (by simpa using hi)
theorem pover {l : List Nat} {j : List Value} {i : Nat} {x : Nat} (hi : i < l.length) : Over (pcells l ++ j) i [.pointer (some ⟨x, 0, none⟩)] (pcells (l.set i x) ++ j) := by
  refine ⟨by rw [List.length_append, pcells_len]; simp; omega, ?_⟩
  induction l generalizing i with
  | nil => simp at hi
  | cons a l ih =>
    cases i with
    | zero => show Value.pointer (some ⟨x, 0, none⟩) :: over (pcells l ++ j) 0 [] = _; rw [over_nil]; rfl
    | succ i => show Value.pointer (some ⟨a, 0, none⟩) :: over (pcells l ++ j) i [.pointer (some ⟨x, 0, none⟩)] = _; rw [ih (by simpa using hi)]; rfl
section
variable {lt : Nat → Nat → Bool} {fd : FuncId} {q n a b cap : Nat} {sp : Option Nat} {j : List Value} {G : Nat → Prop} {h0 h : Heap} {l m : List Nat}
end
end Go.Proofs.Ytfmpaoolplnpjaa.A
