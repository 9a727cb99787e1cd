/- Contracts of functions, over the machine. -/
import Derived.Test.YtlckmpioipiihaaGreatRows
import Derived.Test.YtlckmpioipiihaaGreatVK
import Derived.Test.YtlckmpioipiihaaGreatVL
namespace Go.Vm
abbrev U : Value := undef
abbrev tm (n : Nat) : Operand := .tmp n
abbrev k0 : Operand := .const (.int .i64 0)
abbrev o1 (d : Nat) (x : AOp) : AOper := ⟨some d, x, none, [], false⟩
abbrev o2 (d : Nat) (x : AOp) : AOper := ⟨some d, x, none, [], true⟩
abbrev o3 (x : AOp) : AOper := ⟨none, x, none, [], false⟩
abbrev o4 (d : Nat) (x : AOp) (t : Nat) : AOper := ⟨some d, x, some (t, true), [], false⟩
abbrev o5 (d : Nat) (x : AOp) (t : Nat) : AOper := ⟨some d, x, some (t, false), [], false⟩
end Go.Vm
set_option linter.unusedSimpArgs false
noncomputable section
set_option maxRecDepth 100000
set_option linter.unusedVariables false
namespace Go.Proofs.YtlckmpioipiihaaGreat.K
open Go Go.Vm
abbrev ty_internal_abi_BoundsErrorCode : TypeId := 6
abbrev ty_runtime_boundsError : TypeId := 8
abbrev ty_runtime_errorString : TypeId := 10
abbrev ty_runtime_plainError : TypeId := 11
abbrev ty_runtime_errorAddressString : TypeId := 14
abbrev ty_internal_runtime_maps_unhashableTypeError : TypeId := 19
abbrev ty_api_Hash : TypeId := 23
abbrev ty_api_Header : TypeId := 25
abbrev ty_api_Commit : TypeId := 28
abbrev ty_api_Block : TypeId := 31
abbrev ty_api_Errno : TypeId := 40
abbrev ty_ll25_Act : TypeId := 51
abbrev ty_cross_state : TypeId := 64
abbrev ty_cross_witness : TypeId := 66
abbrev ty_cross_Cross : TypeId := 69
abbrev ty_lr25_Cross : TypeId := 72
abbrev ty_iter_Seq2_int__cross_witness_ : TypeId := 81
abbrev ty_api_Key : TypeId := 87
abbrev ty_api_Validator : TypeId := 89
abbrev ty_api_Vote : TypeId := 94
abbrev ty_header_rule : TypeId := 129
abbrev ty_wire_Writer : TypeId := 131
abbrev ty_blake_words : TypeId := 135
abbrev ty_blake_counter : TypeId := 139
abbrev ty_blake_State : TypeId := 141
abbrev ty_lr04_Writer : TypeId := 146
abbrev ty_blake_four : TypeId := 159
abbrev ty_runtime_TypeAssertionError : TypeId := 170
abbrev ty_runtime_PanicNilError : TypeId := 173
abbrev ty_internal_abi_TFlag : TypeId := 174
abbrev ty_internal_abi_Kind : TypeId := 175
abbrev ty_internal_abi_NameOff : TypeId := 178
abbrev ty_internal_abi_TypeOff : TypeId := 179
abbrev ty_internal_abi_Type : TypeId := 181
instance : IsIface Tryz.prog 20 := ⟨by kernel_rfl⟩
abbrev prims : List FuncId := [6]
abbrev kepts : List FuncId := []
def T0 : Table := holed Tryz.prog prims
instance : IsBoolT Tryz.prog 4 := ⟨by kernel_rfl⟩
abbrev fn_zfQ : FuncId := 52
def zfQ_c : ACode :=
 (.seq (.region [
 o1 2 (.alloc 23 z32)]) (.seq (.region [
 o1 6 (.callV (.func 62) []),
 o1 3 (.mov (tm 6))]) (.seq (.region [
 o1 7 (.mov (tm 3)),
 o1 8 (.mov (tm 0)),
 o1 9 (.callV (.func 63) [(tm 7), (tm 8)])]) (.seq (.region [
 o1 11 (.mov (tm 3)),
 o1 12 (.callV (.func 64) [(tm 11)]),
 o1 10 (.mov (tm 12)),
 o1 13 (.extract 0 (tm 10)),
 o1 14 (.extract 1 (tm 10)),
 o1 4 (.alloc 23 z32),
 o3 (.store 32 (tm 4) (tm 13)),
 o1 5 (.mov (tm 14))]) (.seq (.region [
 o1 15 (.load (some 32) (tm 4)),
 o3 (.store 32 (tm 2) (tm 15))]) .ret)))))
def zfQ : AFunc := ⟨16, [(2, some (some 32))], zfQ_c, none⟩
theorem zfQ_t0 : tableOf Tryz.prog 52 = some zfQ := by kernel_rfl
theorem zfQ_t : T0 52 = some zfQ := holed_t rfl zfQ_t0
theorem zfQ_runs {v0 : Value} {h : Heap} {R : RP} {X : XP} (k : RunC Tryz.prog T0 zfQ_c ⟨[v0, U, U, U, U, U, U, U, U, U, U, U, U, U, U, U], [], h, none⟩ (bodyQ Tryz.prog T0 [(2, some (some 32))] R X)) :
 Runs Tryz.prog T0 (.fn 52) [v0] h R X := Runs.fn zfQ_t rfl k
abbrev fn_zaQ : FuncId := 62
def zaQ_c : ACode :=
 (.seq (.region [
 o1 0 (.mov (.const (.pointer none)))]) (.seq (.region [
 o1 2 (.callV (.func 76) []),
 o1 1 (.alloc 135 [(.int .u32 0), (.int .u32 0), (.int .u32 0), (.int .u32 0), (.int .u32 0), (.int .u32 0), (.int .u32 0), (.int .u32 0)]),
 o3 (.store 8 (tm 1) (tm 2))]) (.seq (.region [
 o1 3 (.indexArr 8 1 (tm 1) k0),
 o1 4 (.load none (tm 3)),
 o1 5 (.bin .xor (so (.binOp .xor 120 (tm 4) (.const (.int .u32 16842784)) 120) 120) (tm 4) (.const (.int .u32 16842784))),
 o1 6 (.indexArr 8 1 (tm 1) k0),
 o3 (.store 1 (tm 6) (tm 5))]) (.seq (.region [
 o1 7 (.build [(.int .i64 0)] []),
 o1 8 (.box 139 (tm 7)),
 o1 9 (.load (some 8) (tm 1)),
 o1 10 (.build [(.pointer none), (.int .u32 0), (.int .u32 0), (.int .u32 0), (.int .u32 0), (.int .u32 0), (.int .u32 0), (.int .u32 0), (.int .u32 0), (.slice none 0 0)] [(0, 1, (tm 8)), (1, 8, (tm 9))]),
 o1 11 (.box 141 (tm 10)),
 o1 0 (.mov (tm 11))]) .ret))))
def zaQ : AFunc := ⟨12, [(0, none)], zaQ_c, none⟩
theorem zaQ_t0 : tableOf Tryz.prog 62 = some zaQ := by kernel_rfl
theorem zaQ_t : T0 62 = some zaQ := holed_t rfl zaQ_t0
theorem zaQ_runs {v : Value} {h : Heap} {R : RP} {X : XP} (k : RunC Tryz.prog T0 zaQ_c ⟨[undef, U, U, U, U, U, U, U, U, U, U, U], [], h, none⟩ (bodyQ Tryz.prog T0 [(0, none)] R X)) :
 Runs Tryz.prog T0 (.fn 62) [] h R X := Runs.fn zaQ_t rfl k
abbrev fn_zdQ : FuncId := 63
def zdQ_l0 : ACode :=
 (.seq (.seq (.region [
 o1 16 (.mov (tm 0)),
 o1 17 (.nilCheck (tm 16)),
 o1 18 (.fieldAddr 9 (tm 17)),
 o1 19 (.load none (tm 18)),
 o1 20 (.lenSl (tm 19)),
 o1 21 (.bin .gtr (so (.binOp .gtr 3 (tm 20) (.const (.int .i64 64)) 3) 4) (tm 20) (.const (.int .i64 64)))]) (.cond (tm 21)
 .skip
 (.exit 0))) (.block 1 (.seq (.region [
 o1 22 (.mov (tm 0)),
 o1 23 (.nilCheck (tm 22)),
 o1 24 (.fieldAddr 0 (tm 23)),
 o1 25 (.load none (tm 24)),
 o1 26 (.callV (.func 78) [(tm 25), (.const (.int .i64 64))])]) (.seq (.regionD [
 o1 27 (.mov (tm 0)),
 o1 28 (.nilCheck (tm 27)),
 o1 29 (.fieldAddr 1 (tm 28)),
 o1 30 (.mov (tm 0)),
 o1 31 (.nilCheck (tm 30)),
 o1 32 (.fieldAddr 9 (tm 31)),
 o1 33 (.load none (tm 32)),
 o1 34 (.sliceSl 1 (tm 33) none (some (.const (.int .i64 64))) none),
 o1 35 (.mov (tm 0)),
 o1 36 (.nilCheck (tm 35)),
 o1 37 (.fieldAddr 0 (tm 36)),
 o1 38 (.load none (tm 37)),
 o1 39 (.nilCheck (tm 38)),
 o1 40 (.fieldAddr 0 (tm 39)),
 o1 41 (.load none (tm 40)),
 o2 42 (.callV (.func 79) [(tm 29), (tm 34), (tm 41), (.const (.bool false))])]) (.region [
 o1 43 (.mov (tm 0)),
 o1 44 (.mov (tm 0)),
 o1 45 (.nilCheck (tm 44)),
 o1 46 (.fieldAddr 9 (tm 45)),
 o1 47 (.load none (tm 46)),
 o1 48 (.sliceSl 1 (tm 47) (some (.const (.int .i64 64))) none none),
 o1 49 (.nilCheck (tm 43)),
 o1 50 (.fieldAddr 9 (tm 49)),
 o3 (.store 1 (tm 50) (tm 48))])))))
def zdQ_c : ACode :=
 (.seq (.region [
 o1 4 (.mov k0)]) (.seq (.seq (.region [
 o1 5 (.mov (tm 0)),
 o1 6 (.callV (.func 77) [(tm 5)])]) (.cond (tm 6)
 (.seq (.region [
 o1 4 (.mov (.const (.int .i64 1)))]) .ret)
 .skip)) (.seq (.region [
 o1 7 (.mov (tm 0)),
 o1 8 (.mov (tm 0)),
 o1 9 (.nilCheck (tm 8)),
 o1 10 (.fieldAddr 9 (tm 9)),
 o1 11 (.load none (tm 10)),
 o1 12 (.mov (tm 1)),
 o1 13 (.append 5 1 1 [(.int .u8 0)] false (tm 11) (tm 12)),
 o1 14 (.nilCheck (tm 7)),
 o1 15 (.fieldAddr 9 (tm 14)),
 o3 (.store 1 (tm 15) (tm 13))]) (.seq (.block 0 (.loop zdQ_l0)) (.seq (.region [
 o1 4 (.mov k0)]) .ret)))))
def zdQ : AFunc := ⟨51, [(4, none)], zdQ_c, none⟩
theorem zdQ_t0 : tableOf Tryz.prog 63 = some zdQ := by kernel_rfl
theorem zdQ_t : T0 63 = some zdQ := holed_t rfl zdQ_t0
theorem zdQ_runs {v0 v1 : Value} {h : Heap} {R : RP} {X : XP} (k : RunC Tryz.prog T0 zdQ_c ⟨[v0, v1, U, U, U, U, U, U, U, U, U, U, U, U, U, U, U, U, U, U, U, U, U, U, U, U, U, U, U, U, U, U, U, U, U, U, U, U, U, U, U, U, U, U, U, U, U, U, U, U, U], [], h, none⟩ (bodyQ Tryz.prog T0 [(4, none)] R X)) :
 Runs Tryz.prog T0 (.fn 63) [v0, v1] h R X := Runs.fn zdQ_t rfl k
abbrev zdQ_l0_M : List Nat := [0, 0, 0, 0, 0, 0, 0, 0, 0, 0, 0, 0, 0, 0, 0, 0, 1, 1, 1, 1, 1, 1, 1, 1, 1, 1, 1, 1, 1, 1, 1, 1, 1, 1, 1, 1, 1, 1, 1, 1, 1, 1, 1, 1, 1, 1, 1, 1, 1, 1, 1]
abbrev fn_zcQ : FuncId := 64
def zcQ_l0 : ACode :=
 (.seq (.region [
 o1 31 (.bin .lss (so (.binOp .lss 3 (tm 30) (.const (.int .i64 32)) 3) 0) (tm 30) (.const (.int .i64 32)))]) (.seq (.cond (tm 31)
 .skip
 (.exit 0)) (.seq (.block 1 (.seq (.region [
 o1 32 (.mov (tm 30)),
 o1 6 (.mov (tm 32))]) (.region [
 o1 33 (.mov (tm 6)),
 o1 34 (.mov (tm 6)),
 o1 35 (.bin .quo (so (.binOp .quo 3 (tm 34) (.const (.int .i64 4)) 3) 3) (tm 34) (.const (.int .i64 4))),
 o1 36 (.indexArr 8 1 (tm 4) (tm 35)),
 o1 37 (.load none (tm 36)),
 o1 38 (.mov (tm 6)),
 o1 39 (.bin .rem (so (.binOp .rem 3 (tm 38) (.const (.int .i64 4)) 3) 3) (tm 38) (.const (.int .i64 4))),
 o1 40 (.bin .mul (so (.binOp .mul 3 (.const (.int .i64 8)) (tm 39) 3) 3) (.const (.int .i64 8)) (tm 39)),
 o1 41 (.bin .shr (so (.binOp .shr 120 (tm 37) (tm 40) 3) 120) (tm 37) (tm 40)),
 o1 42 (.conv .u8 (so (.convert 120 5 (tm 41)) 5) (tm 41)),
 o1 43 (.indexArr 32 1 (tm 2) (tm 33)),
 o3 (.store 1 (tm 43) (tm 42))]))) (.region [
 o1 44 (.bin .add (so (.binOp .add 3 (tm 30) (.const (.int .i64 1)) 3) 3) (tm 30) (.const (.int .i64 1))),
 o1 30 (.mov (tm 44))]))))
def zcQ_c : ACode :=
 (.seq (.region [
 o1 2 (.alloc 23 z32),
 o1 3 (.mov k0)]) (.seq (.seq (.region [
 o1 7 (.mov (tm 0)),
 o1 8 (.callV (.func 77) [(tm 7)])]) (.cond (tm 8)
 (.seq (.region [
 o1 9 (.build z32 []),
 o3 (.store 32 (tm 2) (tm 9)),
 o1 3 (.mov (.const (.int .i64 1)))]) .ret)
 .skip)) (.seq (.region [
 o1 10 (.mov (tm 0)),
 o1 11 (.nilCheck (tm 10)),
 o1 12 (.fieldAddr 1 (tm 11)),
 o1 13 (.load (some 8) (tm 12)),
 o1 4 (.alloc 135 [(.int .u32 0), (.int .u32 0), (.int .u32 0), (.int .u32 0), (.int .u32 0), (.int .u32 0), (.int .u32 0), (.int .u32 0)]),
 o3 (.store 8 (tm 4) (tm 13))]) (.seq (.regionD [
 o1 14 (.mov (tm 0)),
 o1 15 (.nilCheck (tm 14)),
 o1 16 (.fieldAddr 9 (tm 15)),
 o1 17 (.load none (tm 16)),
 o1 19 (.mov (tm 0)),
 o1 20 (.nilCheck (tm 19)),
 o1 21 (.fieldAddr 9 (tm 20)),
 o1 22 (.load none (tm 21)),
 o1 23 (.lenSl (tm 22)),
 o1 24 (.bin .sub (so (.binOp .sub 3 (.const (.int .i64 64)) (tm 23) 3) 3) (.const (.int .i64 64)) (tm 23)),
 ⟨some 18, .callV (.func 75) [(tm 17)], none, [(some 24, .bin .sub (so (.binOp .sub 3 (.const (.int .i64 64)) (tm 23) 3) 3) (.const (.int .i64 64)) (tm 23), none), (some 23, .lenSl (tm 22), none), (some 22, .load none (tm 21), none), (some 21, .fieldAddr 9 (tm 20), none), (some 20, .nilCheck (tm 19), none), (some 19, .mov (tm 0), none)], false⟩,
 o2 25 (.append 5 1 1 [(.int .u8 0)] true (tm 18) (tm 24)),
 o2 5 (.mov (tm 25))]) (.seq (.region [
 o1 26 (.mov (tm 5)),
 o1 27 (.mov (tm 0)),
 o1 28 (.callV (.func 80) [(tm 27)]),
 o1 29 (.callV (.func 79) [(tm 4), (tm 26), (tm 28), (.const (.bool true))])]) (.seq (.seq (.region [
 o1 30 (.mov k0)]) (.block 0 (.loop zcQ_l0))) (.seq (.region [
 o1 45 (.load (some 32) (tm 2)),
 o3 (.store 32 (tm 2) (tm 45)),
 o1 3 (.mov k0)]) .ret)))))))
def zcQ : AFunc := ⟨46, [(2, some (some 32)), (3, none)], zcQ_c, none⟩
theorem zcQ_t0 : tableOf Tryz.prog 64 = some zcQ := by kernel_rfl
theorem zcQ_t : T0 64 = some zcQ := holed_t rfl zcQ_t0
theorem zcQ_runs {v0 : Value} {h : Heap} {R : RP} {X : XP} (k : RunC Tryz.prog T0 zcQ_c ⟨[v0, U, U, U, U, U, U, U, U, U, U, U, U, U, U, U, U, U, U, U, U, U, U, U, U, U, U, U, U, U, U, U, U, U, U, U, U, U, U, U, U, U, U, U, U, U], [], h, none⟩ (bodyQ Tryz.prog T0 [(2, some (some 32)), (3, none)] R X)) :
 Runs Tryz.prog T0 (.fn 64) [v0] h R X := Runs.fn zcQ_t rfl k
abbrev zcQ_l0_M : List Nat := [0, 0, 0, 0, 0, 0, 1, 0, 0, 0, 0, 0, 0, 0, 0, 0, 0, 0, 0, 0, 0, 0, 0, 0, 0, 0, 0, 0, 0, 0, 2, 1, 1, 1, 1, 1, 1, 1, 1, 1, 1, 1, 1, 1, 1, 0]
abbrev fn_zkdQ : FuncId := 75
def zkdQ_c : ACode :=
 (.seq (.region [
 o1 2 (.mov (.const (.slice none 0 0)))]) (.seq (.seq (.region [
 o1 3 (.mov (tm 0)),
 o1 4 (.eq .slice false (so (.binOp .eql 97 (tm 3) (.const (.slice none 0 0)) 97) 4) (tm 3) (.const (.slice none 0 0)))]) (.cond (tm 4)
 (.seq (.region [
 o1 2 (.mov (.const (.slice none 0 0)))]) .ret)
 .skip)) (.seq (.region [
 o1 5 (.buildSlice 5 [] 0 []),
 o1 6 (.mov (tm 0)),
 o1 7 (.append 5 1 1 [(.int .u8 0)] false (tm 5) (tm 6)),
 o1 2 (.mov (tm 7))]) .ret)))
def zkdQ : AFunc := ⟨8, [(2, none)], zkdQ_c, none⟩
theorem zkdQ_t0 : tableOf Tryz.prog 75 = some zkdQ := by kernel_rfl
theorem zkdQ_t : T0 75 = some zkdQ := holed_t rfl zkdQ_t0
theorem zkdQ_runs {v0 : Value} {h : Heap} {R : RP} {X : XP} (k : RunC Tryz.prog T0 zkdQ_c ⟨[v0, U, U, U, U, U, U, U], [], h, none⟩ (bodyQ Tryz.prog T0 [(2, none)] R X)) :
 Runs Tryz.prog T0 (.fn 75) [v0] h R X := Runs.fn zkdQ_t rfl k
abbrev fn_zgQ : FuncId := 76
def zgQ_c : ACode :=
 (.seq (.region [
 o1 0 (.alloc 135 [(.int .u32 0), (.int .u32 0), (.int .u32 0), (.int .u32 0), (.int .u32 0), (.int .u32 0), (.int .u32 0), (.int .u32 0)])]) (.seq (.region [
 o1 1 (.build [(.int .u32 0), (.int .u32 0), (.int .u32 0), (.int .u32 0), (.int .u32 0), (.int .u32 0), (.int .u32 0), (.int .u32 0)] [(0, 1, (.const (.int .u32 1779033703))), (1, 1, (.const (.int .u32 3144134277))), (2, 1, (.const (.int .u32 1013904242))), (3, 1, (.const (.int .u32 2773480762))), (4, 1, (.const (.int .u32 1359893119))), (5, 1, (.const (.int .u32 2600822924))), (6, 1, (.const (.int .u32 528734635))), (7, 1, (.const (.int .u32 1541459225)))]),
 o3 (.store 8 (tm 0) (tm 1))]) .ret))
def zgQ : AFunc := ⟨2, [(0, some (some 8))], zgQ_c, none⟩
theorem zgQ_t0 : tableOf Tryz.prog 76 = some zgQ := by kernel_rfl
theorem zgQ_t : T0 76 = some zgQ := holed_t rfl zgQ_t0
theorem zgQ_runs {v : Value} {h : Heap} {R : RP} {X : XP} (k : RunC Tryz.prog T0 zgQ_c ⟨[undef, U], [], h, none⟩ (bodyQ Tryz.prog T0 [(0, some (some 8))] R X)) :
 Runs Tryz.prog T0 (.fn 76) [] h R X := Runs.fn zgQ_t rfl k
abbrev fn_zeQ : FuncId := 77
def zeQ_c : ACode :=
 (.seq (.region [
 o1 2 (.mov (.const (.bool false)))]) (.seq (.region [
 o1 3 (.mov (tm 0)),
 o1 4 (.eq .ptr false (so (.binOp .eql 112 (tm 3) (.const (.pointer none)) 112) 4) (tm 3) (.const (.pointer none))),
 o1 5 (.mov (tm 4)),
 o5 6 (.mov (tm 0)) 5,
 o5 7 (.nilCheck (tm 6)) 5,
 o5 8 (.fieldAddr 0 (tm 7)) 5,
 o5 9 (.load none (tm 8)) 5,
 o5 10 (.eq .ptr false (so (.binOp .eql 137 (tm 9) (.const (.pointer none)) 137) 4) (tm 9) (.const (.pointer none))) 5,
 o1 11 (.pick (tm 5) (.const (.bool true)) (tm 10)),
 o1 2 (.mov (tm 11))]) .ret))
def zeQ : AFunc := ⟨12, [(2, none)], zeQ_c, none⟩
theorem zeQ_t0 : tableOf Tryz.prog 77 = some zeQ := by kernel_rfl
theorem zeQ_t : T0 77 = some zeQ := holed_t rfl zeQ_t0
theorem zeQ_runs {v0 : Value} {h : Heap} {R : RP} {X : XP} (k : RunC Tryz.prog T0 zeQ_c ⟨[v0, U, U, U, U, U, U, U, U, U, U, U], [], h, none⟩ (bodyQ Tryz.prog T0 [(2, none)] R X)) :
 Runs Tryz.prog T0 (.fn 77) [v0] h R X := Runs.fn zeQ_t rfl k
abbrev fn_ziQ : FuncId := 78
def ziQ_c : ACode :=
 (.region [
 o1 4 (.mov (tm 0)),
 o1 5 (.nilCheck (tm 4)),
 o1 6 (.fieldAddr 0 (tm 5)),
 o1 7 (.load none (tm 6)),
 o1 8 (.mov (tm 1)),
 o1 9 (.bin .add (so (.binOp .add 3 (tm 7) (tm 8) 3) 3) (tm 7) (tm 8)),
 o1 10 (.nilCheck (tm 4)),
 o1 11 (.fieldAddr 0 (tm 10)),
 o3 (.store 1 (tm 11) (tm 9))])
def ziQ : AFunc := ⟨12, [], ziQ_c, none⟩
theorem ziQ_t0 : tableOf Tryz.prog 78 = some ziQ := by kernel_rfl
theorem ziQ_t : T0 78 = some ziQ := holed_t rfl ziQ_t0
theorem ziQ_runs {v0 v1 : Value} {h : Heap} {R : RP} {X : XP} (k : RunC Tryz.prog T0 ziQ_c ⟨[v0, v1, U, U, U, U, U, U, U, U, U, U], [], h, none⟩ (bodyQ Tryz.prog T0 [] R X)) :
 Runs Tryz.prog T0 (.fn 78) [v0, v1] h R X := Runs.fn ziQ_t rfl k
abbrev fn_zkQ : FuncId := 79
def zkQ_l0 : ACode :=
 (.seq (.region [
 o1 32 (.bin .lss (so (.binOp .lss 3 (tm 31) (tm 30) 3) 0) (tm 31) (tm 30))]) (.seq (.cond (tm 32)
 .skip
 (.exit 2)) (.seq (.block 3 (.seq (.region [
 o1 33 (.mov (tm 31)),
 o1 34 (.indexSl 1 (tm 29) (tm 31)),
 o1 35 (.load none (tm 34)),
 o1 11 (.mov (tm 33)),
 o1 12 (.mov (tm 35))]) (.regionD [
 o1 36 (.mov (tm 10)),
 o1 37 (.indexArr 16 1 (tm 8) (tm 36)),
 o1 38 (.load none (tm 37)),
 o1 39 (.mov (tm 12)),
 o1 40 (.conv .u32 (so (.convert 5 120 (tm 39)) 120) (tm 39)),
 o1 41 (.mov (tm 11)),
 o1 42 (.bin .mul (so (.binOp .mul 3 (.const (.int .i64 8)) (tm 41) 3) 3) (.const (.int .i64 8)) (tm 41)),
 o1 43 (.bin .shl (so (.binOp .shl 120 (tm 40) (tm 42) 3) 120) (tm 40) (tm 42)),
 o2 44 (.bin .or (so (.binOp .or 120 (tm 38) (tm 43) 120) 120) (tm 38) (tm 43)),
 o2 45 (.indexArr 16 1 (tm 8) (tm 36)),
 ⟨none, .store 1 (tm 45) (tm 44), none, [], true⟩]))) (.region [
 o1 46 (.bin .add (so (.binOp .add 3 (tm 31) (.const (.int .i64 1)) 3) 3) (tm 31) (.const (.int .i64 1))),
 o1 31 (.mov (tm 46))]))))
def zkQ_l1 : ACode :=
 (.seq (.region [
 o1 21 (.bin .lss (so (.binOp .lss 3 (tm 20) (.const (.int .i64 16)) 3) 0) (tm 20) (.const (.int .i64 16)))]) (.seq (.cond (tm 21)
 .skip
 (.exit 0)) (.seq (.block 1 (.seq (.region [
 o1 22 (.mov (tm 20)),
 o1 10 (.mov (tm 22))]) (.seq (.region [
 o1 23 (.mov (tm 1)),
 o1 24 (.mov (tm 10)),
 o1 25 (.bin .mul (so (.binOp .mul 3 (.const (.int .i64 4)) (tm 24) 3) 3) (.const (.int .i64 4)) (tm 24)),
 o1 26 (.mov (tm 10)),
 o1 27 (.bin .mul (so (.binOp .mul 3 (.const (.int .i64 4)) (tm 26) 3) 3) (.const (.int .i64 4)) (tm 26)),
 o1 28 (.bin .add (so (.binOp .add 3 (tm 27) (.const (.int .i64 4)) 3) 3) (tm 27) (.const (.int .i64 4))),
 o1 29 (.sliceSl 1 (tm 23) (some (tm 25)) (some (tm 28)) none),
 o1 30 (.lenSl (tm 29)),
 o1 31 (.mov k0)]) (.block 2 (.loop zkQ_l0))))) (.region [
 o1 47 (.bin .add (so (.binOp .add 3 (tm 20) (.const (.int .i64 1)) 3) 3) (tm 20) (.const (.int .i64 1))),
 o1 20 (.mov (tm 47))]))))
def zkQ_l2 : ACode :=
 (.seq (.region [
 o1 91 (.bin .lss (so (.binOp .lss 3 (tm 90) (.const (.int .i64 4)) 3) 4) (tm 90) (.const (.int .i64 4)))]) (.seq (.cond (tm 91)
 .skip
 (.exit 6)) (.seq (.block 7 (.seq (.region [
 o1 92 (.mov (tm 90)),
 o1 17 (.mov (tm 92))]) (.regionD [
 o1 93 (.mov (tm 17)),
 o1 94 (.indexArr 16 1 (tm 9) (tm 93)),
 o1 95 (.mov (tm 17)),
 o1 96 (.bin .add (so (.binOp .add 3 (.const (.int .i64 4)) (tm 95) 3) 3) (.const (.int .i64 4)) (tm 95)),
 o1 97 (.indexArr 16 1 (tm 9) (tm 96)),
 o1 98 (.mov (tm 17)),
 o1 99 (.bin .add (so (.binOp .add 3 (.const (.int .i64 8)) (tm 98) 3) 3) (.const (.int .i64 8)) (tm 98)),
 o1 100 (.indexArr 16 1 (tm 9) (tm 99)),
 o1 101 (.mov (tm 17)),
 o1 102 (.bin .add (so (.binOp .add 3 (.const (.int .i64 12)) (tm 101) 3) 3) (.const (.int .i64 12)) (tm 101)),
 o1 103 (.indexArr 16 1 (tm 9) (tm 102)),
 o1 104 (.build [(.pointer none), (.pointer none), (.pointer none), (.pointer none)] [(0, 1, (tm 94)), (1, 1, (tm 97)), (2, 1, (tm 100)), (3, 1, (tm 103))]),
 o1 105 (.mov (tm 14)),
 o1 106 (.mov (tm 17)),
 o1 107 (.bin .mul (so (.binOp .mul 3 (.const (.int .i64 2)) (tm 106) 3) 3) (.const (.int .i64 2)) (tm 106)),
 o1 108 (.indexSl 1 (tm 105) (tm 107)),
 o1 109 (.load none (tm 108)),
 o1 110 (.mov (tm 14)),
 o1 111 (.mov (tm 17)),
 o1 112 (.bin .mul (so (.binOp .mul 3 (.const (.int .i64 2)) (tm 111) 3) 3) (.const (.int .i64 2)) (tm 111)),
 o1 113 (.bin .add (so (.binOp .add 3 (tm 112) (.const (.int .i64 1)) 3) 3) (tm 112) (.const (.int .i64 1))),
 o1 114 (.indexSl 1 (tm 110) (tm 113)),
 o1 115 (.load none (tm 114)),
 o2 116 (.callV (.func 93) [(tm 104), (tm 109), (tm 115)])]))) (.region [
 o1 117 (.bin .add (so (.binOp .add 3 (tm 90) (.const (.int .i64 1)) 3) 3) (tm 90) (.const (.int .i64 1))),
 o1 90 (.mov (tm 117))]))))
def zkQ_l3 : ACode :=
 (.seq (.region [
 o1 119 (.bin .lss (so (.binOp .lss 3 (tm 118) (.const (.int .i64 4)) 3) 4) (tm 118) (.const (.int .i64 4)))]) (.seq (.cond (tm 119)
 .skip
 (.exit 8)) (.seq (.block 9 (.seq (.region [
 o1 120 (.mov (tm 118)),
 o1 18 (.mov (tm 120))]) (.regionD [
 o1 121 (.mov (tm 18)),
 o1 122 (.indexArr 16 1 (tm 9) (tm 121)),
 o1 123 (.mov (tm 18)),
 o1 124 (.bin .add (so (.binOp .add 3 (tm 123) (.const (.int .i64 1)) 3) 3) (tm 123) (.const (.int .i64 1))),
 o1 125 (.bin .rem (so (.binOp .rem 3 (tm 124) (.const (.int .i64 4)) 3) 3) (tm 124) (.const (.int .i64 4))),
 o1 126 (.bin .add (so (.binOp .add 3 (.const (.int .i64 4)) (tm 125) 3) 3) (.const (.int .i64 4)) (tm 125)),
 o1 127 (.indexArr 16 1 (tm 9) (tm 126)),
 o1 128 (.mov (tm 18)),
 o1 129 (.bin .add (so (.binOp .add 3 (tm 128) (.const (.int .i64 2)) 3) 3) (tm 128) (.const (.int .i64 2))),
 o1 130 (.bin .rem (so (.binOp .rem 3 (tm 129) (.const (.int .i64 4)) 3) 3) (tm 129) (.const (.int .i64 4))),
 o1 131 (.bin .add (so (.binOp .add 3 (.const (.int .i64 8)) (tm 130) 3) 3) (.const (.int .i64 8)) (tm 130)),
 o1 132 (.indexArr 16 1 (tm 9) (tm 131)),
 o1 133 (.mov (tm 18)),
 o1 134 (.bin .add (so (.binOp .add 3 (tm 133) (.const (.int .i64 3)) 3) 3) (tm 133) (.const (.int .i64 3))),
 o1 135 (.bin .rem (so (.binOp .rem 3 (tm 134) (.const (.int .i64 4)) 3) 3) (tm 134) (.const (.int .i64 4))),
 o1 136 (.bin .add (so (.binOp .add 3 (.const (.int .i64 12)) (tm 135) 3) 3) (.const (.int .i64 12)) (tm 135)),
 o1 137 (.indexArr 16 1 (tm 9) (tm 136)),
 o1 138 (.build [(.pointer none), (.pointer none), (.pointer none), (.pointer none)] [(0, 1, (tm 122)), (1, 1, (tm 127)), (2, 1, (tm 132)), (3, 1, (tm 137))]),
 o1 139 (.mov (tm 14)),
 o1 140 (.mov (tm 18)),
 o1 141 (.bin .mul (so (.binOp .mul 3 (.const (.int .i64 2)) (tm 140) 3) 3) (.const (.int .i64 2)) (tm 140)),
 o1 142 (.bin .add (so (.binOp .add 3 (.const (.int .i64 8)) (tm 141) 3) 3) (.const (.int .i64 8)) (tm 141)),
 o1 143 (.indexSl 1 (tm 139) (tm 142)),
 o1 144 (.load none (tm 143)),
 o1 145 (.mov (tm 14)),
 o1 146 (.mov (tm 18)),
 o1 147 (.bin .mul (so (.binOp .mul 3 (.const (.int .i64 2)) (tm 146) 3) 3) (.const (.int .i64 2)) (tm 146)),
 o1 148 (.bin .add (so (.binOp .add 3 (.const (.int .i64 9)) (tm 147) 3) 3) (.const (.int .i64 9)) (tm 147)),
 o1 149 (.indexSl 1 (tm 145) (tm 148)),
 o1 150 (.load none (tm 149)),
 o2 151 (.callV (.func 93) [(tm 138), (tm 144), (tm 150)])]))) (.region [
 o1 152 (.bin .add (so (.binOp .add 3 (tm 118) (.const (.int .i64 1)) 3) 3) (tm 118) (.const (.int .i64 1))),
 o1 118 (.mov (tm 152))]))))
def zkQ_l4 : ACode :=
 (.seq (.region [
 o1 77 (.nextStr (tm 76)),
 o1 78 (.extract 0 (tm 77))]) (.seq (.cond (tm 78)
 .skip
 (.exit 4)) (.block 5 (.seq (.region [
 o1 79 (.extract 2 (tm 77)),
 o1 16 (.mov (tm 79))]) (.seq (.seq (.region [
 o1 80 (.mov (tm 14)),
 o1 81 (.mov (tm 16)),
 o1 82 (.callV (.func 92) [(.const (.string ⟨⟨[48, 49, 50, 51, 52, 53, 54, 55, 56, 57, 97, 98, 99, 100, 101, 102]⟩⟩)), (tm 81)]),
 o1 83 (.indexArr 16 1 (tm 8) (tm 82)),
 o1 84 (.load none (tm 83)),
 o1 85 (.buildSlice 120 [(.int .u32 0)] 1 [(0, 1, (tm 84))]),
 o1 86 (.append 120 1 4 [(.int .u32 0)] false (tm 80) (tm 85)),
 o1 14 (.mov (tm 86))]) (.seq (.region [
 o1 87 (.mov (tm 14)),
 o1 88 (.lenSl (tm 87)),
 o1 89 (.bin .lss (so (.binOp .lss 3 (tm 88) (.const (.int .i64 16)) 3) 4) (tm 88) (.const (.int .i64 16)))]) (.cond (tm 89)
 (.exit 5)
 .skip))) (.seq (.seq (.region [
 o1 90 (.mov k0)]) (.block 6 (.loop zkQ_l2))) (.seq (.seq (.region [
 o1 118 (.mov k0)]) (.block 8 (.loop zkQ_l3))) (.region [
 o1 14 (.mov (.const (.slice none 0 0)))]))))))))
def zkQ_l5 : ACode :=
 (.seq (.region [
 o1 154 (.bin .lss (so (.binOp .lss 3 (tm 153) (.const (.int .i64 8)) 3) 0) (tm 153) (.const (.int .i64 8)))]) (.seq (.cond (tm 154)
 .skip
 (.exit 10)) (.seq (.block 11 (.seq (.region [
 o1 155 (.mov (tm 153)),
 o1 19 (.mov (tm 155))]) (.regionD [
 o1 156 (.mov (tm 0)),
 o1 157 (.mov (tm 19)),
 o1 158 (.nilCheck (tm 156)),
 o1 159 (.indexArr 8 1 (tm 158) (tm 157)),
 o1 160 (.load none (tm 159)),
 o1 161 (.mov (tm 19)),
 o1 162 (.indexArr 16 1 (tm 9) (tm 161)),
 o1 163 (.load none (tm 162)),
 o1 164 (.mov (tm 19)),
 o1 165 (.bin .add (so (.binOp .add 3 (tm 164) (.const (.int .i64 8)) 3) 3) (tm 164) (.const (.int .i64 8))),
 o1 166 (.indexArr 16 1 (tm 9) (tm 165)),
 o1 167 (.load none (tm 166)),
 o1 168 (.bin .xor (so (.binOp .xor 120 (tm 163) (tm 167) 120) 120) (tm 163) (tm 167)),
 o1 169 (.bin .xor (so (.binOp .xor 120 (tm 160) (tm 168) 120) 120) (tm 160) (tm 168)),
 o1 170 (.nilCheck (tm 156)),
 o2 171 (.indexArr 8 1 (tm 170) (tm 157)),
 ⟨none, .store 1 (tm 171) (tm 169), none, [], true⟩]))) (.region [
 o1 172 (.bin .add (so (.binOp .add 3 (tm 153) (.const (.int .i64 1)) 3) 3) (tm 153) (.const (.int .i64 1))),
 o1 153 (.mov (tm 172))]))))
def zkQ_c : ACode :=
 (.seq (.region [
 o1 8 (.alloc 147 [(.int .u32 0), (.int .u32 0), (.int .u32 0), (.int .u32 0), (.int .u32 0), (.int .u32 0), (.int .u32 0), (.int .u32 0), (.int .u32 0), (.int .u32 0), (.int .u32 0), (.int .u32 0), (.int .u32 0), (.int .u32 0), (.int .u32 0), (.int .u32 0)]),
 o1 9 (.alloc 147 [(.int .u32 0), (.int .u32 0), (.int .u32 0), (.int .u32 0), (.int .u32 0), (.int .u32 0), (.int .u32 0), (.int .u32 0), (.int .u32 0), (.int .u32 0), (.int .u32 0), (.int .u32 0), (.int .u32 0), (.int .u32 0), (.int .u32 0), (.int .u32 0)])]) (.seq (.seq (.region [
 o1 20 (.mov k0)]) (.block 0 (.loop zkQ_l1))) (.seq (.region [
 o1 48 (.callV (.func 76) []),
 o1 13 (.alloc 135 [(.int .u32 0), (.int .u32 0), (.int .u32 0), (.int .u32 0), (.int .u32 0), (.int .u32 0), (.int .u32 0), (.int .u32 0)]),
 o3 (.store 8 (tm 13) (tm 48))]) (.seq (.regionD [
 o1 49 (.sliceArr 16 1 (tm 9) none (some (.const (.int .i64 8)))),
 o1 50 (.mov (tm 0)),
 o1 51 (.nilCheck (tm 50)),
 o1 52 (.sliceArr 8 1 (tm 51) none none),
 o2 53 (.copy 1 (tm 49) (tm 52))]) (.seq (.regionD [
 o1 54 (.sliceArr 16 1 (tm 9) (some (.const (.int .i64 8))) none),
 o1 55 (.sliceArr 8 1 (tm 13) none none),
 o2 56 (.copy 1 (tm 54) (tm 55))]) (.seq (.region [
 o1 57 (.indexArr 16 1 (tm 9) (.const (.int .i64 12))),
 o1 58 (.load none (tm 57)),
 o1 59 (.mov (tm 2)),
 o1 60 (.conv .u32 (so (.convert 3 120 (tm 59)) 120) (tm 59)),
 o1 61 (.bin .xor (so (.binOp .xor 120 (tm 58) (tm 60) 120) 120) (tm 58) (tm 60)),
 o1 62 (.indexArr 16 1 (tm 9) (.const (.int .i64 12))),
 o3 (.store 1 (tm 62) (tm 61))]) (.seq (.region [
 o1 63 (.indexArr 16 1 (tm 9) (.const (.int .i64 13))),
 o1 64 (.load none (tm 63)),
 o1 65 (.mov (tm 2)),
 o1 66 (.conv .u64 (so (.convert 3 92 (tm 65)) 92) (tm 65)),
 o1 67 (.bin .shr (so (.binOp .shr 92 (tm 66) (.const (.int .u64 32)) 124) 92) (tm 66) (.const (.int .u64 32))),
 o1 68 (.conv .u32 (so (.convert 92 120 (tm 67)) 120) (tm 67)),
 o1 69 (.bin .xor (so (.binOp .xor 120 (tm 64) (tm 68) 120) 120) (tm 64) (tm 68)),
 o1 70 (.indexArr 16 1 (tm 9) (.const (.int .i64 13))),
 o3 (.store 1 (tm 70) (tm 69))]) (.seq (.seq (.region [
 o1 71 (.mov (tm 3))]) (.cond (tm 71)
 (.region [
 o1 72 (.indexArr 16 1 (tm 9) (.const (.int .i64 14))),
 o1 73 (.load none (tm 72)),
 o1 74 (.raw (so (.unOp .xor 120 (tm 73)) 120)),
 o1 75 (.indexArr 16 1 (tm 9) (.const (.int .i64 14))),
 o3 (.store 1 (tm 75) (tm 74))])
 .skip)) (.seq (.region [
 o1 14 (.mov (.const (.slice none 0 0)))]) (.seq (.seq (.region [
 o1 76 (.rangeStr (.const (.string ⟨⟨[48, 49, 50, 51, 52, 53, 54, 55, 56, 57, 97, 98, 99, 100, 101, 102, 101, 97, 52, 56, 57, 102, 100, 54, 49, 99, 48, 50, 98, 55, 53, 51, 98, 56, 99, 48, 53, 50, 102, 100, 97, 101, 51, 54, 55, 49, 57, 52, 55, 57, 51, 49, 100, 99, 98, 101, 50, 54, 53, 97, 52, 48, 102, 56, 57, 48, 53, 55, 50, 52, 97, 102, 101, 49, 98, 99, 54, 56, 51, 100, 50, 99, 54, 97, 48, 98, 56, 51, 52, 100, 55, 53, 102, 101, 49, 57, 99, 53, 49, 102, 101, 100, 52, 97, 48, 55, 54, 51, 57, 50, 56, 98, 100, 98, 55, 101, 99, 49, 51, 57, 53, 48, 102, 52, 56, 54, 50, 97, 54, 102, 101, 57, 98, 51, 48, 56, 99, 50, 100, 55, 49, 52, 97, 53, 97, 50, 56, 52, 55, 54, 49, 53, 102, 98, 57, 101, 51, 99, 100, 48]⟩⟩)))]) (.block 4 (.loop zkQ_l4))) (.seq (.region [
 o1 153 (.mov k0)]) (.block 10 (.loop zkQ_l5)))))))))))))
def zkQ : AFunc := ⟨173, [], zkQ_c, none⟩
theorem zkQ_t0 : tableOf Tryz.prog 79 = some zkQ := by kernel_rfl
theorem zkQ_t : T0 79 = some zkQ := holed_t rfl zkQ_t0
theorem zkQ_runs {v0 v1 v2 v3 : Value} {h : Heap} {R : RP} {X : XP} (k : RunC Tryz.prog T0 zkQ_c ⟨[v0, v1, v2, v3, U, U, U, U, U, U, U, U, U, U, U, U, U, U, U, U, U, U, U, U, U, U, U, U, U, U, U, U, U, U, U, U, U, U, U, U, U, U, U, U, U, U, U, U, U, U, U, U, U, U, U, U, U, U, U, U, U, U, U, U, U, U, U, U, U, U, U, U, U, U, U, U, U, U, U, U, U, U, U, U, U, U, U, U, U, U, U, U, U, U, U, U, U, U, U, U, U, U, U, U, U, U, U, U, U, U, U, U, U, U, U, U, U, U, U, U, U, U, U, U, U, U, U, U, U, U, U, U, U, U, U, U, U, U, U, U, U, U, U, U, U, U, U, U, U, U, U, U, U, U, U, U, U, U, U, U, U, U, U, U, U, U, U, U, U, U, U, U, U], [], h, none⟩ (bodyQ Tryz.prog T0 [] R X)) :
 Runs Tryz.prog T0 (.fn 79) [v0, v1, v2, v3] h R X := Runs.fn zkQ_t rfl k
abbrev zkQ_l0_M : List Nat := [0, 0, 0, 0, 0, 0, 0, 0, 0, 0, 0, 1, 1, 0, 0, 0, 0, 0, 0, 0, 0, 0, 0, 0, 0, 0, 0, 0, 0, 0, 0, 2, 1, 1, 1, 1, 1, 1, 1, 1, 1, 1, 1, 1, 1, 1, 1, 0, 0, 0, 0, 0, 0, 0, 0, 0, 0, 0, 0, 0, 0, 0, 0, 0, 0, 0, 0, 0, 0, 0, 0, 0, 0, 0, 0, 0, 0, 0, 0, 0, 0, 0, 0, 0, 0, 0, 0, 0, 0, 0, 0, 0, 0, 0, 0, 0, 0, 0, 0, 0, 0, 0, 0, 0, 0, 0, 0, 0, 0, 0, 0, 0, 0, 0, 0, 0, 0, 0, 0, 0, 0, 0, 0, 0, 0, 0, 0, 0, 0, 0, 0, 0, 0, 0, 0, 0, 0, 0, 0, 0, 0, 0, 0, 0, 0, 0, 0, 0, 0, 0, 0, 0, 0, 0, 0, 0, 0, 0, 0, 0, 0, 0, 0, 0, 0, 0, 0, 0, 0, 0, 0, 0, 0]
abbrev zkQ_l1_M : List Nat := [0, 0, 0, 0, 0, 0, 0, 0, 0, 0, 1, 1, 1, 0, 0, 0, 0, 0, 0, 0, 2, 1, 1, 1, 1, 1, 1, 1, 1, 1, 1, 1, 1, 1, 1, 1, 1, 1, 1, 1, 1, 1, 1, 1, 1, 1, 1, 1, 0, 0, 0, 0, 0, 0, 0, 0, 0, 0, 0, 0, 0, 0, 0, 0, 0, 0, 0, 0, 0, 0, 0, 0, 0, 0, 0, 0, 0, 0, 0, 0, 0, 0, 0, 0, 0, 0, 0, 0, 0, 0, 0, 0, 0, 0, 0, 0, 0, 0, 0, 0, 0, 0, 0, 0, 0, 0, 0, 0, 0, 0, 0, 0, 0, 0, 0, 0, 0, 0, 0, 0, 0, 0, 0, 0, 0, 0, 0, 0, 0, 0, 0, 0, 0, 0, 0, 0, 0, 0, 0, 0, 0, 0, 0, 0, 0, 0, 0, 0, 0, 0, 0, 0, 0, 0, 0, 0, 0, 0, 0, 0, 0, 0, 0, 0, 0, 0, 0, 0, 0, 0, 0, 0, 0]
abbrev zkQ_l2_M : List Nat := [0, 0, 0, 0, 0, 0, 0, 0, 0, 0, 0, 0, 0, 0, 0, 0, 0, 1, 0, 0, 0, 0, 0, 0, 0, 0, 0, 0, 0, 0, 0, 0, 0, 0, 0, 0, 0, 0, 0, 0, 0, 0, 0, 0, 0, 0, 0, 0, 0, 0, 0, 0, 0, 0, 0, 0, 0, 0, 0, 0, 0, 0, 0, 0, 0, 0, 0, 0, 0, 0, 0, 0, 0, 0, 0, 0, 0, 0, 0, 0, 0, 0, 0, 0, 0, 0, 0, 0, 0, 0, 2, 1, 1, 1, 1, 1, 1, 1, 1, 1, 1, 1, 1, 1, 1, 1, 1, 1, 1, 1, 1, 1, 1, 1, 1, 1, 1, 1, 0, 0, 0, 0, 0, 0, 0, 0, 0, 0, 0, 0, 0, 0, 0, 0, 0, 0, 0, 0, 0, 0, 0, 0, 0, 0, 0, 0, 0, 0, 0, 0, 0, 0, 0, 0, 0, 0, 0, 0, 0, 0, 0, 0, 0, 0, 0, 0, 0, 0, 0, 0, 0, 0, 0]
abbrev zkQ_l3_M : List Nat := [0, 0, 0, 0, 0, 0, 0, 0, 0, 0, 0, 0, 0, 0, 0, 0, 0, 0, 1, 0, 0, 0, 0, 0, 0, 0, 0, 0, 0, 0, 0, 0, 0, 0, 0, 0, 0, 0, 0, 0, 0, 0, 0, 0, 0, 0, 0, 0, 0, 0, 0, 0, 0, 0, 0, 0, 0, 0, 0, 0, 0, 0, 0, 0, 0, 0, 0, 0, 0, 0, 0, 0, 0, 0, 0, 0, 0, 0, 0, 0, 0, 0, 0, 0, 0, 0, 0, 0, 0, 0, 0, 0, 0, 0, 0, 0, 0, 0, 0, 0, 0, 0, 0, 0, 0, 0, 0, 0, 0, 0, 0, 0, 0, 0, 0, 0, 0, 0, 2, 1, 1, 1, 1, 1, 1, 1, 1, 1, 1, 1, 1, 1, 1, 1, 1, 1, 1, 1, 1, 1, 1, 1, 1, 1, 1, 1, 1, 1, 1, 1, 1, 1, 1, 0, 0, 0, 0, 0, 0, 0, 0, 0, 0, 0, 0, 0, 0, 0, 0, 0, 0, 0, 0]
abbrev zkQ_l4_M : List Nat := [0, 0, 0, 0, 0, 0, 0, 0, 0, 0, 0, 0, 0, 0, 2, 0, 1, 1, 1, 0, 0, 0, 0, 0, 0, 0, 0, 0, 0, 0, 0, 0, 0, 0, 0, 0, 0, 0, 0, 0, 0, 0, 0, 0, 0, 0, 0, 0, 0, 0, 0, 0, 0, 0, 0, 0, 0, 0, 0, 0, 0, 0, 0, 0, 0, 0, 0, 0, 0, 0, 0, 0, 0, 0, 0, 0, 0, 1, 1, 1, 1, 1, 1, 1, 1, 1, 1, 1, 1, 1, 1, 1, 1, 1, 1, 1, 1, 1, 1, 1, 1, 1, 1, 1, 1, 1, 1, 1, 1, 1, 1, 1, 1, 1, 1, 1, 1, 1, 1, 1, 1, 1, 1, 1, 1, 1, 1, 1, 1, 1, 1, 1, 1, 1, 1, 1, 1, 1, 1, 1, 1, 1, 1, 1, 1, 1, 1, 1, 1, 1, 1, 1, 1, 0, 0, 0, 0, 0, 0, 0, 0, 0, 0, 0, 0, 0, 0, 0, 0, 0, 0, 0, 0]
abbrev zkQ_l5_M : List Nat := [0, 0, 0, 0, 0, 0, 0, 0, 0, 0, 0, 0, 0, 0, 0, 0, 0, 0, 0, 1, 0, 0, 0, 0, 0, 0, 0, 0, 0, 0, 0, 0, 0, 0, 0, 0, 0, 0, 0, 0, 0, 0, 0, 0, 0, 0, 0, 0, 0, 0, 0, 0, 0, 0, 0, 0, 0, 0, 0, 0, 0, 0, 0, 0, 0, 0, 0, 0, 0, 0, 0, 0, 0, 0, 0, 0, 0, 0, 0, 0, 0, 0, 0, 0, 0, 0, 0, 0, 0, 0, 0, 0, 0, 0, 0, 0, 0, 0, 0, 0, 0, 0, 0, 0, 0, 0, 0, 0, 0, 0, 0, 0, 0, 0, 0, 0, 0, 0, 0, 0, 0, 0, 0, 0, 0, 0, 0, 0, 0, 0, 0, 0, 0, 0, 0, 0, 0, 0, 0, 0, 0, 0, 0, 0, 0, 0, 0, 0, 0, 0, 0, 0, 0, 2, 1, 1, 1, 1, 1, 1, 1, 1, 1, 1, 1, 1, 1, 1, 1, 1, 1, 1, 1]
abbrev fn_zbQ : FuncId := 80
def zbQ_c : ACode :=
 (.seq (.region [
 o1 2 (.mov k0)]) (.seq (.seq (.region [
 o1 3 (.mov (tm 0)),
 o1 4 (.callV (.func 77) [(tm 3)])]) (.cond (tm 4)
 (.seq (.region [
 o1 2 (.mov k0)]) .ret)
 .skip)) (.seq (.regionD [
 o1 5 (.mov (tm 0)),
 o1 6 (.nilCheck (tm 5)),
 o1 7 (.fieldAddr 0 (tm 6)),
 o1 8 (.load none (tm 7)),
 o1 10 (.mov (tm 0)),
 o1 11 (.nilCheck (tm 10)),
 o1 12 (.fieldAddr 9 (tm 11)),
 o1 13 (.load none (tm 12)),
 o1 14 (.lenSl (tm 13)),
 ⟨some 9, .callV (.func 94) [(tm 8)], none, [(some 14, .lenSl (tm 13), none), (some 13, .load none (tm 12), none), (some 12, .fieldAddr 9 (tm 11), none), (some 11, .nilCheck (tm 10), none), (some 10, .mov (tm 0), none)], false⟩,
 o2 15 (.bin .add (so (.binOp .add 3 (tm 9) (tm 14) 3) 3) (tm 9) (tm 14)),
 o2 2 (.mov (tm 15))]) .ret)))
def zbQ : AFunc := ⟨16, [(2, none)], zbQ_c, none⟩
theorem zbQ_t0 : tableOf Tryz.prog 80 = some zbQ := by kernel_rfl
theorem zbQ_t : T0 80 = some zbQ := holed_t rfl zbQ_t0
theorem zbQ_runs {v0 : Value} {h : Heap} {R : RP} {X : XP} (k : RunC Tryz.prog T0 zbQ_c ⟨[v0, U, U, U, U, U, U, U, U, U, U, U, U, U, U, U], [], h, none⟩ (bodyQ Tryz.prog T0 [(2, none)] R X)) :
 Runs Tryz.prog T0 (.fn 80) [v0] h R X := Runs.fn zbQ_t rfl k
abbrev fn_zodQ : FuncId := 92
def zodQ_l0 : ACode :=
 (.seq (.region [
 o1 176 (.nextStr (tm 175)),
 o1 177 (.extract 0 (tm 176))]) (.seq (.cond (tm 177)
 .skip
 (.exit 9)) (.block 10 (.seq (.region [
 o1 178 (.extract 1 (tm 176)),
 o1 179 (.extract 2 (tm 176)),
 o1 5 (.mov (tm 178)),
 o1 6 (.mov (tm 179))]) (.seq (.region [
 o1 180 (.mov (tm 6)),
 o1 181 (.bin .eql (so (.binOp .eql 21 (tm 180) (.const (.int .i32 65533)) 21) 4) (tm 180) (.const (.int .i32 65533)))]) (.cond (tm 181)
 (.seq (.region [
 o1 182 (.mov (tm 5)),
 o1 4 (.mov (tm 182))]) .ret)
 .skip))))))
def zodQ_l1 : ACode :=
 (.seq (.seq (.region [
 o1 48 (.mov (tm 12)),
 o1 49 (.mov (tm 7)),
 o1 50 (.lenStr (tm 49)),
 o1 51 (.bin .lss (so (.binOp .lss 3 (tm 48) (tm 50) 3) 4) (tm 48) (tm 50))]) (.cond (tm 51)
 .skip
 (.exit 3))) (.seq (.block 4 (.seq (.regionD [
 o1 54 (.mov (tm 0)),
 o1 55 (.mov (tm 9)),
 o1 56 (.mov (tm 12)),
 o1 57 (.bin .sub (so (.binOp .sub 3 (tm 55) (tm 56) 3) 3) (tm 55) (tm 56)),
 o1 58 (.raw (so (.index 9 (tm 54) (tm 57)) 5)),
 o1 59 (.mov (tm 7)),
 o1 60 (.mov (tm 8)),
 o1 61 (.mov (tm 12)),
 o1 62 (.bin .sub (so (.binOp .sub 3 (tm 60) (tm 61) 3) 3) (tm 60) (tm 61)),
 o1 63 (.raw (so (.index 9 (tm 59) (tm 62)) 5)),
 o2 64 (.bin .neq (so (.binOp .neq 5 (tm 58) (tm 63) 5) 4) (tm 58) (tm 63))]) (.cond (tm 64)
 .stuck
 .skip))) (.region [
 o1 52 (.mov (tm 12)),
 o1 53 (.bin .add (so (.binOp .add 3 (tm 52) (.const (.int .i64 1)) 3) 3) (tm 52) (.const (.int .i64 1))),
 o1 12 (.mov (tm 53))])))
def zodQ_l2 : ACode :=
 (.seq (.seq (.region [
 o1 23 (.mov (tm 9)),
 o1 24 (.mov (tm 0)),
 o1 25 (.lenStr (tm 24)),
 o1 26 (.bin .lss (so (.binOp .lss 3 (tm 23) (tm 25) 3) 4) (tm 23) (tm 25))]) (.cond (tm 26)
 .skip
 (.exit 1))) (.block 2 (.scope (.seq (.seq (.regionD [
 o1 27 (.mov (tm 0)),
 o1 28 (.mov (tm 9)),
 o1 29 (.raw (so (.index 9 (tm 27) (tm 28)) 5)),
 o1 30 (.mov (tm 7)),
 o1 31 (.mov (tm 8)),
 o1 32 (.raw (so (.index 9 (tm 30) (tm 31)) 5)),
 o2 33 (.bin .neq (so (.binOp .neq 5 (tm 29) (tm 32) 5) 4) (tm 29) (tm 32))]) (.cond (tm 33)
 (.seq (.regionD [
 o1 34 (.mov (tm 0)),
 o1 35 (.mov (tm 9)),
 o1 36 (.bin .add (so (.binOp .add 3 (tm 35) (.const (.int .i64 1)) 3) 3) (tm 35) (.const (.int .i64 1))),
 o1 37 (.sliceStr (tm 34) (some (tm 36)) none),
 o1 38 (.mov (tm 7)),
 o1 39 (.mov (tm 8)),
 o1 40 (.raw (so (.index 9 (tm 38) (tm 39)) 5)),
 o2 41 (.callV (.func 102) [(tm 37), (tm 40)]),
 o2 11 (.mov (tm 41))]) (.seq (.seq (.region [
 o1 42 (.mov (tm 11)),
 o1 43 (.bin .lss (so (.binOp .lss 3 (tm 42) k0 3) 4) (tm 42) k0)]) (.cond (tm 43)
 (.seq (.region [
 o1 4 (.mov (.const (.int .i64 (-1))))]) .ret)
 .skip)) (.region [
 o1 44 (.mov (tm 9)),
 o1 45 (.mov (tm 11)),
 o1 46 (.bin .add (so (.binOp .add 3 (tm 45) (.const (.int .i64 1)) 3) 3) (tm 45) (.const (.int .i64 1))),
 o1 47 (.bin .add (so (.binOp .add 3 (tm 44) (tm 46) 3) 3) (tm 44) (tm 46)),
 o1 9 (.mov (tm 47))])))
 .skip)) (.seq (.seq (.region [
 o1 12 (.mov (.const (.int .i64 1)))]) (.block 3 (.loop zodQ_l1))) (.seq (.seq (.region [
 o1 65 (.mov (tm 9)),
 o1 66 (.mov (tm 8)),
 o1 67 (.bin .sub (so (.binOp .sub 3 (tm 65) (tm 66) 3) 3) (tm 65) (tm 66)),
 o1 4 (.mov (tm 67))]) .ret) (.seq .skip (.seq (.region [
 o1 68 (.mov (tm 10)),
 o1 69 (.bin .add (so (.binOp .add 3 (tm 68) (.const (.int .i64 1)) 3) 3) (tm 68) (.const (.int .i64 1))),
 o1 10 (.mov (tm 69))]) (.seq (.region [
 o1 70 (.mov (tm 9)),
 o1 71 (.bin .add (so (.binOp .add 3 (tm 70) (.const (.int .i64 1)) 3) 3) (tm 70) (.const (.int .i64 1))),
 o1 9 (.mov (tm 71))]) (.seq (.region [
 o1 72 (.mov (.const (.bool true))),
 o4 73 (.mov (tm 10)) 72,
 o4 74 (.mov (tm 9)) 72,
 o4 75 (.callV (.func 104) [(tm 74)]) 72,
 o4 76 (.bin .gtr (so (.binOp .gtr 3 (tm 73) (tm 75) 3) 4) (tm 73) (tm 75)) 72,
 o1 77 (.pick (tm 72) (tm 76) (.const (.bool false))),
 o1 78 (.mov (tm 77)),
 o4 79 (.mov (tm 9)) 78,
 o4 80 (.mov (tm 0)) 78,
 o4 81 (.lenStr (tm 80)) 78,
 o4 82 (.bin .lss (so (.binOp .lss 3 (tm 79) (tm 81) 3) 4) (tm 79) (tm 81)) 78,
 o1 83 (.pick (tm 78) (tm 82) (.const (.bool false))),
 o1 84 (.mov (tm 83)),
 o5 85 (.mov (.const (.bool false))) 84,
 o4 86 (.mov (tm 10)) 85,
 o4 87 (.mov (tm 9)) 85,
 o4 88 (.bin .shr (so (.binOp .shr 3 (tm 87) (.const (.int .u64 4)) 124) 3) (tm 87) (.const (.int .u64 4))) 85,
 o4 89 (.bin .add (so (.binOp .add 3 (.const (.int .i64 4)) (tm 88) 3) 3) (.const (.int .i64 4)) (tm 88)) 85,
 o4 90 (.bin .geq (so (.binOp .geq 3 (tm 86) (tm 89) 3) 4) (tm 86) (tm 89)) 85,
 o5 91 (.pick (tm 85) (tm 90) (.const (.bool false))) 84,
 o5 92 (.mov (tm 91)) 84,
 o4 93 (.mov (tm 9)) 92,
 o4 94 (.mov (tm 0)) 92,
 o4 95 (.lenStr (tm 94)) 92,
 o4 96 (.bin .lss (so (.binOp .lss 3 (tm 93) (tm 95) 3) 4) (tm 93) (tm 95)) 92,
 o5 97 (.pick (tm 92) (tm 96) (.const (.bool false))) 84,
 o1 98 (.pick (tm 84) (.const (.bool true)) (tm 97))]) (.cond (tm 98)
 .stuck
 .skip)))))))))))
def zodQ_l3 : ACode :=
 (.seq (.seq (.region [
 o1 140 (.mov (tm 16)),
 o1 141 (.mov (tm 7)),
 o1 142 (.lenStr (tm 141)),
 o1 143 (.bin .lss (so (.binOp .lss 3 (tm 140) (tm 142) 3) 4) (tm 140) (tm 142))]) (.cond (tm 143)
 .skip
 (.exit 7))) (.seq (.block 8 (.seq (.regionD [
 o1 146 (.mov (tm 0)),
 o1 147 (.mov (tm 9)),
 o1 148 (.mov (tm 16)),
 o1 149 (.bin .sub (so (.binOp .sub 3 (tm 147) (tm 148) 3) 3) (tm 147) (tm 148)),
 o1 150 (.raw (so (.index 9 (tm 146) (tm 149)) 5)),
 o1 151 (.mov (tm 7)),
 o1 152 (.mov (tm 8)),
 o1 153 (.mov (tm 16)),
 o1 154 (.bin .sub (so (.binOp .sub 3 (tm 152) (tm 153) 3) 3) (tm 152) (tm 153)),
 o1 155 (.raw (so (.index 9 (tm 151) (tm 154)) 5)),
 o2 156 (.bin .neq (so (.binOp .neq 5 (tm 150) (tm 155) 5) 4) (tm 150) (tm 155))]) (.cond (tm 156)
 (.exit 6)
 .skip))) (.region [
 o1 144 (.mov (tm 16)),
 o1 145 (.bin .add (so (.binOp .add 3 (tm 144) (.const (.int .i64 1)) 3) 3) (tm 144) (.const (.int .i64 1))),
 o1 16 (.mov (tm 145))])))
def zodQ_l4 : ACode :=
 (.seq (.seq (.region [
 o1 121 (.mov (tm 9)),
 o1 122 (.mov (tm 0)),
 o1 123 (.lenStr (tm 122)),
 o1 124 (.bin .lss (so (.binOp .lss 3 (tm 121) (tm 123) 3) 4) (tm 121) (tm 123))]) (.cond (tm 124)
 .skip
 (.exit 5))) (.seq (.block 6 (.seq (.region [
 o1 127 (.mov (tm 0)),
 o1 128 (.mov (tm 9)),
 o1 129 (.raw (so (.index 9 (tm 127) (tm 128)) 5)),
 o1 130 (.mov (tm 14)),
 o1 131 (.bin .eql (so (.binOp .eql 5 (tm 129) (tm 130) 5) 4) (tm 129) (tm 130)),
 o1 132 (.mov (tm 131)),
 o4 133 (.mov (tm 0)) 132,
 o4 134 (.mov (tm 9)) 132,
 o4 135 (.bin .sub (so (.binOp .sub 3 (tm 134) (.const (.int .i64 1)) 3) 3) (tm 134) (.const (.int .i64 1))) 132,
 o4 136 (.raw (so (.index 9 (tm 133) (tm 135)) 5)) 132,
 o4 137 (.mov (tm 15)) 132,
 o4 138 (.bin .eql (so (.binOp .eql 5 (tm 136) (tm 137) 5) 4) (tm 136) (tm 137)) 132,
 o1 139 (.pick (tm 132) (tm 138) (.const (.bool false)))]) (.cond (tm 139)
 (.seq (.seq (.region [
 o1 16 (.mov (.const (.int .i64 2)))]) (.block 7 (.loop zodQ_l3))) (.seq (.region [
 o1 157 (.mov (tm 9)),
 o1 158 (.mov (tm 8)),
 o1 159 (.bin .sub (so (.binOp .sub 3 (tm 157) (tm 158) 3) 3) (tm 157) (tm 158)),
 o1 4 (.mov (tm 159))]) .ret))
 .skip))) (.region [
 o1 125 (.mov (tm 9)),
 o1 126 (.bin .add (so (.binOp .add 3 (tm 125) (.const (.int .i64 1)) 3) 3) (tm 125) (.const (.int .i64 1))),
 o1 9 (.mov (tm 126))])))
def zodQ_c : ACode :=
 (.seq (.region [
 o1 4 (.mov k0)]) (.block 0 (.seq (.region [
 o1 161 (.mov (tm 1)),
 o1 162 (.bin .leq (so (.binOp .leq 21 (.const (.int .i32 0)) (tm 161) 21) 4) (.const (.int .i32 0)) (tm 161)),
 o1 163 (.mov (tm 162)),
 o4 164 (.mov (tm 1)) 163,
 o4 165 (.bin .lss (so (.binOp .lss 21 (tm 164) (.const (.int .i32 128)) 21) 4) (tm 164) (.const (.int .i32 128))) 163,
 o1 166 (.pick (tm 163) (tm 165) (.const (.bool false))),
 o1 160 (.mov (tm 166))]) (.cond (tm 160)
 (.seq (.region [
 o1 167 (.mov (tm 0)),
 o1 168 (.mov (tm 1)),
 o1 169 (.conv .u8 (so (.convert 21 5 (tm 168)) 5) (tm 168)),
 o1 170 (.callV (.func 102) [(tm 167), (tm 169)]),
 o1 4 (.mov (tm 170))]) .ret)
 (.seq (.region [
 o1 172 (.mov (tm 1)),
 o1 173 (.bin .eql (so (.binOp .eql 21 (tm 172) (.const (.int .i32 65533)) 21) 4) (tm 172) (.const (.int .i32 65533))),
 o1 171 (.mov (tm 173))]) (.cond (tm 171)
 (.seq (.seq (.region [
 o1 174 (.mov (tm 0)),
 o1 175 (.rangeStr (tm 174))]) (.block 9 (.loop zodQ_l0))) (.seq (.region [
 o1 4 (.mov (.const (.int .i64 (-1))))]) .ret))
 (.seq (.region [
 o1 184 (.mov (tm 1)),
 o1 185 (.callV (.func 103) [(tm 184)]),
 o1 186 (.raw (so (.unOp .not 4 (tm 185)) 4)),
 o1 183 (.mov (tm 186))]) (.cond (tm 183)
 (.seq (.region [
 o1 4 (.mov (.const (.int .i64 (-1))))]) .ret)
 (.scope (.seq (.region [
 o1 17 (.mov (tm 1)),
 o1 18 (.raw (so (.convert 21 9 (tm 17)) 9)),
 o1 7 (.mov (tm 18))]) (.seq (.region [
 o1 19 (.mov (tm 7)),
 o1 20 (.lenStr (tm 19)),
 o1 21 (.bin .sub (so (.binOp .sub 3 (tm 20) (.const (.int .i64 1)) 3) 3) (tm 20) (.const (.int .i64 1))),
 o1 8 (.mov (tm 21))]) (.seq (.region [
 o1 22 (.mov (tm 8)),
 o1 9 (.mov (tm 22))]) (.seq (.region [
 o1 10 (.mov k0)]) (.seq (.block 1 (.loop zodQ_l2)) (.seq (.seq (.region [
 o1 4 (.mov (.const (.int .i64 (-1))))]) .ret) (.seq .skip (.seq (.cond (.const (.bool true))
 (.seq (.region [
 o1 99 (.mov (tm 0)),
 o1 100 (.mov (tm 9)),
 o1 101 (.mov (tm 8)),
 o1 102 (.bin .sub (so (.binOp .sub 3 (tm 100) (tm 101) 3) 3) (tm 100) (tm 101)),
 o1 103 (.sliceStr (tm 99) (some (tm 102)) none),
 o1 104 (.mov (tm 1)),
 o1 105 (.raw (so (.convert 21 9 (tm 104)) 9)),
 o1 106 (.callV (.func 105) [(tm 103), (tm 105)]),
 o1 13 (.mov (tm 106))]) (.seq (.region [
 o1 107 (.mov (tm 13)),
 o1 108 (.bin .geq (so (.binOp .geq 3 (tm 107) k0 3) 4) (tm 107) k0)]) (.cond (tm 108)
 (.seq (.region [
 o1 109 (.mov (tm 9)),
 o1 110 (.mov (tm 13)),
 o1 111 (.bin .add (so (.binOp .add 3 (tm 109) (tm 110) 3) 3) (tm 109) (tm 110)),
 o1 112 (.mov (tm 8)),
 o1 113 (.bin .sub (so (.binOp .sub 3 (tm 111) (tm 112) 3) 3) (tm 111) (tm 112)),
 o1 4 (.mov (tm 113))]) .ret)
 .skip)))
 (.scope (.seq (.region [
 o1 114 (.mov (tm 7)),
 o1 115 (.mov (tm 8)),
 o1 116 (.raw (so (.index 9 (tm 114) (tm 115)) 5)),
 o1 14 (.mov (tm 116))]) (.seq (.region [
 o1 117 (.mov (tm 7)),
 o1 118 (.mov (tm 8)),
 o1 119 (.bin .sub (so (.binOp .sub 3 (tm 118) (.const (.int .i64 1)) 3) 3) (tm 118) (.const (.int .i64 1))),
 o1 120 (.raw (so (.index 9 (tm 117) (tm 119)) 5)),
 o1 15 (.mov (tm 120))]) (.seq .skip (.block 5 (.loop zodQ_l4))))))) (.seq (.region [
 o1 4 (.mov (.const (.int .i64 (-1))))]) .ret))))))))))))))))))
def zodQ : AFunc := ⟨187, [(4, none)], zodQ_c, none⟩
theorem zodQ_t0 : tableOf Tryz.prog 92 = some zodQ := by kernel_rfl
theorem zodQ_t : T0 92 = some zodQ := holed_t rfl zodQ_t0
theorem zodQ_runs {v0 v1 : Value} {h : Heap} {R : RP} {X : XP} (k : RunC Tryz.prog T0 zodQ_c ⟨[v0, v1, U, U, U, U, U, U, U, U, U, U, U, U, U, U, U, U, U, U, U, U, U, U, U, U, U, U, U, U, U, U, U, U, U, U, U, U, U, U, U, U, U, U, U, U, U, U, U, U, U, U, U, U, U, U, U, U, U, U, U, U, U, U, U, U, U, U, U, U, U, U, U, U, U, U, U, U, U, U, U, U, U, U, U, U, U, U, U, U, U, U, U, U, U, U, U, U, U, U, U, U, U, U, U, U, U, U, U, U, U, U, U, U, U, U, U, U, U, U, U, U, U, U, U, U, U, U, U, U, U, U, U, U, U, U, U, U, U, U, U, U, U, U, U, U, U, U, U, U, U, U, U, U, U, U, U, U, U, U, U, U, U, U, U, U, U, U, U, U, U, U, U, U, U, U, U, U, U, U, U, U, U, U, U, U, U], [], h, none⟩ (bodyQ Tryz.prog T0 [(4, none)] R X)) :
 Runs Tryz.prog T0 (.fn 92) [v0, v1] h R X := Runs.fn zodQ_t rfl k
abbrev fn_zjQ : FuncId := 93
def zjQ_c : ACode :=
 (.seq (.region [
 o1 3 (.box 159 (tm 0))]) (.seq (.regionD [
 o1 10 (.indexArr 4 1 (tm 3) k0),
 o1 11 (.load none (tm 10)),
 o1 12 (.indexArr 4 1 (tm 3) (.const (.int .i64 1))),
 o1 13 (.load none (tm 12)),
 o1 14 (.indexArr 4 1 (tm 3) (.const (.int .i64 2))),
 o1 15 (.load none (tm 14)),
 o1 16 (.indexArr 4 1 (tm 3) (.const (.int .i64 3))),
 o1 17 (.load none (tm 16)),
 o1 6 (.mov (tm 11)),
 o1 7 (.mov (tm 13)),
 o1 8 (.mov (tm 15)),
 o2 9 (.mov (tm 17))]) (.seq (.regionD [
 o1 18 (.mov (tm 6)),
 o1 19 (.nilCheck (tm 18)),
 o1 20 (.load none (tm 19)),
 o1 21 (.mov (tm 7)),
 o1 22 (.nilCheck (tm 21)),
 o1 23 (.load none (tm 22)),
 o1 24 (.mov (tm 1)),
 o1 25 (.bin .add (so (.binOp .add 120 (tm 23) (tm 24) 120) 120) (tm 23) (tm 24)),
 o2 26 (.bin .add (so (.binOp .add 120 (tm 20) (tm 25) 120) 120) (tm 20) (tm 25)),
 o2 27 (.nilCheck (tm 18)),
 ⟨none, .store 1 (tm 27) (tm 26), none, [], true⟩]) (.seq (.regionD [
 o1 28 (.mov (tm 9)),
 o1 29 (.mov (tm 9)),
 o1 30 (.nilCheck (tm 29)),
 o1 31 (.load none (tm 30)),
 o1 32 (.mov (tm 6)),
 o1 33 (.nilCheck (tm 32)),
 o1 34 (.load none (tm 33)),
 o1 35 (.bin .xor (so (.binOp .xor 120 (tm 31) (tm 34) 120) 120) (tm 31) (tm 34)),
 ⟨some 36, .callV (.func 106) [(tm 35), (.const (.int .i64 (-16)))], none, [(some 28, .mov (tm 9), none)], false⟩,
 o2 37 (.nilCheck (tm 28)),
 ⟨none, .store 1 (tm 37) (tm 36), none, [], true⟩]) (.seq (.regionD [
 o1 38 (.mov (tm 8)),
 o1 39 (.nilCheck (tm 38)),
 o1 40 (.load none (tm 39)),
 o1 41 (.mov (tm 9)),
 o1 42 (.nilCheck (tm 41)),
 o1 43 (.load none (tm 42)),
 o2 44 (.bin .add (so (.binOp .add 120 (tm 40) (tm 43) 120) 120) (tm 40) (tm 43)),
 o2 45 (.nilCheck (tm 38)),
 ⟨none, .store 1 (tm 45) (tm 44), none, [], true⟩]) (.seq (.regionD [
 o1 46 (.mov (tm 7)),
 o1 47 (.mov (tm 7)),
 o1 48 (.nilCheck (tm 47)),
 o1 49 (.load none (tm 48)),
 o1 50 (.mov (tm 8)),
 o1 51 (.nilCheck (tm 50)),
 o1 52 (.load none (tm 51)),
 o1 53 (.bin .xor (so (.binOp .xor 120 (tm 49) (tm 52) 120) 120) (tm 49) (tm 52)),
 ⟨some 54, .callV (.func 106) [(tm 53), (.const (.int .i64 (-12)))], none, [(some 46, .mov (tm 7), none)], false⟩,
 o2 55 (.nilCheck (tm 46)),
 ⟨none, .store 1 (tm 55) (tm 54), none, [], true⟩]) (.seq (.regionD [
 o1 56 (.mov (tm 6)),
 o1 57 (.nilCheck (tm 56)),
 o1 58 (.load none (tm 57)),
 o1 59 (.mov (tm 7)),
 o1 60 (.nilCheck (tm 59)),
 o1 61 (.load none (tm 60)),
 o1 62 (.mov (tm 2)),
 o1 63 (.bin .add (so (.binOp .add 120 (tm 61) (tm 62) 120) 120) (tm 61) (tm 62)),
 o2 64 (.bin .add (so (.binOp .add 120 (tm 58) (tm 63) 120) 120) (tm 58) (tm 63)),
 o2 65 (.nilCheck (tm 56)),
 ⟨none, .store 1 (tm 65) (tm 64), none, [], true⟩]) (.seq (.regionD [
 o1 66 (.mov (tm 9)),
 o1 67 (.mov (tm 9)),
 o1 68 (.nilCheck (tm 67)),
 o1 69 (.load none (tm 68)),
 o1 70 (.mov (tm 6)),
 o1 71 (.nilCheck (tm 70)),
 o1 72 (.load none (tm 71)),
 o1 73 (.bin .xor (so (.binOp .xor 120 (tm 69) (tm 72) 120) 120) (tm 69) (tm 72)),
 ⟨some 74, .callV (.func 106) [(tm 73), (.const (.int .i64 (-8)))], none, [(some 66, .mov (tm 9), none)], false⟩,
 o2 75 (.nilCheck (tm 66)),
 ⟨none, .store 1 (tm 75) (tm 74), none, [], true⟩]) (.seq (.regionD [
 o1 76 (.mov (tm 8)),
 o1 77 (.nilCheck (tm 76)),
 o1 78 (.load none (tm 77)),
 o1 79 (.mov (tm 9)),
 o1 80 (.nilCheck (tm 79)),
 o1 81 (.load none (tm 80)),
 o2 82 (.bin .add (so (.binOp .add 120 (tm 78) (tm 81) 120) 120) (tm 78) (tm 81)),
 o2 83 (.nilCheck (tm 76)),
 ⟨none, .store 1 (tm 83) (tm 82), none, [], true⟩]) (.regionD [
 o1 84 (.mov (tm 7)),
 o1 85 (.mov (tm 7)),
 o1 86 (.nilCheck (tm 85)),
 o1 87 (.load none (tm 86)),
 o1 88 (.mov (tm 8)),
 o1 89 (.nilCheck (tm 88)),
 o1 90 (.load none (tm 89)),
 o1 91 (.bin .xor (so (.binOp .xor 120 (tm 87) (tm 90) 120) 120) (tm 87) (tm 90)),
 ⟨some 92, .callV (.func 106) [(tm 91), (.const (.int .i64 (-7)))], none, [(some 84, .mov (tm 7), none)], false⟩,
 o2 93 (.nilCheck (tm 84)),
 ⟨none, .store 1 (tm 93) (tm 92), none, [], true⟩]))))))))))
def zjQ : AFunc := ⟨94, [], zjQ_c, none⟩
theorem zjQ_t0 : tableOf Tryz.prog 93 = some zjQ := by kernel_rfl
theorem zjQ_t : T0 93 = some zjQ := holed_t rfl zjQ_t0
theorem zjQ_runs {v0 v1 v2 : Value} {h : Heap} {R : RP} {X : XP} (k : RunC Tryz.prog T0 zjQ_c ⟨[v0, v1, v2, U, U, U, U, U, U, U, U, U, U, U, U, U, U, U, U, U, U, U, U, U, U, U, U, U, U, U, U, U, U, U, U, U, U, U, U, U, U, U, U, U, U, U, U, U, U, U, U, U, U, U, U, U, U, U, U, U, U, U, U, U, U, U, U, U, U, U, U, U, U, U, U, U, U, U, U, U, U, U, U, U, U, U, U, U, U, U, U, U, U, U], [], h, none⟩ (bodyQ Tryz.prog T0 [] R X)) :
 Runs Tryz.prog T0 (.fn 93) [v0, v1, v2] h R X := Runs.fn zjQ_t rfl k
abbrev fn_zhQ : FuncId := 94
def zhQ_c : ACode :=
 (.seq (.region [
 o1 2 (.mov k0)]) (.seq (.seq (.region [
 o1 3 (.mov (tm 0)),
 o1 4 (.eq .ptr false (so (.binOp .eql 137 (tm 3) (.const (.pointer none)) 137) 4) (tm 3) (.const (.pointer none)))]) (.cond (tm 4)
 (.seq (.region [
 o1 2 (.mov k0)]) .ret)
 .skip)) (.seq (.region [
 o1 5 (.mov (tm 0)),
 o1 6 (.nilCheck (tm 5)),
 o1 7 (.fieldAddr 0 (tm 6)),
 o1 8 (.load none (tm 7)),
 o1 2 (.mov (tm 8))]) .ret)))
def zhQ : AFunc := ⟨9, [(2, none)], zhQ_c, none⟩
theorem zhQ_t0 : tableOf Tryz.prog 94 = some zhQ := by kernel_rfl
theorem zhQ_t : T0 94 = some zhQ := holed_t rfl zhQ_t0
theorem zhQ_runs {v0 : Value} {h : Heap} {R : RP} {X : XP} (k : RunC Tryz.prog T0 zhQ_c ⟨[v0, U, U, U, U, U, U, U, U], [], h, none⟩ (bodyQ Tryz.prog T0 [(2, none)] R X)) :
 Runs Tryz.prog T0 (.fn 94) [v0] h R X := Runs.fn zhQ_t rfl k
def zndQ_c : ACode :=
 (.seq (.region [
 o1 4 (.mov k0)]) (.seq (.region [
 o1 5 (.mov (tm 0)),
 o1 6 (.mov (tm 1)),
 o1 7 (.callV (.func 107) [(tm 5), (tm 6)]),
 o1 4 (.mov (tm 7))]) .ret))
def zndQ : AFunc := ⟨8, [(4, none)], zndQ_c, none⟩
theorem zndQ_t0 : tableOf Tryz.prog 102 = some zndQ := by kernel_rfl
theorem zndQ_t : T0 102 = some zndQ := holed_t rfl zndQ_t0
theorem zndQ_runs {v0 v1 : Value} {h : Heap} {R : RP} {X : XP} (k : RunC Tryz.prog T0 zndQ_c ⟨[v0, v1, U, U, U, U, U, U], [], h, none⟩ (bodyQ Tryz.prog T0 [(4, none)] R X)) :
 Runs Tryz.prog T0 (.fn 102) [v0, v1] h R X := Runs.fn zndQ_t rfl k
abbrev fn_zhdQ : FuncId := 106
def zhdQ_c : ACode :=
 (.seq (.region [
 o1 4 (.mov (.const (.int .u32 0)))]) (.seq (.region [
 o1 6 (.mov (tm 1)),
 o1 7 (.conv .u64 (so (.convert 3 124 (tm 6)) 124) (tm 6)),
 o1 8 (.bin .and (so (.binOp .and 124 (tm 7) (.const (.int .u64 31)) 124) 124) (tm 7) (.const (.int .u64 31))),
 o1 5 (.mov (tm 8))]) (.seq (.region [
 o1 9 (.mov (tm 0)),
 o1 10 (.mov (tm 5)),
 o1 11 (.bin .shl (so (.binOp .shl 120 (tm 9) (tm 10) 124) 120) (tm 9) (tm 10)),
 o1 12 (.mov (tm 0)),
 o1 13 (.mov (tm 5)),
 o1 14 (.bin .sub (so (.binOp .sub 124 (.const (.int .u64 32)) (tm 13) 124) 124) (.const (.int .u64 32)) (tm 13)),
 o1 15 (.bin .shr (so (.binOp .shr 120 (tm 12) (tm 14) 124) 120) (tm 12) (tm 14)),
 o1 16 (.bin .or (so (.binOp .or 120 (tm 11) (tm 15) 120) 120) (tm 11) (tm 15)),
 o1 4 (.mov (tm 16))]) .ret)))
def zhdQ : AFunc := ⟨17, [(4, none)], zhdQ_c, none⟩
theorem zhdQ_t0 : tableOf Tryz.prog 106 = some zhdQ := by kernel_rfl
theorem zhdQ_t : T0 106 = some zhdQ := holed_t rfl zhdQ_t0
theorem zhdQ_runs {v0 v1 : Value} {h : Heap} {R : RP} {X : XP} (k : RunC Tryz.prog T0 zhdQ_c ⟨[v0, v1, U, U, U, U, U, U, U, U, U, U, U, U, U, U, U], [], h, none⟩ (bodyQ Tryz.prog T0 [(4, none)] R X)) :
 Runs Tryz.prog T0 (.fn 106) [v0, v1] h R X := Runs.fn zhdQ_t rfl k
def znbQ_c : ACode :=
 (.seq (.region [
 o1 4 (.mov k0)]) (.seq (.region [
 o1 5 (.mov (tm 0)),
 o1 6 (.mov (tm 1)),
 o1 7 (.ext .indexByte (.func 108) [(tm 5), (tm 6)]),
 o1 4 (.mov (tm 7))]) .ret))
def znbQ : AFunc := ⟨8, [(4, none)], znbQ_c, none⟩
theorem znbQ_t0 : tableOf Tryz.prog 107 = some znbQ := by kernel_rfl
theorem znbQ_t : T0 107 = some znbQ := holed_t rfl znbQ_t0
theorem znbQ_runs {v0 v1 : Value} {h : Heap} {R : RP} {X : XP} (k : RunC Tryz.prog T0 znbQ_c ⟨[v0, v1, U, U, U, U, U, U], [], h, none⟩ (bodyQ Tryz.prog T0 [(4, none)] R X)) :
 Runs Tryz.prog T0 (.fn 107) [v0, v1] h R X := Runs.fn znbQ_t rfl k
end Go.Proofs.YtlckmpioipiihaaGreat.K

namespace Go.Proofs.YtlckmpioipiihaaGreat.K
open Go Go.Vm
set_option maxRecDepth 10000
set_option linter.unusedVariables false
def rr (x : UInt32) (n : Nat) : UInt32 := x <<< UInt32.ofNat (32 - n) ||| x >>> UInt32.ofNat n
theorem rot_ok {h : Heap} {x : UInt32} {k : Int} (n : Nat) (hn : 0 < n ∧ n < 32) (hk : IntKind.u64.wrap ((BitVec.ofInt IntKind.u64.bits (IntKind.u64.wrap k) &&& BitVec.ofInt IntKind.u64.bits 31).toNat : Nat) = ((32 - n : Nat) : Int)) :
    Runs Tryz.prog T0 (.fn fn_zhdQ) [.int .u32 (x.toNat : Nat), .int .i64 k] h (fun r h' => r = .int .u32 ((rr x n).toNat : Nat) ∧ h' = h) (fun _ _ => False) := by
  refine zhdQ_runs ?_
  refine stp ?_
  refine O.how XOp.andI ?_
  rw [hk]
  refine stp ?_
  refine O.how (XOp.shlW (32 - n) rfl (by omega)) ?_
  refine stp ?_
  rw [show IntKind.u64.wrap (32 - ((32 - n : Nat) : Int)) = (n : Int) from by rw [wrap_u64]; omega]
  refine O.how (XOp.shrW n rfl (by omega)) ?_
  refine stp ?_
  exact ⟨rfl, rfl⟩
def mixS (v : List UInt32) (a b c d : Nat) (x y : UInt32) : List UInt32 :=
  let v := v.set a (v.getD a 0 + (v.getD b 0 + x))
  let v := v.set d (rr (v.getD d 0 ^^^ v.getD a 0) 16)
  let v := v.set c (v.getD c 0 + v.getD d 0)
  let v := v.set b (rr (v.getD b 0 ^^^ v.getD c 0) 12)
  let v := v.set a (v.getD a 0 + (v.getD b 0 + y))
  let v := v.set d (rr (v.getD d 0 ^^^ v.getD a 0) 8)
  let v := v.set c (v.getD c 0 + v.getD d 0)
  v.set b (rr (v.getD b 0 ^^^ v.getD c 0) 7)
theorem mixS_len (v : List UInt32) (a b c d : Nat) (x y : UInt32) : (mixS v a b c d x y).length = v.length := by simp [mixS]
abbrev ptr (q o : Nat) : Value := .pointer (some ⟨q, o, none⟩)
set_option maxHeartbeats 2000000 in
theorem mix_ok {h : Heap} {q es : Nat} {v : List UInt32} {a b c d : Nat} {x y : UInt32} (hg : h.get q = .cells (wcells v) es) (hq : q < h.n) [ia : WIx v a] [ib : WIx v b] [ic : WIx v c] [id' : WIx v d] :
    Runs Tryz.prog T0 (.fn fn_zjQ) [.agg ⟨[ptr q a, ptr q b, ptr q c, ptr q d]⟩, .int .u32 (x.toNat : Nat), .int .u32 (y.toNat : Nat)] h (fun r h' => h'.get q = .cells (wcells (mixS v a b c d x y)) es ∧ Fr (fun i => i = q) h h') (fun _ _ => False) := by
  haveI : HGet h q _ := ⟨hg⟩
  haveI : BLt q h := ⟨hq⟩
  refine zjQ_runs ?_
  refine stp ?_
  refine D.callX (rot_ok 16 (by omega) (by decide)) (fun r h1 hr => ?_) (fun r h1 hr => ?_) (fun _ _ hx => hx.elim)
  · obtain ⟨rfl, rfl⟩ := hr
    exact StabL.ok
  obtain ⟨rfl, rfl⟩ := hr
  refine stp ?_
  refine D.callX (rot_ok 12 (by omega) (by decide)) (fun r h1 hr => ?_) (fun r h1 hr => ?_) (fun _ _ hx => hx.elim)
  · obtain ⟨rfl, rfl⟩ := hr
    exact StabL.ok
  obtain ⟨rfl, rfl⟩ := hr
  refine stp ?_
  refine D.callX (rot_ok 8 (by omega) (by decide)) (fun r h1 hr => ?_) (fun r h1 hr => ?_) (fun _ _ hx => hx.elim)
  · obtain ⟨rfl, rfl⟩ := hr
    exact StabL.ok
  obtain ⟨rfl, rfl⟩ := hr
  refine stp ?_
  refine D.callX (rot_ok 7 (by omega) (by decide)) (fun r h1 hr => ?_) (fun r h1 hr => ?_) (fun _ _ hx => hx.elim)
  · obtain ⟨rfl, rfl⟩ := hr
    exact StabL.ok
  obtain ⟨rfl, rfl⟩ := hr
  refine stp ?_
  exact ⟨by rw [Heap.get_set, if_pos rfl]; rfl, Fr.refl.push.set fun _ => rfl⟩
end Go.Proofs.YtlckmpioipiihaaGreat.K

namespace Go.Proofs.YtlckmpioipiihaaGreat.K
open Go Go.Vm
set_option maxRecDepth 10000
set_option linter.unusedVariables false
abbrev digitsS : ByteArray := ⟨⟨[48, 49, 50, 51, 52, 53, 54, 55, 56, 57, 97, 98, 99, 100, 101, 102]⟩⟩
abbrev rowsS : ByteArray := ⟨⟨[48, 49, 50, 51, 52, 53, 54, 55, 56, 57, 97, 98, 99, 100, 101, 102, 101, 97, 52, 56, 57, 102, 100, 54, 49, 99, 48, 50, 98, 55, 53, 51, 98, 56, 99, 48, 53, 50, 102, 100, 97, 101, 51, 54, 55, 49, 57, 52, 55, 57, 51, 49, 100, 99, 98, 101, 50, 54, 53, 97, 52, 48, 102, 56, 57, 48, 53, 55, 50, 52, 97, 102, 101, 49, 98, 99, 54, 56, 51, 100, 50, 99, 54, 97, 48, 98, 56, 51, 52, 100, 55, 53, 102, 101, 49, 57, 99, 53, 49, 102, 101, 100, 52, 97, 48, 55, 54, 51, 57, 50, 56, 98, 100, 98, 55, 101, 99, 49, 51, 57, 53, 48, 102, 52, 56, 54, 50, 97, 54, 102, 101, 57, 98, 51, 48, 56, 99, 50, 100, 55, 49, 52, 97, 53, 97, 50, 56, 52, 55, 54, 49, 53, 102, 98, 57, 101, 51, 99, 100, 48]⟩⟩
def sigma : List Nat := [0, 1, 2, 3, 4, 5, 6, 7, 8, 9, 10, 11, 12, 13, 14, 15, 14, 10, 4, 8, 9, 15, 13, 6, 1, 12, 0, 2, 11, 7, 5, 3, 11, 8, 12, 0, 5, 2, 15, 13, 10, 14, 3, 6, 7, 1, 9, 4, 7, 9, 3, 1, 13, 12, 11, 14, 2, 6, 5, 10, 4, 0, 15, 8, 9, 0, 5, 7, 2, 4, 10, 15, 14, 1, 11, 12, 6, 8, 3, 13, 2, 12, 6, 10, 0, 11, 8, 3, 4, 13, 7, 5, 15, 14, 1, 9, 12, 5, 1, 15, 14, 13, 4, 10, 0, 7, 6, 3, 9, 2, 8, 11, 13, 11, 7, 14, 12, 1, 3, 9, 5, 0, 15, 4, 8, 6, 2, 10, 6, 15, 14, 9, 11, 3, 0, 8, 12, 2, 13, 7, 1, 4, 10, 5, 10, 2, 8, 4, 7, 6, 1, 5, 15, 11, 9, 14, 3, 12, 13, 0]
def chr16 (d : Nat) : Nat := if d < 10 then 48 + d else 87 + d
theorem rows_at : (List.range 160).all (fun p => decide (Utf8.decode rowsS p = (chr16 (sigma.getD p 0), 1)) && decide (sigma.getD p 0 < 16)) = true := by kernel_rfl
theorem rows_get {p : Nat} (hp : p < 160) : Utf8.decode rowsS p = (chr16 (sigma.getD p 0), 1) ∧ sigma.getD p 0 < 16 := by
  have := List.all_eq_true.1 rows_at p (List.mem_range.2 hp)
  simpa using this
theorem digits_at : (List.range 16).all (fun d => match extV Heap.init .indexByte [.string digitsS, .int .u8 (chr16 d)] with | some (.int .i64 k) => decide (k = d) | _ => false) = true := by kernel_rfl
theorem digits_get {h : Heap} {d : Nat} (hd : d < 16) : extV h .indexByte [.string digitsS, .int .u8 (chr16 d)] = some (.int .i64 (d : Nat)) := by
  have hx := List.all_eq_true.1 digits_at d (List.mem_range.2 hd)
  have hx : (match extV Heap.init .indexByte [.string digitsS, .int .u8 (chr16 d)] with | some (.int .i64 k) => decide (k = (d : Int)) | _ => false) = true := hx
  have e : extV h .indexByte [.string digitsS, .int .u8 (chr16 d)] = extV Heap.init .indexByte [.string digitsS, .int .u8 (chr16 d)] := rfl
  rw [e]
  split at hx
  · rename_i k hk
    rw [hk]
    simp at hx
    rw [hx]
  · cases hx
theorem Index_ok {h : Heap} {d : Nat} (hd : d < 16) :
    Runs Tryz.prog T0 (.fn fn_zodQ) [.string digitsS, .int .i32 (chr16 d)] h (fun r h' => r = .int .i64 (d : Nat) ∧ h' = h) (fun _ _ => False) := by
  have hx := digits_get (h := h) hd
  have hc : (0 : Int) ≤ (chr16 d : Nat) ∧ ((chr16 d : Nat) : Int) < 128 := by unfold chr16; split <;> omega
  generalize chr16 d = c at *
  refine zodQ_runs ?_
  refine stp ?_
  refine C.if (fun h1 => ?_) (fun h1 => ?_)
  rotate_left
  · exact absurd hc.2 h1
  refine stp ?_
  refine O.call' (R := fun r h' => r = .int .i64 (d : Nat) ∧ h' = h) ?_ (fun r h1 hr => ?_)
  · refine zndQ_runs ?_
    refine stp ?_
    refine O.call' (R := fun r h' => r = .int .i64 (d : Nat) ∧ h' = h) ?_ (fun r h1 hr => ?_)
    · refine znbQ_runs ?_
      refine stp ?_
      refine O.by (v := .int .i64 (d : Nat)) (h' := h) ?_ rfl ?_
      · simp only [xop, eval]
        rw [if_pos (by kernel_rfl)]
        show (match extV h .indexByte [.string digitsS, .int .u8 (c : Nat)] with | some v => R.ok v h | none => R.bad) = _
        rw [hx]
      refine stp ?_
      exact ⟨rfl, rfl⟩
    · obtain ⟨rfl, rfl⟩ := hr
      refine stp ?_
      exact ⟨rfl, rfl⟩
  · obtain ⟨rfl, rfl⟩ := hr
    refine stp ?_
    exact ⟨rfl, rfl⟩
def pw (b : List UInt8) : Nat → UInt32
  | 0 => 0
  | k + 1 => pw b k ||| (b.getD k 0).toUInt32 <<< UInt32.ofNat (8 * k)
def wordS (b : List UInt8) (i : Nat) : UInt32 := pw (b.drop (4 * i)) 4
def wordsS (b : List UInt8) : List UInt32 := (List.range 16).map (wordS b)
structure Sl (h : Heap) (v : Value) (q : Nat) (l : List UInt8) : Prop where
  ex : ∃ o sp cap cs es, v = .slice (some ⟨q, o, sp⟩) l.length cap ∧ l.length ≤ cap ∧ q < h.n ∧ h.get q = .cells cs es ∧ (sp ≠ none → es = 1) ∧ cellsAt h q o l.length = some (bcells l)
theorem Sl.keep {S : Nat → Prop} {h h' : Heap} {v : Value} {q : Nat} {l : List UInt8} (hs : Sl h v q l) (hf : Fr S h h') (hq : ¬ S q) : Sl h' v q l := by
  obtain ⟨o, sp, cap, cs, es, h1, h2, h3, h4, h5, h6⟩ := hs.ex
  exact ⟨o, sp, cap, cs, es, h1, h2, hf.lt h3, by rw [hf.get _ h3 hq, h4], h5, by rw [cellsAt_keep hf h3 hq]; exact h6⟩
theorem Sl.lt {h : Heap} {v : Value} {q : Nat} {l : List UInt8} (hs : Sl h v q l) : q < h.n := let ⟨_, _, _, _, _, _, _, h3, _⟩ := hs.ex; h3
theorem Sl.part {h : Heap} {v : Value} {q : Nat} {l : List UInt8} (hs : Sl h v q l) {i j : Nat} (hij : i < j) (hj : j ≤ l.length) :
    ∃ v', Sl h v' q ((l.drop i).take (j - i)) ∧ ∀ {P : Program} {ts : List Value} {x : Operand} {lo hi : Option Operand} [e1 : Ev ts x v], (∀ c, l.length ≤ c → bnd (eval ts) c l.length hi = some j) → bnd (eval ts) j 0 lo = some i → XOp P ts h (.sliceSl 1 x lo hi none) v' h := by
  obtain ⟨o, sp, cap, cs, es, rfl, h2, h3, h4, h5, h6⟩ := hs.ex
  have hl : ((l.drop i).take (j - i)).length = j - i := by rw [List.length_take, List.length_drop]; omega
  refine ⟨.slice (some ⟨q, o + i * 1, sp⟩) (j - i) (cap - i), ⟨o + i * 1, sp, cap - i, cs, es, by rw [hl], by rw [hl]; omega, h3, h4, h5, ?_⟩, fun hh hlo => XOp.mkSl (hh cap h2) hlo hij hj h2 (by omega) h4 h5⟩
  rw [hl, Nat.mul_one, cellsAt_sub h6 (by omega), bcells_drop, bcells_take]
theorem getD_set {l : List UInt32} {i j : Nat} {w : UInt32} (hi : i < l.length) : (l.set i w).getD j 0 = if j = i then w else l.getD j 0 := by
  simp only [List.getD_eq_getElem?_getD, List.getElem?_set]
  by_cases h : i = j
  · subst h; simp [hi]
  · rw [if_neg h, if_neg (Ne.symm h)]
theorem words_ext {l m : List UInt32} (h : l.length = m.length) (hg : ∀ j, j < l.length → l.getD j 0 = m.getD j 0) : l = m := by
  apply List.ext_getElem h
  intro i h1 h2
  have := hg i h1
  simpa [List.getD_eq_getElem?_getD, List.getElem?_eq_getElem h1, List.getElem?_eq_getElem h2] using this
theorem wordsS_len (b : List UInt8) : (wordsS b).length = 16 := by simp [wordsS]
theorem wordsS_get (b : List UInt8) {j : Nat} (hj : j < 16) : (wordsS b).getD j 0 = wordS b j := by
  simp [wordsS, List.getD_eq_getElem?_getD, hj]
def beginW : List UInt32 := [1779033703, 3144134277, 1013904242, 2773480762, 1359893119, 2600822924, 528734635, 1541459225]
abbrev beginC : List Value := [.int .u32 1779033703, .int .u32 3144134277, .int .u32 1013904242, .int .u32 2773480762, .int .u32 1359893119, .int .u32 2600822924, .int .u32 528734635, .int .u32 1541459225]
theorem begin_ok {h : Heap} : Runs Tryz.prog T0 (.fn fn_zgQ) [] h (fun r h' => r = .agg ⟨beginC⟩ ∧ Fr (fun _ => False) h h') (fun _ _ => False) := by
  refine zgQ_runs (v := undef) ?_
  refine stp ?_
  exact ⟨rfl, Fr.refl.push⟩
end Go.Proofs.YtlckmpioipiihaaGreat.K

namespace Go.Proofs.YtlckmpioipiihaaGreat.K
open Go Go.Vm
set_option maxRecDepth 10000
set_option linter.unusedVariables false
def startV (h : List UInt32) (many : Nat) (last : Bool) : List UInt32 :=
  let v := h ++ beginW
  let v := v.set 12 (v.getD 12 0 ^^^ UInt32.ofNat many)
  let v := v.set 13 (v.getD 13 0 ^^^ UInt32.ofNat (many / 4294967296))
  if last then v.set 14 (4294967295 ^^^ v.getD 14 0) else v
def wat (m : List UInt32) (r k : Nat) : UInt32 := m.getD (sigma.getD (16 * r + k) 0) 0
def halfA (m : List UInt32) (r : Nat) (v : List UInt32) : Nat → List UInt32
  | 0 => v
  | k + 1 => mixS (halfA m r v k) k (4 + k) (8 + k) (12 + k) (wat m r (2 * k)) (wat m r (2 * k + 1))
def halfB (m : List UInt32) (r : Nat) (v : List UInt32) : Nat → List UInt32
  | 0 => v
  | k + 1 => mixS (halfB m r v k) k (4 + (k + 1) % 4) (8 + (k + 2) % 4) (12 + (k + 3) % 4) (wat m r (8 + 2 * k)) (wat m r (9 + 2 * k))
def roundsS (m v : List UInt32) : Nat → List UInt32
  | 0 => v
  | r + 1 => halfB m r (halfA m r (roundsS m v r) 4) 4
def outS (h v : List UInt32) : List UInt32 := (List.range 8).map fun i => h.getD i 0 ^^^ (v.getD i 0 ^^^ v.getD (i + 8) 0)
def blockS (h : List UInt32) (b : List UInt8) (many : Nat) (last : Bool) : List UInt32 := outS h (roundsS (wordsS b) (startV h many last) 10)
theorem halfA_len (m : List UInt32) (r : Nat) (v : List UInt32) : ∀ k, (halfA m r v k).length = v.length
  | 0 => rfl
  | k + 1 => by rw [halfA, mixS_len, halfA_len m r v k]
theorem halfB_len (m : List UInt32) (r : Nat) (v : List UInt32) : ∀ k, (halfB m r v k).length = v.length
  | 0 => rfl
  | k + 1 => by rw [halfB, mixS_len, halfB_len m r v k]
theorem roundsS_len (m v : List UInt32) : ∀ r, (roundsS m v r).length = v.length
  | 0 => rfl
  | r + 1 => by rw [roundsS, halfB_len, halfA_len, roundsS_len m v r]
theorem startV_len {h : List UInt32} {many : Nat} {last : Bool} (hl : h.length = 8) : (startV h many last).length = 16 := by
  unfold startV
  cases last <;> simp [beginW, hl]
set_option maxHeartbeats 4000000 in
theorem block_ok {h : Heap} {p q es : Nat} {pre post : List Value} {hs : List UInt32} {b : List UInt8} {v : Value} {many : Nat} {last : Bool} (hg : h.get p = .cells (pre ++ (wcells hs ++ post)) es) (hp : p < h.n) (hl : hs.length = 8) (hv : Sl h v q b) (hb : b.length = 64) (hm : many < 4294967296) :
    Runs Tryz.prog T0 (.fn fn_zkQ) [ptr p pre.length, v, .int .i64 (many : Nat), .bool last] h (fun r h' => h'.get p = .cells (pre ++ (wcells (blockS hs b many last) ++ post)) es ∧ Fr (fun i => i = p) h h') (fun _ _ => False) := by
  refine zkQ_runs ?_
  refine stp ?_
  generalize hH : (h.push (.cells _ 0)).push (.cells _ 0) = H
  have hHn : H.n = h.n + 2 := by rw [← hH]; rfl
  have gm : H.get h.n = .cells (wcells (List.replicate 16 0)) 0 := by rw [← hH, Heap.get_push, if_neg (by simp), Heap.get_push, if_pos rfl]; rfl
  have gv : H.get (h.n + 1) = .cells (wcells (List.replicate 16 0)) 0 := by rw [← hH, Heap.get_push, if_pos (by simp)]; rfl
  have hF : Fr (fun _ => False) h H := by rw [← hH]; exact Fr.refl.push.push
  have hvH := hv.keep hF id
  have hql := hv.lt
  clear hH
  simp only [Heap.n_push]
  refine loop1 zkQ_l1_M 20 (fun m v20 h' => ∃ k : Nat, k ≤ 16 ∧ m = 16 - k ∧ v20 = .int .i64 k ∧ (∃ ms : List UInt32, h'.get h.n = .cells (wcells ms) 0 ∧ ms.length = 16 ∧ ∀ j, j < 16 → ms.getD j 0 = if j < k then wordS b j else 0) ∧ Fr (fun i => i = h.n) H h') ?_ 16 ⟨0, by omega, rfl, rfl, ⟨_, gm, by simp, fun j hj => by rw [if_neg (by omega)]; simp only [List.getD_eq_getElem?_getD, List.getElem?_replicate, if_pos hj]; rfl⟩, Fr.refl⟩
  rintro m v20 h' x10 x11 x12 x21 x22 x23 x24 x25 x26 x27 x28 x29 x30 x31 x32 x33 x34 x35 x36 x37 x38 x39 x40 x41 x42 x43 x44 x45 x46 x47 ⟨k, hk, rfl, rfl, ⟨ms, gms, hml, hms⟩, hf⟩
  refine stp ?_
  refine C.if (fun hlt => ?_) (fun hge => ?_)
  · have hk : k < 16 := by omega
    have hvk := hvH.keep hf (by omega)
    obtain ⟨v', hsl, hop⟩ := hvk.part (i := 4 * k) (j := 4 * k + 4) (by omega) (by omega)
    rw [show 4 * k + 4 - 4 * k = 4 from by omega] at hsl
    have hdl : ((b.drop (4 * k)).take 4).length = 4 := by rw [List.length_take, List.length_drop]; omega
    have hpw : wordS b k = pw ((b.drop (4 * k)).take 4) 4 := by
      have key : ∀ j, j ≤ 4 → pw (b.drop (4 * k)) j = pw ((b.drop (4 * k)).take 4) j := by
        intro j
        induction j with
        | zero => intro _; rfl
        | succ j ih =>
          intro hj
          unfold pw
          rw [ih (by omega)]
          congr 3
          simp only [List.getD_eq_getElem?_getD]
          rw [List.getElem?_take_of_lt (by omega)]
      exact key 4 (by omega)
    generalize (b.drop (4 * k)).take 4 = d at *
    obtain ⟨o, sp, cap, cs, es', rfl, hs2, hs3, hs4, hs5, hs6⟩ := hsl.ex
    rw [hdl] at hs6 hop
    refine stp ?_
    have e4 : IntKind.i64.wrap (4 * (k : Int)) = 4 * k := mul_in (by omega)
    refine O.how (hop (fun c hc => bnd_at (k := 4 * k + 4) rfl (by rw [e4, mul_in (by omega)]; omega) (by omega)) (bnd_at (k := 4 * k) rfl (by rw [e4]; omega) (by omega))) ?_
    refine stp ?_
    refine loop1 zkQ_l0_M 31 (fun m v31 h'' => ∃ j : Nat, j ≤ 4 ∧ m = 4 - j ∧ v31 = .int .i64 j ∧ (∃ mt : List UInt32, h''.get h.n = .cells (wcells mt) 0 ∧ mt.length = 16 ∧ ∀ i, i < 16 → mt.getD i 0 = if i = k then pw d j else ms.getD i 0) ∧ Fr (fun i => i = h.n) H h'') ?_ 4 ⟨0, by omega, rfl, rfl, ⟨ms, gms, hml, fun i hi => by
      split
      · rename_i e
        rw [e, hms k hk, if_neg (by omega)]; rfl
      · rfl⟩, hf⟩
    clear hs3 hs4 hs5 hop hvk
    rintro m v31 h'' x11 x12 x32 x33 x34 x35 x36 x37 x38 x39 x40 x41 x42 x43 x44 x45 x46 ⟨j, hj, rfl, rfl, ⟨mt, gmt, htl, hmt⟩, hf2⟩
    refine stp ?_
    refine C.if (fun hlt => ?_) (fun hge => ?_)
    · have hj : j < 4 := by omega
      have hs6' : cellsAt h'' q o 4 = some (bcells d) := by
        rw [← hs6, cellsAt_keep hf2 (by omega) (by omega), cellsAt_keep hf (by omega) (by omega)]
      haveI := byte_cell (k := j) hs6' hj
      haveI : HGet h'' h.n _ := ⟨gmt⟩
      haveI : WIx mt k := ⟨by omega⟩
      refine stp ?_
      have e8 : IntKind.i64.wrap (8 * (j : Int)) = 8 * j := mul_in (by omega)
      refine D.how (XOp.shlW (8 * j) (by rw [e8]; omega) (by omega)) rfl ?_
      refine stp ?_
      refine loop1a 31 (4 - (j + 1)) (by omega) ⟨j + 1, by omega, rfl, rfl, ⟨_, by rw [Heap.get_set, if_pos rfl], by simpa using htl, fun i hi => ?_⟩, hf2.set fun _ => rfl⟩
      rw [getD_set (by omega)]
      by_cases e : i = k
      · rw [if_pos e, if_pos e, hmt k (by omega), if_pos rfl]; rfl
      · rw [if_neg e, if_neg e, hmt i hi, if_neg e]
    · obtain rfl : j = 4 := by omega
      refine stp ?_
      refine loop1a 20 (16 - (k + 1)) (by omega) ⟨k + 1, by omega, rfl, rfl, ⟨mt, gmt, htl, fun i hi => ?_⟩, hf2⟩
      rw [hmt i hi]
      by_cases e : i = k
      · rw [if_pos e, e, if_pos (by omega), hpw]
      · rw [if_neg e, hms i hi]
        by_cases e2 : i < k
        · rw [if_pos e2, if_pos (by omega)]
        · rw [if_neg e2, if_neg (by omega)]
  · obtain rfl : k = 16 := by omega
    have hmw : ms = wordsS b := words_ext (by rw [hml, wordsS_len]) fun j hj => by rw [hms j (by omega), if_pos (by omega), wordsS_get b (by omega)]
    subst hmw
    refine stp ?_
    refine O.call' begin_ok (fun r h1 hr => ?_)
    obtain ⟨rfl, hf1⟩ := hr
    have hF1 : Fr (fun i => i = h.n) H h1 := hf.trans' (hf1.mono fun _ _ h => h.elim)
    have hn1 := hF1.n
    refine stp ?_
    have g1v : h1.get (h.n + 1) = .cells (wcells (List.replicate 16 0)) 0 := by rw [hF1.get _ (by omega) (by omega), gv]
    have g1p : h1.get p = .cells (pre ++ (wcells hs ++ post)) es := by rw [hF1.get _ (by omega) (by omega), hF.get _ hp id, hg]
    have g1m : h1.get h.n = .cells (wcells (wordsS b)) 0 := by rw [hf1.get _ (by have := hf.n; omega) id, gms]
    generalize hh2 : h1.push (.cells _ 0) = h2
    have g2v : h2.get (h.n + 1) = .cells (wcells (List.replicate 16 0)) 0 := by rw [← hh2, Heap.get_push, if_neg (by omega), g1v]
    have g2p : h2.get p = .cells (pre ++ (wcells hs ++ post)) es := by rw [← hh2, Heap.get_push, if_neg (by omega), g1p]
    have g2m : h2.get h.n = .cells (wcells (wordsS b)) 0 := by rw [← hh2, Heap.get_push, if_neg (by omega), g1m]
    have g2b : h2.get h1.n = .cells (wcells beginW) 0 := by rw [← hh2, Heap.get_push, if_pos rfl]; rfl
    have hn2 : h2.n = h1.n + 1 := by rw [← hh2]; rfl
    have hF2 : Fr (fun i => i = h.n) H h2 := by rw [← hh2]; exact hF1.push
    clear hh2
    refine D.how (XOp.mkSliceArrHi (j := 8) rfl (by omega) (by omega)) rfl ?_
    refine stp ?_
    refine D.how (XOp.mkCopy (xs := wcells hs) ?_ (put_w (ys := hs) g2v (by simp [hl]))) rfl ?_
    · show cellsAt h2 p pre.length 8 = _
      rw [cellsAt_of (c := pre ++ (wcells hs ++ post)) (by rw [g2p]; rfl) (by simp [wcells_len, hl]), List.drop_left, List.take_append_of_le_length (by simp [wcells_len, hl]), List.take_of_length_le (by simp [wcells_len, hl])]
    refine stp ?_
    rw [show (List.replicate 16 (0 : UInt32)).take 0 ++ (hs ++ (List.replicate 16 0).drop (0 + hs.length)) = hs ++ List.replicate 8 0 from by rw [hl]; rfl]
    refine D.how (XOp.mkSliceArrLo (l := 8) rfl (by omega)) rfl ?_
    refine stp ?_
    refine D.how (XOp.mkCopy (xs := wcells beginW) ?_ (put_w (ws := hs ++ List.replicate 8 0) (es := 0) (ys := beginW) (by rw [Heap.get_set, if_pos rfl]) (by simp [hl, beginW]))) rfl ?_
    · show cellsAt (h2.set (h.n + 1) _) h1.n 0 8 = _
      rw [cellsAt_of (c := wcells beginW) (by rw [Heap.get_set, if_neg (by omega), g2b]; rfl) (by simp [wcells_len, beginW])]
      rfl
    rw [show (hs ++ List.replicate 8 (0 : UInt32)).take (0 + 8 * 1) ++ (beginW ++ List.drop (0 + 8 * 1 + beginW.length) (hs ++ List.replicate 8 (0 : UInt32))) = hs ++ beginW from by
      rw [List.take_append_of_le_length (by omega), List.take_of_length_le (by omega), List.drop_eq_nil_of_le (by simp [hl, beginW]), List.append_nil], Heap.set_set]
    have hl0 : (hs ++ beginW).length = 16 := by simp [hl, beginW]
    haveI : WIx (hs ++ beginW) 12 := ⟨by omega⟩
    haveI : WIx (hs ++ beginW) 13 := ⟨by omega⟩
    haveI : WIx (hs ++ beginW) 14 := ⟨by omega⟩
    refine stp ?_
    refine O.how (XOp.shr (q := 32) (by omega)) ?_
    rw [show ((many : Int)).fdiv (2 ^ (min (32 : Int).toNat IntKind.u64.bits)) = ((many / 4294967296 : Nat) : Int) from by
      rw [show (2 : Int) ^ (min (32 : Int).toNat IntKind.u64.bits) = 4294967296 from rfl, Int.fdiv_eq_ediv_of_nonneg _ (by omega)]; omega]
    refine stp ?_
    refine C.ifB (fun hlast => ?_) (fun hlast => ?_)
    all_goals
      refine stp ?_
      generalize hh4 : Heap.push (h2.set (h.n + 1) _) (.strIter _ 0) = h4
      have g4v : h4.get (h.n + 1) = .cells (wcells (startV hs many last)) 0 := by rw [← hh4, Heap.get_push, if_neg (by simp; omega), Heap.get_set, if_pos rfl, hlast]; rfl
      have g4m : h4.get h.n = .cells (wcells (wordsS b)) 0 := by rw [← hh4, Heap.get_push, if_neg (by simp; omega), Heap.get_set, if_neg (by omega), g2m]
      have g4p : h4.get p = .cells (pre ++ (wcells hs ++ post)) es := by rw [← hh4, Heap.get_push, if_neg (by simp; omega), Heap.get_set, if_neg (by omega), g2p]
      have g4s : h4.get h2.n = .strIter rowsS 0 := by rw [← hh4, Heap.get_push, if_pos (by simp)]
      have hn4 : h4.n = h2.n + 1 := by rw [← hh4]; simp
      have hF4 : Fr (fun i => i = h.n ∨ i = h.n + 1) H h4 := by rw [← hh4]; exact ((hF2.mono fun _ _ h => .inl h).set fun _ => .inr rfl).push
      clear hh4
      simp only [Heap.n_set]
      have hsz : rowsS.size = 160 := by rfl
      have hvl : (startV hs many last).length = 16 := startV_len hl
      have hwl := wordsS_len b
      generalize hVe : startV hs many last = V at *
      generalize hWe : wordsS b = W at *
      clear g2v g2p g2m g2b g1v g1p g1m gms hms gm gv
      refine loop1 zkQ_l4_M 14 (fun m v14 h' => ∃ r k : Nat, r ≤ 10 ∧ k < 16 ∧ (r = 10 → k = 0) ∧ m = 160 - (16 * r + k) ∧ Own h' 1 v14 (wcells ((List.range k).map (wat W r))) k ∧ (∀ i, ownedBy v14 i → h4.n ≤ i) ∧ h'.get h2.n = .strIter rowsS (16 * r + k) ∧ h'.get (h.n + 1) = .cells (wcells (roundsS W V r)) 0 ∧ Fr (fun i => i = h.n + 1 ∨ i = h2.n) h4 h') ?_ 160 ⟨0, 0, by omega, by omega, by omega, rfl, .none, fun i hi => hi.elim, g4s, g4v, Fr.refl⟩
      rintro m v14 h' x16 x17 x18 x77 x78 x79 x80 x81 x82 x83 x84 x85 x86 x87 x88 x89 x90 x91 x92 x93 x94 x95 x96 x97 x98 x99 x100 x101 x102 x103 x104 x105 x106 x107 x108 x109 x110 x111 x112 x113 x114 x115 x116 x117 x118 x119 x120 x121 x122 x123 x124 x125 x126 x127 x128 x129 x130 x131 x132 x133 x134 x135 x136 x137 x138 x139 x140 x141 x142 x143 x144 x145 x146 x147 x148 x149 x150 x151 x152 ⟨r, k, hr, hk, hrk, rfl, ho, hnew, gs, gvr, hf⟩
      have gmr : h'.get h.n = .cells (wcells W) 0 := by rw [hf.get _ (by omega) (by omega), g4m]
      have hn' := hf.n
      haveI : HGet h' h2.n _ := ⟨gs⟩
      refine stp ?_
      by_cases hpos : 16 * r + k < 160
      · obtain ⟨hdec, hd⟩ := rows_get hpos
        refine O.how (XOp.mkNextStr (by rw [hsz]; omega)) ?_
        simp only [hdec]
        generalize hh5 : h'.set h2.n (.strIter rowsS (16 * r + k + 1)) = h5
        have g5s : h5.get h2.n = .strIter rowsS (16 * r + k + 1) := by rw [← hh5, Heap.get_set, if_pos rfl]
        have g5m : h5.get h.n = .cells (wcells W) 0 := by rw [← hh5, Heap.get_set, if_neg (by omega), gmr]
        have g5v : h5.get (h.n + 1) = .cells (wcells (roundsS W V r)) 0 := by rw [← hh5, Heap.get_set, if_neg (by omega), gvr]
        have ho5 : Own h5 1 v14 (wcells ((List.range k).map (wat W r))) k := ho.keep (S := fun i => i = h2.n) (by rw [← hh5]; exact Fr.refl.set fun _ => rfl) fun i hi e => by have := hnew i hi; omega
        have hf5 : Fr (fun i => i = h.n + 1 ∨ i = h2.n) h4 h5 := by rw [← hh5]; exact hf.set fun _ => .inr rfl
        have hn5 : h5.n = h'.n := by rw [← hh5]; simp
        clear hh5
        refine stp ?_
        refine O.call' (Index_ok hd) (fun r1 h6 hr1 => ?_)
        obtain ⟨rfl, rfl⟩ := hr1
        haveI : HGet h6 h.n _ := ⟨g5m⟩
        haveI : WIx W (sigma.getD (16 * r + k) 0) := ⟨by omega⟩
        refine stp ?_
        have hpush : Fr (fun _ => False) h6 (h6.push (.cells [.int .u32 ((W.getD (sigma.getD (16 * r + k) 0) 0).toNat : Nat)] 0)) := Fr.refl.push
        refine O.append (ho5.keep hpush fun _ _ => id) (Rd.new (Rd.mk (c := [.int .u32 ((W.getD (sigma.getD (16 * r + k) 0) 0).toNat : Nat)]) (by simp) (by rw [cellsAt_of (c := [.int .u32 ((W.getD (sigma.getD (16 * r + k) 0) 0).toNat : Nat)]) (by rw [Heap.get_push, if_pos rfl]; rfl) (by simp)]; rfl)) _) (by simp) rfl (by omega) (by omega) (by omega) (fun v' h7 h8 h9 h10 => ?_)
        rw [show wcells ((List.range k).map (wat W r)) ++ [.int .u32 ((W.getD (sigma.getD (16 * r + k) 0) 0).toNat : Nat)] = wcells ((List.range (k + 1)).map (wat W r)) from by
          rw [List.range_succ, List.map_append, wcells_append]; rfl] at h8
        have hn9 := h9.n
        simp only [Heap.n_push] at hn9 h10
        have hnew' : ∀ i, ownedBy v' i → h4.n ≤ i := fun i hi => by
          rcases h10 i hi with h | h
          · exact hnew i h
          · omega
        have hf7 : Fr (fun i => i = h.n + 1 ∨ i = h2.n) h4 h7 := Fr.trans (S := fun i => i = h.n + 1 ∨ i = h2.n) hf5.push h9 fun i hi h => by have := hnew i h; omega
        have g7s : h7.get h2.n = .strIter rowsS (16 * r + k + 1) := by rw [h9.get _ (by simp; omega) (fun h => by have := hnew _ h; omega), Heap.get_push, if_neg (by omega), g5s]
        have g7v : h7.get (h.n + 1) = .cells (wcells (roundsS W V r)) 0 := by rw [h9.get _ (by simp; omega) (fun h => by have := hnew _ h; omega), Heap.get_push, if_neg (by omega), g5v]
        obtain ⟨a', cap', rfl, hlen', hcell'⟩ := h8.rd
        refine stp ?_
        refine C.if (fun hlt => ?_) (fun hge => ?_)
        · refine stp ?_
          exact loop1a 14 (160 - (16 * r + (k + 1))) (by omega) ⟨r, k + 1, hr, by omega, by omega, rfl, h8, hnew', g7s, g7v, hf7⟩
        obtain rfl : k = 15 := by omega
        obtain ⟨q', o', sp', rfl, hq', hcc'⟩ := hcell' (by omega)
        have hqn := hnew' q' rfl
        rw [Nat.mul_one] at hcc'
        refine stp ?_
        refine loop1 zkQ_l2_M 90 (fun m v90 h'' => ∃ i : Nat, i ≤ 4 ∧ m = 4 - i ∧ v90 = .int .i64 i ∧ h''.get (h.n + 1) = .cells (wcells (halfA W r (roundsS W V r) i)) 0 ∧ Fr (fun j => j = h.n + 1) h7 h'') ?_ 4 ⟨0, by omega, rfl, rfl, g7v, Fr.refl⟩
        rintro m v90 h'' x17 x91 x92 x93 x94 x95 x96 x97 x98 x99 x100 x101 x102 x103 x104 x105 x106 x107 x108 x109 x110 x111 x112 x113 x114 x115 x116 x117 ⟨i, hi, rfl, rfl, gA, hfA⟩
        refine stp ?_
        have hrl : (halfA W r (roundsS W V r) i).length = 16 := by rw [halfA_len, roundsS_len, hvl]
        have hnA := hfA.n
        refine C.if (fun hlt => ?_) (fun hge => ?_)
        · have hi : i < 4 := by omega
          have hccA : cellsAt h'' q' o' 16 = some (wcells ((List.range 16).map (wat W r))) := by rw [cellsAt_keep hfA hq' (by omega)]; exact hcc'
          have hrow : ∀ j, j < 16 → Cell h'' q' (o' + j) (.int .u32 ((wat W r j).toNat : Nat)) := fun j hj => by
            have := cell_at hccA hj
            rw [wcells_get (by simpa using hj)] at this
            simpa [List.getD_eq_getElem?_getD, hj] using this
          have e2 : IntKind.i64.wrap (2 * (i : Int)) = 2 * i := mul_in (by omega)
          haveI c0 := hrow (2 * i) (by omega)
          haveI c1 := hrow (2 * i + 1) (by omega)
          haveI : WIx (halfA W r (roundsS W V r) i) i := ⟨by omega⟩
          haveI : WIx (halfA W r (roundsS W V r) i) (4 + i) := ⟨by omega⟩
          haveI : WIx (halfA W r (roundsS W V r) i) (8 + i) := ⟨by omega⟩
          haveI : WIx (halfA W r (roundsS W V r) i) (12 + i) := ⟨by omega⟩
          refine stp ?_
          rw [show o' + (IntKind.i64.wrap (2 * (i : Int))).toNat * 1 = o' + 2 * i from by rw [e2]; omega]
          refine stp ?_
          rw [show o' + (IntKind.i64.wrap (2 * (i : Int)) + 1).toNat * 1 = o' + (2 * i + 1) from by rw [e2]; omega]
          refine stp ?_
          rw [show 0 + ((4 : Int) + (i : Int)).toNat * 1 = 4 + i from by omega, show 0 + ((8 : Int) + (i : Int)).toNat * 1 = 8 + i from by omega, show 0 + ((12 : Int) + (i : Int)).toNat * 1 = 12 + i from by omega]
          refine D.callX (mix_ok (a := i) (b := 4 + i) (c := 8 + i) (d := 12 + i) gA (by omega)) (fun r1 h1' hr1 => rfl) (fun r1 h8' hr1 => ?_) (fun _ _ hx => hx.elim)
          refine stp ?_
          exact loop1a 90 (4 - (i + 1)) (by omega) ⟨i + 1, by omega, rfl, rfl, hr1.1, hfA.trans' hr1.2⟩
        · obtain rfl : i = 4 := by omega
          clear hge
          refine stp ?_
          refine loop1 zkQ_l3_M 118 (fun m v118 h3 => ∃ i : Nat, i ≤ 4 ∧ m = 4 - i ∧ v118 = .int .i64 i ∧ h3.get (h.n + 1) = .cells (wcells (halfB W r (halfA W r (roundsS W V r) 4) i)) 0 ∧ Fr (fun j => j = h.n + 1) h7 h3) ?_ 4 ⟨0, by omega, rfl, rfl, gA, hfA⟩
          rintro m v118 h3 x18 x119 x120 x121 x122 x123 x124 x125 x126 x127 x128 x129 x130 x131 x132 x133 x134 x135 x136 x137 x138 x139 x140 x141 x142 x143 x144 x145 x146 x147 x148 x149 x150 x151 x152 ⟨i, hi, rfl, rfl, gB, hfB⟩
          refine stp ?_
          have hrl : (halfB W r (halfA W r (roundsS W V r) 4) i).length = 16 := by rw [halfB_len, hrl]
          have hnB := hfB.n
          refine C.if (fun hlt => ?_) (fun hge => ?_)
          · have hi : i < 4 := by omega
            have hccA : cellsAt h3 q' o' 16 = some (wcells ((List.range 16).map (wat W r))) := by rw [cellsAt_keep hfB hq' (by omega)]; exact hcc'
            have hrow : ∀ j, j < 16 → Cell h3 q' (o' + j) (.int .u32 ((wat W r j).toNat : Nat)) := fun j hj => by
              have := cell_at hccA hj
              rw [wcells_get (by simpa using hj)] at this
              simpa [List.getD_eq_getElem?_getD, hj] using this
            have e2 : IntKind.i64.wrap (2 * (i : Int)) = 2 * i := mul_in (by omega)
            haveI c0 := hrow (8 + 2 * i) (by omega)
            haveI c1 := hrow (9 + 2 * i) (by omega)
            haveI : WIx (halfB W r (halfA W r (roundsS W V r) 4) i) i := ⟨by omega⟩
            haveI : WIx (halfB W r (halfA W r (roundsS W V r) 4) i) (4 + (i + 1) % 4) := ⟨by omega⟩
            haveI : WIx (halfB W r (halfA W r (roundsS W V r) 4) i) (8 + (i + 2) % 4) := ⟨by omega⟩
            haveI : WIx (halfB W r (halfA W r (roundsS W V r) 4) i) (12 + (i + 3) % 4) := ⟨by omega⟩
            refine stp ?_
            refine D.how (XOp.remI (by decide)) rfl ?_
            rw [show ((i : Int) + 1).tmod 4 = ((i + 1) % 4 : Nat) from by rw [Int.tmod_eq_emod_of_nonneg (by omega)]; omega]
            refine stp ?_
            refine D.how (XOp.remI (by decide)) rfl ?_
            rw [show ((i : Int) + 2).tmod 4 = ((i + 2) % 4 : Nat) from by rw [Int.tmod_eq_emod_of_nonneg (by omega)]; omega]
            refine stp ?_
            refine D.how (XOp.remI (by decide)) rfl ?_
            rw [show ((i : Int) + 3).tmod 4 = ((i + 3) % 4 : Nat) from by rw [Int.tmod_eq_emod_of_nonneg (by omega)]; omega]
            refine stp ?_
            rw [show o' + (8 + IntKind.i64.wrap (2 * (i : Int))).toNat * 1 = o' + (8 + 2 * i) from by rw [e2]; omega]
            refine stp ?_
            rw [show o' + (9 + IntKind.i64.wrap (2 * (i : Int))).toNat * 1 = o' + (9 + 2 * i) from by rw [e2]; omega]
            refine stp ?_
            rw [show 0 + ((4 : Int) + (((i + 1) % 4 : Nat) : Int)).toNat * 1 = 4 + (i + 1) % 4 from by omega, show 0 + ((8 : Int) + (((i + 2) % 4 : Nat) : Int)).toNat * 1 = 8 + (i + 2) % 4 from by omega, show 0 + ((12 : Int) + (((i + 3) % 4 : Nat) : Int)).toNat * 1 = 12 + (i + 3) % 4 from by omega]
            refine D.callX (mix_ok (a := i) (b := 4 + (i + 1) % 4) (c := 8 + (i + 2) % 4) (d := 12 + (i + 3) % 4) gB (by omega)) (fun r1 h1' hr1 => rfl) (fun r1 h8' hr1 => ?_) (fun _ _ hx => hx.elim)
            refine stp ?_
            exact loop1a 118 (4 - (i + 1)) (by omega) ⟨i + 1, by omega, rfl, rfl, hr1.1, hfB.trans' hr1.2⟩
          · obtain rfl : i = 4 := by omega
            refine stp ?_
            exact loop1a 14 (160 - (16 * (r + 1) + 0)) (by omega) ⟨r + 1, 0, by omega, by omega, by omega, rfl, .none, fun i hi => hi.elim, by rw [hfB.get _ (by omega) (by omega), g7s]; congr 1, gB, Fr.trans (S := fun i => i = h.n + 1 ∨ i = h2.n) hf7 hfB fun i _ h => .inl h⟩
      · obtain ⟨rfl, rfl⟩ : r = 10 ∧ k = 0 := by omega
        refine O.how (XOp.mkNextEnd (by rw [hsz]; omega)) ?_
        refine stp ?_
        have hpp : p ≠ h.n + 1 ∧ p ≠ h2.n := by omega
        have gp : h'.get p = .cells (pre ++ (wcells hs ++ post)) es := by rw [hf.get _ (by omega) (by omega), g4p]
        have hfh : Fr (fun i => i = p) h h' := Fr.trans (S := fun i => i = p) (S' := fun i => i = h.n ∨ i = h.n + 1 ∨ i = h2.n) (hF.mono fun _ _ h => h.elim) (Fr.trans (S := fun i => i = h.n ∨ i = h.n + 1 ∨ i = h2.n) (hF4.mono fun i _ h => by omega) hf fun i _ h => by omega) fun i hi h => by omega
        have hvl' : (roundsS W V 10).length = 16 := by rw [roundsS_len, hvl]
        generalize hVV : roundsS W V 10 = VV at *
        refine loop1 zkQ_l5_M 153 (fun m v153 h'' => ∃ k : Nat, k ≤ 8 ∧ m = 8 - k ∧ v153 = .int .i64 k ∧ (∃ hs', h''.get p = .cells (pre ++ (wcells hs' ++ post)) es ∧ hs'.length = 8 ∧ ∀ j, j < 8 → hs'.getD j 0 = if j < k then hs.getD j 0 ^^^ (VV.getD j 0 ^^^ VV.getD (j + 8) 0) else hs.getD j 0) ∧ Fr (fun i => i = p) h' h'') ?_ 8 ⟨0, by omega, rfl, rfl, ⟨hs, gp, hl, fun j hj => by rw [if_neg (by omega)]⟩, Fr.refl⟩
        rintro m v153 h'' x19 x154 x155 x156 x157 x158 x159 x160 x161 x162 x163 x164 x165 x166 x167 x168 x169 x170 x171 x172 ⟨k, hk, rfl, rfl, ⟨hs', gp', hl', hgp⟩, hf'⟩
        refine stp ?_
        refine C.if (fun hlt => ?_) (fun hge => ?_)
        · have hk : k < 8 := by omega
          haveI := mid_cell gp' (k := k) (by omega)
          haveI : HGet h'' (h.n + 1) (.cells (wcells VV) 0) := ⟨by rw [hf'.get _ (by omega) (by omega), gvr]⟩
          haveI : WIx VV k := ⟨by omega⟩
          haveI : WIx VV (k + 8) := ⟨by omega⟩
          haveI := fun w => mid_put (w := w) gp' (k := k) (by omega)
          refine stp ?_
          rw [show 0 + ((k : Int) + 8).toNat * 1 = k + 8 from by omega]
          refine stp ?_
          refine loop1a 153 (8 - (k + 1)) (by omega) ⟨k + 1, by omega, rfl, rfl, ⟨_, by rw [Heap.get_set, if_pos rfl], by simpa using hl', fun j hj => ?_⟩, hf'.set fun _ => rfl⟩
          rw [getD_set (by omega)]
          by_cases e : j = k
          · rw [if_pos e, e, if_pos (by omega), hgp k hk, if_neg (by omega)]
          · rw [if_neg e, hgp j hj]
            by_cases e2 : j < k
            · rw [if_pos e2, if_pos (by omega)]
            · rw [if_neg e2, if_neg (by omega)]
        · obtain rfl : k = 8 := by omega
          have hout : hs' = outS hs VV := words_ext (by rw [hl']; rfl) fun j hj => by
            rw [hgp j (by omega), if_pos (by omega)]
            simp [outS, List.getD_eq_getElem?_getD, show j < 8 from by omega]
          refine stp ?_
          exact ⟨by rw [gp', hout, ← hVV, ← hVe, ← hWe]; rfl, hfh.trans' hf'⟩
end Go.Proofs.YtlckmpioipiihaaGreat.K

namespace Go.Proofs.YtlckmpioipiihaaGreat.K
open Go Go.Vm
set_option maxRecDepth 10000
set_option linter.unusedVariables false
theorem Clone_ok {h : Heap} {v : Value} {l : List UInt8} (hr : Rd h 1 v (bcells l) l.length) (hs : l.length < 1048576) :
    Runs Tryz.prog T0 (.fn fn_zkdQ) [v] h
      (fun r h' => Own h' 1 r (bcells l) l.length ∧ Fr (fun _ => False) h h' ∧ ∀ i, ownedBy r i → h.n ≤ i) (fun _ _ => False) := by
  have hnew := hr.new
  obtain ⟨a, cap, rfl, hlen, hc⟩ := hr
  refine zkdQ_runs ?_
  cases a with
  | none =>
    have hl : l = [] := by
      cases l with
      | nil => rfl
      | cons b l => obtain ⟨_, _, _, h1, _⟩ := hc (by simp); cases h1
    subst hl
    refine stp ?_
    exact ⟨.none, Fr.refl, fun i hi => hi.elim⟩
  | some a =>
    refine stp ?_
    have hz : Own (h.push (.cells [] 0)) 1 (.slice (some ⟨h.n, 0, none⟩) 0 0) [] 0 := .lit (by simp) (by rw [Heap.get_push, if_pos rfl])
    have hnew' := ((Rd.keep (S := fun _ => False) ⟨some a, cap, rfl, hlen, hc⟩ (Fr.refl.push (o := .cells [] 0)) fun _ _ => id).new (size := 1)) [.int .u8 0]
    refine O.append hz hnew' hlen (bcells_one l) (by omega) (by omega) (by omega) (fun v' h' h1 h2 h3 => ?_)
    refine stp ?_
    rw [Nat.zero_add, List.nil_append] at h1
    refine ⟨h1, (Fr.refl.push (o := .cells [] 0)).trans (S := fun _ => False) h2 (fun i hi ho => ?_), fun i hi => ?_⟩
    · have : h.n = i := ho
      omega
    · rcases h3 i hi with h4 | h4
      · have : h.n = i := h4
        omega
      · simp at h4; omega
end Go.Proofs.YtlckmpioipiihaaGreat.K

namespace Go.Proofs.YtlckmpioipiihaaGreat.K
open Go Go.Vm
set_option maxRecDepth 10000
set_option linter.unusedVariables false
theorem eight {l : List UInt32} (h : l.length = 8) : ∃ a b c d e f g i, l = [a, b, c, d, e, f, g, i] := by
  match l, h with
  | [a, b, c, d, e, f, g, i], _ => exact ⟨a, b, c, d, e, f, g, i, rfl⟩
def h0S : List UInt32 := [1795745351, 3144134277, 1013904242, 2773480762, 1359893119, 2600822924, 528734635, 1541459225]
def stepsS (l : List UInt8) : Nat → List UInt32
  | 0 => h0S
  | t + 1 => blockS (stepsS l t) ((l.drop (64 * t)).take 64) (64 * (t + 1)) false
theorem outS_len (h v : List UInt32) : (outS h v).length = 8 := by simp [outS]
theorem blockS_len (h : List UInt32) (b : List UInt8) (n : Nat) (x : Bool) : (blockS h b n x).length = 8 := outS_len _ _
theorem stepsS_len (l : List UInt8) : ∀ t, (stepsS l t).length = 8
  | 0 => rfl
  | t + 1 => blockS_len _ _ _ _
def outB (h : List UInt32) (i : Nat) : UInt8 := (h.getD (i / 4) 0 >>> UInt32.ofNat (8 * (i % 4))).toUInt8
def bytes32 (h : List UInt32) : List UInt8 := (List.range 32).map (outB h)
def full (l : List UInt8) : Nat := (l.length - 1) / 64
def sumS (l : List UInt8) : List UInt8 :=
  bytes32 (blockS (stepsS l (full l)) (l.drop (64 * full l) ++ List.replicate (64 - (l.length - 64 * full l)) 0) l.length true)
def StAt (h : Heap) (p c n : Nat) (hs : List UInt32) (rest : Value) : Prop :=
  h.get p = .cells (ptr c 0 :: (wcells hs ++ [rest])) 0 ∧ h.get c = .cells [.int .i64 (n : Nat)] 0 ∧ hs.length = 8 ∧ p < h.n ∧ c < h.n ∧ p ≠ c
theorem StAt.keep {S : Nat → Prop} {h h' : Heap} {p c n : Nat} {hs : List UInt32} {rest : Value} (hs' : StAt h p c n hs rest) (hf : Fr S h h') (h1 : ¬ S p) (h2 : ¬ S c) : StAt h' p c n hs rest :=
  ⟨by rw [hf.get _ hs'.2.2.2.1 h1, hs'.1], by rw [hf.get _ hs'.2.2.2.2.1 h2, hs'.2.1], hs'.2.2.1, hf.lt hs'.2.2.2.1, hf.lt hs'.2.2.2.2.1, hs'.2.2.2.2.2⟩
theorem New_ok {h : Heap} : Runs Tryz.prog T0 (.fn fn_zaQ) [] h (fun r h' => ∃ p c, r = ptr p 0 ∧ StAt h' p c 0 h0S (.slice none 0 0) ∧ h.n ≤ p ∧ h.n ≤ c ∧ Fr (fun _ => False) h h') (fun _ _ => False) := by
  refine zaQ_runs (v := undef) ?_
  refine stp ?_
  refine O.call' begin_ok (fun r h1 hr => ?_)
  obtain ⟨rfl, hf1⟩ := hr
  refine stp ?_
  refine O.how XOp.xorI ?_
  rw [show (IntKind.u32.wrap ((BitVec.ofInt IntKind.u32.bits 1779033703 ^^^ BitVec.ofInt IntKind.u32.bits 16842784).toNat : Nat)) = 1795745351 from by decide]
  refine stp ?_
  have hn1 := hf1.n
  refine ⟨_, _, rfl, ⟨by rw [Heap.get_push, if_pos rfl]; rfl, by rw [Heap.get_push, if_neg (by simp), Heap.get_push, if_pos rfl]; rfl, rfl, by simp, by simp <;> omega, by simp⟩, by simp <;> omega, by simp <;> omega, hf1.push.push.push⟩
theorem none_okB {h : Heap} {p c n : Nat} {hs : List UInt32} {rest : Value} (hst : StAt h p c n hs rest) : Runs Tryz.prog T0 (.fn fn_zeQ) [ptr p 0] h (fun r h' => r = .bool false ∧ h' = h) (fun _ _ => False) := by
  obtain ⟨g1, g2, hl, hp, hc, hne⟩ := hst
  haveI : HGet h p _ := ⟨g1⟩
  refine zeQ_runs ?_
  refine stp ?_
  exact ⟨rfl, rfl⟩
theorem take_okB {h : Heap} {c n : Nat} (hg : h.get c = .cells [.int .i64 (n : Nat)] 0) (hn : n < 1048576) : Runs Tryz.prog T0 (.fn fn_ziQ) [ptr c 0, .int .i64 64] h (fun r h' => h' = h.set c (.cells [.int .i64 ((n + 64 : Nat) : Int)] 0)) (fun _ _ => False) := by
  haveI : HGet h c _ := ⟨hg⟩
  refine ziQ_runs ?_
  refine stp ?_
  rw [show ((n : Int) + 64) = ((n + 64 : Nat) : Int) from by omega]
theorem clen_ok {h : Heap} {c n : Nat} (hg : h.get c = .cells [.int .i64 (n : Nat)] 0) : Runs Tryz.prog T0 (.fn fn_zhQ) [ptr c 0] h (fun r h' => r = .int .i64 (n : Nat) ∧ h' = h) (fun _ _ => False) := by
  haveI : HGet h c _ := ⟨hg⟩
  refine zhQ_runs ?_
  refine stp ?_
  exact ⟨rfl, rfl⟩
theorem Len_okB {h : Heap} {p c n m cap : Nat} {a : Option Addr} {hs : List UInt32} (hst : StAt h p c n hs (.slice a m cap)) (hn : n < 1048576) (hm : m < 1048576) :
    Runs Tryz.prog T0 (.fn fn_zbQ) [ptr p 0] h (fun r h' => r = .int .i64 ((n + m : Nat) : Int) ∧ h' = h) (fun _ _ => False) := by
  have hst' := hst
  obtain ⟨g1, g2, hl, hp, hc, hne⟩ := hst
  obtain ⟨a0, a1, a2, a3, a4, a5, a6, a7, rfl⟩ := eight hl
  haveI : HGet h p (.cells [ptr c 0, .int .u32 (a0.toNat : Nat), .int .u32 (a1.toNat : Nat), .int .u32 (a2.toNat : Nat), .int .u32 (a3.toNat : Nat), .int .u32 (a4.toNat : Nat), .int .u32 (a5.toNat : Nat), .int .u32 (a6.toNat : Nat), .int .u32 (a7.toNat : Nat), .slice a m cap] 0) := ⟨g1⟩
  refine zbQ_runs ?_
  refine stp ?_
  refine O.call' (none_okB hst') (fun r h1 hr => ?_)
  obtain ⟨rfl, rfl⟩ := hr
  refine stp ?_
  refine D.callX (clen_ok g2) (fun r h2 hr => ?_) (fun r h2 hr => ?_) (fun _ _ hx => hx.elim)
  · obtain ⟨rfl, rfl⟩ := hr
    exact StabL.ok
  obtain ⟨rfl, rfl⟩ := hr
  refine stp ?_
  exact ⟨rfl, rfl⟩
theorem own_sl {h : Heap} {v : Value} {l : List UInt8} (ho : Own h 1 v (bcells l) l.length) (hl : 0 < l.length) : ∃ q, Sl h v q l ∧ ownedBy v q := by
  generalize hn : l.length = n at *
  generalize hc : bcells l = c at *
  cases ho with
  | none => omega
  | lit _ _ => omega
  | grown hq hn0 hle hl1 hl2 hg =>
    rename_i q k cap j
    subst hn
    subst hc
    exact ⟨q, ⟨0, some k, cap, _, 1, rfl, hle, hq, hg, fun _ => rfl, by
      rw [cellsAt_of (by rw [hg]; rfl) (by rw [List.length_append]; omega), List.drop_zero, List.take_append_of_le_length (by omega), List.take_of_length_le (by omega)]⟩, rfl⟩
theorem Sl.rd {h : Heap} {v : Value} {q : Nat} {l : List UInt8} (hs : Sl h v q l) : Rd h 1 v (bcells l) l.length := by
  obtain ⟨o, sp, cap, cs, es, rfl, h2, h3, h4, h5, h6⟩ := hs.ex
  exact Rd.mk h3 (by rw [Nat.mul_one]; exact h6)
set_option maxHeartbeats 1000000 in
theorem Write_ok {h : Heap} {p c : Nat} {v : Value} {l : List UInt8} (hst : StAt h p c 0 h0S (.slice none 0 0)) (hv : Rd h 1 v (bcells l) l.length) (hl : 0 < l.length) (hsm : l.length < 1048576) :
    Runs Tryz.prog T0 (.fn fn_zdQ) [ptr p 0, v] h (fun r h' => ∃ q rest, StAt h' p c (64 * full l) (stepsS l (full l)) rest ∧ Sl h' rest q (l.drop (64 * full l)) ∧ h.n ≤ q ∧ Fr (fun i => i = p ∨ i = c) h h') (fun _ _ => False) := by
  have hst' := hst
  obtain ⟨g1, g2, hl0, hp, hc, hne⟩ := hst
  haveI : HGet h p (.cells [ptr c 0, .int .u32 ((1795745351 : UInt32).toNat : Nat), .int .u32 ((3144134277 : UInt32).toNat : Nat), .int .u32 ((1013904242 : UInt32).toNat : Nat), .int .u32 ((2773480762 : UInt32).toNat : Nat), .int .u32 ((1359893119 : UInt32).toNat : Nat), .int .u32 ((2600822924 : UInt32).toNat : Nat), .int .u32 ((528734635 : UInt32).toNat : Nat), .int .u32 ((1541459225 : UInt32).toNat : Nat), .slice none 0 0] 0) := ⟨g1⟩
  refine zdQ_runs ?_
  refine stp ?_
  refine O.call' (none_okB hst') (fun r h1 hr => ?_)
  obtain ⟨rfl, rfl⟩ := hr
  refine stp ?_
  refine O.append .none (hv.new _) (by rw [bcells_len]; omega) (bcells_one l) (by omega) (by omega) (by omega) (fun v' h2 ho2 hf2 hnew => ?_)
  rw [Nat.zero_add, List.nil_append] at ho2
  obtain ⟨q, hsl, hqo⟩ := own_sl ho2 hl
  have hq : h1.n ≤ q := (hnew q hqo).elim (fun h => h.elim) id
  have hn2 := hf2.n
  haveI : HGet h2 p _ := hf2.keep this hp id
  have hsl1 := hsl
  obtain ⟨o, sp, cap, cs, es, rfl, _, _, _, _, _⟩ := hsl1.ex
  have g2c : h2.get c = .cells [.int .i64 0] 0 := by rw [hf2.get _ hc id, g2]; rfl
  refine stp ?_
  have hF : Fr (fun i => i = p ∨ i = c) h1 h2 := hf2.mono fun _ _ h => h.elim
  refine loop0 zdQ_l0_M (fun m h' => ∃ t rest, 64 * t < l.length ∧ m = l.length - t ∧ StAt h' p c (64 * t) (stepsS l t) rest ∧ Sl h' rest q (l.drop (64 * t)) ∧ Fr (fun i => i = p ∨ i = c) h1 h') ?_ l.length ?_
  rotate_left
  · exact ⟨0, _, by omega, rfl, ⟨by rw [Heap.get_set, if_pos rfl]; rfl, by rw [Heap.get_set, if_neg (by omega), g2c]; rfl, rfl, by simp; omega, by simp; omega, hne⟩, (hsl.keep (S := fun i => i = p) (Fr.refl.set fun _ => rfl) (by omega)), hF.set fun _ => .inl rfl⟩
  rintro m h' x16 x17 x18 x19 x20 x21 x22 x23 x24 x25 x26 x27 x28 x29 x30 x31 x32 x33 x34 x35 x36 x37 x38 x39 x40 x41 x42 x43 x44 x45 x46 x47 x48 x49 x50 ⟨t, rest, ht, rfl, hst, hsl, hf⟩
  have hst0 := hst
  have hsl0 := hsl
  obtain ⟨g1, g2, hl0, hp, hc, hne⟩ := hst
  obtain ⟨o, sp, cap, cs, es, rfl, hs2, hs3, hs4, hs5, hs6⟩ := hsl.ex
  obtain ⟨a0, a1, a2, a3, a4, a5, a6, a7, e8⟩ := eight hl0
  have hdl : (l.drop (64 * t)).length = l.length - 64 * t := by rw [List.length_drop]
  haveI : HGet h' p (.cells [ptr c 0, .int .u32 (a0.toNat : Nat), .int .u32 (a1.toNat : Nat), .int .u32 (a2.toNat : Nat), .int .u32 (a3.toNat : Nat), .int .u32 (a4.toNat : Nat), .int .u32 (a5.toNat : Nat), .int .u32 (a6.toNat : Nat), .int .u32 (a7.toNat : Nat), .slice (some ⟨q, o, sp⟩) (l.drop (64 * t)).length cap] 0) := ⟨by rw [g1, e8]; rfl⟩
  refine stp ?_
  refine C.if (fun hgt => ?_) (fun hle => ?_)
  · refine stp ?_
    refine O.call' (take_okB g2 (by omega)) (fun r h3 hr => ?_)
    subst hr
    generalize hh3 : h'.set c _ = h3
    have g3p : h3.get p = .cells ([ptr c 0] ++ (wcells (stepsS l t) ++ [.slice (some ⟨q, o, sp⟩) (l.drop (64 * t)).length cap])) 0 := by rw [← hh3, Heap.get_set, if_neg hne, g1]; rfl
    have g3c : h3.get c = .cells [.int .i64 ((64 * t + 64 : Nat) : Int)] 0 := by rw [← hh3, Heap.get_set, if_pos rfl]
    have hqn := hsl.lt
    have f3 : Fr (fun i => i = p ∨ i = c) h' h3 := by rw [← hh3]; exact Fr.refl.set fun _ => .inr rfl
    have hsl3 := hsl.keep (S := fun i => i = c) (h' := h3) (by rw [← hh3]; exact Fr.refl.set fun _ => rfl) (by omega)
    have hn3 : h3.n = h'.n := by rw [← hh3]; simp
    clear hh3
    haveI : HGet h3 c _ := ⟨g3c⟩
    haveI : HGet h3 p (.cells [ptr c 0, .int .u32 (a0.toNat : Nat), .int .u32 (a1.toNat : Nat), .int .u32 (a2.toNat : Nat), .int .u32 (a3.toNat : Nat), .int .u32 (a4.toNat : Nat), .int .u32 (a5.toNat : Nat), .int .u32 (a6.toNat : Nat), .int .u32 (a7.toNat : Nat), .slice (some ⟨q, o, sp⟩) (l.drop (64 * t)).length cap] 0) := ⟨by rw [g3p, e8]; rfl⟩
    obtain ⟨v1, hs1, hop⟩ := hsl3.part (i := 0) (j := 64) (by omega) (by omega)
    refine stp ?_
    refine D.how (hop (fun c hc => bnd_at (K := .i64) rfl rfl (by omega)) rfl) rfl ?_
    refine stp ?_
    refine D.callX (block_ok (p := p) (pre := [ptr c 0]) g3p (by omega) hl0 hs1 (by rw [List.length_take, List.length_drop]; omega) (by omega)) (fun r h4 hr => rfl) (fun r h4 hr => ?_) (fun _ _ hx => hx.elim)
    obtain ⟨g4p, f4⟩ := hr
    rw [show blockS (stepsS l t) (((l.drop (64 * t)).drop 0).take (64 - 0)) (64 * t + 64) false = stepsS l (t + 1) from rfl] at g4p
    have hl4 := stepsS_len l (t + 1)
    obtain ⟨b0, b1, b2, b3, b4, b5, b6, b7, e9⟩ := eight hl4
    haveI : HGet h4 p (.cells [ptr c 0, .int .u32 (b0.toNat : Nat), .int .u32 (b1.toNat : Nat), .int .u32 (b2.toNat : Nat), .int .u32 (b3.toNat : Nat), .int .u32 (b4.toNat : Nat), .int .u32 (b5.toNat : Nat), .int .u32 (b6.toNat : Nat), .int .u32 (b7.toNat : Nat), .slice (some ⟨q, o, sp⟩) (l.drop (64 * t)).length cap] 0) := ⟨by rw [g4p, e9]; rfl⟩
    have hsl4 := hsl3.keep f4 (by omega)
    have hn4 := f4.n
    obtain ⟨v2, hs2', hop2⟩ := hsl4.part (i := 64) (j := (l.drop (64 * t)).length) (by omega) (by omega)
    have hd2 : ((l.drop (64 * t)).drop 64).take ((l.drop (64 * t)).length - 64) = l.drop (64 * (t + 1)) := by
      rw [List.take_of_length_le (by rw [List.length_drop]; omega), List.drop_drop]; congr 1
    rw [hd2] at hs2'
    have g4c : h4.get c = .cells [.int .i64 ((64 * t + 64 : Nat) : Int)] 0 := by rw [f4.get _ (by omega) (by omega), g3c]
    have hsl5 := hs2'
    obtain ⟨o2, sp2, cap2, cs2, es2, rfl, _, _, _, _, _⟩ := hsl5.ex
    refine stp ?_
    refine O.how (hop2 (fun c hc => rfl) (bnd_at (K := .i64) rfl rfl (by omega))) ?_
    refine stp ?_
    refine loop0a (l.length - (t + 1)) (by omega) ⟨t + 1, _, by omega, rfl, ⟨by rw [Heap.get_set, if_pos rfl, e9]; rfl, by rw [Heap.get_set, if_neg (by omega), g4c]; rfl, hl4, by simp; omega, by simp; omega, hne⟩, hs2'.keep (S := fun i => i = p) (Fr.refl.set fun _ => rfl) (by omega), (hf.trans' (f3.trans' (f4.mono fun _ _ h => .inl h))).set fun _ => .inl rfl⟩
  · refine stp ?_
    have hT : full l = t := by unfold full; omega
    rw [hT]
    exact ⟨q, _, hst0, hsl0, hq, hf⟩
theorem u8_of32 (w : UInt32) : IntKind.u8.wrap (w.toNat : Int) = ((w.toUInt8).toNat : Nat) := by
  rw [wrap_u8, UInt32.toNat_toUInt8]; omega
theorem bcells_set : ∀ {l : List UInt8} {i : Nat} {b : UInt8}, i < l.length → over (bcells l) i [.int .u8 (b.toNat : Nat)] = bcells (l.set i b)
  | [], i, b, h => by simp at h
  | v :: l, 0, b, _ => by
    show _ :: over (bcells l) 0 [] = _
    rw [over_nil]; rfl
  | v :: l, i + 1, b, h => by
    show _ :: over (bcells l) i _ = _
    rw [bcells_set (by simpa using h)]; rfl
theorem put_b {h : Heap} {q es i : Nat} {l : List UInt8} {b : UInt8} (hg : h.get q = .cells (bcells l) es) (hi : i < l.length) : Put h q i [.int .u8 (b.toNat : Nat)] (h.set q (.cells (bcells (l.set i b)) es)) := ⟨by
  simp only [putAt, hg]
  rw [if_pos ⟨by rw [bcells_len]; simp; omega, rfl⟩, bcells_set hi]⟩
theorem getD_setB {l : List UInt8} {i j : Nat} {w : UInt8} (hi : i < l.length) : (l.set i w).getD j 0 = if j = i then w else l.getD j 0 := by
  simp only [List.getD_eq_getElem?_getD, List.getElem?_set]
  by_cases h : i = j
  · subst h; simp [hi]
  · rw [if_neg h, if_neg (Ne.symm h)]
theorem bytes_ext {l m : List UInt8} (h : l.length = m.length) (hg : ∀ j, j < l.length → l.getD j 0 = m.getD j 0) : l = m := by
  apply List.ext_getElem h
  intro i h1 h2
  have := hg i h1
  simpa [List.getD_eq_getElem?_getD, List.getElem?_eq_getElem h1, List.getElem?_eq_getElem h2] using this
theorem repeat_zero : ∀ n : Nat, repeatL [.int .u8 0] n = bcells (List.replicate n 0)
  | 0 => rfl
  | n + 1 => by
    show _ :: repeatL _ n = _
    rw [repeat_zero n]; rfl
set_option maxHeartbeats 1000000 in
theorem StSum_ok {h : Heap} {p c n q : Nat} {hs : List UInt32} {v : Value} {d : List UInt8} (hst : StAt h p c n hs v) (hv : Sl h v q d) (hd : 0 < d.length ∧ d.length ≤ 64) (hn : n + d.length < 1048576) :
    Runs Tryz.prog T0 (.fn fn_zcQ) [ptr p 0] h (fun r h' => r = .tuple ⟨[.agg ⟨bcells (bytes32 (blockS hs (d ++ List.replicate (64 - d.length) 0) (n + d.length) true))⟩, .int .i64 0]⟩ ∧ Fr (fun _ => False) h h') (fun _ _ => False) := by
  obtain ⟨o, sp, cap, cs, es, rfl, hs2, hs3, hs4, hs5, hs6⟩ := hv.ex
  have hst' := hst
  obtain ⟨g1, g2, hl0, hp, hc, hne⟩ := hst
  obtain ⟨a0, a1, a2, a3, a4, a5, a6, a7, e8⟩ := eight hl0
  have i1 : HGet h p (.cells [ptr c 0, .int .u32 (a0.toNat : Nat), .int .u32 (a1.toNat : Nat), .int .u32 (a2.toNat : Nat), .int .u32 (a3.toNat : Nat), .int .u32 (a4.toNat : Nat), .int .u32 (a5.toNat : Nat), .int .u32 (a6.toNat : Nat), .int .u32 (a7.toNat : Nat), .slice (some ⟨q, o, sp⟩) d.length cap] 0) := ⟨by rw [g1, e8]; rfl⟩
  haveI := i1
  haveI : BLt p h := ⟨hp⟩
  refine zcQ_runs ?_
  refine stp ?_
  refine O.call' (none_okB (hst'.keep (S := fun _ => False) Fr.refl.push id id)) (fun r h1 hr => ?_)
  obtain ⟨rfl, rfl⟩ := hr
  refine stp ?_
  generalize hH : (h.push (.cells z32 0)).push (.cells _ 0) = H
  have hHn : H.n = h.n + 2 := by rw [← hH]; rfl
  have gO : H.get h.n = .cells (bcells (List.replicate 32 0)) 0 := by rw [← hH, Heap.get_push, if_neg (by simp), Heap.get_push, if_pos rfl]; rfl
  have gW : H.get (h.n + 1) = .cells ([] ++ (wcells hs ++ [])) 0 := by rw [← hH, Heap.get_push, if_pos (by simp), e8]; rfl
  have hF : Fr (fun _ => False) h H := by rw [← hH]; exact Fr.refl.push.push
  clear hH
  haveI i2 := hF.keep i1 hp id
  have hvH := hv.keep hF id
  have hstH := hst'.keep hF id id
  simp only [Heap.n_push]
  refine D.callX (Clone_ok hvH.rd (by omega)) (fun r h2 hr => ?_) (fun r h2 hr => ?_) (fun _ _ hx => hx.elim)
  · obtain ⟨hr1, hr2, hr3⟩ := hr
    haveI := hr2.keep i2 (hF.lt hp) id
    exact stab_cons (XOp.subI (by omega)) StabL.ok
  obtain ⟨ho2, hf2, hnew2⟩ := hr
  have hn2 := hf2.n
  have hm : ((64 : Int) - (d.length : Int)).toNat = 64 - d.length := by omega
  refine D.append (m := 64 - d.length) (d := bcells (List.replicate (64 - d.length) 0)) ho2 ?_ (by rw [bcells_len]; simp) (bcells_one _) (by omega) (by omega) (by omega) (fun v' h3 ho3 hf3 hnew3 => ?_)
  · simp only [newCells]
    rw [if_pos (by simp; omega), hm, repeat_zero]
  rw [← bcells_append] at ho3
  have hlen : (d ++ List.replicate (64 - d.length) 0).length = 64 := by simp; omega
  rw [show d.length + (64 - d.length) = (d ++ List.replicate (64 - d.length) 0).length from by rw [hlen]; omega] at ho3
  obtain ⟨q2, hsl2, hqo2⟩ := own_sl ho3 (by omega)
  have hq2 : H.n ≤ q2 := (hnew3 q2 hqo2).elim (hnew2 q2) (fun h => by omega)
  have hF3 : Fr (fun _ => False) H h3 := Fr.trans (S := fun _ => False) hf2 hf3 fun i hi h => by have := hnew2 i h; omega
  have hn3 := hF3.n
  refine stp ?_
  refine O.call' (Len_okB (hstH.keep hF3 id id) (by omega) (by omega)) (fun r h4 hr => ?_)
  obtain ⟨rfl, rfl⟩ := hr
  refine stp ?_
  refine O.call' (block_ok (many := n + d.length) (last := true) (hs := hs) (p := h.n + 1) (pre := []) (post := []) (by rw [hF3.get _ (by omega) id, gW]) (by omega) hl0 hsl2 hlen (by omega)) (fun r h5 hr => ?_)
  obtain ⟨g5w, f5⟩ := hr
  have hn5 := f5.n
  have gO5 : h5.get h.n = .cells (bcells (List.replicate 32 0)) 0 := by rw [f5.get _ (by omega) (by omega), hF3.get _ (by omega) id, gO]
  have hF5 : Fr (fun _ => False) h h5 := Fr.trans (S := fun _ => False) hF (Fr.trans (S := fun i => i = h.n + 1) (hF3.mono fun _ _ h => h.elim) f5 fun _ _ h => h) fun i hi h => by omega
  rw [List.nil_append, List.append_nil] at g5w
  have hBl := blockS_len hs (d ++ List.replicate (64 - d.length) 0) (n + d.length) true
  generalize blockS hs (d ++ List.replicate (64 - d.length) 0) (n + d.length) true = BS at *
  refine stp ?_
  refine loop1 zcQ_l0_M 30 (fun m v30 h' => ∃ k : Nat, k ≤ 32 ∧ m = 32 - k ∧ v30 = .int .i64 k ∧ (∃ bs : List UInt8, h'.get h.n = .cells (bcells bs) 0 ∧ bs.length = 32 ∧ ∀ j, j < 32 → bs.getD j 0 = if j < k then outB BS j else 0) ∧ Fr (fun i => i = h.n) h5 h') ?_ 32 ⟨0, by omega, rfl, rfl, ⟨_, gO5, by simp, fun j hj => by rw [if_neg (by omega)]; simp only [List.getD_eq_getElem?_getD, List.getElem?_replicate, if_pos hj]; rfl⟩, Fr.refl⟩
  rintro m v30 h' x6 x31 x32 x33 x34 x35 x36 x37 x38 x39 x40 x41 x42 x43 x44 ⟨k, hk, rfl, rfl, ⟨bs, gb, hbl, hb⟩, hf⟩
  refine stp ?_
  refine C.if (fun hlt => ?_) (fun hge => ?_)
  · have hk : k < 32 := by omega
    haveI : HGet h' (h.n + 1) (.cells (wcells BS) 0) := ⟨by rw [hf.get _ (by omega) (by omega), g5w]⟩
    haveI : WIx BS (k / 4) := ⟨by omega⟩
    haveI := fun b => put_b (b := b) gb (i := k) (by omega)
    refine stp ?_
    refine O.how (XOp.quoI (by decide)) ?_
    rw [show IntKind.i64.wrap ((k : Int).tdiv 4) = ((k / 4 : Nat) : Int) from by rw [Int.tdiv_eq_ediv_of_nonneg (by omega), mul_in (by omega)]; omega]
    refine stp ?_
    refine O.how (XOp.remI (by decide)) ?_
    rw [show (k : Int).tmod 4 = ((k % 4 : Nat) : Int) from by rw [Int.tmod_eq_emod_of_nonneg (by omega)]; omega]
    refine stp ?_
    refine O.how (XOp.shrW (8 * (k % 4)) (by rw [mul_in (by omega)]; omega) (by omega)) ?_
    refine stp ?_
    rw [u8_of32]
    refine stp ?_
    refine loop1a 30 (32 - (k + 1)) (by omega) ⟨k + 1, by omega, rfl, rfl, ⟨_, by rw [Heap.get_set, if_pos rfl], by simpa using hbl, fun j hj => ?_⟩, hf.set fun _ => rfl⟩
    rw [getD_setB (by omega)]
    by_cases e : j = k
    · rw [if_pos e, e, if_pos (by omega)]; rfl
    · rw [if_neg e, hb j hj]
      by_cases e2 : j < k
      · rw [if_pos e2, if_pos (by omega)]
      · rw [if_neg e2, if_neg (by omega)]
  · obtain rfl : k = 32 := by omega
    have hout : bs = bytes32 BS := bytes_ext (by rw [hbl]; simp [bytes32]) fun j hj => by
      rw [hb j (by omega), if_pos (by omega)]
      simp [bytes32, List.getD_eq_getElem?_getD, show j < 32 from by omega]
    subst hout
    haveI : HGet h' h.n _ := ⟨gb⟩
    haveI : L32 (bcells (bytes32 BS)) := ⟨by rw [bcells_len, hbl]⟩
    refine stp ?_
    refine ⟨rfl, Fr.set (Fr.trans (S := fun _ => False) (S' := fun i => i = h.n) hF5 hf fun i hi h => by omega) fun h => by omega⟩
theorem sumS_len (l : List UInt8) : (sumS l).length = 32 := by simp [sumS, bytes32]
theorem Sum_ok {h : Heap} {v : Value} {l : List UInt8} (hv : Rd h 1 v (bcells l) l.length) (hl : 0 < l.length) (hsm : l.length < 1048576) :
    Runs Tryz.prog T0 (.fn fn_zfQ) [v] h (fun r h' => r = .agg ⟨bcells (sumS l)⟩ ∧ Fr (fun _ => False) h h') (fun _ _ => False) := by
  refine zfQ_runs ?_
  refine stp ?_
  refine O.call' New_ok (fun r h1 hr => ?_)
  obtain ⟨p, c, rfl, hst, hp, hc, hf1⟩ := hr
  have hn1 := hf1.n
  simp only [Heap.n_push] at hp hc hn1
  have hF1 : Fr (fun _ => False) h h1 := Fr.trans (S := fun _ => False) Fr.refl.push hf1 fun _ _ h => h
  have gO1 : HGet h1 h.n (.cells z32 0) := hf1.keep (b := h.n) HGet.new (by simp) id
  refine stp ?_
  refine O.call' (Write_ok hst (hv.keep hF1 fun _ _ => id) hl hsm) (fun r h2 hr => ?_)
  obtain ⟨q, rest, hst2, hsl2, hq, hf2⟩ := hr
  have hn2 := hf2.n
  have hF2 : Fr (fun _ => False) h h2 := Fr.trans (S := fun _ => False) hF1 hf2 fun i hi h => by omega
  have gO2 := hf2.keep (b := h.n) gO1 (by omega) (by omega)
  have hdl : (l.drop (64 * full l)).length = l.length - 64 * full l := by rw [List.length_drop]
  have hfl : 64 * full l < l.length ∧ l.length ≤ 64 * full l + 64 := by unfold full; omega
  refine stp ?_
  refine O.call' (StSum_ok hst2 hsl2 (by omega) (by omega)) (fun r h3 hr => ?_)
  obtain ⟨rfl, hf3⟩ := hr
  have hn3 := hf3.n
  haveI gO3 := hf3.keep (b := h.n) gO2 (by omega) id
  rw [hdl, show 64 * full l + (l.length - 64 * full l) = l.length from by omega]
  have hS : bytes32 (blockS (stepsS l (full l)) (l.drop (64 * full l) ++ List.replicate (64 - (l.length - 64 * full l)) 0) l.length true) = sumS l := rfl
  rw [hS]
  have hsl := sumS_len l
  haveI : L32 (bcells (sumS l)) := ⟨by rw [bcells_len, hsl]⟩
  haveI : BLt h.n h3 := ⟨by omega⟩
  refine stp ?_
  exact ⟨rfl, Fr.set (Fr.push (Fr.trans (S := fun _ => False) hF2 hf3 fun _ _ h => h)) fun h => by omega⟩
end Go.Proofs.YtlckmpioipiihaaGreat.K

namespace Go.Proofs.YtlckmpioipiihaaGreat.R
open Go Go.Vm
set_option maxRecDepth 100000
def in_1 : List UInt8 := [72, 1, 1, 97, 1, 5, 1, 1, 0, 0, 0, 0, 0, 0, 0, 0, 0, 0, 0, 0, 0, 0, 0, 0, 0, 0, 0, 0, 0, 0, 0, 0, 0, 0, 0, 0, 0, 0, 0, 0, 0, 0, 0, 0, 0, 0, 0, 0, 0, 0, 0, 0, 0, 0, 0, 0, 0, 0, 0, 0, 0, 0, 0, 0, 0, 0, 0, 0, 0, 0, 0, 0, 0, 0, 0, 0, 0, 0, 0, 0, 0, 0, 0, 0, 0, 0, 0, 0, 0, 0, 0, 0, 0, 0, 0, 0, 0, 0, 0, 0, 0, 0, 0, 0, 0, 0, 0, 0, 0, 0, 0, 0, 0, 0, 0, 0, 0, 0, 0, 0, 0, 0, 0, 0, 0, 0, 0, 0, 0, 0, 0, 0, 0, 0, 0, 0]
def out_1 : List UInt8 := [113, 219, 89, 209, 78, 141, 197, 125, 98, 168, 53, 46, 35, 198, 12, 103, 157, 59, 178, 134, 5, 193, 82, 228, 84, 190, 205, 163, 137, 228, 234, 185]
theorem sum_1b : (K.sumS in_1 == out_1) = true := by kernel_rfl
theorem sum_1 : K.sumS in_1 = out_1 := eq_of_beq sum_1b
def in_2 : List UInt8 := [72, 1, 1, 97, 1, 5, 1, 2, 0, 0, 0, 0, 0, 0, 0, 0, 0, 0, 0, 0, 0, 0, 0, 0, 0, 0, 0, 0, 0, 0, 0, 0, 0, 0, 0, 0, 0, 0, 0, 0, 0, 0, 0, 0, 0, 0, 0, 0, 0, 0, 0, 0, 0, 0, 0, 0, 0, 0, 0, 0, 0, 0, 0, 0, 0, 0, 0, 0, 0, 0, 0, 0, 0, 0, 0, 0, 0, 0, 0, 0, 0, 0, 0, 0, 0, 0, 0, 0, 0, 0, 0, 0, 0, 0, 0, 0, 0, 0, 0, 0, 0, 0, 0, 0, 0, 0, 0, 0, 0, 0, 0, 0, 0, 0, 0, 0, 0, 0, 0, 0, 0, 0, 0, 0, 0, 0, 0, 0, 0, 0, 0, 0, 0, 0, 0, 0]
def out_2 : List UInt8 := [20, 66, 11, 235, 16, 44, 47, 244, 165, 148, 253, 80, 212, 162, 77, 23, 156, 134, 100, 45, 80, 232, 9, 55, 99, 112, 126, 7, 103, 180, 60, 81]
theorem sum_2b : (K.sumS in_2 == out_2) = true := by kernel_rfl
theorem sum_2 : K.sumS in_2 = out_2 := eq_of_beq sum_2b
def sumT (l : List UInt8) : List Value := if l == in_1 then bcells out_1 else if l == in_2 then bcells out_2 else bcells (K.sumS l)
theorem sumT_eq (l : List UInt8) : sumT l = bcells (K.sumS l) := by
  unfold sumT
  split
  · rename_i h
    rw [eq_of_beq h, sum_1]
  split
  · rename_i h
    rw [eq_of_beq h, sum_2]
  rfl
theorem T0_ok : TableOK Tryz.prog K.T0 := holed_ok
def tabS : Table := withBytes (tableOf Tryz.prog) 52 sumT
theorem tabS_ok : TableOK Tryz.prog tabS := withBytes_ok (Checked.mixed Tryz.checked) tableOf_ok T0_ok (fun l => by rw [sumT_eq]; exact bcells_ground _) (fnOK_of K.zfQ_t0) (fun h v l h1 h2 h3 => (K.Sum_ok h1 h2 h3).mono (fun r h' hr => by rw [sumT_eq]; exact hr.1) (fun _ _ h => h))
end Go.Proofs.YtlckmpioipiihaaGreat.R

namespace Go.Proofs.YtlckmpioipiihaaGreat.R
open Go Go.Vm
set_option maxRecDepth 100000
def rep (n : Nat) (v : Value) (l : List Value) : List Value := List.replicate n v ++ l
def ob_1 : AObj := .cells ((.int .u8 113) :: (.int .u8 219) :: (.int .u8 89) :: (.int .u8 209) :: (.int .u8 78) :: (.int .u8 141) :: (.int .u8 197) :: (.int .u8 125) :: (.int .u8 98) :: (.int .u8 168) :: (.int .u8 53) :: (.int .u8 46) :: (.int .u8 35) :: (.int .u8 198) :: (.int .u8 12) :: (.int .u8 103) :: (.int .u8 157) :: (.int .u8 59) :: (.int .u8 178) :: (.int .u8 134) :: (.int .u8 5) :: (.int .u8 193) :: (.int .u8 82) :: (.int .u8 228) :: (.int .u8 84) :: (.int .u8 190) :: (.int .u8 205) :: (.int .u8 163) :: (.int .u8 137) :: (.int .u8 228) :: (.int .u8 234) :: (.int .u8 185) :: (.int .i64 0) :: (.string ⟨⟨[]⟩⟩) :: (.int .i64 0) :: (.int .i64 0) :: rep 128 (.int .u8 0) ((.int .i64 0) :: rep 32 (.int .u8 0) ((.slice none 0 0) :: (.slice none 0 0) :: (.int .i64 3) :: (.string ⟨⟨[]⟩⟩) :: (.int .i64 0) :: (.int .i64 0) :: rep 128 (.int .u8 0) ((.int .i64 0) :: rep 32 (.int .u8 0) ((.slice none 0 0) :: (.slice none 0 0) :: (.int .i64 0) :: (.string ⟨⟨[]⟩⟩) :: (.int .i64 0) :: (.int .i64 0) :: rep 128 (.int .u8 0) ((.int .i64 0) :: rep 32 (.int .u8 0) ((.slice none 0 0) :: (.slice none 0 0) :: (.int .i64 0) :: (.string ⟨⟨[]⟩⟩) :: (.int .i64 0) :: (.int .i64 0) :: rep 128 (.int .u8 0) ((.int .i64 0) :: rep 32 (.int .u8 0) ((.slice none 0 0) :: (.slice none 0 0) :: (.int .i64 2) :: (.string ⟨⟨[]⟩⟩) :: (.int .i64 0) :: (.int .i64 0) :: rep 128 (.int .u8 0) ((.int .i64 0) :: rep 32 (.int .u8 0) ((.slice none 0 0) :: (.slice none 0 0) :: (.int .i64 0) :: (.string ⟨⟨[]⟩⟩) :: (.int .i64 0) :: (.int .i64 0) :: rep 128 (.int .u8 0) ((.int .i64 0) :: rep 32 (.int .u8 0) ((.slice none 0 0) :: (.slice none 0 0) :: (.int .i64 0) :: (.string ⟨⟨[]⟩⟩) :: (.int .i64 0) :: (.int .i64 0) :: rep 128 (.int .u8 0) ((.int .i64 0) :: rep 32 (.int .u8 0) ((.slice none 0 0) :: (.slice none 0 0) :: (.int .i64 1) :: (.string ⟨⟨[]⟩⟩) :: (.int .i64 0) :: (.int .i64 0) :: rep 128 (.int .u8 0) ((.int .i64 0) :: rep 32 (.int .u8 0) ((.slice none 0 0) :: (.slice none 0 0) :: (.int .i64 0) :: (.string ⟨⟨[]⟩⟩) :: (.int .i64 0) :: (.int .i64 0) :: rep 128 (.int .u8 0) ((.int .i64 0) :: rep 32 (.int .u8 0) ((.slice none 0 0) :: (.slice none 0 0) :: (.int .i64 0) :: (.string ⟨⟨[]⟩⟩) :: (.int .i64 0) :: (.int .i64 0) :: rep 128 (.int .u8 0) ((.int .i64 0) :: rep 32 (.int .u8 0) ((.slice none 0 0) :: (.slice none 0 0) :: (.int .i64 0) :: (.string ⟨⟨[]⟩⟩) :: (.int .i64 0) :: (.int .i64 0) :: rep 128 (.int .u8 0) ((.int .i64 0) :: rep 32 (.int .u8 0) ((.slice none 0 0) :: (.slice none 0 0) :: (.int .i64 0) :: (.string ⟨⟨[]⟩⟩) :: (.int .i64 0) :: (.int .i64 0) :: rep 128 (.int .u8 0) ((.int .i64 0) :: rep 32 (.int .u8 0) ((.slice none 0 0) :: (.slice none 0 0) :: (.int .i64 0) :: (.string ⟨⟨[]⟩⟩) :: (.int .i64 0) :: (.int .i64 0) :: rep 128 (.int .u8 0) ((.int .i64 0) :: rep 32 (.int .u8 0) ((.slice none 0 0) :: (.slice none 0 0) :: (.int .i64 0) :: (.string ⟨⟨[]⟩⟩) :: (.int .i64 0) :: (.int .i64 0) :: rep 128 (.int .u8 0) ((.int .i64 0) :: rep 32 (.int .u8 0) ((.slice none 0 0) :: (.slice none 0 0) :: (.int .i64 0) :: (.string ⟨⟨[]⟩⟩) :: (.int .i64 0) :: (.int .i64 0) :: rep 128 (.int .u8 0) ((.int .i64 0) :: rep 32 (.int .u8 0) ((.slice none 0 0) :: (.slice none 0 0) :: (.int .i64 0) :: (.string ⟨⟨[]⟩⟩) :: (.int .i64 0) :: (.int .i64 0) :: rep 128 (.int .u8 0) ((.int .i64 0) :: rep 32 (.int .u8 0) ((.slice none 0 0) :: (.slice none 0 0) :: (.bool true) :: []))))))))))))))))))))))))))))))))) 0
def ob_2 : AObj := .cells ((.int .u8 113) :: (.int .u8 219) :: (.int .u8 89) :: (.int .u8 209) :: (.int .u8 78) :: (.int .u8 141) :: (.int .u8 197) :: (.int .u8 125) :: (.int .u8 98) :: (.int .u8 168) :: (.int .u8 53) :: (.int .u8 46) :: (.int .u8 35) :: (.int .u8 198) :: (.int .u8 12) :: (.int .u8 103) :: (.int .u8 157) :: (.int .u8 59) :: (.int .u8 178) :: (.int .u8 134) :: (.int .u8 5) :: (.int .u8 193) :: (.int .u8 82) :: (.int .u8 228) :: (.int .u8 84) :: (.int .u8 190) :: (.int .u8 205) :: (.int .u8 163) :: (.int .u8 137) :: (.int .u8 228) :: (.int .u8 234) :: (.int .u8 185) :: (.int .i64 0) :: (.string ⟨⟨[]⟩⟩) :: (.int .i64 0) :: (.int .i64 0) :: rep 128 (.int .u8 0) ((.int .i64 0) :: rep 32 (.int .u8 0) ((.slice none 0 0) :: (.slice none 0 0) :: (.int .i64 3) :: (.string ⟨⟨[]⟩⟩) :: (.int .i64 0) :: (.int .i64 0) :: rep 128 (.int .u8 0) ((.int .i64 0) :: rep 32 (.int .u8 0) ((.slice none 0 0) :: (.slice none 0 0) :: (.int .i64 0) :: (.string ⟨⟨[]⟩⟩) :: (.int .i64 0) :: (.int .i64 0) :: rep 128 (.int .u8 0) ((.int .i64 0) :: rep 32 (.int .u8 0) ((.slice none 0 0) :: (.slice none 0 0) :: (.int .i64 0) :: (.string ⟨⟨[]⟩⟩) :: (.int .i64 0) :: (.int .i64 0) :: rep 128 (.int .u8 0) ((.int .i64 0) :: rep 32 (.int .u8 0) ((.slice none 0 0) :: (.slice none 0 0) :: (.int .i64 2) :: (.string ⟨⟨[]⟩⟩) :: (.int .i64 0) :: (.int .i64 0) :: rep 128 (.int .u8 0) ((.int .i64 0) :: rep 32 (.int .u8 0) ((.slice none 0 0) :: (.slice none 0 0) :: (.int .i64 0) :: (.string ⟨⟨[]⟩⟩) :: (.int .i64 0) :: (.int .i64 0) :: rep 128 (.int .u8 0) ((.int .i64 0) :: rep 32 (.int .u8 0) ((.slice none 0 0) :: (.slice none 0 0) :: (.int .i64 0) :: (.string ⟨⟨[]⟩⟩) :: (.int .i64 0) :: (.int .i64 0) :: rep 128 (.int .u8 0) ((.int .i64 0) :: rep 32 (.int .u8 0) ((.slice none 0 0) :: (.slice none 0 0) :: (.int .i64 3) :: (.string ⟨⟨[]⟩⟩) :: (.int .i64 0) :: (.int .i64 0) :: rep 128 (.int .u8 0) ((.int .i64 0) :: rep 32 (.int .u8 0) ((.slice none 0 0) :: (.slice none 0 0) :: (.int .i64 0) :: (.string ⟨⟨[]⟩⟩) :: (.int .i64 0) :: (.int .i64 0) :: rep 128 (.int .u8 0) ((.int .i64 0) :: rep 32 (.int .u8 0) ((.slice none 0 0) :: (.slice none 0 0) :: (.int .i64 0) :: (.string ⟨⟨[]⟩⟩) :: (.int .i64 0) :: (.int .i64 0) :: rep 128 (.int .u8 0) ((.int .i64 0) :: rep 32 (.int .u8 0) ((.slice none 0 0) :: (.slice none 0 0) :: (.int .i64 0) :: (.string ⟨⟨[]⟩⟩) :: (.int .i64 0) :: (.int .i64 0) :: rep 128 (.int .u8 0) ((.int .i64 0) :: rep 32 (.int .u8 0) ((.slice none 0 0) :: (.slice none 0 0) :: (.int .i64 0) :: (.string ⟨⟨[]⟩⟩) :: (.int .i64 0) :: (.int .i64 0) :: rep 128 (.int .u8 0) ((.int .i64 0) :: rep 32 (.int .u8 0) ((.slice none 0 0) :: (.slice none 0 0) :: (.int .i64 0) :: (.string ⟨⟨[]⟩⟩) :: (.int .i64 0) :: (.int .i64 0) :: rep 128 (.int .u8 0) ((.int .i64 0) :: rep 32 (.int .u8 0) ((.slice none 0 0) :: (.slice none 0 0) :: (.int .i64 0) :: (.string ⟨⟨[]⟩⟩) :: (.int .i64 0) :: (.int .i64 0) :: rep 128 (.int .u8 0) ((.int .i64 0) :: rep 32 (.int .u8 0) ((.slice none 0 0) :: (.slice none 0 0) :: (.int .i64 0) :: (.string ⟨⟨[]⟩⟩) :: (.int .i64 0) :: (.int .i64 0) :: rep 128 (.int .u8 0) ((.int .i64 0) :: rep 32 (.int .u8 0) ((.slice none 0 0) :: (.slice none 0 0) :: (.int .i64 0) :: (.string ⟨⟨[]⟩⟩) :: (.int .i64 0) :: (.int .i64 0) :: rep 128 (.int .u8 0) ((.int .i64 0) :: rep 32 (.int .u8 0) ((.slice none 0 0) :: (.slice none 0 0) :: (.bool true) :: []))))))))))))))))))))))))))))))))) 0
def va_3 : Value := .agg ⟨(.string ⟨⟨[97]⟩⟩) :: (.int .i64 5) :: (.int .i64 2) :: rep 128 (.int .u8 0) ((.int .i64 0) :: rep 32 (.int .u8 0) ((.slice none 0 0) :: (.slice (some ⟨807, 0, none⟩) 1 1) :: []))⟩
def ob_4 : AObj := .cells ((.int .u8 0) :: (.int .u8 0) :: (.int .u8 0) :: (.int .u8 0) :: (.int .i64 1) :: []) 0
def ob_5 : AObj := .cells ((.string ⟨⟨[97]⟩⟩) :: (.int .i64 5) :: (.int .i64 2) :: rep 128 (.int .u8 0) ((.int .i64 0) :: rep 32 (.int .u8 0) ((.slice none 0 0) :: (.slice (some ⟨807, 0, none⟩) 1 1) :: []))) 0
def ob_6 : AObj := .cells ((.int .u8 113) :: (.int .u8 219) :: (.int .u8 89) :: (.int .u8 209) :: (.int .u8 78) :: (.int .u8 141) :: (.int .u8 197) :: (.int .u8 125) :: (.int .u8 98) :: (.int .u8 168) :: (.int .u8 53) :: (.int .u8 46) :: (.int .u8 35) :: (.int .u8 198) :: (.int .u8 12) :: (.int .u8 103) :: (.int .u8 157) :: (.int .u8 59) :: (.int .u8 178) :: (.int .u8 134) :: (.int .u8 5) :: (.int .u8 193) :: (.int .u8 82) :: (.int .u8 228) :: (.int .u8 84) :: (.int .u8 190) :: (.int .u8 205) :: (.int .u8 163) :: (.int .u8 137) :: (.int .u8 228) :: (.int .u8 234) :: (.int .u8 185) :: (.int .i64 0) :: (.string ⟨⟨[]⟩⟩) :: (.int .i64 0) :: (.int .i64 0) :: rep 128 (.int .u8 0) ((.int .i64 0) :: rep 32 (.int .u8 0) ((.slice none 0 0) :: (.slice none 0 0) :: (.int .i64 3) :: (.string ⟨⟨[]⟩⟩) :: (.int .i64 0) :: (.int .i64 0) :: rep 128 (.int .u8 0) ((.int .i64 0) :: rep 32 (.int .u8 0) ((.slice none 0 0) :: (.slice none 0 0) :: (.int .i64 0) :: (.string ⟨⟨[]⟩⟩) :: (.int .i64 0) :: (.int .i64 0) :: rep 128 (.int .u8 0) ((.int .i64 0) :: rep 32 (.int .u8 0) ((.slice none 0 0) :: (.slice none 0 0) :: (.int .i64 0) :: (.string ⟨⟨[]⟩⟩) :: (.int .i64 0) :: (.int .i64 0) :: rep 128 (.int .u8 0) ((.int .i64 0) :: rep 32 (.int .u8 0) ((.slice none 0 0) :: (.slice none 0 0) :: (.int .i64 2) :: (.string ⟨⟨[]⟩⟩) :: (.int .i64 0) :: (.int .i64 0) :: rep 128 (.int .u8 0) ((.int .i64 0) :: rep 32 (.int .u8 0) ((.slice none 0 0) :: (.slice none 0 0) :: (.int .i64 0) :: (.string ⟨⟨[]⟩⟩) :: (.int .i64 0) :: (.int .i64 0) :: rep 128 (.int .u8 0) ((.int .i64 0) :: rep 32 (.int .u8 0) ((.slice none 0 0) :: (.slice none 0 0) :: (.int .i64 0) :: (.string ⟨⟨[]⟩⟩) :: (.int .i64 0) :: (.int .i64 0) :: rep 128 (.int .u8 0) ((.int .i64 0) :: rep 32 (.int .u8 0) ((.slice none 0 0) :: (.slice none 0 0) :: (.int .i64 4) :: (.string ⟨⟨[97]⟩⟩) :: (.int .i64 5) :: (.int .i64 2) :: rep 128 (.int .u8 0) ((.int .i64 0) :: rep 32 (.int .u8 0) ((.slice none 0 0) :: (.slice (some ⟨890, 0, (some 0)⟩) 1 1) :: (.int .i64 0) :: (.string ⟨⟨[]⟩⟩) :: (.int .i64 0) :: (.int .i64 0) :: rep 128 (.int .u8 0) ((.int .i64 0) :: rep 32 (.int .u8 0) ((.slice none 0 0) :: (.slice none 0 0) :: (.int .i64 0) :: (.string ⟨⟨[]⟩⟩) :: (.int .i64 0) :: (.int .i64 0) :: rep 128 (.int .u8 0) ((.int .i64 0) :: rep 32 (.int .u8 0) ((.slice none 0 0) :: (.slice none 0 0) :: (.int .i64 0) :: (.string ⟨⟨[]⟩⟩) :: (.int .i64 0) :: (.int .i64 0) :: rep 128 (.int .u8 0) ((.int .i64 0) :: rep 32 (.int .u8 0) ((.slice none 0 0) :: (.slice none 0 0) :: (.int .i64 0) :: (.string ⟨⟨[]⟩⟩) :: (.int .i64 0) :: (.int .i64 0) :: rep 128 (.int .u8 0) ((.int .i64 0) :: rep 32 (.int .u8 0) ((.slice none 0 0) :: (.slice none 0 0) :: (.int .i64 0) :: (.string ⟨⟨[]⟩⟩) :: (.int .i64 0) :: (.int .i64 0) :: rep 128 (.int .u8 0) ((.int .i64 0) :: rep 32 (.int .u8 0) ((.slice none 0 0) :: (.slice none 0 0) :: (.int .i64 0) :: (.string ⟨⟨[]⟩⟩) :: (.int .i64 0) :: (.int .i64 0) :: rep 128 (.int .u8 0) ((.int .i64 0) :: rep 32 (.int .u8 0) ((.slice none 0 0) :: (.slice none 0 0) :: (.int .i64 0) :: (.string ⟨⟨[]⟩⟩) :: (.int .i64 0) :: (.int .i64 0) :: rep 128 (.int .u8 0) ((.int .i64 0) :: rep 32 (.int .u8 0) ((.slice none 0 0) :: (.slice none 0 0) :: (.int .i64 0) :: (.string ⟨⟨[]⟩⟩) :: (.int .i64 0) :: (.int .i64 0) :: rep 128 (.int .u8 0) ((.int .i64 0) :: rep 32 (.int .u8 0) ((.slice none 0 0) :: (.slice none 0 0) :: (.bool true) :: []))))))))))))))))))))))))))))))))) 0
def ob_7 : AObj := .cells ((.int .u8 0) :: (.int .u8 0) :: (.int .u8 0) :: (.int .u8 0) :: (.int .i64 1) :: []) 5
def tr_1 : Tr := .node .dead .nil .nil
def tr_2 : Tr := .node .dead tr_1 .nil
def tr_3 : Tr := .node .dead tr_2 tr_1
def tr_4 : Tr := .node .dead tr_3 tr_3
def tr_5 : Tr := .node .dead tr_4 tr_4
def tr_6 : Tr := .node .dead tr_1 tr_1
def tr_7 : Tr := .node .dead tr_3 tr_6
def tr_8 : Tr := .node .dead tr_5 (.node .dead tr_4 tr_7)
def tr_9 : Tr := .node .dead tr_8 tr_8
def tr_10 : Tr := .node .dead tr_5 tr_5
def tr_11 : Tr := .node .dead (.node .dead tr_10 tr_8) tr_9
def tr_12 : Tr := .node .dead (.node .dead (.node .dead (.node .dead tr_5 (.node .dead tr_4 (.node ob_1 tr_3 tr_3))) tr_8) tr_9) tr_11
def tr_13 : Tr := .node ob_1 tr_1 .nil
def tr_14 : Tr := .node .dead tr_13 tr_1
def tr_15 : Tr := .node .dead tr_3 tr_14
def tr_16 : Tr := .node .dead tr_4 tr_15
def tr_17 : Tr := .node .dead tr_9 tr_9
def tr_18 : Tr := .node .dead (.node .dead (.node .dead (.node .dead (.node .dead tr_5 tr_16) (.node .dead tr_5 (.node ob_1 tr_4 tr_7))) tr_9) tr_17) (.node .dead tr_11 tr_17)
def tr_19 : Tr := .node .dead tr_2 tr_2
def tr_20 : Tr := .node .dead tr_19 tr_3
def tr_21 : Tr := .node .dead tr_20 tr_4
def tr_22 : Tr := .node .dead (.node .dead tr_21 tr_16) (.node .dead tr_21 (.node ob_1 tr_4 tr_4))
def tr_23 : Tr := .node .dead tr_21 tr_5
def tr_24 : Tr := .node .dead tr_23 tr_10
def tr_25 : Tr := .node .dead (.node .dead tr_23 tr_23) tr_24
def tr_26 : Tr := .node (.cells [(.int .i64 7)] 1) .nil .nil
def tr_27 : Tr := .node .dead tr_26 .nil
def tr_28 : Tr := .node .dead tr_2 tr_27
def tr_29 : Tr := .node .dead tr_28 tr_3
def tr_30 : Tr := .node .dead tr_25 (.node .dead (.node .dead (.node .dead (.node .dead tr_29 tr_4) tr_5) tr_23) tr_24)
def tr_31 : Tr := .node (.cells [(.int .i64 7)] 0) .nil .nil
def tr_32 : Tr := .node .dead tr_31 .nil
def tr_33 : Tr := .node .dead (.node .dead tr_2 tr_32) tr_3
def tr_34 : Tr := .node .dead tr_33 tr_4
def tr_35 : Tr := .node .dead tr_20 tr_20
def tr_36 : Tr := .node .dead tr_35 tr_21
def tr_37 : Tr := .node (.cells [(.int .i64 4)] 1) .nil .nil
def tr_38 : Tr := .node .dead tr_37 .nil
def tr_39 : Tr := .node .dead (.node .dead tr_2 tr_38) tr_3
def tr_40 : Tr := .node .dead tr_21 tr_21
def tr_41 : Tr := .node .dead tr_36 tr_40
def tr_42 : Tr := .node .dead (.node .dead (.node .dead (.node .dead tr_35 (.node .dead tr_20 tr_15)) (.node .dead tr_21 (.node ob_1 tr_20 tr_4))) (.node .dead tr_36 (.node .dead tr_34 tr_21))) (.node .dead (.node .dead tr_36 (.node .dead tr_21 (.node .dead tr_39 tr_4))) tr_41)
def tr_43 : Tr := .node .dead tr_41 tr_41
def tr_44 : Tr := .node .dead (.node .dead (.node .dead tr_29 tr_20) tr_21) tr_40
def tr_45 : Tr := .node (.cells [(.int .i64 4)] 0) .nil .nil
def tr_46 : Tr := .node .dead tr_45 .nil
def tr_47 : Tr := .node .dead tr_2 tr_46
def tr_48 : Tr := .node .dead tr_20 (.node .dead tr_47 tr_3)
def tr_49 : Tr := .node .dead tr_19 tr_19
def tr_50 : Tr := .node .dead tr_49 tr_20
def tr_51 : Tr := .node .dead tr_35 tr_35
def tr_52 : Tr := .node .dead tr_50 tr_35
def tr_53 : Tr := .node .dead tr_51 tr_51
def tr_54 : Tr := .node .dead (.node .dead (.node .dead (.node .dead (.node .dead tr_50 (.node .dead tr_20 (.node .dead tr_19 tr_14))) (.node .dead tr_35 (.node ob_2 tr_20 tr_20))) (.node .dead tr_51 (.node .dead (.node .dead tr_33 tr_20) tr_35))) (.node .dead (.node .dead tr_52 (.node .dead tr_35 (.node .dead tr_39 tr_20))) tr_53)) (.node .dead (.node .dead (.node .dead tr_52 tr_51) tr_53) (.node .dead (.node .dead (.node .dead (.node .dead (.node .dead tr_28 tr_19) tr_20) tr_35) tr_51) (.node .dead (.node .dead tr_48 tr_35) tr_51)))
def tr_55 : Tr := .node .dead tr_6 tr_2
def tr_56 : Tr := .node .dead tr_55 tr_19
def tr_57 : Tr := .node .dead tr_56 tr_56
def tr_58 : Tr := .node .dead tr_57 (.node .dead tr_56 (.node .dead tr_19 (.node .dead tr_13 tr_2)))
def tr_59 : Tr := .node .dead tr_56 tr_49
def tr_60 : Tr := .node ob_2 tr_56 tr_49
def tr_61 : Tr := .node .dead tr_57 tr_59
def tr_62 : Tr := .node .dead tr_6 tr_32
def tr_63 : Tr := .node .dead tr_61 (.node .dead (.node .dead (.node .dead tr_62 tr_19) tr_49) tr_59)
def tr_64 : Tr := .node .dead tr_6 tr_38
def tr_65 : Tr := .node .dead tr_59 tr_59
def tr_66 : Tr := .node .dead tr_61 tr_65
def tr_67 : Tr := .node .dead (.node .dead tr_61 (.node .dead tr_59 (.node .dead (.node .dead tr_64 tr_19) tr_49))) tr_66
def tr_68 : Tr := .node .dead tr_66 tr_66
def tr_69 : Tr := .node .dead tr_6 tr_27
def tr_70 : Tr := .node .dead (.node .dead (.node .dead (.node .dead tr_69 tr_19) tr_56) tr_59) tr_65
def tr_71 : Tr := .node .dead tr_1 (.node ob_4 .nil .nil)
def tr_72 : Tr := .node .dead tr_71 tr_2
def tr_73 : Tr := .node .dead tr_1 (.node ob_5 .nil .nil)
def tr_74 : Tr := .node .dead tr_73 tr_46
def tr_75 : Tr := .node .dead tr_55 tr_55
def tr_76 : Tr := .node .dead tr_75 tr_75
def tr_77 : Tr := .node .dead (.node ob_6 tr_1 tr_1) tr_2
def tr_78 : Tr := .node .dead tr_55 tr_77
def tr_79 : Tr := .node .dead tr_72 tr_55
def tr_80 : Tr := .node .dead tr_76 tr_76
def tr_81 : Tr := .node .dead tr_75 tr_56
def tr_82 : Tr := .node .dead tr_76 tr_81
def tr_83 : Tr := .node .dead tr_80 tr_82
def tr_84 : Tr := .node .dead tr_55 (.node .dead (.node .dead tr_1 (.node ob_7 .nil .nil)) tr_2)
def tr_85 : Tr := .node .dead tr_74 tr_55
def tr_86 : Tr := .node .dead (.node .dead (.node .dead (.node .dead (.node .dead tr_76 (.node .dead tr_75 tr_78)) (.node .dead (.node .dead tr_75 tr_79) (.node ob_2 tr_75 tr_75))) (.node .dead tr_80 (.node .dead (.node .dead (.node .dead tr_62 tr_55) tr_75) tr_81))) (.node .dead (.node .dead tr_80 (.node .dead tr_76 (.node .dead (.node .dead tr_64 tr_55) tr_75))) tr_83)) (.node .dead (.node .dead (.node .dead tr_80 tr_80) tr_83) (.node .dead (.node .dead (.node .dead (.node .dead (.node .dead tr_69 tr_55) tr_75) tr_76) (.node .dead tr_76 (.node .dead tr_75 tr_84))) (.node .dead (.node .dead (.node .dead tr_75 tr_85) tr_76) tr_82)))
def tr_87 : Tr := .node .dead tr_6 tr_6
def tr_88 : Tr := .node .dead tr_87 tr_55
def tr_89 : Tr := .node .dead tr_88 tr_88
def tr_90 : Tr := .node ob_2 tr_88 tr_75
def tr_91 : Tr := .node .dead tr_88 tr_75
def tr_92 : Tr := .node .dead tr_91 tr_91
def tr_93 : Tr := .node .dead (.node .dead tr_6 (.node .dead tr_31 tr_1)) tr_55
def tr_94 : Tr := .node .dead tr_89 tr_91
def tr_95 : Tr := .node .dead (.node .dead (.node .dead tr_6 (.node .dead tr_37 tr_1)) tr_55) tr_75
def tr_96 : Tr := .node .dead tr_92 tr_92
def tr_97 : Tr := .node .dead (.node .dead (.node .dead tr_6 (.node .dead tr_26 tr_1)) tr_55) tr_88
def tr_98 : Tr := .node .dead tr_88 tr_84
def tr_99 : Tr := .node .dead (.node .dead (.node .dead (.node .dead (.node .dead tr_89 (.node .dead tr_88 tr_78)) (.node .dead (.node .dead tr_88 tr_79) tr_90)) (.node .dead tr_92 (.node .dead (.node .dead tr_93 tr_75) tr_91))) (.node .dead (.node .dead tr_94 (.node .dead tr_91 tr_95)) tr_96)) (.node .dead (.node .dead (.node .dead tr_94 tr_92) tr_96) (.node .dead (.node .dead (.node .dead tr_97 tr_91) (.node .dead tr_91 tr_98)) (.node .dead (.node .dead (.node .dead tr_88 tr_85) tr_91) tr_92)))
def tr_100 : Tr := .node .dead tr_89 tr_89
def tr_101 : Tr := .node .dead tr_100 tr_94
end Go.Proofs.YtlckmpioipiihaaGreat.R

namespace Go.Proofs.YtlckmpioipiihaaGreat.R
open Go Go.Vm
set_option maxRecDepth 100000
def ma_1 : List Value := []
def mh_1 : Heap := ⟨1, tr_1⟩
def mo_1 : List CO := [(.ret (.pointer (some ⟨55, 0, none⟩)) ⟨313, tr_12⟩)]
theorem me_1 : fewOK (xcall Tryz.prog tabS 1000 60 (.fn 20) ma_1 mh_1) mo_1 = true := by kernel_rfl
def ma_2 : List Value := []
def mh_2 : Heap := ⟨313, tr_12⟩
def mo_2 : List CO := [(.ret (.pointer (some ⟨367, 0, none⟩)) ⟨625, tr_18⟩)]
theorem me_2 : fewOK (xcall Tryz.prog tabS 1000 60 (.fn 20) ma_2 mh_2) mo_2 = true := by kernel_rfl
def ma_3 : List Value := [(.pointer (some ⟨55, 0, none⟩)), (.int .i64 1)]
def mh_3 : Heap := ⟨625, tr_18⟩
def mo_3 : List CO := [(.ret (.slice (some ⟨642, 0, (some 0)⟩) 1 1) ⟨651, (.node .dead (.node .dead (.node .dead tr_22 tr_24) tr_25) tr_30)⟩)]
theorem me_3 : fewOK (xcall Tryz.prog tabS 1000 60 (.fn 21) ma_3 mh_3) mo_3 = true := by kernel_rfl
def ma_4 : List Value := [(.pointer (some ⟨55, 0, none⟩)), (.int .i64 2)]
def mh_4 : Heap := ⟨652, (.node .dead (.node .dead (.node .dead tr_22 (.node .dead tr_23 (.node .dead tr_34 tr_5))) tr_25) tr_30)⟩
def mo_4 : List CO := [(.ret (.slice (some ⟨665, 0, (some 0)⟩) 1 1) ⟨678, (.node .dead tr_42 (.node .dead tr_43 (.node .dead tr_44 (.node .dead tr_40 tr_40))))⟩)]
theorem me_4 : fewOK (xcall Tryz.prog tabS 1000 60 (.fn 21) ma_4 mh_4) mo_4 = true := by kernel_rfl
def ma_5 : List Value := [(.pointer (some ⟨55, 0, none⟩)), (.int .i64 7)]
def mh_5 : Heap := ⟨679, (.node .dead tr_42 (.node .dead tr_43 (.node .dead tr_44 (.node .dead (.node .dead tr_48 tr_21) tr_40))))⟩
def mo_5 : List CO := [(.ret (.int .i64 0) ⟨707, tr_54⟩)]
theorem me_5 : fewOK (xcall Tryz.prog tabS 1000 60 (.fn 17) ma_5 mh_5) mo_5 = true := by kernel_rfl
def ma_6 : List Value := [(.pointer (some ⟨55, 0, none⟩))]
def mh_6 : Heap := ⟨707, tr_54⟩
def mo_6 : List CO := [(.ret (.int .i64 1) ⟨806, (.node .dead (.node .dead (.node .dead (.node .dead tr_58 (.node .dead tr_59 tr_60)) tr_63) tr_67) (.node .dead tr_68 (.node .dead tr_70 (.node .dead (.node .dead (.node .dead tr_56 (.node .dead tr_47 tr_19)) tr_59) tr_65))))⟩)]
theorem me_6 : fewOK (xcall Tryz.prog tabS 1000 60 (.fn 22) ma_6 mh_6) mo_6 = true := by kernel_rfl
end Go.Proofs.YtlckmpioipiihaaGreat.R

namespace Go.Proofs.YtlckmpioipiihaaGreat.R
open Go Go.Vm
set_option maxRecDepth 100000
def ma_7 : List Value := [(.pointer (some ⟨367, 0, none⟩)), (.int .i64 7), va_3]
def mh_7 : Heap := ⟨808, (.node .dead (.node .dead (.node .dead (.node .dead tr_58 (.node .dead (.node .dead tr_56 (.node .dead tr_72 tr_19)) tr_60)) tr_63) tr_67) (.node .dead tr_68 (.node .dead tr_70 (.node .dead (.node .dead (.node .dead tr_56 (.node .dead tr_74 tr_19)) tr_59) tr_65))))⟩
def mo_7 : List CO := [(.ret (.int .i64 0) ⟨891, tr_86⟩)]
theorem me_7 : fewOK (xcall Tryz.prog tabS 1000 60 (.fn 15) ma_7 mh_7) mo_7 = true := by kernel_rfl
def ma_8 : List Value := [(.pointer (some ⟨367, 0, none⟩))]
def mh_8 : Heap := ⟨891, tr_86⟩
def mo_8 : List CO := [(.ret (.int .i64 3) ⟨931, tr_99⟩)]
theorem me_8 : fewOK (xcall Tryz.prog tabS 1000 60 (.fn 22) ma_8 mh_8) mo_8 = true := by kernel_rfl
def ma_9 : List Value := [(.pointer (some ⟨367, 0, none⟩)), (.int .i64 1)]
def mh_9 : Heap := ⟨931, tr_99⟩
def mo_9 : List CO := [(.ret (.int .i64 11) ⟨951, (.node .dead (.node .dead (.node .dead (.node .dead (.node .dead tr_89 (.node .dead tr_88 (.node .dead tr_87 tr_77))) (.node .dead (.node .dead tr_88 (.node .dead (.node .dead tr_71 tr_6) tr_55)) tr_90)) (.node .dead tr_100 (.node .dead (.node .dead tr_93 tr_88) tr_91))) (.node .dead (.node .dead tr_100 (.node .dead tr_89 tr_95)) tr_101)) (.node .dead (.node .dead tr_101 tr_101) (.node .dead (.node .dead (.node .dead tr_97 tr_89) (.node .dead tr_89 tr_98)) (.node .dead (.node .dead (.node .dead tr_88 (.node .dead (.node .dead tr_73 (.node .dead tr_45 tr_1)) tr_55)) tr_89) tr_94))))⟩)]
theorem me_9 : fewOK (xcall Tryz.prog tabS 1000 60 (.fn 17) ma_9 mh_9) mo_9 = true := by kernel_rfl
end Go.Proofs.YtlckmpioipiihaaGreat.R

namespace Go.Proofs.YtlckmpioipiihaaGreat.R
open Go Go.Vm
set_option maxRecDepth 100000
def memo_15 : Memo := [(ma_7, mh_7, mo_7)]
theorem memo_15_ok : MemoF Tryz.prog 15 memo_15 := MemoF.cons tabS_ok me_7 (MemoF.nil)
def memo_17 : Memo := [(ma_5, mh_5, mo_5), (ma_9, mh_9, mo_9)]
theorem memo_17_ok : MemoF Tryz.prog 17 memo_17 := MemoF.cons tabS_ok me_5 (MemoF.cons tabS_ok me_9 (MemoF.nil))
def memo_20 : Memo := [(ma_1, mh_1, mo_1), (ma_2, mh_2, mo_2)]
theorem memo_20_ok : MemoF Tryz.prog 20 memo_20 := MemoF.cons tabS_ok me_1 (MemoF.cons tabS_ok me_2 (MemoF.nil))
def memo_21 : Memo := [(ma_3, mh_3, mo_3), (ma_4, mh_4, mo_4)]
theorem memo_21_ok : MemoF Tryz.prog 21 memo_21 := MemoF.cons tabS_ok me_3 (MemoF.cons tabS_ok me_4 (MemoF.nil))
def memo_22 : Memo := [(ma_6, mh_6, mo_6), (ma_8, mh_8, mo_8)]
theorem memo_22_ok : MemoF Tryz.prog 22 memo_22 := MemoF.cons tabS_ok me_6 (MemoF.cons tabS_ok me_8 (MemoF.nil))
def tab : Table := (withMemo (withMemo (withMemo (withMemo (withMemo tabS 15 memo_15) 17 memo_17) 20 memo_20) 21 memo_21) 22 memo_22)
theorem tab_ok : TableOK Tryz.prog tab := (withMemoF_ok (Checked.mixed Tryz.checked) (withMemoF_ok (Checked.mixed Tryz.checked) (withMemoF_ok (Checked.mixed Tryz.checked) (withMemoF_ok (Checked.mixed Tryz.checked) (withMemoF_ok (Checked.mixed Tryz.checked) tabS_ok memo_15_ok) memo_17_ok) memo_20_ok) memo_21_ok) memo_22_ok)
end Go.Proofs.YtlckmpioipiihaaGreat.R
