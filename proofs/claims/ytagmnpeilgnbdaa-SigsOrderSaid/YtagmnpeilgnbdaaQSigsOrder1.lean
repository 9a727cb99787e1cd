/- Contracts of functions, over the machine. -/
import Derived.Test.YtagmnpeilgnbdaaRows
import Derived.Test.YtagmnpeilgnbdaaVK
import Derived.Test.YtagmnpeilgnbdaaVJ
namespace Go.Vm
abbrev U : Value := undef
abbrev tm (n : Nat) : Operand := .tmp n
abbrev k0 : Operand := .const (.int .i64 0)
abbrev o1 (d : Nat) (x : AOp) : AOper := ⟨some d, x, none, [], false⟩
abbrev o2 (d : Nat) (x : AOp) : AOper := ⟨some d, x, none, [], true⟩
abbrev o3 (x : AOp) : AOper := ⟨none, x, none, [], false⟩
abbrev o4 (d : Nat) (x : AOp) (t : Nat) : AOper := ⟨some d, x, some (t, true), [], false⟩
abbrev o5 (d : Nat) (x : AOp) (t : Nat) : AOper := ⟨some d, x, some (t, false), [], false⟩
end Go.Vm
set_option linter.unusedSimpArgs false
set_option linter.unusedSectionVars false
noncomputable section
set_option maxRecDepth 100000
set_option linter.unusedVariables false
namespace Go.Proofs.Ytagmnpeilgnbdaa.A
open Go Go.Vm
abbrev ty_internal_abi_BoundsErrorCode : TypeId := 6
abbrev ty_runtime_boundsError : TypeId := 8
abbrev ty_runtime_errorString : TypeId := 10
abbrev ty_runtime_plainError : TypeId := 11
abbrev ty_runtime_errorAddressString : TypeId := 14
abbrev ty_internal_runtime_maps_unhashableTypeError : TypeId := 19
abbrev ty_api_Errno : TypeId := 25
abbrev ty_api_Key : TypeId := 33
abbrev ty_api_Hash : TypeId := 35
abbrev ty_api_Sig : TypeId := 38
abbrev ty_sigs_Table : TypeId := 43
abbrev ty_api_Fault : TypeId := 62
abbrev ty_lr08_Table : TypeId := 67
abbrev ty_sigs_held : TypeId := 69
abbrev ty_sigs_sig : TypeId := 70
abbrev ty_iter_Seq_api_Key_ : TypeId := 84
abbrev ty_wire_Writer : TypeId := 97
abbrev ty_iter_Seq_sigs_sig_ : TypeId := 102
abbrev ty_wire_Reader : TypeId := 110
abbrev ty_lr04_Writer : TypeId := 129
abbrev ty_wire_wrong : TypeId := 147
abbrev ty_slices_sortedHint : TypeId := 150
abbrev ty_slices_xorshift : TypeId := 160
abbrev ty_runtime_TypeAssertionError : TypeId := 170
abbrev ty_runtime_PanicNilError : TypeId := 173
abbrev ty_internal_abi_TFlag : TypeId := 174
abbrev ty_internal_abi_Kind : TypeId := 175
abbrev ty_internal_abi_NameOff : TypeId := 178
abbrev ty_internal_abi_TypeOff : TypeId := 179
abbrev ty_internal_abi_Type : TypeId := 181
instance : IsIface Try.prog 20 := ⟨by kernel_rfl⟩
abbrev prims : List FuncId := [5, 8]
abbrev kepts : List FuncId := []
def T0 : Table := withKept (withTrue Try.prog prims) kepts
abbrev fn_zkQ : FuncId := 5
theorem zkQ_known {h : Heap} : Runs Try.prog T0 (.fn 5) [] h (fun r h' => r = .bool true ∧ h' = h) (fun _ _ => False) := known_runs rfl
abbrev fn_zmQ : FuncId := 8
instance : IsBoolT Try.prog 4 := ⟨by kernel_rfl⟩
instance : TLeaves Try.prog 7 (.i .i64 :: (.i .i64 :: (.b :: (.i .u8 :: [])))) := ⟨by kernel_rfl, by kernel_rfl, by kernel_rfl⟩
instance : TLeaves Try.prog 8 (.i .i64 :: (.i .i64 :: (.b :: (.i .u8 :: [])))) := ⟨by kernel_rfl, by kernel_rfl, by kernel_rfl⟩
instance : TLeaves Try.prog 32 (u8s 4) := ⟨by kernel_rfl, by kernel_rfl, by kernel_rfl⟩
instance : TLeaves Try.prog 33 (u8s 4) := ⟨by kernel_rfl, by kernel_rfl, by kernel_rfl⟩
instance : TLeaves Try.prog 34 (u8s 32) := ⟨by kernel_rfl, by kernel_rfl, by kernel_rfl⟩
instance : TLeaves Try.prog 35 (u8s 32) := ⟨by kernel_rfl, by kernel_rfl, by kernel_rfl⟩
instance : TLeaves Try.prog 37 (u8s 32 ++ (u8s 4 ++ (.i .u64 :: []))) := ⟨by kernel_rfl, by kernel_rfl, by kernel_rfl⟩
instance : TLeaves Try.prog 38 (u8s 32 ++ (u8s 4 ++ (.i .u64 :: []))) := ⟨by kernel_rfl, by kernel_rfl, by kernel_rfl⟩
instance : TLeaves Try.prog 61 (.i .i64 :: (.i .i64 :: [])) := ⟨by kernel_rfl, by kernel_rfl, by kernel_rfl⟩
instance : TLeaves Try.prog 62 (.i .i64 :: (.i .i64 :: [])) := ⟨by kernel_rfl, by kernel_rfl, by kernel_rfl⟩
instance : TLeaves Try.prog 70 (u8s 32 ++ (u8s 4 ++ (.i .u64 :: []))) := ⟨by kernel_rfl, by kernel_rfl, by kernel_rfl⟩
instance : TLeaves Try.prog 105 (u8s 4 ++ (u8s 4)) := ⟨by kernel_rfl, by kernel_rfl, by kernel_rfl⟩
instance : TLeaves Try.prog 134 (u8s 4 ++ (u8s 4 ++ (.i .u8 :: []))) := ⟨by kernel_rfl, by kernel_rfl, by kernel_rfl⟩
instance : TLeaves Try.prog 146 (.i .i64 :: (.i .i64 :: [])) := ⟨by kernel_rfl, by kernel_rfl, by kernel_rfl⟩
instance : TLeaves Try.prog 147 (.i .i64 :: (.i .i64 :: [])) := ⟨by kernel_rfl, by kernel_rfl, by kernel_rfl⟩
abbrev fn_zmbQ : FuncId := 9
def zmbQ_c : ACode :=
 (.seq (.region [
 o1 2 (.mov (.const (.pointer none))),
 o1 3 (.mov k0)]) (.seq (.seq (.region [
 o1 4 (.mov (tm 0)),
 o1 5 (.bin .lss (so (.binOp .lss 3 (tm 4) k0 3) 4) (tm 4) k0),
 o1 6 (.mov (tm 5)),
 o5 7 (.mov (tm 0)) 6,
 o5 8 (.bin .gtr (so (.binOp .gtr 3 (tm 7) (.const (.int .i64 4096)) 3) 4) (tm 7) (.const (.int .i64 4096))) 6,
 o1 9 (.pick (tm 6) (.const (.bool true)) (tm 8))]) (.cond (tm 9)
 (.seq (.region [
 o1 2 (.mov (.const (.pointer none))),
 o1 3 (.mov (.const (.int .i64 3)))]) .ret)
 .skip)) (.seq (.region [
 o1 10 (.mov (tm 0)),
 o1 11 (.mkMap),
 o1 12 (.build [(.int .i64 0), (.map none)] [(0, 1, (tm 10)), (1, 1, (tm 11))]),
 o1 13 (.box 43 (tm 12)),
 o1 2 (.mov (tm 13)),
 o1 3 (.mov k0)]) .ret)))
def zmbQ : AFunc := ⟨14, [(2, none), (3, none)], zmbQ_c, none⟩
theorem zmbQ_t0 : tableOf Try.prog 9 = some zmbQ := by kernel_rfl
theorem zmbQ_t : T0 9 = some zmbQ := withKept_t rfl (withTrue_t rfl zmbQ_t0)
theorem zmbQ_runs {v0 : Value} {h : Heap} {R : RP} {X : XP} (k : RunC Try.prog T0 zmbQ_c ⟨[v0, U, U, U, U, U, U, U, U, U, U, U, U, U], [], h, none⟩ (bodyQ Try.prog T0 [(2, none), (3, none)] R X)) :
 Runs Try.prog T0 (.fn 9) [v0] h R X := Runs.fn zmbQ_t rfl k
abbrev fn_znbQ : FuncId := 11
def znbQ_c : ACode :=
 (.seq (.region [
 o1 3 (.box 38 (tm 1)),
 o1 4 (.mov k0)]) (.seq (.block 0 (.seq (.region [
 o1 6 (.mov (tm 0)),
 o1 7 (.callV (.func 26) [(tm 6)]),
 o1 5 (.mov (tm 7))]) (.cond (tm 5)
 (.seq (.region [
 o1 4 (.mov (.const (.int .i64 1)))]) .ret)
 (.seq (.region [
 o1 9 (.mov (tm 0)),
 o1 10 (.load (some 37) (tm 3)),
 o1 11 (.callV (.func 15) [(tm 9), (tm 10)]),
 o1 8 (.mov (tm 11))]) (.cond (tm 8)
 (.seq (.region [
 o1 4 (.mov (.const (.int .i64 8)))]) .ret)
 (.seq (.regionD [
 o1 13 (.mov (tm 0)),
 o1 14 (.nilCheck (tm 13)),
 o1 15 (.fieldAddr 1 (tm 14)),
 o1 16 (.load none (tm 15)),
 o1 17 (.lenMap (tm 16)),
 o1 18 (.mov (tm 0)),
 o1 19 (.nilCheck (tm 18)),
 o1 20 (.fieldAddr 0 (tm 19)),
 o1 21 (.load none (tm 20)),
 o2 22 (.bin .geq (so (.binOp .geq 3 (tm 17) (tm 21) 3) 4) (tm 17) (tm 21)),
 o2 12 (.mov (tm 22))]) (.cond (tm 12)
 (.seq (.region [
 o1 4 (.mov (.const (.int .i64 7)))]) .ret)
 .skip))))))) (.seq (.regionD [
 o1 23 (.mov (tm 0)),
 o1 24 (.nilCheck (tm 23)),
 o1 25 (.fieldAddr 1 (tm 24)),
 o1 26 (.load none (tm 25)),
 o1 27 (.load (some 37) (tm 3)),
 o1 28 (.build [] []),
 ⟨none, .mapUpdate (.slice 70) (tm 26) (tm 27) (tm 28), none, [], true⟩]) (.seq (.region [
 o1 4 (.mov k0)]) .ret))))
def znbQ : AFunc := ⟨29, [(4, none)], znbQ_c, none⟩
theorem znbQ_t0 : tableOf Try.prog 11 = some znbQ := by kernel_rfl
theorem znbQ_t : T0 11 = some znbQ := withKept_t rfl (withTrue_t rfl znbQ_t0)
theorem znbQ_runs {v0 v1 : Value} {h : Heap} {R : RP} {X : XP} (k : RunC Try.prog T0 znbQ_c ⟨[v0, v1, U, U, U, U, U, U, U, U, U, U, U, U, U, U, U, U, U, U, U, U, U, U, U, U, U, U, U], [], h, none⟩ (bodyQ Try.prog T0 [(4, none)] R X)) :
 Runs Try.prog T0 (.fn 11) [v0, v1] h R X := Runs.fn znbQ_t rfl k
def zobQ_l0 : ACode :=
 (.seq (.region [
 o1 25 (.bin .lss (so (.binOp .lss 3 (tm 24) (tm 23) 3) 0) (tm 24) (tm 23))]) (.seq (.cond (tm 25)
 .skip
 (.exit 0)) (.seq (.block 1 (.seq (.region [
 o1 26 (.indexSl 37 (tm 22) (tm 24)),
 o1 27 (.load (some 37) (tm 26)),
 o1 7 (.alloc 70 (z32 ++ [(.int .u8 0), (.int .u8 0), (.int .u8 0), (.int .u8 0), (.int .u64 0)])),
 o3 (.store 37 (tm 7) (tm 27))]) (.seq (.region [
 o1 28 (.mov (tm 4)),
 o1 29 (.fieldAddr 0 (tm 7)),
 o1 30 (.load (some 4) (tm 29)),
 o1 31 (.callV (.func 35) [(tm 28), (tm 30)])]) (.seq (.region [
 o1 32 (.mov (tm 4)),
 o1 33 (.fieldAddr 4 (tm 7)),
 o1 34 (.load (some 32) (tm 33)),
 o1 35 (.callV (.func 36) [(tm 32), (tm 34)])]) (.region [
 o1 36 (.mov (tm 4)),
 o1 37 (.fieldAddr 36 (tm 7)),
 o1 38 (.load none (tm 37)),
 o1 39 (.callV (.func 37) [(tm 36), (tm 38)])]))))) (.region [
 o1 40 (.bin .add (so (.binOp .add 3 (tm 24) (.const (.int .i64 1)) 3) 3) (tm 24) (.const (.int .i64 1))),
 o1 24 (.mov (tm 40))]))))
def zobQ_c : ACode :=
 (.seq (.region [
 o1 2 (.mov (.const (.slice none 0 0))),
 o1 3 (.mov k0)]) (.seq (.seq (.region [
 o1 8 (.mov (tm 0)),
 o1 9 (.callV (.func 26) [(tm 8)])]) (.cond (tm 9)
 (.seq (.region [
 o1 2 (.mov (.const (.slice none 0 0))),
 o1 3 (.mov (.const (.int .i64 1)))]) .ret)
 .skip)) (.seq (.region [
 o1 11 (.callV (.func 32) [(.const (.int .i64 1048576))]),
 o1 10 (.mov (tm 11)),
 o1 12 (.extract 0 (tm 10)),
 o1 13 (.extract 1 (tm 10)),
 o1 4 (.mov (tm 12)),
 o1 5 (.mov (tm 13))]) (.seq (.region [
 o1 14 (.mov (tm 4)),
 o1 15 (.mov (tm 0)),
 o1 16 (.nilCheck (tm 15)),
 o1 17 (.fieldAddr 1 (tm 16)),
 o1 18 (.load none (tm 17)),
 o1 19 (.lenMap (tm 18)),
 o1 20 (.callV (.func 33) [(tm 14), (tm 19)])]) (.seq (.seq (.region [
 o1 21 (.mov (tm 0)),
 o1 22 (.callV (.func 34) [(tm 21)]),
 o1 23 (.lenSl (tm 22)),
 o1 24 (.mov k0)]) (.block 0 (.loop zobQ_l0))) (.seq (.region [
 o1 41 (.mov (tm 4)),
 o1 42 (.callV (.func 38) [(tm 41)]),
 o1 43 (.extract 0 (tm 42)),
 o1 44 (.extract 1 (tm 42)),
 o1 2 (.mov (tm 43)),
 o1 3 (.mov (tm 44))]) .ret))))))
def zobQ : AFunc := ⟨45, [(2, none), (3, none)], zobQ_c, none⟩
theorem zobQ_t0 : tableOf Try.prog 14 = some zobQ := by kernel_rfl
abbrev fn_zpbQ : FuncId := 15
def zpbQ_c : ACode :=
 (.seq (.region [
 o1 3 (.box 38 (tm 1)),
 o1 4 (.mov (.const (.bool false)))]) (.seq (.seq (.region [
 o1 7 (.mov (tm 0)),
 o1 8 (.callV (.func 26) [(tm 7)])]) (.cond (tm 8)
 (.seq (.region [
 o1 4 (.mov (.const (.bool false)))]) .ret)
 .skip)) (.seq (.regionD [
 o1 10 (.mov (tm 0)),
 o1 11 (.nilCheck (tm 10)),
 o1 12 (.fieldAddr 1 (tm 11)),
 o1 13 (.load none (tm 12)),
 o1 14 (.load (some 37) (tm 3)),
 o1 15 (.lookup (.slice 70) (.agg ⟨[]⟩) true (tm 13) (tm 14)),
 o1 9 (.mov (tm 15)),
 o1 16 (.extract 0 (tm 9)),
 o1 17 (.extract 1 (tm 9)),
 ⟨some 5, .alloc 69 [], none, [(some 17, .extract 1 (tm 9), none), (some 16, .extract 0 (tm 9), none), (some 9, .mov (tm 15), none), (some 15, .lookup (.slice 70) (.agg ⟨[]⟩) true (tm 13) (tm 14), none), (some 14, .load (some 37) (tm 3), none), (some 13, .load none (tm 12), none), (some 12, .fieldAddr 1 (tm 11), none), (some 11, .nilCheck (tm 10), none), (some 10, .mov (tm 0), none)], false⟩,
 ⟨none, .store 0 (tm 5) (tm 16), none, [(some 17, .extract 1 (tm 9), none)], false⟩,
 o2 6 (.mov (tm 17))]) (.seq (.region [
 o1 18 (.mov (tm 6)),
 o1 4 (.mov (tm 18))]) .ret))))
def zpbQ : AFunc := ⟨19, [(4, none)], zpbQ_c, none⟩
theorem zpbQ_t0 : tableOf Try.prog 15 = some zpbQ := by kernel_rfl
theorem zpbQ_t : T0 15 = some zpbQ := withKept_t rfl (withTrue_t rfl zpbQ_t0)
theorem zpbQ_runs {v0 v1 : Value} {h : Heap} {R : RP} {X : XP} (k : RunC Try.prog T0 zpbQ_c ⟨[v0, v1, U, U, U, U, U, U, U, U, U, U, U, U, U, U, U, U, U], [], h, none⟩ (bodyQ Try.prog T0 [(4, none)] R X)) :
 Runs Try.prog T0 (.fn 15) [v0, v1] h R X := Runs.fn zpbQ_t rfl k
abbrev fn_zsbQ : FuncId := 16
def zsbQ_ra0 : Code := (rangeParts (subCode ((Try.prog.funcs[16]?).bind (·.body)) [true, true, false, true, false])).1
def zsbQ_rb0 : Code := (rangeParts (subCode ((Try.prog.funcs[16]?).bind (·.body)) [true, true, false, true, false])).2
def zsbQ_a0 : ACode :=
 (.region [
 o1 5 (.alloc 33 [(.int .u8 0), (.int .u8 0), (.int .u8 0), (.int .u8 0)]),
 o3 (.store 4 (tm 5) (tm 11))])
def zsbQ_b0 : ACode :=
 (.block 1 (.seq (.regionD [
 o2 12 (.load none (tm 4)),
 o2 13 (.lenSl (tm 12)),
 o2 14 (.bin .eql (so (.binOp .eql 3 (tm 13) k0 3) 4) (tm 13) k0),
 o2 15 (.mov (tm 14)),
 o5 16 (.load none (tm 4)) 15,
 o5 17 (.load none (tm 4)) 15,
 o5 18 (.lenSl (tm 17)) 15,
 o5 19 (.bin .sub (so (.binOp .sub 3 (tm 18) (.const (.int .i64 1)) 3) 3) (tm 18) (.const (.int .i64 1))) 15,
 o5 20 (.indexSl 4 (tm 16) (tm 19)) 15,
 o5 21 (.load (some 4) (tm 20)) 15,
 o5 22 (.load (some 4) (tm 5)) 15,
 ⟨some 23, .bin .neq (so (.binOp .neq 33 (tm 21) (tm 22) 33) 4) (tm 21) (tm 22), some (15, false), [], true⟩,
 o2 24 (.pick (tm 15) (.const (.bool true)) (tm 23))]) (.cond (tm 24)
 (.region [
 o1 25 (.load none (tm 4)),
 o1 26 (.load (some 4) (tm 5)),
 o1 27 (.buildSlice 33 [(.int .u8 0), (.int .u8 0), (.int .u8 0), (.int .u8 0)] 1 [(0, 4, (tm 26))]),
 o1 28 (.append 33 4 4 [(.int .u8 0), (.int .u8 0), (.int .u8 0), (.int .u8 0)] false (tm 25) (tm 27)),
 o3 (.store 1 (tm 4) (tm 28))])
 .skip)))
theorem zsbQ_ca0 : comp Try.prog zsbQ_ra0 = some zsbQ_a0 := by kernel_rfl
theorem zsbQ_cb0 : comp Try.prog zsbQ_rb0 = some zsbQ_b0 := by kernel_rfl
theorem zsbQ_na0 : noDefer zsbQ_ra0 = true := by kernel_rfl
theorem zsbQ_nb0 : noDefer zsbQ_rb0 = true := by kernel_rfl
def zsbQ_c : ACode :=
 (.seq (.region [
 o1 3 (.box 35 (tm 1)),
 o1 4 (.alloc 49 [(.slice none 0 0)])]) (.seq (.seq (.region [
 o1 6 (.mov (tm 0)),
 o1 7 (.callV (.func 26) [(tm 6)])]) (.cond (tm 7)
 (.seq (.region [
 o3 (.store 1 (tm 4) (.const (.slice none 0 0)))]) .ret)
 .skip)) (.seq (.seq (.region [
 o1 8 (.mov (tm 0)),
 o1 9 (.load (some 32) (tm 3)),
 o1 10 (.callV (.func 39) [(tm 8), (tm 9)])]) (.block 0 (.rangeFunc (tm 10) [11] zsbQ_ra0 zsbQ_rb0))) (.seq (.region [
 o1 29 (.load none (tm 4)),
 o3 (.store 1 (tm 4) (tm 29))]) .ret))))
def zsbQ : AFunc := ⟨30, [(4, some none)], zsbQ_c, none⟩
theorem zsbQ_t0 : tableOf Try.prog 16 = some zsbQ := by kernel_rfl
theorem zsbQ_t : T0 16 = some zsbQ := withKept_t rfl (withTrue_t rfl zsbQ_t0)
theorem zsbQ_runs {v0 v1 : Value} {h : Heap} {R : RP} {X : XP} (k : RunC Try.prog T0 zsbQ_c ⟨[v0, v1, U, U, U, U, U, U, U, U, U, U, U, U, U, U, U, U, U, U, U, U, U, U, U, U, U, U, U, U], [], h, none⟩ (bodyQ Try.prog T0 [(4, some none)] R X)) :
 Runs Try.prog T0 (.fn 16) [v0, v1] h R X := Runs.fn zsbQ_t rfl k
abbrev fn_zqbQ : FuncId := 17
def zqbQ_c : ACode :=
 (.seq (.region [
 o1 2 (.mov k0)]) (.seq (.seq (.region [
 o1 3 (.mov (tm 0)),
 o1 4 (.callV (.func 26) [(tm 3)])]) (.cond (tm 4)
 (.seq (.region [
 o1 2 (.mov k0)]) .ret)
 .skip)) (.seq (.region [
 o1 5 (.mov (tm 0)),
 o1 6 (.nilCheck (tm 5)),
 o1 7 (.fieldAddr 1 (tm 6)),
 o1 8 (.load none (tm 7)),
 o1 9 (.lenMap (tm 8)),
 o1 2 (.mov (tm 9))]) .ret)))
def zqbQ : AFunc := ⟨10, [(2, none)], zqbQ_c, none⟩
theorem zqbQ_t0 : tableOf Try.prog 17 = some zqbQ := by kernel_rfl
theorem zqbQ_t : T0 17 = some zqbQ := withKept_t rfl (withTrue_t rfl zqbQ_t0)
theorem zqbQ_runs {v0 : Value} {h : Heap} {R : RP} {X : XP} (k : RunC Try.prog T0 zqbQ_c ⟨[v0, U, U, U, U, U, U, U, U, U], [], h, none⟩ (bodyQ Try.prog T0 [(2, none)] R X)) :
 Runs Try.prog T0 (.fn 17) [v0] h R X := Runs.fn zqbQ_t rfl k
abbrev fn_zrbQ : FuncId := 18
def zrbQ_l0 : ACode :=
 (.seq (.region [
 o1 11 (.bin .lss (so (.binOp .lss 3 (tm 10) (tm 9) 3) 0) (tm 10) (tm 9))]) (.seq (.cond (tm 11)
 .skip
 (.exit 0)) (.seq (.block 1 (.seq (.region [
 o1 12 (.indexSl 37 (tm 8) (tm 10)),
 o1 13 (.load (some 37) (tm 12)),
 o1 4 (.alloc 70 (z32 ++ [(.int .u8 0), (.int .u8 0), (.int .u8 0), (.int .u8 0), (.int .u64 0)])),
 o3 (.store 37 (tm 4) (tm 13))]) (.region [
 o1 14 (.mov (tm 2)),
 o1 15 (.load (some 37) (tm 4)),
 o1 16 (.buildSlice 38 (z32 ++ [(.int .u8 0), (.int .u8 0), (.int .u8 0), (.int .u8 0), (.int .u64 0)]) 1 [(0, 37, (tm 15))]),
 o1 17 (.append 38 37 48 (z32 ++ [(.int .u8 0), (.int .u8 0), (.int .u8 0), (.int .u8 0), (.int .u64 0)]) false (tm 14) (tm 16)),
 o1 2 (.mov (tm 17))]))) (.region [
 o1 18 (.bin .add (so (.binOp .add 3 (tm 10) (.const (.int .i64 1)) 3) 3) (tm 10) (.const (.int .i64 1))),
 o1 10 (.mov (tm 18))]))))
def zrbQ_c : ACode :=
 (.seq (.region [
 o1 2 (.mov (.const (.slice none 0 0)))]) (.seq (.seq (.region [
 o1 5 (.mov (tm 0)),
 o1 6 (.callV (.func 26) [(tm 5)])]) (.cond (tm 6)
 (.seq (.region [
 o1 2 (.mov (.const (.slice none 0 0)))]) .ret)
 .skip)) (.seq (.seq (.region [
 o1 7 (.mov (tm 0)),
 o1 8 (.callV (.func 34) [(tm 7)]),
 o1 9 (.lenSl (tm 8)),
 o1 10 (.mov k0)]) (.block 0 (.loop zrbQ_l0))) (.seq (.region [
 o1 19 (.mov (tm 2)),
 o1 2 (.mov (tm 19))]) .ret))))
def zrbQ : AFunc := ⟨20, [(2, none)], zrbQ_c, none⟩
theorem zrbQ_t0 : tableOf Try.prog 18 = some zrbQ := by kernel_rfl
theorem zrbQ_t : T0 18 = some zrbQ := withKept_t rfl (withTrue_t rfl zrbQ_t0)
theorem zrbQ_runs {v0 : Value} {h : Heap} {R : RP} {X : XP} (k : RunC Try.prog T0 zrbQ_c ⟨[v0, U, U, U, U, U, U, U, U, U, U, U, U, U, U, U, U, U, U, U], [], h, none⟩ (bodyQ Try.prog T0 [(2, none)] R X)) :
 Runs Try.prog T0 (.fn 18) [v0] h R X := Runs.fn zrbQ_t rfl k
abbrev zrbQ_l0_M : List Nat := [0, 0, 2, 0, 1, 0, 0, 0, 0, 0, 2, 1, 1, 1, 1, 1, 1, 1, 1, 0]
def zgQ_c : ACode :=
 (.seq (.region [
 o1 4 (.mov (.const (.bool false)))]) (.seq (.region [
 o1 5 (.mov (tm 0)),
 o1 6 (.bytesToStr (tm 5)),
 o1 7 (.mov (tm 1)),
 o1 8 (.bytesToStr (tm 7)),
 o1 9 (.bin .eql (so (.binOp .eql 9 (tm 6) (tm 8) 9) 4) (tm 6) (tm 8)),
 o1 4 (.mov (tm 9))]) .ret))
def zgQ : AFunc := ⟨10, [(4, none)], zgQ_c, none⟩
theorem zgQ_t0 : tableOf Try.prog 20 = some zgQ := by kernel_rfl
abbrev fn_zhQ : FuncId := 21
def zhQ_l0 : ACode :=
 (.seq (.seq (.region [
 o1 12 (.mov (tm 5)),
 o1 13 (.mov (tm 12)),
 o4 14 (.mov (tm 6)) 13,
 o4 15 (.mov (tm 0)) 13,
 o4 16 (.lenSl (tm 15)) 13,
 o4 17 (.bin .lss (so (.binOp .lss 3 (tm 14) (tm 16) 3) 4) (tm 14) (tm 16)) 13,
 o1 18 (.pick (tm 13) (tm 17) (.const (.bool false)))]) (.cond (tm 18)
 .skip
 (.exit 0))) (.seq (.block 1 (.regionD [
 o1 21 (.mov (tm 0)),
 o1 22 (.mov (tm 6)),
 o1 23 (.indexSl 37 (tm 21) (tm 22)),
 o1 24 (.load (some 37) (tm 23)),
 o1 25 (.mov (tm 1)),
 o1 26 (.mov (tm 6)),
 o1 27 (.indexSl 37 (tm 25) (tm 26)),
 o1 28 (.load (some 37) (tm 27)),
 o2 29 (.bin .eql (so (.binOp .eql 38 (tm 24) (tm 28) 38) 4) (tm 24) (tm 28)),
 o2 5 (.mov (tm 29))])) (.region [
 o1 19 (.mov (tm 6)),
 o1 20 (.bin .add (so (.binOp .add 3 (tm 19) (.const (.int .i64 1)) 3) 3) (tm 19) (.const (.int .i64 1))),
 o1 6 (.mov (tm 20))])))
def zhQ_c : ACode :=
 (.seq (.region [
 o1 4 (.mov (.const (.bool false)))]) (.seq (.region [
 o1 7 (.mov (tm 0)),
 o1 8 (.lenSl (tm 7)),
 o1 9 (.mov (tm 1)),
 o1 10 (.lenSl (tm 9)),
 o1 11 (.bin .eql (so (.binOp .eql 3 (tm 8) (tm 10) 3) 4) (tm 8) (tm 10)),
 o1 5 (.mov (tm 11))]) (.seq (.seq (.region [
 o1 6 (.mov k0)]) (.block 0 (.loop zhQ_l0))) (.seq (.region [
 o1 30 (.mov (tm 5)),
 o1 4 (.mov (tm 30))]) .ret))))
def zhQ : AFunc := ⟨31, [(4, none)], zhQ_c, none⟩
theorem zhQ_t0 : tableOf Try.prog 21 = some zhQ := by kernel_rfl
theorem zhQ_t : T0 21 = some zhQ := withKept_t rfl (withTrue_t rfl zhQ_t0)
theorem zhQ_runs {v0 v1 : Value} {h : Heap} {R : RP} {X : XP} (k : RunC Try.prog T0 zhQ_c ⟨[v0, v1, U, U, U, U, U, U, U, U, U, U, U, U, U, U, U, U, U, U, U, U, U, U, U, U, U, U, U, U, U], [], h, none⟩ (bodyQ Try.prog T0 [(4, none)] R X)) :
 Runs Try.prog T0 (.fn 21) [v0, v1] h R X := Runs.fn zhQ_t rfl k
abbrev zhQ_l0_M : List Nat := [0, 0, 0, 0, 0, 2, 2, 0, 0, 0, 0, 0, 1, 1, 1, 1, 1, 1, 1, 1, 1, 1, 1, 1, 1, 1, 1, 1, 1, 1, 0]
def znQ_l0 : ACode :=
 (.seq (.seq (.region [
 o1 12 (.mov (tm 5)),
 o1 13 (.mov (tm 12)),
 o4 14 (.mov (tm 6)) 13,
 o4 15 (.mov (tm 0)) 13,
 o4 16 (.lenSl (tm 15)) 13,
 o4 17 (.bin .lss (so (.binOp .lss 3 (tm 14) (tm 16) 3) 4) (tm 14) (tm 16)) 13,
 o1 18 (.pick (tm 13) (tm 17) (.const (.bool false)))]) (.cond (tm 18)
 .skip
 (.exit 0))) (.seq (.block 1 (.regionD [
 o1 21 (.mov (tm 0)),
 o1 22 (.mov (tm 6)),
 o1 23 (.indexSl 4 (tm 21) (tm 22)),
 o1 24 (.load (some 4) (tm 23)),
 o1 25 (.mov (tm 1)),
 o1 26 (.mov (tm 6)),
 o1 27 (.indexSl 4 (tm 25) (tm 26)),
 o1 28 (.load (some 4) (tm 27)),
 o2 29 (.bin .eql (so (.binOp .eql 33 (tm 24) (tm 28) 33) 4) (tm 24) (tm 28)),
 o2 5 (.mov (tm 29))])) (.region [
 o1 19 (.mov (tm 6)),
 o1 20 (.bin .add (so (.binOp .add 3 (tm 19) (.const (.int .i64 1)) 3) 3) (tm 19) (.const (.int .i64 1))),
 o1 6 (.mov (tm 20))])))
def znQ_c : ACode :=
 (.seq (.region [
 o1 4 (.mov (.const (.bool false)))]) (.seq (.region [
 o1 7 (.mov (tm 0)),
 o1 8 (.lenSl (tm 7)),
 o1 9 (.mov (tm 1)),
 o1 10 (.lenSl (tm 9)),
 o1 11 (.bin .eql (so (.binOp .eql 3 (tm 8) (tm 10) 3) 4) (tm 8) (tm 10)),
 o1 5 (.mov (tm 11))]) (.seq (.seq (.region [
 o1 6 (.mov k0)]) (.block 0 (.loop znQ_l0))) (.seq (.region [
 o1 30 (.mov (tm 5)),
 o1 4 (.mov (tm 30))]) .ret))))
def znQ : AFunc := ⟨31, [(4, none)], znQ_c, none⟩
theorem znQ_t0 : tableOf Try.prog 22 = some znQ := by kernel_rfl
abbrev fn_zfQ : FuncId := 24
def zfQ_c : ACode :=
 (.seq (.region [
 o1 4 (.mov k0)]) (.seq (.seq (.region [
 o1 5 (.mov (tm 1)),
 o1 6 (.bin .leq (so (.binOp .leq 3 (tm 5) k0 3) 4) (tm 5) k0)]) (.cond (tm 6)
 (.seq (.region [
 o1 4 (.mov k0)]) .ret)
 .skip)) (.seq (.region [
 o1 7 (.mov (tm 0)),
 o1 8 (.mov (tm 1)),
 o1 9 (.bin .rem (so (.binOp .rem 3 (tm 7) (tm 8) 3) 3) (tm 7) (tm 8)),
 o1 0 (.mov (tm 9))]) (.seq (.seq (.region [
 o1 10 (.mov (tm 0)),
 o1 11 (.bin .lss (so (.binOp .lss 3 (tm 10) k0 3) 4) (tm 10) k0)]) (.cond (tm 11)
 (.region [
 o1 12 (.mov (tm 0)),
 o1 13 (.mov (tm 1)),
 o1 14 (.bin .add (so (.binOp .add 3 (tm 12) (tm 13) 3) 3) (tm 12) (tm 13)),
 o1 0 (.mov (tm 14))])
 .skip)) (.seq (.region [
 o1 15 (.mov (tm 0)),
 o1 4 (.mov (tm 15))]) .ret)))))
def zfQ : AFunc := ⟨16, [(4, none)], zfQ_c, none⟩
theorem zfQ_t0 : tableOf Try.prog 24 = some zfQ := by kernel_rfl
theorem zfQ_t : T0 24 = some zfQ := withKept_t rfl (withTrue_t rfl zfQ_t0)
theorem zfQ_runs {v0 v1 : Value} {h : Heap} {R : RP} {X : XP} (k : RunC Try.prog T0 zfQ_c ⟨[v0, v1, U, U, U, U, U, U, U, U, U, U, U, U, U, U], [], h, none⟩ (bodyQ Try.prog T0 [(4, none)] R X)) :
 Runs Try.prog T0 (.fn 24) [v0, v1] h R X := Runs.fn zfQ_t rfl k
def zlbQ_l0 : ACode :=
 (.seq (.region [
 o1 27 (.bin .lss (so (.binOp .lss 3 (tm 26) (tm 25) 3) 4) (tm 26) (tm 25))]) (.seq (.cond (tm 27)
 .skip
 (.exit 0)) (.seq (.block 1 (.seq (.region [
 o1 28 (.mov (tm 26)),
 o1 9 (.mov (tm 28))]) (.seq (.region [
 o1 29 (.mov (tm 0)),
 o1 30 (.lenSl (tm 29)),
 o1 31 (.mov (tm 4)),
 o1 32 (.callV (.func 42) [(tm 31)]),
 o1 33 (.bin .sub (so (.binOp .sub 3 (tm 30) (tm 32) 3) 3) (tm 30) (tm 32)),
 o1 10 (.mov (tm 33))]) (.seq (.region [
 o1 34 (.mov (tm 4)),
 o1 35 (.callV (.func 43) [(tm 34)]),
 o1 36 (.mov (tm 4)),
 o1 37 (.callV (.func 44) [(tm 36)]),
 o1 38 (.mov (tm 4)),
 o1 39 (.callV (.func 45) [(tm 38)]),
 o1 40 (.build (z32 ++ [(.int .u8 0), (.int .u8 0), (.int .u8 0), (.int .u8 0), (.int .u64 0)]) [(0, 4, (tm 35)), (4, 32, (tm 37)), (36, 1, (tm 39))]),
 o1 11 (.alloc 70 (z32 ++ [(.int .u8 0), (.int .u8 0), (.int .u8 0), (.int .u8 0), (.int .u64 0)])),
 o3 (.store 37 (tm 11) (tm 40))]) (.seq (.seq (.region [
 o1 41 (.mov (tm 4)),
 o1 42 (.callV (.func 46) [(tm 41)]),
 o1 12 (.alloc 62 [(.int .i64 0), (.int .i64 0)]),
 o3 (.store 2 (tm 12) (tm 42))]) (.seq (.region [
 o1 43 (.fieldAddr 0 (tm 12)),
 o1 44 (.load none (tm 43)),
 o1 45 (.bin .neq (so (.binOp .neq 25 (tm 44) k0 25) 4) (tm 44) k0),
 o1 46 (.mov (tm 45)),
 o4 47 (.fieldAddr 0 (tm 12)) 46,
 o4 48 (.load none (tm 47)) 46,
 o4 49 (.bin .neq (so (.binOp .neq 25 (tm 48) (.const (.int .i64 4)) 25) 4) (tm 48) (.const (.int .i64 4))) 46,
 o1 50 (.pick (tm 46) (tm 49) (.const (.bool false)))]) (.cond (tm 50)
 (.seq (.regionD [
 o1 51 (.load (some 2) (tm 12)),
 o1 2 (.mov (.const (.pointer none))),
 ⟨none, .store 2 (tm 3) (tm 51), none, [], true⟩]) .ret)
 .skip))) (.seq (.seq (.region [
 o1 52 (.mov (tm 9)),
 o1 53 (.bin .gtr (so (.binOp .gtr 3 (tm 52) k0 3) 4) (tm 52) k0),
 o1 54 (.mov (tm 53)),
 o4 55 (.load (some 37) (tm 8)) 54,
 o4 56 (.load (some 37) (tm 11)) 54,
 o4 57 (.callV (.func 47) [(tm 55), (tm 56)]) 54,
 o4 58 (.bin .geq (so (.binOp .geq 3 (tm 57) k0 3) 4) (tm 57) k0) 54,
 o1 59 (.pick (tm 54) (tm 58) (.const (.bool false)))]) (.cond (tm 59)
 (.seq (.region [
 o1 60 (.mov (tm 10)),
 o1 61 (.build [(.int .i64 0), (.int .i64 0)] [(0, 1, (.const (.int .i64 9))), (1, 1, (tm 60))]),
 o1 2 (.mov (.const (.pointer none))),
 o3 (.store 2 (tm 3) (tm 61))]) .ret)
 .skip)) (.seq (.region [
 o1 62 (.load (some 37) (tm 11)),
 o3 (.store 37 (tm 8) (tm 62))]) (.regionD [
 o1 63 (.mov (tm 6)),
 o1 64 (.nilCheck (tm 63)),
 o1 65 (.fieldAddr 1 (tm 64)),
 o1 66 (.load none (tm 65)),
 o1 67 (.load (some 37) (tm 11)),
 o1 68 (.build [] []),
 ⟨none, .mapUpdate (.slice 70) (tm 66) (tm 67) (tm 68), none, [], true⟩])))))))) (.region [
 o1 69 (.bin .add (so (.binOp .add 3 (tm 26) (.const (.int .i64 1)) 3) 3) (tm 26) (.const (.int .i64 1))),
 o1 26 (.mov (tm 69))]))))
def zlbQ_c : ACode :=
 (.seq (.region [
 o1 2 (.mov (.const (.pointer none))),
 o1 3 (.alloc 62 [(.int .i64 0), (.int .i64 0)])]) (.seq (.region [
 o1 14 (.mov (tm 0)),
 o1 15 (.callV (.func 40) [(tm 14)]),
 o1 4 (.mov (tm 15))]) (.seq (.region [
 o1 16 (.mov (tm 4)),
 o1 17 (.callV (.func 41) [(tm 16)]),
 o1 5 (.mov (tm 17))]) (.seq (.seq (.region [
 o1 18 (.mov (tm 5)),
 o1 19 (.bin .gtr (so (.binOp .gtr 3 (tm 18) (.const (.int .i64 4096)) 3) 4) (tm 18) (.const (.int .i64 4096)))]) (.cond (tm 19)
 (.seq (.region [
 o1 20 (.build [(.int .i64 0), (.int .i64 0)] [(0, 1, (.const (.int .i64 4)))]),
 o1 2 (.mov (.const (.pointer none))),
 o3 (.store 2 (tm 3) (tm 20))]) .ret)
 .skip)) (.seq (.region [
 o1 22 (.callV (.func 9) [(.const (.int .i64 4096))]),
 o1 21 (.mov (tm 22)),
 o1 23 (.extract 0 (tm 21)),
 o1 24 (.extract 1 (tm 21)),
 o1 6 (.mov (tm 23)),
 o1 7 (.mov (tm 24))]) (.seq (.region [
 o1 8 (.alloc 70 (z32 ++ [(.int .u8 0), (.int .u8 0), (.int .u8 0), (.int .u8 0), (.int .u64 0)]))]) (.seq (.seq (.region [
 o1 25 (.mov (tm 5)),
 o1 26 (.mov k0)]) (.block 0 (.loop zlbQ_l0))) (.seq (.seq (.region [
 o1 70 (.mov (tm 4)),
 o1 71 (.callV (.func 46) [(tm 70)]),
 o1 13 (.alloc 62 [(.int .i64 0), (.int .i64 0)]),
 o3 (.store 2 (tm 13) (tm 71))]) (.seq (.region [
 o1 72 (.load (some 2) (tm 13)),
 o1 73 (.build [(.int .i64 0), (.int .i64 0)] []),
 o1 74 (.bin .neq (so (.binOp .neq 62 (tm 72) (tm 73) 62) 4) (tm 72) (tm 73))]) (.cond (tm 74)
 (.seq (.regionD [
 o1 75 (.load (some 2) (tm 13)),
 o1 2 (.mov (.const (.pointer none))),
 ⟨none, .store 2 (tm 3) (tm 75), none, [], true⟩]) .ret)
 .skip))) (.seq (.region [
 o1 76 (.mov (tm 6)),
 o1 77 (.build [(.int .i64 0), (.int .i64 0)] []),
 o1 2 (.mov (tm 76)),
 o3 (.store 2 (tm 3) (tm 77))]) .ret)))))))))
def zlbQ : AFunc := ⟨78, [(2, none), (3, some (some 2))], zlbQ_c, none⟩
theorem zlbQ_t0 : tableOf Try.prog 25 = some zlbQ := by kernel_rfl
abbrev fn_ztbQ : FuncId := 26
def ztbQ_c : ACode :=
 (.seq (.region [
 o1 2 (.mov (.const (.bool false)))]) (.seq (.region [
 o1 3 (.mov (tm 0)),
 o1 4 (.eq .ptr false (so (.binOp .eql 24 (tm 3) (.const (.pointer none)) 24) 4) (tm 3) (.const (.pointer none))),
 o1 5 (.mov (tm 4)),
 o5 6 (.mov (tm 0)) 5,
 o5 7 (.nilCheck (tm 6)) 5,
 o5 8 (.fieldAddr 1 (tm 7)) 5,
 o5 9 (.load none (tm 8)) 5,
 o5 10 (.eq .map false (so (.binOp .eql 41 (tm 9) (.const (.map none)) 41) 4) (tm 9) (.const (.map none))) 5,
 o1 11 (.pick (tm 5) (.const (.bool true)) (tm 10)),
 o1 2 (.mov (tm 11))]) .ret))
def ztbQ : AFunc := ⟨12, [(2, none)], ztbQ_c, none⟩
theorem ztbQ_t0 : tableOf Try.prog 26 = some ztbQ := by kernel_rfl
theorem ztbQ_t : T0 26 = some ztbQ := withKept_t rfl (withTrue_t rfl ztbQ_t0)
theorem ztbQ_runs {v0 : Value} {h : Heap} {R : RP} {X : XP} (k : RunC Try.prog T0 ztbQ_c ⟨[v0, U, U, U, U, U, U, U, U, U, U, U], [], h, none⟩ (bodyQ Try.prog T0 [(2, none)] R X)) :
 Runs Try.prog T0 (.fn 26) [v0] h R X := Runs.fn ztbQ_t rfl k
def zvcQ_c : ACode :=
 (.seq (.region [
 o1 2 (.mov (.const (.pointer none))),
 o1 3 (.mov k0)]) (.seq (.seq (.region [
 o1 4 (.mov (tm 0)),
 o1 5 (.bin .lss (so (.binOp .lss 3 (tm 4) k0 3) 4) (tm 4) k0),
 o1 6 (.mov (tm 5)),
 o5 7 (.mov (tm 0)) 6,
 o5 8 (.bin .gtr (so (.binOp .gtr 3 (tm 7) (.const (.int .i64 1048576)) 3) 4) (tm 7) (.const (.int .i64 1048576))) 6,
 o1 9 (.pick (tm 6) (.const (.bool true)) (tm 8))]) (.cond (tm 9)
 (.seq (.region [
 o1 2 (.mov (.const (.pointer none))),
 o1 3 (.mov (.const (.int .i64 3)))]) .ret)
 .skip)) (.seq (.region [
 o1 10 (.mov (tm 0)),
 o1 11 (.build [(.int .i64 0), (.slice none 0 0), (.int .i64 0), (.bool false)] [(0, 1, (tm 10)), (3, 1, (.const (.bool true)))]),
 o1 12 (.box 97 (tm 11)),
 o1 2 (.mov (tm 12)),
 o1 3 (.mov k0)]) .ret)))
def zvcQ : AFunc := ⟨13, [(2, none), (3, none)], zvcQ_c, none⟩
theorem zvcQ_t0 : tableOf Try.prog 32 = some zvcQ := by kernel_rfl
def zndQ_c : ACode :=
 (.seq (.region [
 o1 4 (.mov k0)]) (.seq (.region [
 o1 5 (.mov (tm 0)),
 o1 6 (.mov (tm 1)),
 o1 7 (.bin .geq (so (.binOp .geq 3 (tm 6) k0 3) 4) (tm 6) k0),
 o1 8 (.mov (tm 1)),
 o1 9 (.raw (so (.call ⟨.builtin .max, #[(tm 8), k0], #[3, 3]⟩) 3)),
 o1 10 (.callV (.func 55) [(tm 9)]),
 o1 11 (.buildSlice 45 [(.slice none 0 0)] 1 [(0, 1, (tm 10))]),
 o1 12 (.callV (.func 54) [(tm 5), (tm 7), (tm 11)]),
 o1 4 (.mov (tm 12))]) .ret))
def zndQ : AFunc := ⟨13, [(4, none)], zndQ_c, none⟩
theorem zndQ_t0 : tableOf Try.prog 33 = some zndQ := by kernel_rfl
abbrev fn_zwbQ : FuncId := 34
def zwbQ_c : ACode :=
 (.seq (.region [
 o1 2 (.mov (.const (.slice none 0 0)))]) (.seq (.region [
 o1 3 (.mov (tm 0)),
 o1 4 (.nilCheck (tm 3)),
 o1 5 (.fieldAddr 1 (tm 4)),
 o1 6 (.load none (tm 5)),
 o1 7 (.callV (.func 57) [(tm 6)]),
 o1 8 (.callV (.func 56) [(tm 7), (.func 47)]),
 o1 2 (.mov (tm 8))]) .ret))
def zwbQ : AFunc := ⟨9, [(2, none)], zwbQ_c, none⟩
theorem zwbQ_t0 : tableOf Try.prog 34 = some zwbQ := by kernel_rfl
theorem zwbQ_t : T0 34 = some zwbQ := withKept_t rfl (withTrue_t rfl zwbQ_t0)
theorem zwbQ_runs {v0 : Value} {h : Heap} {R : RP} {X : XP} (k : RunC Try.prog T0 zwbQ_c ⟨[v0, U, U, U, U, U, U, U, U], [], h, none⟩ (bodyQ Try.prog T0 [(2, none)] R X)) :
 Runs Try.prog T0 (.fn 34) [v0] h R X := Runs.fn zwbQ_t rfl k
def zmdQ_c : ACode :=
 (.seq (.region [
 o1 3 (.box 33 (tm 1)),
 o1 4 (.mov k0)]) (.seq (.region [
 o1 5 (.mov (tm 0)),
 o1 6 (.sliceArr 4 1 (tm 3) none none),
 o1 7 (.buildSlice 45 [(.slice none 0 0)] 1 [(0, 1, (tm 6))]),
 o1 8 (.callV (.func 54) [(tm 5), (.const (.bool true)), (tm 7)]),
 o1 4 (.mov (tm 8))]) .ret))
def zmdQ : AFunc := ⟨9, [(4, none)], zmdQ_c, none⟩
theorem zmdQ_t0 : tableOf Try.prog 35 = some zmdQ := by kernel_rfl
def zldQ_c : ACode :=
 (.seq (.region [
 o1 3 (.box 35 (tm 1)),
 o1 4 (.mov k0)]) (.seq (.region [
 o1 5 (.mov (tm 0)),
 o1 6 (.sliceArr 32 1 (tm 3) none none),
 o1 7 (.buildSlice 45 [(.slice none 0 0)] 1 [(0, 1, (tm 6))]),
 o1 8 (.callV (.func 54) [(tm 5), (.const (.bool true)), (tm 7)]),
 o1 4 (.mov (tm 8))]) .ret))
def zldQ : AFunc := ⟨9, [(4, none)], zldQ_c, none⟩
theorem zldQ_t0 : tableOf Try.prog 36 = some zldQ := by kernel_rfl
def zodQ_c : ACode :=
 (.seq (.region [
 o1 4 (.mov k0)]) (.seq (.region [
 o1 6 (.mov (tm 1)),
 o1 7 (.callV (.func 58) [(tm 6)]),
 o1 5 (.alloc 105 [(.int .u8 0), (.int .u8 0), (.int .u8 0), (.int .u8 0), (.int .u8 0), (.int .u8 0), (.int .u8 0), (.int .u8 0)]),
 o3 (.store 8 (tm 5) (tm 7))]) (.seq (.region [
 o1 8 (.mov (tm 0)),
 o1 9 (.sliceArr 8 1 (tm 5) none none),
 o1 10 (.buildSlice 45 [(.slice none 0 0)] 1 [(0, 1, (tm 9))]),
 o1 11 (.callV (.func 54) [(tm 8), (.const (.bool true)), (tm 10)]),
 o1 4 (.mov (tm 11))]) .ret)))
def zodQ : AFunc := ⟨12, [(4, none)], zodQ_c, none⟩
theorem zodQ_t0 : tableOf Try.prog 37 = some zodQ := by kernel_rfl
def zkdQ_c : ACode :=
 (.seq (.region [
 o1 2 (.mov (.const (.slice none 0 0))),
 o1 3 (.mov k0)]) (.seq (.block 0 (.seq (.region [
 o1 5 (.mov (tm 0)),
 o1 6 (.eq .ptr false (so (.binOp .eql 73 (tm 5) (.const (.pointer none)) 73) 4) (tm 5) (.const (.pointer none))),
 o1 7 (.mov (tm 6)),
 o5 8 (.mov (tm 0)) 7,
 o5 9 (.nilCheck (tm 8)) 7,
 o5 10 (.fieldAddr 3 (tm 9)) 7,
 o5 11 (.load none (tm 10)) 7,
 o5 12 (.raw (so (.unOp .not 4 (tm 11)) 4)) 7,
 o1 13 (.pick (tm 7) (.const (.bool true)) (tm 12)),
 o1 4 (.mov (tm 13))]) (.cond (tm 4)
 (.seq (.region [
 o1 2 (.mov (.const (.slice none 0 0))),
 o1 3 (.mov (.const (.int .i64 1)))]) .ret)
 (.seq (.region [
 o1 15 (.mov (tm 0)),
 o1 16 (.nilCheck (tm 15)),
 o1 17 (.fieldAddr 2 (tm 16)),
 o1 18 (.load none (tm 17)),
 o1 19 (.bin .neq (so (.binOp .neq 25 (tm 18) k0 25) 4) (tm 18) k0),
 o1 14 (.mov (tm 19))]) (.cond (tm 14)
 (.seq (.regionD [
 o1 20 (.mov (tm 0)),
 o1 21 (.nilCheck (tm 20)),
 o1 22 (.fieldAddr 2 (tm 21)),
 o1 23 (.load none (tm 22)),
 o1 2 (.mov (.const (.slice none 0 0))),
 o2 3 (.mov (tm 23))]) .ret)
 .skip))))) (.seq (.region [
 o1 24 (.mov (tm 0)),
 o1 25 (.nilCheck (tm 24)),
 o1 26 (.fieldAddr 1 (tm 25)),
 o1 27 (.load none (tm 26)),
 o1 28 (.callV (.func 59) [(tm 27)]),
 o1 2 (.mov (tm 28)),
 o1 3 (.mov k0)]) .ret)))
def zkdQ : AFunc := ⟨29, [(2, none), (3, none)], zkdQ_c, none⟩
theorem zkdQ_t0 : tableOf Try.prog 38 = some zkdQ := by kernel_rfl
abbrev fn_zubQ : FuncId := 39
def zubQ_c : ACode :=
 (.seq (.region [
 o1 2 (.box 24 (tm 0)),
 o1 3 (.box 35 (tm 1)),
 o1 4 (.mov (.const .nilFunc))]) (.seq (.region [
 o1 5 (.mkFunc (.func 60) [] [(tm 2), (tm 3)]),
 o1 4 (.mov (tm 5))]) .ret))
def zubQ : AFunc := ⟨6, [(4, none)], zubQ_c, none⟩
theorem zubQ_t0 : tableOf Try.prog 39 = some zubQ := by kernel_rfl
theorem zubQ_t : T0 39 = some zubQ := withKept_t rfl (withTrue_t rfl zubQ_t0)
theorem zubQ_runs {v0 v1 : Value} {h : Heap} {R : RP} {X : XP} (k : RunC Try.prog T0 zubQ_c ⟨[v0, v1, U, U, U, U], [], h, none⟩ (bodyQ Try.prog T0 [(4, none)] R X)) :
 Runs Try.prog T0 (.fn 39) [v0, v1] h R X := Runs.fn zubQ_t rfl k
def zucQ_c : ACode :=
 (.seq (.region [
 o1 2 (.mov (.const (.pointer none)))]) (.seq (.region [
 o1 3 (.mov (tm 0)),
 o1 4 (.callV (.func 59) [(tm 3)]),
 o1 5 (.build [(.slice none 0 0), (.int .i64 0), (.int .i64 0), (.int .i64 0), (.bool false)] [(0, 1, (tm 4)), (4, 1, (.const (.bool true)))]),
 o1 6 (.box 110 (tm 5)),
 o1 2 (.mov (tm 6))]) .ret))
def zucQ : AFunc := ⟨7, [(2, none)], zucQ_c, none⟩
theorem zucQ_t0 : tableOf Try.prog 40 = some zucQ := by kernel_rfl
def zddQ_c : ACode :=
 (.seq (.region [
 o1 2 (.mov k0)]) (.seq (.region [
 o1 3 (.mov (tm 0)),
 o1 4 (.mov (tm 0)),
 o1 5 (.mkFunc (.func 62) [(tm 4)] []),
 o1 6 (.callV (.func 61) [(tm 3), (tm 5)]),
 o1 2 (.mov (tm 6))]) .ret))
def zddQ : AFunc := ⟨7, [(2, none)], zddQ_c, none⟩
theorem zddQ_t0 : tableOf Try.prog 41 = some zddQ := by kernel_rfl
def zedQ_c : ACode :=
 (.seq (.region [
 o1 2 (.mov k0)]) (.seq (.seq (.region [
 o1 3 (.mov (tm 0)),
 o1 4 (.eq .ptr false (so (.binOp .eql 86 (tm 3) (.const (.pointer none)) 86) 4) (tm 3) (.const (.pointer none))),
 o1 5 (.mov (tm 4)),
 o5 6 (.mov (tm 0)) 5,
 o5 7 (.nilCheck (tm 6)) 5,
 o5 8 (.fieldAddr 4 (tm 7)) 5,
 o5 9 (.load none (tm 8)) 5,
 o5 10 (.raw (so (.unOp .not 4 (tm 9)) 4)) 5,
 o1 11 (.pick (tm 5) (.const (.bool true)) (tm 10)),
 o1 12 (.mov (tm 11)),
 o5 13 (.mov (tm 0)) 12,
 o5 14 (.nilCheck (tm 13)) 12,
 o5 15 (.fieldAddr 2 (tm 14)) 12,
 o5 16 (.fieldAddr 0 (tm 15)) 12,
 o5 17 (.load none (tm 16)) 12,
 o5 18 (.bin .neq (so (.binOp .neq 25 (tm 17) k0 25) 4) (tm 17) k0) 12,
 o1 19 (.pick (tm 12) (.const (.bool true)) (tm 18))]) (.cond (tm 19)
 (.seq (.region [
 o1 2 (.mov k0)]) .ret)
 .skip)) (.seq (.regionD [
 o1 20 (.mov (tm 0)),
 o1 21 (.nilCheck (tm 20)),
 o1 22 (.fieldAddr 0 (tm 21)),
 o1 23 (.load none (tm 22)),
 o1 24 (.lenSl (tm 23)),
 o1 25 (.mov (tm 0)),
 o1 26 (.nilCheck (tm 25)),
 o1 27 (.fieldAddr 1 (tm 26)),
 o1 28 (.load none (tm 27)),
 o2 29 (.bin .sub (so (.binOp .sub 3 (tm 24) (tm 28) 3) 3) (tm 24) (tm 28)),
 o2 2 (.mov (tm 29))]) .ret)))
def zedQ : AFunc := ⟨30, [(2, none)], zedQ_c, none⟩
theorem zedQ_t0 : tableOf Try.prog 42 = some zedQ := by kernel_rfl
def zadQ_c : ACode :=
 (.seq (.region [
 o1 1 (.box 86 (tm 0)),
 o1 2 (.alloc 33 [(.int .u8 0), (.int .u8 0), (.int .u8 0), (.int .u8 0)])]) (.seq (.region [
 o1 3 (.load none (tm 1)),
 o1 4 (.mkFunc (.func 64) [] [(tm 1)]),
 o1 5 (.callV (.func 63) [(tm 3), (tm 4)]),
 o3 (.store 4 (tm 2) (tm 5))]) .ret))
def zadQ : AFunc := ⟨6, [(2, some (some 4))], zadQ_c, none⟩
theorem zadQ_t0 : tableOf Try.prog 43 = some zadQ := by kernel_rfl
def zxcQ_c : ACode :=
 (.seq (.region [
 o1 1 (.box 86 (tm 0)),
 o1 2 (.alloc 35 z32)]) (.seq (.region [
 o1 3 (.load none (tm 1)),
 o1 4 (.mkFunc (.func 68) [] [(tm 1)]),
 o1 5 (.callV (.func 67) [(tm 3), (tm 4)]),
 o3 (.store 32 (tm 2) (tm 5))]) .ret))
def zxcQ : AFunc := ⟨6, [(2, some (some 32))], zxcQ_c, none⟩
theorem zxcQ_t0 : tableOf Try.prog 44 = some zxcQ := by kernel_rfl
def zfdQ_c : ACode :=
 (.seq (.region [
 o1 1 (.box 86 (tm 0)),
 o1 2 (.mov (.const (.int .u64 0)))]) (.seq (.region [
 o1 3 (.load none (tm 1)),
 o1 4 (.mkFunc (.func 72) [] [(tm 1)]),
 o1 5 (.callV (.func 71) [(tm 3), (tm 4)]),
 o1 2 (.mov (tm 5))]) .ret))
def zfdQ : AFunc := ⟨6, [(2, none)], zfdQ_c, none⟩
theorem zfdQ_t0 : tableOf Try.prog 45 = some zfdQ := by kernel_rfl
def zwcQ_c : ACode :=
 (.seq (.region [
 o1 2 (.alloc 62 [(.int .i64 0), (.int .i64 0)])]) (.seq (.block 0 (.seq (.region [
 o1 4 (.mov (tm 0)),
 o1 5 (.eq .ptr false (so (.binOp .eql 86 (tm 4) (.const (.pointer none)) 86) 4) (tm 4) (.const (.pointer none))),
 o1 6 (.mov (tm 5)),
 o5 7 (.mov (tm 0)) 6,
 o5 8 (.nilCheck (tm 7)) 6,
 o5 9 (.fieldAddr 4 (tm 8)) 6,
 o5 10 (.load none (tm 9)) 6,
 o5 11 (.raw (so (.unOp .not 4 (tm 10)) 4)) 6,
 o1 12 (.pick (tm 6) (.const (.bool true)) (tm 11)),
 o1 3 (.mov (tm 12))]) (.cond (tm 3)
 (.seq (.region [
 o1 13 (.build [(.int .i64 0), (.int .i64 0)] [(0, 1, (.const (.int .i64 1)))]),
 o3 (.store 2 (tm 2) (tm 13))]) .ret)
 (.seq (.regionD [
 o2 15 (.mov (tm 0)),
 o2 16 (.nilCheck (tm 15)),
 o2 17 (.fieldAddr 2 (tm 16)),
 o2 18 (.fieldAddr 0 (tm 17)),
 o2 19 (.load none (tm 18)),
 o2 20 (.bin .eql (so (.binOp .eql 25 (tm 19) k0 25) 4) (tm 19) k0),
 o2 21 (.mov (tm 20)),
 o4 22 (.mov (tm 0)) 21,
 o4 23 (.nilCheck (tm 22)) 21,
 o4 24 (.fieldAddr 1 (tm 23)) 21,
 o4 25 (.load none (tm 24)) 21,
 o4 26 (.mov (tm 0)) 21,
 o4 27 (.nilCheck (tm 26)) 21,
 o4 28 (.fieldAddr 0 (tm 27)) 21,
 o4 29 (.load none (tm 28)) 21,
 o4 30 (.lenSl (tm 29)) 21,
 ⟨some 31, .bin .lss (so (.binOp .lss 3 (tm 25) (tm 30) 3) 4) (tm 25) (tm 30), some (21, true), [], true⟩,
 o2 32 (.pick (tm 21) (tm 31) (.const (.bool false))),
 o2 14 (.mov (tm 32))]) (.cond (tm 14)
 (.seq (.region [
 o1 33 (.mov (tm 0)),
 o1 34 (.nilCheck (tm 33)),
 o1 35 (.fieldAddr 1 (tm 34)),
 o1 36 (.load none (tm 35)),
 o1 37 (.build [(.int .i64 0), (.int .i64 0)] [(0, 1, (.const (.int .i64 4))), (1, 1, (tm 36))]),
 o3 (.store 2 (tm 2) (tm 37))]) .ret)
 .skip))))) (.seq (.region [
 o1 38 (.mov (tm 0)),
 o1 39 (.nilCheck (tm 38)),
 o1 40 (.fieldAddr 2 (tm 39)),
 o1 41 (.load (some 2) (tm 40)),
 o3 (.store 2 (tm 2) (tm 41))]) .ret)))
def zwcQ : AFunc := ⟨42, [(2, some (some 2))], zwcQ_c, none⟩
theorem zwcQ_t0 : tableOf Try.prog 46 = some zwcQ := by kernel_rfl
abbrev fn_zxbQ : FuncId := 47
def zxbQ_c : ACode :=
 (.seq (.region [
 o1 2 (.box 70 (tm 0)),
 o1 3 (.box 70 (tm 1)),
 o1 4 (.mov k0)]) (.seq (.regionD [
 o1 5 (.fieldAddr 0 (tm 2)),
 o1 6 (.sliceArr 4 1 (tm 5) none none),
 o1 7 (.fieldAddr 0 (tm 3)),
 o1 8 (.sliceArr 4 1 (tm 7) none none),
 o1 10 (.fieldAddr 4 (tm 2)),
 o1 11 (.sliceArr 32 1 (tm 10) none none),
 o1 12 (.fieldAddr 4 (tm 3)),
 o1 13 (.sliceArr 32 1 (tm 12) none none),
 o1 15 (.fieldAddr 36 (tm 2)),
 o1 16 (.load none (tm 15)),
 o1 17 (.fieldAddr 36 (tm 3)),
 o1 18 (.load none (tm 17)),
 ⟨some 9, .callV (.func 76) [(tm 6), (tm 8)], none, [(some 18, .load none (tm 17), none), (some 17, .fieldAddr 36 (tm 3), none), (some 16, .load none (tm 15), none), (some 15, .fieldAddr 36 (tm 2), none), (some 13, .sliceArr 32 1 (tm 12) none none, none), (some 12, .fieldAddr 4 (tm 3), none), (some 11, .sliceArr 32 1 (tm 10) none none, none), (some 10, .fieldAddr 4 (tm 2), none)], false⟩,
 ⟨some 14, .callV (.func 76) [(tm 11), (tm 13)], none, [(some 18, .load none (tm 17), none), (some 17, .fieldAddr 36 (tm 3), none), (some 16, .load none (tm 15), none), (some 15, .fieldAddr 36 (tm 2), none)], false⟩,
 o2 19 (.callV (.func 77) [(tm 16), (tm 18)]),
 o2 20 (.buildSlice 3 [(.int .i64 0), (.int .i64 0), (.int .i64 0)] 3 [(0, 1, (tm 9)), (1, 1, (tm 14)), (2, 1, (tm 19))]),
 o2 21 (.callV (.func 75) [(tm 20)]),
 o2 4 (.mov (tm 21))]) .ret))
def zxbQ : AFunc := ⟨22, [(4, none)], zxbQ_c, none⟩
theorem zxbQ_t0 : tableOf Try.prog 47 = some zxbQ := by kernel_rfl
theorem zxbQ_t : T0 47 = some zxbQ := withKept_t rfl (withTrue_t rfl zxbQ_t0)
theorem zxbQ_runs {v0 v1 : Value} {h : Heap} {R : RP} {X : XP} (k : RunC Try.prog T0 zxbQ_c ⟨[v0, v1, U, U, U, U, U, U, U, U, U, U, U, U, U, U, U, U, U, U, U, U], [], h, none⟩ (bodyQ Try.prog T0 [(4, none)] R X)) :
 Runs Try.prog T0 (.fn 47) [v0, v1] h R X := Runs.fn zxbQ_t rfl k
def zpdQ_c : ACode :=
 (.seq (.region [
 o1 6 (.mov k0)]) (.seq (.seq (.region [
 o1 8 (.mov (tm 0)),
 o1 9 (.eq .ptr false (so (.binOp .eql 73 (tm 8) (.const (.pointer none)) 73) 4) (tm 8) (.const (.pointer none))),
 o1 10 (.mov (tm 9)),
 o5 11 (.mov (tm 0)) 10,
 o5 12 (.nilCheck (tm 11)) 10,
 o5 13 (.fieldAddr 3 (tm 12)) 10,
 o5 14 (.load none (tm 13)) 10,
 o5 15 (.raw (so (.unOp .not 4 (tm 14)) 4)) 10,
 o1 16 (.pick (tm 10) (.const (.bool true)) (tm 15))]) (.cond (tm 16)
 (.seq (.region [
 o1 6 (.mov (.const (.int .i64 1)))]) .ret)
 .skip)) (.seq (.region [
 o1 17 (.mov (tm 2)),
 o1 18 (.callV (.func 81) [(tm 17)]),
 o1 7 (.mov (tm 18))]) (.seq (.block 0 (.seq (.region [
 o1 29 (.mov (tm 0)),
 o1 30 (.nilCheck (tm 29)),
 o1 31 (.fieldAddr 2 (tm 30)),
 o1 32 (.load none (tm 31)),
 o1 33 (.bin .neq (so (.binOp .neq 25 (tm 32) k0 25) 4) (tm 32) k0),
 o1 28 (.mov (tm 33))]) (.cond (tm 28)
 .skip
 (.seq (.region [
 o1 35 (.mov (tm 1)),
 o1 36 (.raw (so (.unOp .not 4 (tm 35)) 4)),
 o1 34 (.mov (tm 36))]) (.cond (tm 34)
 (.region [
 o1 37 (.mov (tm 0)),
 o1 38 (.nilCheck (tm 37)),
 o1 39 (.fieldAddr 2 (tm 38)),
 o3 (.store 1 (tm 39) (.const (.int .i64 3)))])
 (.seq (.regionD [
 o1 41 (.mov (tm 0)),
 o1 42 (.nilCheck (tm 41)),
 o1 43 (.fieldAddr 1 (tm 42)),
 o1 44 (.load none (tm 43)),
 o1 45 (.lenSl (tm 44)),
 o1 46 (.mov (tm 7)),
 o1 47 (.lenSl (tm 46)),
 o1 48 (.bin .add (so (.binOp .add 3 (tm 45) (tm 47) 3) 3) (tm 45) (tm 47)),
 o1 49 (.mov (tm 0)),
 o1 50 (.nilCheck (tm 49)),
 o1 51 (.fieldAddr 0 (tm 50)),
 o1 52 (.load none (tm 51)),
 o2 53 (.bin .gtr (so (.binOp .gtr 3 (tm 48) (tm 52) 3) 4) (tm 48) (tm 52)),
 o2 40 (.mov (tm 53))]) (.cond (tm 40)
 (.region [
 o1 54 (.mov (tm 0)),
 o1 55 (.nilCheck (tm 54)),
 o1 56 (.fieldAddr 2 (tm 55)),
 o3 (.store 1 (tm 56) (.const (.int .i64 4)))])
 (.region [
 o1 19 (.mov (tm 0)),
 o1 20 (.mov (tm 0)),
 o1 21 (.nilCheck (tm 20)),
 o1 22 (.fieldAddr 1 (tm 21)),
 o1 23 (.load none (tm 22)),
 o1 24 (.mov (tm 7)),
 o1 25 (.append 5 1 1 [(.int .u8 0)] false (tm 23) (tm 24)),
 o1 26 (.nilCheck (tm 19)),
 o1 27 (.fieldAddr 1 (tm 26)),
 o3 (.store 1 (tm 27) (tm 25))])))))))) (.seq (.region [
 o1 57 (.mov (tm 0)),
 o1 58 (.nilCheck (tm 57)),
 o1 59 (.fieldAddr 2 (tm 58)),
 o1 60 (.load none (tm 59)),
 o1 6 (.mov (tm 60))]) .ret)))))
def zpdQ : AFunc := ⟨61, [(6, none)], zpdQ_c, none⟩
theorem zpdQ_t0 : tableOf Try.prog 54 = some zpdQ := by kernel_rfl
def zsdQ_l0 : ACode :=
 (.seq (.seq (.region [
 o1 5 (.mov (tm 0)),
 o1 6 (.bin .gtr (so (.binOp .gtr 3 (tm 5) k0 3) 4) (tm 5) k0)]) (.cond (tm 6)
 .skip
 (.exit 0))) (.seq (.block 1 (.seq (.region [
 o1 9 (.mov (tm 4)),
 o1 10 (.bin .sub (so (.binOp .sub 3 (.const (.int .i64 8)) (tm 9) 3) 3) (.const (.int .i64 8)) (tm 9)),
 o1 11 (.mov (tm 0)),
 o1 12 (.conv .u8 (so (.convert 3 5 (tm 11)) 5) (tm 11)),
 o1 13 (.indexArr 9 1 (tm 3) (tm 10)),
 o3 (.store 1 (tm 13) (tm 12))]) (.region [
 o1 14 (.mov (tm 4)),
 o1 15 (.bin .add (so (.binOp .add 3 (tm 14) (.const (.int .i64 1)) 3) 3) (tm 14) (.const (.int .i64 1))),
 o1 4 (.mov (tm 15))]))) (.region [
 o1 7 (.mov (tm 0)),
 o1 8 (.bin .shr (so (.binOp .shr 3 (tm 7) (.const (.int .u64 8)) 135) 3) (tm 7) (.const (.int .u64 8))),
 o1 0 (.mov (tm 8))])))
def zsdQ_c : ACode :=
 (.seq (.region [
 o1 2 (.mov (.const (.slice none 0 0)))]) (.seq (.region [
 o1 3 (.alloc 134 [(.int .u8 0), (.int .u8 0), (.int .u8 0), (.int .u8 0), (.int .u8 0), (.int .u8 0), (.int .u8 0), (.int .u8 0), (.int .u8 0)])]) (.seq (.region [
 o1 4 (.mov k0)]) (.seq (.block 0 (.loop zsdQ_l0)) (.seq (.region [
 o1 16 (.mov (tm 4)),
 o1 17 (.bin .sub (so (.binOp .sub 3 (.const (.int .i64 8)) (tm 16) 3) 3) (.const (.int .i64 8)) (tm 16)),
 o1 18 (.mov (tm 4)),
 o1 19 (.conv .u8 (so (.convert 3 5 (tm 18)) 5) (tm 18)),
 o1 20 (.indexArr 9 1 (tm 3) (tm 17)),
 o3 (.store 1 (tm 20) (tm 19))]) (.seq (.region [
 o1 21 (.mov (tm 4)),
 o1 22 (.bin .sub (so (.binOp .sub 3 (.const (.int .i64 8)) (tm 21) 3) 3) (.const (.int .i64 8)) (tm 21)),
 o1 23 (.sliceArr 9 1 (tm 3) (some (tm 22)) none),
 o1 2 (.mov (tm 23))]) .ret))))))
def zsdQ : AFunc := ⟨24, [(2, none)], zsdQ_c, none⟩
theorem zsdQ_t0 : tableOf Try.prog 55 = some zsdQ := by kernel_rfl
abbrev fn_zecQ : FuncId := 56
def zecQ_c : ACode :=
 (.seq (.region [
 o1 4 (.mov (.const (.slice none 0 0)))]) (.seq (.region [
 o1 6 (.mov (tm 0)),
 o1 7 (.callV (.func 82) [(tm 6)]),
 o1 5 (.mov (tm 7))]) (.seq (.region [
 o1 8 (.mov (tm 5)),
 o1 9 (.mov (tm 1)),
 o1 10 (.callV (.func 83) [(tm 8), (tm 9)])]) (.seq (.region [
 o1 11 (.mov (tm 5)),
 o1 4 (.mov (tm 11))]) .ret))))
def zecQ : AFunc := ⟨12, [(4, none)], zecQ_c, none⟩
theorem zecQ_t0 : tableOf Try.prog 56 = some zecQ := by kernel_rfl
theorem zecQ_t : T0 56 = some zecQ := withKept_t rfl (withTrue_t rfl zecQ_t0)
theorem zecQ_runs {v0 v1 : Value} {h : Heap} {R : RP} {X : XP} (k : RunC Try.prog T0 zecQ_c ⟨[v0, v1, U, U, U, U, U, U, U, U, U, U], [], h, none⟩ (bodyQ Try.prog T0 [(4, none)] R X)) :
 Runs Try.prog T0 (.fn 56) [v0, v1] h R X := Runs.fn zecQ_t rfl k
abbrev fn_zgbQ : FuncId := 57
def zgbQ_c : ACode :=
 (.seq (.region [
 o1 1 (.box 41 (tm 0)),
 o1 2 (.mov (.const .nilFunc))]) (.seq (.region [
 o1 3 (.mkFunc (.func 84) [] [(tm 1)]),
 o1 2 (.mov (tm 3))]) .ret))
def zgbQ : AFunc := ⟨4, [(2, none)], zgbQ_c, none⟩
theorem zgbQ_t0 : tableOf Try.prog 57 = some zgbQ := by kernel_rfl
theorem zgbQ_t : T0 57 = some zgbQ := withKept_t rfl (withTrue_t rfl zgbQ_t0)
theorem zgbQ_runs {v0 : Value} {h : Heap} {R : RP} {X : XP} (k : RunC Try.prog T0 zgbQ_c ⟨[v0, U, U, U], [], h, none⟩ (bodyQ Try.prog T0 [(2, none)] R X)) :
 Runs Try.prog T0 (.fn 57) [v0] h R X := Runs.fn zgbQ_t rfl k
def zaeQ_l0 : ACode :=
 (.seq (.region [
 o1 6 (.bin .lss (so (.binOp .lss 3 (tm 5) (.const (.int .i64 8)) 3) 4) (tm 5) (.const (.int .i64 8)))]) (.seq (.cond (tm 6)
 .skip
 (.exit 0)) (.seq (.block 1 (.seq (.region [
 o1 7 (.mov (tm 5)),
 o1 4 (.mov (tm 7))]) (.region [
 o1 8 (.mov (tm 4)),
 o1 9 (.bin .sub (so (.binOp .sub 3 (.const (.int .i64 7)) (tm 8) 3) 3) (.const (.int .i64 7)) (tm 8)),
 o1 10 (.mov (tm 0)),
 o1 11 (.mov (tm 4)),
 o1 12 (.bin .mul (so (.binOp .mul 3 (.const (.int .i64 8)) (tm 11) 3) 3) (.const (.int .i64 8)) (tm 11)),
 o1 13 (.bin .shr (so (.binOp .shr 36 (tm 10) (tm 12) 3) 36) (tm 10) (tm 12)),
 o1 14 (.conv .u8 (so (.convert 36 5 (tm 13)) 5) (tm 13)),
 o1 15 (.indexArr 8 1 (tm 3) (tm 9)),
 o3 (.store 1 (tm 15) (tm 14))]))) (.region [
 o1 16 (.bin .add (so (.binOp .add 3 (tm 5) (.const (.int .i64 1)) 3) 3) (tm 5) (.const (.int .i64 1))),
 o1 5 (.mov (tm 16))]))))
def zaeQ_c : ACode :=
 (.seq (.region [
 o1 2 (.alloc 105 [(.int .u8 0), (.int .u8 0), (.int .u8 0), (.int .u8 0), (.int .u8 0), (.int .u8 0), (.int .u8 0), (.int .u8 0)])]) (.seq (.region [
 o1 3 (.alloc 105 [(.int .u8 0), (.int .u8 0), (.int .u8 0), (.int .u8 0), (.int .u8 0), (.int .u8 0), (.int .u8 0), (.int .u8 0)])]) (.seq (.seq (.region [
 o1 5 (.mov k0)]) (.block 0 (.loop zaeQ_l0))) (.seq (.region [
 o1 17 (.load (some 8) (tm 3)),
 o3 (.store 8 (tm 2) (tm 17))]) .ret))))
def zaeQ : AFunc := ⟨18, [(2, some (some 8))], zaeQ_c, none⟩
theorem zaeQ_t0 : tableOf Try.prog 58 = some zaeQ := by kernel_rfl
def zzbQ_c : ACode :=
 (.seq (.region [
 o1 2 (.mov (.const (.slice none 0 0)))]) (.seq (.seq (.region [
 o1 3 (.mov (tm 0)),
 o1 4 (.eq .slice false (so (.binOp .eql 45 (tm 3) (.const (.slice none 0 0)) 45) 4) (tm 3) (.const (.slice none 0 0)))]) (.cond (tm 4)
 (.seq (.region [
 o1 2 (.mov (.const (.slice none 0 0)))]) .ret)
 .skip)) (.seq (.region [
 o1 5 (.buildSlice 5 [] 0 []),
 o1 6 (.mov (tm 0)),
 o1 7 (.append 5 1 1 [(.int .u8 0)] false (tm 5) (tm 6)),
 o1 2 (.mov (tm 7))]) .ret)))
def zzbQ : AFunc := ⟨8, [(2, none)], zzbQ_c, none⟩
theorem zzbQ_t0 : tableOf Try.prog 59 = some zzbQ := by kernel_rfl
abbrev fn_zvbQ : FuncId := 60
def zvbQ_l0 : ACode :=
 (.seq (.region [
 o1 10 (.bin .lss (so (.binOp .lss 3 (tm 9) (tm 8) 3) 0) (tm 9) (tm 8))]) (.seq (.cond (tm 10)
 .skip
 (.exit 0)) (.seq (.block 1 (.seq (.region [
 o1 11 (.indexSl 37 (tm 7) (tm 9)),
 o1 12 (.load (some 37) (tm 11)),
 o1 5 (.alloc 70 (z32 ++ [(.int .u8 0), (.int .u8 0), (.int .u8 0), (.int .u8 0), (.int .u64 0)])),
 o3 (.store 37 (tm 5) (tm 12))]) (.seq (.region [
 o1 13 (.fieldAddr 4 (tm 5)),
 o1 14 (.load (some 32) (tm 13)),
 o1 15 (.load (some 32) (tm 2)),
 o1 16 (.bin .eql (so (.binOp .eql 35 (tm 14) (tm 15) 35) 4) (tm 14) (tm 15)),
 o1 17 (.mov (tm 16)),
 o4 18 (.mov (tm 0)) 17,
 o4 19 (.fieldAddr 0 (tm 5)) 17,
 o4 20 (.load (some 4) (tm 19)) 17,
 o4 21 (.callV (tm 18) [(tm 20)]) 17,
 o4 22 (.raw (so (.unOp .not 4 (tm 21)) 4)) 17,
 o1 23 (.pick (tm 17) (tm 22) (.const (.bool false)))]) (.cond (tm 23)
 .ret
 .skip)))) (.region [
 o1 24 (.bin .add (so (.binOp .add 3 (tm 9) (.const (.int .i64 1)) 3) 3) (tm 9) (.const (.int .i64 1))),
 o1 9 (.mov (tm 24))]))))
def zvbQ_c : ACode :=
 (.seq (.region [
 o1 6 (.load none (tm 1)),
 o1 7 (.callV (.func 34) [(tm 6)]),
 o1 8 (.lenSl (tm 7)),
 o1 9 (.mov k0)]) (.block 0 (.loop zvbQ_l0)))
def zvbQ : AFunc := ⟨25, [], zvbQ_c, none⟩
theorem zvbQ_t0 : tableOf Try.prog 60 = some zvbQ := by kernel_rfl
theorem zvbQ_t : T0 60 = some zvbQ := withKept_t rfl (withTrue_t rfl zvbQ_t0)
theorem zvbQ_runs {v0 v1 v2 : Value} {h : Heap} {R : RP} {X : XP} (k : RunC Try.prog T0 zvbQ_c ⟨[v0, v1, v2, U, U, U, U, U, U, U, U, U, U, U, U, U, U, U, U, U, U, U, U, U, U], [], h, none⟩ (bodyQ Try.prog T0 [] R X)) :
 Runs Try.prog T0 (.fn 60) [v0, v1, v2] h R X := Runs.fn zvbQ_t rfl k
abbrev zvbQ_l0_M : List Nat := [0, 0, 0, 0, 0, 1, 0, 0, 0, 2, 1, 1, 1, 1, 1, 1, 1, 1, 1, 1, 1, 1, 1, 1, 1]
def zvdQ_c : ACode :=
 (.seq (.region [
 o1 4 (.mov k0)]) (.seq (.seq (.region [
 o1 5 (.mov (tm 0)),
 o1 6 (.eq .ptr false (so (.binOp .eql 86 (tm 5) (.const (.pointer none)) 86) 4) (tm 5) (.const (.pointer none))),
 o1 7 (.mov (tm 6)),
 o5 8 (.mov (tm 0)) 7,
 o5 9 (.nilCheck (tm 8)) 7,
 o5 10 (.fieldAddr 4 (tm 9)) 7,
 o5 11 (.load none (tm 10)) 7,
 o5 12 (.raw (so (.unOp .not 4 (tm 11)) 4)) 7,
 o1 13 (.pick (tm 7) (.const (.bool true)) (tm 12)),
 o1 14 (.mov (tm 13)),
 o5 15 (.mov (tm 0)) 14,
 o5 16 (.nilCheck (tm 15)) 14,
 o5 17 (.fieldAddr 2 (tm 16)) 14,
 o5 18 (.fieldAddr 0 (tm 17)) 14,
 o5 19 (.load none (tm 18)) 14,
 o5 20 (.bin .neq (so (.binOp .neq 25 (tm 19) k0 25) 4) (tm 19) k0) 14,
 o1 21 (.pick (tm 14) (.const (.bool true)) (tm 20))]) (.cond (tm 21)
 (.seq (.region [
 o1 22 (.mov (tm 4)),
 o1 4 (.mov (tm 22))]) .ret)
 .skip)) (.seq (.region [
 o1 23 (.mov (tm 0)),
 o3 (.defer (.func 85) [(tm 23)])]) (.seq (.region [
 o1 24 (.mov (tm 1)),
 o1 25 (.mov (tm 0)),
 o1 26 (.nilCheck (tm 25)),
 o1 27 (.fieldAddr 1 (tm 26)),
 o1 28 (.load none (tm 27)),
 o1 29 (.callV (tm 24) [(tm 28)]),
 o1 4 (.mov (tm 29))]) .ret))))
def zvdQ : AFunc := ⟨30, [(4, none)], zvdQ_c, none⟩
theorem zvdQ_t0 : tableOf Try.prog 61 = some zvdQ := by kernel_rfl
def zidQ_c : ACode :=
 (.seq (.region [
 o1 4 (.mov k0)]) (.seq (.region [
 o1 8 (.mov (tm 0)),
 o1 9 (.mov (tm 1)),
 o1 10 (.callV (.func 73) [(tm 8), (.const (.int .i64 1)), (tm 9), (.func 74)]),
 o1 11 (.conv .i64 (so (.convert 36 3 (tm 10)) 3) (tm 10)),
 o1 5 (.alloc 3 [(.int .i64 0)]),
 o3 (.store 1 (tm 5) (tm 11))]) (.seq (.region [
 o1 12 (.load none (tm 5)),
 o1 13 (.bin .leq (so (.binOp .leq 3 (tm 12) (.const (.int .i64 8)) 3) 4) (tm 12) (.const (.int .i64 8))),
 o1 14 (.mov (tm 1)),
 o1 15 (.callV (.func 86) [(tm 13), (.const (.int .i64 5)), (tm 14)])]) (.seq (.region [
 o1 6 (.alloc 5 [(.int .u8 0)]),
 o3 (.store 1 (tm 6) (.const (.int .u8 1)))]) (.seq (.region [
 o1 16 (.mov (tm 0)),
 o1 17 (.load none (tm 5)),
 o1 18 (.mov (tm 1)),
 o1 19 (.mkFunc (.func 87) [] [(tm 5), (tm 6)]),
 o1 20 (.callV (.func 73) [(tm 16), (tm 17), (tm 18), (tm 19)]),
 o1 7 (.mov (tm 20))]) (.seq (.region [
 o1 21 (.load none (tm 6)),
 o1 22 (.bin .neq (so (.binOp .neq 5 (tm 21) (.const (.int .u8 0)) 5) 4) (tm 21) (.const (.int .u8 0))),
 o1 23 (.mov (tm 22)),
 o4 24 (.mov (tm 7)) 23,
 o4 25 (.bin .leq (so (.binOp .leq 36 (tm 24) (.const (.int .u64 9223372036854775807)) 36) 4) (tm 24) (.const (.int .u64 9223372036854775807))) 23,
 o1 26 (.pick (tm 23) (tm 25) (.const (.bool false))),
 o1 27 (.mov (tm 1)),
 o1 28 (.callV (.func 86) [(tm 26), (.const (.int .i64 5)), (tm 27)])]) (.seq (.region [
 o1 29 (.mov (tm 7)),
 o1 30 (.conv .i64 (so (.convert 36 3 (tm 29)) 3) (tm 29)),
 o1 4 (.mov (tm 30))]) .ret)))))))
def zidQ : AFunc := ⟨31, [(4, none)], zidQ_c, none⟩
theorem zidQ_t0 : tableOf Try.prog 62 = some zidQ := by kernel_rfl
def zudQ_c : ACode :=
 (.seq (.region [
 o1 4 (.alloc 33 [(.int .u8 0), (.int .u8 0), (.int .u8 0), (.int .u8 0)])]) (.seq (.seq (.region [
 o1 5 (.mov (tm 0)),
 o1 6 (.eq .ptr false (so (.binOp .eql 86 (tm 5) (.const (.pointer none)) 86) 4) (tm 5) (.const (.pointer none))),
 o1 7 (.mov (tm 6)),
 o5 8 (.mov (tm 0)) 7,
 o5 9 (.nilCheck (tm 8)) 7,
 o5 10 (.fieldAddr 4 (tm 9)) 7,
 o5 11 (.load none (tm 10)) 7,
 o5 12 (.raw (so (.unOp .not 4 (tm 11)) 4)) 7,
 o1 13 (.pick (tm 7) (.const (.bool true)) (tm 12)),
 o1 14 (.mov (tm 13)),
 o5 15 (.mov (tm 0)) 14,
 o5 16 (.nilCheck (tm 15)) 14,
 o5 17 (.fieldAddr 2 (tm 16)) 14,
 o5 18 (.fieldAddr 0 (tm 17)) 14,
 o5 19 (.load none (tm 18)) 14,
 o5 20 (.bin .neq (so (.binOp .neq 25 (tm 19) k0 25) 4) (tm 19) k0) 14,
 o1 21 (.pick (tm 14) (.const (.bool true)) (tm 20))]) (.cond (tm 21)
 (.seq (.region [
 o1 22 (.load (some 4) (tm 4)),
 o3 (.store 4 (tm 4) (tm 22))]) .ret)
 .skip)) (.seq (.region [
 o1 23 (.mov (tm 0)),
 o3 (.defer (.func 85) [(tm 23)])]) (.seq (.region [
 o1 24 (.mov (tm 1)),
 o1 25 (.mov (tm 0)),
 o1 26 (.nilCheck (tm 25)),
 o1 27 (.fieldAddr 1 (tm 26)),
 o1 28 (.load none (tm 27)),
 o1 29 (.callV (tm 24) [(tm 28)]),
 o3 (.store 4 (tm 4) (tm 29))]) .ret))))
def zudQ : AFunc := ⟨30, [(4, some (some 4))], zudQ_c, none⟩
theorem zudQ_t0 : tableOf Try.prog 63 = some zudQ := by kernel_rfl
def zbdQ_c : ACode :=
 (.seq (.region [
 o1 3 (.alloc 33 [(.int .u8 0), (.int .u8 0), (.int .u8 0), (.int .u8 0)])]) (.seq (.region [
 o1 4 (.load none (tm 1)),
 o1 5 (.mov (tm 0)),
 o1 6 (.callV (.func 65) [(tm 4), (.const (.int .i64 4)), (tm 5), (.func 66)]),
 o3 (.store 4 (tm 3) (tm 6))]) .ret))
def zbdQ : AFunc := ⟨7, [(3, some (some 4))], zbdQ_c, none⟩
theorem zbdQ_t0 : tableOf Try.prog 64 = some zbdQ := by kernel_rfl
def zydQ_c : ACode :=
 (.seq (.region [
 o1 8 (.alloc 33 [(.int .u8 0), (.int .u8 0), (.int .u8 0), (.int .u8 0)])]) (.seq (.regionD [
 o1 9 (.mov (tm 1)),
 o1 10 (.mov (tm 0)),
 o1 11 (.nilCheck (tm 10)),
 o1 12 (.fieldAddr 0 (tm 11)),
 o1 13 (.load none (tm 12)),
 o1 14 (.lenSl (tm 13)),
 o1 15 (.mov (tm 0)),
 o1 16 (.nilCheck (tm 15)),
 o1 17 (.fieldAddr 1 (tm 16)),
 o1 18 (.load none (tm 17)),
 o1 19 (.bin .sub (so (.binOp .sub 3 (tm 14) (tm 18) 3) 3) (tm 14) (tm 18)),
 o1 20 (.bin .leq (so (.binOp .leq 3 (tm 9) (tm 19) 3) 4) (tm 9) (tm 19)),
 o1 21 (.mov (tm 2)),
 o2 22 (.callV (.func 86) [(tm 20), (.const (.int .i64 6)), (tm 21)])]) (.seq (.region [
 o1 23 (.mov (tm 0)),
 o1 24 (.nilCheck (tm 23)),
 o1 25 (.fieldAddr 1 (tm 24)),
 o1 26 (.load none (tm 25)),
 o1 27 (.mov (tm 1)),
 o1 28 (.bin .add (so (.binOp .add 3 (tm 26) (tm 27) 3) 3) (tm 26) (tm 27)),
 o1 29 (.nilCheck (tm 23)),
 o1 30 (.fieldAddr 1 (tm 29)),
 o3 (.store 1 (tm 30) (tm 28))]) (.seq (.regionD [
 o1 31 (.mov (tm 3)),
 o1 32 (.mov (tm 0)),
 o1 33 (.nilCheck (tm 32)),
 o1 34 (.fieldAddr 0 (tm 33)),
 o1 35 (.load none (tm 34)),
 o1 36 (.mov (tm 0)),
 o1 37 (.nilCheck (tm 36)),
 o1 38 (.fieldAddr 1 (tm 37)),
 o1 39 (.load none (tm 38)),
 o1 40 (.mov (tm 1)),
 o1 41 (.bin .sub (so (.binOp .sub 3 (tm 39) (tm 40) 3) 3) (tm 39) (tm 40)),
 o1 42 (.mov (tm 0)),
 o1 43 (.nilCheck (tm 42)),
 o1 44 (.fieldAddr 1 (tm 43)),
 o1 45 (.load none (tm 44)),
 o1 46 (.sliceSl 1 (tm 35) (some (tm 41)) (some (tm 45)) none),
 o2 47 (.callV (tm 31) [(tm 46)]),
 ⟨none, .store 4 (tm 8) (tm 47), none, [], true⟩]) .ret))))
def zydQ : AFunc := ⟨48, [(8, some (some 4))], zydQ_c, none⟩
theorem zydQ_t0 : tableOf Try.prog 65 = some zydQ := by kernel_rfl
def zcdQ_c : ACode :=
 (.seq (.region [
 o1 2 (.alloc 33 [(.int .u8 0), (.int .u8 0), (.int .u8 0), (.int .u8 0)])]) (.seq (.region [
 o1 3 (.mov (tm 0)),
 o1 4 (.arrayAt 4 (tm 3)),
 o1 5 (.load (some 4) (tm 4)),
 o3 (.store 4 (tm 2) (tm 5))]) .ret))
def zcdQ : AFunc := ⟨6, [(2, some (some 4))], zcdQ_c, none⟩
theorem zcdQ_t0 : tableOf Try.prog 66 = some zcdQ := by kernel_rfl
def ztdQ_c : ACode :=
 (.seq (.region [
 o1 4 (.alloc 35 z32)]) (.seq (.seq (.region [
 o1 5 (.mov (tm 0)),
 o1 6 (.eq .ptr false (so (.binOp .eql 86 (tm 5) (.const (.pointer none)) 86) 4) (tm 5) (.const (.pointer none))),
 o1 7 (.mov (tm 6)),
 o5 8 (.mov (tm 0)) 7,
 o5 9 (.nilCheck (tm 8)) 7,
 o5 10 (.fieldAddr 4 (tm 9)) 7,
 o5 11 (.load none (tm 10)) 7,
 o5 12 (.raw (so (.unOp .not 4 (tm 11)) 4)) 7,
 o1 13 (.pick (tm 7) (.const (.bool true)) (tm 12)),
 o1 14 (.mov (tm 13)),
 o5 15 (.mov (tm 0)) 14,
 o5 16 (.nilCheck (tm 15)) 14,
 o5 17 (.fieldAddr 2 (tm 16)) 14,
 o5 18 (.fieldAddr 0 (tm 17)) 14,
 o5 19 (.load none (tm 18)) 14,
 o5 20 (.bin .neq (so (.binOp .neq 25 (tm 19) k0 25) 4) (tm 19) k0) 14,
 o1 21 (.pick (tm 14) (.const (.bool true)) (tm 20))]) (.cond (tm 21)
 (.seq (.region [
 o1 22 (.load (some 32) (tm 4)),
 o3 (.store 32 (tm 4) (tm 22))]) .ret)
 .skip)) (.seq (.region [
 o1 23 (.mov (tm 0)),
 o3 (.defer (.func 85) [(tm 23)])]) (.seq (.region [
 o1 24 (.mov (tm 1)),
 o1 25 (.mov (tm 0)),
 o1 26 (.nilCheck (tm 25)),
 o1 27 (.fieldAddr 1 (tm 26)),
 o1 28 (.load none (tm 27)),
 o1 29 (.callV (tm 24) [(tm 28)]),
 o3 (.store 32 (tm 4) (tm 29))]) .ret))))
def ztdQ : AFunc := ⟨30, [(4, some (some 32))], ztdQ_c, none⟩
theorem ztdQ_t0 : tableOf Try.prog 67 = some ztdQ := by kernel_rfl
def zycQ_c : ACode :=
 (.seq (.region [
 o1 3 (.alloc 35 z32)]) (.seq (.region [
 o1 4 (.load none (tm 1)),
 o1 5 (.mov (tm 0)),
 o1 6 (.callV (.func 69) [(tm 4), (.const (.int .i64 32)), (tm 5), (.func 70)]),
 o3 (.store 32 (tm 3) (tm 6))]) .ret))
def zycQ : AFunc := ⟨7, [(3, some (some 32))], zycQ_c, none⟩
theorem zycQ_t0 : tableOf Try.prog 68 = some zycQ := by kernel_rfl
def zxdQ_c : ACode :=
 (.seq (.region [
 o1 8 (.alloc 35 z32)]) (.seq (.regionD [
 o1 9 (.mov (tm 1)),
 o1 10 (.mov (tm 0)),
 o1 11 (.nilCheck (tm 10)),
 o1 12 (.fieldAddr 0 (tm 11)),
 o1 13 (.load none (tm 12)),
 o1 14 (.lenSl (tm 13)),
 o1 15 (.mov (tm 0)),
 o1 16 (.nilCheck (tm 15)),
 o1 17 (.fieldAddr 1 (tm 16)),
 o1 18 (.load none (tm 17)),
 o1 19 (.bin .sub (so (.binOp .sub 3 (tm 14) (tm 18) 3) 3) (tm 14) (tm 18)),
 o1 20 (.bin .leq (so (.binOp .leq 3 (tm 9) (tm 19) 3) 4) (tm 9) (tm 19)),
 o1 21 (.mov (tm 2)),
 o2 22 (.callV (.func 86) [(tm 20), (.const (.int .i64 6)), (tm 21)])]) (.seq (.region [
 o1 23 (.mov (tm 0)),
 o1 24 (.nilCheck (tm 23)),
 o1 25 (.fieldAddr 1 (tm 24)),
 o1 26 (.load none (tm 25)),
 o1 27 (.mov (tm 1)),
 o1 28 (.bin .add (so (.binOp .add 3 (tm 26) (tm 27) 3) 3) (tm 26) (tm 27)),
 o1 29 (.nilCheck (tm 23)),
 o1 30 (.fieldAddr 1 (tm 29)),
 o3 (.store 1 (tm 30) (tm 28))]) (.seq (.regionD [
 o1 31 (.mov (tm 3)),
 o1 32 (.mov (tm 0)),
 o1 33 (.nilCheck (tm 32)),
 o1 34 (.fieldAddr 0 (tm 33)),
 o1 35 (.load none (tm 34)),
 o1 36 (.mov (tm 0)),
 o1 37 (.nilCheck (tm 36)),
 o1 38 (.fieldAddr 1 (tm 37)),
 o1 39 (.load none (tm 38)),
 o1 40 (.mov (tm 1)),
 o1 41 (.bin .sub (so (.binOp .sub 3 (tm 39) (tm 40) 3) 3) (tm 39) (tm 40)),
 o1 42 (.mov (tm 0)),
 o1 43 (.nilCheck (tm 42)),
 o1 44 (.fieldAddr 1 (tm 43)),
 o1 45 (.load none (tm 44)),
 o1 46 (.sliceSl 1 (tm 35) (some (tm 41)) (some (tm 45)) none),
 o2 47 (.callV (tm 31) [(tm 46)]),
 ⟨none, .store 32 (tm 8) (tm 47), none, [], true⟩]) .ret))))
def zxdQ : AFunc := ⟨48, [(8, some (some 32))], zxdQ_c, none⟩
theorem zxdQ_t0 : tableOf Try.prog 69 = some zxdQ := by kernel_rfl
def zzcQ_c : ACode :=
 (.seq (.region [
 o1 2 (.alloc 35 z32)]) (.seq (.region [
 o1 3 (.mov (tm 0)),
 o1 4 (.arrayAt 32 (tm 3)),
 o1 5 (.load (some 32) (tm 4)),
 o3 (.store 32 (tm 2) (tm 5))]) .ret))
def zzcQ : AFunc := ⟨6, [(2, some (some 32))], zzcQ_c, none⟩
theorem zzcQ_t0 : tableOf Try.prog 70 = some zzcQ := by kernel_rfl
def zwdQ_c : ACode :=
 (.seq (.region [
 o1 4 (.mov (.const (.int .u64 0)))]) (.seq (.seq (.region [
 o1 5 (.mov (tm 0)),
 o1 6 (.eq .ptr false (so (.binOp .eql 86 (tm 5) (.const (.pointer none)) 86) 4) (tm 5) (.const (.pointer none))),
 o1 7 (.mov (tm 6)),
 o5 8 (.mov (tm 0)) 7,
 o5 9 (.nilCheck (tm 8)) 7,
 o5 10 (.fieldAddr 4 (tm 9)) 7,
 o5 11 (.load none (tm 10)) 7,
 o5 12 (.raw (so (.unOp .not 4 (tm 11)) 4)) 7,
 o1 13 (.pick (tm 7) (.const (.bool true)) (tm 12)),
 o1 14 (.mov (tm 13)),
 o5 15 (.mov (tm 0)) 14,
 o5 16 (.nilCheck (tm 15)) 14,
 o5 17 (.fieldAddr 2 (tm 16)) 14,
 o5 18 (.fieldAddr 0 (tm 17)) 14,
 o5 19 (.load none (tm 18)) 14,
 o5 20 (.bin .neq (so (.binOp .neq 25 (tm 19) k0 25) 4) (tm 19) k0) 14,
 o1 21 (.pick (tm 14) (.const (.bool true)) (tm 20))]) (.cond (tm 21)
 (.seq (.region [
 o1 22 (.mov (tm 4)),
 o1 4 (.mov (tm 22))]) .ret)
 .skip)) (.seq (.region [
 o1 23 (.mov (tm 0)),
 o3 (.defer (.func 85) [(tm 23)])]) (.seq (.region [
 o1 24 (.mov (tm 1)),
 o1 25 (.mov (tm 0)),
 o1 26 (.nilCheck (tm 25)),
 o1 27 (.fieldAddr 1 (tm 26)),
 o1 28 (.load none (tm 27)),
 o1 29 (.callV (tm 24) [(tm 28)]),
 o1 4 (.mov (tm 29))]) .ret))))
def zwdQ : AFunc := ⟨30, [(4, none)], zwdQ_c, none⟩
theorem zwdQ_t0 : tableOf Try.prog 71 = some zwdQ := by kernel_rfl
def zgdQ_c : ACode :=
 (.seq (.region [
 o1 3 (.mov (.const (.int .u64 0)))]) (.seq (.region [
 o1 4 (.load none (tm 1)),
 o1 5 (.mov (tm 0)),
 o1 6 (.callV (.func 73) [(tm 4), (.const (.int .i64 8)), (tm 5), (.func 74)]),
 o1 3 (.mov (tm 6))]) .ret))
def zgdQ : AFunc := ⟨7, [(3, none)], zgdQ_c, none⟩
theorem zgdQ_t0 : tableOf Try.prog 72 = some zgdQ := by kernel_rfl
def zzdQ_c : ACode :=
 (.seq (.region [
 o1 8 (.mov (.const (.int .u64 0)))]) (.seq (.regionD [
 o1 9 (.mov (tm 1)),
 o1 10 (.mov (tm 0)),
 o1 11 (.nilCheck (tm 10)),
 o1 12 (.fieldAddr 0 (tm 11)),
 o1 13 (.load none (tm 12)),
 o1 14 (.lenSl (tm 13)),
 o1 15 (.mov (tm 0)),
 o1 16 (.nilCheck (tm 15)),
 o1 17 (.fieldAddr 1 (tm 16)),
 o1 18 (.load none (tm 17)),
 o1 19 (.bin .sub (so (.binOp .sub 3 (tm 14) (tm 18) 3) 3) (tm 14) (tm 18)),
 o1 20 (.bin .leq (so (.binOp .leq 3 (tm 9) (tm 19) 3) 4) (tm 9) (tm 19)),
 o1 21 (.mov (tm 2)),
 o2 22 (.callV (.func 86) [(tm 20), (.const (.int .i64 6)), (tm 21)])]) (.seq (.region [
 o1 23 (.mov (tm 0)),
 o1 24 (.nilCheck (tm 23)),
 o1 25 (.fieldAddr 1 (tm 24)),
 o1 26 (.load none (tm 25)),
 o1 27 (.mov (tm 1)),
 o1 28 (.bin .add (so (.binOp .add 3 (tm 26) (tm 27) 3) 3) (tm 26) (tm 27)),
 o1 29 (.nilCheck (tm 23)),
 o1 30 (.fieldAddr 1 (tm 29)),
 o3 (.store 1 (tm 30) (tm 28))]) (.seq (.regionD [
 o1 31 (.mov (tm 3)),
 o1 32 (.mov (tm 0)),
 o1 33 (.nilCheck (tm 32)),
 o1 34 (.fieldAddr 0 (tm 33)),
 o1 35 (.load none (tm 34)),
 o1 36 (.mov (tm 0)),
 o1 37 (.nilCheck (tm 36)),
 o1 38 (.fieldAddr 1 (tm 37)),
 o1 39 (.load none (tm 38)),
 o1 40 (.mov (tm 1)),
 o1 41 (.bin .sub (so (.binOp .sub 3 (tm 39) (tm 40) 3) 3) (tm 39) (tm 40)),
 o1 42 (.mov (tm 0)),
 o1 43 (.nilCheck (tm 42)),
 o1 44 (.fieldAddr 1 (tm 43)),
 o1 45 (.load none (tm 44)),
 o1 46 (.sliceSl 1 (tm 35) (some (tm 41)) (some (tm 45)) none),
 o2 47 (.callV (tm 31) [(tm 46)]),
 o2 8 (.mov (tm 47))]) .ret))))
def zzdQ : AFunc := ⟨48, [(8, none)], zzdQ_c, none⟩
theorem zzdQ_t0 : tableOf Try.prog 73 = some zzdQ := by kernel_rfl
def zqdQ_l0 : ACode :=
 (.seq (.region [
 o1 8 (.bin .lss (so (.binOp .lss 3 (tm 7) (tm 6) 3) 0) (tm 7) (tm 6))]) (.seq (.cond (tm 8)
 .skip
 (.exit 0)) (.seq (.block 1 (.seq (.region [
 o1 9 (.indexSl 1 (tm 5) (tm 7)),
 o1 10 (.load none (tm 9)),
 o1 4 (.mov (tm 10))]) (.region [
 o1 11 (.mov (tm 2)),
 o1 12 (.bin .shl (so (.binOp .shl 36 (tm 11) (.const (.int .u64 8)) 135) 36) (tm 11) (.const (.int .u64 8))),
 o1 13 (.mov (tm 4)),
 o1 14 (.conv .u64 (so (.convert 5 36 (tm 13)) 36) (tm 13)),
 o1 15 (.bin .or (so (.binOp .or 36 (tm 12) (tm 14) 36) 36) (tm 12) (tm 14)),
 o1 2 (.mov (tm 15))]))) (.region [
 o1 16 (.bin .add (so (.binOp .add 3 (tm 7) (.const (.int .i64 1)) 3) 3) (tm 7) (.const (.int .i64 1))),
 o1 7 (.mov (tm 16))]))))
def zqdQ_c : ACode :=
 (.seq (.region [
 o1 2 (.mov (.const (.int .u64 0)))]) (.seq (.seq (.region [
 o1 5 (.mov (tm 0)),
 o1 6 (.lenSl (tm 5)),
 o1 7 (.mov k0)]) (.block 0 (.loop zqdQ_l0))) (.seq (.region [
 o1 17 (.mov (tm 2)),
 o1 2 (.mov (tm 17))]) .ret)))
def zqdQ : AFunc := ⟨18, [(2, none)], zqdQ_c, none⟩
theorem zqdQ_t0 : tableOf Try.prog 74 = some zqdQ := by kernel_rfl
abbrev fn_zcQ : FuncId := 75
def zcQ_l0 : ACode :=
 (.seq (.region [
 o1 9 (.bin .lss (so (.binOp .lss 3 (tm 8) (tm 7) 3) 0) (tm 8) (tm 7))]) (.seq (.cond (tm 9)
 .skip
 (.exit 0)) (.seq (.block 1 (.seq (.region [
 o1 10 (.indexSl 1 (tm 6) (tm 8)),
 o1 11 (.load none (tm 10)),
 o1 5 (.mov (tm 11))]) (.seq (.region [
 o1 12 (.mov (tm 5)),
 o1 13 (.mov (tm 3)),
 o1 14 (.bin .neq (so (.binOp .neq 3 (tm 12) (tm 13) 3) 4) (tm 12) (tm 13))]) (.cond (tm 14)
 (.seq (.region [
 o1 15 (.mov (tm 5)),
 o1 2 (.mov (tm 15))]) .ret)
 .skip)))) (.region [
 o1 16 (.bin .add (so (.binOp .add 3 (tm 8) (.const (.int .i64 1)) 3) 3) (tm 8) (.const (.int .i64 1))),
 o1 8 (.mov (tm 16))]))))
def zcQ_c : ACode :=
 (.seq (.region [
 o1 2 (.mov k0)]) (.seq (.region [
 o1 3 (.mov k0)]) (.seq (.seq (.region [
 o1 6 (.mov (tm 0)),
 o1 7 (.lenSl (tm 6)),
 o1 8 (.mov k0)]) (.block 0 (.loop zcQ_l0))) (.seq (.region [
 o1 17 (.mov (tm 3)),
 o1 2 (.mov (tm 17))]) .ret))))
def zcQ : AFunc := ⟨18, [(2, none)], zcQ_c, none⟩
theorem zcQ_t0 : tableOf Try.prog 75 = some zcQ := by kernel_rfl
theorem zcQ_t : T0 75 = some zcQ := withKept_t rfl (withTrue_t rfl zcQ_t0)
theorem zcQ_runs {v0 : Value} {h : Heap} {R : RP} {X : XP} (k : RunC Try.prog T0 zcQ_c ⟨[v0, U, U, U, U, U, U, U, U, U, U, U, U, U, U, U, U, U], [], h, none⟩ (bodyQ Try.prog T0 [(2, none)] R X)) :
 Runs Try.prog T0 (.fn 75) [v0] h R X := Runs.fn zcQ_t rfl k
abbrev zcQ_l0_M : List Nat := [0, 0, 1, 0, 0, 1, 0, 0, 2, 1, 1, 1, 1, 1, 1, 1, 1, 0]
abbrev fn_zaQ : FuncId := 76
def zaQ_c : ACode :=
 (.seq (.region [
 o1 4 (.mov k0)]) (.seq (.region [
 o1 5 (.mov (tm 0)),
 o1 6 (.mov (tm 1)),
 o1 7 (.ext .compare (.func 88) [(tm 5), (tm 6)]),
 o1 4 (.mov (tm 7))]) .ret))
def zaQ : AFunc := ⟨8, [(4, none)], zaQ_c, none⟩
theorem zaQ_t0 : tableOf Try.prog 76 = some zaQ := by kernel_rfl
theorem zaQ_t : T0 76 = some zaQ := withKept_t rfl (withTrue_t rfl zaQ_t0)
theorem zaQ_runs {v0 v1 : Value} {h : Heap} {R : RP} {X : XP} (k : RunC Try.prog T0 zaQ_c ⟨[v0, v1, U, U, U, U, U, U], [], h, none⟩ (bodyQ Try.prog T0 [(4, none)] R X)) :
 Runs Try.prog T0 (.fn 76) [v0, v1] h R X := Runs.fn zaQ_t rfl k
abbrev fn_zbQ : FuncId := 77
def zbQ_c : ACode :=
 (.seq (.region [
 o1 4 (.mov k0)]) (.seq (.region [
 o1 7 (.mov (tm 0)),
 o1 8 (.callV (.func 89) [(tm 7)]),
 o1 5 (.mov (tm 8))]) (.seq (.region [
 o1 9 (.mov (tm 1)),
 o1 10 (.callV (.func 89) [(tm 9)]),
 o1 6 (.mov (tm 10))]) (.seq (.seq (.region [
 o1 11 (.mov (tm 5))]) (.cond (tm 11)
 (.seq (.seq (.region [
 o1 12 (.mov (tm 6))]) (.cond (tm 12)
 (.seq (.region [
 o1 4 (.mov k0)]) .ret)
 .skip)) (.seq (.region [
 o1 4 (.mov (.const (.int .i64 (-1))))]) .ret))
 .skip)) (.seq (.seq (.region [
 o1 13 (.mov (tm 6))]) (.cond (tm 13)
 (.seq (.region [
 o1 4 (.mov (.const (.int .i64 1)))]) .ret)
 .skip)) (.seq (.seq (.region [
 o1 14 (.mov (tm 0)),
 o1 15 (.mov (tm 1)),
 o1 16 (.bin .lss (so (.binOp .lss 36 (tm 14) (tm 15) 36) 4) (tm 14) (tm 15))]) (.cond (tm 16)
 (.seq (.region [
 o1 4 (.mov (.const (.int .i64 (-1))))]) .ret)
 .skip)) (.seq (.seq (.region [
 o1 17 (.mov (tm 0)),
 o1 18 (.mov (tm 1)),
 o1 19 (.bin .gtr (so (.binOp .gtr 36 (tm 17) (tm 18) 36) 4) (tm 17) (tm 18))]) (.cond (tm 19)
 (.seq (.region [
 o1 4 (.mov (.const (.int .i64 1)))]) .ret)
 .skip)) (.seq (.region [
 o1 4 (.mov k0)]) .ret))))))))
def zbQ : AFunc := ⟨20, [(4, none)], zbQ_c, none⟩
theorem zbQ_t0 : tableOf Try.prog 77 = some zbQ := by kernel_rfl
theorem zbQ_t : T0 77 = some zbQ := withKept_t rfl (withTrue_t rfl zbQ_t0)
theorem zbQ_runs {v0 v1 : Value} {h : Heap} {R : RP} {X : XP} (k : RunC Try.prog T0 zbQ_c ⟨[v0, v1, U, U, U, U, U, U, U, U, U, U, U, U, U, U, U, U, U, U], [], h, none⟩ (bodyQ Try.prog T0 [(4, none)] R X)) :
 Runs Try.prog T0 (.fn 77) [v0, v1] h R X := Runs.fn zbQ_t rfl k
def zbcQ_l0 : ACode :=
 (.seq (.region [
 o1 12 (.bin .lss (so (.binOp .lss 3 (tm 11) (tm 10) 3) 0) (tm 11) (tm 10))]) (.seq (.cond (tm 12)
 .skip
 (.exit 0)) (.seq (.block 1 (.seq (.region [
 o1 13 (.indexSl 1 (tm 9) (tm 11)),
 o1 14 (.load none (tm 13)),
 o1 5 (.mov (tm 14))]) (.seq (.region [
 o1 15 (.mov (tm 3)),
 o1 16 (.mov (tm 5)),
 o1 17 (.lenSl (tm 16)),
 o1 18 (.bin .add (so (.binOp .add 3 (tm 15) (tm 17) 3) 3) (tm 15) (tm 17)),
 o1 3 (.mov (tm 18))]) (.seq (.region [
 o1 19 (.mov (tm 3)),
 o1 20 (.bin .lss (so (.binOp .lss 3 (tm 19) k0 3) 4) (tm 19) k0)]) (.cond (tm 20)
 (.region [
 o1 21 (.mkIface 9 (.const (.string ⟨⟨[108, 101, 110, 32, 111, 117, 116, 32, 111, 102, 32, 114, 97, 110, 103, 101]⟩⟩))),
 o3 (.panic (tm 21))])
 .skip))))) (.region [
 o1 22 (.bin .add (so (.binOp .add 3 (tm 11) (.const (.int .i64 1)) 3) 3) (tm 11) (.const (.int .i64 1))),
 o1 11 (.mov (tm 22))]))))
def zbcQ_l1 : ACode :=
 (.seq (.region [
 o1 28 (.bin .lss (so (.binOp .lss 3 (tm 27) (tm 26) 3) 0) (tm 27) (tm 26))]) (.seq (.cond (tm 28)
 .skip
 (.exit 2)) (.seq (.block 3 (.seq (.region [
 o1 29 (.indexSl 1 (tm 25) (tm 27)),
 o1 30 (.load none (tm 29)),
 o1 8 (.mov (tm 30))]) (.region [
 o1 31 (.mov (tm 6)),
 o1 32 (.mov (tm 8)),
 o1 33 (.append 5 1 1 [(.int .u8 0)] false (tm 31) (tm 32)),
 o1 6 (.mov (tm 33))]))) (.region [
 o1 34 (.bin .add (so (.binOp .add 3 (tm 27) (.const (.int .i64 1)) 3) 3) (tm 27) (.const (.int .i64 1))),
 o1 27 (.mov (tm 34))]))))
def zbcQ_c : ACode :=
 (.seq (.region [
 o1 2 (.mov (.const (.slice none 0 0)))]) (.seq (.region [
 o1 3 (.mov k0)]) (.seq (.seq (.region [
 o1 9 (.mov (tm 0)),
 o1 10 (.lenSl (tm 9)),
 o1 11 (.mov k0)]) (.block 0 (.loop zbcQ_l0))) (.seq (.region [
 o1 23 (.mov (tm 3)),
 o1 24 (.callV (.func 90) [(.const (.slice none 0 0)), (tm 23)]),
 o1 6 (.mov (tm 24))]) (.seq (.seq (.region [
 o1 25 (.mov (tm 0)),
 o1 26 (.lenSl (tm 25)),
 o1 27 (.mov k0)]) (.block 2 (.loop zbcQ_l1))) (.seq (.region [
 o1 35 (.mov (tm 6)),
 o1 2 (.mov (tm 35))]) .ret))))))
def zbcQ : AFunc := ⟨36, [(2, none)], zbcQ_c, none⟩
theorem zbcQ_t0 : tableOf Try.prog 81 = some zbcQ := by kernel_rfl
abbrev fn_zacQ : FuncId := 82
def zacQ_c : ACode :=
 (.seq (.region [
 o1 2 (.mov (.const (.slice none 0 0)))]) (.seq (.region [
 o1 3 (.mov (tm 0)),
 o1 4 (.callV (.func 91) [(.const (.slice none 0 0)), (tm 3)]),
 o1 2 (.mov (tm 4))]) .ret))
def zacQ : AFunc := ⟨5, [(2, none)], zacQ_c, none⟩
theorem zacQ_t0 : tableOf Try.prog 82 = some zacQ := by kernel_rfl
theorem zacQ_t : T0 82 = some zacQ := withKept_t rfl (withTrue_t rfl zacQ_t0)
theorem zacQ_runs {v0 : Value} {h : Heap} {R : RP} {X : XP} (k : RunC Try.prog T0 zacQ_c ⟨[v0, U, U, U, U], [], h, none⟩ (bodyQ Try.prog T0 [(2, none)] R X)) :
 Runs Try.prog T0 (.fn 82) [v0] h R X := Runs.fn zacQ_t rfl k
abbrev fn_zdcQ : FuncId := 83
def zdcQ_c : ACode :=
 (.seq (.region [
 o1 5 (.mov (tm 0)),
 o1 6 (.lenSl (tm 5)),
 o1 4 (.mov (tm 6))]) (.region [
 o1 7 (.mov (tm 0)),
 o1 8 (.mov (tm 4)),
 o1 9 (.mov (tm 4)),
 o1 10 (.conv .u64 (so (.convert 3 135 (tm 9)) 135) (tm 9)),
 o1 11 (.callV (.func 93) [(tm 10)]),
 o1 12 (.mov (tm 1)),
 o1 13 (.callV (.func 92) [(tm 7), k0, (tm 8), (tm 11), (tm 12)])]))
def zdcQ : AFunc := ⟨14, [], zdcQ_c, none⟩
theorem zdcQ_t0 : tableOf Try.prog 83 = some zdcQ := by kernel_rfl
theorem zdcQ_t : T0 83 = some zdcQ := withKept_t rfl (withTrue_t rfl zdcQ_t0)
theorem zdcQ_runs {v0 v1 : Value} {h : Heap} {R : RP} {X : XP} (k : RunC Try.prog T0 zdcQ_c ⟨[v0, v1, U, U, U, U, U, U, U, U, U, U, U, U], [], h, none⟩ (bodyQ Try.prog T0 [] R X)) :
 Runs Try.prog T0 (.fn 83) [v0, v1] h R X := Runs.fn zdcQ_t rfl k
abbrev fn_zhbQ : FuncId := 84
def zhbQ_l0 : ACode :=
 (.seq (.region [
 o1 6 (.nextMap (tm 5)),
 o1 7 (.extract 0 (tm 6))]) (.seq (.cond (tm 7)
 .skip
 (.exit 0)) (.block 1 (.seq (.region [
 o1 8 (.entryMap (tm 5)),
 o1 9 (.extract 0 (tm 8)),
 o1 3 (.alloc 70 (z32 ++ [(.int .u8 0), (.int .u8 0), (.int .u8 0), (.int .u8 0), (.int .u64 0)])),
 o3 (.store 37 (tm 3) (tm 9))]) (.seq (.region [
 o1 10 (.mov (tm 0)),
 o1 11 (.load (some 37) (tm 3)),
 o1 12 (.callV (tm 10) [(tm 11)]),
 o1 13 (.raw (so (.unOp .not 4 (tm 12)) 4))]) (.cond (tm 13)
 .ret
 .skip))))))
def zhbQ_c : ACode :=
 (.seq (.region [
 o1 4 (.load none (tm 1)),
 o1 5 (.rangeMap (tm 4))]) (.block 0 (.loop zhbQ_l0)))
def zhbQ : AFunc := ⟨14, [], zhbQ_c, none⟩
theorem zhbQ_t0 : tableOf Try.prog 84 = some zhbQ := by kernel_rfl
theorem zhbQ_t : T0 84 = some zhbQ := withKept_t rfl (withTrue_t rfl zhbQ_t0)
theorem zhbQ_runs {v0 v1 : Value} {h : Heap} {R : RP} {X : XP} (k : RunC Try.prog T0 zhbQ_c ⟨[v0, v1, U, U, U, U, U, U, U, U, U, U, U, U], [], h, none⟩ (bodyQ Try.prog T0 [] R X)) :
 Runs Try.prog T0 (.fn 84) [v0, v1] h R X := Runs.fn zhbQ_t rfl k
abbrev zhbQ_l0_M : List Nat := [0, 0, 0, 1, 0, 0, 1, 1, 1, 1, 1, 1, 1, 1]
def zhdQ_c : ACode :=
 (.seq (.region [
 o1 5 (.recover),
 o1 2 (.mov (tm 5))]) (.seq (.region [
 o1 6 (.mov (tm 2)),
 o1 7 (.eq .iface true (so (.binOp .neq 20 (tm 6) (.const .nilIface) 20) 4) (tm 6) (.const .nilIface))]) (.cond (tm 7)
 (.seq (.region [
 o1 9 (.mov (tm 2)),
 o1 10 (.assertTo 147 (.agg ⟨[(.int .i64 0), (.int .i64 0)]⟩) true (tm 9)),
 o1 8 (.mov (tm 10)),
 o1 11 (.extract 0 (tm 8)),
 o1 12 (.extract 1 (tm 8)),
 o1 3 (.alloc 147 [(.int .i64 0), (.int .i64 0)]),
 o3 (.store 2 (tm 3) (tm 11)),
 o1 4 (.mov (tm 12))]) (.seq (.seq (.region [
 o1 13 (.mov (tm 4)),
 o1 14 (.raw (so (.unOp .not 4 (tm 13)) 4))]) (.cond (tm 14)
 (.region [
 o1 15 (.mov (tm 2)),
 o3 (.panic (tm 15))])
 .skip)) (.region [
 o1 16 (.mov (tm 0)),
 o1 17 (.fieldAddr 0 (tm 3)),
 o1 18 (.load (some 2) (tm 17)),
 o1 19 (.nilCheck (tm 16)),
 o1 20 (.fieldAddr 2 (tm 19)),
 o3 (.store 2 (tm 20) (tm 18))])))
 .skip)))
def zhdQ : AFunc := ⟨21, [], zhdQ_c, none⟩
theorem zhdQ_t0 : tableOf Try.prog 85 = some zhdQ := by kernel_rfl
def zrdQ_c : ACode :=
 (.seq (.region [
 o1 6 (.mov (tm 0)),
 o1 7 (.raw (so (.unOp .not 4 (tm 6)) 4))]) (.cond (tm 7)
 (.region [
 o1 8 (.mov (tm 1)),
 o1 9 (.mov (tm 2)),
 o1 10 (.build [(.int .i64 0), (.int .i64 0)] [(0, 1, (tm 8)), (1, 1, (tm 9))]),
 o1 11 (.build [(.int .i64 0), (.int .i64 0)] [(0, 2, (tm 10))]),
 o1 12 (.mkIface 147 (tm 11)),
 o3 (.panic (tm 12))])
 .skip))
def zrdQ : AFunc := ⟨13, [], zrdQ_c, none⟩
theorem zrdQ_t0 : tableOf Try.prog 86 = some zrdQ := by kernel_rfl
def zjdQ_c : ACode :=
 (.seq (.region [
 o1 4 (.mov (.const (.int .u64 0)))]) (.seq (.seq (.region [
 o1 5 (.load none (tm 1)),
 o1 6 (.bin .gtr (so (.binOp .gtr 3 (tm 5) k0 3) 4) (tm 5) k0)]) (.cond (tm 6)
 (.region [
 o1 7 (.mov (tm 0)),
 o1 8 (.indexSl 1 (tm 7) k0),
 o1 9 (.load none (tm 8)),
 o3 (.store 1 (tm 2) (tm 9))])
 .skip)) (.seq (.region [
 o1 10 (.mov (tm 0)),
 o1 11 (.callV (.func 74) [(tm 10)]),
 o1 4 (.mov (tm 11))]) .ret)))
def zjdQ : AFunc := ⟨12, [(4, none)], zjdQ_c, none⟩
theorem zjdQ_t0 : tableOf Try.prog 87 = some zjdQ := by kernel_rfl
abbrev fn_zdQ : FuncId := 89
def zdQ_c : ACode :=
 (.seq (.region [
 o1 2 (.mov (.const (.bool false)))]) (.seq (.region [
 o1 3 (.mov (tm 0)),
 o1 4 (.mov (tm 0)),
 o1 5 (.bin .neq (so (.binOp .neq 36 (tm 3) (tm 4) 36) 4) (tm 3) (tm 4)),
 o1 2 (.mov (tm 5))]) .ret))
def zdQ : AFunc := ⟨6, [(2, none)], zdQ_c, none⟩
theorem zdQ_t0 : tableOf Try.prog 89 = some zdQ := by kernel_rfl
theorem zdQ_t : T0 89 = some zdQ := withKept_t rfl (withTrue_t rfl zdQ_t0)
theorem zdQ_runs {v0 : Value} {h : Heap} {R : RP} {X : XP} (k : RunC Try.prog T0 zdQ_c ⟨[v0, U, U, U, U, U], [], h, none⟩ (bodyQ Try.prog T0 [(2, none)] R X)) :
 Runs Try.prog T0 (.fn 89) [v0] h R X := Runs.fn zdQ_t rfl k
def zccQ_c : ACode :=
 (.seq (.region [
 o1 4 (.mov (.const (.slice none 0 0)))]) (.seq (.seq (.region [
 o1 5 (.mov (tm 1)),
 o1 6 (.bin .lss (so (.binOp .lss 3 (tm 5) k0 3) 4) (tm 5) k0)]) (.cond (tm 6)
 (.region [
 o1 7 (.mkIface 9 (.const (.string ⟨⟨[99, 97, 110, 110, 111, 116, 32, 98, 101, 32, 110, 101, 103, 97, 116, 105, 118, 101]⟩⟩))),
 o3 (.panic (tm 7))])
 .skip)) (.seq (.seq (.region [
 o1 8 (.mov (tm 1)),
 o1 9 (.mov (tm 0)),
 o1 10 (.cap (tm 9)),
 o1 11 (.mov (tm 0)),
 o1 12 (.lenSl (tm 11)),
 o1 13 (.bin .sub (so (.binOp .sub 3 (tm 10) (tm 12) 3) 3) (tm 10) (tm 12)),
 o1 14 (.bin .sub (so (.binOp .sub 3 (tm 8) (tm 13) 3) 3) (tm 8) (tm 13)),
 o1 1 (.mov (tm 14))]) (.seq (.region [
 o1 15 (.mov (tm 1)),
 o1 16 (.bin .gtr (so (.binOp .gtr 3 (tm 15) k0 3) 4) (tm 15) k0)]) (.cond (tm 16)
 (.region [
 o1 17 (.mov (tm 0)),
 o1 18 (.mov (tm 0)),
 o1 19 (.cap (tm 18)),
 o1 20 (.sliceSl 1 (tm 17) none (some (tm 19)) none),
 o1 21 (.mov (tm 1)),
 o1 22 (.append 5 1 1 [(.int .u8 0)] true (tm 20) (tm 21)),
 o1 23 (.mov (tm 0)),
 o1 24 (.lenSl (tm 23)),
 o1 25 (.sliceSl 1 (tm 22) none (some (tm 24)) none),
 o1 0 (.mov (tm 25))])
 .skip))) (.seq (.region [
 o1 26 (.mov (tm 0)),
 o1 4 (.mov (tm 26))]) .ret))))
def zccQ : AFunc := ⟨27, [(4, none)], zccQ_c, none⟩
theorem zccQ_t0 : tableOf Try.prog 90 = some zccQ := by kernel_rfl
abbrev fn_zybQ : FuncId := 91
def zybQ_ra0 : Code := (rangeParts (subCode ((Try.prog.funcs[91]?).bind (·.body)) [true, false, true, false])).1
def zybQ_rb0 : Code := (rangeParts (subCode ((Try.prog.funcs[91]?).bind (·.body)) [true, false, true, false])).2
def zybQ_a0 : ACode :=
 (.region [
 o1 5 (.alloc 70 (z32 ++ [(.int .u8 0), (.int .u8 0), (.int .u8 0), (.int .u8 0), (.int .u64 0)])),
 o3 (.store 37 (tm 5) (tm 7))])
def zybQ_b0 : ACode :=
 (.block 1 (.region [
 o1 8 (.load none (tm 2)),
 o1 9 (.load (some 37) (tm 5)),
 o1 10 (.buildSlice 70 (z32 ++ [(.int .u8 0), (.int .u8 0), (.int .u8 0), (.int .u8 0), (.int .u64 0)]) 1 [(0, 37, (tm 9))]),
 o1 11 (.append 70 37 48 (z32 ++ [(.int .u8 0), (.int .u8 0), (.int .u8 0), (.int .u8 0), (.int .u64 0)]) false (tm 8) (tm 10)),
 o3 (.store 1 (tm 2) (tm 11))]))
theorem zybQ_ca0 : comp Try.prog zybQ_ra0 = some zybQ_a0 := by kernel_rfl
theorem zybQ_cb0 : comp Try.prog zybQ_rb0 = some zybQ_b0 := by kernel_rfl
theorem zybQ_na0 : noDefer zybQ_ra0 = true := by kernel_rfl
theorem zybQ_nb0 : noDefer zybQ_rb0 = true := by kernel_rfl
def zybQ_c : ACode :=
 (.seq (.region [
 o1 2 (.box 77 (tm 0)),
 o1 4 (.mov (.const (.slice none 0 0)))]) (.seq (.seq (.region [
 o1 6 (.mov (tm 1))]) (.block 0 (.rangeFunc (tm 6) [7] zybQ_ra0 zybQ_rb0))) (.seq (.region [
 o1 12 (.load none (tm 2)),
 o1 4 (.mov (tm 12))]) .ret)))
def zybQ : AFunc := ⟨13, [(4, none)], zybQ_c, none⟩
theorem zybQ_t0 : tableOf Try.prog 91 = some zybQ := by kernel_rfl
theorem zybQ_t : T0 91 = some zybQ := withKept_t rfl (withTrue_t rfl zybQ_t0)
theorem zybQ_runs {v0 v1 : Value} {h : Heap} {R : RP} {X : XP} (k : RunC Try.prog T0 zybQ_c ⟨[v0, v1, U, U, U, U, U, U, U, U, U, U, U], [], h, none⟩ (bodyQ Try.prog T0 [(4, none)] R X)) :
 Runs Try.prog T0 (.fn 91) [v0, v1] h R X := Runs.fn zybQ_t rfl k
abbrev fn_zqcQ : FuncId := 92
def zqcQ_l0 : ACode :=
 (.block 1 (.seq (.region [
 o1 21 (.mov (tm 2)),
 o1 22 (.mov (tm 1)),
 o1 23 (.bin .sub (so (.binOp .sub 3 (tm 21) (tm 22) 3) 3) (tm 21) (tm 22)),
 o1 12 (.mov (tm 23))]) (.seq (.seq (.region [
 o1 24 (.mov (tm 12)),
 o1 25 (.bin .leq (so (.binOp .leq 3 (tm 24) (.const (.int .i64 12)) 3) 4) (tm 24) (.const (.int .i64 12)))]) (.cond (tm 25)
 (.seq (.region [
 o1 26 (.mov (tm 0)),
 o1 27 (.mov (tm 1)),
 o1 28 (.mov (tm 2)),
 o1 29 (.mov (tm 4)),
 o1 30 (.callV (.func 94) [(tm 26), (tm 27), (tm 28), (tm 29)])]) .ret)
 .skip)) (.seq (.seq (.region [
 o1 31 (.mov (tm 3)),
 o1 32 (.bin .eql (so (.binOp .eql 3 (tm 31) k0 3) 4) (tm 31) k0)]) (.cond (tm 32)
 (.seq (.region [
 o1 33 (.mov (tm 0)),
 o1 34 (.mov (tm 1)),
 o1 35 (.mov (tm 2)),
 o1 36 (.mov (tm 4)),
 o1 37 (.callV (.func 95) [(tm 33), (tm 34), (tm 35), (tm 36)])]) .ret)
 .skip)) (.seq (.seq (.region [
 o1 38 (.mov (tm 10)),
 o1 39 (.raw (so (.unOp .not 4 (tm 38)) 4))]) (.cond (tm 39)
 (.seq (.region [
 o1 40 (.mov (tm 0)),
 o1 41 (.mov (tm 1)),
 o1 42 (.mov (tm 2)),
 o1 43 (.mov (tm 4)),
 o1 44 (.callV (.func 96) [(tm 40), (tm 41), (tm 42), (tm 43)])]) (.region [
 o1 45 (.mov (tm 3)),
 o1 46 (.bin .sub (so (.binOp .sub 3 (tm 45) (.const (.int .i64 1)) 3) 3) (tm 45) (.const (.int .i64 1))),
 o1 3 (.mov (tm 46))]))
 .skip)) (.seq (.region [
 o1 48 (.mov (tm 0)),
 o1 49 (.mov (tm 1)),
 o1 50 (.mov (tm 2)),
 o1 51 (.mov (tm 4)),
 o1 52 (.callV (.func 97) [(tm 48), (tm 49), (tm 50), (tm 51)]),
 o1 47 (.mov (tm 52)),
 o1 53 (.extract 0 (tm 47)),
 o1 54 (.extract 1 (tm 47)),
 o1 13 (.mov (tm 53)),
 o1 14 (.mov (tm 54))]) (.seq (.seq (.region [
 o1 55 (.mov (tm 14)),
 o1 56 (.bin .eql (so (.binOp .eql 150 (tm 55) (.const (.int .i64 2)) 150) 4) (tm 55) (.const (.int .i64 2)))]) (.cond (tm 56)
 (.seq (.region [
 o1 57 (.mov (tm 0)),
 o1 58 (.mov (tm 1)),
 o1 59 (.mov (tm 2)),
 o1 60 (.mov (tm 4)),
 o1 61 (.callV (.func 98) [(tm 57), (tm 58), (tm 59), (tm 60)])]) (.seq (.region [
 o1 62 (.mov (tm 2)),
 o1 63 (.bin .sub (so (.binOp .sub 3 (tm 62) (.const (.int .i64 1)) 3) 3) (tm 62) (.const (.int .i64 1))),
 o1 64 (.mov (tm 13)),
 o1 65 (.mov (tm 1)),
 o1 66 (.bin .sub (so (.binOp .sub 3 (tm 64) (tm 65) 3) 3) (tm 64) (tm 65)),
 o1 67 (.bin .sub (so (.binOp .sub 3 (tm 63) (tm 66) 3) 3) (tm 63) (tm 66)),
 o1 13 (.mov (tm 67))]) (.region [
 o1 14 (.mov (.const (.int .i64 1)))])))
 .skip)) (.seq (.seq (.region [
 o1 68 (.mov (tm 10)),
 o1 69 (.mov (tm 68)),
 o4 70 (.mov (tm 11)) 69,
 o1 71 (.pick (tm 69) (tm 70) (.const (.bool false))),
 o1 72 (.mov (tm 71)),
 o4 73 (.mov (tm 14)) 72,
 o4 74 (.bin .eql (so (.binOp .eql 150 (tm 73) (.const (.int .i64 1)) 150) 4) (tm 73) (.const (.int .i64 1))) 72,
 o1 75 (.pick (tm 72) (tm 74) (.const (.bool false)))]) (.cond (tm 75)
 (.seq (.region [
 o1 76 (.mov (tm 0)),
 o1 77 (.mov (tm 1)),
 o1 78 (.mov (tm 2)),
 o1 79 (.mov (tm 4)),
 o1 80 (.callV (.func 99) [(tm 76), (tm 77), (tm 78), (tm 79)])]) (.cond (tm 80)
 .ret
 .skip))
 .skip)) (.seq (.seq (.regionD [
 o2 81 (.mov (tm 1)),
 o2 82 (.bin .gtr (so (.binOp .gtr 3 (tm 81) k0 3) 4) (tm 81) k0),
 o2 83 (.mov (tm 82)),
 o4 84 (.mov (tm 4)) 83,
 o4 85 (.mov (tm 0)) 83,
 o4 86 (.mov (tm 1)) 83,
 o4 87 (.bin .sub (so (.binOp .sub 3 (tm 86) (.const (.int .i64 1)) 3) 3) (tm 86) (.const (.int .i64 1))) 83,
 o4 88 (.indexSl 37 (tm 85) (tm 87)) 83,
 o4 89 (.load (some 37) (tm 88)) 83,
 o4 90 (.mov (tm 0)) 83,
 o4 91 (.mov (tm 13)) 83,
 o4 92 (.indexSl 37 (tm 90) (tm 91)) 83,
 o4 93 (.load (some 37) (tm 92)) 83,
 ⟨some 94, .callV (tm 84) [(tm 89), (tm 93)], some (83, true), [], true⟩,
 ⟨some 95, .bin .lss (so (.binOp .lss 3 (tm 94) k0 3) 4) (tm 94) k0, some (83, true), [], true⟩,
 ⟨some 96, .raw (so (.unOp .not 4 (tm 95)) 4), some (83, true), [], true⟩,
 o2 97 (.pick (tm 83) (tm 96) (.const (.bool false)))]) (.cond (tm 97)
 (.seq (.region [
 o1 98 (.mov (tm 0)),
 o1 99 (.mov (tm 1)),
 o1 100 (.mov (tm 2)),
 o1 101 (.mov (tm 13)),
 o1 102 (.mov (tm 4)),
 o1 103 (.callV (.func 100) [(tm 98), (tm 99), (tm 100), (tm 101), (tm 102)]),
 o1 15 (.mov (tm 103))]) (.seq (.region [
 o1 104 (.mov (tm 15)),
 o1 1 (.mov (tm 104))]) (.exit 1)))
 .skip)) (.seq (.region [
 o1 106 (.mov (tm 0)),
 o1 107 (.mov (tm 1)),
 o1 108 (.mov (tm 2)),
 o1 109 (.mov (tm 13)),
 o1 110 (.mov (tm 4)),
 o1 111 (.callV (.func 101) [(tm 106), (tm 107), (tm 108), (tm 109), (tm 110)]),
 o1 105 (.mov (tm 111)),
 o1 112 (.extract 0 (tm 105)),
 o1 113 (.extract 1 (tm 105)),
 o1 16 (.mov (tm 112)),
 o1 17 (.mov (tm 113))]) (.seq (.region [
 o1 114 (.mov (tm 17)),
 o1 11 (.mov (tm 114))]) (.seq (.region [
 o1 115 (.mov (tm 16)),
 o1 116 (.mov (tm 1)),
 o1 117 (.bin .sub (so (.binOp .sub 3 (tm 115) (tm 116) 3) 3) (tm 115) (tm 116)),
 o1 118 (.mov (tm 2)),
 o1 119 (.mov (tm 16)),
 o1 120 (.bin .sub (so (.binOp .sub 3 (tm 118) (tm 119) 3) 3) (tm 118) (tm 119)),
 o1 18 (.mov (tm 117)),
 o1 19 (.mov (tm 120))]) (.seq (.region [
 o1 121 (.mov (tm 12)),
 o1 122 (.bin .quo (so (.binOp .quo 3 (tm 121) (.const (.int .i64 8)) 3) 3) (tm 121) (.const (.int .i64 8))),
 o1 20 (.mov (tm 122))]) (.seq (.region [
 o1 123 (.mov (tm 18)),
 o1 124 (.mov (tm 19)),
 o1 125 (.bin .lss (so (.binOp .lss 3 (tm 123) (tm 124) 3) 4) (tm 123) (tm 124))]) (.cond (tm 125)
 (.seq (.region [
 o1 126 (.mov (tm 18)),
 o1 127 (.mov (tm 20)),
 o1 128 (.bin .geq (so (.binOp .geq 3 (tm 126) (tm 127) 3) 4) (tm 126) (tm 127)),
 o1 10 (.mov (tm 128))]) (.seq (.region [
 o1 129 (.mov (tm 0)),
 o1 130 (.mov (tm 1)),
 o1 131 (.mov (tm 16)),
 o1 132 (.mov (tm 3)),
 o1 133 (.mov (tm 4)),
 o1 134 (.callV (.func 92) [(tm 129), (tm 130), (tm 131), (tm 132), (tm 133)])]) (.region [
 o1 135 (.mov (tm 16)),
 o1 136 (.bin .add (so (.binOp .add 3 (tm 135) (.const (.int .i64 1)) 3) 3) (tm 135) (.const (.int .i64 1))),
 o1 1 (.mov (tm 136))])))
 (.seq (.region [
 o1 137 (.mov (tm 19)),
 o1 138 (.mov (tm 20)),
 o1 139 (.bin .geq (so (.binOp .geq 3 (tm 137) (tm 138) 3) 4) (tm 137) (tm 138)),
 o1 10 (.mov (tm 139))]) (.seq (.region [
 o1 140 (.mov (tm 0)),
 o1 141 (.mov (tm 16)),
 o1 142 (.bin .add (so (.binOp .add 3 (tm 141) (.const (.int .i64 1)) 3) 3) (tm 141) (.const (.int .i64 1))),
 o1 143 (.mov (tm 2)),
 o1 144 (.mov (tm 3)),
 o1 145 (.mov (tm 4)),
 o1 146 (.callV (.func 92) [(tm 140), (tm 142), (tm 143), (tm 144), (tm 145)])]) (.region [
 o1 147 (.mov (tm 16)),
 o1 2 (.mov (tm 147))]))))))))))))))))))
def zqcQ_c : ACode :=
 (.seq (.region [
 o1 10 (.mov (.const (.bool true)))]) (.seq (.region [
 o1 11 (.mov (.const (.bool true)))]) (.block 0 (.loop zqcQ_l0))))
def zqcQ : AFunc := ⟨148, [], zqcQ_c, none⟩
theorem zqcQ_t0 : tableOf Try.prog 92 = some zqcQ := by kernel_rfl
theorem zqcQ_t : T0 92 = some zqcQ := withKept_t rfl (withTrue_t rfl zqcQ_t0)
theorem zqcQ_runs {v0 v1 v2 v3 v4 : Value} {h : Heap} {R : RP} {X : XP} (k : RunC Try.prog T0 zqcQ_c ⟨[v0, v1, v2, v3, v4, U, U, U, U, U, U, U, U, U, U, U, U, U, U, U, U, U, U, U, U, U, U, U, U, U, U, U, U, U, U, U, U, U, U, U, U, U, U, U, U, U, U, U, U, U, U, U, U, U, U, U, U, U, U, U, U, U, U, U, U, U, U, U, U, U, U, U, U, U, U, U, U, U, U, U, U, U, U, U, U, U, U, U, U, U, U, U, U, U, U, U, U, U, U, U, U, U, U, U, U, U, U, U, U, U, U, U, U, U, U, U, U, U, U, U, U, U, U, U, U, U, U, U, U, U, U, U, U, U, U, U, U, U, U, U, U, U, U, U, U, U, U, U], [], h, none⟩ (bodyQ Try.prog T0 [] R X)) :
 Runs Try.prog T0 (.fn 92) [v0, v1, v2, v3, v4] h R X := Runs.fn zqcQ_t rfl k
abbrev zqcQ_l0_M : List Nat := [0, 2, 2, 2, 0, 0, 0, 0, 0, 0, 2, 2, 1, 1, 1, 1, 1, 1, 1, 1, 1, 1, 1, 1, 1, 1, 1, 1, 1, 1, 1, 1, 1, 1, 1, 1, 1, 1, 1, 1, 1, 1, 1, 1, 1, 1, 1, 1, 1, 1, 1, 1, 1, 1, 1, 1, 1, 1, 1, 1, 1, 1, 1, 1, 1, 1, 1, 1, 1, 1, 1, 1, 1, 1, 1, 1, 1, 1, 1, 1, 1, 1, 1, 1, 1, 1, 1, 1, 1, 1, 1, 1, 1, 1, 1, 1, 1, 1, 1, 1, 1, 1, 1, 1, 1, 1, 1, 1, 1, 1, 1, 1, 1, 1, 1, 1, 1, 1, 1, 1, 1, 1, 1, 1, 1, 1, 1, 1, 1, 1, 1, 1, 1, 1, 1, 1, 1, 1, 1, 1, 1, 1, 1, 1, 1, 1, 1, 1]
abbrev fn_zibQ : FuncId := 93
def zibQ_c : ACode :=
 (.seq (.region [
 o1 2 (.mov k0)]) (.seq (.cond (.const (.bool false))
 (.seq (.region [
 o1 3 (.mov (tm 0)),
 o1 4 (.conv .u32 (so (.convert 135 158 (tm 3)) 158) (tm 3)),
 o1 5 (.callV (.func 102) [(tm 4)]),
 o1 2 (.mov (tm 5))]) .ret)
 .skip) (.seq (.region [
 o1 6 (.mov (tm 0)),
 o1 7 (.callV (.func 103) [(tm 6)]),
 o1 2 (.mov (tm 7))]) .ret)))
def zibQ : AFunc := ⟨8, [(2, none)], zibQ_c, none⟩
theorem zibQ_t0 : tableOf Try.prog 93 = some zibQ := by kernel_rfl
theorem zibQ_t : T0 93 = some zibQ := withKept_t rfl (withTrue_t rfl zibQ_t0)
theorem zibQ_runs {v0 : Value} {h : Heap} {R : RP} {X : XP} (k : RunC Try.prog T0 zibQ_c ⟨[v0, U, U, U, U, U, U, U], [], h, none⟩ (bodyQ Try.prog T0 [(2, none)] R X)) :
 Runs Try.prog T0 (.fn 93) [v0] h R X := Runs.fn zibQ_t rfl k
abbrev fn_zicQ : FuncId := 94
def zicQ_l0 : ACode :=
 (.seq (.seq (.regionD [
 o1 18 (.mov (tm 9)),
 o1 19 (.mov (tm 1)),
 o2 20 (.bin .gtr (so (.binOp .gtr 3 (tm 18) (tm 19) 3) 4) (tm 18) (tm 19)),
 o2 21 (.mov (tm 20)),
 o4 22 (.mov (tm 3)) 21,
 o4 23 (.mov (tm 0)) 21,
 o4 24 (.mov (tm 9)) 21,
 o4 25 (.indexSl 37 (tm 23) (tm 24)) 21,
 o4 26 (.load (some 37) (tm 25)) 21,
 o4 27 (.mov (tm 0)) 21,
 o4 28 (.mov (tm 9)) 21,
 o4 29 (.bin .sub (so (.binOp .sub 3 (tm 28) (.const (.int .i64 1)) 3) 3) (tm 28) (.const (.int .i64 1))) 21,
 o4 30 (.indexSl 37 (tm 27) (tm 29)) 21,
 o4 31 (.load (some 37) (tm 30)) 21,
 ⟨some 32, .callV (tm 22) [(tm 26), (tm 31)], some (21, true), [], true⟩,
 ⟨some 33, .bin .lss (so (.binOp .lss 3 (tm 32) k0 3) 4) (tm 32) k0, some (21, true), [], true⟩,
 o2 34 (.pick (tm 21) (tm 33) (.const (.bool false)))]) (.cond (tm 34)
 .skip
 (.exit 2))) (.seq (.block 3 (.regionD [
 o1 37 (.mov (tm 0)),
 o1 38 (.mov (tm 9)),
 o1 39 (.mov (tm 0)),
 o1 40 (.mov (tm 9)),
 o1 41 (.bin .sub (so (.binOp .sub 3 (tm 40) (.const (.int .i64 1)) 3) 3) (tm 40) (.const (.int .i64 1))),
 o1 42 (.mov (tm 0)),
 o1 43 (.mov (tm 9)),
 o1 44 (.bin .sub (so (.binOp .sub 3 (tm 43) (.const (.int .i64 1)) 3) 3) (tm 43) (.const (.int .i64 1))),
 o1 45 (.indexSl 37 (tm 42) (tm 44)),
 o1 46 (.load (some 37) (tm 45)),
 o1 47 (.mov (tm 0)),
 o1 48 (.mov (tm 9)),
 o1 49 (.indexSl 37 (tm 47) (tm 48)),
 o1 50 (.load (some 37) (tm 49)),
 o1 51 (.indexSl 37 (tm 37) (tm 38)),
 ⟨none, .store 37 (tm 51) (tm 46), none, [(some 41, .bin .sub (so (.binOp .sub 3 (tm 40) (.const (.int .i64 1)) 3) 3) (tm 40) (.const (.int .i64 1)), none), (some 40, .mov (tm 9), none), (some 39, .mov (tm 0), none)], false⟩,
 o2 52 (.indexSl 37 (tm 39) (tm 41)),
 ⟨none, .store 37 (tm 52) (tm 50), none, [], true⟩])) (.region [
 o1 35 (.mov (tm 9)),
 o1 36 (.bin .sub (so (.binOp .sub 3 (tm 35) (.const (.int .i64 1)) 3) 3) (tm 35) (.const (.int .i64 1))),
 o1 9 (.mov (tm 36))])))
def zicQ_l1 : ACode :=
 (.seq (.seq (.region [
 o1 12 (.mov (tm 8)),
 o1 13 (.mov (tm 2)),
 o1 14 (.bin .lss (so (.binOp .lss 3 (tm 12) (tm 13) 3) 4) (tm 12) (tm 13))]) (.cond (tm 14)
 .skip
 (.exit 0))) (.seq (.block 1 (.seq (.region [
 o1 17 (.mov (tm 8)),
 o1 9 (.mov (tm 17))]) (.block 2 (.loop zicQ_l0)))) (.region [
 o1 15 (.mov (tm 8)),
 o1 16 (.bin .add (so (.binOp .add 3 (tm 15) (.const (.int .i64 1)) 3) 3) (tm 15) (.const (.int .i64 1))),
 o1 8 (.mov (tm 16))])))
def zicQ_c : ACode :=
 (.seq (.region [
 o1 10 (.mov (tm 1)),
 o1 11 (.bin .add (so (.binOp .add 3 (tm 10) (.const (.int .i64 1)) 3) 3) (tm 10) (.const (.int .i64 1))),
 o1 8 (.mov (tm 11))]) (.block 0 (.loop zicQ_l1)))
def zicQ : AFunc := ⟨53, [], zicQ_c, none⟩
theorem zicQ_t0 : tableOf Try.prog 94 = some zicQ := by kernel_rfl
theorem zicQ_t : T0 94 = some zicQ := withKept_t rfl (withTrue_t rfl zicQ_t0)
theorem zicQ_runs {v0 v1 v2 v3 : Value} {h : Heap} {R : RP} {X : XP} (k : RunC Try.prog T0 zicQ_c ⟨[v0, v1, v2, v3, U, U, U, U, U, U, U, U, U, U, U, U, U, U, U, U, U, U, U, U, U, U, U, U, U, U, U, U, U, U, U, U, U, U, U, U, U, U, U, U, U, U, U, U, U, U, U, U, U], [], h, none⟩ (bodyQ Try.prog T0 [] R X)) :
 Runs Try.prog T0 (.fn 94) [v0, v1, v2, v3] h R X := Runs.fn zicQ_t rfl k
abbrev zicQ_l0_M : List Nat := [0, 0, 0, 0, 0, 0, 0, 0, 0, 2, 0, 0, 0, 0, 0, 0, 0, 0, 1, 1, 1, 1, 1, 1, 1, 1, 1, 1, 1, 1, 1, 1, 1, 1, 1, 1, 1, 1, 1, 1, 1, 1, 1, 1, 1, 1, 1, 1, 1, 1, 1, 1, 1]
abbrev zicQ_l1_M : List Nat := [0, 0, 0, 0, 0, 0, 0, 0, 2, 1, 0, 0, 1, 1, 1, 1, 1, 1, 1, 1, 1, 1, 1, 1, 1, 1, 1, 1, 1, 1, 1, 1, 1, 1, 1, 1, 1, 1, 1, 1, 1, 1, 1, 1, 1, 1, 1, 1, 1, 1, 1, 1, 1]
abbrev fn_zhcQ : FuncId := 95
def zhcQ_l0 : ACode :=
 (.seq (.seq (.region [
 o1 20 (.mov (tm 11)),
 o1 21 (.bin .geq (so (.binOp .geq 3 (tm 20) k0 3) 4) (tm 20) k0)]) (.cond (tm 21)
 .skip
 (.exit 0))) (.seq (.block 1 (.region [
 o1 24 (.mov (tm 0)),
 o1 25 (.mov (tm 11)),
 o1 26 (.mov (tm 10)),
 o1 27 (.mov (tm 8)),
 o1 28 (.mov (tm 3)),
 o1 29 (.callV (.func 104) [(tm 24), (tm 25), (tm 26), (tm 27), (tm 28)])])) (.region [
 o1 22 (.mov (tm 11)),
 o1 23 (.bin .sub (so (.binOp .sub 3 (tm 22) (.const (.int .i64 1)) 3) 3) (tm 22) (.const (.int .i64 1))),
 o1 11 (.mov (tm 23))])))
def zhcQ_l1 : ACode :=
 (.seq (.seq (.region [
 o1 32 (.mov (tm 12)),
 o1 33 (.bin .geq (so (.binOp .geq 3 (tm 32) k0 3) 4) (tm 32) k0)]) (.cond (tm 33)
 .skip
 (.exit 2))) (.seq (.block 3 (.seq (.regionD [
 o1 36 (.mov (tm 0)),
 o1 37 (.mov (tm 8)),
 o1 38 (.mov (tm 0)),
 o1 39 (.mov (tm 8)),
 o1 40 (.mov (tm 12)),
 o1 41 (.bin .add (so (.binOp .add 3 (tm 39) (tm 40) 3) 3) (tm 39) (tm 40)),
 o1 42 (.mov (tm 0)),
 o1 43 (.mov (tm 8)),
 o1 44 (.mov (tm 12)),
 o1 45 (.bin .add (so (.binOp .add 3 (tm 43) (tm 44) 3) 3) (tm 43) (tm 44)),
 o1 46 (.indexSl 37 (tm 42) (tm 45)),
 o1 47 (.load (some 37) (tm 46)),
 o1 48 (.mov (tm 0)),
 o1 49 (.mov (tm 8)),
 o1 50 (.indexSl 37 (tm 48) (tm 49)),
 o1 51 (.load (some 37) (tm 50)),
 o1 52 (.indexSl 37 (tm 36) (tm 37)),
 ⟨none, .store 37 (tm 52) (tm 47), none, [(some 41, .bin .add (so (.binOp .add 3 (tm 39) (tm 40) 3) 3) (tm 39) (tm 40), none), (some 40, .mov (tm 12), none), (some 39, .mov (tm 8), none), (some 38, .mov (tm 0), none)], false⟩,
 o2 53 (.indexSl 37 (tm 38) (tm 41)),
 ⟨none, .store 37 (tm 53) (tm 51), none, [], true⟩]) (.region [
 o1 54 (.mov (tm 0)),
 o1 55 (.mov (tm 9)),
 o1 56 (.mov (tm 12)),
 o1 57 (.mov (tm 8)),
 o1 58 (.mov (tm 3)),
 o1 59 (.callV (.func 104) [(tm 54), (tm 55), (tm 56), (tm 57), (tm 58)])]))) (.region [
 o1 34 (.mov (tm 12)),
 o1 35 (.bin .sub (so (.binOp .sub 3 (tm 34) (.const (.int .i64 1)) 3) 3) (tm 34) (.const (.int .i64 1))),
 o1 12 (.mov (tm 35))])))
def zhcQ_c : ACode :=
 (.seq (.region [
 o1 13 (.mov (tm 1)),
 o1 8 (.mov (tm 13))]) (.seq (.region [
 o1 9 (.mov k0)]) (.seq (.region [
 o1 14 (.mov (tm 2)),
 o1 15 (.mov (tm 1)),
 o1 16 (.bin .sub (so (.binOp .sub 3 (tm 14) (tm 15) 3) 3) (tm 14) (tm 15)),
 o1 10 (.mov (tm 16))]) (.seq (.seq (.region [
 o1 17 (.mov (tm 10)),
 o1 18 (.bin .sub (so (.binOp .sub 3 (tm 17) (.const (.int .i64 1)) 3) 3) (tm 17) (.const (.int .i64 1))),
 o1 19 (.bin .quo (so (.binOp .quo 3 (tm 18) (.const (.int .i64 2)) 3) 3) (tm 18) (.const (.int .i64 2))),
 o1 11 (.mov (tm 19))]) (.block 0 (.loop zhcQ_l0))) (.seq (.region [
 o1 30 (.mov (tm 10)),
 o1 31 (.bin .sub (so (.binOp .sub 3 (tm 30) (.const (.int .i64 1)) 3) 3) (tm 30) (.const (.int .i64 1))),
 o1 12 (.mov (tm 31))]) (.block 2 (.loop zhcQ_l1)))))))
def zhcQ : AFunc := ⟨60, [], zhcQ_c, none⟩
theorem zhcQ_t0 : tableOf Try.prog 95 = some zhcQ := by kernel_rfl
theorem zhcQ_t : T0 95 = some zhcQ := withKept_t rfl (withTrue_t rfl zhcQ_t0)
theorem zhcQ_runs {v0 v1 v2 v3 : Value} {h : Heap} {R : RP} {X : XP} (k : RunC Try.prog T0 zhcQ_c ⟨[v0, v1, v2, v3, U, U, U, U, U, U, U, U, U, U, U, U, U, U, U, U, U, U, U, U, U, U, U, U, U, U, U, U, U, U, U, U, U, U, U, U, U, U, U, U, U, U, U, U, U, U, U, U, U, U, U, U, U, U, U, U], [], h, none⟩ (bodyQ Try.prog T0 [] R X)) :
 Runs Try.prog T0 (.fn 95) [v0, v1, v2, v3] h R X := Runs.fn zhcQ_t rfl k
abbrev zhcQ_l0_M : List Nat := [0, 0, 0, 0, 0, 0, 0, 0, 0, 0, 0, 2, 0, 0, 0, 0, 0, 0, 0, 0, 1, 1, 1, 1, 1, 1, 1, 1, 1, 1, 0, 0, 0, 0, 0, 0, 0, 0, 0, 0, 0, 0, 0, 0, 0, 0, 0, 0, 0, 0, 0, 0, 0, 0, 0, 0, 0, 0, 0, 0]
abbrev zhcQ_l1_M : List Nat := [0, 0, 0, 0, 0, 0, 0, 0, 0, 0, 0, 0, 2, 0, 0, 0, 0, 0, 0, 0, 0, 0, 0, 0, 0, 0, 0, 0, 0, 0, 0, 0, 1, 1, 1, 1, 1, 1, 1, 1, 1, 1, 1, 1, 1, 1, 1, 1, 1, 1, 1, 1, 1, 1, 1, 1, 1, 1, 1, 1]
abbrev fn_zfcQ : FuncId := 96
def zfcQ_l0 : ACode :=
 (.seq (.seq (.region [
 o1 28 (.mov (tm 11)),
 o1 29 (.mov (tm 1)),
 o1 30 (.mov (tm 8)),
 o1 31 (.bin .quo (so (.binOp .quo 3 (tm 30) (.const (.int .i64 4)) 3) 3) (tm 30) (.const (.int .i64 4))),
 o1 32 (.bin .mul (so (.binOp .mul 3 (tm 31) (.const (.int .i64 2)) 3) 3) (tm 31) (.const (.int .i64 2))),
 o1 33 (.bin .add (so (.binOp .add 3 (tm 29) (tm 32) 3) 3) (tm 29) (tm 32)),
 o1 34 (.bin .add (so (.binOp .add 3 (tm 33) (.const (.int .i64 1)) 3) 3) (tm 33) (.const (.int .i64 1))),
 o1 35 (.bin .leq (so (.binOp .leq 3 (tm 28) (tm 34) 3) 4) (tm 28) (tm 34))]) (.cond (tm 35)
 .skip
 (.exit 0))) (.seq (.block 1 (.seq (.region [
 o1 38 (.callV (.func 106) [(tm 9)]),
 o1 39 (.mov (tm 10)),
 o1 40 (.bin .sub (so (.binOp .sub 135 (tm 39) (.const (.int .u64 1)) 135) 135) (tm 39) (.const (.int .u64 1))),
 o1 41 (.bin .and (so (.binOp .and 135 (tm 38) (tm 40) 135) 135) (tm 38) (tm 40)),
 o1 42 (.conv .i64 (so (.convert 135 3 (tm 41)) 3) (tm 41)),
 o1 12 (.mov (tm 42))]) (.seq (.seq (.region [
 o1 43 (.mov (tm 12)),
 o1 44 (.mov (tm 8)),
 o1 45 (.bin .geq (so (.binOp .geq 3 (tm 43) (tm 44) 3) 4) (tm 43) (tm 44))]) (.cond (tm 45)
 (.region [
 o1 46 (.mov (tm 12)),
 o1 47 (.mov (tm 8)),
 o1 48 (.bin .sub (so (.binOp .sub 3 (tm 46) (tm 47) 3) 3) (tm 46) (tm 47)),
 o1 12 (.mov (tm 48))])
 .skip)) (.regionD [
 o1 49 (.mov (tm 0)),
 o1 50 (.mov (tm 11)),
 o1 51 (.mov (tm 0)),
 o1 52 (.mov (tm 1)),
 o1 53 (.mov (tm 12)),
 o1 54 (.bin .add (so (.binOp .add 3 (tm 52) (tm 53) 3) 3) (tm 52) (tm 53)),
 o1 55 (.mov (tm 0)),
 o1 56 (.mov (tm 1)),
 o1 57 (.mov (tm 12)),
 o1 58 (.bin .add (so (.binOp .add 3 (tm 56) (tm 57) 3) 3) (tm 56) (tm 57)),
 o1 59 (.indexSl 37 (tm 55) (tm 58)),
 o1 60 (.load (some 37) (tm 59)),
 o1 61 (.mov (tm 0)),
 o1 62 (.mov (tm 11)),
 o1 63 (.indexSl 37 (tm 61) (tm 62)),
 o1 64 (.load (some 37) (tm 63)),
 o1 65 (.indexSl 37 (tm 49) (tm 50)),
 ⟨none, .store 37 (tm 65) (tm 60), none, [(some 54, .bin .add (so (.binOp .add 3 (tm 52) (tm 53) 3) 3) (tm 52) (tm 53), none), (some 53, .mov (tm 12), none), (some 52, .mov (tm 1), none), (some 51, .mov (tm 0), none)], false⟩,
 o2 66 (.indexSl 37 (tm 51) (tm 54)),
 ⟨none, .store 37 (tm 66) (tm 64), none, [], true⟩])))) (.region [
 o1 36 (.mov (tm 11)),
 o1 37 (.bin .add (so (.binOp .add 3 (tm 36) (.const (.int .i64 1)) 3) 3) (tm 36) (.const (.int .i64 1))),
 o1 11 (.mov (tm 37))])))
def zfcQ_c : ACode :=
 (.seq (.region [
 o1 13 (.mov (tm 2)),
 o1 14 (.mov (tm 1)),
 o1 15 (.bin .sub (so (.binOp .sub 3 (tm 13) (tm 14) 3) 3) (tm 13) (tm 14)),
 o1 8 (.mov (tm 15))]) (.seq (.region [
 o1 16 (.mov (tm 8)),
 o1 17 (.bin .geq (so (.binOp .geq 3 (tm 16) (.const (.int .i64 8)) 3) 4) (tm 16) (.const (.int .i64 8)))]) (.cond (tm 17)
 (.seq (.region [
 o1 18 (.mov (tm 8)),
 o1 19 (.conv .u64 (so (.convert 3 160 (tm 18)) 160) (tm 18)),
 o1 9 (.alloc 160 [(.int .u64 0)]),
 o3 (.store 1 (tm 9) (tm 19))]) (.seq (.region [
 o1 20 (.mov (tm 8)),
 o1 21 (.callV (.func 105) [(tm 20)]),
 o1 10 (.mov (tm 21))]) (.seq (.region [
 o1 22 (.mov (tm 1)),
 o1 23 (.mov (tm 8)),
 o1 24 (.bin .quo (so (.binOp .quo 3 (tm 23) (.const (.int .i64 4)) 3) 3) (tm 23) (.const (.int .i64 4))),
 o1 25 (.bin .mul (so (.binOp .mul 3 (tm 24) (.const (.int .i64 2)) 3) 3) (tm 24) (.const (.int .i64 2))),
 o1 26 (.bin .add (so (.binOp .add 3 (tm 22) (tm 25) 3) 3) (tm 22) (tm 25)),
 o1 27 (.bin .sub (so (.binOp .sub 3 (tm 26) (.const (.int .i64 1)) 3) 3) (tm 26) (.const (.int .i64 1))),
 o1 11 (.mov (tm 27))]) (.block 0 (.loop zfcQ_l0)))))
 .skip)))
def zfcQ : AFunc := ⟨67, [], zfcQ_c, none⟩
theorem zfcQ_t0 : tableOf Try.prog 96 = some zfcQ := by kernel_rfl
theorem zfcQ_t : T0 96 = some zfcQ := withKept_t rfl (withTrue_t rfl zfcQ_t0)
theorem zfcQ_runs {v0 v1 v2 v3 : Value} {h : Heap} {R : RP} {X : XP} (k : RunC Try.prog T0 zfcQ_c ⟨[v0, v1, v2, v3, U, U, U, U, U, U, U, U, U, U, U, U, U, U, U, U, U, U, U, U, U, U, U, U, U, U, U, U, U, U, U, U, U, U, U, U, U, U, U, U, U, U, U, U, U, U, U, U, U, U, U, U, U, U, U, U, U, U, U, U, U, U, U], [], h, none⟩ (bodyQ Try.prog T0 [] R X)) :
 Runs Try.prog T0 (.fn 96) [v0, v1, v2, v3] h R X := Runs.fn zfcQ_t rfl k
abbrev zfcQ_l0_M : List Nat := [0, 0, 0, 0, 0, 0, 0, 0, 0, 0, 0, 2, 1, 0, 0, 0, 0, 0, 0, 0, 0, 0, 0, 0, 0, 0, 0, 0, 1, 1, 1, 1, 1, 1, 1, 1, 1, 1, 1, 1, 1, 1, 1, 1, 1, 1, 1, 1, 1, 1, 1, 1, 1, 1, 1, 1, 1, 1, 1, 1, 1, 1, 1, 1, 1, 1, 1]
abbrev fn_zgcQ : FuncId := 97
def zgcQ_c : ACode :=
 (.seq (.region [
 o1 8 (.mov k0),
 o1 9 (.mov k0)]) (.seq (.region [
 o1 15 (.mov (tm 2)),
 o1 16 (.mov (tm 1)),
 o1 17 (.bin .sub (so (.binOp .sub 3 (tm 15) (tm 16) 3) 3) (tm 15) (tm 16)),
 o1 10 (.mov (tm 17))]) (.seq (.region [
 o1 11 (.alloc 3 [(.int .i64 0)])]) (.seq (.region [
 o1 18 (.mov (tm 1)),
 o1 19 (.mov (tm 10)),
 o1 20 (.bin .quo (so (.binOp .quo 3 (tm 19) (.const (.int .i64 4)) 3) 3) (tm 19) (.const (.int .i64 4))),
 o1 21 (.bin .mul (so (.binOp .mul 3 (tm 20) (.const (.int .i64 1)) 3) 3) (tm 20) (.const (.int .i64 1))),
 o1 22 (.bin .add (so (.binOp .add 3 (tm 18) (tm 21) 3) 3) (tm 18) (tm 21)),
 o1 12 (.mov (tm 22))]) (.seq (.region [
 o1 23 (.mov (tm 1)),
 o1 24 (.mov (tm 10)),
 o1 25 (.bin .quo (so (.binOp .quo 3 (tm 24) (.const (.int .i64 4)) 3) 3) (tm 24) (.const (.int .i64 4))),
 o1 26 (.bin .mul (so (.binOp .mul 3 (tm 25) (.const (.int .i64 2)) 3) 3) (tm 25) (.const (.int .i64 2))),
 o1 27 (.bin .add (so (.binOp .add 3 (tm 23) (tm 26) 3) 3) (tm 23) (tm 26)),
 o1 13 (.mov (tm 27))]) (.seq (.region [
 o1 28 (.mov (tm 1)),
 o1 29 (.mov (tm 10)),
 o1 30 (.bin .quo (so (.binOp .quo 3 (tm 29) (.const (.int .i64 4)) 3) 3) (tm 29) (.const (.int .i64 4))),
 o1 31 (.bin .mul (so (.binOp .mul 3 (tm 30) (.const (.int .i64 3)) 3) 3) (tm 30) (.const (.int .i64 3))),
 o1 32 (.bin .add (so (.binOp .add 3 (tm 28) (tm 31) 3) 3) (tm 28) (tm 31)),
 o1 14 (.mov (tm 32))]) (.seq (.seq (.region [
 o1 33 (.mov (tm 10)),
 o1 34 (.bin .geq (so (.binOp .geq 3 (tm 33) (.const (.int .i64 8)) 3) 4) (tm 33) (.const (.int .i64 8)))]) (.cond (tm 34)
 (.seq (.seq (.region [
 o1 35 (.mov (tm 10)),
 o1 36 (.bin .geq (so (.binOp .geq 3 (tm 35) (.const (.int .i64 50)) 3) 4) (tm 35) (.const (.int .i64 50)))]) (.cond (tm 36)
 (.seq (.region [
 o1 37 (.mov (tm 0)),
 o1 38 (.mov (tm 12)),
 o1 39 (.mov (tm 3)),
 o1 40 (.callV (.func 107) [(tm 37), (tm 38), (tm 11), (tm 39)]),
 o1 12 (.mov (tm 40))]) (.seq (.region [
 o1 41 (.mov (tm 0)),
 o1 42 (.mov (tm 13)),
 o1 43 (.mov (tm 3)),
 o1 44 (.callV (.func 107) [(tm 41), (tm 42), (tm 11), (tm 43)]),
 o1 13 (.mov (tm 44))]) (.region [
 o1 45 (.mov (tm 0)),
 o1 46 (.mov (tm 14)),
 o1 47 (.mov (tm 3)),
 o1 48 (.callV (.func 107) [(tm 45), (tm 46), (tm 11), (tm 47)]),
 o1 14 (.mov (tm 48))])))
 .skip)) (.region [
 o1 49 (.mov (tm 0)),
 o1 50 (.mov (tm 12)),
 o1 51 (.mov (tm 13)),
 o1 52 (.mov (tm 14)),
 o1 53 (.mov (tm 3)),
 o1 54 (.callV (.func 108) [(tm 49), (tm 50), (tm 51), (tm 52), (tm 11), (tm 53)]),
 o1 13 (.mov (tm 54))]))
 .skip)) (.seq (.region [
 o1 55 (.load none (tm 11))]) (.block 0 (.seq (.region [
 o1 58 (.bin .eql (so (.binOp .eql 3 (tm 55) k0 3) 4) (tm 55) k0),
 o1 57 (.mov (tm 58))]) (.cond (tm 57)
 (.seq (.region [
 o1 59 (.mov (tm 13)),
 o1 8 (.mov (tm 59)),
 o1 9 (.mov (.const (.int .i64 1)))]) .ret)
 (.seq (.region [
 o1 61 (.bin .eql (so (.binOp .eql 3 (tm 55) (.const (.int .i64 12)) 3) 4) (tm 55) (.const (.int .i64 12))),
 o1 60 (.mov (tm 61))]) (.cond (tm 60)
 (.seq (.region [
 o1 62 (.mov (tm 13)),
 o1 8 (.mov (tm 62)),
 o1 9 (.mov (.const (.int .i64 2)))]) .ret)
 (.seq (.region [
 o1 56 (.mov (tm 13)),
 o1 8 (.mov (tm 56)),
 o1 9 (.mov k0)]) .ret))))))))))))))
def zgcQ : AFunc := ⟨63, [(8, none), (9, none)], zgcQ_c, none⟩
theorem zgcQ_t0 : tableOf Try.prog 97 = some zgcQ := by kernel_rfl
theorem zgcQ_t : T0 97 = some zgcQ := withKept_t rfl (withTrue_t rfl zgcQ_t0)
theorem zgcQ_runs {v0 v1 v2 v3 : Value} {h : Heap} {R : RP} {X : XP} (k : RunC Try.prog T0 zgcQ_c ⟨[v0, v1, v2, v3, U, U, U, U, U, U, U, U, U, U, U, U, U, U, U, U, U, U, U, U, U, U, U, U, U, U, U, U, U, U, U, U, U, U, U, U, U, U, U, U, U, U, U, U, U, U, U, U, U, U, U, U, U, U, U, U, U, U, U], [], h, none⟩ (bodyQ Try.prog T0 [(8, none), (9, none)] R X)) :
 Runs Try.prog T0 (.fn 97) [v0, v1, v2, v3] h R X := Runs.fn zgcQ_t rfl k
abbrev fn_zrcQ : FuncId := 98
def zrcQ_l0 : ACode :=
 (.seq (.seq (.region [
 o1 13 (.mov (tm 8)),
 o1 14 (.mov (tm 9)),
 o1 15 (.bin .lss (so (.binOp .lss 3 (tm 13) (tm 14) 3) 4) (tm 13) (tm 14))]) (.cond (tm 15)
 .skip
 (.exit 0))) (.block 1 (.seq (.regionD [
 o1 16 (.mov (tm 0)),
 o1 17 (.mov (tm 8)),
 o1 18 (.mov (tm 0)),
 o1 19 (.mov (tm 9)),
 o1 20 (.mov (tm 0)),
 o1 21 (.mov (tm 9)),
 o1 22 (.indexSl 37 (tm 20) (tm 21)),
 o1 23 (.load (some 37) (tm 22)),
 o1 24 (.mov (tm 0)),
 o1 25 (.mov (tm 8)),
 o1 26 (.indexSl 37 (tm 24) (tm 25)),
 o1 27 (.load (some 37) (tm 26)),
 o1 28 (.indexSl 37 (tm 16) (tm 17)),
 ⟨none, .store 37 (tm 28) (tm 23), none, [(some 19, .mov (tm 9), none), (some 18, .mov (tm 0), none)], false⟩,
 o2 29 (.indexSl 37 (tm 18) (tm 19)),
 ⟨none, .store 37 (tm 29) (tm 27), none, [], true⟩]) (.seq (.region [
 o1 30 (.mov (tm 8)),
 o1 31 (.bin .add (so (.binOp .add 3 (tm 30) (.const (.int .i64 1)) 3) 3) (tm 30) (.const (.int .i64 1))),
 o1 8 (.mov (tm 31))]) (.region [
 o1 32 (.mov (tm 9)),
 o1 33 (.bin .sub (so (.binOp .sub 3 (tm 32) (.const (.int .i64 1)) 3) 3) (tm 32) (.const (.int .i64 1))),
 o1 9 (.mov (tm 33))])))))
def zrcQ_c : ACode :=
 (.seq (.region [
 o1 10 (.mov (tm 1)),
 o1 8 (.mov (tm 10))]) (.seq (.region [
 o1 11 (.mov (tm 2)),
 o1 12 (.bin .sub (so (.binOp .sub 3 (tm 11) (.const (.int .i64 1)) 3) 3) (tm 11) (.const (.int .i64 1))),
 o1 9 (.mov (tm 12))]) (.block 0 (.loop zrcQ_l0))))
def zrcQ : AFunc := ⟨34, [], zrcQ_c, none⟩
theorem zrcQ_t0 : tableOf Try.prog 98 = some zrcQ := by kernel_rfl
theorem zrcQ_t : T0 98 = some zrcQ := withKept_t rfl (withTrue_t rfl zrcQ_t0)
theorem zrcQ_runs {v0 v1 v2 v3 : Value} {h : Heap} {R : RP} {X : XP} (k : RunC Try.prog T0 zrcQ_c ⟨[v0, v1, v2, v3, U, U, U, U, U, U, U, U, U, U, U, U, U, U, U, U, U, U, U, U, U, U, U, U, U, U, U, U, U, U], [], h, none⟩ (bodyQ Try.prog T0 [] R X)) :
 Runs Try.prog T0 (.fn 98) [v0, v1, v2, v3] h R X := Runs.fn zrcQ_t rfl k
abbrev zrcQ_l0_M : List Nat := [0, 0, 0, 0, 0, 0, 0, 0, 2, 2, 0, 0, 0, 1, 1, 1, 1, 1, 1, 1, 1, 1, 1, 1, 1, 1, 1, 1, 1, 1, 1, 1, 1, 1]
abbrev fn_zncQ : FuncId := 99
def zncQ_l0 : ACode :=
 (.seq (.seq (.regionD [
 o1 19 (.mov (tm 9)),
 o1 20 (.mov (tm 2)),
 o2 21 (.bin .lss (so (.binOp .lss 3 (tm 19) (tm 20) 3) 4) (tm 19) (tm 20)),
 o2 22 (.mov (tm 21)),
 o4 23 (.mov (tm 3)) 22,
 o4 24 (.mov (tm 0)) 22,
 o4 25 (.mov (tm 9)) 22,
 o4 26 (.indexSl 37 (tm 24) (tm 25)) 22,
 o4 27 (.load (some 37) (tm 26)) 22,
 o4 28 (.mov (tm 0)) 22,
 o4 29 (.mov (tm 9)) 22,
 o4 30 (.bin .sub (so (.binOp .sub 3 (tm 29) (.const (.int .i64 1)) 3) 3) (tm 29) (.const (.int .i64 1))) 22,
 o4 31 (.indexSl 37 (tm 28) (tm 30)) 22,
 o4 32 (.load (some 37) (tm 31)) 22,
 ⟨some 33, .callV (tm 23) [(tm 27), (tm 32)], some (22, true), [], true⟩,
 ⟨some 34, .bin .lss (so (.binOp .lss 3 (tm 33) k0 3) 4) (tm 33) k0, some (22, true), [], true⟩,
 ⟨some 35, .raw (so (.unOp .not 4 (tm 34)) 4), some (22, true), [], true⟩,
 o2 36 (.pick (tm 22) (tm 35) (.const (.bool false)))]) (.cond (tm 36)
 .skip
 (.exit 2))) (.block 3 (.region [
 o1 37 (.mov (tm 9)),
 o1 38 (.bin .add (so (.binOp .add 3 (tm 37) (.const (.int .i64 1)) 3) 3) (tm 37) (.const (.int .i64 1))),
 o1 9 (.mov (tm 38))])))
def zncQ_l1 : ACode :=
 (.seq (.seq (.region [
 o1 68 (.mov (tm 11)),
 o1 69 (.bin .geq (so (.binOp .geq 3 (tm 68) (.const (.int .i64 1)) 3) 4) (tm 68) (.const (.int .i64 1)))]) (.cond (tm 69)
 .skip
 (.exit 4))) (.seq (.block 5 (.seq (.seq (.regionD [
 o1 72 (.mov (tm 3)),
 o1 73 (.mov (tm 0)),
 o1 74 (.mov (tm 11)),
 o1 75 (.indexSl 37 (tm 73) (tm 74)),
 o1 76 (.load (some 37) (tm 75)),
 o1 77 (.mov (tm 0)),
 o1 78 (.mov (tm 11)),
 o1 79 (.bin .sub (so (.binOp .sub 3 (tm 78) (.const (.int .i64 1)) 3) 3) (tm 78) (.const (.int .i64 1))),
 o1 80 (.indexSl 37 (tm 77) (tm 79)),
 o1 81 (.load (some 37) (tm 80)),
 o2 82 (.callV (tm 72) [(tm 76), (tm 81)]),
 o2 83 (.bin .lss (so (.binOp .lss 3 (tm 82) k0 3) 4) (tm 82) k0),
 o2 84 (.raw (so (.unOp .not 4 (tm 83)) 4))]) (.cond (tm 84)
 (.exit 4)
 .skip)) (.regionD [
 o1 85 (.mov (tm 0)),
 o1 86 (.mov (tm 11)),
 o1 87 (.mov (tm 0)),
 o1 88 (.mov (tm 11)),
 o1 89 (.bin .sub (so (.binOp .sub 3 (tm 88) (.const (.int .i64 1)) 3) 3) (tm 88) (.const (.int .i64 1))),
 o1 90 (.mov (tm 0)),
 o1 91 (.mov (tm 11)),
 o1 92 (.bin .sub (so (.binOp .sub 3 (tm 91) (.const (.int .i64 1)) 3) 3) (tm 91) (.const (.int .i64 1))),
 o1 93 (.indexSl 37 (tm 90) (tm 92)),
 o1 94 (.load (some 37) (tm 93)),
 o1 95 (.mov (tm 0)),
 o1 96 (.mov (tm 11)),
 o1 97 (.indexSl 37 (tm 95) (tm 96)),
 o1 98 (.load (some 37) (tm 97)),
 o1 99 (.indexSl 37 (tm 85) (tm 86)),
 ⟨none, .store 37 (tm 99) (tm 94), none, [(some 89, .bin .sub (so (.binOp .sub 3 (tm 88) (.const (.int .i64 1)) 3) 3) (tm 88) (.const (.int .i64 1)), none), (some 88, .mov (tm 11), none), (some 87, .mov (tm 0), none)], false⟩,
 o2 100 (.indexSl 37 (tm 87) (tm 89)),
 ⟨none, .store 37 (tm 100) (tm 98), none, [], true⟩]))) (.region [
 o1 70 (.mov (tm 11)),
 o1 71 (.bin .sub (so (.binOp .sub 3 (tm 70) (.const (.int .i64 1)) 3) 3) (tm 70) (.const (.int .i64 1))),
 o1 11 (.mov (tm 71))])))
def zncQ_l2 : ACode :=
 (.seq (.seq (.region [
 o1 107 (.mov (tm 12)),
 o1 108 (.mov (tm 2)),
 o1 109 (.bin .lss (so (.binOp .lss 3 (tm 107) (tm 108) 3) 4) (tm 107) (tm 108))]) (.cond (tm 109)
 .skip
 (.exit 6))) (.seq (.block 7 (.seq (.seq (.regionD [
 o1 112 (.mov (tm 3)),
 o1 113 (.mov (tm 0)),
 o1 114 (.mov (tm 12)),
 o1 115 (.indexSl 37 (tm 113) (tm 114)),
 o1 116 (.load (some 37) (tm 115)),
 o1 117 (.mov (tm 0)),
 o1 118 (.mov (tm 12)),
 o1 119 (.bin .sub (so (.binOp .sub 3 (tm 118) (.const (.int .i64 1)) 3) 3) (tm 118) (.const (.int .i64 1))),
 o1 120 (.indexSl 37 (tm 117) (tm 119)),
 o1 121 (.load (some 37) (tm 120)),
 o2 122 (.callV (tm 112) [(tm 116), (tm 121)]),
 o2 123 (.bin .lss (so (.binOp .lss 3 (tm 122) k0 3) 4) (tm 122) k0),
 o2 124 (.raw (so (.unOp .not 4 (tm 123)) 4))]) (.cond (tm 124)
 (.exit 6)
 .skip)) (.regionD [
 o1 125 (.mov (tm 0)),
 o1 126 (.mov (tm 12)),
 o1 127 (.mov (tm 0)),
 o1 128 (.mov (tm 12)),
 o1 129 (.bin .sub (so (.binOp .sub 3 (tm 128) (.const (.int .i64 1)) 3) 3) (tm 128) (.const (.int .i64 1))),
 o1 130 (.mov (tm 0)),
 o1 131 (.mov (tm 12)),
 o1 132 (.bin .sub (so (.binOp .sub 3 (tm 131) (.const (.int .i64 1)) 3) 3) (tm 131) (.const (.int .i64 1))),
 o1 133 (.indexSl 37 (tm 130) (tm 132)),
 o1 134 (.load (some 37) (tm 133)),
 o1 135 (.mov (tm 0)),
 o1 136 (.mov (tm 12)),
 o1 137 (.indexSl 37 (tm 135) (tm 136)),
 o1 138 (.load (some 37) (tm 137)),
 o1 139 (.indexSl 37 (tm 125) (tm 126)),
 ⟨none, .store 37 (tm 139) (tm 134), none, [(some 129, .bin .sub (so (.binOp .sub 3 (tm 128) (.const (.int .i64 1)) 3) 3) (tm 128) (.const (.int .i64 1)), none), (some 128, .mov (tm 12), none), (some 127, .mov (tm 0), none)], false⟩,
 o2 140 (.indexSl 37 (tm 127) (tm 129)),
 ⟨none, .store 37 (tm 140) (tm 138), none, [], true⟩]))) (.region [
 o1 110 (.mov (tm 12)),
 o1 111 (.bin .add (so (.binOp .add 3 (tm 110) (.const (.int .i64 1)) 3) 3) (tm 110) (.const (.int .i64 1))),
 o1 12 (.mov (tm 111))])))
def zncQ_l3 : ACode :=
 (.seq (.seq (.region [
 o1 15 (.mov (tm 10)),
 o1 16 (.bin .lss (so (.binOp .lss 3 (tm 15) (.const (.int .i64 5)) 3) 4) (tm 15) (.const (.int .i64 5)))]) (.cond (tm 16)
 .skip
 (.exit 0))) (.seq (.block 1 (.seq (.block 2 (.loop zncQ_l0)) (.seq (.seq (.region [
 o1 39 (.mov (tm 9)),
 o1 40 (.mov (tm 2)),
 o1 41 (.bin .eql (so (.binOp .eql 3 (tm 39) (tm 40) 3) 4) (tm 39) (tm 40))]) (.cond (tm 41)
 (.seq (.region [
 o1 8 (.mov (.const (.bool true)))]) .ret)
 .skip)) (.seq (.seq (.region [
 o1 42 (.mov (tm 2)),
 o1 43 (.mov (tm 1)),
 o1 44 (.bin .sub (so (.binOp .sub 3 (tm 42) (tm 43) 3) 3) (tm 42) (tm 43)),
 o1 45 (.bin .lss (so (.binOp .lss 3 (tm 44) (.const (.int .i64 50)) 3) 4) (tm 44) (.const (.int .i64 50)))]) (.cond (tm 45)
 (.seq (.region [
 o1 8 (.mov (.const (.bool false)))]) .ret)
 .skip)) (.seq (.regionD [
 o1 46 (.mov (tm 0)),
 o1 47 (.mov (tm 9)),
 o1 48 (.mov (tm 0)),
 o1 49 (.mov (tm 9)),
 o1 50 (.bin .sub (so (.binOp .sub 3 (tm 49) (.const (.int .i64 1)) 3) 3) (tm 49) (.const (.int .i64 1))),
 o1 51 (.mov (tm 0)),
 o1 52 (.mov (tm 9)),
 o1 53 (.bin .sub (so (.binOp .sub 3 (tm 52) (.const (.int .i64 1)) 3) 3) (tm 52) (.const (.int .i64 1))),
 o1 54 (.indexSl 37 (tm 51) (tm 53)),
 o1 55 (.load (some 37) (tm 54)),
 o1 56 (.mov (tm 0)),
 o1 57 (.mov (tm 9)),
 o1 58 (.indexSl 37 (tm 56) (tm 57)),
 o1 59 (.load (some 37) (tm 58)),
 o1 60 (.indexSl 37 (tm 46) (tm 47)),
 ⟨none, .store 37 (tm 60) (tm 55), none, [(some 50, .bin .sub (so (.binOp .sub 3 (tm 49) (.const (.int .i64 1)) 3) 3) (tm 49) (.const (.int .i64 1)), none), (some 49, .mov (tm 9), none), (some 48, .mov (tm 0), none)], false⟩,
 o2 61 (.indexSl 37 (tm 48) (tm 50)),
 ⟨none, .store 37 (tm 61) (tm 59), none, [], true⟩]) (.seq (.seq (.region [
 o1 62 (.mov (tm 9)),
 o1 63 (.mov (tm 1)),
 o1 64 (.bin .sub (so (.binOp .sub 3 (tm 62) (tm 63) 3) 3) (tm 62) (tm 63)),
 o1 65 (.bin .geq (so (.binOp .geq 3 (tm 64) (.const (.int .i64 2)) 3) 4) (tm 64) (.const (.int .i64 2)))]) (.cond (tm 65)
 (.seq (.region [
 o1 66 (.mov (tm 9)),
 o1 67 (.bin .sub (so (.binOp .sub 3 (tm 66) (.const (.int .i64 1)) 3) 3) (tm 66) (.const (.int .i64 1))),
 o1 11 (.mov (tm 67))]) (.block 4 (.loop zncQ_l1)))
 .skip)) (.seq (.region [
 o1 101 (.mov (tm 2)),
 o1 102 (.mov (tm 9)),
 o1 103 (.bin .sub (so (.binOp .sub 3 (tm 101) (tm 102) 3) 3) (tm 101) (tm 102)),
 o1 104 (.bin .geq (so (.binOp .geq 3 (tm 103) (.const (.int .i64 2)) 3) 4) (tm 103) (.const (.int .i64 2)))]) (.cond (tm 104)
 (.seq (.region [
 o1 105 (.mov (tm 9)),
 o1 106 (.bin .add (so (.binOp .add 3 (tm 105) (.const (.int .i64 1)) 3) 3) (tm 105) (.const (.int .i64 1))),
 o1 12 (.mov (tm 106))]) (.block 6 (.loop zncQ_l2)))
 .skip)))))))) (.region [
 o1 17 (.mov (tm 10)),
 o1 18 (.bin .add (so (.binOp .add 3 (tm 17) (.const (.int .i64 1)) 3) 3) (tm 17) (.const (.int .i64 1))),
 o1 10 (.mov (tm 18))])))
def zncQ_c : ACode :=
 (.seq (.region [
 o1 8 (.mov (.const (.bool false)))]) (.seq (.region [
 o1 13 (.mov (tm 1)),
 o1 14 (.bin .add (so (.binOp .add 3 (tm 13) (.const (.int .i64 1)) 3) 3) (tm 13) (.const (.int .i64 1))),
 o1 9 (.mov (tm 14))]) (.seq (.seq (.region [
 o1 10 (.mov k0)]) (.block 0 (.loop zncQ_l3))) (.seq (.region [
 o1 8 (.mov (.const (.bool false)))]) .ret))))
def zncQ : AFunc := ⟨141, [(8, none)], zncQ_c, none⟩
theorem zncQ_t0 : tableOf Try.prog 99 = some zncQ := by kernel_rfl
theorem zncQ_t : T0 99 = some zncQ := withKept_t rfl (withTrue_t rfl zncQ_t0)
theorem zncQ_runs {v0 v1 v2 v3 : Value} {h : Heap} {R : RP} {X : XP} (k : RunC Try.prog T0 zncQ_c ⟨[v0, v1, v2, v3, U, U, U, U, U, U, U, U, U, U, U, U, U, U, U, U, U, U, U, U, U, U, U, U, U, U, U, U, U, U, U, U, U, U, U, U, U, U, U, U, U, U, U, U, U, U, U, U, U, U, U, U, U, U, U, U, U, U, U, U, U, U, U, U, U, U, U, U, U, U, U, U, U, U, U, U, U, U, U, U, U, U, U, U, U, U, U, U, U, U, U, U, U, U, U, U, U, U, U, U, U, U, U, U, U, U, U, U, U, U, U, U, U, U, U, U, U, U, U, U, U, U, U, U, U, U, U, U, U, U, U, U, U, U, U, U, U], [], h, none⟩ (bodyQ Try.prog T0 [(8, none)] R X)) :
 Runs Try.prog T0 (.fn 99) [v0, v1, v2, v3] h R X := Runs.fn zncQ_t rfl k
abbrev zncQ_l0_M : List Nat := [0, 0, 0, 0, 0, 0, 0, 0, 0, 2, 0, 0, 0, 0, 0, 0, 0, 0, 0, 1, 1, 1, 1, 1, 1, 1, 1, 1, 1, 1, 1, 1, 1, 1, 1, 1, 1, 1, 1, 0, 0, 0, 0, 0, 0, 0, 0, 0, 0, 0, 0, 0, 0, 0, 0, 0, 0, 0, 0, 0, 0, 0, 0, 0, 0, 0, 0, 0, 0, 0, 0, 0, 0, 0, 0, 0, 0, 0, 0, 0, 0, 0, 0, 0, 0, 0, 0, 0, 0, 0, 0, 0, 0, 0, 0, 0, 0, 0, 0, 0, 0, 0, 0, 0, 0, 0, 0, 0, 0, 0, 0, 0, 0, 0, 0, 0, 0, 0, 0, 0, 0, 0, 0, 0, 0, 0, 0, 0, 0, 0, 0, 0, 0, 0, 0, 0, 0, 0, 0, 0, 0]
abbrev zncQ_l1_M : List Nat := [0, 0, 0, 0, 0, 0, 0, 0, 0, 0, 0, 2, 0, 0, 0, 0, 0, 0, 0, 0, 0, 0, 0, 0, 0, 0, 0, 0, 0, 0, 0, 0, 0, 0, 0, 0, 0, 0, 0, 0, 0, 0, 0, 0, 0, 0, 0, 0, 0, 0, 0, 0, 0, 0, 0, 0, 0, 0, 0, 0, 0, 0, 0, 0, 0, 0, 0, 0, 1, 1, 1, 1, 1, 1, 1, 1, 1, 1, 1, 1, 1, 1, 1, 1, 1, 1, 1, 1, 1, 1, 1, 1, 1, 1, 1, 1, 1, 1, 1, 1, 1, 0, 0, 0, 0, 0, 0, 0, 0, 0, 0, 0, 0, 0, 0, 0, 0, 0, 0, 0, 0, 0, 0, 0, 0, 0, 0, 0, 0, 0, 0, 0, 0, 0, 0, 0, 0, 0, 0, 0, 0]
abbrev zncQ_l2_M : List Nat := [0, 0, 0, 0, 0, 0, 0, 0, 0, 0, 0, 0, 2, 0, 0, 0, 0, 0, 0, 0, 0, 0, 0, 0, 0, 0, 0, 0, 0, 0, 0, 0, 0, 0, 0, 0, 0, 0, 0, 0, 0, 0, 0, 0, 0, 0, 0, 0, 0, 0, 0, 0, 0, 0, 0, 0, 0, 0, 0, 0, 0, 0, 0, 0, 0, 0, 0, 0, 0, 0, 0, 0, 0, 0, 0, 0, 0, 0, 0, 0, 0, 0, 0, 0, 0, 0, 0, 0, 0, 0, 0, 0, 0, 0, 0, 0, 0, 0, 0, 0, 0, 0, 0, 0, 0, 0, 0, 1, 1, 1, 1, 1, 1, 1, 1, 1, 1, 1, 1, 1, 1, 1, 1, 1, 1, 1, 1, 1, 1, 1, 1, 1, 1, 1, 1, 1, 1, 1, 1, 1, 1]
abbrev zncQ_l3_M : List Nat := [0, 0, 0, 0, 0, 0, 0, 0, 1, 2, 2, 1, 1, 0, 0, 1, 1, 1, 1, 1, 1, 1, 1, 1, 1, 1, 1, 1, 1, 1, 1, 1, 1, 1, 1, 1, 1, 1, 1, 1, 1, 1, 1, 1, 1, 1, 1, 1, 1, 1, 1, 1, 1, 1, 1, 1, 1, 1, 1, 1, 1, 1, 1, 1, 1, 1, 1, 1, 1, 1, 1, 1, 1, 1, 1, 1, 1, 1, 1, 1, 1, 1, 1, 1, 1, 1, 1, 1, 1, 1, 1, 1, 1, 1, 1, 1, 1, 1, 1, 1, 1, 1, 1, 1, 1, 1, 1, 1, 1, 1, 1, 1, 1, 1, 1, 1, 1, 1, 1, 1, 1, 1, 1, 1, 1, 1, 1, 1, 1, 1, 1, 1, 1, 1, 1, 1, 1, 1, 1, 1, 1]
def zpcQ_l0 : ACode :=
 (.seq (.seq (.regionD [
 o1 31 (.mov (tm 11)),
 o1 32 (.mov (tm 12)),
 o2 33 (.bin .leq (so (.binOp .leq 3 (tm 31) (tm 32) 3) 4) (tm 31) (tm 32)),
 o2 34 (.mov (tm 33)),
 o4 35 (.mov (tm 4)) 34,
 o4 36 (.mov (tm 0)) 34,
 o4 37 (.mov (tm 1)) 34,
 o4 38 (.indexSl 37 (tm 36) (tm 37)) 34,
 o4 39 (.load (some 37) (tm 38)) 34,
 o4 40 (.mov (tm 0)) 34,
 o4 41 (.mov (tm 11)) 34,
 o4 42 (.indexSl 37 (tm 40) (tm 41)) 34,
 o4 43 (.load (some 37) (tm 42)) 34,
 ⟨some 44, .callV (tm 35) [(tm 39), (tm 43)], some (34, true), [], true⟩,
 ⟨some 45, .bin .lss (so (.binOp .lss 3 (tm 44) k0 3) 4) (tm 44) k0, some (34, true), [], true⟩,
 ⟨some 46, .raw (so (.unOp .not 4 (tm 45)) 4), some (34, true), [], true⟩,
 o2 47 (.pick (tm 34) (tm 46) (.const (.bool false)))]) (.cond (tm 47)
 .skip
 (.exit 2))) (.block 3 (.region [
 o1 48 (.mov (tm 11)),
 o1 49 (.bin .add (so (.binOp .add 3 (tm 48) (.const (.int .i64 1)) 3) 3) (tm 48) (.const (.int .i64 1))),
 o1 11 (.mov (tm 49))])))
def zpcQ_l1 : ACode :=
 (.seq (.seq (.regionD [
 o1 50 (.mov (tm 11)),
 o1 51 (.mov (tm 12)),
 o2 52 (.bin .leq (so (.binOp .leq 3 (tm 50) (tm 51) 3) 4) (tm 50) (tm 51)),
 o2 53 (.mov (tm 52)),
 o4 54 (.mov (tm 4)) 53,
 o4 55 (.mov (tm 0)) 53,
 o4 56 (.mov (tm 1)) 53,
 o4 57 (.indexSl 37 (tm 55) (tm 56)) 53,
 o4 58 (.load (some 37) (tm 57)) 53,
 o4 59 (.mov (tm 0)) 53,
 o4 60 (.mov (tm 12)) 53,
 o4 61 (.indexSl 37 (tm 59) (tm 60)) 53,
 o4 62 (.load (some 37) (tm 61)) 53,
 ⟨some 63, .callV (tm 54) [(tm 58), (tm 62)], some (53, true), [], true⟩,
 ⟨some 64, .bin .lss (so (.binOp .lss 3 (tm 63) k0 3) 4) (tm 63) k0, some (53, true), [], true⟩,
 o2 65 (.pick (tm 53) (tm 64) (.const (.bool false)))]) (.cond (tm 65)
 .skip
 (.exit 4))) (.block 5 (.region [
 o1 66 (.mov (tm 12)),
 o1 67 (.bin .sub (so (.binOp .sub 3 (tm 66) (.const (.int .i64 1)) 3) 3) (tm 66) (.const (.int .i64 1))),
 o1 12 (.mov (tm 67))])))
def zpcQ_l2 : ACode :=
 (.block 1 (.seq (.block 2 (.loop zpcQ_l0)) (.seq (.block 4 (.loop zpcQ_l1)) (.seq (.seq (.region [
 o1 68 (.mov (tm 11)),
 o1 69 (.mov (tm 12)),
 o1 70 (.bin .gtr (so (.binOp .gtr 3 (tm 68) (tm 69) 3) 4) (tm 68) (tm 69))]) (.cond (tm 70)
 (.exit 0)
 .skip)) (.seq (.regionD [
 o1 71 (.mov (tm 0)),
 o1 72 (.mov (tm 11)),
 o1 73 (.mov (tm 0)),
 o1 74 (.mov (tm 12)),
 o1 75 (.mov (tm 0)),
 o1 76 (.mov (tm 12)),
 o1 77 (.indexSl 37 (tm 75) (tm 76)),
 o1 78 (.load (some 37) (tm 77)),
 o1 79 (.mov (tm 0)),
 o1 80 (.mov (tm 11)),
 o1 81 (.indexSl 37 (tm 79) (tm 80)),
 o1 82 (.load (some 37) (tm 81)),
 o1 83 (.indexSl 37 (tm 71) (tm 72)),
 ⟨none, .store 37 (tm 83) (tm 78), none, [(some 74, .mov (tm 12), none), (some 73, .mov (tm 0), none)], false⟩,
 o2 84 (.indexSl 37 (tm 73) (tm 74)),
 ⟨none, .store 37 (tm 84) (tm 82), none, [], true⟩]) (.seq (.region [
 o1 85 (.mov (tm 11)),
 o1 86 (.bin .add (so (.binOp .add 3 (tm 85) (.const (.int .i64 1)) 3) 3) (tm 85) (.const (.int .i64 1))),
 o1 11 (.mov (tm 86))]) (.region [
 o1 87 (.mov (tm 12)),
 o1 88 (.bin .sub (so (.binOp .sub 3 (tm 87) (.const (.int .i64 1)) 3) 3) (tm 87) (.const (.int .i64 1))),
 o1 12 (.mov (tm 88))])))))))
def zpcQ_c : ACode :=
 (.seq (.region [
 o1 10 (.mov k0)]) (.seq (.regionD [
 o1 13 (.mov (tm 0)),
 o1 14 (.mov (tm 1)),
 o1 15 (.mov (tm 0)),
 o1 16 (.mov (tm 3)),
 o1 17 (.mov (tm 0)),
 o1 18 (.mov (tm 3)),
 o1 19 (.indexSl 37 (tm 17) (tm 18)),
 o1 20 (.load (some 37) (tm 19)),
 o1 21 (.mov (tm 0)),
 o1 22 (.mov (tm 1)),
 o1 23 (.indexSl 37 (tm 21) (tm 22)),
 o1 24 (.load (some 37) (tm 23)),
 o1 25 (.indexSl 37 (tm 13) (tm 14)),
 ⟨none, .store 37 (tm 25) (tm 20), none, [(some 16, .mov (tm 3), none), (some 15, .mov (tm 0), none)], false⟩,
 o2 26 (.indexSl 37 (tm 15) (tm 16)),
 ⟨none, .store 37 (tm 26) (tm 24), none, [], true⟩]) (.seq (.region [
 o1 27 (.mov (tm 1)),
 o1 28 (.bin .add (so (.binOp .add 3 (tm 27) (.const (.int .i64 1)) 3) 3) (tm 27) (.const (.int .i64 1))),
 o1 29 (.mov (tm 2)),
 o1 30 (.bin .sub (so (.binOp .sub 3 (tm 29) (.const (.int .i64 1)) 3) 3) (tm 29) (.const (.int .i64 1))),
 o1 11 (.mov (tm 28)),
 o1 12 (.mov (tm 30))]) (.seq (.block 0 (.loop zpcQ_l2)) (.seq (.region [
 o1 89 (.mov (tm 11)),
 o1 10 (.mov (tm 89))]) .ret)))))
def zpcQ : AFunc := ⟨90, [(10, none)], zpcQ_c, none⟩
theorem zpcQ_t0 : tableOf Try.prog 100 = some zpcQ := by kernel_rfl
abbrev fn_zocQ : FuncId := 101
def zocQ_l0 : ACode :=
 (.seq (.seq (.regionD [
 o1 32 (.mov (tm 12)),
 o1 33 (.mov (tm 13)),
 o2 34 (.bin .leq (so (.binOp .leq 3 (tm 32) (tm 33) 3) 4) (tm 32) (tm 33)),
 o2 35 (.mov (tm 34)),
 o4 36 (.mov (tm 4)) 35,
 o4 37 (.mov (tm 0)) 35,
 o4 38 (.mov (tm 12)) 35,
 o4 39 (.indexSl 37 (tm 37) (tm 38)) 35,
 o4 40 (.load (some 37) (tm 39)) 35,
 o4 41 (.mov (tm 0)) 35,
 o4 42 (.mov (tm 1)) 35,
 o4 43 (.indexSl 37 (tm 41) (tm 42)) 35,
 o4 44 (.load (some 37) (tm 43)) 35,
 ⟨some 45, .callV (tm 36) [(tm 40), (tm 44)], some (35, true), [], true⟩,
 ⟨some 46, .bin .lss (so (.binOp .lss 3 (tm 45) k0 3) 4) (tm 45) k0, some (35, true), [], true⟩,
 o2 47 (.pick (tm 35) (tm 46) (.const (.bool false)))]) (.cond (tm 47)
 .skip
 (.exit 0))) (.block 1 (.region [
 o1 48 (.mov (tm 12)),
 o1 49 (.bin .add (so (.binOp .add 3 (tm 48) (.const (.int .i64 1)) 3) 3) (tm 48) (.const (.int .i64 1))),
 o1 12 (.mov (tm 49))])))
def zocQ_l1 : ACode :=
 (.seq (.seq (.regionD [
 o1 50 (.mov (tm 12)),
 o1 51 (.mov (tm 13)),
 o2 52 (.bin .leq (so (.binOp .leq 3 (tm 50) (tm 51) 3) 4) (tm 50) (tm 51)),
 o2 53 (.mov (tm 52)),
 o4 54 (.mov (tm 4)) 53,
 o4 55 (.mov (tm 0)) 53,
 o4 56 (.mov (tm 13)) 53,
 o4 57 (.indexSl 37 (tm 55) (tm 56)) 53,
 o4 58 (.load (some 37) (tm 57)) 53,
 o4 59 (.mov (tm 0)) 53,
 o4 60 (.mov (tm 1)) 53,
 o4 61 (.indexSl 37 (tm 59) (tm 60)) 53,
 o4 62 (.load (some 37) (tm 61)) 53,
 ⟨some 63, .callV (tm 54) [(tm 58), (tm 62)], some (53, true), [], true⟩,
 ⟨some 64, .bin .lss (so (.binOp .lss 3 (tm 63) k0 3) 4) (tm 63) k0, some (53, true), [], true⟩,
 ⟨some 65, .raw (so (.unOp .not 4 (tm 64)) 4), some (53, true), [], true⟩,
 o2 66 (.pick (tm 53) (tm 65) (.const (.bool false)))]) (.cond (tm 66)
 .skip
 (.exit 2))) (.block 3 (.region [
 o1 67 (.mov (tm 13)),
 o1 68 (.bin .sub (so (.binOp .sub 3 (tm 67) (.const (.int .i64 1)) 3) 3) (tm 67) (.const (.int .i64 1))),
 o1 13 (.mov (tm 68))])))
def zocQ_l2 : ACode :=
 (.seq (.seq (.regionD [
 o1 105 (.mov (tm 12)),
 o1 106 (.mov (tm 13)),
 o2 107 (.bin .leq (so (.binOp .leq 3 (tm 105) (tm 106) 3) 4) (tm 105) (tm 106)),
 o2 108 (.mov (tm 107)),
 o4 109 (.mov (tm 4)) 108,
 o4 110 (.mov (tm 0)) 108,
 o4 111 (.mov (tm 12)) 108,
 o4 112 (.indexSl 37 (tm 110) (tm 111)) 108,
 o4 113 (.load (some 37) (tm 112)) 108,
 o4 114 (.mov (tm 0)) 108,
 o4 115 (.mov (tm 1)) 108,
 o4 116 (.indexSl 37 (tm 114) (tm 115)) 108,
 o4 117 (.load (some 37) (tm 116)) 108,
 ⟨some 118, .callV (tm 109) [(tm 113), (tm 117)], some (108, true), [], true⟩,
 ⟨some 119, .bin .lss (so (.binOp .lss 3 (tm 118) k0 3) 4) (tm 118) k0, some (108, true), [], true⟩,
 o2 120 (.pick (tm 108) (tm 119) (.const (.bool false)))]) (.cond (tm 120)
 .skip
 (.exit 6))) (.block 7 (.region [
 o1 121 (.mov (tm 12)),
 o1 122 (.bin .add (so (.binOp .add 3 (tm 121) (.const (.int .i64 1)) 3) 3) (tm 121) (.const (.int .i64 1))),
 o1 12 (.mov (tm 122))])))
def zocQ_l3 : ACode :=
 (.seq (.seq (.regionD [
 o1 123 (.mov (tm 12)),
 o1 124 (.mov (tm 13)),
 o2 125 (.bin .leq (so (.binOp .leq 3 (tm 123) (tm 124) 3) 4) (tm 123) (tm 124)),
 o2 126 (.mov (tm 125)),
 o4 127 (.mov (tm 4)) 126,
 o4 128 (.mov (tm 0)) 126,
 o4 129 (.mov (tm 13)) 126,
 o4 130 (.indexSl 37 (tm 128) (tm 129)) 126,
 o4 131 (.load (some 37) (tm 130)) 126,
 o4 132 (.mov (tm 0)) 126,
 o4 133 (.mov (tm 1)) 126,
 o4 134 (.indexSl 37 (tm 132) (tm 133)) 126,
 o4 135 (.load (some 37) (tm 134)) 126,
 ⟨some 136, .callV (tm 127) [(tm 131), (tm 135)], some (126, true), [], true⟩,
 ⟨some 137, .bin .lss (so (.binOp .lss 3 (tm 136) k0 3) 4) (tm 136) k0, some (126, true), [], true⟩,
 ⟨some 138, .raw (so (.unOp .not 4 (tm 137)) 4), some (126, true), [], true⟩,
 o2 139 (.pick (tm 126) (tm 138) (.const (.bool false)))]) (.cond (tm 139)
 .skip
 (.exit 8))) (.block 9 (.region [
 o1 140 (.mov (tm 13)),
 o1 141 (.bin .sub (so (.binOp .sub 3 (tm 140) (.const (.int .i64 1)) 3) 3) (tm 140) (.const (.int .i64 1))),
 o1 13 (.mov (tm 141))])))
def zocQ_l4 : ACode :=
 (.block 5 (.seq (.block 6 (.loop zocQ_l2)) (.seq (.block 8 (.loop zocQ_l3)) (.seq (.seq (.region [
 o1 142 (.mov (tm 12)),
 o1 143 (.mov (tm 13)),
 o1 144 (.bin .gtr (so (.binOp .gtr 3 (tm 142) (tm 143) 3) 4) (tm 142) (tm 143))]) (.cond (tm 144)
 (.exit 4)
 .skip)) (.seq (.regionD [
 o1 145 (.mov (tm 0)),
 o1 146 (.mov (tm 12)),
 o1 147 (.mov (tm 0)),
 o1 148 (.mov (tm 13)),
 o1 149 (.mov (tm 0)),
 o1 150 (.mov (tm 13)),
 o1 151 (.indexSl 37 (tm 149) (tm 150)),
 o1 152 (.load (some 37) (tm 151)),
 o1 153 (.mov (tm 0)),
 o1 154 (.mov (tm 12)),
 o1 155 (.indexSl 37 (tm 153) (tm 154)),
 o1 156 (.load (some 37) (tm 155)),
 o1 157 (.indexSl 37 (tm 145) (tm 146)),
 ⟨none, .store 37 (tm 157) (tm 152), none, [(some 148, .mov (tm 13), none), (some 147, .mov (tm 0), none)], false⟩,
 o2 158 (.indexSl 37 (tm 147) (tm 148)),
 ⟨none, .store 37 (tm 158) (tm 156), none, [], true⟩]) (.seq (.region [
 o1 159 (.mov (tm 12)),
 o1 160 (.bin .add (so (.binOp .add 3 (tm 159) (.const (.int .i64 1)) 3) 3) (tm 159) (.const (.int .i64 1))),
 o1 12 (.mov (tm 160))]) (.region [
 o1 161 (.mov (tm 13)),
 o1 162 (.bin .sub (so (.binOp .sub 3 (tm 161) (.const (.int .i64 1)) 3) 3) (tm 161) (.const (.int .i64 1))),
 o1 13 (.mov (tm 162))])))))))
def zocQ_c : ACode :=
 (.seq (.region [
 o1 10 (.mov k0),
 o1 11 (.mov (.const (.bool false)))]) (.seq (.regionD [
 o1 14 (.mov (tm 0)),
 o1 15 (.mov (tm 1)),
 o1 16 (.mov (tm 0)),
 o1 17 (.mov (tm 3)),
 o1 18 (.mov (tm 0)),
 o1 19 (.mov (tm 3)),
 o1 20 (.indexSl 37 (tm 18) (tm 19)),
 o1 21 (.load (some 37) (tm 20)),
 o1 22 (.mov (tm 0)),
 o1 23 (.mov (tm 1)),
 o1 24 (.indexSl 37 (tm 22) (tm 23)),
 o1 25 (.load (some 37) (tm 24)),
 o1 26 (.indexSl 37 (tm 14) (tm 15)),
 ⟨none, .store 37 (tm 26) (tm 21), none, [(some 17, .mov (tm 3), none), (some 16, .mov (tm 0), none)], false⟩,
 o2 27 (.indexSl 37 (tm 16) (tm 17)),
 ⟨none, .store 37 (tm 27) (tm 25), none, [], true⟩]) (.seq (.region [
 o1 28 (.mov (tm 1)),
 o1 29 (.bin .add (so (.binOp .add 3 (tm 28) (.const (.int .i64 1)) 3) 3) (tm 28) (.const (.int .i64 1))),
 o1 30 (.mov (tm 2)),
 o1 31 (.bin .sub (so (.binOp .sub 3 (tm 30) (.const (.int .i64 1)) 3) 3) (tm 30) (.const (.int .i64 1))),
 o1 12 (.mov (tm 29)),
 o1 13 (.mov (tm 31))]) (.seq (.block 0 (.loop zocQ_l0)) (.seq (.block 2 (.loop zocQ_l1)) (.seq (.seq (.region [
 o1 69 (.mov (tm 12)),
 o1 70 (.mov (tm 13)),
 o1 71 (.bin .gtr (so (.binOp .gtr 3 (tm 69) (tm 70) 3) 4) (tm 69) (tm 70))]) (.cond (tm 71)
 (.seq (.regionD [
 o1 72 (.mov (tm 0)),
 o1 73 (.mov (tm 13)),
 o1 74 (.mov (tm 0)),
 o1 75 (.mov (tm 1)),
 o1 76 (.mov (tm 0)),
 o1 77 (.mov (tm 1)),
 o1 78 (.indexSl 37 (tm 76) (tm 77)),
 o1 79 (.load (some 37) (tm 78)),
 o1 80 (.mov (tm 0)),
 o1 81 (.mov (tm 13)),
 o1 82 (.indexSl 37 (tm 80) (tm 81)),
 o1 83 (.load (some 37) (tm 82)),
 o1 84 (.indexSl 37 (tm 72) (tm 73)),
 ⟨none, .store 37 (tm 84) (tm 79), none, [(some 75, .mov (tm 1), none), (some 74, .mov (tm 0), none)], false⟩,
 o2 85 (.indexSl 37 (tm 74) (tm 75)),
 ⟨none, .store 37 (tm 85) (tm 83), none, [], true⟩]) (.seq (.region [
 o1 86 (.mov (tm 13)),
 o1 10 (.mov (tm 86)),
 o1 11 (.mov (.const (.bool true)))]) .ret))
 .skip)) (.seq (.regionD [
 o1 87 (.mov (tm 0)),
 o1 88 (.mov (tm 12)),
 o1 89 (.mov (tm 0)),
 o1 90 (.mov (tm 13)),
 o1 91 (.mov (tm 0)),
 o1 92 (.mov (tm 13)),
 o1 93 (.indexSl 37 (tm 91) (tm 92)),
 o1 94 (.load (some 37) (tm 93)),
 o1 95 (.mov (tm 0)),
 o1 96 (.mov (tm 12)),
 o1 97 (.indexSl 37 (tm 95) (tm 96)),
 o1 98 (.load (some 37) (tm 97)),
 o1 99 (.indexSl 37 (tm 87) (tm 88)),
 ⟨none, .store 37 (tm 99) (tm 94), none, [(some 90, .mov (tm 13), none), (some 89, .mov (tm 0), none)], false⟩,
 o2 100 (.indexSl 37 (tm 89) (tm 90)),
 ⟨none, .store 37 (tm 100) (tm 98), none, [], true⟩]) (.seq (.region [
 o1 101 (.mov (tm 12)),
 o1 102 (.bin .add (so (.binOp .add 3 (tm 101) (.const (.int .i64 1)) 3) 3) (tm 101) (.const (.int .i64 1))),
 o1 12 (.mov (tm 102))]) (.seq (.region [
 o1 103 (.mov (tm 13)),
 o1 104 (.bin .sub (so (.binOp .sub 3 (tm 103) (.const (.int .i64 1)) 3) 3) (tm 103) (.const (.int .i64 1))),
 o1 13 (.mov (tm 104))]) (.seq (.block 4 (.loop zocQ_l4)) (.seq (.regionD [
 o1 163 (.mov (tm 0)),
 o1 164 (.mov (tm 13)),
 o1 165 (.mov (tm 0)),
 o1 166 (.mov (tm 1)),
 o1 167 (.mov (tm 0)),
 o1 168 (.mov (tm 1)),
 o1 169 (.indexSl 37 (tm 167) (tm 168)),
 o1 170 (.load (some 37) (tm 169)),
 o1 171 (.mov (tm 0)),
 o1 172 (.mov (tm 13)),
 o1 173 (.indexSl 37 (tm 171) (tm 172)),
 o1 174 (.load (some 37) (tm 173)),
 o1 175 (.indexSl 37 (tm 163) (tm 164)),
 ⟨none, .store 37 (tm 175) (tm 170), none, [(some 166, .mov (tm 1), none), (some 165, .mov (tm 0), none)], false⟩,
 o2 176 (.indexSl 37 (tm 165) (tm 166)),
 ⟨none, .store 37 (tm 176) (tm 174), none, [], true⟩]) (.seq (.region [
 o1 177 (.mov (tm 13)),
 o1 10 (.mov (tm 177)),
 o1 11 (.mov (.const (.bool false)))]) .ret))))))))))))
def zocQ : AFunc := ⟨178, [(10, none), (11, none)], zocQ_c, none⟩
theorem zocQ_t0 : tableOf Try.prog 101 = some zocQ := by kernel_rfl
theorem zocQ_t : T0 101 = some zocQ := withKept_t rfl (withTrue_t rfl zocQ_t0)
theorem zocQ_runs {v0 v1 v2 v3 v4 : Value} {h : Heap} {R : RP} {X : XP} (k : RunC Try.prog T0 zocQ_c ⟨[v0, v1, v2, v3, v4, U, U, U, U, U, U, U, U, U, U, U, U, U, U, U, U, U, U, U, U, U, U, U, U, U, U, U, U, U, U, U, U, U, U, U, U, U, U, U, U, U, U, U, U, U, U, U, U, U, U, U, U, U, U, U, U, U, U, U, U, U, U, U, U, U, U, U, U, U, U, U, U, U, U, U, U, U, U, U, U, U, U, U, U, U, U, U, U, U, U, U, U, U, U, U, U, U, U, U, U, U, U, U, U, U, U, U, U, U, U, U, U, U, U, U, U, U, U, U, U, U, U, U, U, U, U, U, U, U, U, U, U, U, U, U, U, U, U, U, U, U, U, U, U, U, U, U, U, U, U, U, U, U, U, U, U, U, U, U, U, U, U, U, U, U, U, U, U, U, U, U, U, U], [], h, none⟩ (bodyQ Try.prog T0 [(10, none), (11, none)] R X)) :
 Runs Try.prog T0 (.fn 101) [v0, v1, v2, v3, v4] h R X := Runs.fn zocQ_t rfl k
abbrev zocQ_l0_M : List Nat := [0, 0, 0, 0, 0, 0, 0, 0, 0, 0, 0, 0, 2, 0, 0, 0, 0, 0, 0, 0, 0, 0, 0, 0, 0, 0, 0, 0, 0, 0, 0, 0, 1, 1, 1, 1, 1, 1, 1, 1, 1, 1, 1, 1, 1, 1, 1, 1, 1, 1, 0, 0, 0, 0, 0, 0, 0, 0, 0, 0, 0, 0, 0, 0, 0, 0, 0, 0, 0, 0, 0, 0, 0, 0, 0, 0, 0, 0, 0, 0, 0, 0, 0, 0, 0, 0, 0, 0, 0, 0, 0, 0, 0, 0, 0, 0, 0, 0, 0, 0, 0, 0, 0, 0, 0, 0, 0, 0, 0, 0, 0, 0, 0, 0, 0, 0, 0, 0, 0, 0, 0, 0, 0, 0, 0, 0, 0, 0, 0, 0, 0, 0, 0, 0, 0, 0, 0, 0, 0, 0, 0, 0, 0, 0, 0, 0, 0, 0, 0, 0, 0, 0, 0, 0, 0, 0, 0, 0, 0, 0, 0, 0, 0, 0, 0, 0, 0, 0, 0, 0, 0, 0, 0, 0, 0, 0, 0, 0]
abbrev zocQ_l1_M : List Nat := [0, 0, 0, 0, 0, 0, 0, 0, 0, 0, 0, 0, 0, 2, 0, 0, 0, 0, 0, 0, 0, 0, 0, 0, 0, 0, 0, 0, 0, 0, 0, 0, 0, 0, 0, 0, 0, 0, 0, 0, 0, 0, 0, 0, 0, 0, 0, 0, 0, 0, 1, 1, 1, 1, 1, 1, 1, 1, 1, 1, 1, 1, 1, 1, 1, 1, 1, 1, 1, 0, 0, 0, 0, 0, 0, 0, 0, 0, 0, 0, 0, 0, 0, 0, 0, 0, 0, 0, 0, 0, 0, 0, 0, 0, 0, 0, 0, 0, 0, 0, 0, 0, 0, 0, 0, 0, 0, 0, 0, 0, 0, 0, 0, 0, 0, 0, 0, 0, 0, 0, 0, 0, 0, 0, 0, 0, 0, 0, 0, 0, 0, 0, 0, 0, 0, 0, 0, 0, 0, 0, 0, 0, 0, 0, 0, 0, 0, 0, 0, 0, 0, 0, 0, 0, 0, 0, 0, 0, 0, 0, 0, 0, 0, 0, 0, 0, 0, 0, 0, 0, 0, 0, 0, 0, 0, 0, 0, 0]
abbrev zocQ_l2_M : List Nat := [0, 0, 0, 0, 0, 0, 0, 0, 0, 0, 0, 0, 2, 0, 0, 0, 0, 0, 0, 0, 0, 0, 0, 0, 0, 0, 0, 0, 0, 0, 0, 0, 0, 0, 0, 0, 0, 0, 0, 0, 0, 0, 0, 0, 0, 0, 0, 0, 0, 0, 0, 0, 0, 0, 0, 0, 0, 0, 0, 0, 0, 0, 0, 0, 0, 0, 0, 0, 0, 0, 0, 0, 0, 0, 0, 0, 0, 0, 0, 0, 0, 0, 0, 0, 0, 0, 0, 0, 0, 0, 0, 0, 0, 0, 0, 0, 0, 0, 0, 0, 0, 0, 0, 0, 0, 1, 1, 1, 1, 1, 1, 1, 1, 1, 1, 1, 1, 1, 1, 1, 1, 1, 1, 0, 0, 0, 0, 0, 0, 0, 0, 0, 0, 0, 0, 0, 0, 0, 0, 0, 0, 0, 0, 0, 0, 0, 0, 0, 0, 0, 0, 0, 0, 0, 0, 0, 0, 0, 0, 0, 0, 0, 0, 0, 0, 0, 0, 0, 0, 0, 0, 0, 0, 0, 0, 0, 0, 0]
abbrev zocQ_l3_M : List Nat := [0, 0, 0, 0, 0, 0, 0, 0, 0, 0, 0, 0, 0, 2, 0, 0, 0, 0, 0, 0, 0, 0, 0, 0, 0, 0, 0, 0, 0, 0, 0, 0, 0, 0, 0, 0, 0, 0, 0, 0, 0, 0, 0, 0, 0, 0, 0, 0, 0, 0, 0, 0, 0, 0, 0, 0, 0, 0, 0, 0, 0, 0, 0, 0, 0, 0, 0, 0, 0, 0, 0, 0, 0, 0, 0, 0, 0, 0, 0, 0, 0, 0, 0, 0, 0, 0, 0, 0, 0, 0, 0, 0, 0, 0, 0, 0, 0, 0, 0, 0, 0, 0, 0, 0, 0, 0, 0, 0, 0, 0, 0, 0, 0, 0, 0, 0, 0, 0, 0, 0, 0, 0, 0, 1, 1, 1, 1, 1, 1, 1, 1, 1, 1, 1, 1, 1, 1, 1, 1, 1, 1, 1, 0, 0, 0, 0, 0, 0, 0, 0, 0, 0, 0, 0, 0, 0, 0, 0, 0, 0, 0, 0, 0, 0, 0, 0, 0, 0, 0, 0, 0, 0, 0, 0, 0, 0, 0, 0]
abbrev zocQ_l4_M : List Nat := [0, 0, 0, 0, 0, 0, 0, 0, 0, 0, 0, 0, 2, 2, 0, 0, 0, 0, 0, 0, 0, 0, 0, 0, 0, 0, 0, 0, 0, 0, 0, 0, 0, 0, 0, 0, 0, 0, 0, 0, 0, 0, 0, 0, 0, 0, 0, 0, 0, 0, 0, 0, 0, 0, 0, 0, 0, 0, 0, 0, 0, 0, 0, 0, 0, 0, 0, 0, 0, 0, 0, 0, 0, 0, 0, 0, 0, 0, 0, 0, 0, 0, 0, 0, 0, 0, 0, 0, 0, 0, 0, 0, 0, 0, 0, 0, 0, 0, 0, 0, 0, 0, 0, 0, 0, 1, 1, 1, 1, 1, 1, 1, 1, 1, 1, 1, 1, 1, 1, 1, 1, 1, 1, 1, 1, 1, 1, 1, 1, 1, 1, 1, 1, 1, 1, 1, 1, 1, 1, 1, 1, 1, 1, 1, 1, 1, 1, 1, 1, 1, 1, 1, 1, 1, 1, 1, 1, 1, 1, 1, 1, 1, 1, 0, 0, 0, 0, 0, 0, 0, 0, 0, 0, 0, 0, 0, 0, 0]
def zjbQ_c : ACode :=
 (.seq (.region [
 o1 2 (.mov k0)]) (.seq (.seq (.region [
 o1 3 (.mov (tm 0)),
 o1 4 (.bin .geq (so (.binOp .geq 158 (tm 3) (.const (.int .u32 65536)) 158) 4) (tm 3) (.const (.int .u32 65536)))]) (.cond (tm 4)
 (.seq (.region [
 o1 5 (.mov (tm 0)),
 o1 6 (.bin .shr (so (.binOp .shr 158 (tm 5) (.const (.int .u64 16)) 135) 158) (tm 5) (.const (.int .u64 16))),
 o1 0 (.mov (tm 6))]) (.region [
 o1 2 (.mov (.const (.int .i64 16)))]))
 .skip)) (.seq (.seq (.region [
 o1 7 (.mov (tm 0)),
 o1 8 (.bin .geq (so (.binOp .geq 158 (tm 7) (.const (.int .u32 256)) 158) 4) (tm 7) (.const (.int .u32 256)))]) (.cond (tm 8)
 (.seq (.region [
 o1 9 (.mov (tm 0)),
 o1 10 (.bin .shr (so (.binOp .shr 158 (tm 9) (.const (.int .u64 8)) 135) 158) (tm 9) (.const (.int .u64 8))),
 o1 0 (.mov (tm 10))]) (.region [
 o1 11 (.mov (tm 2)),
 o1 12 (.bin .add (so (.binOp .add 3 (tm 11) (.const (.int .i64 8)) 3) 3) (tm 11) (.const (.int .i64 8))),
 o1 2 (.mov (tm 12))]))
 .skip)) (.seq (.region [
 o1 13 (.mov (tm 2)),
 o1 14 (.mov (tm 0)),
 o1 15 (.conv .u8 (so (.convert 158 5 (tm 14)) 5) (tm 14)),
 o1 16 (.raw (so (.index 9 (.const (.string ⟨⟨[0, 1, 2, 2, 3, 3, 3, 3, 4, 4, 4, 4, 4, 4, 4, 4, 5, 5, 5, 5, 5, 5, 5, 5, 5, 5, 5, 5, 5, 5, 5, 5, 6, 6, 6, 6, 6, 6, 6, 6, 6, 6, 6, 6, 6, 6, 6, 6, 6, 6, 6, 6, 6, 6, 6, 6, 6, 6, 6, 6, 6, 6, 6, 6, 7, 7, 7, 7, 7, 7, 7, 7, 7, 7, 7, 7, 7, 7, 7, 7, 7, 7, 7, 7, 7, 7, 7, 7, 7, 7, 7, 7, 7, 7, 7, 7, 7, 7, 7, 7, 7, 7, 7, 7, 7, 7, 7, 7, 7, 7, 7, 7, 7, 7, 7, 7, 7, 7, 7, 7, 7, 7, 7, 7, 7, 7, 7, 7, 8, 8, 8, 8, 8, 8, 8, 8, 8, 8, 8, 8, 8, 8, 8, 8, 8, 8, 8, 8, 8, 8, 8, 8, 8, 8, 8, 8, 8, 8, 8, 8, 8, 8, 8, 8, 8, 8, 8, 8, 8, 8, 8, 8, 8, 8, 8, 8, 8, 8, 8, 8, 8, 8, 8, 8, 8, 8, 8, 8, 8, 8, 8, 8, 8, 8, 8, 8, 8, 8, 8, 8, 8, 8, 8, 8, 8, 8, 8, 8, 8, 8, 8, 8, 8, 8, 8, 8, 8, 8, 8, 8, 8, 8, 8, 8, 8, 8, 8, 8, 8, 8, 8, 8, 8, 8, 8, 8, 8, 8, 8, 8, 8, 8, 8, 8, 8, 8, 8, 8, 8, 8, 8, 8, 8, 8, 8, 8]⟩⟩)) (tm 15)) 5)),
 o1 17 (.conv .i64 (so (.convert 5 3 (tm 16)) 3) (tm 16)),
 o1 18 (.bin .add (so (.binOp .add 3 (tm 13) (tm 17) 3) 3) (tm 13) (tm 17)),
 o1 2 (.mov (tm 18))]) .ret))))
def zjbQ : AFunc := ⟨19, [(2, none)], zjbQ_c, none⟩
theorem zjbQ_t0 : tableOf Try.prog 102 = some zjbQ := by kernel_rfl
abbrev fn_zkbQ : FuncId := 103
def zkbQ_c : ACode :=
 (.seq (.region [
 o1 2 (.mov k0)]) (.seq (.seq (.region [
 o1 3 (.mov (tm 0)),
 o1 4 (.bin .geq (so (.binOp .geq 36 (tm 3) (.const (.int .u64 4294967296)) 36) 4) (tm 3) (.const (.int .u64 4294967296)))]) (.cond (tm 4)
 (.seq (.region [
 o1 5 (.mov (tm 0)),
 o1 6 (.bin .shr (so (.binOp .shr 36 (tm 5) (.const (.int .u64 32)) 135) 36) (tm 5) (.const (.int .u64 32))),
 o1 0 (.mov (tm 6))]) (.region [
 o1 2 (.mov (.const (.int .i64 32)))]))
 .skip)) (.seq (.seq (.region [
 o1 7 (.mov (tm 0)),
 o1 8 (.bin .geq (so (.binOp .geq 36 (tm 7) (.const (.int .u64 65536)) 36) 4) (tm 7) (.const (.int .u64 65536)))]) (.cond (tm 8)
 (.seq (.region [
 o1 9 (.mov (tm 0)),
 o1 10 (.bin .shr (so (.binOp .shr 36 (tm 9) (.const (.int .u64 16)) 135) 36) (tm 9) (.const (.int .u64 16))),
 o1 0 (.mov (tm 10))]) (.region [
 o1 11 (.mov (tm 2)),
 o1 12 (.bin .add (so (.binOp .add 3 (tm 11) (.const (.int .i64 16)) 3) 3) (tm 11) (.const (.int .i64 16))),
 o1 2 (.mov (tm 12))]))
 .skip)) (.seq (.seq (.region [
 o1 13 (.mov (tm 0)),
 o1 14 (.bin .geq (so (.binOp .geq 36 (tm 13) (.const (.int .u64 256)) 36) 4) (tm 13) (.const (.int .u64 256)))]) (.cond (tm 14)
 (.seq (.region [
 o1 15 (.mov (tm 0)),
 o1 16 (.bin .shr (so (.binOp .shr 36 (tm 15) (.const (.int .u64 8)) 135) 36) (tm 15) (.const (.int .u64 8))),
 o1 0 (.mov (tm 16))]) (.region [
 o1 17 (.mov (tm 2)),
 o1 18 (.bin .add (so (.binOp .add 3 (tm 17) (.const (.int .i64 8)) 3) 3) (tm 17) (.const (.int .i64 8))),
 o1 2 (.mov (tm 18))]))
 .skip)) (.seq (.region [
 o1 19 (.mov (tm 2)),
 o1 20 (.mov (tm 0)),
 o1 21 (.conv .u8 (so (.convert 36 5 (tm 20)) 5) (tm 20)),
 o1 22 (.raw (so (.index 9 (.const (.string ⟨⟨[0, 1, 2, 2, 3, 3, 3, 3, 4, 4, 4, 4, 4, 4, 4, 4, 5, 5, 5, 5, 5, 5, 5, 5, 5, 5, 5, 5, 5, 5, 5, 5, 6, 6, 6, 6, 6, 6, 6, 6, 6, 6, 6, 6, 6, 6, 6, 6, 6, 6, 6, 6, 6, 6, 6, 6, 6, 6, 6, 6, 6, 6, 6, 6, 7, 7, 7, 7, 7, 7, 7, 7, 7, 7, 7, 7, 7, 7, 7, 7, 7, 7, 7, 7, 7, 7, 7, 7, 7, 7, 7, 7, 7, 7, 7, 7, 7, 7, 7, 7, 7, 7, 7, 7, 7, 7, 7, 7, 7, 7, 7, 7, 7, 7, 7, 7, 7, 7, 7, 7, 7, 7, 7, 7, 7, 7, 7, 7, 8, 8, 8, 8, 8, 8, 8, 8, 8, 8, 8, 8, 8, 8, 8, 8, 8, 8, 8, 8, 8, 8, 8, 8, 8, 8, 8, 8, 8, 8, 8, 8, 8, 8, 8, 8, 8, 8, 8, 8, 8, 8, 8, 8, 8, 8, 8, 8, 8, 8, 8, 8, 8, 8, 8, 8, 8, 8, 8, 8, 8, 8, 8, 8, 8, 8, 8, 8, 8, 8, 8, 8, 8, 8, 8, 8, 8, 8, 8, 8, 8, 8, 8, 8, 8, 8, 8, 8, 8, 8, 8, 8, 8, 8, 8, 8, 8, 8, 8, 8, 8, 8, 8, 8, 8, 8, 8, 8, 8, 8, 8, 8, 8, 8, 8, 8, 8, 8, 8, 8, 8, 8, 8, 8, 8, 8, 8, 8]⟩⟩)) (tm 21)) 5)),
 o1 23 (.conv .i64 (so (.convert 5 3 (tm 22)) 3) (tm 22)),
 o1 24 (.bin .add (so (.binOp .add 3 (tm 19) (tm 23) 3) 3) (tm 19) (tm 23)),
 o1 2 (.mov (tm 24))]) .ret)))))
def zkbQ : AFunc := ⟨25, [(2, none)], zkbQ_c, none⟩
theorem zkbQ_t0 : tableOf Try.prog 103 = some zkbQ := by kernel_rfl
theorem zkbQ_t : T0 103 = some zkbQ := withKept_t rfl (withTrue_t rfl zkbQ_t0)
theorem zkbQ_runs {v0 : Value} {h : Heap} {R : RP} {X : XP} (k : RunC Try.prog T0 zkbQ_c ⟨[v0, U, U, U, U, U, U, U, U, U, U, U, U, U, U, U, U, U, U, U, U, U, U, U, U], [], h, none⟩ (bodyQ Try.prog T0 [(2, none)] R X)) :
 Runs Try.prog T0 (.fn 103) [v0] h R X := Runs.fn zkbQ_t rfl k
abbrev fn_zscQ : FuncId := 104
def zscQ_l0 : ACode :=
 (.block 1 (.seq (.region [
 o1 13 (.mov (tm 10)),
 o1 14 (.bin .mul (so (.binOp .mul 3 (.const (.int .i64 2)) (tm 13) 3) 3) (.const (.int .i64 2)) (tm 13)),
 o1 15 (.bin .add (so (.binOp .add 3 (tm 14) (.const (.int .i64 1)) 3) 3) (tm 14) (.const (.int .i64 1))),
 o1 11 (.mov (tm 15))]) (.seq (.seq (.region [
 o1 16 (.mov (tm 11)),
 o1 17 (.mov (tm 2)),
 o1 18 (.bin .geq (so (.binOp .geq 3 (tm 16) (tm 17) 3) 4) (tm 16) (tm 17))]) (.cond (tm 18)
 (.exit 0)
 .skip)) (.seq (.seq (.regionD [
 o1 19 (.mov (tm 11)),
 o1 20 (.bin .add (so (.binOp .add 3 (tm 19) (.const (.int .i64 1)) 3) 3) (tm 19) (.const (.int .i64 1))),
 o1 21 (.mov (tm 2)),
 o2 22 (.bin .lss (so (.binOp .lss 3 (tm 20) (tm 21) 3) 4) (tm 20) (tm 21)),
 o2 23 (.mov (tm 22)),
 o4 24 (.mov (tm 4)) 23,
 o4 25 (.mov (tm 0)) 23,
 o4 26 (.mov (tm 3)) 23,
 o4 27 (.mov (tm 11)) 23,
 o4 28 (.bin .add (so (.binOp .add 3 (tm 26) (tm 27) 3) 3) (tm 26) (tm 27)) 23,
 o4 29 (.indexSl 37 (tm 25) (tm 28)) 23,
 o4 30 (.load (some 37) (tm 29)) 23,
 o4 31 (.mov (tm 0)) 23,
 o4 32 (.mov (tm 3)) 23,
 o4 33 (.mov (tm 11)) 23,
 o4 34 (.bin .add (so (.binOp .add 3 (tm 32) (tm 33) 3) 3) (tm 32) (tm 33)) 23,
 o4 35 (.bin .add (so (.binOp .add 3 (tm 34) (.const (.int .i64 1)) 3) 3) (tm 34) (.const (.int .i64 1))) 23,
 o4 36 (.indexSl 37 (tm 31) (tm 35)) 23,
 o4 37 (.load (some 37) (tm 36)) 23,
 ⟨some 38, .callV (tm 24) [(tm 30), (tm 37)], some (23, true), [], true⟩,
 ⟨some 39, .bin .lss (so (.binOp .lss 3 (tm 38) k0 3) 4) (tm 38) k0, some (23, true), [], true⟩,
 o2 40 (.pick (tm 23) (tm 39) (.const (.bool false)))]) (.cond (tm 40)
 (.region [
 o1 41 (.mov (tm 11)),
 o1 42 (.bin .add (so (.binOp .add 3 (tm 41) (.const (.int .i64 1)) 3) 3) (tm 41) (.const (.int .i64 1))),
 o1 11 (.mov (tm 42))])
 .skip)) (.seq (.seq (.regionD [
 o1 43 (.mov (tm 4)),
 o1 44 (.mov (tm 0)),
 o1 45 (.mov (tm 3)),
 o1 46 (.mov (tm 10)),
 o1 47 (.bin .add (so (.binOp .add 3 (tm 45) (tm 46) 3) 3) (tm 45) (tm 46)),
 o1 48 (.indexSl 37 (tm 44) (tm 47)),
 o1 49 (.load (some 37) (tm 48)),
 o1 50 (.mov (tm 0)),
 o1 51 (.mov (tm 3)),
 o1 52 (.mov (tm 11)),
 o1 53 (.bin .add (so (.binOp .add 3 (tm 51) (tm 52) 3) 3) (tm 51) (tm 52)),
 o1 54 (.indexSl 37 (tm 50) (tm 53)),
 o1 55 (.load (some 37) (tm 54)),
 o2 56 (.callV (tm 43) [(tm 49), (tm 55)]),
 o2 57 (.bin .lss (so (.binOp .lss 3 (tm 56) k0 3) 4) (tm 56) k0),
 o2 58 (.raw (so (.unOp .not 4 (tm 57)) 4))]) (.cond (tm 58)
 .ret
 .skip)) (.seq (.regionD [
 o1 59 (.mov (tm 0)),
 o1 60 (.mov (tm 3)),
 o1 61 (.mov (tm 10)),
 o1 62 (.bin .add (so (.binOp .add 3 (tm 60) (tm 61) 3) 3) (tm 60) (tm 61)),
 o1 63 (.mov (tm 0)),
 o1 64 (.mov (tm 3)),
 o1 65 (.mov (tm 11)),
 o1 66 (.bin .add (so (.binOp .add 3 (tm 64) (tm 65) 3) 3) (tm 64) (tm 65)),
 o1 67 (.mov (tm 0)),
 o1 68 (.mov (tm 3)),
 o1 69 (.mov (tm 11)),
 o1 70 (.bin .add (so (.binOp .add 3 (tm 68) (tm 69) 3) 3) (tm 68) (tm 69)),
 o1 71 (.indexSl 37 (tm 67) (tm 70)),
 o1 72 (.load (some 37) (tm 71)),
 o1 73 (.mov (tm 0)),
 o1 74 (.mov (tm 3)),
 o1 75 (.mov (tm 10)),
 o1 76 (.bin .add (so (.binOp .add 3 (tm 74) (tm 75) 3) 3) (tm 74) (tm 75)),
 o1 77 (.indexSl 37 (tm 73) (tm 76)),
 o1 78 (.load (some 37) (tm 77)),
 o1 79 (.indexSl 37 (tm 59) (tm 62)),
 ⟨none, .store 37 (tm 79) (tm 72), none, [(some 66, .bin .add (so (.binOp .add 3 (tm 64) (tm 65) 3) 3) (tm 64) (tm 65), none), (some 65, .mov (tm 11), none), (some 64, .mov (tm 3), none), (some 63, .mov (tm 0), none)], false⟩,
 o2 80 (.indexSl 37 (tm 63) (tm 66)),
 ⟨none, .store 37 (tm 80) (tm 78), none, [], true⟩]) (.region [
 o1 81 (.mov (tm 11)),
 o1 10 (.mov (tm 81))])))))))
def zscQ_c : ACode :=
 (.seq (.region [
 o1 12 (.mov (tm 1)),
 o1 10 (.mov (tm 12))]) (.block 0 (.loop zscQ_l0)))
def zscQ : AFunc := ⟨82, [], zscQ_c, none⟩
theorem zscQ_t0 : tableOf Try.prog 104 = some zscQ := by kernel_rfl
theorem zscQ_t : T0 104 = some zscQ := withKept_t rfl (withTrue_t rfl zscQ_t0)
theorem zscQ_runs {v0 v1 v2 v3 v4 : Value} {h : Heap} {R : RP} {X : XP} (k : RunC Try.prog T0 zscQ_c ⟨[v0, v1, v2, v3, v4, U, U, U, U, U, U, U, U, U, U, U, U, U, U, U, U, U, U, U, U, U, U, U, U, U, U, U, U, U, U, U, U, U, U, U, U, U, U, U, U, U, U, U, U, U, U, U, U, U, U, U, U, U, U, U, U, U, U, U, U, U, U, U, U, U, U, U, U, U, U, U, U, U, U, U, U, U], [], h, none⟩ (bodyQ Try.prog T0 [] R X)) :
 Runs Try.prog T0 (.fn 104) [v0, v1, v2, v3, v4] h R X := Runs.fn zscQ_t rfl k
abbrev zscQ_l0_M : List Nat := [0, 0, 0, 0, 0, 0, 0, 0, 0, 0, 2, 1, 0, 1, 1, 1, 1, 1, 1, 1, 1, 1, 1, 1, 1, 1, 1, 1, 1, 1, 1, 1, 1, 1, 1, 1, 1, 1, 1, 1, 1, 1, 1, 1, 1, 1, 1, 1, 1, 1, 1, 1, 1, 1, 1, 1, 1, 1, 1, 1, 1, 1, 1, 1, 1, 1, 1, 1, 1, 1, 1, 1, 1, 1, 1, 1, 1, 1, 1, 1, 1, 1]
abbrev fn_zlcQ : FuncId := 105
def zlcQ_c : ACode :=
 (.seq (.region [
 o1 2 (.mov (.const (.int .u64 0)))]) (.seq (.region [
 o1 3 (.mov (tm 0)),
 o1 4 (.conv .u64 (so (.convert 3 135 (tm 3)) 135) (tm 3)),
 o1 5 (.callV (.func 93) [(tm 4)]),
 o1 6 (.bin .shl (so (.binOp .shl 135 (.const (.int .u64 1)) (tm 5) 3) 135) (.const (.int .u64 1)) (tm 5)),
 o1 2 (.mov (tm 6))]) .ret))
def zlcQ : AFunc := ⟨7, [(2, none)], zlcQ_c, none⟩
theorem zlcQ_t0 : tableOf Try.prog 105 = some zlcQ := by kernel_rfl
theorem zlcQ_t : T0 105 = some zlcQ := withKept_t rfl (withTrue_t rfl zlcQ_t0)
theorem zlcQ_runs {v0 : Value} {h : Heap} {R : RP} {X : XP} (k : RunC Try.prog T0 zlcQ_c ⟨[v0, U, U, U, U, U, U], [], h, none⟩ (bodyQ Try.prog T0 [(2, none)] R X)) :
 Runs Try.prog T0 (.fn 105) [v0] h R X := Runs.fn zlcQ_t rfl k
abbrev fn_ztcQ : FuncId := 106
def ztcQ_c : ACode :=
 (.seq (.region [
 o1 2 (.mov (.const (.int .u64 0)))]) (.seq (.regionD [
 o1 3 (.mov (tm 0)),
 o1 4 (.nilCheck (tm 3)),
 o1 5 (.load none (tm 4)),
 o1 6 (.mov (tm 0)),
 o1 7 (.nilCheck (tm 6)),
 o1 8 (.load none (tm 7)),
 o1 9 (.bin .shl (so (.binOp .shl 160 (tm 8) (.const (.int .u64 13)) 135) 160) (tm 8) (.const (.int .u64 13))),
 o2 10 (.bin .xor (so (.binOp .xor 160 (tm 5) (tm 9) 160) 160) (tm 5) (tm 9)),
 o2 11 (.nilCheck (tm 3)),
 ⟨none, .store 1 (tm 11) (tm 10), none, [], true⟩]) (.seq (.regionD [
 o1 12 (.mov (tm 0)),
 o1 13 (.nilCheck (tm 12)),
 o1 14 (.load none (tm 13)),
 o1 15 (.mov (tm 0)),
 o1 16 (.nilCheck (tm 15)),
 o1 17 (.load none (tm 16)),
 o1 18 (.bin .shr (so (.binOp .shr 160 (tm 17) (.const (.int .u64 7)) 135) 160) (tm 17) (.const (.int .u64 7))),
 o2 19 (.bin .xor (so (.binOp .xor 160 (tm 14) (tm 18) 160) 160) (tm 14) (tm 18)),
 o2 20 (.nilCheck (tm 12)),
 ⟨none, .store 1 (tm 20) (tm 19), none, [], true⟩]) (.seq (.regionD [
 o1 21 (.mov (tm 0)),
 o1 22 (.nilCheck (tm 21)),
 o1 23 (.load none (tm 22)),
 o1 24 (.mov (tm 0)),
 o1 25 (.nilCheck (tm 24)),
 o1 26 (.load none (tm 25)),
 o1 27 (.bin .shl (so (.binOp .shl 160 (tm 26) (.const (.int .u64 17)) 135) 160) (tm 26) (.const (.int .u64 17))),
 o2 28 (.bin .xor (so (.binOp .xor 160 (tm 23) (tm 27) 160) 160) (tm 23) (tm 27)),
 o2 29 (.nilCheck (tm 21)),
 ⟨none, .store 1 (tm 29) (tm 28), none, [], true⟩]) (.seq (.region [
 o1 30 (.mov (tm 0)),
 o1 31 (.nilCheck (tm 30)),
 o1 32 (.load none (tm 31)),
 o1 2 (.mov (tm 32))]) .ret)))))
def ztcQ : AFunc := ⟨33, [(2, none)], ztcQ_c, none⟩
theorem ztcQ_t0 : tableOf Try.prog 106 = some ztcQ := by kernel_rfl
theorem ztcQ_t : T0 106 = some ztcQ := withKept_t rfl (withTrue_t rfl ztcQ_t0)
theorem ztcQ_runs {v0 : Value} {h : Heap} {R : RP} {X : XP} (k : RunC Try.prog T0 ztcQ_c ⟨[v0, U, U, U, U, U, U, U, U, U, U, U, U, U, U, U, U, U, U, U, U, U, U, U, U, U, U, U, U, U, U, U, U], [], h, none⟩ (bodyQ Try.prog T0 [(2, none)] R X)) :
 Runs Try.prog T0 (.fn 106) [v0] h R X := Runs.fn ztcQ_t rfl k
abbrev fn_zjcQ : FuncId := 107
def zjcQ_c : ACode :=
 (.seq (.region [
 o1 8 (.mov k0)]) (.seq (.region [
 o1 9 (.mov (tm 0)),
 o1 10 (.mov (tm 1)),
 o1 11 (.bin .sub (so (.binOp .sub 3 (tm 10) (.const (.int .i64 1)) 3) 3) (tm 10) (.const (.int .i64 1))),
 o1 12 (.mov (tm 1)),
 o1 13 (.mov (tm 1)),
 o1 14 (.bin .add (so (.binOp .add 3 (tm 13) (.const (.int .i64 1)) 3) 3) (tm 13) (.const (.int .i64 1))),
 o1 15 (.mov (tm 2)),
 o1 16 (.mov (tm 3)),
 o1 17 (.callV (.func 108) [(tm 9), (tm 11), (tm 12), (tm 14), (tm 15), (tm 16)]),
 o1 8 (.mov (tm 17))]) .ret))
def zjcQ : AFunc := ⟨18, [(8, none)], zjcQ_c, none⟩
theorem zjcQ_t0 : tableOf Try.prog 107 = some zjcQ := by kernel_rfl
theorem zjcQ_t : T0 107 = some zjcQ := withKept_t rfl (withTrue_t rfl zjcQ_t0)
theorem zjcQ_runs {v0 v1 v2 v3 : Value} {h : Heap} {R : RP} {X : XP} (k : RunC Try.prog T0 zjcQ_c ⟨[v0, v1, v2, v3, U, U, U, U, U, U, U, U, U, U, U, U, U, U], [], h, none⟩ (bodyQ Try.prog T0 [(8, none)] R X)) :
 Runs Try.prog T0 (.fn 107) [v0, v1, v2, v3] h R X := Runs.fn zjcQ_t rfl k
abbrev fn_zkcQ : FuncId := 108
def zkcQ_c : ACode :=
 (.seq (.region [
 o1 12 (.mov k0)]) (.seq (.region [
 o1 14 (.mov (tm 0)),
 o1 15 (.mov (tm 1)),
 o1 16 (.mov (tm 2)),
 o1 17 (.mov (tm 4)),
 o1 18 (.mov (tm 5)),
 o1 19 (.callV (.func 109) [(tm 14), (tm 15), (tm 16), (tm 17), (tm 18)]),
 o1 13 (.mov (tm 19)),
 o1 20 (.extract 0 (tm 13)),
 o1 21 (.extract 1 (tm 13)),
 o1 1 (.mov (tm 20)),
 o1 2 (.mov (tm 21))]) (.seq (.region [
 o1 23 (.mov (tm 0)),
 o1 24 (.mov (tm 2)),
 o1 25 (.mov (tm 3)),
 o1 26 (.mov (tm 4)),
 o1 27 (.mov (tm 5)),
 o1 28 (.callV (.func 109) [(tm 23), (tm 24), (tm 25), (tm 26), (tm 27)]),
 o1 22 (.mov (tm 28)),
 o1 29 (.extract 0 (tm 22)),
 o1 30 (.extract 1 (tm 22)),
 o1 2 (.mov (tm 29)),
 o1 3 (.mov (tm 30))]) (.seq (.region [
 o1 32 (.mov (tm 0)),
 o1 33 (.mov (tm 1)),
 o1 34 (.mov (tm 2)),
 o1 35 (.mov (tm 4)),
 o1 36 (.mov (tm 5)),
 o1 37 (.callV (.func 109) [(tm 32), (tm 33), (tm 34), (tm 35), (tm 36)]),
 o1 31 (.mov (tm 37)),
 o1 38 (.extract 0 (tm 31)),
 o1 39 (.extract 1 (tm 31)),
 o1 1 (.mov (tm 38)),
 o1 2 (.mov (tm 39))]) (.seq (.region [
 o1 40 (.mov (tm 2)),
 o1 12 (.mov (tm 40))]) .ret)))))
def zkcQ : AFunc := ⟨41, [(12, none)], zkcQ_c, none⟩
theorem zkcQ_t0 : tableOf Try.prog 108 = some zkcQ := by kernel_rfl
theorem zkcQ_t : T0 108 = some zkcQ := withKept_t rfl (withTrue_t rfl zkcQ_t0)
theorem zkcQ_runs {v0 v1 v2 v3 v4 v5 : Value} {h : Heap} {R : RP} {X : XP} (k : RunC Try.prog T0 zkcQ_c ⟨[v0, v1, v2, v3, v4, v5, U, U, U, U, U, U, U, U, U, U, U, U, U, U, U, U, U, U, U, U, U, U, U, U, U, U, U, U, U, U, U, U, U, U, U], [], h, none⟩ (bodyQ Try.prog T0 [(12, none)] R X)) :
 Runs Try.prog T0 (.fn 108) [v0, v1, v2, v3, v4, v5] h R X := Runs.fn zkcQ_t rfl k
abbrev fn_zmcQ : FuncId := 109
def zmcQ_c : ACode :=
 (.seq (.region [
 o1 10 (.mov k0),
 o1 11 (.mov k0)]) (.seq (.seq (.regionD [
 o1 12 (.mov (tm 4)),
 o1 13 (.mov (tm 0)),
 o1 14 (.mov (tm 2)),
 o1 15 (.indexSl 37 (tm 13) (tm 14)),
 o1 16 (.load (some 37) (tm 15)),
 o1 17 (.mov (tm 0)),
 o1 18 (.mov (tm 1)),
 o1 19 (.indexSl 37 (tm 17) (tm 18)),
 o1 20 (.load (some 37) (tm 19)),
 o2 21 (.callV (tm 12) [(tm 16), (tm 20)]),
 o2 22 (.bin .lss (so (.binOp .lss 3 (tm 21) k0 3) 4) (tm 21) k0)]) (.cond (tm 22)
 (.seq (.region [
 o1 23 (.mov (tm 3)),
 o1 24 (.nilCheck (tm 23)),
 o1 25 (.load none (tm 24)),
 o1 26 (.bin .add (so (.binOp .add 3 (tm 25) (.const (.int .i64 1)) 3) 3) (tm 25) (.const (.int .i64 1))),
 o1 27 (.nilCheck (tm 23)),
 o3 (.store 1 (tm 27) (tm 26))]) (.seq (.region [
 o1 28 (.mov (tm 2)),
 o1 29 (.mov (tm 1)),
 o1 10 (.mov (tm 28)),
 o1 11 (.mov (tm 29))]) .ret))
 .skip)) (.seq (.region [
 o1 30 (.mov (tm 1)),
 o1 31 (.mov (tm 2)),
 o1 10 (.mov (tm 30)),
 o1 11 (.mov (tm 31))]) .ret)))
def zmcQ : AFunc := ⟨32, [(10, none), (11, none)], zmcQ_c, none⟩
theorem zmcQ_t0 : tableOf Try.prog 109 = some zmcQ := by kernel_rfl
theorem zmcQ_t : T0 109 = some zmcQ := withKept_t rfl (withTrue_t rfl zmcQ_t0)
theorem zmcQ_runs {v0 v1 v2 v3 v4 : Value} {h : Heap} {R : RP} {X : XP} (k : RunC Try.prog T0 zmcQ_c ⟨[v0, v1, v2, v3, v4, U, U, U, U, U, U, U, U, U, U, U, U, U, U, U, U, U, U, U, U, U, U, U, U, U, U, U], [], h, none⟩ (bodyQ Try.prog T0 [(10, none), (11, none)] R X)) :
 Runs Try.prog T0 (.fn 109) [v0, v1, v2, v3, v4] h R X := Runs.fn zmcQ_t rfl k
end Go.Proofs.Ytagmnpeilgnbdaa.A
