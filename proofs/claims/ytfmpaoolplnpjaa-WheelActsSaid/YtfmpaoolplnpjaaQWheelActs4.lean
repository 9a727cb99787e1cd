/- Contracts of functions, over the machine. -/
import Derived.Test.YtfmpaoolplnpjaaQWheelActs3
import Derived.Test.YtfmpaoolplnpjaaRows
import Derived.Test.YtfmpaoolplnpjaaVJ
import Derived.Test.YtfmpaoolplnpjaaVL
set_option linter.unusedSimpArgs false
set_option linter.unusedSectionVars false
noncomputable section
set_option maxRecDepth 100000
set_option linter.unusedVariables false
namespace Go.Proofs.Ytfmpaoolplnpjaa.R
open Go Go.Vm
abbrev ty_internal_abi_BoundsErrorCode : TypeId := 6
abbrev ty_runtime_boundsError : TypeId := 8
abbrev ty_runtime_errorString : TypeId := 10
abbrev ty_runtime_plainError : TypeId := 11
abbrev ty_runtime_errorAddressString : TypeId := 14
abbrev ty_internal_runtime_maps_unhashableTypeError : TypeId := 19
abbrev ty_api_Errno : TypeId := 24
abbrev ty_api_Timer : TypeId := 33
abbrev ty_ll18_Act : TypeId := 50
abbrev ty_lr18_Wheel : TypeId := 54
abbrev ty_wheel_slot : TypeId := 58
abbrev ty_wheel_Wheel : TypeId := 62
abbrev ty_iter_Seq__api_Timer_ : TypeId := 79
abbrev ty_container_heap_Interface : TypeId := 82
abbrev ty_slices_sortedHint : TypeId := 97
abbrev ty_slices_xorshift : TypeId := 107
abbrev ty_runtime_TypeAssertionError : TypeId := 118
abbrev ty_runtime_PanicNilError : TypeId := 121
abbrev ty_internal_abi_TFlag : TypeId := 122
abbrev ty_internal_abi_Kind : TypeId := 123
abbrev ty_internal_abi_NameOff : TypeId := 126
abbrev ty_internal_abi_TypeOff : TypeId := 127
abbrev ty_internal_abi_Type : TypeId := 129
instance : IsIface Try.prog 20 := ⟨by kernel_rfl⟩
instance : IsIface Try.prog 81 := ⟨by kernel_rfl⟩
instance : IsIface Try.prog 82 := ⟨by kernel_rfl⟩
abbrev prims : List FuncId := []
abbrev kepts : List FuncId := []
def T0 : Table := withKept (withTrue Try.prog prims) kepts
instance : IsBoolT Try.prog 4 := ⟨by kernel_rfl⟩
instance : TLeaves Try.prog 7 (.i .i64 :: (.i .i64 :: (.b :: (.i .u8 :: [])))) := ⟨by kernel_rfl, by kernel_rfl, by kernel_rfl⟩
instance : TLeaves Try.prog 8 (.i .i64 :: (.i .i64 :: (.b :: (.i .u8 :: [])))) := ⟨by kernel_rfl, by kernel_rfl, by kernel_rfl⟩
instance : TLeaves Try.prog 32 (.i .i64 :: (.i .i64 :: [])) := ⟨by kernel_rfl, by kernel_rfl, by kernel_rfl⟩
instance : TLeaves Try.prog 33 (.i .i64 :: (.i .i64 :: [])) := ⟨by kernel_rfl, by kernel_rfl, by kernel_rfl⟩
instance : TLeaves Try.prog 49 (.i .i64 :: (.i .i64 :: (.i .i64 :: []))) := ⟨by kernel_rfl, by kernel_rfl, by kernel_rfl⟩
instance : TLeaves Try.prog 50 (.i .i64 :: (.i .i64 :: (.i .i64 :: []))) := ⟨by kernel_rfl, by kernel_rfl, by kernel_rfl⟩
def zmQ_c : ACode :=
  (.seq (.region [
      ⟨(some 0), .mov (.const (.bool false)), none, [], false⟩]) (.seq (.region [
      ⟨(some 14), .callV (.func 8) [], none, [], false⟩,
      ⟨(some 1), .mov (.tmp 14), none, [], false⟩]) (.seq (.region [
      ⟨(some 16), .callV (.func 9) [(.const (.int .i64 0))], none, [], false⟩,
      ⟨(some 15), .mov (.tmp 16), none, [], false⟩,
      ⟨(some 17), .extract 0 (.tmp 15), none, [], false⟩,
      ⟨(some 18), .extract 1 (.tmp 15), none, [], false⟩,
      ⟨(some 2), .mov (.tmp 17), none, [], false⟩,
      ⟨(some 3), .mov (.tmp 18), none, [], false⟩]) (.seq (.region [
      ⟨(some 20), .callV (.func 9) [(.const (.int .i64 257))], none, [], false⟩,
      ⟨(some 19), .mov (.tmp 20), none, [], false⟩,
      ⟨(some 21), .extract 0 (.tmp 19), none, [], false⟩,
      ⟨(some 22), .extract 1 (.tmp 19), none, [], false⟩,
      ⟨(some 4), .mov (.tmp 21), none, [], false⟩,
      ⟨(some 5), .mov (.tmp 22), none, [], false⟩]) (.seq (.seq (.region [
      ⟨(some 23), .mov (.tmp 1), none, [], false⟩,
      ⟨(some 24), .eq .ptr false (so (.binOp .eql 22 (.tmp 23) (.const (.pointer none)) 22) 4) (.tmp 23) (.const (.pointer none)), none, [], false⟩,
      ⟨(some 25), .mov (.tmp 24), none, [], false⟩,
      ⟨(some 26), .mov (.tmp 3), (some (25, false)), [], false⟩,
      ⟨(some 27), .bin .neq (so (.binOp .neq 24 (.tmp 26) (.const (.int .i64 3)) 24) 4) (.tmp 26) (.const (.int .i64 3)), (some (25, false)), [], false⟩,
      ⟨(some 28), .pick (.tmp 25) (.const (.bool true)) (.tmp 27), none, [], false⟩,
      ⟨(some 29), .mov (.tmp 28), none, [], false⟩,
      ⟨(some 30), .mov (.tmp 5), (some (29, false)), [], false⟩,
      ⟨(some 31), .bin .neq (so (.binOp .neq 24 (.tmp 30) (.const (.int .i64 3)) 24) 4) (.tmp 30) (.const (.int .i64 3)), (some (29, false)), [], false⟩,
      ⟨(some 32), .pick (.tmp 29) (.const (.bool true)) (.tmp 31), none, [], false⟩]) (.cond (.tmp 32)
    (.seq (.region [
      ⟨(some 0), .mov (.const (.bool false)), none, [], false⟩]) .ret)
    .skip)) (.seq (.region [
      ⟨(some 34), .mov (.tmp 1), none, [], false⟩,
      ⟨(some 35), .callV (.func 10) [(.tmp 34)], none, [], false⟩,
      ⟨(some 33), .mov (.tmp 35), none, [], false⟩,
      ⟨(some 36), .extract 0 (.tmp 33), none, [], false⟩,
      ⟨(some 37), .extract 1 (.tmp 33), none, [], false⟩,
      ⟨(some 6), .mov (.tmp 36), none, [], false⟩,
      ⟨(some 7), .mov (.tmp 37), none, [], false⟩]) (.seq (.region [
      ⟨(some 38), .mov (.tmp 6), none, [], false⟩,
      ⟨(some 39), .bin .eql (so (.binOp .eql 3 (.tmp 38) (.const (.int .i64 5)) 3) 4) (.tmp 38) (.const (.int .i64 5)), none, [], false⟩,
      ⟨(some 40), .mov (.tmp 39), none, [], false⟩,
      ⟨(some 41), .mov (.tmp 7), (some (40, true)), [], false⟩,
      ⟨(some 42), .pick (.tmp 40) (.tmp 41) (.const (.bool false)), none, [], false⟩,
      ⟨(some 43), .mov (.tmp 42), none, [], false⟩,
      ⟨(some 44), .mov (.tmp 1), (some (43, true)), [], false⟩,
      ⟨(some 45), .callV (.func 12) [(.tmp 44), (.const (.int .i64 1))], (some (43, true)), [], false⟩,
      ⟨(some 46), .build [(.int .i64 0), (.int .i64 0)] [(0, 1, (.const (.int .i64 2))), (1, 1, (.const (.int .i64 5)))], (some (43, true)), [], false⟩,
      ⟨(some 47), .build [(.int .i64 0), (.int .i64 0)] [(0, 1, (.const (.int .i64 3))), (1, 1, (.const (.int .i64 5)))], (some (43, true)), [], false⟩,
      ⟨(some 48), .build [(.int .i64 0), (.int .i64 0)] [(0, 1, (.const (.int .i64 1))), (1, 1, (.const (.int .i64 9)))], (some (43, true)), [], false⟩,
      ⟨(some 49), .buildSlice 33 [(.int .i64 0), (.int .i64 0), (.int .i64 0), (.int .i64 0), (.int .i64 0), (.int .i64 0)] 3 [(0, 2, (.tmp 46)), (2, 2, (.tmp 47)), (4, 2, (.tmp 48))], (some (43, true)), [], false⟩,
      ⟨(some 50), .callV (.func 11) [(.tmp 45), (.tmp 49)], (some (43, true)), [], false⟩,
      ⟨(some 51), .pick (.tmp 43) (.tmp 50) (.const (.bool false)), none, [], false⟩,
      ⟨(some 52), .mov (.tmp 51), none, [], false⟩,
      ⟨(some 53), .mov (.tmp 1), (some (52, true)), [], false⟩,
      ⟨(some 54), .callV (.func 12) [(.tmp 53), (.const (.int .i64 4))], (some (52, true)), [], false⟩,
      ⟨(some 55), .lenSl (.tmp 54), (some (52, true)), [], false⟩,
      ⟨(some 56), .bin .eql (so (.binOp .eql 3 (.tmp 55) (.const (.int .i64 0)) 3) 4) (.tmp 55) (.const (.int .i64 0)), (some (52, true)), [], false⟩,
      ⟨(some 57), .pick (.tmp 52) (.tmp 56) (.const (.bool false)), none, [], false⟩,
      ⟨(some 8), .mov (.tmp 57), none, [], false⟩]) (.seq (.region [
      ⟨(some 58), .mov (.tmp 1), none, [], false⟩,
      ⟨(some 59), .callV (.func 13) [(.tmp 58), (.const (.int .i64 99))], none, [], false⟩]) (.seq (.region [
      ⟨(some 61), .mov (.tmp 1), none, [], false⟩,
      ⟨(some 62), .callV (.func 10) [(.tmp 61)], none, [], false⟩,
      ⟨(some 60), .mov (.tmp 62), none, [], false⟩,
      ⟨(some 63), .extract 0 (.tmp 60), none, [], false⟩,
      ⟨(some 64), .extract 1 (.tmp 60), none, [], false⟩,
      ⟨(some 9), .mov (.tmp 63), none, [], false⟩,
      ⟨(some 10), .mov (.tmp 64), none, [], false⟩]) (.seq (.region [
      ⟨(some 65), .mov (.tmp 10), none, [], false⟩,
      ⟨(some 66), .raw (so (.unOp .not 4 (.tmp 65)) 4), none, [], false⟩,
      ⟨(some 67), .mov (.tmp 66), none, [], false⟩,
      ⟨(some 68), .mov (.tmp 1), (some (67, true)), [], false⟩,
      ⟨(some 69), .callV (.func 14) [(.tmp 68), (.const (.int .i64 7)), (.const (.int .i64 0))], (some (67, true)), [], false⟩,
      ⟨(some 70), .bin .eql (so (.binOp .eql 24 (.tmp 69) (.const (.int .i64 0)) 24) 4) (.tmp 69) (.const (.int .i64 0)), (some (67, true)), [], false⟩,
      ⟨(some 71), .pick (.tmp 67) (.tmp 70) (.const (.bool false)), none, [], false⟩,
      ⟨(some 72), .mov (.tmp 71), none, [], false⟩,
      ⟨(some 73), .mov (.tmp 1), (some (72, true)), [], false⟩,
      ⟨(some 74), .callV (.func 15) [(.tmp 73), (.const (.int .i64 7))], (some (72, true)), [], false⟩,
      ⟨(some 75), .pick (.tmp 72) (.tmp 74) (.const (.bool false)), none, [], false⟩,
      ⟨(some 76), .mov (.tmp 75), none, [], false⟩,
      ⟨(some 77), .mov (.tmp 1), (some (76, true)), [], false⟩,
      ⟨(some 78), .callV (.func 15) [(.tmp 77), (.const (.int .i64 7))], (some (76, true)), [], false⟩,
      ⟨(some 79), .raw (so (.unOp .not 4 (.tmp 78)) 4), (some (76, true)), [], false⟩,
      ⟨(some 80), .pick (.tmp 76) (.tmp 79) (.const (.bool false)), none, [], false⟩,
      ⟨(some 81), .mov (.tmp 80), none, [], false⟩,
      ⟨(some 82), .mov (.tmp 1), (some (81, true)), [], false⟩,
      ⟨(some 83), .callV (.func 14) [(.tmp 82), (.const (.int .i64 8)), (.const (.int .i64 (-1)))], (some (81, true)), [], false⟩,
      ⟨(some 84), .bin .eql (so (.binOp .eql 24 (.tmp 83) (.const (.int .i64 3)) 24) 4) (.tmp 83) (.const (.int .i64 3)), (some (81, true)), [], false⟩,
      ⟨(some 85), .pick (.tmp 81) (.tmp 84) (.const (.bool false)), none, [], false⟩,
      ⟨(some 11), .mov (.tmp 85), none, [], false⟩]) (.seq (.region [
      ⟨(some 87), .mov (.tmp 1), none, [], false⟩,
      ⟨(some 88), .callV (.func 16) [(.tmp 87), (.const (.int .i64 7))], none, [], false⟩,
      ⟨(some 86), .mov (.tmp 88), none, [], false⟩,
      ⟨(some 89), .extract 0 (.tmp 86), none, [], false⟩,
      ⟨(some 90), .extract 1 (.tmp 86), none, [], false⟩,
      ⟨(some 12), .mov (.tmp 89), none, [], false⟩,
      ⟨(some 13), .mov (.tmp 90), none, [], false⟩]) (.seq (.region [
      ⟨(some 91), .callV (.func 17) [], none, [], false⟩,
      ⟨(some 92), .mov (.tmp 91), none, [], false⟩,
      ⟨(some 93), .mov (.tmp 8), (some (92, true)), [], false⟩,
      ⟨(some 94), .pick (.tmp 92) (.tmp 93) (.const (.bool false)), none, [], false⟩,
      ⟨(some 95), .mov (.tmp 94), none, [], false⟩,
      ⟨(some 96), .mov (.tmp 11), (some (95, true)), [], false⟩,
      ⟨(some 97), .pick (.tmp 95) (.tmp 96) (.const (.bool false)), none, [], false⟩,
      ⟨(some 98), .mov (.tmp 97), none, [], false⟩,
      ⟨(some 99), .mov (.tmp 13), (some (98, true)), [], false⟩,
      ⟨(some 100), .raw (so (.unOp .not 4 (.tmp 99)) 4), (some (98, true)), [], false⟩,
      ⟨(some 101), .pick (.tmp 98) (.tmp 100) (.const (.bool false)), none, [], false⟩,
      ⟨(some 0), .mov (.tmp 101), none, [], false⟩]) .ret))))))))))))
def zmQ : AFunc := ⟨102, [(0, none)], zmQ_c, none⟩
theorem zmQ_t0 : tableOf Try.prog 3 = some zmQ := by kernel_rfl
def zoQ_c : ACode :=
  (.seq (.region [
      ⟨(some 0), .mov (.const (.pointer none)), none, [], false⟩]) (.seq (.region [
      ⟨(some 4), .callV (.func 9) [(.const (.int .i64 4))], none, [], false⟩,
      ⟨(some 3), .mov (.tmp 4), none, [], false⟩,
      ⟨(some 5), .extract 0 (.tmp 3), none, [], false⟩,
      ⟨(some 6), .extract 1 (.tmp 3), none, [], false⟩,
      ⟨(some 1), .mov (.tmp 5), none, [], false⟩,
      ⟨(some 2), .mov (.tmp 6), none, [], false⟩]) (.seq (.seq (.region [
      ⟨(some 7), .mov (.tmp 2), none, [], false⟩,
      ⟨(some 8), .bin .neq (so (.binOp .neq 24 (.tmp 7) (.const (.int .i64 0)) 24) 4) (.tmp 7) (.const (.int .i64 0)), none, [], false⟩,
      ⟨(some 9), .mov (.tmp 8), none, [], false⟩,
      ⟨(some 10), .mov (.tmp 1), (some (9, false)), [], false⟩,
      ⟨(some 11), .eq .ptr false (so (.binOp .eql 22 (.tmp 10) (.const (.pointer none)) 22) 4) (.tmp 10) (.const (.pointer none)), (some (9, false)), [], false⟩,
      ⟨(some 12), .pick (.tmp 9) (.const (.bool true)) (.tmp 11), none, [], false⟩,
      ⟨(some 13), .mov (.tmp 12), none, [], false⟩,
      ⟨(some 14), .mov (.tmp 1), (some (13, false)), [], false⟩,
      ⟨(some 15), .callV (.func 14) [(.tmp 14), (.const (.int .i64 1)), (.const (.int .i64 9))], (some (13, false)), [], false⟩,
      ⟨(some 16), .bin .neq (so (.binOp .neq 24 (.tmp 15) (.const (.int .i64 0)) 24) 4) (.tmp 15) (.const (.int .i64 0)), (some (13, false)), [], false⟩,
      ⟨(some 17), .pick (.tmp 13) (.const (.bool true)) (.tmp 16), none, [], false⟩,
      ⟨(some 18), .mov (.tmp 17), none, [], false⟩,
      ⟨(some 19), .mov (.tmp 1), (some (18, false)), [], false⟩,
      ⟨(some 20), .callV (.func 14) [(.tmp 19), (.const (.int .i64 2)), (.const (.int .i64 5))], (some (18, false)), [], false⟩,
      ⟨(some 21), .bin .neq (so (.binOp .neq 24 (.tmp 20) (.const (.int .i64 0)) 24) 4) (.tmp 20) (.const (.int .i64 0)), (some (18, false)), [], false⟩,
      ⟨(some 22), .pick (.tmp 18) (.const (.bool true)) (.tmp 21), none, [], false⟩,
      ⟨(some 23), .mov (.tmp 22), none, [], false⟩,
      ⟨(some 24), .mov (.tmp 1), (some (23, false)), [], false⟩,
      ⟨(some 25), .callV (.func 14) [(.tmp 24), (.const (.int .i64 3)), (.const (.int .i64 5))], (some (23, false)), [], false⟩,
      ⟨(some 26), .bin .neq (so (.binOp .neq 24 (.tmp 25) (.const (.int .i64 0)) 24) 4) (.tmp 25) (.const (.int .i64 0)), (some (23, false)), [], false⟩,
      ⟨(some 27), .pick (.tmp 23) (.const (.bool true)) (.tmp 26), none, [], false⟩]) (.cond (.tmp 27)
    (.seq (.region [
      ⟨(some 0), .mov (.const (.pointer none)), none, [], false⟩]) .ret)
    .skip)) (.seq (.region [
      ⟨(some 28), .mov (.tmp 1), none, [], false⟩,
      ⟨(some 0), .mov (.tmp 28), none, [], false⟩]) .ret))))
def zoQ : AFunc := ⟨29, [(0, none)], zoQ_c, none⟩
theorem zoQ_t0 : tableOf Try.prog 8 = some zoQ := by kernel_rfl
abbrev fn_zwbQ : FuncId := 9
def zwbQ_c : ACode :=
  (.seq (.region [
      ⟨(some 2), .mov (.const (.pointer none)), none, [], false⟩,
      ⟨(some 3), .mov (.const (.int .i64 0)), none, [], false⟩]) (.seq (.seq (.region [
      ⟨(some 4), .mov (.tmp 0), none, [], false⟩,
      ⟨(some 5), .bin .lss (so (.binOp .lss 3 (.tmp 4) (.const (.int .i64 1)) 3) 4) (.tmp 4) (.const (.int .i64 1)), none, [], false⟩,
      ⟨(some 6), .mov (.tmp 5), none, [], false⟩,
      ⟨(some 7), .mov (.tmp 0), (some (6, false)), [], false⟩,
      ⟨(some 8), .bin .gtr (so (.binOp .gtr 3 (.tmp 7) (.const (.int .i64 256)) 3) 4) (.tmp 7) (.const (.int .i64 256)), (some (6, false)), [], false⟩,
      ⟨(some 9), .pick (.tmp 6) (.const (.bool true)) (.tmp 8), none, [], false⟩]) (.cond (.tmp 9)
    (.seq (.region [
      ⟨(some 2), .mov (.const (.pointer none)), none, [], false⟩,
      ⟨(some 3), .mov (.const (.int .i64 3)), none, [], false⟩]) .ret)
    .skip)) (.seq (.region [
      ⟨(some 10), .mov (.tmp 0), none, [], false⟩,
      ⟨(some 11), .mkMap, none, [], false⟩,
      ⟨(some 12), .build [(.int .i64 0), (.slice none 0 0), (.slice none 0 0), (.slice none 0 0), (.slice none 0 0), (.slice none 0 0), (.slice none 0 0), (.slice none 0 0), (.slice none 0 0), (.slice none 0 0), (.slice none 0 0), (.slice none 0 0), (.slice none 0 0), (.slice none 0 0), (.slice none 0 0), (.slice none 0 0), (.slice none 0 0), (.slice none 0 0), (.slice none 0 0), (.slice none 0 0), (.slice none 0 0), (.slice none 0 0), (.slice none 0 0), (.slice none 0 0), (.slice none 0 0), (.slice none 0 0), (.slice none 0 0), (.slice none 0 0), (.slice none 0 0), (.slice none 0 0), (.slice none 0 0), (.slice none 0 0), (.slice none 0 0), (.slice none 0 0), (.slice none 0 0), (.slice none 0 0), (.slice none 0 0), (.slice none 0 0), (.slice none 0 0), (.slice none 0 0), (.slice none 0 0), (.slice none 0 0), (.slice none 0 0), (.slice none 0 0), (.slice none 0 0), (.slice none 0 0), (.slice none 0 0), (.slice none 0 0), (.slice none 0 0), (.slice none 0 0), (.slice none 0 0), (.slice none 0 0), (.slice none 0 0), (.slice none 0 0), (.slice none 0 0), (.slice none 0 0), (.slice none 0 0), (.slice none 0 0), (.slice none 0 0), (.slice none 0 0), (.slice none 0 0), (.slice none 0 0), (.slice none 0 0), (.slice none 0 0), (.slice none 0 0), (.slice none 0 0), (.slice none 0 0), (.slice none 0 0), (.slice none 0 0), (.slice none 0 0), (.slice none 0 0), (.slice none 0 0), (.slice none 0 0), (.slice none 0 0), (.slice none 0 0), (.slice none 0 0), (.slice none 0 0), (.slice none 0 0), (.slice none 0 0), (.slice none 0 0), (.slice none 0 0), (.slice none 0 0), (.slice none 0 0), (.slice none 0 0), (.slice none 0 0), (.slice none 0 0), (.slice none 0 0), (.slice none 0 0), (.slice none 0 0), (.slice none 0 0), (.slice none 0 0), (.slice none 0 0), (.slice none 0 0), (.slice none 0 0), (.slice none 0 0), (.slice none 0 0), (.slice none 0 0), (.slice none 0 0), (.slice none 0 0), (.slice none 0 0), (.slice none 0 0), (.slice none 0 0), (.slice none 0 0), (.slice none 0 0), (.slice none 0 0), (.slice none 0 0), (.slice none 0 0), (.slice none 0 0), (.slice none 0 0), (.slice none 0 0), (.slice none 0 0), (.slice none 0 0), (.slice none 0 0), (.slice none 0 0), (.slice none 0 0), (.slice none 0 0), (.slice none 0 0), (.slice none 0 0), (.slice none 0 0), (.slice none 0 0), (.slice none 0 0), (.slice none 0 0), (.slice none 0 0), (.slice none 0 0), (.slice none 0 0), (.slice none 0 0), (.slice none 0 0), (.slice none 0 0), (.slice none 0 0), (.slice none 0 0), (.slice none 0 0), (.slice none 0 0), (.slice none 0 0), (.slice none 0 0), (.slice none 0 0), (.slice none 0 0), (.slice none 0 0), (.slice none 0 0), (.slice none 0 0), (.slice none 0 0), (.slice none 0 0), (.slice none 0 0), (.slice none 0 0), (.slice none 0 0), (.slice none 0 0), (.slice none 0 0), (.slice none 0 0), (.slice none 0 0), (.slice none 0 0), (.slice none 0 0), (.slice none 0 0), (.slice none 0 0), (.slice none 0 0), (.slice none 0 0), (.slice none 0 0), (.slice none 0 0), (.slice none 0 0), (.slice none 0 0), (.slice none 0 0), (.slice none 0 0), (.slice none 0 0), (.slice none 0 0), (.slice none 0 0), (.slice none 0 0), (.slice none 0 0), (.slice none 0 0), (.slice none 0 0), (.slice none 0 0), (.slice none 0 0), (.slice none 0 0), (.slice none 0 0), (.slice none 0 0), (.slice none 0 0), (.slice none 0 0), (.slice none 0 0), (.slice none 0 0), (.slice none 0 0), (.slice none 0 0), (.slice none 0 0), (.slice none 0 0), (.slice none 0 0), (.slice none 0 0), (.slice none 0 0), (.slice none 0 0), (.slice none 0 0), (.slice none 0 0), (.slice none 0 0), (.slice none 0 0), (.slice none 0 0), (.slice none 0 0), (.slice none 0 0), (.slice none 0 0), (.slice none 0 0), (.slice none 0 0), (.slice none 0 0), (.slice none 0 0), (.slice none 0 0), (.slice none 0 0), (.slice none 0 0), (.slice none 0 0), (.slice none 0 0), (.slice none 0 0), (.slice none 0 0), (.slice none 0 0), (.slice none 0 0), (.slice none 0 0), (.slice none 0 0), (.slice none 0 0), (.slice none 0 0), (.slice none 0 0), (.slice none 0 0), (.slice none 0 0), (.slice none 0 0), (.slice none 0 0), (.slice none 0 0), (.slice none 0 0), (.slice none 0 0), (.slice none 0 0), (.slice none 0 0), (.slice none 0 0), (.slice none 0 0), (.slice none 0 0), (.slice none 0 0), (.slice none 0 0), (.slice none 0 0), (.slice none 0 0), (.slice none 0 0), (.slice none 0 0), (.slice none 0 0), (.slice none 0 0), (.slice none 0 0), (.slice none 0 0), (.slice none 0 0), (.slice none 0 0), (.slice none 0 0), (.slice none 0 0), (.slice none 0 0), (.slice none 0 0), (.slice none 0 0), (.slice none 0 0), (.slice none 0 0), (.slice none 0 0), (.slice none 0 0), (.slice none 0 0), (.slice none 0 0), (.slice none 0 0), (.slice none 0 0), (.slice none 0 0), (.slice none 0 0), (.slice none 0 0), (.slice none 0 0), (.slice none 0 0), (.slice none 0 0), (.slice none 0 0), (.slice none 0 0), (.slice none 0 0), (.slice none 0 0), (.map none)] [(0, 1, (.tmp 10)), (257, 1, (.tmp 11))], none, [], false⟩,
      ⟨(some 13), .box 62 (.tmp 12), none, [], false⟩,
      ⟨(some 2), .mov (.tmp 13), none, [], false⟩,
      ⟨(some 3), .mov (.const (.int .i64 0)), none, [], false⟩]) .ret)))
def zwbQ : AFunc := ⟨14, [(2, none), (3, none)], zwbQ_c, none⟩
theorem zwbQ_t0 : tableOf Try.prog 9 = some zwbQ := by kernel_rfl
theorem zwbQ_t : T0 9 = some zwbQ := withKept_t rfl (withTrue_t rfl zwbQ_t0)
abbrev fn_zacQ : FuncId := 10
def zacQ_c : ACode :=
  (.seq (.region [
      ⟨(some 2), .mov (.const (.int .i64 0)), none, [], false⟩,
      ⟨(some 3), .mov (.const (.bool false)), none, [], false⟩]) (.seq (.seq (.region [
      ⟨(some 4), .mov (.tmp 0), none, [], false⟩,
      ⟨(some 5), .callV (.func 32) [(.tmp 4)], none, [], false⟩,
      ⟨(some 6), .mov (.tmp 5), none, [], false⟩,
      ⟨(some 7), .mov (.tmp 0), (some (6, false)), [], false⟩,
      ⟨(some 8), .nilCheck (.tmp 7), (some (6, false)), [], false⟩,
      ⟨(some 9), .fieldAddr 257 (.tmp 8), (some (6, false)), [], false⟩,
      ⟨(some 10), .load none (.tmp 9), (some (6, false)), [], false⟩,
      ⟨(some 11), .lenMap (.tmp 10), (some (6, false)), [], false⟩,
      ⟨(some 12), .bin .eql (so (.binOp .eql 3 (.tmp 11) (.const (.int .i64 0)) 3) 4) (.tmp 11) (.const (.int .i64 0)), (some (6, false)), [], false⟩,
      ⟨(some 13), .pick (.tmp 6) (.const (.bool true)) (.tmp 12), none, [], false⟩]) (.cond (.tmp 13)
    (.seq (.region [
      ⟨(some 2), .mov (.const (.int .i64 0)), none, [], false⟩,
      ⟨(some 3), .mov (.const (.bool false)), none, [], false⟩]) .ret)
    .skip)) (.seq (.region [
      ⟨(some 14), .mov (.tmp 0), none, [], false⟩,
      ⟨(some 15), .callV (.func 33) [(.tmp 14)], none, [], false⟩,
      ⟨(some 16), .nilCheck (.tmp 15), none, [], false⟩,
      ⟨(some 17), .fieldAddr 1 (.tmp 16), none, [], false⟩,
      ⟨(some 18), .load none (.tmp 17), none, [], false⟩,
      ⟨(some 2), .mov (.tmp 18), none, [], false⟩,
      ⟨(some 3), .mov (.const (.bool true)), none, [], false⟩]) .ret)))
def zacQ : AFunc := ⟨19, [(2, none), (3, none)], zacQ_c, none⟩
theorem zacQ_t0 : tableOf Try.prog 10 = some zacQ := by kernel_rfl
theorem zacQ_t : T0 10 = some zacQ := withKept_t rfl (withTrue_t rfl zacQ_t0)
abbrev fn_zkQ : FuncId := 11
def zkQ_l0 : ACode :=
  (.seq (.seq (.region [
      ⟨(some 12), .mov (.tmp 5), none, [], false⟩,
      ⟨(some 13), .mov (.tmp 12), none, [], false⟩,
      ⟨(some 14), .mov (.tmp 6), (some (13, true)), [], false⟩,
      ⟨(some 15), .mov (.tmp 0), (some (13, true)), [], false⟩,
      ⟨(some 16), .lenSl (.tmp 15), (some (13, true)), [], false⟩,
      ⟨(some 17), .bin .lss (so (.binOp .lss 3 (.tmp 14) (.tmp 16) 3) 4) (.tmp 14) (.tmp 16), (some (13, true)), [], false⟩,
      ⟨(some 18), .pick (.tmp 13) (.tmp 17) (.const (.bool false)), none, [], false⟩]) (.cond (.tmp 18)
    .skip
    (.exit 0))) (.seq (.block 1 (.regionD [
      ⟨(some 21), .mov (.tmp 0), none, [], false⟩,
      ⟨(some 22), .mov (.tmp 6), none, [], false⟩,
      ⟨(some 23), .indexSl 2 (.tmp 21) (.tmp 22), none, [], false⟩,
      ⟨(some 24), .load (some 2) (.tmp 23), none, [], false⟩,
      ⟨(some 25), .mov (.tmp 1), none, [], false⟩,
      ⟨(some 26), .mov (.tmp 6), none, [], false⟩,
      ⟨(some 27), .indexSl 2 (.tmp 25) (.tmp 26), none, [], false⟩,
      ⟨(some 28), .load (some 2) (.tmp 27), none, [], false⟩,
      ⟨(some 29), .bin .eql (so (.binOp .eql 33 (.tmp 24) (.tmp 28) 33) 4) (.tmp 24) (.tmp 28), none, [], true⟩,
      ⟨(some 5), .mov (.tmp 29), none, [], true⟩])) (.region [
      ⟨(some 19), .mov (.tmp 6), none, [], false⟩,
      ⟨(some 20), .bin .add (so (.binOp .add 3 (.tmp 19) (.const (.int .i64 1)) 3) 3) (.tmp 19) (.const (.int .i64 1)), none, [], false⟩,
      ⟨(some 6), .mov (.tmp 20), none, [], false⟩])))
def zkQ_c : ACode :=
  (.seq (.region [
      ⟨(some 4), .mov (.const (.bool false)), none, [], false⟩]) (.seq (.region [
      ⟨(some 7), .mov (.tmp 0), none, [], false⟩,
      ⟨(some 8), .lenSl (.tmp 7), none, [], false⟩,
      ⟨(some 9), .mov (.tmp 1), none, [], false⟩,
      ⟨(some 10), .lenSl (.tmp 9), none, [], false⟩,
      ⟨(some 11), .bin .eql (so (.binOp .eql 3 (.tmp 8) (.tmp 10) 3) 4) (.tmp 8) (.tmp 10), none, [], false⟩,
      ⟨(some 5), .mov (.tmp 11), none, [], false⟩]) (.seq (.seq (.region [
      ⟨(some 6), .mov (.const (.int .i64 0)), none, [], false⟩]) (.block 0 (.loop zkQ_l0))) (.seq (.region [
      ⟨(some 30), .mov (.tmp 5), none, [], false⟩,
      ⟨(some 4), .mov (.tmp 30), none, [], false⟩]) .ret))))
def zkQ : AFunc := ⟨31, [(4, none)], zkQ_c, none⟩
theorem zkQ_t0 : tableOf Try.prog 11 = some zkQ := by kernel_rfl
theorem zkQ_t : T0 11 = some zkQ := withKept_t rfl (withTrue_t rfl zkQ_t0)
abbrev fn_zccQ : FuncId := 12
def zccQ_c : ACode :=
  (.seq (.region [
      ⟨(some 4), .mov (.const (.slice none 0 0)), none, [], false⟩]) (.seq (.seq (.region [
      ⟨(some 5), .mov (.tmp 0), none, [], false⟩,
      ⟨(some 6), .callV (.func 32) [(.tmp 5)], none, [], false⟩,
      ⟨(some 7), .mov (.tmp 6), none, [], false⟩,
      ⟨(some 8), .mov (.tmp 1), (some (7, false)), [], false⟩,
      ⟨(some 9), .bin .lss (so (.binOp .lss 3 (.tmp 8) (.const (.int .i64 0)) 3) 4) (.tmp 8) (.const (.int .i64 0)), (some (7, false)), [], false⟩,
      ⟨(some 10), .pick (.tmp 7) (.const (.bool true)) (.tmp 9), none, [], false⟩,
      ⟨(some 11), .mov (.tmp 10), none, [], false⟩,
      ⟨(some 12), .mov (.tmp 1), (some (11, false)), [], false⟩,
      ⟨(some 13), .mov (.tmp 0), (some (11, false)), [], false⟩,
      ⟨(some 14), .nilCheck (.tmp 13), (some (11, false)), [], false⟩,
      ⟨(some 15), .fieldAddr 0 (.tmp 14), (some (11, false)), [], false⟩,
      ⟨(some 16), .load none (.tmp 15), (some (11, false)), [], false⟩,
      ⟨(some 17), .bin .geq (so (.binOp .geq 3 (.tmp 12) (.tmp 16) 3) 4) (.tmp 12) (.tmp 16), (some (11, false)), [], false⟩,
      ⟨(some 18), .pick (.tmp 11) (.const (.bool true)) (.tmp 17), none, [], false⟩]) (.cond (.tmp 18)
    (.seq (.region [
      ⟨(some 4), .mov (.const (.slice none 0 0)), none, [], false⟩]) .ret)
    .skip)) (.seq (.region [
      ⟨(some 19), .mov (.tmp 0), none, [], false⟩,
      ⟨(some 20), .mov (.tmp 1), none, [], false⟩,
      ⟨(some 21), .nilCheck (.tmp 19), none, [], false⟩,
      ⟨(some 22), .fieldAddr 1 (.tmp 21), none, [], false⟩,
      ⟨(some 23), .indexArr 256 1 (.tmp 22) (.tmp 20), none, [], false⟩,
      ⟨(some 24), .load none (.tmp 23), none, [], false⟩,
      ⟨(some 25), .callV (.func 34) [(.tmp 24)], none, [], false⟩,
      ⟨(some 4), .mov (.tmp 25), none, [], false⟩]) .ret)))
def zccQ : AFunc := ⟨26, [(4, none)], zccQ_c, none⟩
theorem zccQ_t0 : tableOf Try.prog 12 = some zccQ := by kernel_rfl
theorem zccQ_t : T0 12 = some zccQ := withKept_t rfl (withTrue_t rfl zccQ_t0)
abbrev fn_zxbQ : FuncId := 13
def zxbQ_l0 : ACode :=
  (.seq (.seq (.region [
      ⟨(some 10), .mov (.tmp 5), none, [], false⟩,
      ⟨(some 11), .eq .ptr true (so (.binOp .neq 66 (.tmp 10) (.const (.pointer none)) 66) 4) (.tmp 10) (.const (.pointer none)), none, [], false⟩,
      ⟨(some 12), .mov (.tmp 11), none, [], false⟩,
      ⟨(some 13), .mov (.tmp 5), (some (12, true)), [], false⟩,
      ⟨(some 14), .nilCheck (.tmp 13), (some (12, true)), [], false⟩,
      ⟨(some 15), .fieldAddr 1 (.tmp 14), (some (12, true)), [], false⟩,
      ⟨(some 16), .load none (.tmp 15), (some (12, true)), [], false⟩,
      ⟨(some 17), .mov (.tmp 1), (some (12, true)), [], false⟩,
      ⟨(some 18), .bin .leq (so (.binOp .leq 3 (.tmp 16) (.tmp 17) 3) 4) (.tmp 16) (.tmp 17), (some (12, true)), [], false⟩,
      ⟨(some 19), .pick (.tmp 12) (.tmp 18) (.const (.bool false)), none, [], false⟩]) (.cond (.tmp 19)
    .skip
    (.exit 0))) (.seq (.block 1 (.seq (.region [
      ⟨(some 22), .mov (.tmp 4), none, [], false⟩,
      ⟨(some 23), .mov (.tmp 5), none, [], false⟩,
      ⟨(some 24), .nilCheck (.tmp 23), none, [], false⟩,
      ⟨(some 25), .fieldAddr 0 (.tmp 24), none, [], false⟩,
      ⟨(some 26), .load none (.tmp 25), none, [], false⟩,
      ⟨(some 27), .buildSlice 3 [(.int .i64 0)] 1 [(0, 1, (.tmp 26))], none, [], false⟩,
      ⟨(some 28), .append 3 1 8 [(.int .i64 0)] false (.tmp 22) (.tmp 27), none, [], false⟩,
      ⟨(some 4), .mov (.tmp 28), none, [], false⟩]) (.region [
      ⟨(some 29), .mov (.tmp 0), none, [], false⟩,
      ⟨(some 30), .mov (.tmp 5), none, [], false⟩,
      ⟨(some 31), .nilCheck (.tmp 30), none, [], false⟩,
      ⟨(some 32), .fieldAddr 0 (.tmp 31), none, [], false⟩,
      ⟨(some 33), .load none (.tmp 32), none, [], false⟩,
      ⟨(some 34), .callV (.func 15) [(.tmp 29), (.tmp 33)], none, [], false⟩]))) (.region [
      ⟨(some 20), .mov (.tmp 0), none, [], false⟩,
      ⟨(some 21), .callV (.func 33) [(.tmp 20)], none, [], false⟩,
      ⟨(some 5), .mov (.tmp 21), none, [], false⟩])))
def zxbQ_c : ACode :=
  (.seq (.region [
      ⟨(some 4), .mov (.const (.slice none 0 0)), none, [], false⟩]) (.seq (.seq (.region [
      ⟨(some 6), .mov (.tmp 0), none, [], false⟩,
      ⟨(some 7), .callV (.func 32) [(.tmp 6)], none, [], false⟩]) (.cond (.tmp 7)
    (.seq (.region [
      ⟨(some 4), .mov (.const (.slice none 0 0)), none, [], false⟩]) .ret)
    .skip)) (.seq (.seq (.region [
      ⟨(some 8), .mov (.tmp 0), none, [], false⟩,
      ⟨(some 9), .callV (.func 33) [(.tmp 8)], none, [], false⟩,
      ⟨(some 5), .mov (.tmp 9), none, [], false⟩]) (.block 0 (.loop zxbQ_l0))) (.seq (.region [
      ⟨(some 35), .mov (.tmp 4), none, [], false⟩,
      ⟨(some 4), .mov (.tmp 35), none, [], false⟩]) .ret))))
def zxbQ : AFunc := ⟨36, [(4, none)], zxbQ_c, none⟩
theorem zxbQ_t0 : tableOf Try.prog 13 = some zxbQ := by kernel_rfl
theorem zxbQ_t : T0 13 = some zxbQ := withKept_t rfl (withTrue_t rfl zxbQ_t0)
abbrev fn_zbcQ : FuncId := 14
def zbcQ_c : ACode :=
  (.seq (.region [
      ⟨(some 6), .mov (.const (.int .i64 0)), none, [], false⟩]) (.seq (.block 0 (.seq (.region [
      ⟨(some 11), .mov (.tmp 0), none, [], false⟩,
      ⟨(some 12), .callV (.func 32) [(.tmp 11)], none, [], false⟩,
      ⟨(some 10), .mov (.tmp 12), none, [], false⟩]) (.cond (.tmp 10)
    (.seq (.region [
      ⟨(some 6), .mov (.const (.int .i64 1)), none, [], false⟩]) .ret)
    (.seq (.region [
      ⟨(some 14), .mov (.tmp 2), none, [], false⟩,
      ⟨(some 15), .bin .lss (so (.binOp .lss 3 (.tmp 14) (.const (.int .i64 0)) 3) 4) (.tmp 14) (.const (.int .i64 0)), none, [], false⟩,
      ⟨(some 16), .mov (.tmp 15), none, [], false⟩,
      ⟨(some 17), .mov (.tmp 2), (some (16, false)), [], false⟩,
      ⟨(some 18), .bin .gtr (so (.binOp .gtr 3 (.tmp 17) (.const (.int .i64 1099511627776)) 3) 4) (.tmp 17) (.const (.int .i64 1099511627776)), (some (16, false)), [], false⟩,
      ⟨(some 19), .pick (.tmp 16) (.const (.bool true)) (.tmp 18), none, [], false⟩,
      ⟨(some 13), .mov (.tmp 19), none, [], false⟩]) (.cond (.tmp 13)
    (.seq (.region [
      ⟨(some 6), .mov (.const (.int .i64 3)), none, [], false⟩]) .ret)
    .skip))))) (.seq (.seq (.region [
      ⟨(some 21), .mov (.tmp 0), none, [], false⟩,
      ⟨(some 22), .nilCheck (.tmp 21), none, [], false⟩,
      ⟨(some 23), .fieldAddr 257 (.tmp 22), none, [], false⟩,
      ⟨(some 24), .load none (.tmp 23), none, [], false⟩,
      ⟨(some 25), .mov (.tmp 1), none, [], false⟩,
      ⟨(some 26), .lookup (.int .i64) (.pointer none) true (.tmp 24) (.tmp 25), none, [], false⟩,
      ⟨(some 20), .mov (.tmp 26), none, [], false⟩,
      ⟨(some 27), .extract 0 (.tmp 20), none, [], false⟩,
      ⟨(some 28), .extract 1 (.tmp 20), none, [], false⟩,
      ⟨(some 7), .mov (.tmp 27), none, [], false⟩,
      ⟨(some 8), .mov (.tmp 28), none, [], false⟩]) (.seq (.region [
      ⟨(some 29), .mov (.tmp 8), none, [], false⟩]) (.cond (.tmp 29)
    (.seq (.region [
      ⟨(some 6), .mov (.const (.int .i64 8)), none, [], false⟩]) .ret)
    .skip))) (.seq (.region [
      ⟨(some 30), .mov (.tmp 1), none, [], false⟩,
      ⟨(some 31), .mov (.tmp 2), none, [], false⟩,
      ⟨(some 32), .build [(.int .i64 0), (.int .i64 0)] [(0, 1, (.tmp 30)), (1, 1, (.tmp 31))], none, [], false⟩,
      ⟨(some 33), .box 33 (.tmp 32), none, [], false⟩,
      ⟨(some 9), .mov (.tmp 33), none, [], false⟩]) (.seq (.region [
      ⟨(some 34), .mov (.tmp 0), none, [], false⟩,
      ⟨(some 35), .nilCheck (.tmp 34), none, [], false⟩,
      ⟨(some 36), .fieldAddr 257 (.tmp 35), none, [], false⟩,
      ⟨(some 37), .load none (.tmp 36), none, [], false⟩,
      ⟨(some 38), .mov (.tmp 1), none, [], false⟩,
      ⟨(some 39), .mov (.tmp 9), none, [], false⟩,
      ⟨none, .mapUpdate (.int .i64) (.tmp 37) (.tmp 38) (.tmp 39), none, [], false⟩]) (.seq (.region [
      ⟨(some 40), .mov (.tmp 0), none, [], false⟩,
      ⟨(some 41), .mov (.tmp 2), none, [], false⟩,
      ⟨(some 42), .callV (.func 36) [(.tmp 40), (.tmp 41)], none, [], false⟩,
      ⟨(some 43), .mkIface 71 (.tmp 42), none, [], false⟩,
      ⟨(some 44), .mov (.tmp 9), none, [], false⟩,
      ⟨(some 45), .mkIface 66 (.tmp 44), none, [], false⟩,
      ⟨(some 46), .callV (.func 35) [(.tmp 43), (.tmp 45)], none, [], false⟩]) (.seq (.region [
      ⟨(some 6), .mov (.const (.int .i64 0)), none, [], false⟩]) .ret)))))))
def zbcQ : AFunc := ⟨47, [(6, none)], zbcQ_c, none⟩
theorem zbcQ_t0 : tableOf Try.prog 14 = some zbcQ := by kernel_rfl
theorem zbcQ_t : T0 14 = some zbcQ := withKept_t rfl (withTrue_t rfl zbcQ_t0)
abbrev fn_zdcQ : FuncId := 15
def zdcQ_c : ACode :=
  (.seq (.region [
      ⟨(some 4), .mov (.const (.bool false)), none, [], false⟩]) (.seq (.seq (.region [
      ⟨(some 8), .mov (.tmp 0), none, [], false⟩,
      ⟨(some 9), .callV (.func 32) [(.tmp 8)], none, [], false⟩]) (.cond (.tmp 9)
    (.seq (.region [
      ⟨(some 4), .mov (.const (.bool false)), none, [], false⟩]) .ret)
    .skip)) (.seq (.region [
      ⟨(some 11), .mov (.tmp 0), none, [], false⟩,
      ⟨(some 12), .nilCheck (.tmp 11), none, [], false⟩,
      ⟨(some 13), .fieldAddr 257 (.tmp 12), none, [], false⟩,
      ⟨(some 14), .load none (.tmp 13), none, [], false⟩,
      ⟨(some 15), .mov (.tmp 1), none, [], false⟩,
      ⟨(some 16), .lookup (.int .i64) (.pointer none) true (.tmp 14) (.tmp 15), none, [], false⟩,
      ⟨(some 10), .mov (.tmp 16), none, [], false⟩,
      ⟨(some 17), .extract 0 (.tmp 10), none, [], false⟩,
      ⟨(some 18), .extract 1 (.tmp 10), none, [], false⟩,
      ⟨(some 5), .mov (.tmp 17), none, [], false⟩,
      ⟨(some 6), .mov (.tmp 18), none, [], false⟩]) (.seq (.seq (.region [
      ⟨(some 19), .mov (.tmp 6), none, [], false⟩]) (.cond (.tmp 19)
    (.seq (.region [
      ⟨(some 20), .mov (.tmp 0), none, [], false⟩,
      ⟨(some 21), .mov (.tmp 5), none, [], false⟩,
      ⟨(some 22), .nilCheck (.tmp 21), none, [], false⟩,
      ⟨(some 23), .fieldAddr 1 (.tmp 22), none, [], false⟩,
      ⟨(some 24), .load none (.tmp 23), none, [], false⟩,
      ⟨(some 25), .callV (.func 36) [(.tmp 20), (.tmp 24)], none, [], false⟩,
      ⟨(some 7), .mov (.tmp 25), none, [], false⟩]) (.seq (.region [
      ⟨(some 26), .mov (.tmp 7), none, [], false⟩,
      ⟨(some 27), .mkIface 71 (.tmp 26), none, [], false⟩,
      ⟨(some 28), .mov (.tmp 7), none, [], false⟩,
      ⟨(some 29), .nilCheck (.tmp 28), none, [], false⟩,
      ⟨(some 30), .load none (.tmp 29), none, [], false⟩,
      ⟨(some 31), .mov (.tmp 5), none, [], false⟩,
      ⟨(some 32), .callV (.func 38) [(.tmp 30), (.tmp 31)], none, [], false⟩,
      ⟨(some 33), .callV (.func 37) [(.tmp 27), (.tmp 32)], none, [], false⟩]) (.region [
      ⟨(some 34), .mov (.tmp 0), none, [], false⟩,
      ⟨(some 35), .nilCheck (.tmp 34), none, [], false⟩,
      ⟨(some 36), .fieldAddr 257 (.tmp 35), none, [], false⟩,
      ⟨(some 37), .load none (.tmp 36), none, [], false⟩,
      ⟨(some 38), .mov (.tmp 1), none, [], false⟩,
      ⟨none, .delete (.int .i64) (.tmp 37) (.tmp 38), none, [], false⟩])))
    .skip)) (.seq (.region [
      ⟨(some 39), .mov (.tmp 6), none, [], false⟩,
      ⟨(some 4), .mov (.tmp 39), none, [], false⟩]) .ret)))))
def zdcQ : AFunc := ⟨40, [(4, none)], zdcQ_c, none⟩
theorem zdcQ_t0 : tableOf Try.prog 15 = some zdcQ := by kernel_rfl
theorem zdcQ_t : T0 15 = some zdcQ := withKept_t rfl (withTrue_t rfl zdcQ_t0)
abbrev fn_zecQ : FuncId := 16
def zecQ_c : ACode :=
  (.seq (.region [
      ⟨(some 4), .mov (.const (.int .i64 0)), none, [], false⟩,
      ⟨(some 5), .mov (.const (.bool false)), none, [], false⟩]) (.seq (.seq (.region [
      ⟨(some 8), .mov (.tmp 0), none, [], false⟩,
      ⟨(some 9), .callV (.func 32) [(.tmp 8)], none, [], false⟩]) (.cond (.tmp 9)
    (.seq (.region [
      ⟨(some 4), .mov (.const (.int .i64 0)), none, [], false⟩,
      ⟨(some 5), .mov (.const (.bool false)), none, [], false⟩]) .ret)
    .skip)) (.seq (.region [
      ⟨(some 11), .mov (.tmp 0), none, [], false⟩,
      ⟨(some 12), .nilCheck (.tmp 11), none, [], false⟩,
      ⟨(some 13), .fieldAddr 257 (.tmp 12), none, [], false⟩,
      ⟨(some 14), .load none (.tmp 13), none, [], false⟩,
      ⟨(some 15), .mov (.tmp 1), none, [], false⟩,
      ⟨(some 16), .lookup (.int .i64) (.pointer none) true (.tmp 14) (.tmp 15), none, [], false⟩,
      ⟨(some 10), .mov (.tmp 16), none, [], false⟩,
      ⟨(some 17), .extract 0 (.tmp 10), none, [], false⟩,
      ⟨(some 18), .extract 1 (.tmp 10), none, [], false⟩,
      ⟨(some 6), .mov (.tmp 17), none, [], false⟩,
      ⟨(some 7), .mov (.tmp 18), none, [], false⟩]) (.seq (.seq (.region [
      ⟨(some 19), .mov (.tmp 7), none, [], false⟩,
      ⟨(some 20), .raw (so (.unOp .not 4 (.tmp 19)) 4), none, [], false⟩]) (.cond (.tmp 20)
    (.seq (.region [
      ⟨(some 4), .mov (.const (.int .i64 0)), none, [], false⟩,
      ⟨(some 5), .mov (.const (.bool false)), none, [], false⟩]) .ret)
    .skip)) (.seq (.region [
      ⟨(some 21), .mov (.tmp 6), none, [], false⟩,
      ⟨(some 22), .nilCheck (.tmp 21), none, [], false⟩,
      ⟨(some 23), .fieldAddr 1 (.tmp 22), none, [], false⟩,
      ⟨(some 24), .load none (.tmp 23), none, [], false⟩,
      ⟨(some 4), .mov (.tmp 24), none, [], false⟩,
      ⟨(some 5), .mov (.const (.bool true)), none, [], false⟩]) .ret)))))
def zecQ : AFunc := ⟨25, [(4, none), (5, none)], zecQ_c, none⟩
theorem zecQ_t0 : tableOf Try.prog 16 = some zecQ := by kernel_rfl
theorem zecQ_t : T0 16 = some zecQ := withKept_t rfl (withTrue_t rfl zecQ_t0)
abbrev fn_znQ : FuncId := 17
def znQ_c : ACode :=
  (.seq (.region [
      ⟨(some 0), .mov (.const (.bool false)), none, [], false⟩]) (.seq (.region [
      ⟨(some 2), .callV (.func 8) [], none, [], false⟩,
      ⟨(some 1), .mov (.tmp 2), none, [], false⟩]) (.seq (.region [
      ⟨(some 3), .mov (.tmp 1), none, [], false⟩,
      ⟨(some 4), .eq .ptr true (so (.binOp .neq 22 (.tmp 3) (.const (.pointer none)) 22) 4) (.tmp 3) (.const (.pointer none)), none, [], false⟩,
      ⟨(some 5), .mov (.tmp 4), none, [], false⟩,
      ⟨(some 6), .mov (.tmp 1), (some (5, true)), [], false⟩,
      ⟨(some 7), .callV (.func 14) [(.tmp 6), (.const (.int .i64 1)), (.const (.int .i64 7))], (some (5, true)), [], false⟩,
      ⟨(some 8), .bin .eql (so (.binOp .eql 24 (.tmp 7) (.const (.int .i64 8)) 24) 4) (.tmp 7) (.const (.int .i64 8)), (some (5, true)), [], false⟩,
      ⟨(some 9), .pick (.tmp 5) (.tmp 8) (.const (.bool false)), none, [], false⟩,
      ⟨(some 10), .mov (.tmp 9), none, [], false⟩,
      ⟨(some 11), .mov (.tmp 1), (some (10, true)), [], false⟩,
      ⟨(some 12), .callV (.func 21) [(.tmp 11)], (some (10, true)), [], false⟩,
      ⟨(some 13), .bin .eql (so (.binOp .eql 3 (.tmp 12) (.const (.int .i64 3)) 3) 4) (.tmp 12) (.const (.int .i64 3)), (some (10, true)), [], false⟩,
      ⟨(some 14), .pick (.tmp 10) (.tmp 13) (.const (.bool false)), none, [], false⟩,
      ⟨(some 15), .mov (.tmp 14), none, [], false⟩,
      ⟨(some 16), .mov (.tmp 1), (some (15, true)), [], false⟩,
      ⟨(some 17), .callV (.func 13) [(.tmp 16), (.const (.int .i64 4))], (some (15, true)), [], false⟩,
      ⟨(some 18), .lenSl (.tmp 17), (some (15, true)), [], false⟩,
      ⟨(some 19), .bin .eql (so (.binOp .eql 3 (.tmp 18) (.const (.int .i64 0)) 3) 4) (.tmp 18) (.const (.int .i64 0)), (some (15, true)), [], false⟩,
      ⟨(some 20), .pick (.tmp 15) (.tmp 19) (.const (.bool false)), none, [], false⟩,
      ⟨(some 21), .mov (.tmp 20), none, [], false⟩,
      ⟨(some 22), .mov (.tmp 1), (some (21, true)), [], false⟩,
      ⟨(some 23), .callV (.func 13) [(.tmp 22), (.const (.int .i64 5))], (some (21, true)), [], false⟩,
      ⟨(some 24), .buildSlice 3 [(.int .i64 0), (.int .i64 0)] 2 [(0, 1, (.const (.int .i64 2))), (1, 1, (.const (.int .i64 3)))], (some (21, true)), [], false⟩,
      ⟨(some 25), .callV (.func 20) [(.tmp 23), (.tmp 24)], (some (21, true)), [], false⟩,
      ⟨(some 26), .pick (.tmp 21) (.tmp 25) (.const (.bool false)), none, [], false⟩,
      ⟨(some 27), .mov (.tmp 26), none, [], false⟩,
      ⟨(some 28), .mov (.tmp 1), (some (27, true)), [], false⟩,
      ⟨(some 29), .callV (.func 13) [(.tmp 28), (.const (.int .i64 99))], (some (27, true)), [], false⟩,
      ⟨(some 30), .buildSlice 3 [(.int .i64 0)] 1 [(0, 1, (.const (.int .i64 1)))], (some (27, true)), [], false⟩,
      ⟨(some 31), .callV (.func 20) [(.tmp 29), (.tmp 30)], (some (27, true)), [], false⟩,
      ⟨(some 32), .pick (.tmp 27) (.tmp 31) (.const (.bool false)), none, [], false⟩,
      ⟨(some 0), .mov (.tmp 32), none, [], false⟩]) .ret)))
def znQ : AFunc := ⟨33, [(0, none)], znQ_c, none⟩
theorem znQ_t0 : tableOf Try.prog 17 = some znQ := by kernel_rfl
abbrev fn_zjQ : FuncId := 20
def zjQ_l0 : ACode :=
  (.seq (.seq (.region [
      ⟨(some 12), .mov (.tmp 5), none, [], false⟩,
      ⟨(some 13), .mov (.tmp 12), none, [], false⟩,
      ⟨(some 14), .mov (.tmp 6), (some (13, true)), [], false⟩,
      ⟨(some 15), .mov (.tmp 0), (some (13, true)), [], false⟩,
      ⟨(some 16), .lenSl (.tmp 15), (some (13, true)), [], false⟩,
      ⟨(some 17), .bin .lss (so (.binOp .lss 3 (.tmp 14) (.tmp 16) 3) 4) (.tmp 14) (.tmp 16), (some (13, true)), [], false⟩,
      ⟨(some 18), .pick (.tmp 13) (.tmp 17) (.const (.bool false)), none, [], false⟩]) (.cond (.tmp 18)
    .skip
    (.exit 0))) (.seq (.block 1 (.regionD [
      ⟨(some 21), .mov (.tmp 0), none, [], false⟩,
      ⟨(some 22), .mov (.tmp 6), none, [], false⟩,
      ⟨(some 23), .indexSl 1 (.tmp 21) (.tmp 22), none, [], false⟩,
      ⟨(some 24), .load none (.tmp 23), none, [], false⟩,
      ⟨(some 25), .mov (.tmp 1), none, [], false⟩,
      ⟨(some 26), .mov (.tmp 6), none, [], false⟩,
      ⟨(some 27), .indexSl 1 (.tmp 25) (.tmp 26), none, [], false⟩,
      ⟨(some 28), .load none (.tmp 27), none, [], false⟩,
      ⟨(some 29), .bin .eql (so (.binOp .eql 3 (.tmp 24) (.tmp 28) 3) 4) (.tmp 24) (.tmp 28), none, [], true⟩,
      ⟨(some 5), .mov (.tmp 29), none, [], true⟩])) (.region [
      ⟨(some 19), .mov (.tmp 6), none, [], false⟩,
      ⟨(some 20), .bin .add (so (.binOp .add 3 (.tmp 19) (.const (.int .i64 1)) 3) 3) (.tmp 19) (.const (.int .i64 1)), none, [], false⟩,
      ⟨(some 6), .mov (.tmp 20), none, [], false⟩])))
def zjQ_c : ACode :=
  (.seq (.region [
      ⟨(some 4), .mov (.const (.bool false)), none, [], false⟩]) (.seq (.region [
      ⟨(some 7), .mov (.tmp 0), none, [], false⟩,
      ⟨(some 8), .lenSl (.tmp 7), none, [], false⟩,
      ⟨(some 9), .mov (.tmp 1), none, [], false⟩,
      ⟨(some 10), .lenSl (.tmp 9), none, [], false⟩,
      ⟨(some 11), .bin .eql (so (.binOp .eql 3 (.tmp 8) (.tmp 10) 3) 4) (.tmp 8) (.tmp 10), none, [], false⟩,
      ⟨(some 5), .mov (.tmp 11), none, [], false⟩]) (.seq (.seq (.region [
      ⟨(some 6), .mov (.const (.int .i64 0)), none, [], false⟩]) (.block 0 (.loop zjQ_l0))) (.seq (.region [
      ⟨(some 30), .mov (.tmp 5), none, [], false⟩,
      ⟨(some 4), .mov (.tmp 30), none, [], false⟩]) .ret))))
def zjQ : AFunc := ⟨31, [(4, none)], zjQ_c, none⟩
theorem zjQ_t0 : tableOf Try.prog 20 = some zjQ := by kernel_rfl
theorem zjQ_t : T0 20 = some zjQ := withKept_t rfl (withTrue_t rfl zjQ_t0)
abbrev fn_zybQ : FuncId := 21
def zybQ_c : ACode :=
  (.seq (.region [
      ⟨(some 2), .mov (.const (.int .i64 0)), none, [], false⟩]) (.seq (.seq (.region [
      ⟨(some 3), .mov (.tmp 0), none, [], false⟩,
      ⟨(some 4), .callV (.func 32) [(.tmp 3)], none, [], false⟩]) (.cond (.tmp 4)
    (.seq (.region [
      ⟨(some 2), .mov (.const (.int .i64 0)), none, [], false⟩]) .ret)
    .skip)) (.seq (.region [
      ⟨(some 5), .mov (.tmp 0), none, [], false⟩,
      ⟨(some 6), .nilCheck (.tmp 5), none, [], false⟩,
      ⟨(some 7), .fieldAddr 257 (.tmp 6), none, [], false⟩,
      ⟨(some 8), .load none (.tmp 7), none, [], false⟩,
      ⟨(some 9), .lenMap (.tmp 8), none, [], false⟩,
      ⟨(some 2), .mov (.tmp 9), none, [], false⟩]) .ret)))
def zybQ : AFunc := ⟨10, [(2, none)], zybQ_c, none⟩
theorem zybQ_t0 : tableOf Try.prog 21 = some zybQ := by kernel_rfl
theorem zybQ_t : T0 21 = some zybQ := withKept_t rfl (withTrue_t rfl zybQ_t0)
abbrev fn_zhcQ : FuncId := 32
def zhcQ_c : ACode :=
  (.seq (.region [
      ⟨(some 2), .mov (.const (.bool false)), none, [], false⟩]) (.seq (.region [
      ⟨(some 3), .mov (.tmp 0), none, [], false⟩,
      ⟨(some 4), .eq .ptr false (so (.binOp .eql 22 (.tmp 3) (.const (.pointer none)) 22) 4) (.tmp 3) (.const (.pointer none)), none, [], false⟩,
      ⟨(some 5), .mov (.tmp 4), none, [], false⟩,
      ⟨(some 6), .mov (.tmp 0), (some (5, false)), [], false⟩,
      ⟨(some 7), .nilCheck (.tmp 6), (some (5, false)), [], false⟩,
      ⟨(some 8), .fieldAddr 0 (.tmp 7), (some (5, false)), [], false⟩,
      ⟨(some 9), .load none (.tmp 8), (some (5, false)), [], false⟩,
      ⟨(some 10), .bin .eql (so (.binOp .eql 3 (.tmp 9) (.const (.int .i64 0)) 3) 4) (.tmp 9) (.const (.int .i64 0)), (some (5, false)), [], false⟩,
      ⟨(some 11), .pick (.tmp 5) (.const (.bool true)) (.tmp 10), none, [], false⟩,
      ⟨(some 2), .mov (.tmp 11), none, [], false⟩]) .ret))
def zhcQ : AFunc := ⟨12, [(2, none)], zhcQ_c, none⟩
theorem zhcQ_t0 : tableOf Try.prog 32 = some zhcQ := by kernel_rfl
theorem zhcQ_t : T0 32 = some zhcQ := withKept_t rfl (withTrue_t rfl zhcQ_t0)
abbrev fn_zgcQ : FuncId := 33
def zgcQ_l0 : ACode :=
  (.seq (.region [
      ⟨(some 6), .bin .lss (so (.binOp .lss 3 (.tmp 5) (.const (.int .i64 256)) 3) 0) (.tmp 5) (.const (.int .i64 256)), none, [], false⟩]) (.seq (.cond (.tmp 6)
    .skip
    (.exit 0)) (.seq (.block 1 (.seq (.region [
      ⟨(some 7), .mov (.tmp 5), none, [], false⟩,
      ⟨(some 3), .mov (.tmp 7), none, [], false⟩]) (.seq (.region [
      ⟨(some 8), .mov (.tmp 0), none, [], false⟩,
      ⟨(some 9), .mov (.tmp 3), none, [], false⟩,
      ⟨(some 10), .nilCheck (.tmp 8), none, [], false⟩,
      ⟨(some 11), .fieldAddr 1 (.tmp 10), none, [], false⟩,
      ⟨(some 12), .indexArr 256 1 (.tmp 11) (.tmp 9), none, [], false⟩,
      ⟨(some 4), .mov (.tmp 12), none, [], false⟩]) (.seq (.region [
      ⟨(some 13), .mov (.tmp 4), none, [], false⟩,
      ⟨(some 14), .nilCheck (.tmp 13), none, [], false⟩,
      ⟨(some 15), .load none (.tmp 14), none, [], false⟩,
      ⟨(some 16), .callV (.func 40) [(.tmp 15)], none, [], false⟩,
      ⟨(some 17), .bin .gtr (so (.binOp .gtr 3 (.tmp 16) (.const (.int .i64 0)) 3) 4) (.tmp 16) (.const (.int .i64 0)), none, [], false⟩,
      ⟨(some 18), .mov (.tmp 17), none, [], false⟩,
      ⟨(some 19), .mov (.tmp 2), (some (18, true)), [], false⟩,
      ⟨(some 20), .eq .ptr false (so (.binOp .eql 66 (.tmp 19) (.const (.pointer none)) 66) 4) (.tmp 19) (.const (.pointer none)), (some (18, true)), [], false⟩,
      ⟨(some 21), .mov (.tmp 20), (some (18, true)), [], false⟩,
      ⟨(some 22), .mov (.tmp 4), (some (21, false)), [], false⟩,
      ⟨(some 23), .nilCheck (.tmp 22), (some (21, false)), [], false⟩,
      ⟨(some 24), .load none (.tmp 23), (some (21, false)), [], false⟩,
      ⟨(some 25), .indexSl 1 (.tmp 24) (.const (.int .i64 0)), (some (21, false)), [], false⟩,
      ⟨(some 26), .load none (.tmp 25), (some (21, false)), [], false⟩,
      ⟨(some 27), .mov (.tmp 2), (some (21, false)), [], false⟩,
      ⟨(some 28), .callV (.func 41) [(.tmp 26), (.tmp 27)], (some (21, false)), [], false⟩,
      ⟨(some 29), .bin .lss (so (.binOp .lss 3 (.tmp 28) (.const (.int .i64 0)) 3) 4) (.tmp 28) (.const (.int .i64 0)), (some (21, false)), [], false⟩,
      ⟨(some 30), .pick (.tmp 21) (.const (.bool true)) (.tmp 29), (some (18, true)), [], false⟩,
      ⟨(some 31), .pick (.tmp 18) (.tmp 30) (.const (.bool false)), none, [], false⟩]) (.cond (.tmp 31)
    (.region [
      ⟨(some 32), .mov (.tmp 4), none, [], false⟩,
      ⟨(some 33), .nilCheck (.tmp 32), none, [], false⟩,
      ⟨(some 34), .load none (.tmp 33), none, [], false⟩,
      ⟨(some 35), .indexSl 1 (.tmp 34) (.const (.int .i64 0)), none, [], false⟩,
      ⟨(some 36), .load none (.tmp 35), none, [], false⟩,
      ⟨(some 2), .mov (.tmp 36), none, [], false⟩])
    .skip))))) (.region [
      ⟨(some 37), .bin .add (so (.binOp .add 3 (.tmp 5) (.const (.int .i64 1)) 3) 3) (.tmp 5) (.const (.int .i64 1)), none, [], false⟩,
      ⟨(some 5), .mov (.tmp 37), none, [], false⟩]))))
def zgcQ_c : ACode :=
  (.seq (.region [
      ⟨(some 2), .mov (.const (.pointer none)), none, [], false⟩]) (.seq (.seq (.region [
      ⟨(some 5), .mov (.const (.int .i64 0)), none, [], false⟩]) (.block 0 (.loop zgcQ_l0))) (.seq (.region [
      ⟨(some 38), .mov (.tmp 2), none, [], false⟩,
      ⟨(some 2), .mov (.tmp 38), none, [], false⟩]) .ret)))
def zgcQ : AFunc := ⟨39, [(2, none)], zgcQ_c, none⟩
theorem zgcQ_t0 : tableOf Try.prog 33 = some zgcQ := by kernel_rfl
theorem zgcQ_t : T0 33 = some zgcQ := withKept_t rfl (withTrue_t rfl zgcQ_t0)
abbrev fn_zocQ : FuncId := 34
def zocQ_l0 : ACode :=
  (.seq (.region [
      ⟨(some 10), .bin .lss (so (.binOp .lss 3 (.tmp 9) (.tmp 8) 3) 0) (.tmp 9) (.tmp 8), none, [], false⟩]) (.seq (.cond (.tmp 10)
    .skip
    (.exit 0)) (.seq (.block 1 (.seq (.region [
      ⟨(some 11), .indexSl 1 (.tmp 7) (.tmp 9), none, [], false⟩,
      ⟨(some 12), .load none (.tmp 11), none, [], false⟩,
      ⟨(some 4), .mov (.tmp 12), none, [], false⟩]) (.region [
      ⟨(some 13), .mov (.tmp 2), none, [], false⟩,
      ⟨(some 14), .mov (.tmp 4), none, [], false⟩,
      ⟨(some 15), .nilCheck (.tmp 14), none, [], false⟩,
      ⟨(some 16), .load (some 2) (.tmp 15), none, [], false⟩,
      ⟨(some 17), .buildSlice 33 [(.int .i64 0), (.int .i64 0)] 1 [(0, 2, (.tmp 16))], none, [], false⟩,
      ⟨(some 18), .append 33 2 16 [(.int .i64 0), (.int .i64 0)] false (.tmp 13) (.tmp 17), none, [], false⟩,
      ⟨(some 2), .mov (.tmp 18), none, [], false⟩]))) (.region [
      ⟨(some 19), .bin .add (so (.binOp .add 3 (.tmp 9) (.const (.int .i64 1)) 3) 3) (.tmp 9) (.const (.int .i64 1)), none, [], false⟩,
      ⟨(some 9), .mov (.tmp 19), none, [], false⟩]))))
def zocQ_c : ACode :=
  (.seq (.region [
      ⟨(some 2), .mov (.const (.slice none 0 0)), none, [], false⟩]) (.seq (.seq (.region [
      ⟨(some 5), .mov (.tmp 0), none, [], false⟩,
      ⟨(some 6), .callV (.func 43) [(.tmp 5)], none, [], false⟩,
      ⟨(some 7), .callV (.func 42) [(.tmp 6), (.func 41)], none, [], false⟩,
      ⟨(some 8), .lenSl (.tmp 7), none, [], false⟩,
      ⟨(some 9), .mov (.const (.int .i64 0)), none, [], false⟩]) (.block 0 (.loop zocQ_l0))) (.seq (.region [
      ⟨(some 20), .mov (.tmp 2), none, [], false⟩,
      ⟨(some 2), .mov (.tmp 20), none, [], false⟩]) .ret)))
def zocQ : AFunc := ⟨21, [(2, none)], zocQ_c, none⟩
theorem zocQ_t0 : tableOf Try.prog 34 = some zocQ := by kernel_rfl
theorem zocQ_t : T0 34 = some zocQ := withKept_t rfl (withTrue_t rfl zocQ_t0)
abbrev fn_zdQ : FuncId := 35
def zdQ_c : ACode :=
  (.seq (.region [
      ⟨(some 4), .mov (.tmp 0), none, [], false⟩,
      ⟨(some 5), .mov (.tmp 1), none, [], false⟩,
      ⟨(some 6), .invoke (.tmp 4) "Push" [(.tmp 5)], none, [], false⟩]) (.region [
      ⟨(some 7), .mov (.tmp 0), none, [], false⟩,
      ⟨(some 8), .mov (.tmp 0), none, [], false⟩,
      ⟨(some 9), .invoke (.tmp 8) "Len" [], none, [], false⟩,
      ⟨(some 10), .bin .sub (so (.binOp .sub 3 (.tmp 9) (.const (.int .i64 1)) 3) 3) (.tmp 9) (.const (.int .i64 1)), none, [], false⟩,
      ⟨(some 11), .callV (.func 44) [(.tmp 7), (.tmp 10)], none, [], false⟩]))
def zdQ : AFunc := ⟨12, [], zdQ_c, none⟩
theorem zdQ_t0 : tableOf Try.prog 35 = some zdQ := by kernel_rfl
theorem zdQ_t : T0 35 = some zdQ := withKept_t rfl (withTrue_t rfl zdQ_t0)
abbrev fn_zfcQ : FuncId := 36
def zfcQ_c : ACode :=
  (.seq (.region [
      ⟨(some 4), .mov (.const (.pointer none)), none, [], false⟩]) (.seq (.regionD [
      ⟨(some 5), .mov (.tmp 0), none, [], false⟩,
      ⟨(some 6), .mov (.tmp 1), none, [], false⟩,
      ⟨(some 7), .mov (.tmp 0), none, [], false⟩,
      ⟨(some 8), .nilCheck (.tmp 7), none, [], false⟩,
      ⟨(some 9), .fieldAddr 0 (.tmp 8), none, [], false⟩,
      ⟨(some 10), .load none (.tmp 9), none, [], false⟩,
      ⟨(some 11), .bin .rem (so (.binOp .rem 3 (.tmp 6) (.tmp 10) 3) 3) (.tmp 6) (.tmp 10), none, [], false⟩,
      ⟨(some 12), .nilCheck (.tmp 5), none, [], false⟩,
      ⟨(some 13), .fieldAddr 1 (.tmp 12), none, [], false⟩,
      ⟨(some 14), .indexArr 256 1 (.tmp 13) (.tmp 11), none, [], true⟩,
      ⟨(some 4), .mov (.tmp 14), none, [], true⟩]) .ret))
def zfcQ : AFunc := ⟨15, [(4, none)], zfcQ_c, none⟩
theorem zfcQ_t0 : tableOf Try.prog 36 = some zfcQ := by kernel_rfl
theorem zfcQ_t : T0 36 = some zfcQ := withKept_t rfl (withTrue_t rfl zfcQ_t0)
abbrev fn_zeQ : FuncId := 37
def zeQ_c : ACode :=
  (.seq (.region [
      ⟨(some 4), .mov (.const .nilIface), none, [], false⟩]) (.seq (.region [
      ⟨(some 6), .mov (.tmp 0), none, [], false⟩,
      ⟨(some 7), .invoke (.tmp 6) "Len" [], none, [], false⟩,
      ⟨(some 8), .bin .sub (so (.binOp .sub 3 (.tmp 7) (.const (.int .i64 1)) 3) 3) (.tmp 7) (.const (.int .i64 1)), none, [], false⟩,
      ⟨(some 5), .mov (.tmp 8), none, [], false⟩]) (.seq (.seq (.region [
      ⟨(some 9), .mov (.tmp 5), none, [], false⟩,
      ⟨(some 10), .mov (.tmp 1), none, [], false⟩,
      ⟨(some 11), .bin .neq (so (.binOp .neq 3 (.tmp 9) (.tmp 10) 3) 4) (.tmp 9) (.tmp 10), none, [], false⟩]) (.cond (.tmp 11)
    (.seq (.region [
      ⟨(some 12), .mov (.tmp 0), none, [], false⟩,
      ⟨(some 13), .mov (.tmp 1), none, [], false⟩,
      ⟨(some 14), .mov (.tmp 5), none, [], false⟩,
      ⟨(some 15), .invoke (.tmp 12) "Swap" [(.tmp 13), (.tmp 14)], none, [], false⟩]) (.seq (.region [
      ⟨(some 16), .mov (.tmp 0), none, [], false⟩,
      ⟨(some 17), .mov (.tmp 1), none, [], false⟩,
      ⟨(some 18), .mov (.tmp 5), none, [], false⟩,
      ⟨(some 19), .callV (.func 45) [(.tmp 16), (.tmp 17), (.tmp 18)], none, [], false⟩,
      ⟨(some 20), .raw (so (.unOp .not 4 (.tmp 19)) 4), none, [], false⟩]) (.cond (.tmp 20)
    (.region [
      ⟨(some 21), .mov (.tmp 0), none, [], false⟩,
      ⟨(some 22), .mov (.tmp 1), none, [], false⟩,
      ⟨(some 23), .callV (.func 44) [(.tmp 21), (.tmp 22)], none, [], false⟩])
    .skip)))
    .skip)) (.seq (.region [
      ⟨(some 24), .mov (.tmp 0), none, [], false⟩,
      ⟨(some 25), .invoke (.tmp 24) "Pop" [], none, [], false⟩,
      ⟨(some 4), .mov (.tmp 25), none, [], false⟩]) .ret))))
def zeQ : AFunc := ⟨26, [(4, none)], zeQ_c, none⟩
theorem zeQ_t0 : tableOf Try.prog 37 = some zeQ := by kernel_rfl
theorem zeQ_t : T0 37 = some zeQ := withKept_t rfl (withTrue_t rfl zeQ_t0)
abbrev fn_zcbQ : FuncId := 38
def zcbQ_l0 : ACode :=
  (.seq (.region [
      ⟨(some 9), .bin .lss (so (.binOp .lss 3 (.tmp 8) (.tmp 7) 3) 0) (.tmp 8) (.tmp 7), none, [], false⟩]) (.seq (.cond (.tmp 9)
    .skip
    (.exit 0)) (.seq (.block 1 (.seq (.region [
      ⟨(some 10), .mov (.tmp 8), none, [], false⟩,
      ⟨(some 5), .mov (.tmp 10), none, [], false⟩]) (.seq (.region [
      ⟨(some 11), .mov (.tmp 1), none, [], false⟩,
      ⟨(some 12), .mov (.tmp 0), none, [], false⟩,
      ⟨(some 13), .mov (.tmp 5), none, [], false⟩,
      ⟨(some 14), .indexSl 1 (.tmp 12) (.tmp 13), none, [], false⟩,
      ⟨(some 15), .load none (.tmp 14), none, [], false⟩,
      ⟨(some 16), .eq .ptr false (so (.binOp .eql 66 (.tmp 11) (.tmp 15) 66) 4) (.tmp 11) (.tmp 15), none, [], false⟩]) (.cond (.tmp 16)
    (.seq (.region [
      ⟨(some 17), .mov (.tmp 5), none, [], false⟩,
      ⟨(some 4), .mov (.tmp 17), none, [], false⟩]) .ret)
    .skip)))) (.region [
      ⟨(some 18), .bin .add (so (.binOp .add 3 (.tmp 8) (.const (.int .i64 1)) 3) 3) (.tmp 8) (.const (.int .i64 1)), none, [], false⟩,
      ⟨(some 8), .mov (.tmp 18), none, [], false⟩]))))
def zcbQ_c : ACode :=
  (.seq (.region [
      ⟨(some 4), .mov (.const (.int .i64 0)), none, [], false⟩]) (.seq (.seq (.region [
      ⟨(some 6), .mov (.tmp 0), none, [], false⟩,
      ⟨(some 7), .lenSl (.tmp 6), none, [], false⟩,
      ⟨(some 8), .mov (.const (.int .i64 0)), none, [], false⟩]) (.block 0 (.loop zcbQ_l0))) (.seq (.region [
      ⟨(some 4), .mov (.const (.int .i64 (-1))), none, [], false⟩]) .ret)))
def zcbQ : AFunc := ⟨19, [(4, none)], zcbQ_c, none⟩
theorem zcbQ_t0 : tableOf Try.prog 38 = some zcbQ := by kernel_rfl
theorem zcbQ_t : T0 38 = some zcbQ := withKept_t rfl (withTrue_t rfl zcbQ_t0)
abbrev fn_zjcQ : FuncId := 40
def zjcQ_c : ACode :=
  (.seq (.region [
      ⟨(some 2), .mov (.const (.int .i64 0)), none, [], false⟩]) (.seq (.region [
      ⟨(some 3), .mov (.tmp 0), none, [], false⟩,
      ⟨(some 4), .lenSl (.tmp 3), none, [], false⟩,
      ⟨(some 2), .mov (.tmp 4), none, [], false⟩]) .ret))
def zjcQ : AFunc := ⟨5, [(2, none)], zjcQ_c, none⟩
theorem zjcQ_t0 : tableOf Try.prog 40 = some zjcQ := by kernel_rfl
theorem zjcQ_t : T0 40 = some zjcQ := withKept_t rfl (withTrue_t rfl zjcQ_t0)
abbrev fn_zicQ : FuncId := 41
def zicQ_c : ACode :=
  (.seq (.region [
      ⟨(some 4), .mov (.const (.int .i64 0)), none, [], false⟩]) (.seq (.regionD [
      ⟨(some 5), .mov (.tmp 0), none, [], false⟩,
      ⟨(some 6), .nilCheck (.tmp 5), none, [], false⟩,
      ⟨(some 7), .fieldAddr 1 (.tmp 6), none, [], false⟩,
      ⟨(some 8), .load none (.tmp 7), none, [], false⟩,
      ⟨(some 9), .mov (.tmp 1), none, [], false⟩,
      ⟨(some 10), .nilCheck (.tmp 9), none, [], false⟩,
      ⟨(some 11), .fieldAddr 1 (.tmp 10), none, [], false⟩,
      ⟨(some 12), .load none (.tmp 11), none, [], false⟩,
      ⟨(some 14), .mov (.tmp 0), none, [], false⟩,
      ⟨(some 15), .nilCheck (.tmp 14), none, [], false⟩,
      ⟨(some 16), .fieldAddr 0 (.tmp 15), none, [], false⟩,
      ⟨(some 17), .load none (.tmp 16), none, [], false⟩,
      ⟨(some 18), .mov (.tmp 1), none, [], false⟩,
      ⟨(some 19), .nilCheck (.tmp 18), none, [], false⟩,
      ⟨(some 20), .fieldAddr 0 (.tmp 19), none, [], false⟩,
      ⟨(some 21), .load none (.tmp 20), none, [], false⟩,
      ⟨(some 13), .callV (.func 47) [(.tmp 8), (.tmp 12)], none, [((some 21), .load none (.tmp 20), none), ((some 20), .fieldAddr 0 (.tmp 19), none), ((some 19), .nilCheck (.tmp 18), none), ((some 18), .mov (.tmp 1), none), ((some 17), .load none (.tmp 16), none), ((some 16), .fieldAddr 0 (.tmp 15), none), ((some 15), .nilCheck (.tmp 14), none), ((some 14), .mov (.tmp 0), none)], false⟩,
      ⟨(some 22), .callV (.func 47) [(.tmp 17), (.tmp 21)], none, [], true⟩,
      ⟨(some 23), .buildSlice 3 [(.int .i64 0), (.int .i64 0)] 2 [(0, 1, (.tmp 13)), (1, 1, (.tmp 22))], none, [], true⟩,
      ⟨(some 24), .callV (.func 46) [(.tmp 23)], none, [], true⟩,
      ⟨(some 4), .mov (.tmp 24), none, [], true⟩]) .ret))
def zicQ : AFunc := ⟨25, [(4, none)], zicQ_c, none⟩
theorem zicQ_t0 : tableOf Try.prog 41 = some zicQ := by kernel_rfl
theorem zicQ_t : T0 41 = some zicQ := withKept_t rfl (withTrue_t rfl zicQ_t0)
abbrev fn_zebQ : FuncId := 42
def zebQ_c : ACode :=
  (.seq (.region [
      ⟨(some 4), .mov (.const (.slice none 0 0)), none, [], false⟩]) (.seq (.region [
      ⟨(some 6), .mov (.tmp 0), none, [], false⟩,
      ⟨(some 7), .callV (.func 48) [(.tmp 6)], none, [], false⟩,
      ⟨(some 5), .mov (.tmp 7), none, [], false⟩]) (.seq (.region [
      ⟨(some 8), .mov (.tmp 5), none, [], false⟩,
      ⟨(some 9), .mov (.tmp 1), none, [], false⟩,
      ⟨(some 10), .callV (.func 49) [(.tmp 8), (.tmp 9)], none, [], false⟩]) (.seq (.region [
      ⟨(some 11), .mov (.tmp 5), none, [], false⟩,
      ⟨(some 4), .mov (.tmp 11), none, [], false⟩]) .ret))))
def zebQ : AFunc := ⟨12, [(4, none)], zebQ_c, none⟩
theorem zebQ_t0 : tableOf Try.prog 42 = some zebQ := by kernel_rfl
theorem zebQ_t : T0 42 = some zebQ := withKept_t rfl (withTrue_t rfl zebQ_t0)
abbrev fn_zfbQ : FuncId := 43
def zfbQ_c : ACode :=
  (.seq (.region [
      ⟨(some 1), .box 57 (.tmp 0), none, [], false⟩,
      ⟨(some 2), .mov (.const .nilFunc), none, [], false⟩]) (.seq (.region [
      ⟨(some 3), .mkFunc (.func 50) [] [(.tmp 1)], none, [], false⟩,
      ⟨(some 2), .mov (.tmp 3), none, [], false⟩]) .ret))
def zfbQ : AFunc := ⟨4, [(2, none)], zfbQ_c, none⟩
theorem zfbQ_t0 : tableOf Try.prog 43 = some zfbQ := by kernel_rfl
theorem zfbQ_t : T0 43 = some zfbQ := withKept_t rfl (withTrue_t rfl zfbQ_t0)
abbrev fn_zgQ : FuncId := 44
def zgQ_l0 : ACode :=
  (.block 1 (.seq (.region [
      ⟨(some 5), .mov (.tmp 1), none, [], false⟩,
      ⟨(some 6), .bin .sub (so (.binOp .sub 3 (.tmp 5) (.const (.int .i64 1)) 3) 3) (.tmp 5) (.const (.int .i64 1)), none, [], false⟩,
      ⟨(some 7), .bin .quo (so (.binOp .quo 3 (.tmp 6) (.const (.int .i64 2)) 3) 3) (.tmp 6) (.const (.int .i64 2)), none, [], false⟩,
      ⟨(some 4), .mov (.tmp 7), none, [], false⟩]) (.seq (.seq (.region [
      ⟨(some 8), .mov (.tmp 4), none, [], false⟩,
      ⟨(some 9), .mov (.tmp 1), none, [], false⟩,
      ⟨(some 10), .bin .eql (so (.binOp .eql 3 (.tmp 8) (.tmp 9) 3) 4) (.tmp 8) (.tmp 9), none, [], false⟩,
      ⟨(some 11), .mov (.tmp 10), none, [], false⟩,
      ⟨(some 12), .mov (.tmp 0), (some (11, false)), [], false⟩,
      ⟨(some 13), .mov (.tmp 1), (some (11, false)), [], false⟩,
      ⟨(some 14), .mov (.tmp 4), (some (11, false)), [], false⟩,
      ⟨(some 15), .invoke (.tmp 12) "Less" [(.tmp 13), (.tmp 14)], (some (11, false)), [], false⟩,
      ⟨(some 16), .raw (so (.unOp .not 4 (.tmp 15)) 4), (some (11, false)), [], false⟩,
      ⟨(some 17), .pick (.tmp 11) (.const (.bool true)) (.tmp 16), none, [], false⟩]) (.cond (.tmp 17)
    (.exit 0)
    .skip)) (.seq (.region [
      ⟨(some 18), .mov (.tmp 0), none, [], false⟩,
      ⟨(some 19), .mov (.tmp 4), none, [], false⟩,
      ⟨(some 20), .mov (.tmp 1), none, [], false⟩,
      ⟨(some 21), .invoke (.tmp 18) "Swap" [(.tmp 19), (.tmp 20)], none, [], false⟩]) (.region [
      ⟨(some 22), .mov (.tmp 4), none, [], false⟩,
      ⟨(some 1), .mov (.tmp 22), none, [], false⟩])))))
def zgQ_c : ACode :=
  (.block 0 (.loop zgQ_l0))
def zgQ : AFunc := ⟨23, [], zgQ_c, none⟩
theorem zgQ_t0 : tableOf Try.prog 44 = some zgQ := by kernel_rfl
theorem zgQ_t : T0 44 = some zgQ := withKept_t rfl (withTrue_t rfl zgQ_t0)
abbrev fn_zfQ : FuncId := 45
def zfQ_l0 : ACode :=
  (.block 1 (.seq (.region [
      ⟨(some 12), .mov (.tmp 7), none, [], false⟩,
      ⟨(some 13), .bin .mul (so (.binOp .mul 3 (.const (.int .i64 2)) (.tmp 12) 3) 3) (.const (.int .i64 2)) (.tmp 12), none, [], false⟩,
      ⟨(some 14), .bin .add (so (.binOp .add 3 (.tmp 13) (.const (.int .i64 1)) 3) 3) (.tmp 13) (.const (.int .i64 1)), none, [], false⟩,
      ⟨(some 8), .mov (.tmp 14), none, [], false⟩]) (.seq (.seq (.region [
      ⟨(some 15), .mov (.tmp 8), none, [], false⟩,
      ⟨(some 16), .mov (.tmp 2), none, [], false⟩,
      ⟨(some 17), .bin .geq (so (.binOp .geq 3 (.tmp 15) (.tmp 16) 3) 4) (.tmp 15) (.tmp 16), none, [], false⟩,
      ⟨(some 18), .mov (.tmp 17), none, [], false⟩,
      ⟨(some 19), .mov (.tmp 8), (some (18, false)), [], false⟩,
      ⟨(some 20), .bin .lss (so (.binOp .lss 3 (.tmp 19) (.const (.int .i64 0)) 3) 4) (.tmp 19) (.const (.int .i64 0)), (some (18, false)), [], false⟩,
      ⟨(some 21), .pick (.tmp 18) (.const (.bool true)) (.tmp 20), none, [], false⟩]) (.cond (.tmp 21)
    (.exit 0)
    .skip)) (.seq (.region [
      ⟨(some 22), .mov (.tmp 8), none, [], false⟩,
      ⟨(some 9), .mov (.tmp 22), none, [], false⟩]) (.seq (.seq (.region [
      ⟨(some 23), .mov (.tmp 8), none, [], false⟩,
      ⟨(some 24), .bin .add (so (.binOp .add 3 (.tmp 23) (.const (.int .i64 1)) 3) 3) (.tmp 23) (.const (.int .i64 1)), none, [], false⟩,
      ⟨(some 10), .mov (.tmp 24), none, [], false⟩]) (.seq (.region [
      ⟨(some 25), .mov (.tmp 10), none, [], false⟩,
      ⟨(some 26), .mov (.tmp 2), none, [], false⟩,
      ⟨(some 27), .bin .lss (so (.binOp .lss 3 (.tmp 25) (.tmp 26) 3) 4) (.tmp 25) (.tmp 26), none, [], false⟩,
      ⟨(some 28), .mov (.tmp 27), none, [], false⟩,
      ⟨(some 29), .mov (.tmp 0), (some (28, true)), [], false⟩,
      ⟨(some 30), .mov (.tmp 10), (some (28, true)), [], false⟩,
      ⟨(some 31), .mov (.tmp 8), (some (28, true)), [], false⟩,
      ⟨(some 32), .invoke (.tmp 29) "Less" [(.tmp 30), (.tmp 31)], (some (28, true)), [], false⟩,
      ⟨(some 33), .pick (.tmp 28) (.tmp 32) (.const (.bool false)), none, [], false⟩]) (.cond (.tmp 33)
    (.region [
      ⟨(some 34), .mov (.tmp 10), none, [], false⟩,
      ⟨(some 9), .mov (.tmp 34), none, [], false⟩])
    .skip))) (.seq (.seq (.region [
      ⟨(some 35), .mov (.tmp 0), none, [], false⟩,
      ⟨(some 36), .mov (.tmp 9), none, [], false⟩,
      ⟨(some 37), .mov (.tmp 7), none, [], false⟩,
      ⟨(some 38), .invoke (.tmp 35) "Less" [(.tmp 36), (.tmp 37)], none, [], false⟩,
      ⟨(some 39), .raw (so (.unOp .not 4 (.tmp 38)) 4), none, [], false⟩]) (.cond (.tmp 39)
    (.exit 0)
    .skip)) (.seq (.region [
      ⟨(some 40), .mov (.tmp 0), none, [], false⟩,
      ⟨(some 41), .mov (.tmp 7), none, [], false⟩,
      ⟨(some 42), .mov (.tmp 9), none, [], false⟩,
      ⟨(some 43), .invoke (.tmp 40) "Swap" [(.tmp 41), (.tmp 42)], none, [], false⟩]) (.region [
      ⟨(some 44), .mov (.tmp 9), none, [], false⟩,
      ⟨(some 7), .mov (.tmp 44), none, [], false⟩]))))))))
def zfQ_c : ACode :=
  (.seq (.region [
      ⟨(some 6), .mov (.const (.bool false)), none, [], false⟩]) (.seq (.region [
      ⟨(some 11), .mov (.tmp 1), none, [], false⟩,
      ⟨(some 7), .mov (.tmp 11), none, [], false⟩]) (.seq (.block 0 (.loop zfQ_l0)) (.seq (.region [
      ⟨(some 45), .mov (.tmp 7), none, [], false⟩,
      ⟨(some 46), .mov (.tmp 1), none, [], false⟩,
      ⟨(some 47), .bin .gtr (so (.binOp .gtr 3 (.tmp 45) (.tmp 46) 3) 4) (.tmp 45) (.tmp 46), none, [], false⟩,
      ⟨(some 6), .mov (.tmp 47), none, [], false⟩]) .ret))))
def zfQ : AFunc := ⟨48, [(6, none)], zfQ_c, none⟩
theorem zfQ_t0 : tableOf Try.prog 45 = some zfQ := by kernel_rfl
theorem zfQ_t : T0 45 = some zfQ := withKept_t rfl (withTrue_t rfl zfQ_t0)
abbrev fn_zbQ : FuncId := 46
def zbQ_l0 : ACode :=
  (.seq (.region [
      ⟨(some 9), .bin .lss (so (.binOp .lss 3 (.tmp 8) (.tmp 7) 3) 0) (.tmp 8) (.tmp 7), none, [], false⟩]) (.seq (.cond (.tmp 9)
    .skip
    (.exit 0)) (.seq (.block 1 (.seq (.region [
      ⟨(some 10), .indexSl 1 (.tmp 6) (.tmp 8), none, [], false⟩,
      ⟨(some 11), .load none (.tmp 10), none, [], false⟩,
      ⟨(some 5), .mov (.tmp 11), none, [], false⟩]) (.seq (.region [
      ⟨(some 12), .mov (.tmp 5), none, [], false⟩,
      ⟨(some 13), .mov (.tmp 3), none, [], false⟩,
      ⟨(some 14), .bin .neq (so (.binOp .neq 3 (.tmp 12) (.tmp 13) 3) 4) (.tmp 12) (.tmp 13), none, [], false⟩]) (.cond (.tmp 14)
    (.seq (.region [
      ⟨(some 15), .mov (.tmp 5), none, [], false⟩,
      ⟨(some 2), .mov (.tmp 15), none, [], false⟩]) .ret)
    .skip)))) (.region [
      ⟨(some 16), .bin .add (so (.binOp .add 3 (.tmp 8) (.const (.int .i64 1)) 3) 3) (.tmp 8) (.const (.int .i64 1)), none, [], false⟩,
      ⟨(some 8), .mov (.tmp 16), none, [], false⟩]))))
def zbQ_c : ACode :=
  (.seq (.region [
      ⟨(some 2), .mov (.const (.int .i64 0)), none, [], false⟩]) (.seq (.region [
      ⟨(some 3), .mov (.const (.int .i64 0)), none, [], false⟩]) (.seq (.seq (.region [
      ⟨(some 6), .mov (.tmp 0), none, [], false⟩,
      ⟨(some 7), .lenSl (.tmp 6), none, [], false⟩,
      ⟨(some 8), .mov (.const (.int .i64 0)), none, [], false⟩]) (.block 0 (.loop zbQ_l0))) (.seq (.region [
      ⟨(some 17), .mov (.tmp 3), none, [], false⟩,
      ⟨(some 2), .mov (.tmp 17), none, [], false⟩]) .ret))))
def zbQ : AFunc := ⟨18, [(2, none)], zbQ_c, none⟩
theorem zbQ_t0 : tableOf Try.prog 46 = some zbQ := by kernel_rfl
theorem zbQ_t : T0 46 = some zbQ := withKept_t rfl (withTrue_t rfl zbQ_t0)
abbrev fn_zaQ : FuncId := 47
def zaQ_c : ACode :=
  (.seq (.region [
      ⟨(some 4), .mov (.const (.int .i64 0)), none, [], false⟩]) (.seq (.region [
      ⟨(some 7), .mov (.tmp 0), none, [], false⟩,
      ⟨(some 8), .callV (.func 51) [(.tmp 7)], none, [], false⟩,
      ⟨(some 5), .mov (.tmp 8), none, [], false⟩]) (.seq (.region [
      ⟨(some 9), .mov (.tmp 1), none, [], false⟩,
      ⟨(some 10), .callV (.func 51) [(.tmp 9)], none, [], false⟩,
      ⟨(some 6), .mov (.tmp 10), none, [], false⟩]) (.seq (.seq (.region [
      ⟨(some 11), .mov (.tmp 5), none, [], false⟩]) (.cond (.tmp 11)
    (.seq (.seq (.region [
      ⟨(some 12), .mov (.tmp 6), none, [], false⟩]) (.cond (.tmp 12)
    (.seq (.region [
      ⟨(some 4), .mov (.const (.int .i64 0)), none, [], false⟩]) .ret)
    .skip)) (.seq (.region [
      ⟨(some 4), .mov (.const (.int .i64 (-1))), none, [], false⟩]) .ret))
    .skip)) (.seq (.seq (.region [
      ⟨(some 13), .mov (.tmp 6), none, [], false⟩]) (.cond (.tmp 13)
    (.seq (.region [
      ⟨(some 4), .mov (.const (.int .i64 1)), none, [], false⟩]) .ret)
    .skip)) (.seq (.seq (.region [
      ⟨(some 14), .mov (.tmp 0), none, [], false⟩,
      ⟨(some 15), .mov (.tmp 1), none, [], false⟩,
      ⟨(some 16), .bin .lss (so (.binOp .lss 3 (.tmp 14) (.tmp 15) 3) 4) (.tmp 14) (.tmp 15), none, [], false⟩]) (.cond (.tmp 16)
    (.seq (.region [
      ⟨(some 4), .mov (.const (.int .i64 (-1))), none, [], false⟩]) .ret)
    .skip)) (.seq (.seq (.region [
      ⟨(some 17), .mov (.tmp 0), none, [], false⟩,
      ⟨(some 18), .mov (.tmp 1), none, [], false⟩,
      ⟨(some 19), .bin .gtr (so (.binOp .gtr 3 (.tmp 17) (.tmp 18) 3) 4) (.tmp 17) (.tmp 18), none, [], false⟩]) (.cond (.tmp 19)
    (.seq (.region [
      ⟨(some 4), .mov (.const (.int .i64 1)), none, [], false⟩]) .ret)
    .skip)) (.seq (.region [
      ⟨(some 4), .mov (.const (.int .i64 0)), none, [], false⟩]) .ret))))))))
def zaQ : AFunc := ⟨20, [(4, none)], zaQ_c, none⟩
theorem zaQ_t0 : tableOf Try.prog 47 = some zaQ := by kernel_rfl
theorem zaQ_t : T0 47 = some zaQ := withKept_t rfl (withTrue_t rfl zaQ_t0)
abbrev fn_zbbQ : FuncId := 48
def zbbQ_c : ACode :=
  (.seq (.region [
      ⟨(some 2), .mov (.const (.slice none 0 0)), none, [], false⟩]) (.seq (.region [
      ⟨(some 3), .mov (.tmp 0), none, [], false⟩,
      ⟨(some 4), .callV (.func 52) [(.const (.slice none 0 0)), (.tmp 3)], none, [], false⟩,
      ⟨(some 2), .mov (.tmp 4), none, [], false⟩]) .ret))
def zbbQ : AFunc := ⟨5, [(2, none)], zbbQ_c, none⟩
theorem zbbQ_t0 : tableOf Try.prog 48 = some zbbQ := by kernel_rfl
theorem zbbQ_t : T0 48 = some zbbQ := withKept_t rfl (withTrue_t rfl zbbQ_t0)
abbrev fn_zdbQ : FuncId := 49
def zdbQ_c : ACode :=
  (.seq (.region [
      ⟨(some 5), .mov (.tmp 0), none, [], false⟩,
      ⟨(some 6), .lenSl (.tmp 5), none, [], false⟩,
      ⟨(some 4), .mov (.tmp 6), none, [], false⟩]) (.region [
      ⟨(some 7), .mov (.tmp 0), none, [], false⟩,
      ⟨(some 8), .mov (.tmp 4), none, [], false⟩,
      ⟨(some 9), .mov (.tmp 4), none, [], false⟩,
      ⟨(some 10), .conv .u64 (so (.convert 3 95 (.tmp 9)) 95) (.tmp 9), none, [], false⟩,
      ⟨(some 11), .callV (.func 54) [(.tmp 10)], none, [], false⟩,
      ⟨(some 12), .mov (.tmp 1), none, [], false⟩,
      ⟨(some 13), .callV (.func 53) [(.tmp 7), (.const (.int .i64 0)), (.tmp 8), (.tmp 11), (.tmp 12)], none, [], false⟩]))
def zdbQ : AFunc := ⟨14, [], zdbQ_c, none⟩
theorem zdbQ_t0 : tableOf Try.prog 49 = some zdbQ := by kernel_rfl
theorem zdbQ_t : T0 49 = some zdbQ := withKept_t rfl (withTrue_t rfl zdbQ_t0)
abbrev fn_zgbQ : FuncId := 50
def zgbQ_l0 : ACode :=
  (.seq (.region [
      ⟨(some 8), .bin .lss (so (.binOp .lss 3 (.tmp 7) (.tmp 6) 3) 0) (.tmp 7) (.tmp 6), none, [], false⟩]) (.seq (.cond (.tmp 8)
    .skip
    (.exit 0)) (.seq (.block 1 (.seq (.region [
      ⟨(some 9), .indexSl 1 (.tmp 5) (.tmp 7), none, [], false⟩,
      ⟨(some 10), .load none (.tmp 9), none, [], false⟩,
      ⟨(some 4), .mov (.tmp 10), none, [], false⟩]) (.seq (.region [
      ⟨(some 11), .mov (.tmp 0), none, [], false⟩,
      ⟨(some 12), .mov (.tmp 4), none, [], false⟩,
      ⟨(some 13), .callV (.tmp 11) [(.tmp 12)], none, [], false⟩,
      ⟨(some 14), .raw (so (.unOp .not 4 (.tmp 13)) 4), none, [], false⟩]) (.cond (.tmp 14)
    .ret
    .skip)))) (.region [
      ⟨(some 15), .bin .add (so (.binOp .add 3 (.tmp 7) (.const (.int .i64 1)) 3) 3) (.tmp 7) (.const (.int .i64 1)), none, [], false⟩,
      ⟨(some 7), .mov (.tmp 15), none, [], false⟩]))))
def zgbQ_c : ACode :=
  (.seq (.region [
      ⟨(some 5), .load none (.tmp 1), none, [], false⟩,
      ⟨(some 6), .lenSl (.tmp 5), none, [], false⟩,
      ⟨(some 7), .mov (.const (.int .i64 0)), none, [], false⟩]) (.block 0 (.loop zgbQ_l0)))
def zgbQ : AFunc := ⟨16, [], zgbQ_c, none⟩
theorem zgbQ_t0 : tableOf Try.prog 50 = some zgbQ := by kernel_rfl
theorem zgbQ_t : T0 50 = some zgbQ := withKept_t rfl (withTrue_t rfl zgbQ_t0)
abbrev fn_zcQ : FuncId := 51
def zcQ_c : ACode :=
  (.seq (.region [
      ⟨(some 2), .mov (.const (.bool false)), none, [], false⟩]) (.seq (.region [
      ⟨(some 3), .mov (.tmp 0), none, [], false⟩,
      ⟨(some 4), .mov (.tmp 0), none, [], false⟩,
      ⟨(some 5), .bin .neq (so (.binOp .neq 3 (.tmp 3) (.tmp 4) 3) 4) (.tmp 3) (.tmp 4), none, [], false⟩,
      ⟨(some 2), .mov (.tmp 5), none, [], false⟩]) .ret))
def zcQ : AFunc := ⟨6, [(2, none)], zcQ_c, none⟩
theorem zcQ_t0 : tableOf Try.prog 51 = some zcQ := by kernel_rfl
theorem zcQ_t : T0 51 = some zcQ := withKept_t rfl (withTrue_t rfl zcQ_t0)
abbrev fn_zabQ : FuncId := 52
def zabQ_ra0 : Code := (rangeParts (subCode ((Try.prog.funcs[52]?).bind (·.body)) [true, false, true, false])).1
def zabQ_rb0 : Code := (rangeParts (subCode ((Try.prog.funcs[52]?).bind (·.body)) [true, false, true, false])).2
def zabQ_a0 : ACode :=
  (.region [
      ⟨(some 5), .mov (.tmp 7), none, [], false⟩])
def zabQ_b0 : ACode :=
  (.block 1 (.region [
      ⟨(some 8), .load none (.tmp 2), none, [], false⟩,
      ⟨(some 9), .mov (.tmp 5), none, [], false⟩,
      ⟨(some 10), .buildSlice 66 [(.pointer none)] 1 [(0, 1, (.tmp 9))], none, [], false⟩,
      ⟨(some 11), .append 66 1 8 [(.pointer none)] false (.tmp 8) (.tmp 10), none, [], false⟩,
      ⟨none, .store 1 (.tmp 2) (.tmp 11), none, [], false⟩]))
theorem zabQ_ca0 : comp Try.prog zabQ_ra0 = some zabQ_a0 := by kernel_rfl
theorem zabQ_cb0 : comp Try.prog zabQ_rb0 = some zabQ_b0 := by kernel_rfl
theorem zabQ_na0 : noDefer zabQ_ra0 = true := by kernel_rfl
theorem zabQ_nb0 : noDefer zabQ_rb0 = true := by kernel_rfl
def zabQ_c : ACode :=
  (.seq (.region [
      ⟨(some 2), .box 57 (.tmp 0), none, [], false⟩,
      ⟨(some 4), .mov (.const (.slice none 0 0)), none, [], false⟩]) (.seq (.seq (.region [
      ⟨(some 6), .mov (.tmp 1), none, [], false⟩]) (.block 0 (.rangeFunc (.tmp 6) [7] zabQ_ra0 zabQ_rb0))) (.seq (.region [
      ⟨(some 12), .load none (.tmp 2), none, [], false⟩,
      ⟨(some 4), .mov (.tmp 12), none, [], false⟩]) .ret)))
def zabQ : AFunc := ⟨13, [(4, none)], zabQ_c, none⟩
theorem zabQ_t0 : tableOf Try.prog 52 = some zabQ := by kernel_rfl
theorem zabQ_t : T0 52 = some zabQ := withKept_t rfl (withTrue_t rfl zabQ_t0)
abbrev fn_zsbQ : FuncId := 53
def zsbQ_l0 : ACode :=
  (.block 1 (.seq (.region [
      ⟨(some 21), .mov (.tmp 2), none, [], false⟩,
      ⟨(some 22), .mov (.tmp 1), none, [], false⟩,
      ⟨(some 23), .bin .sub (so (.binOp .sub 3 (.tmp 21) (.tmp 22) 3) 3) (.tmp 21) (.tmp 22), none, [], false⟩,
      ⟨(some 12), .mov (.tmp 23), none, [], false⟩]) (.seq (.seq (.region [
      ⟨(some 24), .mov (.tmp 12), none, [], false⟩,
      ⟨(some 25), .bin .leq (so (.binOp .leq 3 (.tmp 24) (.const (.int .i64 12)) 3) 4) (.tmp 24) (.const (.int .i64 12)), none, [], false⟩]) (.cond (.tmp 25)
    (.seq (.region [
      ⟨(some 26), .mov (.tmp 0), none, [], false⟩,
      ⟨(some 27), .mov (.tmp 1), none, [], false⟩,
      ⟨(some 28), .mov (.tmp 2), none, [], false⟩,
      ⟨(some 29), .mov (.tmp 4), none, [], false⟩,
      ⟨(some 30), .callV (.func 55) [(.tmp 26), (.tmp 27), (.tmp 28), (.tmp 29)], none, [], false⟩]) .ret)
    .skip)) (.seq (.seq (.region [
      ⟨(some 31), .mov (.tmp 3), none, [], false⟩,
      ⟨(some 32), .bin .eql (so (.binOp .eql 3 (.tmp 31) (.const (.int .i64 0)) 3) 4) (.tmp 31) (.const (.int .i64 0)), none, [], false⟩]) (.cond (.tmp 32)
    (.seq (.region [
      ⟨(some 33), .mov (.tmp 0), none, [], false⟩,
      ⟨(some 34), .mov (.tmp 1), none, [], false⟩,
      ⟨(some 35), .mov (.tmp 2), none, [], false⟩,
      ⟨(some 36), .mov (.tmp 4), none, [], false⟩,
      ⟨(some 37), .callV (.func 56) [(.tmp 33), (.tmp 34), (.tmp 35), (.tmp 36)], none, [], false⟩]) .ret)
    .skip)) (.seq (.seq (.region [
      ⟨(some 38), .mov (.tmp 10), none, [], false⟩,
      ⟨(some 39), .raw (so (.unOp .not 4 (.tmp 38)) 4), none, [], false⟩]) (.cond (.tmp 39)
    (.seq (.region [
      ⟨(some 40), .mov (.tmp 0), none, [], false⟩,
      ⟨(some 41), .mov (.tmp 1), none, [], false⟩,
      ⟨(some 42), .mov (.tmp 2), none, [], false⟩,
      ⟨(some 43), .mov (.tmp 4), none, [], false⟩,
      ⟨(some 44), .callV (.func 57) [(.tmp 40), (.tmp 41), (.tmp 42), (.tmp 43)], none, [], false⟩]) (.region [
      ⟨(some 45), .mov (.tmp 3), none, [], false⟩,
      ⟨(some 46), .bin .sub (so (.binOp .sub 3 (.tmp 45) (.const (.int .i64 1)) 3) 3) (.tmp 45) (.const (.int .i64 1)), none, [], false⟩,
      ⟨(some 3), .mov (.tmp 46), none, [], false⟩]))
    .skip)) (.seq (.region [
      ⟨(some 48), .mov (.tmp 0), none, [], false⟩,
      ⟨(some 49), .mov (.tmp 1), none, [], false⟩,
      ⟨(some 50), .mov (.tmp 2), none, [], false⟩,
      ⟨(some 51), .mov (.tmp 4), none, [], false⟩,
      ⟨(some 52), .callV (.func 58) [(.tmp 48), (.tmp 49), (.tmp 50), (.tmp 51)], none, [], false⟩,
      ⟨(some 47), .mov (.tmp 52), none, [], false⟩,
      ⟨(some 53), .extract 0 (.tmp 47), none, [], false⟩,
      ⟨(some 54), .extract 1 (.tmp 47), none, [], false⟩,
      ⟨(some 13), .mov (.tmp 53), none, [], false⟩,
      ⟨(some 14), .mov (.tmp 54), none, [], false⟩]) (.seq (.seq (.region [
      ⟨(some 55), .mov (.tmp 14), none, [], false⟩,
      ⟨(some 56), .bin .eql (so (.binOp .eql 97 (.tmp 55) (.const (.int .i64 2)) 97) 4) (.tmp 55) (.const (.int .i64 2)), none, [], false⟩]) (.cond (.tmp 56)
    (.seq (.region [
      ⟨(some 57), .mov (.tmp 0), none, [], false⟩,
      ⟨(some 58), .mov (.tmp 1), none, [], false⟩,
      ⟨(some 59), .mov (.tmp 2), none, [], false⟩,
      ⟨(some 60), .mov (.tmp 4), none, [], false⟩,
      ⟨(some 61), .callV (.func 59) [(.tmp 57), (.tmp 58), (.tmp 59), (.tmp 60)], none, [], false⟩]) (.seq (.region [
      ⟨(some 62), .mov (.tmp 2), none, [], false⟩,
      ⟨(some 63), .bin .sub (so (.binOp .sub 3 (.tmp 62) (.const (.int .i64 1)) 3) 3) (.tmp 62) (.const (.int .i64 1)), none, [], false⟩,
      ⟨(some 64), .mov (.tmp 13), none, [], false⟩,
      ⟨(some 65), .mov (.tmp 1), none, [], false⟩,
      ⟨(some 66), .bin .sub (so (.binOp .sub 3 (.tmp 64) (.tmp 65) 3) 3) (.tmp 64) (.tmp 65), none, [], false⟩,
      ⟨(some 67), .bin .sub (so (.binOp .sub 3 (.tmp 63) (.tmp 66) 3) 3) (.tmp 63) (.tmp 66), none, [], false⟩,
      ⟨(some 13), .mov (.tmp 67), none, [], false⟩]) (.region [
      ⟨(some 14), .mov (.const (.int .i64 1)), none, [], false⟩])))
    .skip)) (.seq (.seq (.region [
      ⟨(some 68), .mov (.tmp 10), none, [], false⟩,
      ⟨(some 69), .mov (.tmp 68), none, [], false⟩,
      ⟨(some 70), .mov (.tmp 11), (some (69, true)), [], false⟩,
      ⟨(some 71), .pick (.tmp 69) (.tmp 70) (.const (.bool false)), none, [], false⟩,
      ⟨(some 72), .mov (.tmp 71), none, [], false⟩,
      ⟨(some 73), .mov (.tmp 14), (some (72, true)), [], false⟩,
      ⟨(some 74), .bin .eql (so (.binOp .eql 97 (.tmp 73) (.const (.int .i64 1)) 97) 4) (.tmp 73) (.const (.int .i64 1)), (some (72, true)), [], false⟩,
      ⟨(some 75), .pick (.tmp 72) (.tmp 74) (.const (.bool false)), none, [], false⟩]) (.cond (.tmp 75)
    (.seq (.region [
      ⟨(some 76), .mov (.tmp 0), none, [], false⟩,
      ⟨(some 77), .mov (.tmp 1), none, [], false⟩,
      ⟨(some 78), .mov (.tmp 2), none, [], false⟩,
      ⟨(some 79), .mov (.tmp 4), none, [], false⟩,
      ⟨(some 80), .callV (.func 60) [(.tmp 76), (.tmp 77), (.tmp 78), (.tmp 79)], none, [], false⟩]) (.cond (.tmp 80)
    .ret
    .skip))
    .skip)) (.seq (.seq (.regionD [
      ⟨(some 81), .mov (.tmp 1), none, [], true⟩,
      ⟨(some 82), .bin .gtr (so (.binOp .gtr 3 (.tmp 81) (.const (.int .i64 0)) 3) 4) (.tmp 81) (.const (.int .i64 0)), none, [], true⟩,
      ⟨(some 83), .mov (.tmp 82), none, [], true⟩,
      ⟨(some 84), .mov (.tmp 4), (some (83, true)), [], false⟩,
      ⟨(some 85), .mov (.tmp 0), (some (83, true)), [], false⟩,
      ⟨(some 86), .mov (.tmp 1), (some (83, true)), [], false⟩,
      ⟨(some 87), .bin .sub (so (.binOp .sub 3 (.tmp 86) (.const (.int .i64 1)) 3) 3) (.tmp 86) (.const (.int .i64 1)), (some (83, true)), [], false⟩,
      ⟨(some 88), .indexSl 1 (.tmp 85) (.tmp 87), (some (83, true)), [], false⟩,
      ⟨(some 89), .load none (.tmp 88), (some (83, true)), [], false⟩,
      ⟨(some 90), .mov (.tmp 0), (some (83, true)), [], false⟩,
      ⟨(some 91), .mov (.tmp 13), (some (83, true)), [], false⟩,
      ⟨(some 92), .indexSl 1 (.tmp 90) (.tmp 91), (some (83, true)), [], false⟩,
      ⟨(some 93), .load none (.tmp 92), (some (83, true)), [], false⟩,
      ⟨(some 94), .callV (.tmp 84) [(.tmp 89), (.tmp 93)], (some (83, true)), [], true⟩,
      ⟨(some 95), .bin .lss (so (.binOp .lss 3 (.tmp 94) (.const (.int .i64 0)) 3) 4) (.tmp 94) (.const (.int .i64 0)), (some (83, true)), [], true⟩,
      ⟨(some 96), .raw (so (.unOp .not 4 (.tmp 95)) 4), (some (83, true)), [], true⟩,
      ⟨(some 97), .pick (.tmp 83) (.tmp 96) (.const (.bool false)), none, [], true⟩]) (.cond (.tmp 97)
    (.seq (.region [
      ⟨(some 98), .mov (.tmp 0), none, [], false⟩,
      ⟨(some 99), .mov (.tmp 1), none, [], false⟩,
      ⟨(some 100), .mov (.tmp 2), none, [], false⟩,
      ⟨(some 101), .mov (.tmp 13), none, [], false⟩,
      ⟨(some 102), .mov (.tmp 4), none, [], false⟩,
      ⟨(some 103), .callV (.func 61) [(.tmp 98), (.tmp 99), (.tmp 100), (.tmp 101), (.tmp 102)], none, [], false⟩,
      ⟨(some 15), .mov (.tmp 103), none, [], false⟩]) (.seq (.region [
      ⟨(some 104), .mov (.tmp 15), none, [], false⟩,
      ⟨(some 1), .mov (.tmp 104), none, [], false⟩]) (.exit 1)))
    .skip)) (.seq (.region [
      ⟨(some 106), .mov (.tmp 0), none, [], false⟩,
      ⟨(some 107), .mov (.tmp 1), none, [], false⟩,
      ⟨(some 108), .mov (.tmp 2), none, [], false⟩,
      ⟨(some 109), .mov (.tmp 13), none, [], false⟩,
      ⟨(some 110), .mov (.tmp 4), none, [], false⟩,
      ⟨(some 111), .callV (.func 62) [(.tmp 106), (.tmp 107), (.tmp 108), (.tmp 109), (.tmp 110)], none, [], false⟩,
      ⟨(some 105), .mov (.tmp 111), none, [], false⟩,
      ⟨(some 112), .extract 0 (.tmp 105), none, [], false⟩,
      ⟨(some 113), .extract 1 (.tmp 105), none, [], false⟩,
      ⟨(some 16), .mov (.tmp 112), none, [], false⟩,
      ⟨(some 17), .mov (.tmp 113), none, [], false⟩]) (.seq (.region [
      ⟨(some 114), .mov (.tmp 17), none, [], false⟩,
      ⟨(some 11), .mov (.tmp 114), none, [], false⟩]) (.seq (.region [
      ⟨(some 115), .mov (.tmp 16), none, [], false⟩,
      ⟨(some 116), .mov (.tmp 1), none, [], false⟩,
      ⟨(some 117), .bin .sub (so (.binOp .sub 3 (.tmp 115) (.tmp 116) 3) 3) (.tmp 115) (.tmp 116), none, [], false⟩,
      ⟨(some 118), .mov (.tmp 2), none, [], false⟩,
      ⟨(some 119), .mov (.tmp 16), none, [], false⟩,
      ⟨(some 120), .bin .sub (so (.binOp .sub 3 (.tmp 118) (.tmp 119) 3) 3) (.tmp 118) (.tmp 119), none, [], false⟩,
      ⟨(some 18), .mov (.tmp 117), none, [], false⟩,
      ⟨(some 19), .mov (.tmp 120), none, [], false⟩]) (.seq (.region [
      ⟨(some 121), .mov (.tmp 12), none, [], false⟩,
      ⟨(some 122), .bin .quo (so (.binOp .quo 3 (.tmp 121) (.const (.int .i64 8)) 3) 3) (.tmp 121) (.const (.int .i64 8)), none, [], false⟩,
      ⟨(some 20), .mov (.tmp 122), none, [], false⟩]) (.seq (.region [
      ⟨(some 123), .mov (.tmp 18), none, [], false⟩,
      ⟨(some 124), .mov (.tmp 19), none, [], false⟩,
      ⟨(some 125), .bin .lss (so (.binOp .lss 3 (.tmp 123) (.tmp 124) 3) 4) (.tmp 123) (.tmp 124), none, [], false⟩]) (.cond (.tmp 125)
    (.seq (.region [
      ⟨(some 126), .mov (.tmp 18), none, [], false⟩,
      ⟨(some 127), .mov (.tmp 20), none, [], false⟩,
      ⟨(some 128), .bin .geq (so (.binOp .geq 3 (.tmp 126) (.tmp 127) 3) 4) (.tmp 126) (.tmp 127), none, [], false⟩,
      ⟨(some 10), .mov (.tmp 128), none, [], false⟩]) (.seq (.region [
      ⟨(some 129), .mov (.tmp 0), none, [], false⟩,
      ⟨(some 130), .mov (.tmp 1), none, [], false⟩,
      ⟨(some 131), .mov (.tmp 16), none, [], false⟩,
      ⟨(some 132), .mov (.tmp 3), none, [], false⟩,
      ⟨(some 133), .mov (.tmp 4), none, [], false⟩,
      ⟨(some 134), .callV (.func 53) [(.tmp 129), (.tmp 130), (.tmp 131), (.tmp 132), (.tmp 133)], none, [], false⟩]) (.region [
      ⟨(some 135), .mov (.tmp 16), none, [], false⟩,
      ⟨(some 136), .bin .add (so (.binOp .add 3 (.tmp 135) (.const (.int .i64 1)) 3) 3) (.tmp 135) (.const (.int .i64 1)), none, [], false⟩,
      ⟨(some 1), .mov (.tmp 136), none, [], false⟩])))
    (.seq (.region [
      ⟨(some 137), .mov (.tmp 19), none, [], false⟩,
      ⟨(some 138), .mov (.tmp 20), none, [], false⟩,
      ⟨(some 139), .bin .geq (so (.binOp .geq 3 (.tmp 137) (.tmp 138) 3) 4) (.tmp 137) (.tmp 138), none, [], false⟩,
      ⟨(some 10), .mov (.tmp 139), none, [], false⟩]) (.seq (.region [
      ⟨(some 140), .mov (.tmp 0), none, [], false⟩,
      ⟨(some 141), .mov (.tmp 16), none, [], false⟩,
      ⟨(some 142), .bin .add (so (.binOp .add 3 (.tmp 141) (.const (.int .i64 1)) 3) 3) (.tmp 141) (.const (.int .i64 1)), none, [], false⟩,
      ⟨(some 143), .mov (.tmp 2), none, [], false⟩,
      ⟨(some 144), .mov (.tmp 3), none, [], false⟩,
      ⟨(some 145), .mov (.tmp 4), none, [], false⟩,
      ⟨(some 146), .callV (.func 53) [(.tmp 140), (.tmp 142), (.tmp 143), (.tmp 144), (.tmp 145)], none, [], false⟩]) (.region [
      ⟨(some 147), .mov (.tmp 16), none, [], false⟩,
      ⟨(some 2), .mov (.tmp 147), none, [], false⟩]))))))))))))))))))
def zsbQ_c : ACode :=
  (.seq (.region [
      ⟨(some 10), .mov (.const (.bool true)), none, [], false⟩]) (.seq (.region [
      ⟨(some 11), .mov (.const (.bool true)), none, [], false⟩]) (.block 0 (.loop zsbQ_l0))))
def zsbQ : AFunc := ⟨148, [], zsbQ_c, none⟩
theorem zsbQ_t0 : tableOf Try.prog 53 = some zsbQ := by kernel_rfl
theorem zsbQ_t : T0 53 = some zsbQ := withKept_t rfl (withTrue_t rfl zsbQ_t0)
abbrev fn_zxQ : FuncId := 54
def zxQ_c : ACode :=
  (.seq (.region [
      ⟨(some 2), .mov (.const (.int .i64 0)), none, [], false⟩]) (.seq (.cond (.const (.bool false))
    (.seq (.region [
      ⟨(some 3), .mov (.tmp 0), none, [], false⟩,
      ⟨(some 4), .conv .u32 (so (.convert 95 104 (.tmp 3)) 104) (.tmp 3), none, [], false⟩,
      ⟨(some 5), .callV (.func 63) [(.tmp 4)], none, [], false⟩,
      ⟨(some 2), .mov (.tmp 5), none, [], false⟩]) .ret)
    .skip) (.seq (.region [
      ⟨(some 6), .mov (.tmp 0), none, [], false⟩,
      ⟨(some 7), .callV (.func 64) [(.tmp 6)], none, [], false⟩,
      ⟨(some 2), .mov (.tmp 7), none, [], false⟩]) .ret)))
def zxQ : AFunc := ⟨8, [(2, none)], zxQ_c, none⟩
theorem zxQ_t0 : tableOf Try.prog 54 = some zxQ := by kernel_rfl
theorem zxQ_t : T0 54 = some zxQ := withKept_t rfl (withTrue_t rfl zxQ_t0)
abbrev fn_zkbQ : FuncId := 55
def zkbQ_l0 : ACode :=
  (.seq (.seq (.regionD [
      ⟨(some 18), .mov (.tmp 9), none, [], false⟩,
      ⟨(some 19), .mov (.tmp 1), none, [], false⟩,
      ⟨(some 20), .bin .gtr (so (.binOp .gtr 3 (.tmp 18) (.tmp 19) 3) 4) (.tmp 18) (.tmp 19), none, [], true⟩,
      ⟨(some 21), .mov (.tmp 20), none, [], true⟩,
      ⟨(some 22), .mov (.tmp 3), (some (21, true)), [], false⟩,
      ⟨(some 23), .mov (.tmp 0), (some (21, true)), [], false⟩,
      ⟨(some 24), .mov (.tmp 9), (some (21, true)), [], false⟩,
      ⟨(some 25), .indexSl 1 (.tmp 23) (.tmp 24), (some (21, true)), [], false⟩,
      ⟨(some 26), .load none (.tmp 25), (some (21, true)), [], false⟩,
      ⟨(some 27), .mov (.tmp 0), (some (21, true)), [], false⟩,
      ⟨(some 28), .mov (.tmp 9), (some (21, true)), [], false⟩,
      ⟨(some 29), .bin .sub (so (.binOp .sub 3 (.tmp 28) (.const (.int .i64 1)) 3) 3) (.tmp 28) (.const (.int .i64 1)), (some (21, true)), [], false⟩,
      ⟨(some 30), .indexSl 1 (.tmp 27) (.tmp 29), (some (21, true)), [], false⟩,
      ⟨(some 31), .load none (.tmp 30), (some (21, true)), [], false⟩,
      ⟨(some 32), .callV (.tmp 22) [(.tmp 26), (.tmp 31)], (some (21, true)), [], true⟩,
      ⟨(some 33), .bin .lss (so (.binOp .lss 3 (.tmp 32) (.const (.int .i64 0)) 3) 4) (.tmp 32) (.const (.int .i64 0)), (some (21, true)), [], true⟩,
      ⟨(some 34), .pick (.tmp 21) (.tmp 33) (.const (.bool false)), none, [], true⟩]) (.cond (.tmp 34)
    .skip
    (.exit 2))) (.seq (.block 3 (.regionD [
      ⟨(some 37), .mov (.tmp 0), none, [], false⟩,
      ⟨(some 38), .mov (.tmp 9), none, [], false⟩,
      ⟨(some 39), .mov (.tmp 0), none, [], false⟩,
      ⟨(some 40), .mov (.tmp 9), none, [], false⟩,
      ⟨(some 41), .bin .sub (so (.binOp .sub 3 (.tmp 40) (.const (.int .i64 1)) 3) 3) (.tmp 40) (.const (.int .i64 1)), none, [], false⟩,
      ⟨(some 42), .mov (.tmp 0), none, [], false⟩,
      ⟨(some 43), .mov (.tmp 9), none, [], false⟩,
      ⟨(some 44), .bin .sub (so (.binOp .sub 3 (.tmp 43) (.const (.int .i64 1)) 3) 3) (.tmp 43) (.const (.int .i64 1)), none, [], false⟩,
      ⟨(some 45), .indexSl 1 (.tmp 42) (.tmp 44), none, [], false⟩,
      ⟨(some 46), .load none (.tmp 45), none, [], false⟩,
      ⟨(some 47), .mov (.tmp 0), none, [], false⟩,
      ⟨(some 48), .mov (.tmp 9), none, [], false⟩,
      ⟨(some 49), .indexSl 1 (.tmp 47) (.tmp 48), none, [], false⟩,
      ⟨(some 50), .load none (.tmp 49), none, [], false⟩,
      ⟨(some 51), .indexSl 1 (.tmp 37) (.tmp 38), none, [], false⟩,
      ⟨none, .store 1 (.tmp 51) (.tmp 46), none, [((some 41), .bin .sub (so (.binOp .sub 3 (.tmp 40) (.const (.int .i64 1)) 3) 3) (.tmp 40) (.const (.int .i64 1)), none), ((some 40), .mov (.tmp 9), none), ((some 39), .mov (.tmp 0), none)], false⟩,
      ⟨(some 52), .indexSl 1 (.tmp 39) (.tmp 41), none, [], true⟩,
      ⟨none, .store 1 (.tmp 52) (.tmp 50), none, [], true⟩])) (.region [
      ⟨(some 35), .mov (.tmp 9), none, [], false⟩,
      ⟨(some 36), .bin .sub (so (.binOp .sub 3 (.tmp 35) (.const (.int .i64 1)) 3) 3) (.tmp 35) (.const (.int .i64 1)), none, [], false⟩,
      ⟨(some 9), .mov (.tmp 36), none, [], false⟩])))
def zkbQ_l1 : ACode :=
  (.seq (.seq (.region [
      ⟨(some 12), .mov (.tmp 8), none, [], false⟩,
      ⟨(some 13), .mov (.tmp 2), none, [], false⟩,
      ⟨(some 14), .bin .lss (so (.binOp .lss 3 (.tmp 12) (.tmp 13) 3) 4) (.tmp 12) (.tmp 13), none, [], false⟩]) (.cond (.tmp 14)
    .skip
    (.exit 0))) (.seq (.block 1 (.seq (.region [
      ⟨(some 17), .mov (.tmp 8), none, [], false⟩,
      ⟨(some 9), .mov (.tmp 17), none, [], false⟩]) (.block 2 (.loop zkbQ_l0)))) (.region [
      ⟨(some 15), .mov (.tmp 8), none, [], false⟩,
      ⟨(some 16), .bin .add (so (.binOp .add 3 (.tmp 15) (.const (.int .i64 1)) 3) 3) (.tmp 15) (.const (.int .i64 1)), none, [], false⟩,
      ⟨(some 8), .mov (.tmp 16), none, [], false⟩])))
def zkbQ_c : ACode :=
  (.seq (.region [
      ⟨(some 10), .mov (.tmp 1), none, [], false⟩,
      ⟨(some 11), .bin .add (so (.binOp .add 3 (.tmp 10) (.const (.int .i64 1)) 3) 3) (.tmp 10) (.const (.int .i64 1)), none, [], false⟩,
      ⟨(some 8), .mov (.tmp 11), none, [], false⟩]) (.block 0 (.loop zkbQ_l1)))
def zkbQ : AFunc := ⟨53, [], zkbQ_c, none⟩
theorem zkbQ_t0 : tableOf Try.prog 55 = some zkbQ := by kernel_rfl
theorem zkbQ_t : T0 55 = some zkbQ := withKept_t rfl (withTrue_t rfl zkbQ_t0)
abbrev fn_zjbQ : FuncId := 56
def zjbQ_l0 : ACode :=
  (.seq (.seq (.region [
      ⟨(some 20), .mov (.tmp 11), none, [], false⟩,
      ⟨(some 21), .bin .geq (so (.binOp .geq 3 (.tmp 20) (.const (.int .i64 0)) 3) 4) (.tmp 20) (.const (.int .i64 0)), none, [], false⟩]) (.cond (.tmp 21)
    .skip
    (.exit 0))) (.seq (.block 1 (.region [
      ⟨(some 24), .mov (.tmp 0), none, [], false⟩,
      ⟨(some 25), .mov (.tmp 11), none, [], false⟩,
      ⟨(some 26), .mov (.tmp 10), none, [], false⟩,
      ⟨(some 27), .mov (.tmp 8), none, [], false⟩,
      ⟨(some 28), .mov (.tmp 3), none, [], false⟩,
      ⟨(some 29), .callV (.func 65) [(.tmp 24), (.tmp 25), (.tmp 26), (.tmp 27), (.tmp 28)], none, [], false⟩])) (.region [
      ⟨(some 22), .mov (.tmp 11), none, [], false⟩,
      ⟨(some 23), .bin .sub (so (.binOp .sub 3 (.tmp 22) (.const (.int .i64 1)) 3) 3) (.tmp 22) (.const (.int .i64 1)), none, [], false⟩,
      ⟨(some 11), .mov (.tmp 23), none, [], false⟩])))
def zjbQ_l1 : ACode :=
  (.seq (.seq (.region [
      ⟨(some 32), .mov (.tmp 12), none, [], false⟩,
      ⟨(some 33), .bin .geq (so (.binOp .geq 3 (.tmp 32) (.const (.int .i64 0)) 3) 4) (.tmp 32) (.const (.int .i64 0)), none, [], false⟩]) (.cond (.tmp 33)
    .skip
    (.exit 2))) (.seq (.block 3 (.seq (.regionD [
      ⟨(some 36), .mov (.tmp 0), none, [], false⟩,
      ⟨(some 37), .mov (.tmp 8), none, [], false⟩,
      ⟨(some 38), .mov (.tmp 0), none, [], false⟩,
      ⟨(some 39), .mov (.tmp 8), none, [], false⟩,
      ⟨(some 40), .mov (.tmp 12), none, [], false⟩,
      ⟨(some 41), .bin .add (so (.binOp .add 3 (.tmp 39) (.tmp 40) 3) 3) (.tmp 39) (.tmp 40), none, [], false⟩,
      ⟨(some 42), .mov (.tmp 0), none, [], false⟩,
      ⟨(some 43), .mov (.tmp 8), none, [], false⟩,
      ⟨(some 44), .mov (.tmp 12), none, [], false⟩,
      ⟨(some 45), .bin .add (so (.binOp .add 3 (.tmp 43) (.tmp 44) 3) 3) (.tmp 43) (.tmp 44), none, [], false⟩,
      ⟨(some 46), .indexSl 1 (.tmp 42) (.tmp 45), none, [], false⟩,
      ⟨(some 47), .load none (.tmp 46), none, [], false⟩,
      ⟨(some 48), .mov (.tmp 0), none, [], false⟩,
      ⟨(some 49), .mov (.tmp 8), none, [], false⟩,
      ⟨(some 50), .indexSl 1 (.tmp 48) (.tmp 49), none, [], false⟩,
      ⟨(some 51), .load none (.tmp 50), none, [], false⟩,
      ⟨(some 52), .indexSl 1 (.tmp 36) (.tmp 37), none, [], false⟩,
      ⟨none, .store 1 (.tmp 52) (.tmp 47), none, [((some 41), .bin .add (so (.binOp .add 3 (.tmp 39) (.tmp 40) 3) 3) (.tmp 39) (.tmp 40), none), ((some 40), .mov (.tmp 12), none), ((some 39), .mov (.tmp 8), none), ((some 38), .mov (.tmp 0), none)], false⟩,
      ⟨(some 53), .indexSl 1 (.tmp 38) (.tmp 41), none, [], true⟩,
      ⟨none, .store 1 (.tmp 53) (.tmp 51), none, [], true⟩]) (.region [
      ⟨(some 54), .mov (.tmp 0), none, [], false⟩,
      ⟨(some 55), .mov (.tmp 9), none, [], false⟩,
      ⟨(some 56), .mov (.tmp 12), none, [], false⟩,
      ⟨(some 57), .mov (.tmp 8), none, [], false⟩,
      ⟨(some 58), .mov (.tmp 3), none, [], false⟩,
      ⟨(some 59), .callV (.func 65) [(.tmp 54), (.tmp 55), (.tmp 56), (.tmp 57), (.tmp 58)], none, [], false⟩]))) (.region [
      ⟨(some 34), .mov (.tmp 12), none, [], false⟩,
      ⟨(some 35), .bin .sub (so (.binOp .sub 3 (.tmp 34) (.const (.int .i64 1)) 3) 3) (.tmp 34) (.const (.int .i64 1)), none, [], false⟩,
      ⟨(some 12), .mov (.tmp 35), none, [], false⟩])))
def zjbQ_c : ACode :=
  (.seq (.region [
      ⟨(some 13), .mov (.tmp 1), none, [], false⟩,
      ⟨(some 8), .mov (.tmp 13), none, [], false⟩]) (.seq (.region [
      ⟨(some 9), .mov (.const (.int .i64 0)), none, [], false⟩]) (.seq (.region [
      ⟨(some 14), .mov (.tmp 2), none, [], false⟩,
      ⟨(some 15), .mov (.tmp 1), none, [], false⟩,
      ⟨(some 16), .bin .sub (so (.binOp .sub 3 (.tmp 14) (.tmp 15) 3) 3) (.tmp 14) (.tmp 15), none, [], false⟩,
      ⟨(some 10), .mov (.tmp 16), none, [], false⟩]) (.seq (.seq (.region [
      ⟨(some 17), .mov (.tmp 10), none, [], false⟩,
      ⟨(some 18), .bin .sub (so (.binOp .sub 3 (.tmp 17) (.const (.int .i64 1)) 3) 3) (.tmp 17) (.const (.int .i64 1)), none, [], false⟩,
      ⟨(some 19), .bin .quo (so (.binOp .quo 3 (.tmp 18) (.const (.int .i64 2)) 3) 3) (.tmp 18) (.const (.int .i64 2)), none, [], false⟩,
      ⟨(some 11), .mov (.tmp 19), none, [], false⟩]) (.block 0 (.loop zjbQ_l0))) (.seq (.region [
      ⟨(some 30), .mov (.tmp 10), none, [], false⟩,
      ⟨(some 31), .bin .sub (so (.binOp .sub 3 (.tmp 30) (.const (.int .i64 1)) 3) 3) (.tmp 30) (.const (.int .i64 1)), none, [], false⟩,
      ⟨(some 12), .mov (.tmp 31), none, [], false⟩]) (.block 2 (.loop zjbQ_l1)))))))
def zjbQ : AFunc := ⟨60, [], zjbQ_c, none⟩
theorem zjbQ_t0 : tableOf Try.prog 56 = some zjbQ := by kernel_rfl
theorem zjbQ_t : T0 56 = some zjbQ := withKept_t rfl (withTrue_t rfl zjbQ_t0)
abbrev fn_zhbQ : FuncId := 57
def zhbQ_l0 : ACode :=
  (.seq (.seq (.region [
      ⟨(some 28), .mov (.tmp 11), none, [], false⟩,
      ⟨(some 29), .mov (.tmp 1), none, [], false⟩,
      ⟨(some 30), .mov (.tmp 8), none, [], false⟩,
      ⟨(some 31), .bin .quo (so (.binOp .quo 3 (.tmp 30) (.const (.int .i64 4)) 3) 3) (.tmp 30) (.const (.int .i64 4)), none, [], false⟩,
      ⟨(some 32), .bin .mul (so (.binOp .mul 3 (.tmp 31) (.const (.int .i64 2)) 3) 3) (.tmp 31) (.const (.int .i64 2)), none, [], false⟩,
      ⟨(some 33), .bin .add (so (.binOp .add 3 (.tmp 29) (.tmp 32) 3) 3) (.tmp 29) (.tmp 32), none, [], false⟩,
      ⟨(some 34), .bin .add (so (.binOp .add 3 (.tmp 33) (.const (.int .i64 1)) 3) 3) (.tmp 33) (.const (.int .i64 1)), none, [], false⟩,
      ⟨(some 35), .bin .leq (so (.binOp .leq 3 (.tmp 28) (.tmp 34) 3) 4) (.tmp 28) (.tmp 34), none, [], false⟩]) (.cond (.tmp 35)
    .skip
    (.exit 0))) (.seq (.block 1 (.seq (.region [
      ⟨(some 38), .callV (.func 67) [(.tmp 9)], none, [], false⟩,
      ⟨(some 39), .mov (.tmp 10), none, [], false⟩,
      ⟨(some 40), .bin .sub (so (.binOp .sub 95 (.tmp 39) (.const (.int .u64 1)) 95) 95) (.tmp 39) (.const (.int .u64 1)), none, [], false⟩,
      ⟨(some 41), .bin .and (so (.binOp .and 95 (.tmp 38) (.tmp 40) 95) 95) (.tmp 38) (.tmp 40), none, [], false⟩,
      ⟨(some 42), .conv .i64 (so (.convert 95 3 (.tmp 41)) 3) (.tmp 41), none, [], false⟩,
      ⟨(some 12), .mov (.tmp 42), none, [], false⟩]) (.seq (.seq (.region [
      ⟨(some 43), .mov (.tmp 12), none, [], false⟩,
      ⟨(some 44), .mov (.tmp 8), none, [], false⟩,
      ⟨(some 45), .bin .geq (so (.binOp .geq 3 (.tmp 43) (.tmp 44) 3) 4) (.tmp 43) (.tmp 44), none, [], false⟩]) (.cond (.tmp 45)
    (.region [
      ⟨(some 46), .mov (.tmp 12), none, [], false⟩,
      ⟨(some 47), .mov (.tmp 8), none, [], false⟩,
      ⟨(some 48), .bin .sub (so (.binOp .sub 3 (.tmp 46) (.tmp 47) 3) 3) (.tmp 46) (.tmp 47), none, [], false⟩,
      ⟨(some 12), .mov (.tmp 48), none, [], false⟩])
    .skip)) (.regionD [
      ⟨(some 49), .mov (.tmp 0), none, [], false⟩,
      ⟨(some 50), .mov (.tmp 11), none, [], false⟩,
      ⟨(some 51), .mov (.tmp 0), none, [], false⟩,
      ⟨(some 52), .mov (.tmp 1), none, [], false⟩,
      ⟨(some 53), .mov (.tmp 12), none, [], false⟩,
      ⟨(some 54), .bin .add (so (.binOp .add 3 (.tmp 52) (.tmp 53) 3) 3) (.tmp 52) (.tmp 53), none, [], false⟩,
      ⟨(some 55), .mov (.tmp 0), none, [], false⟩,
      ⟨(some 56), .mov (.tmp 1), none, [], false⟩,
      ⟨(some 57), .mov (.tmp 12), none, [], false⟩,
      ⟨(some 58), .bin .add (so (.binOp .add 3 (.tmp 56) (.tmp 57) 3) 3) (.tmp 56) (.tmp 57), none, [], false⟩,
      ⟨(some 59), .indexSl 1 (.tmp 55) (.tmp 58), none, [], false⟩,
      ⟨(some 60), .load none (.tmp 59), none, [], false⟩,
      ⟨(some 61), .mov (.tmp 0), none, [], false⟩,
      ⟨(some 62), .mov (.tmp 11), none, [], false⟩,
      ⟨(some 63), .indexSl 1 (.tmp 61) (.tmp 62), none, [], false⟩,
      ⟨(some 64), .load none (.tmp 63), none, [], false⟩,
      ⟨(some 65), .indexSl 1 (.tmp 49) (.tmp 50), none, [], false⟩,
      ⟨none, .store 1 (.tmp 65) (.tmp 60), none, [((some 54), .bin .add (so (.binOp .add 3 (.tmp 52) (.tmp 53) 3) 3) (.tmp 52) (.tmp 53), none), ((some 53), .mov (.tmp 12), none), ((some 52), .mov (.tmp 1), none), ((some 51), .mov (.tmp 0), none)], false⟩,
      ⟨(some 66), .indexSl 1 (.tmp 51) (.tmp 54), none, [], true⟩,
      ⟨none, .store 1 (.tmp 66) (.tmp 64), none, [], true⟩])))) (.region [
      ⟨(some 36), .mov (.tmp 11), none, [], false⟩,
      ⟨(some 37), .bin .add (so (.binOp .add 3 (.tmp 36) (.const (.int .i64 1)) 3) 3) (.tmp 36) (.const (.int .i64 1)), none, [], false⟩,
      ⟨(some 11), .mov (.tmp 37), none, [], false⟩])))
def zhbQ_c : ACode :=
  (.seq (.region [
      ⟨(some 13), .mov (.tmp 2), none, [], false⟩,
      ⟨(some 14), .mov (.tmp 1), none, [], false⟩,
      ⟨(some 15), .bin .sub (so (.binOp .sub 3 (.tmp 13) (.tmp 14) 3) 3) (.tmp 13) (.tmp 14), none, [], false⟩,
      ⟨(some 8), .mov (.tmp 15), none, [], false⟩]) (.seq (.region [
      ⟨(some 16), .mov (.tmp 8), none, [], false⟩,
      ⟨(some 17), .bin .geq (so (.binOp .geq 3 (.tmp 16) (.const (.int .i64 8)) 3) 4) (.tmp 16) (.const (.int .i64 8)), none, [], false⟩]) (.cond (.tmp 17)
    (.seq (.region [
      ⟨(some 18), .mov (.tmp 8), none, [], false⟩,
      ⟨(some 19), .conv .u64 (so (.convert 3 107 (.tmp 18)) 107) (.tmp 18), none, [], false⟩,
      ⟨(some 9), .alloc 107 [(.int .u64 0)], none, [], false⟩,
      ⟨none, .store 1 (.tmp 9) (.tmp 19), none, [], false⟩]) (.seq (.region [
      ⟨(some 20), .mov (.tmp 8), none, [], false⟩,
      ⟨(some 21), .callV (.func 66) [(.tmp 20)], none, [], false⟩,
      ⟨(some 10), .mov (.tmp 21), none, [], false⟩]) (.seq (.region [
      ⟨(some 22), .mov (.tmp 1), none, [], false⟩,
      ⟨(some 23), .mov (.tmp 8), none, [], false⟩,
      ⟨(some 24), .bin .quo (so (.binOp .quo 3 (.tmp 23) (.const (.int .i64 4)) 3) 3) (.tmp 23) (.const (.int .i64 4)), none, [], false⟩,
      ⟨(some 25), .bin .mul (so (.binOp .mul 3 (.tmp 24) (.const (.int .i64 2)) 3) 3) (.tmp 24) (.const (.int .i64 2)), none, [], false⟩,
      ⟨(some 26), .bin .add (so (.binOp .add 3 (.tmp 22) (.tmp 25) 3) 3) (.tmp 22) (.tmp 25), none, [], false⟩,
      ⟨(some 27), .bin .sub (so (.binOp .sub 3 (.tmp 26) (.const (.int .i64 1)) 3) 3) (.tmp 26) (.const (.int .i64 1)), none, [], false⟩,
      ⟨(some 11), .mov (.tmp 27), none, [], false⟩]) (.block 0 (.loop zhbQ_l0)))))
    .skip)))
def zhbQ : AFunc := ⟨67, [], zhbQ_c, none⟩
theorem zhbQ_t0 : tableOf Try.prog 57 = some zhbQ := by kernel_rfl
theorem zhbQ_t : T0 57 = some zhbQ := withKept_t rfl (withTrue_t rfl zhbQ_t0)
abbrev fn_zibQ : FuncId := 58
def zibQ_c : ACode :=
  (.seq (.region [
      ⟨(some 8), .mov (.const (.int .i64 0)), none, [], false⟩,
      ⟨(some 9), .mov (.const (.int .i64 0)), none, [], false⟩]) (.seq (.region [
      ⟨(some 15), .mov (.tmp 2), none, [], false⟩,
      ⟨(some 16), .mov (.tmp 1), none, [], false⟩,
      ⟨(some 17), .bin .sub (so (.binOp .sub 3 (.tmp 15) (.tmp 16) 3) 3) (.tmp 15) (.tmp 16), none, [], false⟩,
      ⟨(some 10), .mov (.tmp 17), none, [], false⟩]) (.seq (.region [
      ⟨(some 11), .alloc 3 [(.int .i64 0)], none, [], false⟩]) (.seq (.region [
      ⟨(some 18), .mov (.tmp 1), none, [], false⟩,
      ⟨(some 19), .mov (.tmp 10), none, [], false⟩,
      ⟨(some 20), .bin .quo (so (.binOp .quo 3 (.tmp 19) (.const (.int .i64 4)) 3) 3) (.tmp 19) (.const (.int .i64 4)), none, [], false⟩,
      ⟨(some 21), .bin .mul (so (.binOp .mul 3 (.tmp 20) (.const (.int .i64 1)) 3) 3) (.tmp 20) (.const (.int .i64 1)), none, [], false⟩,
      ⟨(some 22), .bin .add (so (.binOp .add 3 (.tmp 18) (.tmp 21) 3) 3) (.tmp 18) (.tmp 21), none, [], false⟩,
      ⟨(some 12), .mov (.tmp 22), none, [], false⟩]) (.seq (.region [
      ⟨(some 23), .mov (.tmp 1), none, [], false⟩,
      ⟨(some 24), .mov (.tmp 10), none, [], false⟩,
      ⟨(some 25), .bin .quo (so (.binOp .quo 3 (.tmp 24) (.const (.int .i64 4)) 3) 3) (.tmp 24) (.const (.int .i64 4)), none, [], false⟩,
      ⟨(some 26), .bin .mul (so (.binOp .mul 3 (.tmp 25) (.const (.int .i64 2)) 3) 3) (.tmp 25) (.const (.int .i64 2)), none, [], false⟩,
      ⟨(some 27), .bin .add (so (.binOp .add 3 (.tmp 23) (.tmp 26) 3) 3) (.tmp 23) (.tmp 26), none, [], false⟩,
      ⟨(some 13), .mov (.tmp 27), none, [], false⟩]) (.seq (.region [
      ⟨(some 28), .mov (.tmp 1), none, [], false⟩,
      ⟨(some 29), .mov (.tmp 10), none, [], false⟩,
      ⟨(some 30), .bin .quo (so (.binOp .quo 3 (.tmp 29) (.const (.int .i64 4)) 3) 3) (.tmp 29) (.const (.int .i64 4)), none, [], false⟩,
      ⟨(some 31), .bin .mul (so (.binOp .mul 3 (.tmp 30) (.const (.int .i64 3)) 3) 3) (.tmp 30) (.const (.int .i64 3)), none, [], false⟩,
      ⟨(some 32), .bin .add (so (.binOp .add 3 (.tmp 28) (.tmp 31) 3) 3) (.tmp 28) (.tmp 31), none, [], false⟩,
      ⟨(some 14), .mov (.tmp 32), none, [], false⟩]) (.seq (.seq (.region [
      ⟨(some 33), .mov (.tmp 10), none, [], false⟩,
      ⟨(some 34), .bin .geq (so (.binOp .geq 3 (.tmp 33) (.const (.int .i64 8)) 3) 4) (.tmp 33) (.const (.int .i64 8)), none, [], false⟩]) (.cond (.tmp 34)
    (.seq (.seq (.region [
      ⟨(some 35), .mov (.tmp 10), none, [], false⟩,
      ⟨(some 36), .bin .geq (so (.binOp .geq 3 (.tmp 35) (.const (.int .i64 50)) 3) 4) (.tmp 35) (.const (.int .i64 50)), none, [], false⟩]) (.cond (.tmp 36)
    (.seq (.region [
      ⟨(some 37), .mov (.tmp 0), none, [], false⟩,
      ⟨(some 38), .mov (.tmp 12), none, [], false⟩,
      ⟨(some 39), .mov (.tmp 3), none, [], false⟩,
      ⟨(some 40), .callV (.func 68) [(.tmp 37), (.tmp 38), (.tmp 11), (.tmp 39)], none, [], false⟩,
      ⟨(some 12), .mov (.tmp 40), none, [], false⟩]) (.seq (.region [
      ⟨(some 41), .mov (.tmp 0), none, [], false⟩,
      ⟨(some 42), .mov (.tmp 13), none, [], false⟩,
      ⟨(some 43), .mov (.tmp 3), none, [], false⟩,
      ⟨(some 44), .callV (.func 68) [(.tmp 41), (.tmp 42), (.tmp 11), (.tmp 43)], none, [], false⟩,
      ⟨(some 13), .mov (.tmp 44), none, [], false⟩]) (.region [
      ⟨(some 45), .mov (.tmp 0), none, [], false⟩,
      ⟨(some 46), .mov (.tmp 14), none, [], false⟩,
      ⟨(some 47), .mov (.tmp 3), none, [], false⟩,
      ⟨(some 48), .callV (.func 68) [(.tmp 45), (.tmp 46), (.tmp 11), (.tmp 47)], none, [], false⟩,
      ⟨(some 14), .mov (.tmp 48), none, [], false⟩])))
    .skip)) (.region [
      ⟨(some 49), .mov (.tmp 0), none, [], false⟩,
      ⟨(some 50), .mov (.tmp 12), none, [], false⟩,
      ⟨(some 51), .mov (.tmp 13), none, [], false⟩,
      ⟨(some 52), .mov (.tmp 14), none, [], false⟩,
      ⟨(some 53), .mov (.tmp 3), none, [], false⟩,
      ⟨(some 54), .callV (.func 69) [(.tmp 49), (.tmp 50), (.tmp 51), (.tmp 52), (.tmp 11), (.tmp 53)], none, [], false⟩,
      ⟨(some 13), .mov (.tmp 54), none, [], false⟩]))
    .skip)) (.seq (.region [
      ⟨(some 55), .load none (.tmp 11), none, [], false⟩]) (.block 0 (.seq (.region [
      ⟨(some 58), .bin .eql (so (.binOp .eql 3 (.tmp 55) (.const (.int .i64 0)) 3) 4) (.tmp 55) (.const (.int .i64 0)), none, [], false⟩,
      ⟨(some 57), .mov (.tmp 58), none, [], false⟩]) (.cond (.tmp 57)
    (.seq (.region [
      ⟨(some 59), .mov (.tmp 13), none, [], false⟩,
      ⟨(some 8), .mov (.tmp 59), none, [], false⟩,
      ⟨(some 9), .mov (.const (.int .i64 1)), none, [], false⟩]) .ret)
    (.seq (.region [
      ⟨(some 61), .bin .eql (so (.binOp .eql 3 (.tmp 55) (.const (.int .i64 12)) 3) 4) (.tmp 55) (.const (.int .i64 12)), none, [], false⟩,
      ⟨(some 60), .mov (.tmp 61), none, [], false⟩]) (.cond (.tmp 60)
    (.seq (.region [
      ⟨(some 62), .mov (.tmp 13), none, [], false⟩,
      ⟨(some 8), .mov (.tmp 62), none, [], false⟩,
      ⟨(some 9), .mov (.const (.int .i64 2)), none, [], false⟩]) .ret)
    (.seq (.region [
      ⟨(some 56), .mov (.tmp 13), none, [], false⟩,
      ⟨(some 8), .mov (.tmp 56), none, [], false⟩,
      ⟨(some 9), .mov (.const (.int .i64 0)), none, [], false⟩]) .ret))))))))))))))
def zibQ : AFunc := ⟨63, [(8, none), (9, none)], zibQ_c, none⟩
theorem zibQ_t0 : tableOf Try.prog 58 = some zibQ := by kernel_rfl
theorem zibQ_t : T0 58 = some zibQ := withKept_t rfl (withTrue_t rfl zibQ_t0)
abbrev fn_ztbQ : FuncId := 59
def ztbQ_l0 : ACode :=
  (.seq (.seq (.region [
      ⟨(some 13), .mov (.tmp 8), none, [], false⟩,
      ⟨(some 14), .mov (.tmp 9), none, [], false⟩,
      ⟨(some 15), .bin .lss (so (.binOp .lss 3 (.tmp 13) (.tmp 14) 3) 4) (.tmp 13) (.tmp 14), none, [], false⟩]) (.cond (.tmp 15)
    .skip
    (.exit 0))) (.block 1 (.seq (.regionD [
      ⟨(some 16), .mov (.tmp 0), none, [], false⟩,
      ⟨(some 17), .mov (.tmp 8), none, [], false⟩,
      ⟨(some 18), .mov (.tmp 0), none, [], false⟩,
      ⟨(some 19), .mov (.tmp 9), none, [], false⟩,
      ⟨(some 20), .mov (.tmp 0), none, [], false⟩,
      ⟨(some 21), .mov (.tmp 9), none, [], false⟩,
      ⟨(some 22), .indexSl 1 (.tmp 20) (.tmp 21), none, [], false⟩,
      ⟨(some 23), .load none (.tmp 22), none, [], false⟩,
      ⟨(some 24), .mov (.tmp 0), none, [], false⟩,
      ⟨(some 25), .mov (.tmp 8), none, [], false⟩,
      ⟨(some 26), .indexSl 1 (.tmp 24) (.tmp 25), none, [], false⟩,
      ⟨(some 27), .load none (.tmp 26), none, [], false⟩,
      ⟨(some 28), .indexSl 1 (.tmp 16) (.tmp 17), none, [], false⟩,
      ⟨none, .store 1 (.tmp 28) (.tmp 23), none, [((some 19), .mov (.tmp 9), none), ((some 18), .mov (.tmp 0), none)], false⟩,
      ⟨(some 29), .indexSl 1 (.tmp 18) (.tmp 19), none, [], true⟩,
      ⟨none, .store 1 (.tmp 29) (.tmp 27), none, [], true⟩]) (.seq (.region [
      ⟨(some 30), .mov (.tmp 8), none, [], false⟩,
      ⟨(some 31), .bin .add (so (.binOp .add 3 (.tmp 30) (.const (.int .i64 1)) 3) 3) (.tmp 30) (.const (.int .i64 1)), none, [], false⟩,
      ⟨(some 8), .mov (.tmp 31), none, [], false⟩]) (.region [
      ⟨(some 32), .mov (.tmp 9), none, [], false⟩,
      ⟨(some 33), .bin .sub (so (.binOp .sub 3 (.tmp 32) (.const (.int .i64 1)) 3) 3) (.tmp 32) (.const (.int .i64 1)), none, [], false⟩,
      ⟨(some 9), .mov (.tmp 33), none, [], false⟩])))))
def ztbQ_c : ACode :=
  (.seq (.region [
      ⟨(some 10), .mov (.tmp 1), none, [], false⟩,
      ⟨(some 8), .mov (.tmp 10), none, [], false⟩]) (.seq (.region [
      ⟨(some 11), .mov (.tmp 2), none, [], false⟩,
      ⟨(some 12), .bin .sub (so (.binOp .sub 3 (.tmp 11) (.const (.int .i64 1)) 3) 3) (.tmp 11) (.const (.int .i64 1)), none, [], false⟩,
      ⟨(some 9), .mov (.tmp 12), none, [], false⟩]) (.block 0 (.loop ztbQ_l0))))
def ztbQ : AFunc := ⟨34, [], ztbQ_c, none⟩
theorem ztbQ_t0 : tableOf Try.prog 59 = some ztbQ := by kernel_rfl
theorem ztbQ_t : T0 59 = some ztbQ := withKept_t rfl (withTrue_t rfl ztbQ_t0)
abbrev fn_zpbQ : FuncId := 60
def zpbQ_l0 : ACode :=
  (.seq (.seq (.regionD [
      ⟨(some 19), .mov (.tmp 9), none, [], false⟩,
      ⟨(some 20), .mov (.tmp 2), none, [], false⟩,
      ⟨(some 21), .bin .lss (so (.binOp .lss 3 (.tmp 19) (.tmp 20) 3) 4) (.tmp 19) (.tmp 20), none, [], true⟩,
      ⟨(some 22), .mov (.tmp 21), none, [], true⟩,
      ⟨(some 23), .mov (.tmp 3), (some (22, true)), [], false⟩,
      ⟨(some 24), .mov (.tmp 0), (some (22, true)), [], false⟩,
      ⟨(some 25), .mov (.tmp 9), (some (22, true)), [], false⟩,
      ⟨(some 26), .indexSl 1 (.tmp 24) (.tmp 25), (some (22, true)), [], false⟩,
      ⟨(some 27), .load none (.tmp 26), (some (22, true)), [], false⟩,
      ⟨(some 28), .mov (.tmp 0), (some (22, true)), [], false⟩,
      ⟨(some 29), .mov (.tmp 9), (some (22, true)), [], false⟩,
      ⟨(some 30), .bin .sub (so (.binOp .sub 3 (.tmp 29) (.const (.int .i64 1)) 3) 3) (.tmp 29) (.const (.int .i64 1)), (some (22, true)), [], false⟩,
      ⟨(some 31), .indexSl 1 (.tmp 28) (.tmp 30), (some (22, true)), [], false⟩,
      ⟨(some 32), .load none (.tmp 31), (some (22, true)), [], false⟩,
      ⟨(some 33), .callV (.tmp 23) [(.tmp 27), (.tmp 32)], (some (22, true)), [], true⟩,
      ⟨(some 34), .bin .lss (so (.binOp .lss 3 (.tmp 33) (.const (.int .i64 0)) 3) 4) (.tmp 33) (.const (.int .i64 0)), (some (22, true)), [], true⟩,
      ⟨(some 35), .raw (so (.unOp .not 4 (.tmp 34)) 4), (some (22, true)), [], true⟩,
      ⟨(some 36), .pick (.tmp 22) (.tmp 35) (.const (.bool false)), none, [], true⟩]) (.cond (.tmp 36)
    .skip
    (.exit 2))) (.block 3 (.region [
      ⟨(some 37), .mov (.tmp 9), none, [], false⟩,
      ⟨(some 38), .bin .add (so (.binOp .add 3 (.tmp 37) (.const (.int .i64 1)) 3) 3) (.tmp 37) (.const (.int .i64 1)), none, [], false⟩,
      ⟨(some 9), .mov (.tmp 38), none, [], false⟩])))
def zpbQ_l1 : ACode :=
  (.seq (.seq (.region [
      ⟨(some 68), .mov (.tmp 11), none, [], false⟩,
      ⟨(some 69), .bin .geq (so (.binOp .geq 3 (.tmp 68) (.const (.int .i64 1)) 3) 4) (.tmp 68) (.const (.int .i64 1)), none, [], false⟩]) (.cond (.tmp 69)
    .skip
    (.exit 4))) (.seq (.block 5 (.seq (.seq (.regionD [
      ⟨(some 72), .mov (.tmp 3), none, [], false⟩,
      ⟨(some 73), .mov (.tmp 0), none, [], false⟩,
      ⟨(some 74), .mov (.tmp 11), none, [], false⟩,
      ⟨(some 75), .indexSl 1 (.tmp 73) (.tmp 74), none, [], false⟩,
      ⟨(some 76), .load none (.tmp 75), none, [], false⟩,
      ⟨(some 77), .mov (.tmp 0), none, [], false⟩,
      ⟨(some 78), .mov (.tmp 11), none, [], false⟩,
      ⟨(some 79), .bin .sub (so (.binOp .sub 3 (.tmp 78) (.const (.int .i64 1)) 3) 3) (.tmp 78) (.const (.int .i64 1)), none, [], false⟩,
      ⟨(some 80), .indexSl 1 (.tmp 77) (.tmp 79), none, [], false⟩,
      ⟨(some 81), .load none (.tmp 80), none, [], false⟩,
      ⟨(some 82), .callV (.tmp 72) [(.tmp 76), (.tmp 81)], none, [], true⟩,
      ⟨(some 83), .bin .lss (so (.binOp .lss 3 (.tmp 82) (.const (.int .i64 0)) 3) 4) (.tmp 82) (.const (.int .i64 0)), none, [], true⟩,
      ⟨(some 84), .raw (so (.unOp .not 4 (.tmp 83)) 4), none, [], true⟩]) (.cond (.tmp 84)
    (.exit 4)
    .skip)) (.regionD [
      ⟨(some 85), .mov (.tmp 0), none, [], false⟩,
      ⟨(some 86), .mov (.tmp 11), none, [], false⟩,
      ⟨(some 87), .mov (.tmp 0), none, [], false⟩,
      ⟨(some 88), .mov (.tmp 11), none, [], false⟩,
      ⟨(some 89), .bin .sub (so (.binOp .sub 3 (.tmp 88) (.const (.int .i64 1)) 3) 3) (.tmp 88) (.const (.int .i64 1)), none, [], false⟩,
      ⟨(some 90), .mov (.tmp 0), none, [], false⟩,
      ⟨(some 91), .mov (.tmp 11), none, [], false⟩,
      ⟨(some 92), .bin .sub (so (.binOp .sub 3 (.tmp 91) (.const (.int .i64 1)) 3) 3) (.tmp 91) (.const (.int .i64 1)), none, [], false⟩,
      ⟨(some 93), .indexSl 1 (.tmp 90) (.tmp 92), none, [], false⟩,
      ⟨(some 94), .load none (.tmp 93), none, [], false⟩,
      ⟨(some 95), .mov (.tmp 0), none, [], false⟩,
      ⟨(some 96), .mov (.tmp 11), none, [], false⟩,
      ⟨(some 97), .indexSl 1 (.tmp 95) (.tmp 96), none, [], false⟩,
      ⟨(some 98), .load none (.tmp 97), none, [], false⟩,
      ⟨(some 99), .indexSl 1 (.tmp 85) (.tmp 86), none, [], false⟩,
      ⟨none, .store 1 (.tmp 99) (.tmp 94), none, [((some 89), .bin .sub (so (.binOp .sub 3 (.tmp 88) (.const (.int .i64 1)) 3) 3) (.tmp 88) (.const (.int .i64 1)), none), ((some 88), .mov (.tmp 11), none), ((some 87), .mov (.tmp 0), none)], false⟩,
      ⟨(some 100), .indexSl 1 (.tmp 87) (.tmp 89), none, [], true⟩,
      ⟨none, .store 1 (.tmp 100) (.tmp 98), none, [], true⟩]))) (.region [
      ⟨(some 70), .mov (.tmp 11), none, [], false⟩,
      ⟨(some 71), .bin .sub (so (.binOp .sub 3 (.tmp 70) (.const (.int .i64 1)) 3) 3) (.tmp 70) (.const (.int .i64 1)), none, [], false⟩,
      ⟨(some 11), .mov (.tmp 71), none, [], false⟩])))
def zpbQ_l2 : ACode :=
  (.seq (.seq (.region [
      ⟨(some 107), .mov (.tmp 12), none, [], false⟩,
      ⟨(some 108), .mov (.tmp 2), none, [], false⟩,
      ⟨(some 109), .bin .lss (so (.binOp .lss 3 (.tmp 107) (.tmp 108) 3) 4) (.tmp 107) (.tmp 108), none, [], false⟩]) (.cond (.tmp 109)
    .skip
    (.exit 6))) (.seq (.block 7 (.seq (.seq (.regionD [
      ⟨(some 112), .mov (.tmp 3), none, [], false⟩,
      ⟨(some 113), .mov (.tmp 0), none, [], false⟩,
      ⟨(some 114), .mov (.tmp 12), none, [], false⟩,
      ⟨(some 115), .indexSl 1 (.tmp 113) (.tmp 114), none, [], false⟩,
      ⟨(some 116), .load none (.tmp 115), none, [], false⟩,
      ⟨(some 117), .mov (.tmp 0), none, [], false⟩,
      ⟨(some 118), .mov (.tmp 12), none, [], false⟩,
      ⟨(some 119), .bin .sub (so (.binOp .sub 3 (.tmp 118) (.const (.int .i64 1)) 3) 3) (.tmp 118) (.const (.int .i64 1)), none, [], false⟩,
      ⟨(some 120), .indexSl 1 (.tmp 117) (.tmp 119), none, [], false⟩,
      ⟨(some 121), .load none (.tmp 120), none, [], false⟩,
      ⟨(some 122), .callV (.tmp 112) [(.tmp 116), (.tmp 121)], none, [], true⟩,
      ⟨(some 123), .bin .lss (so (.binOp .lss 3 (.tmp 122) (.const (.int .i64 0)) 3) 4) (.tmp 122) (.const (.int .i64 0)), none, [], true⟩,
      ⟨(some 124), .raw (so (.unOp .not 4 (.tmp 123)) 4), none, [], true⟩]) (.cond (.tmp 124)
    (.exit 6)
    .skip)) (.regionD [
      ⟨(some 125), .mov (.tmp 0), none, [], false⟩,
      ⟨(some 126), .mov (.tmp 12), none, [], false⟩,
      ⟨(some 127), .mov (.tmp 0), none, [], false⟩,
      ⟨(some 128), .mov (.tmp 12), none, [], false⟩,
      ⟨(some 129), .bin .sub (so (.binOp .sub 3 (.tmp 128) (.const (.int .i64 1)) 3) 3) (.tmp 128) (.const (.int .i64 1)), none, [], false⟩,
      ⟨(some 130), .mov (.tmp 0), none, [], false⟩,
      ⟨(some 131), .mov (.tmp 12), none, [], false⟩,
      ⟨(some 132), .bin .sub (so (.binOp .sub 3 (.tmp 131) (.const (.int .i64 1)) 3) 3) (.tmp 131) (.const (.int .i64 1)), none, [], false⟩,
      ⟨(some 133), .indexSl 1 (.tmp 130) (.tmp 132), none, [], false⟩,
      ⟨(some 134), .load none (.tmp 133), none, [], false⟩,
      ⟨(some 135), .mov (.tmp 0), none, [], false⟩,
      ⟨(some 136), .mov (.tmp 12), none, [], false⟩,
      ⟨(some 137), .indexSl 1 (.tmp 135) (.tmp 136), none, [], false⟩,
      ⟨(some 138), .load none (.tmp 137), none, [], false⟩,
      ⟨(some 139), .indexSl 1 (.tmp 125) (.tmp 126), none, [], false⟩,
      ⟨none, .store 1 (.tmp 139) (.tmp 134), none, [((some 129), .bin .sub (so (.binOp .sub 3 (.tmp 128) (.const (.int .i64 1)) 3) 3) (.tmp 128) (.const (.int .i64 1)), none), ((some 128), .mov (.tmp 12), none), ((some 127), .mov (.tmp 0), none)], false⟩,
      ⟨(some 140), .indexSl 1 (.tmp 127) (.tmp 129), none, [], true⟩,
      ⟨none, .store 1 (.tmp 140) (.tmp 138), none, [], true⟩]))) (.region [
      ⟨(some 110), .mov (.tmp 12), none, [], false⟩,
      ⟨(some 111), .bin .add (so (.binOp .add 3 (.tmp 110) (.const (.int .i64 1)) 3) 3) (.tmp 110) (.const (.int .i64 1)), none, [], false⟩,
      ⟨(some 12), .mov (.tmp 111), none, [], false⟩])))
def zpbQ_l3 : ACode :=
  (.seq (.seq (.region [
      ⟨(some 15), .mov (.tmp 10), none, [], false⟩,
      ⟨(some 16), .bin .lss (so (.binOp .lss 3 (.tmp 15) (.const (.int .i64 5)) 3) 4) (.tmp 15) (.const (.int .i64 5)), none, [], false⟩]) (.cond (.tmp 16)
    .skip
    (.exit 0))) (.seq (.block 1 (.seq (.block 2 (.loop zpbQ_l0)) (.seq (.seq (.region [
      ⟨(some 39), .mov (.tmp 9), none, [], false⟩,
      ⟨(some 40), .mov (.tmp 2), none, [], false⟩,
      ⟨(some 41), .bin .eql (so (.binOp .eql 3 (.tmp 39) (.tmp 40) 3) 4) (.tmp 39) (.tmp 40), none, [], false⟩]) (.cond (.tmp 41)
    (.seq (.region [
      ⟨(some 8), .mov (.const (.bool true)), none, [], false⟩]) .ret)
    .skip)) (.seq (.seq (.region [
      ⟨(some 42), .mov (.tmp 2), none, [], false⟩,
      ⟨(some 43), .mov (.tmp 1), none, [], false⟩,
      ⟨(some 44), .bin .sub (so (.binOp .sub 3 (.tmp 42) (.tmp 43) 3) 3) (.tmp 42) (.tmp 43), none, [], false⟩,
      ⟨(some 45), .bin .lss (so (.binOp .lss 3 (.tmp 44) (.const (.int .i64 50)) 3) 4) (.tmp 44) (.const (.int .i64 50)), none, [], false⟩]) (.cond (.tmp 45)
    (.seq (.region [
      ⟨(some 8), .mov (.const (.bool false)), none, [], false⟩]) .ret)
    .skip)) (.seq (.regionD [
      ⟨(some 46), .mov (.tmp 0), none, [], false⟩,
      ⟨(some 47), .mov (.tmp 9), none, [], false⟩,
      ⟨(some 48), .mov (.tmp 0), none, [], false⟩,
      ⟨(some 49), .mov (.tmp 9), none, [], false⟩,
      ⟨(some 50), .bin .sub (so (.binOp .sub 3 (.tmp 49) (.const (.int .i64 1)) 3) 3) (.tmp 49) (.const (.int .i64 1)), none, [], false⟩,
      ⟨(some 51), .mov (.tmp 0), none, [], false⟩,
      ⟨(some 52), .mov (.tmp 9), none, [], false⟩,
      ⟨(some 53), .bin .sub (so (.binOp .sub 3 (.tmp 52) (.const (.int .i64 1)) 3) 3) (.tmp 52) (.const (.int .i64 1)), none, [], false⟩,
      ⟨(some 54), .indexSl 1 (.tmp 51) (.tmp 53), none, [], false⟩,
      ⟨(some 55), .load none (.tmp 54), none, [], false⟩,
      ⟨(some 56), .mov (.tmp 0), none, [], false⟩,
      ⟨(some 57), .mov (.tmp 9), none, [], false⟩,
      ⟨(some 58), .indexSl 1 (.tmp 56) (.tmp 57), none, [], false⟩,
      ⟨(some 59), .load none (.tmp 58), none, [], false⟩,
      ⟨(some 60), .indexSl 1 (.tmp 46) (.tmp 47), none, [], false⟩,
      ⟨none, .store 1 (.tmp 60) (.tmp 55), none, [((some 50), .bin .sub (so (.binOp .sub 3 (.tmp 49) (.const (.int .i64 1)) 3) 3) (.tmp 49) (.const (.int .i64 1)), none), ((some 49), .mov (.tmp 9), none), ((some 48), .mov (.tmp 0), none)], false⟩,
      ⟨(some 61), .indexSl 1 (.tmp 48) (.tmp 50), none, [], true⟩,
      ⟨none, .store 1 (.tmp 61) (.tmp 59), none, [], true⟩]) (.seq (.seq (.region [
      ⟨(some 62), .mov (.tmp 9), none, [], false⟩,
      ⟨(some 63), .mov (.tmp 1), none, [], false⟩,
      ⟨(some 64), .bin .sub (so (.binOp .sub 3 (.tmp 62) (.tmp 63) 3) 3) (.tmp 62) (.tmp 63), none, [], false⟩,
      ⟨(some 65), .bin .geq (so (.binOp .geq 3 (.tmp 64) (.const (.int .i64 2)) 3) 4) (.tmp 64) (.const (.int .i64 2)), none, [], false⟩]) (.cond (.tmp 65)
    (.seq (.region [
      ⟨(some 66), .mov (.tmp 9), none, [], false⟩,
      ⟨(some 67), .bin .sub (so (.binOp .sub 3 (.tmp 66) (.const (.int .i64 1)) 3) 3) (.tmp 66) (.const (.int .i64 1)), none, [], false⟩,
      ⟨(some 11), .mov (.tmp 67), none, [], false⟩]) (.block 4 (.loop zpbQ_l1)))
    .skip)) (.seq (.region [
      ⟨(some 101), .mov (.tmp 2), none, [], false⟩,
      ⟨(some 102), .mov (.tmp 9), none, [], false⟩,
      ⟨(some 103), .bin .sub (so (.binOp .sub 3 (.tmp 101) (.tmp 102) 3) 3) (.tmp 101) (.tmp 102), none, [], false⟩,
      ⟨(some 104), .bin .geq (so (.binOp .geq 3 (.tmp 103) (.const (.int .i64 2)) 3) 4) (.tmp 103) (.const (.int .i64 2)), none, [], false⟩]) (.cond (.tmp 104)
    (.seq (.region [
      ⟨(some 105), .mov (.tmp 9), none, [], false⟩,
      ⟨(some 106), .bin .add (so (.binOp .add 3 (.tmp 105) (.const (.int .i64 1)) 3) 3) (.tmp 105) (.const (.int .i64 1)), none, [], false⟩,
      ⟨(some 12), .mov (.tmp 106), none, [], false⟩]) (.block 6 (.loop zpbQ_l2)))
    .skip)))))))) (.region [
      ⟨(some 17), .mov (.tmp 10), none, [], false⟩,
      ⟨(some 18), .bin .add (so (.binOp .add 3 (.tmp 17) (.const (.int .i64 1)) 3) 3) (.tmp 17) (.const (.int .i64 1)), none, [], false⟩,
      ⟨(some 10), .mov (.tmp 18), none, [], false⟩])))
def zpbQ_c : ACode :=
  (.seq (.region [
      ⟨(some 8), .mov (.const (.bool false)), none, [], false⟩]) (.seq (.region [
      ⟨(some 13), .mov (.tmp 1), none, [], false⟩,
      ⟨(some 14), .bin .add (so (.binOp .add 3 (.tmp 13) (.const (.int .i64 1)) 3) 3) (.tmp 13) (.const (.int .i64 1)), none, [], false⟩,
      ⟨(some 9), .mov (.tmp 14), none, [], false⟩]) (.seq (.seq (.region [
      ⟨(some 10), .mov (.const (.int .i64 0)), none, [], false⟩]) (.block 0 (.loop zpbQ_l3))) (.seq (.region [
      ⟨(some 8), .mov (.const (.bool false)), none, [], false⟩]) .ret))))
def zpbQ : AFunc := ⟨141, [(8, none)], zpbQ_c, none⟩
theorem zpbQ_t0 : tableOf Try.prog 60 = some zpbQ := by kernel_rfl
theorem zpbQ_t : T0 60 = some zpbQ := withKept_t rfl (withTrue_t rfl zpbQ_t0)
abbrev fn_zrbQ : FuncId := 61
def zrbQ_l0 : ACode :=
  (.seq (.seq (.regionD [
      ⟨(some 31), .mov (.tmp 11), none, [], false⟩,
      ⟨(some 32), .mov (.tmp 12), none, [], false⟩,
      ⟨(some 33), .bin .leq (so (.binOp .leq 3 (.tmp 31) (.tmp 32) 3) 4) (.tmp 31) (.tmp 32), none, [], true⟩,
      ⟨(some 34), .mov (.tmp 33), none, [], true⟩,
      ⟨(some 35), .mov (.tmp 4), (some (34, true)), [], false⟩,
      ⟨(some 36), .mov (.tmp 0), (some (34, true)), [], false⟩,
      ⟨(some 37), .mov (.tmp 1), (some (34, true)), [], false⟩,
      ⟨(some 38), .indexSl 1 (.tmp 36) (.tmp 37), (some (34, true)), [], false⟩,
      ⟨(some 39), .load none (.tmp 38), (some (34, true)), [], false⟩,
      ⟨(some 40), .mov (.tmp 0), (some (34, true)), [], false⟩,
      ⟨(some 41), .mov (.tmp 11), (some (34, true)), [], false⟩,
      ⟨(some 42), .indexSl 1 (.tmp 40) (.tmp 41), (some (34, true)), [], false⟩,
      ⟨(some 43), .load none (.tmp 42), (some (34, true)), [], false⟩,
      ⟨(some 44), .callV (.tmp 35) [(.tmp 39), (.tmp 43)], (some (34, true)), [], true⟩,
      ⟨(some 45), .bin .lss (so (.binOp .lss 3 (.tmp 44) (.const (.int .i64 0)) 3) 4) (.tmp 44) (.const (.int .i64 0)), (some (34, true)), [], true⟩,
      ⟨(some 46), .raw (so (.unOp .not 4 (.tmp 45)) 4), (some (34, true)), [], true⟩,
      ⟨(some 47), .pick (.tmp 34) (.tmp 46) (.const (.bool false)), none, [], true⟩]) (.cond (.tmp 47)
    .skip
    (.exit 2))) (.block 3 (.region [
      ⟨(some 48), .mov (.tmp 11), none, [], false⟩,
      ⟨(some 49), .bin .add (so (.binOp .add 3 (.tmp 48) (.const (.int .i64 1)) 3) 3) (.tmp 48) (.const (.int .i64 1)), none, [], false⟩,
      ⟨(some 11), .mov (.tmp 49), none, [], false⟩])))
def zrbQ_l1 : ACode :=
  (.seq (.seq (.regionD [
      ⟨(some 50), .mov (.tmp 11), none, [], false⟩,
      ⟨(some 51), .mov (.tmp 12), none, [], false⟩,
      ⟨(some 52), .bin .leq (so (.binOp .leq 3 (.tmp 50) (.tmp 51) 3) 4) (.tmp 50) (.tmp 51), none, [], true⟩,
      ⟨(some 53), .mov (.tmp 52), none, [], true⟩,
      ⟨(some 54), .mov (.tmp 4), (some (53, true)), [], false⟩,
      ⟨(some 55), .mov (.tmp 0), (some (53, true)), [], false⟩,
      ⟨(some 56), .mov (.tmp 1), (some (53, true)), [], false⟩,
      ⟨(some 57), .indexSl 1 (.tmp 55) (.tmp 56), (some (53, true)), [], false⟩,
      ⟨(some 58), .load none (.tmp 57), (some (53, true)), [], false⟩,
      ⟨(some 59), .mov (.tmp 0), (some (53, true)), [], false⟩,
      ⟨(some 60), .mov (.tmp 12), (some (53, true)), [], false⟩,
      ⟨(some 61), .indexSl 1 (.tmp 59) (.tmp 60), (some (53, true)), [], false⟩,
      ⟨(some 62), .load none (.tmp 61), (some (53, true)), [], false⟩,
      ⟨(some 63), .callV (.tmp 54) [(.tmp 58), (.tmp 62)], (some (53, true)), [], true⟩,
      ⟨(some 64), .bin .lss (so (.binOp .lss 3 (.tmp 63) (.const (.int .i64 0)) 3) 4) (.tmp 63) (.const (.int .i64 0)), (some (53, true)), [], true⟩,
      ⟨(some 65), .pick (.tmp 53) (.tmp 64) (.const (.bool false)), none, [], true⟩]) (.cond (.tmp 65)
    .skip
    (.exit 4))) (.block 5 (.region [
      ⟨(some 66), .mov (.tmp 12), none, [], false⟩,
      ⟨(some 67), .bin .sub (so (.binOp .sub 3 (.tmp 66) (.const (.int .i64 1)) 3) 3) (.tmp 66) (.const (.int .i64 1)), none, [], false⟩,
      ⟨(some 12), .mov (.tmp 67), none, [], false⟩])))
def zrbQ_l2 : ACode :=
  (.block 1 (.seq (.block 2 (.loop zrbQ_l0)) (.seq (.block 4 (.loop zrbQ_l1)) (.seq (.seq (.region [
      ⟨(some 68), .mov (.tmp 11), none, [], false⟩,
      ⟨(some 69), .mov (.tmp 12), none, [], false⟩,
      ⟨(some 70), .bin .gtr (so (.binOp .gtr 3 (.tmp 68) (.tmp 69) 3) 4) (.tmp 68) (.tmp 69), none, [], false⟩]) (.cond (.tmp 70)
    (.exit 0)
    .skip)) (.seq (.regionD [
      ⟨(some 71), .mov (.tmp 0), none, [], false⟩,
      ⟨(some 72), .mov (.tmp 11), none, [], false⟩,
      ⟨(some 73), .mov (.tmp 0), none, [], false⟩,
      ⟨(some 74), .mov (.tmp 12), none, [], false⟩,
      ⟨(some 75), .mov (.tmp 0), none, [], false⟩,
      ⟨(some 76), .mov (.tmp 12), none, [], false⟩,
      ⟨(some 77), .indexSl 1 (.tmp 75) (.tmp 76), none, [], false⟩,
      ⟨(some 78), .load none (.tmp 77), none, [], false⟩,
      ⟨(some 79), .mov (.tmp 0), none, [], false⟩,
      ⟨(some 80), .mov (.tmp 11), none, [], false⟩,
      ⟨(some 81), .indexSl 1 (.tmp 79) (.tmp 80), none, [], false⟩,
      ⟨(some 82), .load none (.tmp 81), none, [], false⟩,
      ⟨(some 83), .indexSl 1 (.tmp 71) (.tmp 72), none, [], false⟩,
      ⟨none, .store 1 (.tmp 83) (.tmp 78), none, [((some 74), .mov (.tmp 12), none), ((some 73), .mov (.tmp 0), none)], false⟩,
      ⟨(some 84), .indexSl 1 (.tmp 73) (.tmp 74), none, [], true⟩,
      ⟨none, .store 1 (.tmp 84) (.tmp 82), none, [], true⟩]) (.seq (.region [
      ⟨(some 85), .mov (.tmp 11), none, [], false⟩,
      ⟨(some 86), .bin .add (so (.binOp .add 3 (.tmp 85) (.const (.int .i64 1)) 3) 3) (.tmp 85) (.const (.int .i64 1)), none, [], false⟩,
      ⟨(some 11), .mov (.tmp 86), none, [], false⟩]) (.region [
      ⟨(some 87), .mov (.tmp 12), none, [], false⟩,
      ⟨(some 88), .bin .sub (so (.binOp .sub 3 (.tmp 87) (.const (.int .i64 1)) 3) 3) (.tmp 87) (.const (.int .i64 1)), none, [], false⟩,
      ⟨(some 12), .mov (.tmp 88), none, [], false⟩])))))))
def zrbQ_c : ACode :=
  (.seq (.region [
      ⟨(some 10), .mov (.const (.int .i64 0)), none, [], false⟩]) (.seq (.regionD [
      ⟨(some 13), .mov (.tmp 0), none, [], false⟩,
      ⟨(some 14), .mov (.tmp 1), none, [], false⟩,
      ⟨(some 15), .mov (.tmp 0), none, [], false⟩,
      ⟨(some 16), .mov (.tmp 3), none, [], false⟩,
      ⟨(some 17), .mov (.tmp 0), none, [], false⟩,
      ⟨(some 18), .mov (.tmp 3), none, [], false⟩,
      ⟨(some 19), .indexSl 1 (.tmp 17) (.tmp 18), none, [], false⟩,
      ⟨(some 20), .load none (.tmp 19), none, [], false⟩,
      ⟨(some 21), .mov (.tmp 0), none, [], false⟩,
      ⟨(some 22), .mov (.tmp 1), none, [], false⟩,
      ⟨(some 23), .indexSl 1 (.tmp 21) (.tmp 22), none, [], false⟩,
      ⟨(some 24), .load none (.tmp 23), none, [], false⟩,
      ⟨(some 25), .indexSl 1 (.tmp 13) (.tmp 14), none, [], false⟩,
      ⟨none, .store 1 (.tmp 25) (.tmp 20), none, [((some 16), .mov (.tmp 3), none), ((some 15), .mov (.tmp 0), none)], false⟩,
      ⟨(some 26), .indexSl 1 (.tmp 15) (.tmp 16), none, [], true⟩,
      ⟨none, .store 1 (.tmp 26) (.tmp 24), none, [], true⟩]) (.seq (.region [
      ⟨(some 27), .mov (.tmp 1), none, [], false⟩,
      ⟨(some 28), .bin .add (so (.binOp .add 3 (.tmp 27) (.const (.int .i64 1)) 3) 3) (.tmp 27) (.const (.int .i64 1)), none, [], false⟩,
      ⟨(some 29), .mov (.tmp 2), none, [], false⟩,
      ⟨(some 30), .bin .sub (so (.binOp .sub 3 (.tmp 29) (.const (.int .i64 1)) 3) 3) (.tmp 29) (.const (.int .i64 1)), none, [], false⟩,
      ⟨(some 11), .mov (.tmp 28), none, [], false⟩,
      ⟨(some 12), .mov (.tmp 30), none, [], false⟩]) (.seq (.block 0 (.loop zrbQ_l2)) (.seq (.region [
      ⟨(some 89), .mov (.tmp 11), none, [], false⟩,
      ⟨(some 10), .mov (.tmp 89), none, [], false⟩]) .ret)))))
def zrbQ : AFunc := ⟨90, [(10, none)], zrbQ_c, none⟩
theorem zrbQ_t0 : tableOf Try.prog 61 = some zrbQ := by kernel_rfl
theorem zrbQ_t : T0 61 = some zrbQ := withKept_t rfl (withTrue_t rfl zrbQ_t0)
abbrev fn_zqbQ : FuncId := 62
def zqbQ_l0 : ACode :=
  (.seq (.seq (.regionD [
      ⟨(some 32), .mov (.tmp 12), none, [], false⟩,
      ⟨(some 33), .mov (.tmp 13), none, [], false⟩,
      ⟨(some 34), .bin .leq (so (.binOp .leq 3 (.tmp 32) (.tmp 33) 3) 4) (.tmp 32) (.tmp 33), none, [], true⟩,
      ⟨(some 35), .mov (.tmp 34), none, [], true⟩,
      ⟨(some 36), .mov (.tmp 4), (some (35, true)), [], false⟩,
      ⟨(some 37), .mov (.tmp 0), (some (35, true)), [], false⟩,
      ⟨(some 38), .mov (.tmp 12), (some (35, true)), [], false⟩,
      ⟨(some 39), .indexSl 1 (.tmp 37) (.tmp 38), (some (35, true)), [], false⟩,
      ⟨(some 40), .load none (.tmp 39), (some (35, true)), [], false⟩,
      ⟨(some 41), .mov (.tmp 0), (some (35, true)), [], false⟩,
      ⟨(some 42), .mov (.tmp 1), (some (35, true)), [], false⟩,
      ⟨(some 43), .indexSl 1 (.tmp 41) (.tmp 42), (some (35, true)), [], false⟩,
      ⟨(some 44), .load none (.tmp 43), (some (35, true)), [], false⟩,
      ⟨(some 45), .callV (.tmp 36) [(.tmp 40), (.tmp 44)], (some (35, true)), [], true⟩,
      ⟨(some 46), .bin .lss (so (.binOp .lss 3 (.tmp 45) (.const (.int .i64 0)) 3) 4) (.tmp 45) (.const (.int .i64 0)), (some (35, true)), [], true⟩,
      ⟨(some 47), .pick (.tmp 35) (.tmp 46) (.const (.bool false)), none, [], true⟩]) (.cond (.tmp 47)
    .skip
    (.exit 0))) (.block 1 (.region [
      ⟨(some 48), .mov (.tmp 12), none, [], false⟩,
      ⟨(some 49), .bin .add (so (.binOp .add 3 (.tmp 48) (.const (.int .i64 1)) 3) 3) (.tmp 48) (.const (.int .i64 1)), none, [], false⟩,
      ⟨(some 12), .mov (.tmp 49), none, [], false⟩])))
def zqbQ_l1 : ACode :=
  (.seq (.seq (.regionD [
      ⟨(some 50), .mov (.tmp 12), none, [], false⟩,
      ⟨(some 51), .mov (.tmp 13), none, [], false⟩,
      ⟨(some 52), .bin .leq (so (.binOp .leq 3 (.tmp 50) (.tmp 51) 3) 4) (.tmp 50) (.tmp 51), none, [], true⟩,
      ⟨(some 53), .mov (.tmp 52), none, [], true⟩,
      ⟨(some 54), .mov (.tmp 4), (some (53, true)), [], false⟩,
      ⟨(some 55), .mov (.tmp 0), (some (53, true)), [], false⟩,
      ⟨(some 56), .mov (.tmp 13), (some (53, true)), [], false⟩,
      ⟨(some 57), .indexSl 1 (.tmp 55) (.tmp 56), (some (53, true)), [], false⟩,
      ⟨(some 58), .load none (.tmp 57), (some (53, true)), [], false⟩,
      ⟨(some 59), .mov (.tmp 0), (some (53, true)), [], false⟩,
      ⟨(some 60), .mov (.tmp 1), (some (53, true)), [], false⟩,
      ⟨(some 61), .indexSl 1 (.tmp 59) (.tmp 60), (some (53, true)), [], false⟩,
      ⟨(some 62), .load none (.tmp 61), (some (53, true)), [], false⟩,
      ⟨(some 63), .callV (.tmp 54) [(.tmp 58), (.tmp 62)], (some (53, true)), [], true⟩,
      ⟨(some 64), .bin .lss (so (.binOp .lss 3 (.tmp 63) (.const (.int .i64 0)) 3) 4) (.tmp 63) (.const (.int .i64 0)), (some (53, true)), [], true⟩,
      ⟨(some 65), .raw (so (.unOp .not 4 (.tmp 64)) 4), (some (53, true)), [], true⟩,
      ⟨(some 66), .pick (.tmp 53) (.tmp 65) (.const (.bool false)), none, [], true⟩]) (.cond (.tmp 66)
    .skip
    (.exit 2))) (.block 3 (.region [
      ⟨(some 67), .mov (.tmp 13), none, [], false⟩,
      ⟨(some 68), .bin .sub (so (.binOp .sub 3 (.tmp 67) (.const (.int .i64 1)) 3) 3) (.tmp 67) (.const (.int .i64 1)), none, [], false⟩,
      ⟨(some 13), .mov (.tmp 68), none, [], false⟩])))
def zqbQ_l2 : ACode :=
  (.seq (.seq (.regionD [
      ⟨(some 105), .mov (.tmp 12), none, [], false⟩,
      ⟨(some 106), .mov (.tmp 13), none, [], false⟩,
      ⟨(some 107), .bin .leq (so (.binOp .leq 3 (.tmp 105) (.tmp 106) 3) 4) (.tmp 105) (.tmp 106), none, [], true⟩,
      ⟨(some 108), .mov (.tmp 107), none, [], true⟩,
      ⟨(some 109), .mov (.tmp 4), (some (108, true)), [], false⟩,
      ⟨(some 110), .mov (.tmp 0), (some (108, true)), [], false⟩,
      ⟨(some 111), .mov (.tmp 12), (some (108, true)), [], false⟩,
      ⟨(some 112), .indexSl 1 (.tmp 110) (.tmp 111), (some (108, true)), [], false⟩,
      ⟨(some 113), .load none (.tmp 112), (some (108, true)), [], false⟩,
      ⟨(some 114), .mov (.tmp 0), (some (108, true)), [], false⟩,
      ⟨(some 115), .mov (.tmp 1), (some (108, true)), [], false⟩,
      ⟨(some 116), .indexSl 1 (.tmp 114) (.tmp 115), (some (108, true)), [], false⟩,
      ⟨(some 117), .load none (.tmp 116), (some (108, true)), [], false⟩,
      ⟨(some 118), .callV (.tmp 109) [(.tmp 113), (.tmp 117)], (some (108, true)), [], true⟩,
      ⟨(some 119), .bin .lss (so (.binOp .lss 3 (.tmp 118) (.const (.int .i64 0)) 3) 4) (.tmp 118) (.const (.int .i64 0)), (some (108, true)), [], true⟩,
      ⟨(some 120), .pick (.tmp 108) (.tmp 119) (.const (.bool false)), none, [], true⟩]) (.cond (.tmp 120)
    .skip
    (.exit 6))) (.block 7 (.region [
      ⟨(some 121), .mov (.tmp 12), none, [], false⟩,
      ⟨(some 122), .bin .add (so (.binOp .add 3 (.tmp 121) (.const (.int .i64 1)) 3) 3) (.tmp 121) (.const (.int .i64 1)), none, [], false⟩,
      ⟨(some 12), .mov (.tmp 122), none, [], false⟩])))
def zqbQ_l3 : ACode :=
  (.seq (.seq (.regionD [
      ⟨(some 123), .mov (.tmp 12), none, [], false⟩,
      ⟨(some 124), .mov (.tmp 13), none, [], false⟩,
      ⟨(some 125), .bin .leq (so (.binOp .leq 3 (.tmp 123) (.tmp 124) 3) 4) (.tmp 123) (.tmp 124), none, [], true⟩,
      ⟨(some 126), .mov (.tmp 125), none, [], true⟩,
      ⟨(some 127), .mov (.tmp 4), (some (126, true)), [], false⟩,
      ⟨(some 128), .mov (.tmp 0), (some (126, true)), [], false⟩,
      ⟨(some 129), .mov (.tmp 13), (some (126, true)), [], false⟩,
      ⟨(some 130), .indexSl 1 (.tmp 128) (.tmp 129), (some (126, true)), [], false⟩,
      ⟨(some 131), .load none (.tmp 130), (some (126, true)), [], false⟩,
      ⟨(some 132), .mov (.tmp 0), (some (126, true)), [], false⟩,
      ⟨(some 133), .mov (.tmp 1), (some (126, true)), [], false⟩,
      ⟨(some 134), .indexSl 1 (.tmp 132) (.tmp 133), (some (126, true)), [], false⟩,
      ⟨(some 135), .load none (.tmp 134), (some (126, true)), [], false⟩,
      ⟨(some 136), .callV (.tmp 127) [(.tmp 131), (.tmp 135)], (some (126, true)), [], true⟩,
      ⟨(some 137), .bin .lss (so (.binOp .lss 3 (.tmp 136) (.const (.int .i64 0)) 3) 4) (.tmp 136) (.const (.int .i64 0)), (some (126, true)), [], true⟩,
      ⟨(some 138), .raw (so (.unOp .not 4 (.tmp 137)) 4), (some (126, true)), [], true⟩,
      ⟨(some 139), .pick (.tmp 126) (.tmp 138) (.const (.bool false)), none, [], true⟩]) (.cond (.tmp 139)
    .skip
    (.exit 8))) (.block 9 (.region [
      ⟨(some 140), .mov (.tmp 13), none, [], false⟩,
      ⟨(some 141), .bin .sub (so (.binOp .sub 3 (.tmp 140) (.const (.int .i64 1)) 3) 3) (.tmp 140) (.const (.int .i64 1)), none, [], false⟩,
      ⟨(some 13), .mov (.tmp 141), none, [], false⟩])))
def zqbQ_l4 : ACode :=
  (.block 5 (.seq (.block 6 (.loop zqbQ_l2)) (.seq (.block 8 (.loop zqbQ_l3)) (.seq (.seq (.region [
      ⟨(some 142), .mov (.tmp 12), none, [], false⟩,
      ⟨(some 143), .mov (.tmp 13), none, [], false⟩,
      ⟨(some 144), .bin .gtr (so (.binOp .gtr 3 (.tmp 142) (.tmp 143) 3) 4) (.tmp 142) (.tmp 143), none, [], false⟩]) (.cond (.tmp 144)
    (.exit 4)
    .skip)) (.seq (.regionD [
      ⟨(some 145), .mov (.tmp 0), none, [], false⟩,
      ⟨(some 146), .mov (.tmp 12), none, [], false⟩,
      ⟨(some 147), .mov (.tmp 0), none, [], false⟩,
      ⟨(some 148), .mov (.tmp 13), none, [], false⟩,
      ⟨(some 149), .mov (.tmp 0), none, [], false⟩,
      ⟨(some 150), .mov (.tmp 13), none, [], false⟩,
      ⟨(some 151), .indexSl 1 (.tmp 149) (.tmp 150), none, [], false⟩,
      ⟨(some 152), .load none (.tmp 151), none, [], false⟩,
      ⟨(some 153), .mov (.tmp 0), none, [], false⟩,
      ⟨(some 154), .mov (.tmp 12), none, [], false⟩,
      ⟨(some 155), .indexSl 1 (.tmp 153) (.tmp 154), none, [], false⟩,
      ⟨(some 156), .load none (.tmp 155), none, [], false⟩,
      ⟨(some 157), .indexSl 1 (.tmp 145) (.tmp 146), none, [], false⟩,
      ⟨none, .store 1 (.tmp 157) (.tmp 152), none, [((some 148), .mov (.tmp 13), none), ((some 147), .mov (.tmp 0), none)], false⟩,
      ⟨(some 158), .indexSl 1 (.tmp 147) (.tmp 148), none, [], true⟩,
      ⟨none, .store 1 (.tmp 158) (.tmp 156), none, [], true⟩]) (.seq (.region [
      ⟨(some 159), .mov (.tmp 12), none, [], false⟩,
      ⟨(some 160), .bin .add (so (.binOp .add 3 (.tmp 159) (.const (.int .i64 1)) 3) 3) (.tmp 159) (.const (.int .i64 1)), none, [], false⟩,
      ⟨(some 12), .mov (.tmp 160), none, [], false⟩]) (.region [
      ⟨(some 161), .mov (.tmp 13), none, [], false⟩,
      ⟨(some 162), .bin .sub (so (.binOp .sub 3 (.tmp 161) (.const (.int .i64 1)) 3) 3) (.tmp 161) (.const (.int .i64 1)), none, [], false⟩,
      ⟨(some 13), .mov (.tmp 162), none, [], false⟩])))))))
def zqbQ_c : ACode :=
  (.seq (.region [
      ⟨(some 10), .mov (.const (.int .i64 0)), none, [], false⟩,
      ⟨(some 11), .mov (.const (.bool false)), none, [], false⟩]) (.seq (.regionD [
      ⟨(some 14), .mov (.tmp 0), none, [], false⟩,
      ⟨(some 15), .mov (.tmp 1), none, [], false⟩,
      ⟨(some 16), .mov (.tmp 0), none, [], false⟩,
      ⟨(some 17), .mov (.tmp 3), none, [], false⟩,
      ⟨(some 18), .mov (.tmp 0), none, [], false⟩,
      ⟨(some 19), .mov (.tmp 3), none, [], false⟩,
      ⟨(some 20), .indexSl 1 (.tmp 18) (.tmp 19), none, [], false⟩,
      ⟨(some 21), .load none (.tmp 20), none, [], false⟩,
      ⟨(some 22), .mov (.tmp 0), none, [], false⟩,
      ⟨(some 23), .mov (.tmp 1), none, [], false⟩,
      ⟨(some 24), .indexSl 1 (.tmp 22) (.tmp 23), none, [], false⟩,
      ⟨(some 25), .load none (.tmp 24), none, [], false⟩,
      ⟨(some 26), .indexSl 1 (.tmp 14) (.tmp 15), none, [], false⟩,
      ⟨none, .store 1 (.tmp 26) (.tmp 21), none, [((some 17), .mov (.tmp 3), none), ((some 16), .mov (.tmp 0), none)], false⟩,
      ⟨(some 27), .indexSl 1 (.tmp 16) (.tmp 17), none, [], true⟩,
      ⟨none, .store 1 (.tmp 27) (.tmp 25), none, [], true⟩]) (.seq (.region [
      ⟨(some 28), .mov (.tmp 1), none, [], false⟩,
      ⟨(some 29), .bin .add (so (.binOp .add 3 (.tmp 28) (.const (.int .i64 1)) 3) 3) (.tmp 28) (.const (.int .i64 1)), none, [], false⟩,
      ⟨(some 30), .mov (.tmp 2), none, [], false⟩,
      ⟨(some 31), .bin .sub (so (.binOp .sub 3 (.tmp 30) (.const (.int .i64 1)) 3) 3) (.tmp 30) (.const (.int .i64 1)), none, [], false⟩,
      ⟨(some 12), .mov (.tmp 29), none, [], false⟩,
      ⟨(some 13), .mov (.tmp 31), none, [], false⟩]) (.seq (.block 0 (.loop zqbQ_l0)) (.seq (.block 2 (.loop zqbQ_l1)) (.seq (.seq (.region [
      ⟨(some 69), .mov (.tmp 12), none, [], false⟩,
      ⟨(some 70), .mov (.tmp 13), none, [], false⟩,
      ⟨(some 71), .bin .gtr (so (.binOp .gtr 3 (.tmp 69) (.tmp 70) 3) 4) (.tmp 69) (.tmp 70), none, [], false⟩]) (.cond (.tmp 71)
    (.seq (.regionD [
      ⟨(some 72), .mov (.tmp 0), none, [], false⟩,
      ⟨(some 73), .mov (.tmp 13), none, [], false⟩,
      ⟨(some 74), .mov (.tmp 0), none, [], false⟩,
      ⟨(some 75), .mov (.tmp 1), none, [], false⟩,
      ⟨(some 76), .mov (.tmp 0), none, [], false⟩,
      ⟨(some 77), .mov (.tmp 1), none, [], false⟩,
      ⟨(some 78), .indexSl 1 (.tmp 76) (.tmp 77), none, [], false⟩,
      ⟨(some 79), .load none (.tmp 78), none, [], false⟩,
      ⟨(some 80), .mov (.tmp 0), none, [], false⟩,
      ⟨(some 81), .mov (.tmp 13), none, [], false⟩,
      ⟨(some 82), .indexSl 1 (.tmp 80) (.tmp 81), none, [], false⟩,
      ⟨(some 83), .load none (.tmp 82), none, [], false⟩,
      ⟨(some 84), .indexSl 1 (.tmp 72) (.tmp 73), none, [], false⟩,
      ⟨none, .store 1 (.tmp 84) (.tmp 79), none, [((some 75), .mov (.tmp 1), none), ((some 74), .mov (.tmp 0), none)], false⟩,
      ⟨(some 85), .indexSl 1 (.tmp 74) (.tmp 75), none, [], true⟩,
      ⟨none, .store 1 (.tmp 85) (.tmp 83), none, [], true⟩]) (.seq (.region [
      ⟨(some 86), .mov (.tmp 13), none, [], false⟩,
      ⟨(some 10), .mov (.tmp 86), none, [], false⟩,
      ⟨(some 11), .mov (.const (.bool true)), none, [], false⟩]) .ret))
    .skip)) (.seq (.regionD [
      ⟨(some 87), .mov (.tmp 0), none, [], false⟩,
      ⟨(some 88), .mov (.tmp 12), none, [], false⟩,
      ⟨(some 89), .mov (.tmp 0), none, [], false⟩,
      ⟨(some 90), .mov (.tmp 13), none, [], false⟩,
      ⟨(some 91), .mov (.tmp 0), none, [], false⟩,
      ⟨(some 92), .mov (.tmp 13), none, [], false⟩,
      ⟨(some 93), .indexSl 1 (.tmp 91) (.tmp 92), none, [], false⟩,
      ⟨(some 94), .load none (.tmp 93), none, [], false⟩,
      ⟨(some 95), .mov (.tmp 0), none, [], false⟩,
      ⟨(some 96), .mov (.tmp 12), none, [], false⟩,
      ⟨(some 97), .indexSl 1 (.tmp 95) (.tmp 96), none, [], false⟩,
      ⟨(some 98), .load none (.tmp 97), none, [], false⟩,
      ⟨(some 99), .indexSl 1 (.tmp 87) (.tmp 88), none, [], false⟩,
      ⟨none, .store 1 (.tmp 99) (.tmp 94), none, [((some 90), .mov (.tmp 13), none), ((some 89), .mov (.tmp 0), none)], false⟩,
      ⟨(some 100), .indexSl 1 (.tmp 89) (.tmp 90), none, [], true⟩,
      ⟨none, .store 1 (.tmp 100) (.tmp 98), none, [], true⟩]) (.seq (.region [
      ⟨(some 101), .mov (.tmp 12), none, [], false⟩,
      ⟨(some 102), .bin .add (so (.binOp .add 3 (.tmp 101) (.const (.int .i64 1)) 3) 3) (.tmp 101) (.const (.int .i64 1)), none, [], false⟩,
      ⟨(some 12), .mov (.tmp 102), none, [], false⟩]) (.seq (.region [
      ⟨(some 103), .mov (.tmp 13), none, [], false⟩,
      ⟨(some 104), .bin .sub (so (.binOp .sub 3 (.tmp 103) (.const (.int .i64 1)) 3) 3) (.tmp 103) (.const (.int .i64 1)), none, [], false⟩,
      ⟨(some 13), .mov (.tmp 104), none, [], false⟩]) (.seq (.block 4 (.loop zqbQ_l4)) (.seq (.regionD [
      ⟨(some 163), .mov (.tmp 0), none, [], false⟩,
      ⟨(some 164), .mov (.tmp 13), none, [], false⟩,
      ⟨(some 165), .mov (.tmp 0), none, [], false⟩,
      ⟨(some 166), .mov (.tmp 1), none, [], false⟩,
      ⟨(some 167), .mov (.tmp 0), none, [], false⟩,
      ⟨(some 168), .mov (.tmp 1), none, [], false⟩,
      ⟨(some 169), .indexSl 1 (.tmp 167) (.tmp 168), none, [], false⟩,
      ⟨(some 170), .load none (.tmp 169), none, [], false⟩,
      ⟨(some 171), .mov (.tmp 0), none, [], false⟩,
      ⟨(some 172), .mov (.tmp 13), none, [], false⟩,
      ⟨(some 173), .indexSl 1 (.tmp 171) (.tmp 172), none, [], false⟩,
      ⟨(some 174), .load none (.tmp 173), none, [], false⟩,
      ⟨(some 175), .indexSl 1 (.tmp 163) (.tmp 164), none, [], false⟩,
      ⟨none, .store 1 (.tmp 175) (.tmp 170), none, [((some 166), .mov (.tmp 1), none), ((some 165), .mov (.tmp 0), none)], false⟩,
      ⟨(some 176), .indexSl 1 (.tmp 165) (.tmp 166), none, [], true⟩,
      ⟨none, .store 1 (.tmp 176) (.tmp 174), none, [], true⟩]) (.seq (.region [
      ⟨(some 177), .mov (.tmp 13), none, [], false⟩,
      ⟨(some 10), .mov (.tmp 177), none, [], false⟩,
      ⟨(some 11), .mov (.const (.bool false)), none, [], false⟩]) .ret))))))))))))
def zqbQ : AFunc := ⟨178, [(10, none), (11, none)], zqbQ_c, none⟩
theorem zqbQ_t0 : tableOf Try.prog 62 = some zqbQ := by kernel_rfl
theorem zqbQ_t : T0 62 = some zqbQ := withKept_t rfl (withTrue_t rfl zqbQ_t0)
abbrev fn_zyQ : FuncId := 63
def zyQ_c : ACode :=
  (.seq (.region [
      ⟨(some 2), .mov (.const (.int .i64 0)), none, [], false⟩]) (.seq (.seq (.region [
      ⟨(some 3), .mov (.tmp 0), none, [], false⟩,
      ⟨(some 4), .bin .geq (so (.binOp .geq 104 (.tmp 3) (.const (.int .u32 65536)) 104) 4) (.tmp 3) (.const (.int .u32 65536)), none, [], false⟩]) (.cond (.tmp 4)
    (.seq (.region [
      ⟨(some 5), .mov (.tmp 0), none, [], false⟩,
      ⟨(some 6), .bin .shr (so (.binOp .shr 104 (.tmp 5) (.const (.int .u64 16)) 95) 104) (.tmp 5) (.const (.int .u64 16)), none, [], false⟩,
      ⟨(some 0), .mov (.tmp 6), none, [], false⟩]) (.region [
      ⟨(some 2), .mov (.const (.int .i64 16)), none, [], false⟩]))
    .skip)) (.seq (.seq (.region [
      ⟨(some 7), .mov (.tmp 0), none, [], false⟩,
      ⟨(some 8), .bin .geq (so (.binOp .geq 104 (.tmp 7) (.const (.int .u32 256)) 104) 4) (.tmp 7) (.const (.int .u32 256)), none, [], false⟩]) (.cond (.tmp 8)
    (.seq (.region [
      ⟨(some 9), .mov (.tmp 0), none, [], false⟩,
      ⟨(some 10), .bin .shr (so (.binOp .shr 104 (.tmp 9) (.const (.int .u64 8)) 95) 104) (.tmp 9) (.const (.int .u64 8)), none, [], false⟩,
      ⟨(some 0), .mov (.tmp 10), none, [], false⟩]) (.region [
      ⟨(some 11), .mov (.tmp 2), none, [], false⟩,
      ⟨(some 12), .bin .add (so (.binOp .add 3 (.tmp 11) (.const (.int .i64 8)) 3) 3) (.tmp 11) (.const (.int .i64 8)), none, [], false⟩,
      ⟨(some 2), .mov (.tmp 12), none, [], false⟩]))
    .skip)) (.seq (.region [
      ⟨(some 13), .mov (.tmp 2), none, [], false⟩,
      ⟨(some 14), .mov (.tmp 0), none, [], false⟩,
      ⟨(some 15), .conv .u8 (so (.convert 104 5 (.tmp 14)) 5) (.tmp 14), none, [], false⟩,
      ⟨(some 16), .raw (so (.index 9 (.const (.string ⟨⟨[0, 1, 2, 2, 3, 3, 3, 3, 4, 4, 4, 4, 4, 4, 4, 4, 5, 5, 5, 5, 5, 5, 5, 5, 5, 5, 5, 5, 5, 5, 5, 5, 6, 6, 6, 6, 6, 6, 6, 6, 6, 6, 6, 6, 6, 6, 6, 6, 6, 6, 6, 6, 6, 6, 6, 6, 6, 6, 6, 6, 6, 6, 6, 6, 7, 7, 7, 7, 7, 7, 7, 7, 7, 7, 7, 7, 7, 7, 7, 7, 7, 7, 7, 7, 7, 7, 7, 7, 7, 7, 7, 7, 7, 7, 7, 7, 7, 7, 7, 7, 7, 7, 7, 7, 7, 7, 7, 7, 7, 7, 7, 7, 7, 7, 7, 7, 7, 7, 7, 7, 7, 7, 7, 7, 7, 7, 7, 7, 8, 8, 8, 8, 8, 8, 8, 8, 8, 8, 8, 8, 8, 8, 8, 8, 8, 8, 8, 8, 8, 8, 8, 8, 8, 8, 8, 8, 8, 8, 8, 8, 8, 8, 8, 8, 8, 8, 8, 8, 8, 8, 8, 8, 8, 8, 8, 8, 8, 8, 8, 8, 8, 8, 8, 8, 8, 8, 8, 8, 8, 8, 8, 8, 8, 8, 8, 8, 8, 8, 8, 8, 8, 8, 8, 8, 8, 8, 8, 8, 8, 8, 8, 8, 8, 8, 8, 8, 8, 8, 8, 8, 8, 8, 8, 8, 8, 8, 8, 8, 8, 8, 8, 8, 8, 8, 8, 8, 8, 8, 8, 8, 8, 8, 8, 8, 8, 8, 8, 8, 8, 8, 8, 8, 8, 8, 8, 8]⟩⟩)) (.tmp 15)) 5), none, [], false⟩,
      ⟨(some 17), .conv .i64 (so (.convert 5 3 (.tmp 16)) 3) (.tmp 16), none, [], false⟩,
      ⟨(some 18), .bin .add (so (.binOp .add 3 (.tmp 13) (.tmp 17) 3) 3) (.tmp 13) (.tmp 17), none, [], false⟩,
      ⟨(some 2), .mov (.tmp 18), none, [], false⟩]) .ret))))
def zyQ : AFunc := ⟨19, [(2, none)], zyQ_c, none⟩
theorem zyQ_t0 : tableOf Try.prog 63 = some zyQ := by kernel_rfl
theorem zyQ_t : T0 63 = some zyQ := withKept_t rfl (withTrue_t rfl zyQ_t0)
abbrev fn_zzQ : FuncId := 64
def zzQ_c : ACode :=
  (.seq (.region [
      ⟨(some 2), .mov (.const (.int .i64 0)), none, [], false⟩]) (.seq (.seq (.region [
      ⟨(some 3), .mov (.tmp 0), none, [], false⟩,
      ⟨(some 4), .bin .geq (so (.binOp .geq 106 (.tmp 3) (.const (.int .u64 4294967296)) 106) 4) (.tmp 3) (.const (.int .u64 4294967296)), none, [], false⟩]) (.cond (.tmp 4)
    (.seq (.region [
      ⟨(some 5), .mov (.tmp 0), none, [], false⟩,
      ⟨(some 6), .bin .shr (so (.binOp .shr 106 (.tmp 5) (.const (.int .u64 32)) 95) 106) (.tmp 5) (.const (.int .u64 32)), none, [], false⟩,
      ⟨(some 0), .mov (.tmp 6), none, [], false⟩]) (.region [
      ⟨(some 2), .mov (.const (.int .i64 32)), none, [], false⟩]))
    .skip)) (.seq (.seq (.region [
      ⟨(some 7), .mov (.tmp 0), none, [], false⟩,
      ⟨(some 8), .bin .geq (so (.binOp .geq 106 (.tmp 7) (.const (.int .u64 65536)) 106) 4) (.tmp 7) (.const (.int .u64 65536)), none, [], false⟩]) (.cond (.tmp 8)
    (.seq (.region [
      ⟨(some 9), .mov (.tmp 0), none, [], false⟩,
      ⟨(some 10), .bin .shr (so (.binOp .shr 106 (.tmp 9) (.const (.int .u64 16)) 95) 106) (.tmp 9) (.const (.int .u64 16)), none, [], false⟩,
      ⟨(some 0), .mov (.tmp 10), none, [], false⟩]) (.region [
      ⟨(some 11), .mov (.tmp 2), none, [], false⟩,
      ⟨(some 12), .bin .add (so (.binOp .add 3 (.tmp 11) (.const (.int .i64 16)) 3) 3) (.tmp 11) (.const (.int .i64 16)), none, [], false⟩,
      ⟨(some 2), .mov (.tmp 12), none, [], false⟩]))
    .skip)) (.seq (.seq (.region [
      ⟨(some 13), .mov (.tmp 0), none, [], false⟩,
      ⟨(some 14), .bin .geq (so (.binOp .geq 106 (.tmp 13) (.const (.int .u64 256)) 106) 4) (.tmp 13) (.const (.int .u64 256)), none, [], false⟩]) (.cond (.tmp 14)
    (.seq (.region [
      ⟨(some 15), .mov (.tmp 0), none, [], false⟩,
      ⟨(some 16), .bin .shr (so (.binOp .shr 106 (.tmp 15) (.const (.int .u64 8)) 95) 106) (.tmp 15) (.const (.int .u64 8)), none, [], false⟩,
      ⟨(some 0), .mov (.tmp 16), none, [], false⟩]) (.region [
      ⟨(some 17), .mov (.tmp 2), none, [], false⟩,
      ⟨(some 18), .bin .add (so (.binOp .add 3 (.tmp 17) (.const (.int .i64 8)) 3) 3) (.tmp 17) (.const (.int .i64 8)), none, [], false⟩,
      ⟨(some 2), .mov (.tmp 18), none, [], false⟩]))
    .skip)) (.seq (.region [
      ⟨(some 19), .mov (.tmp 2), none, [], false⟩,
      ⟨(some 20), .mov (.tmp 0), none, [], false⟩,
      ⟨(some 21), .conv .u8 (so (.convert 106 5 (.tmp 20)) 5) (.tmp 20), none, [], false⟩,
      ⟨(some 22), .raw (so (.index 9 (.const (.string ⟨⟨[0, 1, 2, 2, 3, 3, 3, 3, 4, 4, 4, 4, 4, 4, 4, 4, 5, 5, 5, 5, 5, 5, 5, 5, 5, 5, 5, 5, 5, 5, 5, 5, 6, 6, 6, 6, 6, 6, 6, 6, 6, 6, 6, 6, 6, 6, 6, 6, 6, 6, 6, 6, 6, 6, 6, 6, 6, 6, 6, 6, 6, 6, 6, 6, 7, 7, 7, 7, 7, 7, 7, 7, 7, 7, 7, 7, 7, 7, 7, 7, 7, 7, 7, 7, 7, 7, 7, 7, 7, 7, 7, 7, 7, 7, 7, 7, 7, 7, 7, 7, 7, 7, 7, 7, 7, 7, 7, 7, 7, 7, 7, 7, 7, 7, 7, 7, 7, 7, 7, 7, 7, 7, 7, 7, 7, 7, 7, 7, 8, 8, 8, 8, 8, 8, 8, 8, 8, 8, 8, 8, 8, 8, 8, 8, 8, 8, 8, 8, 8, 8, 8, 8, 8, 8, 8, 8, 8, 8, 8, 8, 8, 8, 8, 8, 8, 8, 8, 8, 8, 8, 8, 8, 8, 8, 8, 8, 8, 8, 8, 8, 8, 8, 8, 8, 8, 8, 8, 8, 8, 8, 8, 8, 8, 8, 8, 8, 8, 8, 8, 8, 8, 8, 8, 8, 8, 8, 8, 8, 8, 8, 8, 8, 8, 8, 8, 8, 8, 8, 8, 8, 8, 8, 8, 8, 8, 8, 8, 8, 8, 8, 8, 8, 8, 8, 8, 8, 8, 8, 8, 8, 8, 8, 8, 8, 8, 8, 8, 8, 8, 8, 8, 8, 8, 8, 8, 8]⟩⟩)) (.tmp 21)) 5), none, [], false⟩,
      ⟨(some 23), .conv .i64 (so (.convert 5 3 (.tmp 22)) 3) (.tmp 22), none, [], false⟩,
      ⟨(some 24), .bin .add (so (.binOp .add 3 (.tmp 19) (.tmp 23) 3) 3) (.tmp 19) (.tmp 23), none, [], false⟩,
      ⟨(some 2), .mov (.tmp 24), none, [], false⟩]) .ret)))))
def zzQ : AFunc := ⟨25, [(2, none)], zzQ_c, none⟩
theorem zzQ_t0 : tableOf Try.prog 64 = some zzQ := by kernel_rfl
theorem zzQ_t : T0 64 = some zzQ := withKept_t rfl (withTrue_t rfl zzQ_t0)
abbrev fn_zubQ : FuncId := 65
def zubQ_l0 : ACode :=
  (.block 1 (.seq (.region [
      ⟨(some 13), .mov (.tmp 10), none, [], false⟩,
      ⟨(some 14), .bin .mul (so (.binOp .mul 3 (.const (.int .i64 2)) (.tmp 13) 3) 3) (.const (.int .i64 2)) (.tmp 13), none, [], false⟩,
      ⟨(some 15), .bin .add (so (.binOp .add 3 (.tmp 14) (.const (.int .i64 1)) 3) 3) (.tmp 14) (.const (.int .i64 1)), none, [], false⟩,
      ⟨(some 11), .mov (.tmp 15), none, [], false⟩]) (.seq (.seq (.region [
      ⟨(some 16), .mov (.tmp 11), none, [], false⟩,
      ⟨(some 17), .mov (.tmp 2), none, [], false⟩,
      ⟨(some 18), .bin .geq (so (.binOp .geq 3 (.tmp 16) (.tmp 17) 3) 4) (.tmp 16) (.tmp 17), none, [], false⟩]) (.cond (.tmp 18)
    (.exit 0)
    .skip)) (.seq (.seq (.regionD [
      ⟨(some 19), .mov (.tmp 11), none, [], false⟩,
      ⟨(some 20), .bin .add (so (.binOp .add 3 (.tmp 19) (.const (.int .i64 1)) 3) 3) (.tmp 19) (.const (.int .i64 1)), none, [], false⟩,
      ⟨(some 21), .mov (.tmp 2), none, [], false⟩,
      ⟨(some 22), .bin .lss (so (.binOp .lss 3 (.tmp 20) (.tmp 21) 3) 4) (.tmp 20) (.tmp 21), none, [], true⟩,
      ⟨(some 23), .mov (.tmp 22), none, [], true⟩,
      ⟨(some 24), .mov (.tmp 4), (some (23, true)), [], false⟩,
      ⟨(some 25), .mov (.tmp 0), (some (23, true)), [], false⟩,
      ⟨(some 26), .mov (.tmp 3), (some (23, true)), [], false⟩,
      ⟨(some 27), .mov (.tmp 11), (some (23, true)), [], false⟩,
      ⟨(some 28), .bin .add (so (.binOp .add 3 (.tmp 26) (.tmp 27) 3) 3) (.tmp 26) (.tmp 27), (some (23, true)), [], false⟩,
      ⟨(some 29), .indexSl 1 (.tmp 25) (.tmp 28), (some (23, true)), [], false⟩,
      ⟨(some 30), .load none (.tmp 29), (some (23, true)), [], false⟩,
      ⟨(some 31), .mov (.tmp 0), (some (23, true)), [], false⟩,
      ⟨(some 32), .mov (.tmp 3), (some (23, true)), [], false⟩,
      ⟨(some 33), .mov (.tmp 11), (some (23, true)), [], false⟩,
      ⟨(some 34), .bin .add (so (.binOp .add 3 (.tmp 32) (.tmp 33) 3) 3) (.tmp 32) (.tmp 33), (some (23, true)), [], false⟩,
      ⟨(some 35), .bin .add (so (.binOp .add 3 (.tmp 34) (.const (.int .i64 1)) 3) 3) (.tmp 34) (.const (.int .i64 1)), (some (23, true)), [], false⟩,
      ⟨(some 36), .indexSl 1 (.tmp 31) (.tmp 35), (some (23, true)), [], false⟩,
      ⟨(some 37), .load none (.tmp 36), (some (23, true)), [], false⟩,
      ⟨(some 38), .callV (.tmp 24) [(.tmp 30), (.tmp 37)], (some (23, true)), [], true⟩,
      ⟨(some 39), .bin .lss (so (.binOp .lss 3 (.tmp 38) (.const (.int .i64 0)) 3) 4) (.tmp 38) (.const (.int .i64 0)), (some (23, true)), [], true⟩,
      ⟨(some 40), .pick (.tmp 23) (.tmp 39) (.const (.bool false)), none, [], true⟩]) (.cond (.tmp 40)
    (.region [
      ⟨(some 41), .mov (.tmp 11), none, [], false⟩,
      ⟨(some 42), .bin .add (so (.binOp .add 3 (.tmp 41) (.const (.int .i64 1)) 3) 3) (.tmp 41) (.const (.int .i64 1)), none, [], false⟩,
      ⟨(some 11), .mov (.tmp 42), none, [], false⟩])
    .skip)) (.seq (.seq (.regionD [
      ⟨(some 43), .mov (.tmp 4), none, [], false⟩,
      ⟨(some 44), .mov (.tmp 0), none, [], false⟩,
      ⟨(some 45), .mov (.tmp 3), none, [], false⟩,
      ⟨(some 46), .mov (.tmp 10), none, [], false⟩,
      ⟨(some 47), .bin .add (so (.binOp .add 3 (.tmp 45) (.tmp 46) 3) 3) (.tmp 45) (.tmp 46), none, [], false⟩,
      ⟨(some 48), .indexSl 1 (.tmp 44) (.tmp 47), none, [], false⟩,
      ⟨(some 49), .load none (.tmp 48), none, [], false⟩,
      ⟨(some 50), .mov (.tmp 0), none, [], false⟩,
      ⟨(some 51), .mov (.tmp 3), none, [], false⟩,
      ⟨(some 52), .mov (.tmp 11), none, [], false⟩,
      ⟨(some 53), .bin .add (so (.binOp .add 3 (.tmp 51) (.tmp 52) 3) 3) (.tmp 51) (.tmp 52), none, [], false⟩,
      ⟨(some 54), .indexSl 1 (.tmp 50) (.tmp 53), none, [], false⟩,
      ⟨(some 55), .load none (.tmp 54), none, [], false⟩,
      ⟨(some 56), .callV (.tmp 43) [(.tmp 49), (.tmp 55)], none, [], true⟩,
      ⟨(some 57), .bin .lss (so (.binOp .lss 3 (.tmp 56) (.const (.int .i64 0)) 3) 4) (.tmp 56) (.const (.int .i64 0)), none, [], true⟩,
      ⟨(some 58), .raw (so (.unOp .not 4 (.tmp 57)) 4), none, [], true⟩]) (.cond (.tmp 58)
    .ret
    .skip)) (.seq (.regionD [
      ⟨(some 59), .mov (.tmp 0), none, [], false⟩,
      ⟨(some 60), .mov (.tmp 3), none, [], false⟩,
      ⟨(some 61), .mov (.tmp 10), none, [], false⟩,
      ⟨(some 62), .bin .add (so (.binOp .add 3 (.tmp 60) (.tmp 61) 3) 3) (.tmp 60) (.tmp 61), none, [], false⟩,
      ⟨(some 63), .mov (.tmp 0), none, [], false⟩,
      ⟨(some 64), .mov (.tmp 3), none, [], false⟩,
      ⟨(some 65), .mov (.tmp 11), none, [], false⟩,
      ⟨(some 66), .bin .add (so (.binOp .add 3 (.tmp 64) (.tmp 65) 3) 3) (.tmp 64) (.tmp 65), none, [], false⟩,
      ⟨(some 67), .mov (.tmp 0), none, [], false⟩,
      ⟨(some 68), .mov (.tmp 3), none, [], false⟩,
      ⟨(some 69), .mov (.tmp 11), none, [], false⟩,
      ⟨(some 70), .bin .add (so (.binOp .add 3 (.tmp 68) (.tmp 69) 3) 3) (.tmp 68) (.tmp 69), none, [], false⟩,
      ⟨(some 71), .indexSl 1 (.tmp 67) (.tmp 70), none, [], false⟩,
      ⟨(some 72), .load none (.tmp 71), none, [], false⟩,
      ⟨(some 73), .mov (.tmp 0), none, [], false⟩,
      ⟨(some 74), .mov (.tmp 3), none, [], false⟩,
      ⟨(some 75), .mov (.tmp 10), none, [], false⟩,
      ⟨(some 76), .bin .add (so (.binOp .add 3 (.tmp 74) (.tmp 75) 3) 3) (.tmp 74) (.tmp 75), none, [], false⟩,
      ⟨(some 77), .indexSl 1 (.tmp 73) (.tmp 76), none, [], false⟩,
      ⟨(some 78), .load none (.tmp 77), none, [], false⟩,
      ⟨(some 79), .indexSl 1 (.tmp 59) (.tmp 62), none, [], false⟩,
      ⟨none, .store 1 (.tmp 79) (.tmp 72), none, [((some 66), .bin .add (so (.binOp .add 3 (.tmp 64) (.tmp 65) 3) 3) (.tmp 64) (.tmp 65), none), ((some 65), .mov (.tmp 11), none), ((some 64), .mov (.tmp 3), none), ((some 63), .mov (.tmp 0), none)], false⟩,
      ⟨(some 80), .indexSl 1 (.tmp 63) (.tmp 66), none, [], true⟩,
      ⟨none, .store 1 (.tmp 80) (.tmp 78), none, [], true⟩]) (.region [
      ⟨(some 81), .mov (.tmp 11), none, [], false⟩,
      ⟨(some 10), .mov (.tmp 81), none, [], false⟩])))))))
def zubQ_c : ACode :=
  (.seq (.region [
      ⟨(some 12), .mov (.tmp 1), none, [], false⟩,
      ⟨(some 10), .mov (.tmp 12), none, [], false⟩]) (.block 0 (.loop zubQ_l0)))
def zubQ : AFunc := ⟨82, [], zubQ_c, none⟩
theorem zubQ_t0 : tableOf Try.prog 65 = some zubQ := by kernel_rfl
theorem zubQ_t : T0 65 = some zubQ := withKept_t rfl (withTrue_t rfl zubQ_t0)
abbrev fn_znbQ : FuncId := 66
def znbQ_c : ACode :=
  (.seq (.region [
      ⟨(some 2), .mov (.const (.int .u64 0)), none, [], false⟩]) (.seq (.region [
      ⟨(some 3), .mov (.tmp 0), none, [], false⟩,
      ⟨(some 4), .conv .u64 (so (.convert 3 95 (.tmp 3)) 95) (.tmp 3), none, [], false⟩,
      ⟨(some 5), .callV (.func 54) [(.tmp 4)], none, [], false⟩,
      ⟨(some 6), .bin .shl (so (.binOp .shl 95 (.const (.int .u64 1)) (.tmp 5) 3) 95) (.const (.int .u64 1)) (.tmp 5), none, [], false⟩,
      ⟨(some 2), .mov (.tmp 6), none, [], false⟩]) .ret))
def znbQ : AFunc := ⟨7, [(2, none)], znbQ_c, none⟩
theorem znbQ_t0 : tableOf Try.prog 66 = some znbQ := by kernel_rfl
theorem znbQ_t : T0 66 = some znbQ := withKept_t rfl (withTrue_t rfl znbQ_t0)
abbrev fn_zvbQ : FuncId := 67
def zvbQ_c : ACode :=
  (.seq (.region [
      ⟨(some 2), .mov (.const (.int .u64 0)), none, [], false⟩]) (.seq (.regionD [
      ⟨(some 3), .mov (.tmp 0), none, [], false⟩,
      ⟨(some 4), .nilCheck (.tmp 3), none, [], false⟩,
      ⟨(some 5), .load none (.tmp 4), none, [], false⟩,
      ⟨(some 6), .mov (.tmp 0), none, [], false⟩,
      ⟨(some 7), .nilCheck (.tmp 6), none, [], false⟩,
      ⟨(some 8), .load none (.tmp 7), none, [], false⟩,
      ⟨(some 9), .bin .shl (so (.binOp .shl 107 (.tmp 8) (.const (.int .u64 13)) 95) 107) (.tmp 8) (.const (.int .u64 13)), none, [], false⟩,
      ⟨(some 10), .bin .xor (so (.binOp .xor 107 (.tmp 5) (.tmp 9) 107) 107) (.tmp 5) (.tmp 9), none, [], true⟩,
      ⟨(some 11), .nilCheck (.tmp 3), none, [], true⟩,
      ⟨none, .store 1 (.tmp 11) (.tmp 10), none, [], true⟩]) (.seq (.regionD [
      ⟨(some 12), .mov (.tmp 0), none, [], false⟩,
      ⟨(some 13), .nilCheck (.tmp 12), none, [], false⟩,
      ⟨(some 14), .load none (.tmp 13), none, [], false⟩,
      ⟨(some 15), .mov (.tmp 0), none, [], false⟩,
      ⟨(some 16), .nilCheck (.tmp 15), none, [], false⟩,
      ⟨(some 17), .load none (.tmp 16), none, [], false⟩,
      ⟨(some 18), .bin .shr (so (.binOp .shr 107 (.tmp 17) (.const (.int .u64 7)) 95) 107) (.tmp 17) (.const (.int .u64 7)), none, [], false⟩,
      ⟨(some 19), .bin .xor (so (.binOp .xor 107 (.tmp 14) (.tmp 18) 107) 107) (.tmp 14) (.tmp 18), none, [], true⟩,
      ⟨(some 20), .nilCheck (.tmp 12), none, [], true⟩,
      ⟨none, .store 1 (.tmp 20) (.tmp 19), none, [], true⟩]) (.seq (.regionD [
      ⟨(some 21), .mov (.tmp 0), none, [], false⟩,
      ⟨(some 22), .nilCheck (.tmp 21), none, [], false⟩,
      ⟨(some 23), .load none (.tmp 22), none, [], false⟩,
      ⟨(some 24), .mov (.tmp 0), none, [], false⟩,
      ⟨(some 25), .nilCheck (.tmp 24), none, [], false⟩,
      ⟨(some 26), .load none (.tmp 25), none, [], false⟩,
      ⟨(some 27), .bin .shl (so (.binOp .shl 107 (.tmp 26) (.const (.int .u64 17)) 95) 107) (.tmp 26) (.const (.int .u64 17)), none, [], false⟩,
      ⟨(some 28), .bin .xor (so (.binOp .xor 107 (.tmp 23) (.tmp 27) 107) 107) (.tmp 23) (.tmp 27), none, [], true⟩,
      ⟨(some 29), .nilCheck (.tmp 21), none, [], true⟩,
      ⟨none, .store 1 (.tmp 29) (.tmp 28), none, [], true⟩]) (.seq (.region [
      ⟨(some 30), .mov (.tmp 0), none, [], false⟩,
      ⟨(some 31), .nilCheck (.tmp 30), none, [], false⟩,
      ⟨(some 32), .load none (.tmp 31), none, [], false⟩,
      ⟨(some 2), .mov (.tmp 32), none, [], false⟩]) .ret)))))
def zvbQ : AFunc := ⟨33, [(2, none)], zvbQ_c, none⟩
theorem zvbQ_t0 : tableOf Try.prog 67 = some zvbQ := by kernel_rfl
theorem zvbQ_t : T0 67 = some zvbQ := withKept_t rfl (withTrue_t rfl zvbQ_t0)
abbrev fn_zlbQ : FuncId := 68
def zlbQ_c : ACode :=
  (.seq (.region [
      ⟨(some 8), .mov (.const (.int .i64 0)), none, [], false⟩]) (.seq (.region [
      ⟨(some 9), .mov (.tmp 0), none, [], false⟩,
      ⟨(some 10), .mov (.tmp 1), none, [], false⟩,
      ⟨(some 11), .bin .sub (so (.binOp .sub 3 (.tmp 10) (.const (.int .i64 1)) 3) 3) (.tmp 10) (.const (.int .i64 1)), none, [], false⟩,
      ⟨(some 12), .mov (.tmp 1), none, [], false⟩,
      ⟨(some 13), .mov (.tmp 1), none, [], false⟩,
      ⟨(some 14), .bin .add (so (.binOp .add 3 (.tmp 13) (.const (.int .i64 1)) 3) 3) (.tmp 13) (.const (.int .i64 1)), none, [], false⟩,
      ⟨(some 15), .mov (.tmp 2), none, [], false⟩,
      ⟨(some 16), .mov (.tmp 3), none, [], false⟩,
      ⟨(some 17), .callV (.func 69) [(.tmp 9), (.tmp 11), (.tmp 12), (.tmp 14), (.tmp 15), (.tmp 16)], none, [], false⟩,
      ⟨(some 8), .mov (.tmp 17), none, [], false⟩]) .ret))
def zlbQ : AFunc := ⟨18, [(8, none)], zlbQ_c, none⟩
theorem zlbQ_t0 : tableOf Try.prog 68 = some zlbQ := by kernel_rfl
theorem zlbQ_t : T0 68 = some zlbQ := withKept_t rfl (withTrue_t rfl zlbQ_t0)
abbrev fn_zmbQ : FuncId := 69
def zmbQ_c : ACode :=
  (.seq (.region [
      ⟨(some 12), .mov (.const (.int .i64 0)), none, [], false⟩]) (.seq (.region [
      ⟨(some 14), .mov (.tmp 0), none, [], false⟩,
      ⟨(some 15), .mov (.tmp 1), none, [], false⟩,
      ⟨(some 16), .mov (.tmp 2), none, [], false⟩,
      ⟨(some 17), .mov (.tmp 4), none, [], false⟩,
      ⟨(some 18), .mov (.tmp 5), none, [], false⟩,
      ⟨(some 19), .callV (.func 70) [(.tmp 14), (.tmp 15), (.tmp 16), (.tmp 17), (.tmp 18)], none, [], false⟩,
      ⟨(some 13), .mov (.tmp 19), none, [], false⟩,
      ⟨(some 20), .extract 0 (.tmp 13), none, [], false⟩,
      ⟨(some 21), .extract 1 (.tmp 13), none, [], false⟩,
      ⟨(some 1), .mov (.tmp 20), none, [], false⟩,
      ⟨(some 2), .mov (.tmp 21), none, [], false⟩]) (.seq (.region [
      ⟨(some 23), .mov (.tmp 0), none, [], false⟩,
      ⟨(some 24), .mov (.tmp 2), none, [], false⟩,
      ⟨(some 25), .mov (.tmp 3), none, [], false⟩,
      ⟨(some 26), .mov (.tmp 4), none, [], false⟩,
      ⟨(some 27), .mov (.tmp 5), none, [], false⟩,
      ⟨(some 28), .callV (.func 70) [(.tmp 23), (.tmp 24), (.tmp 25), (.tmp 26), (.tmp 27)], none, [], false⟩,
      ⟨(some 22), .mov (.tmp 28), none, [], false⟩,
      ⟨(some 29), .extract 0 (.tmp 22), none, [], false⟩,
      ⟨(some 30), .extract 1 (.tmp 22), none, [], false⟩,
      ⟨(some 2), .mov (.tmp 29), none, [], false⟩,
      ⟨(some 3), .mov (.tmp 30), none, [], false⟩]) (.seq (.region [
      ⟨(some 32), .mov (.tmp 0), none, [], false⟩,
      ⟨(some 33), .mov (.tmp 1), none, [], false⟩,
      ⟨(some 34), .mov (.tmp 2), none, [], false⟩,
      ⟨(some 35), .mov (.tmp 4), none, [], false⟩,
      ⟨(some 36), .mov (.tmp 5), none, [], false⟩,
      ⟨(some 37), .callV (.func 70) [(.tmp 32), (.tmp 33), (.tmp 34), (.tmp 35), (.tmp 36)], none, [], false⟩,
      ⟨(some 31), .mov (.tmp 37), none, [], false⟩,
      ⟨(some 38), .extract 0 (.tmp 31), none, [], false⟩,
      ⟨(some 39), .extract 1 (.tmp 31), none, [], false⟩,
      ⟨(some 1), .mov (.tmp 38), none, [], false⟩,
      ⟨(some 2), .mov (.tmp 39), none, [], false⟩]) (.seq (.region [
      ⟨(some 40), .mov (.tmp 2), none, [], false⟩,
      ⟨(some 12), .mov (.tmp 40), none, [], false⟩]) .ret)))))
def zmbQ : AFunc := ⟨41, [(12, none)], zmbQ_c, none⟩
theorem zmbQ_t0 : tableOf Try.prog 69 = some zmbQ := by kernel_rfl
theorem zmbQ_t : T0 69 = some zmbQ := withKept_t rfl (withTrue_t rfl zmbQ_t0)
abbrev fn_zobQ : FuncId := 70
def zobQ_c : ACode :=
  (.seq (.region [
      ⟨(some 10), .mov (.const (.int .i64 0)), none, [], false⟩,
      ⟨(some 11), .mov (.const (.int .i64 0)), none, [], false⟩]) (.seq (.seq (.regionD [
      ⟨(some 12), .mov (.tmp 4), none, [], false⟩,
      ⟨(some 13), .mov (.tmp 0), none, [], false⟩,
      ⟨(some 14), .mov (.tmp 2), none, [], false⟩,
      ⟨(some 15), .indexSl 1 (.tmp 13) (.tmp 14), none, [], false⟩,
      ⟨(some 16), .load none (.tmp 15), none, [], false⟩,
      ⟨(some 17), .mov (.tmp 0), none, [], false⟩,
      ⟨(some 18), .mov (.tmp 1), none, [], false⟩,
      ⟨(some 19), .indexSl 1 (.tmp 17) (.tmp 18), none, [], false⟩,
      ⟨(some 20), .load none (.tmp 19), none, [], false⟩,
      ⟨(some 21), .callV (.tmp 12) [(.tmp 16), (.tmp 20)], none, [], true⟩,
      ⟨(some 22), .bin .lss (so (.binOp .lss 3 (.tmp 21) (.const (.int .i64 0)) 3) 4) (.tmp 21) (.const (.int .i64 0)), none, [], true⟩]) (.cond (.tmp 22)
    (.seq (.region [
      ⟨(some 23), .mov (.tmp 3), none, [], false⟩,
      ⟨(some 24), .nilCheck (.tmp 23), none, [], false⟩,
      ⟨(some 25), .load none (.tmp 24), none, [], false⟩,
      ⟨(some 26), .bin .add (so (.binOp .add 3 (.tmp 25) (.const (.int .i64 1)) 3) 3) (.tmp 25) (.const (.int .i64 1)), none, [], false⟩,
      ⟨(some 27), .nilCheck (.tmp 23), none, [], false⟩,
      ⟨none, .store 1 (.tmp 27) (.tmp 26), none, [], false⟩]) (.seq (.region [
      ⟨(some 28), .mov (.tmp 2), none, [], false⟩,
      ⟨(some 29), .mov (.tmp 1), none, [], false⟩,
      ⟨(some 10), .mov (.tmp 28), none, [], false⟩,
      ⟨(some 11), .mov (.tmp 29), none, [], false⟩]) .ret))
    .skip)) (.seq (.region [
      ⟨(some 30), .mov (.tmp 1), none, [], false⟩,
      ⟨(some 31), .mov (.tmp 2), none, [], false⟩,
      ⟨(some 10), .mov (.tmp 30), none, [], false⟩,
      ⟨(some 11), .mov (.tmp 31), none, [], false⟩]) .ret)))
def zobQ : AFunc := ⟨32, [(10, none), (11, none)], zobQ_c, none⟩
theorem zobQ_t0 : tableOf Try.prog 70 = some zobQ := by kernel_rfl
theorem zobQ_t : T0 70 = some zobQ := withKept_t rfl (withTrue_t rfl zobQ_t0)
abbrev fn_zkcQ : FuncId := 88
def zkcQ_c : ACode :=
  (.seq (.region [
      ⟨(some 6), .mov (.const (.bool false)), none, [], false⟩]) (.seq (.regionD [
      ⟨(some 7), .mov (.tmp 0), none, [], false⟩,
      ⟨(some 8), .mov (.tmp 1), none, [], false⟩,
      ⟨(some 9), .indexSl 1 (.tmp 7) (.tmp 8), none, [], false⟩,
      ⟨(some 10), .load none (.tmp 9), none, [], false⟩,
      ⟨(some 11), .mov (.tmp 0), none, [], false⟩,
      ⟨(some 12), .mov (.tmp 2), none, [], false⟩,
      ⟨(some 13), .indexSl 1 (.tmp 11) (.tmp 12), none, [], false⟩,
      ⟨(some 14), .load none (.tmp 13), none, [], false⟩,
      ⟨(some 15), .callV (.func 41) [(.tmp 10), (.tmp 14)], none, [], true⟩,
      ⟨(some 16), .bin .lss (so (.binOp .lss 3 (.tmp 15) (.const (.int .i64 0)) 3) 4) (.tmp 15) (.const (.int .i64 0)), none, [], true⟩,
      ⟨(some 6), .mov (.tmp 16), none, [], true⟩]) .ret))
def zkcQ : AFunc := ⟨17, [(6, none)], zkcQ_c, none⟩
theorem zkcQ_t0 : tableOf Try.prog 88 = some zkcQ := by kernel_rfl
theorem zkcQ_t : T0 88 = some zkcQ := withKept_t rfl (withTrue_t rfl zkcQ_t0)
abbrev fn_zncQ : FuncId := 89
def zncQ_c : ACode :=
  (.regionD [
      ⟨(some 6), .mov (.tmp 0), none, [], false⟩,
      ⟨(some 7), .mov (.tmp 1), none, [], false⟩,
      ⟨(some 8), .mov (.tmp 0), none, [], false⟩,
      ⟨(some 9), .mov (.tmp 2), none, [], false⟩,
      ⟨(some 10), .mov (.tmp 0), none, [], false⟩,
      ⟨(some 11), .mov (.tmp 2), none, [], false⟩,
      ⟨(some 12), .indexSl 1 (.tmp 10) (.tmp 11), none, [], false⟩,
      ⟨(some 13), .load none (.tmp 12), none, [], false⟩,
      ⟨(some 14), .mov (.tmp 0), none, [], false⟩,
      ⟨(some 15), .mov (.tmp 1), none, [], false⟩,
      ⟨(some 16), .indexSl 1 (.tmp 14) (.tmp 15), none, [], false⟩,
      ⟨(some 17), .load none (.tmp 16), none, [], false⟩,
      ⟨(some 18), .indexSl 1 (.tmp 6) (.tmp 7), none, [], false⟩,
      ⟨none, .store 1 (.tmp 18) (.tmp 13), none, [((some 9), .mov (.tmp 2), none), ((some 8), .mov (.tmp 0), none)], false⟩,
      ⟨(some 19), .indexSl 1 (.tmp 8) (.tmp 9), none, [], true⟩,
      ⟨none, .store 1 (.tmp 19) (.tmp 17), none, [], true⟩])
def zncQ : AFunc := ⟨20, [], zncQ_c, none⟩
theorem zncQ_t0 : tableOf Try.prog 89 = some zncQ := by kernel_rfl
theorem zncQ_t : T0 89 = some zncQ := withKept_t rfl (withTrue_t rfl zncQ_t0)
abbrev fn_zlcQ : FuncId := 90
def zlcQ_c : ACode :=
  (.seq (.region [
      ⟨(some 2), .mov (.const .nilIface), none, [], false⟩]) (.seq (.region [
      ⟨(some 5), .mov (.tmp 0), none, [], false⟩,
      ⟨(some 6), .nilCheck (.tmp 5), none, [], false⟩,
      ⟨(some 7), .load none (.tmp 6), none, [], false⟩,
      ⟨(some 8), .lenSl (.tmp 7), none, [], false⟩,
      ⟨(some 9), .bin .sub (so (.binOp .sub 3 (.tmp 8) (.const (.int .i64 1)) 3) 3) (.tmp 8) (.const (.int .i64 1)), none, [], false⟩,
      ⟨(some 3), .mov (.tmp 9), none, [], false⟩]) (.seq (.region [
      ⟨(some 10), .mov (.tmp 0), none, [], false⟩,
      ⟨(some 11), .nilCheck (.tmp 10), none, [], false⟩,
      ⟨(some 12), .load none (.tmp 11), none, [], false⟩,
      ⟨(some 13), .mov (.tmp 3), none, [], false⟩,
      ⟨(some 14), .indexSl 1 (.tmp 12) (.tmp 13), none, [], false⟩,
      ⟨(some 15), .load none (.tmp 14), none, [], false⟩,
      ⟨(some 4), .mov (.tmp 15), none, [], false⟩]) (.seq (.region [
      ⟨(some 16), .mov (.tmp 0), none, [], false⟩,
      ⟨(some 17), .mov (.tmp 0), none, [], false⟩,
      ⟨(some 18), .nilCheck (.tmp 17), none, [], false⟩,
      ⟨(some 19), .load none (.tmp 18), none, [], false⟩,
      ⟨(some 20), .mov (.tmp 3), none, [], false⟩,
      ⟨(some 21), .sliceSl 1 (.tmp 19) none (some (.tmp 20)) none, none, [], false⟩,
      ⟨(some 22), .nilCheck (.tmp 16), none, [], false⟩,
      ⟨none, .store 1 (.tmp 22) (.tmp 21), none, [], false⟩]) (.seq (.region [
      ⟨(some 23), .mov (.tmp 4), none, [], false⟩,
      ⟨(some 24), .mkIface 66 (.tmp 23), none, [], false⟩,
      ⟨(some 2), .mov (.tmp 24), none, [], false⟩]) .ret)))))
def zlcQ : AFunc := ⟨25, [(2, none)], zlcQ_c, none⟩
theorem zlcQ_t0 : tableOf Try.prog 90 = some zlcQ := by kernel_rfl
theorem zlcQ_t : T0 90 = some zlcQ := withKept_t rfl (withTrue_t rfl zlcQ_t0)
abbrev fn_zmcQ : FuncId := 91
def zmcQ_c : ACode :=
  (.regionD [
      ⟨(some 4), .mov (.tmp 0), none, [], false⟩,
      ⟨(some 5), .mov (.tmp 0), none, [], false⟩,
      ⟨(some 6), .nilCheck (.tmp 5), none, [], false⟩,
      ⟨(some 7), .load none (.tmp 6), none, [], false⟩,
      ⟨(some 8), .mov (.tmp 1), none, [], false⟩,
      ⟨(some 9), .assertTo 66 (.pointer none) false (.tmp 8), none, [], false⟩,
      ⟨(some 10), .buildSlice 66 [(.pointer none)] 1 [(0, 1, (.tmp 9))], none, [((some 7), .load none (.tmp 6), none), ((some 6), .nilCheck (.tmp 5), none), ((some 5), .mov (.tmp 0), none), ((some 4), .mov (.tmp 0), none)], false⟩,
      ⟨(some 11), .append 66 1 8 [(.pointer none)] false (.tmp 7) (.tmp 10), none, [((some 4), .mov (.tmp 0), none)], false⟩,
      ⟨(some 12), .nilCheck (.tmp 4), none, [], true⟩,
      ⟨none, .store 1 (.tmp 12) (.tmp 11), none, [], true⟩])
def zmcQ : AFunc := ⟨13, [], zmcQ_c, none⟩
theorem zmcQ_t0 : tableOf Try.prog 91 = some zmcQ := by kernel_rfl
theorem zmcQ_t : T0 91 = some zmcQ := withKept_t rfl (withTrue_t rfl zmcQ_t0)
def table : TT :=
  (.node (.node (.node (.node (.node (.node .nil 3 zmQ .nil) 8 zoQ (.node .nil 9 zwbQ .nil)) 10 zacQ (.node (.node .nil 11 zkQ .nil) 12 zccQ .nil)) 13 zxbQ (.node (.node (.node .nil 14 zbcQ .nil) 15 zdcQ (.node .nil 16 zecQ .nil)) 17 znQ (.node (.node .nil 20 zjQ .nil) 21 zybQ .nil))) 32 zhcQ (.node (.node (.node (.node .nil 33 zgcQ .nil) 34 zocQ (.node .nil 35 zdQ .nil)) 36 zfcQ (.node (.node .nil 37 zeQ .nil) 38 zcbQ .nil)) 40 zjcQ (.node (.node (.node .nil 41 zicQ .nil) 42 zebQ (.node .nil 43 zfbQ .nil)) 44 zgQ (.node (.node .nil 45 zfQ .nil) 46 zbQ .nil)))) 47 zaQ (.node (.node (.node (.node (.node .nil 48 zbbQ .nil) 49 zdbQ (.node .nil 50 zgbQ .nil)) 51 zcQ (.node (.node .nil 52 zabQ .nil) 53 zsbQ .nil)) 54 zxQ (.node (.node (.node .nil 55 zkbQ .nil) 56 zjbQ (.node .nil 57 zhbQ .nil)) 58 zibQ (.node (.node .nil 59 ztbQ .nil) 60 zpbQ .nil))) 61 zrbQ (.node (.node (.node (.node .nil 62 zqbQ .nil) 63 zyQ (.node .nil 64 zzQ .nil)) 65 zubQ (.node (.node .nil 66 znbQ .nil) 67 zvbQ .nil)) 68 zlbQ (.node (.node (.node .nil 69 zmbQ .nil) 70 zobQ (.node .nil 88 zkcQ .nil)) 89 zncQ (.node (.node .nil 90 zlcQ .nil) 91 zmcQ .nil)))))
theorem table_all : table.All Try.prog := ⟨zaQ_t0, ⟨zhcQ_t0, ⟨zxbQ_t0, ⟨zacQ_t0, ⟨zoQ_t0, ⟨zmQ_t0, trivial, trivial⟩, ⟨zwbQ_t0, trivial, trivial⟩⟩, ⟨zccQ_t0, ⟨zkQ_t0, trivial, trivial⟩, trivial⟩⟩, ⟨znQ_t0, ⟨zdcQ_t0, ⟨zbcQ_t0, trivial, trivial⟩, ⟨zecQ_t0, trivial, trivial⟩⟩, ⟨zybQ_t0, ⟨zjQ_t0, trivial, trivial⟩, trivial⟩⟩⟩, ⟨zjcQ_t0, ⟨zfcQ_t0, ⟨zocQ_t0, ⟨zgcQ_t0, trivial, trivial⟩, ⟨zdQ_t0, trivial, trivial⟩⟩, ⟨zcbQ_t0, ⟨zeQ_t0, trivial, trivial⟩, trivial⟩⟩, ⟨zgQ_t0, ⟨zebQ_t0, ⟨zicQ_t0, trivial, trivial⟩, ⟨zfbQ_t0, trivial, trivial⟩⟩, ⟨zbQ_t0, ⟨zfQ_t0, trivial, trivial⟩, trivial⟩⟩⟩⟩, ⟨zrbQ_t0, ⟨zxQ_t0, ⟨zcQ_t0, ⟨zdbQ_t0, ⟨zbbQ_t0, trivial, trivial⟩, ⟨zgbQ_t0, trivial, trivial⟩⟩, ⟨zsbQ_t0, ⟨zabQ_t0, trivial, trivial⟩, trivial⟩⟩, ⟨zibQ_t0, ⟨zjbQ_t0, ⟨zkbQ_t0, trivial, trivial⟩, ⟨zhbQ_t0, trivial, trivial⟩⟩, ⟨zpbQ_t0, ⟨ztbQ_t0, trivial, trivial⟩, trivial⟩⟩⟩, ⟨zlbQ_t0, ⟨zubQ_t0, ⟨zyQ_t0, ⟨zqbQ_t0, trivial, trivial⟩, ⟨zzQ_t0, trivial, trivial⟩⟩, ⟨zvbQ_t0, ⟨znbQ_t0, trivial, trivial⟩, trivial⟩⟩, ⟨zncQ_t0, ⟨zobQ_t0, ⟨zmbQ_t0, trivial, trivial⟩, ⟨zkcQ_t0, trivial, trivial⟩⟩, ⟨zmcQ_t0, ⟨zlcQ_t0, trivial, trivial⟩, trivial⟩⟩⟩⟩⟩
end Go.Proofs.Ytfmpaoolplnpjaa.R

namespace Go.Proofs.Ytfmpaoolplnpjaa.R
open Go Go.Vm
set_option maxRecDepth 100000
def rep (n : Nat) (v : Value) (l : List Value) : List Value := List.replicate n v ++ l
def ob_1 : AObj := .cells ((.int .i64 4) :: (.slice none 0 0) :: (.slice (some ⟨12, 0, (some 0)⟩) 3 3) :: rep 254 (.slice none 0 0) ((.map (some 1)) :: [])) 0
def ob_2 : AObj := .cells ((.pointer (some ⟨6, 0, none⟩)) :: (.pointer (some ⟨3, 0, none⟩)) :: (.pointer (some ⟨10, 0, none⟩)) :: []) 1
def ob_3 : AObj := .cells ((.int .i64 4) :: (.slice none 0 0) :: (.slice (some ⟨12, 0, (some 0)⟩) 2 3) :: rep 254 (.slice none 0 0) ((.map (some 1)) :: [])) 0
def ob_4 : AObj := .cells ((.pointer (some ⟨10, 0, none⟩)) :: (.pointer (some ⟨3, 0, none⟩)) :: (.pointer (some ⟨6, 0, none⟩)) :: []) 1
def ob_5 : AObj := .cells ((.int .i64 4) :: (.slice none 0 0) :: (.slice (some ⟨12, 0, (some 0)⟩) 1 3) :: rep 254 (.slice none 0 0) ((.map (some 1)) :: [])) 0
def ob_6 : AObj := .cells ((.pointer (some ⟨3, 0, none⟩)) :: (.pointer (some ⟨10, 0, none⟩)) :: (.pointer (some ⟨6, 0, none⟩)) :: []) 1
def ob_7 : AObj := .cells ((.int .i64 4) :: (.slice none 0 0) :: (.slice (some ⟨12, 0, (some 0)⟩) 0 3) :: rep 254 (.slice none 0 0) ((.map (some 1)) :: [])) 0
def tr_1 : Tr := .node (.cells [(.pointer (some ⟨10, 0, none⟩))] 0) .nil .nil
def tr_2 : Tr := .node (.cells [(.int .i64 0), (.int .i64 1)] 0) .nil .nil
def tr_3 : Tr := .node .dead (.node (.cells [(.int .i64 (-1)), (.int .i64 1)] 0) .nil .nil) tr_2
def tr_4 : Tr := .node .dead .nil .nil
def tr_5 : Tr := .node (.cells [(.int .i64 3), (.int .i64 5)] 0) .nil .nil
def tr_6 : Tr := .node .dead (.node (.map [⟨(.int .i64 1), (.pointer (some ⟨3, 0, none⟩)), 0⟩, ⟨(.int .i64 2), (.pointer (some ⟨6, 0, none⟩)), 1⟩, ⟨(.int .i64 3), (.pointer (some ⟨10, 0, none⟩)), 2⟩] 3) (.node (.cells [(.int .i64 1), (.int .i64 9)] 0) (.node (.cells [(.pointer (some ⟨6, 0, none⟩))] 0) .nil .nil) tr_1) tr_3) (.node ob_1 (.node (.cells [(.pointer (some ⟨3, 0, none⟩))] 0) tr_4 (.node ob_2 .nil .nil)) (.node (.cells [(.int .i64 2), (.int .i64 5)] 0) tr_5 .nil))
def tr_7 : Tr := .node .dead (.node (.cells [(.int .i64 1), (.int .i64 (-1))] 0) .nil .nil) .nil
def tr_8 : Tr := .node (.cells [(.int .i64 2)] 0) .nil .nil
def tr_9 : Tr := .node .dead (.node (.map [⟨(.int .i64 1), (.pointer (some ⟨3, 0, none⟩)), 0⟩, ⟨(.int .i64 3), (.pointer (some ⟨10, 0, none⟩)), 2⟩] 3) (.node (.cells [(.int .i64 1), (.int .i64 9)] 0) (.node (.cells [(.pointer (some ⟨6, 0, none⟩))] 0) (.node (.cells [(.int .i64 2)] 1) .nil .nil) .nil) tr_1) tr_3) (.node ob_3 (.node (.cells [(.pointer (some ⟨3, 0, none⟩))] 0) tr_7 (.node ob_4 .nil .nil)) (.node (.cells [(.int .i64 2), (.int .i64 5)] 0) tr_5 tr_8))
def tr_10 : Tr := .node (.cells [(.pointer (some ⟨6, 0, none⟩))] 0) tr_4 .nil
def tr_11 : Tr := .node (.cells [(.int .i64 (-1)), (.int .i64 1)] 0) (.node (.cells [(.int .i64 3)] 0) .nil .nil) .nil
def tr_12 : Tr := .node .dead tr_11 tr_2
def tr_13 : Tr := .node (.cells [(.int .i64 2), (.int .i64 5)] 0) (.node (.cells [(.int .i64 3), (.int .i64 5)] 0) (.node (.cells [(.int .i64 2), (.int .i64 3)] 1) .nil .nil) .nil) tr_8
def tr_14 : Tr := .node ob_5 (.node (.cells [(.pointer (some ⟨3, 0, none⟩))] 0) tr_7 (.node ob_6 .nil .nil)) tr_13
def tr_15 : Tr := .node .dead (.node (.map [⟨(.int .i64 1), (.pointer (some ⟨3, 0, none⟩)), 0⟩] 3) (.node (.cells [(.int .i64 1), (.int .i64 9)] 0) tr_10 tr_1) tr_12) tr_14
def tr_16 : Tr := .node (.cells [(.int .i64 1), (.int .i64 9)] 0) tr_10 (.node (.cells [(.pointer (some ⟨10, 0, none⟩))] 0) (.node (.cells [(.int .i64 2), (.int .i64 3)] 0) .nil .nil) .nil)
def tr_17 : Tr := .node .dead (.node (.map [⟨(.int .i64 1), (.pointer (some ⟨3, 0, none⟩)), 0⟩] 3) tr_16 tr_12) tr_14
def tr_18 : Tr := .node .dead (.node (.map [] 3) tr_16 (.node .dead tr_11 (.node (.cells [(.int .i64 0), (.int .i64 1)] 0) (.node (.cells [(.int .i64 1)] 1) .nil .nil) .nil))) (.node ob_7 (.node (.cells [(.pointer (some ⟨3, 0, none⟩))] 0) tr_7 (.node ob_6 (.node (.cells [(.int .i64 1)] 0) .nil .nil) .nil)) tr_13)
end Go.Proofs.Ytfmpaoolplnpjaa.R

namespace Go.Proofs.Ytfmpaoolplnpjaa.R
open Go Go.Vm
set_option maxRecDepth 100000
def ma_1 : List Value := [(.pointer (some ⟨2, 0, none⟩))]
def mh_1 : Heap := ⟨14, tr_6⟩
def mo_1 : List CO := [(.ret (.pointer (some ⟨6, 0, none⟩)) ⟨14, tr_6⟩)]
theorem me_1 : fewOK (xcall Try.prog table.get 1000 60 (.fn 33) ma_1 mh_1) mo_1 = true := by kernel_rfl
def ma_2 : List Value := [(.pointer (some ⟨2, 0, none⟩))]
def mh_2 : Heap := ⟨17, tr_9⟩
def mo_2 : List CO := [(.ret (.pointer (some ⟨10, 0, none⟩)) ⟨17, tr_9⟩)]
theorem me_2 : fewOK (xcall Try.prog table.get 1000 60 (.fn 33) ma_2 mh_2) mo_2 = true := by kernel_rfl
def ma_3 : List Value := [(.pointer (some ⟨2, 0, none⟩))]
def mh_3 : Heap := ⟨19, tr_15⟩
def mo_3 : List CO := [(.ret (.pointer (some ⟨3, 0, none⟩)) ⟨19, tr_15⟩)]
theorem me_3 : fewOK (xcall Try.prog table.get 1000 60 (.fn 33) ma_3 mh_3) mo_3 = true := by kernel_rfl
end Go.Proofs.Ytfmpaoolplnpjaa.R

namespace Go.Proofs.Ytfmpaoolplnpjaa.R
open Go Go.Vm
set_option maxRecDepth 100000
def ma_4 : List Value := [(.pointer (some ⟨2, 0, none⟩))]
def mh_4 : Heap := ⟨20, tr_17⟩
def mo_4 : List CO := [(.ret (.pointer (some ⟨3, 0, none⟩)) ⟨20, tr_17⟩)]
theorem me_4 : fewOK (xcall Try.prog table.get 1000 60 (.fn 33) ma_4 mh_4) mo_4 = true := by kernel_rfl
def ma_5 : List Value := [(.pointer (some ⟨2, 0, none⟩))]
def mh_5 : Heap := ⟨22, tr_18⟩
def mo_5 : List CO := [(.ret (.pointer none) ⟨22, tr_18⟩)]
theorem me_5 : fewOK (xcall Try.prog table.get 1000 60 (.fn 33) ma_5 mh_5) mo_5 = true := by kernel_rfl
end Go.Proofs.Ytfmpaoolplnpjaa.R

namespace Go.Proofs.Ytfmpaoolplnpjaa.R
open Go Go.Vm
set_option maxRecDepth 100000
def memo_33 : Memo := [(ma_1, mh_1, mo_1), (ma_2, mh_2, mo_2), (ma_3, mh_3, mo_3), (ma_4, mh_4, mo_4), (ma_5, mh_5, mo_5)]
theorem memo_33_ok : MemoF Try.prog 33 memo_33 := MemoF.cons (TT.table_ok table_all) me_1 (MemoF.cons (TT.table_ok table_all) me_2 (MemoF.cons (TT.table_ok table_all) me_3 (MemoF.cons (TT.table_ok table_all) me_4 (MemoF.cons (TT.table_ok table_all) me_5 (MemoF.nil)))))
def tab : Table := (withMemo table.get 33 memo_33)
theorem tab_ok : TableOK Try.prog tab := (withMemoF_ok (Checked.mixed Try.checked) (TT.table_ok table_all) memo_33_ok)
end Go.Proofs.Ytfmpaoolplnpjaa.R

namespace Go.Proofs.Ytfmpaoolplnpjaa.A
open Go Go.Vm
set_option maxRecDepth 100000
theorem ran_17 : allTrue (xcall Try.prog R.tab 1000 60 (.fn 17) [] Heap.init) = true := by kernel_rfl
theorem has_17 : (tableOf Try.prog 17).isSome = true := by kernel_rfl
theorem known : KnownAll Try.prog prims := ⟨⟨Option.isSome_iff_exists.1 has_17, fun w => known_calls (Checked.mixed Try.checked) R.tab_ok ran_17 w⟩, trivial⟩
theorem T0_ok : TableOK Try.prog T0 := withKept_ok (withTrue_ok known) fun k hk => by simp at hk
end Go.Proofs.Ytfmpaoolplnpjaa.A
