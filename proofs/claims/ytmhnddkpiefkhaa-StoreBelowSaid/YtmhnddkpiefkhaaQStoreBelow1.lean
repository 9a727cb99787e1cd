/- Contracts of functions, over the machine. -/
import Derived.Test.YtmhnddkpiefkhaaRows
import Derived.Test.YtmhnddkpiefkhaaVJ
import Derived.Test.YtmhnddkpiefkhaaVL
namespace Go.Vm
abbrev U : Value := undef
abbrev tm (n : Nat) : Operand := .tmp n
abbrev k0 : Operand := .const (.int .i64 0)
abbrev o1 (d : Nat) (x : AOp) : AOper := ⟨some d, x, none, [], false⟩
abbrev o2 (d : Nat) (x : AOp) : AOper := ⟨some d, x, none, [], true⟩
abbrev o3 (x : AOp) : AOper := ⟨none, x, none, [], false⟩
abbrev o4 (d : Nat) (x : AOp) (t : Nat) : AOper := ⟨some d, x, some (t, true), [], false⟩
abbrev o5 (d : Nat) (x : AOp) (t : Nat) : AOper := ⟨some d, x, some (t, false), [], false⟩
end Go.Vm
set_option linter.unusedSimpArgs false
noncomputable section
set_option maxRecDepth 100000
set_option linter.unusedVariables false
namespace Go.Proofs.Ytmhnddkpiefkhaa.R
open Go Go.Vm
abbrev ty_internal_abi_BoundsErrorCode : TypeId := 6
abbrev ty_runtime_boundsError : TypeId := 8
abbrev ty_runtime_errorString : TypeId := 10
abbrev ty_runtime_plainError : TypeId := 11
abbrev ty_runtime_errorAddressString : TypeId := 14
abbrev ty_internal_runtime_maps_unhashableTypeError : TypeId := 19
abbrev ty_api_Errno : TypeId := 24
abbrev ty_api_Hash : TypeId := 28
abbrev ty_api_Header : TypeId := 30
abbrev ty_api_Commit : TypeId := 33
abbrev ty_api_Block : TypeId := 36
abbrev ty_api_Kept : TypeId := 47
abbrev ty_ll22_Act : TypeId := 53
abbrev ty_lr22_Store : TypeId := 69
abbrev ty_store_Store : TypeId := 75
abbrev ty_store_kept : TypeId := 82
abbrev ty_store_heights : TypeId := 101
abbrev ty_iter_Seq_int_ : TypeId := 104
abbrev ty_api_Key : TypeId := 111
abbrev ty_api_Validator : TypeId := 113
abbrev ty_api_Vote : TypeId := 117
abbrev ty_iter_Seq__store_kept_ : TypeId := 119
abbrev ty_container_heap_Interface : TypeId := 126
abbrev ty_runtime_TypeAssertionError : TypeId := 134
abbrev ty_runtime_PanicNilError : TypeId := 137
abbrev ty_internal_abi_TFlag : TypeId := 139
abbrev ty_internal_abi_Kind : TypeId := 140
abbrev ty_internal_abi_NameOff : TypeId := 143
abbrev ty_internal_abi_TypeOff : TypeId := 144
abbrev ty_internal_abi_Type : TypeId := 146
instance : IsIface Try.prog 20 := ⟨by kernel_rfl⟩
instance : IsIface Try.prog 125 := ⟨by kernel_rfl⟩
instance : IsIface Try.prog 126 := ⟨by kernel_rfl⟩
abbrev prims : List FuncId := []
abbrev kepts : List FuncId := []
def T0 : Table := withKept (withTrue Try.prog prims) kepts
instance : IsBoolT Try.prog 4 := ⟨by kernel_rfl⟩
instance : TLeaves Try.prog 7 (.i .i64 :: (.i .i64 :: (.b :: (.i .u8 :: [])))) := ⟨by kernel_rfl, by kernel_rfl, by kernel_rfl⟩
instance : TLeaves Try.prog 8 (.i .i64 :: (.i .i64 :: (.b :: (.i .u8 :: [])))) := ⟨by kernel_rfl, by kernel_rfl, by kernel_rfl⟩
instance : TLeaves Try.prog 27 (u8s 32) := ⟨by kernel_rfl, by kernel_rfl, by kernel_rfl⟩
instance : TLeaves Try.prog 28 (u8s 32) := ⟨by kernel_rfl, by kernel_rfl, by kernel_rfl⟩
instance : TLeaves Try.prog 29 (.s :: (.i .i64 :: (.i .i64 :: (u8s 32 ++ (u8s 32 ++ (u8s 32 ++ (u8s 32))))))) := ⟨by kernel_rfl, by kernel_rfl, by kernel_rfl⟩
instance : TLeaves Try.prog 30 (.s :: (.i .i64 :: (.i .i64 :: (u8s 32 ++ (u8s 32 ++ (u8s 32 ++ (u8s 32))))))) := ⟨by kernel_rfl, by kernel_rfl, by kernel_rfl⟩
instance : TLeaves Try.prog 46 (.i .i64 :: (.b :: (.b :: []))) := ⟨by kernel_rfl, by kernel_rfl, by kernel_rfl⟩
instance : TLeaves Try.prog 47 (.i .i64 :: (.b :: (.b :: []))) := ⟨by kernel_rfl, by kernel_rfl, by kernel_rfl⟩
instance : TLeaves Try.prog 110 (u8s 4) := ⟨by kernel_rfl, by kernel_rfl, by kernel_rfl⟩
instance : TLeaves Try.prog 111 (u8s 4) := ⟨by kernel_rfl, by kernel_rfl, by kernel_rfl⟩
instance : TLeaves Try.prog 112 (u8s 4 ++ (.i .i64 :: [])) := ⟨by kernel_rfl, by kernel_rfl, by kernel_rfl⟩
instance : TLeaves Try.prog 113 (u8s 4 ++ (.i .i64 :: [])) := ⟨by kernel_rfl, by kernel_rfl, by kernel_rfl⟩
instance : TLeaves Try.prog 116 (.i .i64 :: (.i .u64 :: [])) := ⟨by kernel_rfl, by kernel_rfl, by kernel_rfl⟩
instance : TLeaves Try.prog 117 (.i .i64 :: (.i .u64 :: [])) := ⟨by kernel_rfl, by kernel_rfl, by kernel_rfl⟩
abbrev fn_zoQ : FuncId := 3
def zoQ_c : ACode :=
  (.seq (.region [
      ⟨(some 0), .mov (.const (.bool false)), none, [], false⟩]) (.seq (.region [
      ⟨(some 12), .callV (.func 8) [], none, [], false⟩,
      ⟨(some 1), .mov (.tmp 12), none, [], false⟩]) (.seq (.region [
      ⟨(some 14), .callV (.func 9) [(.const (.int .i64 0))], none, [], false⟩,
      ⟨(some 13), .mov (.tmp 14), none, [], false⟩,
      ⟨(some 15), .extract 0 (.tmp 13), none, [], false⟩,
      ⟨(some 16), .extract 1 (.tmp 13), none, [], false⟩,
      ⟨(some 2), .mov (.tmp 15), none, [], false⟩,
      ⟨(some 3), .mov (.tmp 16), none, [], false⟩]) (.seq (.region [
      ⟨(some 18), .callV (.func 9) [(.const (.int .i64 4097))], none, [], false⟩,
      ⟨(some 17), .mov (.tmp 18), none, [], false⟩,
      ⟨(some 19), .extract 0 (.tmp 17), none, [], false⟩,
      ⟨(some 20), .extract 1 (.tmp 17), none, [], false⟩,
      ⟨(some 4), .mov (.tmp 19), none, [], false⟩,
      ⟨(some 5), .mov (.tmp 20), none, [], false⟩]) (.seq (.seq (.region [
      ⟨(some 21), .mov (.tmp 1), none, [], false⟩,
      ⟨(some 22), .eq .ptr false (so (.binOp .eql 22 (.tmp 21) (.const (.pointer none)) 22) 4) (.tmp 21) (.const (.pointer none)), none, [], false⟩,
      ⟨(some 23), .mov (.tmp 22), none, [], false⟩,
      ⟨(some 24), .mov (.tmp 3), (some (23, false)), [], false⟩,
      ⟨(some 25), .bin .neq (so (.binOp .neq 24 (.tmp 24) (.const (.int .i64 3)) 24) 4) (.tmp 24) (.const (.int .i64 3)), (some (23, false)), [], false⟩,
      ⟨(some 26), .pick (.tmp 23) (.const (.bool true)) (.tmp 25), none, [], false⟩,
      ⟨(some 27), .mov (.tmp 26), none, [], false⟩,
      ⟨(some 28), .mov (.tmp 5), (some (27, false)), [], false⟩,
      ⟨(some 29), .bin .neq (so (.binOp .neq 24 (.tmp 28) (.const (.int .i64 3)) 24) 4) (.tmp 28) (.const (.int .i64 3)), (some (27, false)), [], false⟩,
      ⟨(some 30), .pick (.tmp 27) (.const (.bool true)) (.tmp 29), none, [], false⟩]) (.cond (.tmp 30)
    (.seq (.region [
      ⟨(some 0), .mov (.const (.bool false)), none, [], false⟩]) .ret)
    .skip)) (.seq (.region [
      ⟨(some 32), .mov (.tmp 1), none, [], false⟩,
      ⟨(some 33), .callV (.func 10) [(.tmp 32), (.const (.int .i64 7))], none, [], false⟩,
      ⟨(some 31), .mov (.tmp 33), none, [], false⟩,
      ⟨(some 34), .extract 0 (.tmp 31), none, [], false⟩,
      ⟨(some 35), .extract 1 (.tmp 31), none, [], false⟩,
      ⟨(some 6), .alloc 36 ((.string ⟨⟨[]⟩⟩) :: ((.int .i64 0) :: ((.int .i64 0) :: (z32 ++ (z32 ++ (z32 ++ (z32 ++ ((.int .i64 0) :: (z32 ++ [(.slice none 0 0), (.slice none 0 0)]))))))))), none, [], false⟩,
      ⟨none, .store 166 (.tmp 6) (.tmp 34), none, [], false⟩,
      ⟨(some 7), .mov (.tmp 35), none, [], false⟩]) (.seq (.region [
      ⟨(some 37), .mov (.tmp 1), none, [], false⟩,
      ⟨(some 38), .callV (.func 10) [(.tmp 37), (.const (.int .i64 5))], none, [], false⟩,
      ⟨(some 36), .mov (.tmp 38), none, [], false⟩,
      ⟨(some 39), .extract 0 (.tmp 36), none, [], false⟩,
      ⟨(some 40), .extract 1 (.tmp 36), none, [], false⟩,
      ⟨(some 8), .alloc 36 ((.string ⟨⟨[]⟩⟩) :: ((.int .i64 0) :: ((.int .i64 0) :: (z32 ++ (z32 ++ (z32 ++ (z32 ++ ((.int .i64 0) :: (z32 ++ [(.slice none 0 0), (.slice none 0 0)]))))))))), none, [], false⟩,
      ⟨none, .store 166 (.tmp 8) (.tmp 39), none, [], false⟩,
      ⟨(some 9), .mov (.tmp 40), none, [], false⟩]) (.seq (.seq (.region [
      ⟨(some 41), .mov (.tmp 7), none, [], false⟩,
      ⟨(some 42), .raw (so (.unOp .not 4 (.tmp 41)) 4), none, [], false⟩,
      ⟨(some 43), .mov (.tmp 42), none, [], false⟩,
      ⟨(some 44), .fieldAddr 0 (.tmp 6), (some (43, false)), [], false⟩,
      ⟨(some 45), .fieldAddr 1 (.tmp 44), (some (43, false)), [], false⟩,
      ⟨(some 46), .load none (.tmp 45), (some (43, false)), [], false⟩,
      ⟨(some 47), .bin .neq (so (.binOp .neq 3 (.tmp 46) (.const (.int .i64 5)) 3) 4) (.tmp 46) (.const (.int .i64 5)), (some (43, false)), [], false⟩,
      ⟨(some 48), .pick (.tmp 43) (.const (.bool true)) (.tmp 47), none, [], false⟩,
      ⟨(some 49), .mov (.tmp 48), none, [], false⟩,
      ⟨(some 50), .mov (.tmp 9), (some (49, false)), [], false⟩,
      ⟨(some 51), .pick (.tmp 49) (.const (.bool true)) (.tmp 50), none, [], false⟩,
      ⟨(some 52), .mov (.tmp 51), none, [], false⟩,
      ⟨(some 53), .mov (.tmp 1), (some (52, false)), [], false⟩,
      ⟨(some 54), .callV (.func 11) [(.tmp 53), (.const (.int .i64 3)), (.const (.int .i64 7)), (.const (.int .i64 0))], (some (52, false)), [], false⟩,
      ⟨(some 55), .raw (so (.unOp .not 4 (.tmp 54)) 4), (some (52, false)), [], false⟩,
      ⟨(some 56), .pick (.tmp 52) (.const (.bool true)) (.tmp 55), none, [], false⟩,
      ⟨(some 57), .mov (.tmp 56), none, [], false⟩,
      ⟨(some 58), .mov (.tmp 1), (some (57, false)), [], false⟩,
      ⟨(some 59), .callV (.func 12) [(.tmp 58), (.const (.int .i64 3)), (.const (.bool true))], (some (57, false)), [], false⟩,
      ⟨(some 60), .bin .neq (so (.binOp .neq 24 (.tmp 59) (.const (.int .i64 0)) 24) 4) (.tmp 59) (.const (.int .i64 0)), (some (57, false)), [], false⟩,
      ⟨(some 61), .pick (.tmp 57) (.const (.bool true)) (.tmp 60), none, [], false⟩,
      ⟨(some 62), .mov (.tmp 61), none, [], false⟩,
      ⟨(some 63), .mov (.tmp 1), (some (62, false)), [], false⟩,
      ⟨(some 64), .callV (.func 12) [(.tmp 63), (.const (.int .i64 5)), (.const (.bool true))], (some (62, false)), [], false⟩,
      ⟨(some 65), .bin .neq (so (.binOp .neq 24 (.tmp 64) (.const (.int .i64 0)) 24) 4) (.tmp 64) (.const (.int .i64 0)), (some (62, false)), [], false⟩,
      ⟨(some 66), .pick (.tmp 62) (.const (.bool true)) (.tmp 65), none, [], false⟩,
      ⟨(some 67), .mov (.tmp 66), none, [], false⟩,
      ⟨(some 68), .mov (.tmp 1), (some (67, false)), [], false⟩,
      ⟨(some 69), .callV (.func 11) [(.tmp 68), (.const (.int .i64 4)), (.const (.int .i64 0)), (.const (.int .i64 7))], (some (67, false)), [], false⟩,
      ⟨(some 70), .raw (so (.unOp .not 4 (.tmp 69)) 4), (some (67, false)), [], false⟩,
      ⟨(some 71), .pick (.tmp 67) (.const (.bool true)) (.tmp 70), none, [], false⟩]) (.cond (.tmp 71)
    (.seq (.region [
      ⟨(some 0), .mov (.const (.bool false)), none, [], false⟩]) .ret)
    .skip)) (.seq (.region [
      ⟨(some 72), .mov (.tmp 1), none, [], false⟩,
      ⟨(some 73), .callV (.func 13) [(.tmp 72), (.const (.int .i64 5))], none, [], false⟩]) (.seq (.region [
      ⟨(some 75), .mov (.tmp 1), none, [], false⟩,
      ⟨(some 76), .callV (.func 14) [(.tmp 75), (.const (.int .i64 2))], none, [], false⟩,
      ⟨(some 74), .mov (.tmp 76), none, [], false⟩,
      ⟨(some 77), .extract 0 (.tmp 74), none, [], false⟩,
      ⟨(some 78), .extract 1 (.tmp 74), none, [], false⟩,
      ⟨(some 10), .alloc 36 ((.string ⟨⟨[]⟩⟩) :: ((.int .i64 0) :: ((.int .i64 0) :: (z32 ++ (z32 ++ (z32 ++ (z32 ++ ((.int .i64 0) :: (z32 ++ [(.slice none 0 0), (.slice none 0 0)]))))))))), none, [], false⟩,
      ⟨none, .store 166 (.tmp 10) (.tmp 77), none, [], false⟩,
      ⟨(some 11), .mov (.tmp 78), none, [], false⟩]) (.seq (.region [
      ⟨(some 79), .callV (.func 15) [], none, [], false⟩,
      ⟨(some 80), .mov (.tmp 79), none, [], false⟩,
      ⟨(some 81), .mov (.tmp 11), (some (80, true)), [], false⟩,
      ⟨(some 82), .raw (so (.unOp .not 4 (.tmp 81)) 4), (some (80, true)), [], false⟩,
      ⟨(some 83), .pick (.tmp 80) (.tmp 82) (.const (.bool false)), none, [], false⟩,
      ⟨(some 84), .mov (.tmp 83), none, [], false⟩,
      ⟨(some 85), .mov (.tmp 1), (some (84, true)), [], false⟩,
      ⟨(some 86), .callV (.func 17) [(.tmp 85)], (some (84, true)), [], false⟩,
      ⟨(some 87), .build [(.int .i64 0), (.bool false), (.bool false)] [(0, 1, (.const (.int .i64 5))), (1, 1, (.const (.bool true))), (2, 1, (.const (.bool true)))], (some (84, true)), [], false⟩,
      ⟨(some 88), .buildSlice 47 [(.int .i64 0), (.bool false), (.bool false)] 1 [(0, 3, (.tmp 87))], (some (84, true)), [], false⟩,
      ⟨(some 89), .callV (.func 16) [(.tmp 86), (.tmp 88)], (some (84, true)), [], false⟩,
      ⟨(some 90), .pick (.tmp 84) (.tmp 89) (.const (.bool false)), none, [], false⟩,
      ⟨(some 91), .mov (.tmp 90), none, [], false⟩,
      ⟨(some 92), .mov (.tmp 1), (some (91, true)), [], false⟩,
      ⟨(some 93), .callV (.func 12) [(.tmp 92), (.const (.int .i64 1)), (.const (.bool true))], (some (91, true)), [], false⟩,
      ⟨(some 94), .bin .eql (so (.binOp .eql 24 (.tmp 93) (.const (.int .i64 10)) 24) 4) (.tmp 93) (.const (.int .i64 10)), (some (91, true)), [], false⟩,
      ⟨(some 95), .pick (.tmp 91) (.tmp 94) (.const (.bool false)), none, [], false⟩,
      ⟨(some 96), .mov (.tmp 95), none, [], false⟩,
      ⟨(some 97), .mov (.tmp 1), (some (96, true)), [], false⟩,
      ⟨(some 98), .callV (.func 18) [(.tmp 97), (.const (.int .i64 1))], (some (96, true)), [], false⟩,
      ⟨(some 99), .bin .eql (so (.binOp .eql 24 (.tmp 98) (.const (.int .i64 10)) 24) 4) (.tmp 98) (.const (.int .i64 10)), (some (96, true)), [], false⟩,
      ⟨(some 100), .pick (.tmp 96) (.tmp 99) (.const (.bool false)), none, [], false⟩,
      ⟨(some 101), .mov (.tmp 100), none, [], false⟩,
      ⟨(some 102), .mov (.tmp 1), (some (101, true)), [], false⟩,
      ⟨(some 103), .callV (.func 11) [(.tmp 102), (.const (.int .i64 0)), (.const (.int .i64 0)), (.const (.int .i64 13))], (some (101, true)), [], false⟩,
      ⟨(some 104), .pick (.tmp 101) (.tmp 103) (.const (.bool false)), none, [], false⟩,
      ⟨(some 0), .mov (.tmp 104), none, [], false⟩]) .ret)))))))))))
def zoQ : AFunc := ⟨105, [(0, none)], zoQ_c, none⟩
theorem zoQ_t0 : tableOf Try.prog 3 = some zoQ := by kernel_rfl
def zqQ_c : ACode :=
  (.seq (.region [
      ⟨(some 0), .mov (.const (.pointer none)), none, [], false⟩]) (.seq (.region [
      ⟨(some 4), .callV (.func 9) [(.const (.int .i64 3))], none, [], false⟩,
      ⟨(some 3), .mov (.tmp 4), none, [], false⟩,
      ⟨(some 5), .extract 0 (.tmp 3), none, [], false⟩,
      ⟨(some 6), .extract 1 (.tmp 3), none, [], false⟩,
      ⟨(some 1), .mov (.tmp 5), none, [], false⟩,
      ⟨(some 2), .mov (.tmp 6), none, [], false⟩]) (.seq (.seq (.region [
      ⟨(some 7), .mov (.tmp 2), none, [], false⟩,
      ⟨(some 8), .bin .neq (so (.binOp .neq 24 (.tmp 7) (.const (.int .i64 0)) 24) 4) (.tmp 7) (.const (.int .i64 0)), none, [], false⟩,
      ⟨(some 9), .mov (.tmp 8), none, [], false⟩,
      ⟨(some 10), .mov (.tmp 1), (some (9, false)), [], false⟩,
      ⟨(some 11), .eq .ptr false (so (.binOp .eql 22 (.tmp 10) (.const (.pointer none)) 22) 4) (.tmp 10) (.const (.pointer none)), (some (9, false)), [], false⟩,
      ⟨(some 12), .pick (.tmp 9) (.const (.bool true)) (.tmp 11), none, [], false⟩,
      ⟨(some 13), .mov (.tmp 12), none, [], false⟩,
      ⟨(some 14), .mov (.tmp 1), (some (13, false)), [], false⟩,
      ⟨(some 15), .callV (.func 11) [(.tmp 14), (.const (.int .i64 5)), (.const (.int .i64 0)), (.const (.int .i64 0))], (some (13, false)), [], false⟩,
      ⟨(some 16), .raw (so (.unOp .not 4 (.tmp 15)) 4), (some (13, false)), [], false⟩,
      ⟨(some 17), .pick (.tmp 13) (.const (.bool true)) (.tmp 16), none, [], false⟩,
      ⟨(some 18), .mov (.tmp 17), none, [], false⟩,
      ⟨(some 19), .mov (.tmp 1), (some (18, false)), [], false⟩,
      ⟨(some 20), .callV (.func 11) [(.tmp 19), (.const (.int .i64 2)), (.const (.int .i64 0)), (.const (.int .i64 0))], (some (18, false)), [], false⟩,
      ⟨(some 21), .raw (so (.unOp .not 4 (.tmp 20)) 4), (some (18, false)), [], false⟩,
      ⟨(some 22), .pick (.tmp 18) (.const (.bool true)) (.tmp 21), none, [], false⟩,
      ⟨(some 23), .mov (.tmp 22), none, [], false⟩,
      ⟨(some 24), .mov (.tmp 1), (some (23, false)), [], false⟩,
      ⟨(some 25), .callV (.func 11) [(.tmp 24), (.const (.int .i64 9)), (.const (.int .i64 0)), (.const (.int .i64 0))], (some (23, false)), [], false⟩,
      ⟨(some 26), .raw (so (.unOp .not 4 (.tmp 25)) 4), (some (23, false)), [], false⟩,
      ⟨(some 27), .pick (.tmp 23) (.const (.bool true)) (.tmp 26), none, [], false⟩,
      ⟨(some 28), .mov (.tmp 27), none, [], false⟩,
      ⟨(some 29), .mov (.tmp 1), (some (28, false)), [], false⟩,
      ⟨(some 30), .callV (.func 12) [(.tmp 29), (.const (.int .i64 2)), (.const (.bool true))], (some (28, false)), [], false⟩,
      ⟨(some 31), .bin .neq (so (.binOp .neq 24 (.tmp 30) (.const (.int .i64 0)) 24) 4) (.tmp 30) (.const (.int .i64 0)), (some (28, false)), [], false⟩,
      ⟨(some 32), .pick (.tmp 28) (.const (.bool true)) (.tmp 31), none, [], false⟩,
      ⟨(some 33), .mov (.tmp 32), none, [], false⟩,
      ⟨(some 34), .mov (.tmp 1), (some (33, false)), [], false⟩,
      ⟨(some 35), .callV (.func 18) [(.tmp 34), (.const (.int .i64 5))], (some (33, false)), [], false⟩,
      ⟨(some 36), .bin .neq (so (.binOp .neq 24 (.tmp 35) (.const (.int .i64 0)) 24) 4) (.tmp 35) (.const (.int .i64 0)), (some (33, false)), [], false⟩,
      ⟨(some 37), .pick (.tmp 33) (.const (.bool true)) (.tmp 36), none, [], false⟩,
      ⟨(some 38), .mov (.tmp 37), none, [], false⟩,
      ⟨(some 39), .mov (.tmp 1), (some (38, false)), [], false⟩,
      ⟨(some 40), .callV (.func 11) [(.tmp 39), (.const (.int .i64 7)), (.const (.int .i64 9)), (.const (.int .i64 0))], (some (38, false)), [], false⟩,
      ⟨(some 41), .raw (so (.unOp .not 4 (.tmp 40)) 4), (some (38, false)), [], false⟩,
      ⟨(some 42), .pick (.tmp 38) (.const (.bool true)) (.tmp 41), none, [], false⟩]) (.cond (.tmp 42)
    (.seq (.region [
      ⟨(some 0), .mov (.const (.pointer none)), none, [], false⟩]) .ret)
    .skip)) (.seq (.region [
      ⟨(some 43), .mov (.tmp 1), none, [], false⟩,
      ⟨(some 0), .mov (.tmp 43), none, [], false⟩]) .ret))))
def zqQ : AFunc := ⟨44, [(0, none)], zqQ_c, none⟩
theorem zqQ_t0 : tableOf Try.prog 8 = some zqQ := by kernel_rfl
abbrev fn_zfbQ : FuncId := 9
def zfbQ_c : ACode :=
  (.seq (.region [
      ⟨(some 2), .mov (.const (.pointer none)), none, [], false⟩,
      ⟨(some 3), .mov (.const (.int .i64 0)), none, [], false⟩]) (.seq (.seq (.region [
      ⟨(some 4), .mov (.tmp 0), none, [], false⟩,
      ⟨(some 5), .bin .lss (so (.binOp .lss 3 (.tmp 4) (.const (.int .i64 1)) 3) 4) (.tmp 4) (.const (.int .i64 1)), none, [], false⟩,
      ⟨(some 6), .mov (.tmp 5), none, [], false⟩,
      ⟨(some 7), .mov (.tmp 0), (some (6, false)), [], false⟩,
      ⟨(some 8), .bin .gtr (so (.binOp .gtr 3 (.tmp 7) (.const (.int .i64 4096)) 3) 4) (.tmp 7) (.const (.int .i64 4096)), (some (6, false)), [], false⟩,
      ⟨(some 9), .pick (.tmp 6) (.const (.bool true)) (.tmp 8), none, [], false⟩]) (.cond (.tmp 9)
    (.seq (.region [
      ⟨(some 2), .mov (.const (.pointer none)), none, [], false⟩,
      ⟨(some 3), .mov (.const (.int .i64 3)), none, [], false⟩]) .ret)
    .skip)) (.seq (.region [
      ⟨(some 10), .mov (.tmp 0), none, [], false⟩,
      ⟨(some 11), .mkMap, none, [], false⟩,
      ⟨(some 12), .build [(.int .i64 0), (.map none)] [(0, 1, (.tmp 10)), (1, 1, (.tmp 11))], none, [], false⟩,
      ⟨(some 13), .box 75 (.tmp 12), none, [], false⟩,
      ⟨(some 2), .mov (.tmp 13), none, [], false⟩,
      ⟨(some 3), .mov (.const (.int .i64 0)), none, [], false⟩]) .ret)))
def zfbQ : AFunc := ⟨14, [(2, none), (3, none)], zfbQ_c, none⟩
theorem zfbQ_t0 : tableOf Try.prog 9 = some zfbQ := by kernel_rfl
theorem zfbQ_t : T0 9 = some zfbQ := withKept_t rfl (withTrue_t rfl zfbQ_t0)
abbrev fn_zgbQ : FuncId := 10
def zgbQ_l0 : ACode :=
  (.seq (.region [
      ⟨(some 16), .bin .lss (so (.binOp .lss 3 (.tmp 15) (.tmp 14) 3) 0) (.tmp 15) (.tmp 14), none, [], false⟩]) (.seq (.cond (.tmp 16)
    .skip
    (.exit 0)) (.seq (.block 1 (.seq (.region [
      ⟨(some 17), .indexSl 1 (.tmp 13) (.tmp 15), none, [], false⟩,
      ⟨(some 18), .load none (.tmp 17), none, [], false⟩,
      ⟨(some 7), .mov (.tmp 18), none, [], false⟩]) (.seq (.region [
      ⟨(some 19), .mov (.tmp 0), none, [], false⟩,
      ⟨(some 20), .nilCheck (.tmp 19), none, [], false⟩,
      ⟨(some 21), .fieldAddr 1 (.tmp 20), none, [], false⟩,
      ⟨(some 22), .load none (.tmp 21), none, [], false⟩,
      ⟨(some 23), .mov (.tmp 7), none, [], false⟩,
      ⟨(some 24), .lookup (.int .i64) (.pointer none) false (.tmp 22) (.tmp 23), none, [], false⟩,
      ⟨(some 8), .mov (.tmp 24), none, [], false⟩]) (.seq (.region [
      ⟨(some 25), .mov (.tmp 7), none, [], false⟩,
      ⟨(some 26), .mov (.tmp 1), none, [], false⟩,
      ⟨(some 27), .bin .lss (so (.binOp .lss 3 (.tmp 25) (.tmp 26) 3) 4) (.tmp 25) (.tmp 26), none, [], false⟩,
      ⟨(some 28), .mov (.tmp 27), none, [], false⟩,
      ⟨(some 29), .mov (.tmp 8), (some (28, true)), [], false⟩,
      ⟨(some 30), .nilCheck (.tmp 29), (some (28, true)), [], false⟩,
      ⟨(some 31), .fieldAddr 166 (.tmp 30), (some (28, true)), [], false⟩,
      ⟨(some 32), .load none (.tmp 31), (some (28, true)), [], false⟩,
      ⟨(some 33), .pick (.tmp 28) (.tmp 32) (.const (.bool false)), none, [], false⟩]) (.cond (.tmp 33)
    (.region [
      ⟨(some 34), .mov (.tmp 8), none, [], false⟩,
      ⟨(some 35), .nilCheck (.tmp 34), none, [], false⟩,
      ⟨(some 36), .fieldAddr 0 (.tmp 35), none, [], false⟩,
      ⟨(some 37), .load (some 166) (.tmp 36), none, [], false⟩,
      ⟨(some 38), .callV (.func 39) [(.tmp 37)], none, [], false⟩,
      ⟨none, .store 166 (.tmp 4) (.tmp 38), none, [], false⟩,
      ⟨(some 5), .mov (.const (.bool true)), none, [], false⟩])
    .skip))))) (.region [
      ⟨(some 39), .bin .add (so (.binOp .add 3 (.tmp 15) (.const (.int .i64 1)) 3) 3) (.tmp 15) (.const (.int .i64 1)), none, [], false⟩,
      ⟨(some 15), .mov (.tmp 39), none, [], false⟩]))))
def zgbQ_c : ACode :=
  (.seq (.region [
      ⟨(some 4), .alloc 36 ((.string ⟨⟨[]⟩⟩) :: ((.int .i64 0) :: ((.int .i64 0) :: (z32 ++ (z32 ++ (z32 ++ (z32 ++ ((.int .i64 0) :: (z32 ++ [(.slice none 0 0), (.slice none 0 0)]))))))))), none, [], false⟩,
      ⟨(some 5), .mov (.const (.bool false)), none, [], false⟩]) (.seq (.seq (.region [
      ⟨(some 9), .mov (.tmp 0), none, [], false⟩,
      ⟨(some 10), .callV (.func 37) [(.tmp 9)], none, [], false⟩]) (.cond (.tmp 10)
    (.seq (.region [
      ⟨(some 11), .build ((.string ⟨⟨[]⟩⟩) :: ((.int .i64 0) :: ((.int .i64 0) :: (z32 ++ (z32 ++ (z32 ++ (z32 ++ ((.int .i64 0) :: (z32 ++ [(.slice none 0 0), (.slice none 0 0)]))))))))) [], none, [], false⟩,
      ⟨none, .store 166 (.tmp 4) (.tmp 11), none, [], false⟩,
      ⟨(some 5), .mov (.const (.bool false)), none, [], false⟩]) .ret)
    .skip)) (.seq (.seq (.region [
      ⟨(some 12), .mov (.tmp 0), none, [], false⟩,
      ⟨(some 13), .callV (.func 38) [(.tmp 12)], none, [], false⟩,
      ⟨(some 14), .lenSl (.tmp 13), none, [], false⟩,
      ⟨(some 15), .mov (.const (.int .i64 0)), none, [], false⟩]) (.block 0 (.loop zgbQ_l0))) (.seq (.region [
      ⟨(some 40), .load (some 166) (.tmp 4), none, [], false⟩,
      ⟨(some 41), .mov (.tmp 5), none, [], false⟩,
      ⟨none, .store 166 (.tmp 4) (.tmp 40), none, [], false⟩,
      ⟨(some 5), .mov (.tmp 41), none, [], false⟩]) .ret))))
def zgbQ : AFunc := ⟨42, [(4, some (some 166)), (5, none)], zgbQ_c, none⟩
theorem zgbQ_t0 : tableOf Try.prog 10 = some zgbQ := by kernel_rfl
theorem zgbQ_t : T0 10 = some zgbQ := withKept_t rfl (withTrue_t rfl zgbQ_t0)
def zuQ_c : ACode :=
  (.seq (.region [
      ⟨(some 8), .mov (.const (.bool false)), none, [], false⟩]) (.seq (.region [
      ⟨(some 12), .mov (.tmp 0), none, [], false⟩,
      ⟨(some 13), .mov (.tmp 1), none, [], false⟩,
      ⟨(some 14), .callV (.func 40) [(.tmp 13)], none, [], false⟩,
      ⟨(some 15), .callV (.func 21) [(.tmp 12), (.tmp 14)], none, [], false⟩,
      ⟨(some 11), .mov (.tmp 15), none, [], false⟩,
      ⟨(some 16), .extract 0 (.tmp 11), none, [], false⟩,
      ⟨(some 17), .extract 1 (.tmp 11), none, [], false⟩,
      ⟨(some 9), .mov (.tmp 16), none, [], false⟩,
      ⟨(some 10), .mov (.tmp 17), none, [], false⟩]) (.seq (.region [
      ⟨(some 18), .mov (.tmp 9), none, [], false⟩,
      ⟨(some 19), .mov (.tmp 2), none, [], false⟩,
      ⟨(some 20), .bin .eql (so (.binOp .eql 3 (.tmp 18) (.tmp 19) 3) 4) (.tmp 18) (.tmp 19), none, [], false⟩,
      ⟨(some 21), .mov (.tmp 20), none, [], false⟩,
      ⟨(some 22), .mov (.tmp 10), (some (21, true)), [], false⟩,
      ⟨(some 23), .mov (.tmp 3), (some (21, true)), [], false⟩,
      ⟨(some 24), .bin .eql (so (.binOp .eql 24 (.tmp 22) (.tmp 23) 24) 4) (.tmp 22) (.tmp 23), (some (21, true)), [], false⟩,
      ⟨(some 25), .pick (.tmp 21) (.tmp 24) (.const (.bool false)), none, [], false⟩,
      ⟨(some 8), .mov (.tmp 25), none, [], false⟩]) .ret)))
def zuQ : AFunc := ⟨26, [(8, none)], zuQ_c, none⟩
theorem zuQ_t0 : tableOf Try.prog 11 = some zuQ := by kernel_rfl
abbrev fn_zlbQ : FuncId := 12
def zlbQ_c : ACode :=
  (.seq (.region [
      ⟨(some 5), .box 4 (.tmp 2), none, [], false⟩,
      ⟨(some 6), .mov (.const (.int .i64 0)), none, [], false⟩]) (.seq (.region [
      ⟨(some 7), .mov (.tmp 0), none, [], false⟩,
      ⟨(some 8), .mov (.tmp 1), none, [], false⟩,
      ⟨(some 9), .mkFunc (.func 42) [] [(.tmp 5)], none, [], false⟩,
      ⟨(some 10), .callV (.func 41) [(.tmp 7), (.tmp 8), (.tmp 9)], none, [], false⟩,
      ⟨(some 6), .mov (.tmp 10), none, [], false⟩]) .ret))
def zlbQ : AFunc := ⟨11, [(6, none)], zlbQ_c, none⟩
theorem zlbQ_t0 : tableOf Try.prog 12 = some zlbQ := by kernel_rfl
theorem zlbQ_t : T0 12 = some zlbQ := withKept_t rfl (withTrue_t rfl zlbQ_t0)
abbrev fn_zhbQ : FuncId := 13
def zhbQ_c : ACode :=
  (.seq (.region [
      ⟨(some 3), .box 3 (.tmp 1), none, [], false⟩]) (.seq (.region [
      ⟨(some 4), .mov (.tmp 0), none, [], false⟩,
      ⟨(some 5), .callV (.func 37) [(.tmp 4)], none, [], false⟩,
      ⟨(some 6), .raw (so (.unOp .not 4 (.tmp 5)) 4), none, [], false⟩]) (.cond (.tmp 6)
    (.region [
      ⟨(some 7), .mov (.tmp 0), none, [], false⟩,
      ⟨(some 8), .nilCheck (.tmp 7), none, [], false⟩,
      ⟨(some 9), .fieldAddr 1 (.tmp 8), none, [], false⟩,
      ⟨(some 10), .load none (.tmp 9), none, [], false⟩,
      ⟨(some 11), .mkFunc (.func 44) [] [(.tmp 3)], none, [], false⟩,
      ⟨(some 12), .callV (.func 43) [(.tmp 10), (.tmp 11)], none, [], false⟩])
    .skip)))
def zhbQ : AFunc := ⟨13, [], zhbQ_c, none⟩
theorem zhbQ_t0 : tableOf Try.prog 13 = some zhbQ := by kernel_rfl
theorem zhbQ_t : T0 13 = some zhbQ := withKept_t rfl (withTrue_t rfl zhbQ_t0)
abbrev fn_zjbQ : FuncId := 14
def zjbQ_c : ACode :=
  (.seq (.region [
      ⟨(some 4), .alloc 36 ((.string ⟨⟨[]⟩⟩) :: ((.int .i64 0) :: ((.int .i64 0) :: (z32 ++ (z32 ++ (z32 ++ (z32 ++ ((.int .i64 0) :: (z32 ++ [(.slice none 0 0), (.slice none 0 0)]))))))))), none, [], false⟩,
      ⟨(some 5), .mov (.const (.bool false)), none, [], false⟩]) (.seq (.seq (.region [
      ⟨(some 8), .mov (.tmp 0), none, [], false⟩,
      ⟨(some 9), .callV (.func 37) [(.tmp 8)], none, [], false⟩]) (.cond (.tmp 9)
    (.seq (.region [
      ⟨(some 10), .build ((.string ⟨⟨[]⟩⟩) :: ((.int .i64 0) :: ((.int .i64 0) :: (z32 ++ (z32 ++ (z32 ++ (z32 ++ ((.int .i64 0) :: (z32 ++ [(.slice none 0 0), (.slice none 0 0)]))))))))) [], none, [], false⟩,
      ⟨none, .store 166 (.tmp 4) (.tmp 10), none, [], false⟩,
      ⟨(some 5), .mov (.const (.bool false)), none, [], false⟩]) .ret)
    .skip)) (.seq (.region [
      ⟨(some 12), .mov (.tmp 0), none, [], false⟩,
      ⟨(some 13), .nilCheck (.tmp 12), none, [], false⟩,
      ⟨(some 14), .fieldAddr 1 (.tmp 13), none, [], false⟩,
      ⟨(some 15), .load none (.tmp 14), none, [], false⟩,
      ⟨(some 16), .mov (.tmp 1), none, [], false⟩,
      ⟨(some 17), .lookup (.int .i64) (.pointer none) true (.tmp 15) (.tmp 16), none, [], false⟩,
      ⟨(some 11), .mov (.tmp 17), none, [], false⟩,
      ⟨(some 18), .extract 0 (.tmp 11), none, [], false⟩,
      ⟨(some 19), .extract 1 (.tmp 11), none, [], false⟩,
      ⟨(some 6), .mov (.tmp 18), none, [], false⟩,
      ⟨(some 7), .mov (.tmp 19), none, [], false⟩]) (.seq (.seq (.region [
      ⟨(some 20), .mov (.tmp 7), none, [], false⟩,
      ⟨(some 21), .raw (so (.unOp .not 4 (.tmp 20)) 4), none, [], false⟩]) (.cond (.tmp 21)
    (.seq (.region [
      ⟨(some 22), .build ((.string ⟨⟨[]⟩⟩) :: ((.int .i64 0) :: ((.int .i64 0) :: (z32 ++ (z32 ++ (z32 ++ (z32 ++ ((.int .i64 0) :: (z32 ++ [(.slice none 0 0), (.slice none 0 0)]))))))))) [], none, [], false⟩,
      ⟨none, .store 166 (.tmp 4) (.tmp 22), none, [], false⟩,
      ⟨(some 5), .mov (.const (.bool false)), none, [], false⟩]) .ret)
    .skip)) (.seq (.region [
      ⟨(some 23), .mov (.tmp 6), none, [], false⟩,
      ⟨(some 24), .nilCheck (.tmp 23), none, [], false⟩,
      ⟨(some 25), .fieldAddr 0 (.tmp 24), none, [], false⟩,
      ⟨(some 26), .load (some 166) (.tmp 25), none, [], false⟩,
      ⟨(some 27), .callV (.func 39) [(.tmp 26)], none, [], false⟩,
      ⟨none, .store 166 (.tmp 4) (.tmp 27), none, [], false⟩,
      ⟨(some 5), .mov (.const (.bool true)), none, [], false⟩]) .ret)))))
def zjbQ : AFunc := ⟨28, [(4, some (some 166)), (5, none)], zjbQ_c, none⟩
theorem zjbQ_t0 : tableOf Try.prog 14 = some zjbQ := by kernel_rfl
theorem zjbQ_t : T0 14 = some zjbQ := withKept_t rfl (withTrue_t rfl zjbQ_t0)
def zpQ_c : ACode :=
  (.seq (.region [
      ⟨(some 0), .mov (.const (.bool false)), none, [], false⟩]) (.seq (.region [
      ⟨(some 2), .callV (.func 8) [], none, [], false⟩,
      ⟨(some 1), .mov (.tmp 2), none, [], false⟩]) (.seq (.region [
      ⟨(some 3), .mov (.tmp 1), none, [], false⟩,
      ⟨(some 4), .eq .ptr true (so (.binOp .neq 22 (.tmp 3) (.const (.pointer none)) 22) 4) (.tmp 3) (.const (.pointer none)), none, [], false⟩,
      ⟨(some 5), .mov (.tmp 4), none, [], false⟩,
      ⟨(some 6), .mov (.tmp 1), (some (5, true)), [], false⟩,
      ⟨(some 7), .callV (.func 17) [(.tmp 6)], (some (5, true)), [], false⟩,
      ⟨(some 8), .build [(.int .i64 0), (.bool false), (.bool false)] [(0, 1, (.const (.int .i64 2))), (2, 1, (.const (.bool true)))], (some (5, true)), [], false⟩,
      ⟨(some 9), .build [(.int .i64 0), (.bool false), (.bool false)] [(0, 1, (.const (.int .i64 5))), (1, 1, (.const (.bool true)))], (some (5, true)), [], false⟩,
      ⟨(some 10), .build [(.int .i64 0), (.bool false), (.bool false)] [(0, 1, (.const (.int .i64 7)))], (some (5, true)), [], false⟩,
      ⟨(some 11), .buildSlice 47 [(.int .i64 0), (.bool false), (.bool false), (.int .i64 0), (.bool false), (.bool false), (.int .i64 0), (.bool false), (.bool false)] 3 [(0, 3, (.tmp 8)), (3, 3, (.tmp 9)), (6, 3, (.tmp 10))], (some (5, true)), [], false⟩,
      ⟨(some 12), .callV (.func 16) [(.tmp 7), (.tmp 11)], (some (5, true)), [], false⟩,
      ⟨(some 13), .pick (.tmp 5) (.tmp 12) (.const (.bool false)), none, [], false⟩,
      ⟨(some 14), .mov (.tmp 13), none, [], false⟩,
      ⟨(some 15), .mov (.tmp 1), (some (14, true)), [], false⟩,
      ⟨(some 16), .callV (.func 11) [(.tmp 15), (.const (.int .i64 7)), (.const (.int .i64 0)), (.const (.int .i64 8))], (some (14, true)), [], false⟩,
      ⟨(some 17), .pick (.tmp 14) (.tmp 16) (.const (.bool false)), none, [], false⟩,
      ⟨(some 18), .mov (.tmp 17), none, [], false⟩,
      ⟨(some 19), .mov (.tmp 1), (some (18, true)), [], false⟩,
      ⟨(some 20), .callV (.func 11) [(.tmp 19), (.const (.int .i64 3)), (.const (.int .i64 7)), (.const (.int .i64 0))], (some (18, true)), [], false⟩,
      ⟨(some 21), .pick (.tmp 18) (.tmp 20) (.const (.bool false)), none, [], false⟩,
      ⟨(some 0), .mov (.tmp 21), none, [], false⟩]) .ret)))
def zpQ : AFunc := ⟨22, [(0, none)], zpQ_c, none⟩
theorem zpQ_t0 : tableOf Try.prog 15 = some zpQ := by kernel_rfl
def zkQ_l0 : ACode :=
  (.seq (.seq (.region [
      ⟨(some 12), .mov (.tmp 5), none, [], false⟩,
      ⟨(some 13), .mov (.tmp 12), none, [], false⟩,
      ⟨(some 14), .mov (.tmp 6), (some (13, true)), [], false⟩,
      ⟨(some 15), .mov (.tmp 0), (some (13, true)), [], false⟩,
      ⟨(some 16), .lenSl (.tmp 15), (some (13, true)), [], false⟩,
      ⟨(some 17), .bin .lss (so (.binOp .lss 3 (.tmp 14) (.tmp 16) 3) 4) (.tmp 14) (.tmp 16), (some (13, true)), [], false⟩,
      ⟨(some 18), .pick (.tmp 13) (.tmp 17) (.const (.bool false)), none, [], false⟩]) (.cond (.tmp 18)
    .skip
    (.exit 0))) (.seq (.block 1 (.regionD [
      ⟨(some 21), .mov (.tmp 0), none, [], false⟩,
      ⟨(some 22), .mov (.tmp 6), none, [], false⟩,
      ⟨(some 23), .indexSl 3 (.tmp 21) (.tmp 22), none, [], false⟩,
      ⟨(some 24), .load (some 3) (.tmp 23), none, [], false⟩,
      ⟨(some 25), .mov (.tmp 1), none, [], false⟩,
      ⟨(some 26), .mov (.tmp 6), none, [], false⟩,
      ⟨(some 27), .indexSl 3 (.tmp 25) (.tmp 26), none, [], false⟩,
      ⟨(some 28), .load (some 3) (.tmp 27), none, [], false⟩,
      ⟨(some 29), .bin .eql (so (.binOp .eql 47 (.tmp 24) (.tmp 28) 47) 4) (.tmp 24) (.tmp 28), none, [], true⟩,
      ⟨(some 5), .mov (.tmp 29), none, [], true⟩])) (.region [
      ⟨(some 19), .mov (.tmp 6), none, [], false⟩,
      ⟨(some 20), .bin .add (so (.binOp .add 3 (.tmp 19) (.const (.int .i64 1)) 3) 3) (.tmp 19) (.const (.int .i64 1)), none, [], false⟩,
      ⟨(some 6), .mov (.tmp 20), none, [], false⟩])))
def zkQ_c : ACode :=
  (.seq (.region [
      ⟨(some 4), .mov (.const (.bool false)), none, [], false⟩]) (.seq (.region [
      ⟨(some 7), .mov (.tmp 0), none, [], false⟩,
      ⟨(some 8), .lenSl (.tmp 7), none, [], false⟩,
      ⟨(some 9), .mov (.tmp 1), none, [], false⟩,
      ⟨(some 10), .lenSl (.tmp 9), none, [], false⟩,
      ⟨(some 11), .bin .eql (so (.binOp .eql 3 (.tmp 8) (.tmp 10) 3) 4) (.tmp 8) (.tmp 10), none, [], false⟩,
      ⟨(some 5), .mov (.tmp 11), none, [], false⟩]) (.seq (.seq (.region [
      ⟨(some 6), .mov (.const (.int .i64 0)), none, [], false⟩]) (.block 0 (.loop zkQ_l0))) (.seq (.region [
      ⟨(some 30), .mov (.tmp 5), none, [], false⟩,
      ⟨(some 4), .mov (.tmp 30), none, [], false⟩]) .ret))))
def zkQ : AFunc := ⟨31, [(4, none)], zkQ_c, none⟩
theorem zkQ_t0 : tableOf Try.prog 16 = some zkQ := by kernel_rfl
abbrev fn_zkbQ : FuncId := 17
def zkbQ_l0 : ACode :=
  (.seq (.region [
      ⟨(some 12), .bin .lss (so (.binOp .lss 3 (.tmp 11) (.tmp 10) 3) 0) (.tmp 11) (.tmp 10), none, [], false⟩]) (.seq (.cond (.tmp 12)
    .skip
    (.exit 0)) (.seq (.block 1 (.seq (.region [
      ⟨(some 13), .indexSl 1 (.tmp 9) (.tmp 11), none, [], false⟩,
      ⟨(some 14), .load none (.tmp 13), none, [], false⟩,
      ⟨(some 4), .mov (.tmp 14), none, [], false⟩]) (.seq (.region [
      ⟨(some 15), .mov (.tmp 0), none, [], false⟩,
      ⟨(some 16), .nilCheck (.tmp 15), none, [], false⟩,
      ⟨(some 17), .fieldAddr 1 (.tmp 16), none, [], false⟩,
      ⟨(some 18), .load none (.tmp 17), none, [], false⟩,
      ⟨(some 19), .mov (.tmp 4), none, [], false⟩,
      ⟨(some 20), .lookup (.int .i64) (.pointer none) false (.tmp 18) (.tmp 19), none, [], false⟩,
      ⟨(some 5), .mov (.tmp 20), none, [], false⟩]) (.regionD [
      ⟨(some 21), .mov (.tmp 2), none, [], false⟩,
      ⟨(some 22), .mov (.tmp 4), none, [], false⟩,
      ⟨(some 23), .mov (.tmp 5), none, [], false⟩,
      ⟨(some 24), .nilCheck (.tmp 23), none, [], false⟩,
      ⟨(some 25), .fieldAddr 166 (.tmp 24), none, [], false⟩,
      ⟨(some 26), .load none (.tmp 25), none, [], false⟩,
      ⟨(some 27), .mov (.tmp 5), none, [], false⟩,
      ⟨(some 28), .nilCheck (.tmp 27), none, [], false⟩,
      ⟨(some 29), .fieldAddr 167 (.tmp 28), none, [], false⟩,
      ⟨(some 30), .load none (.tmp 29), none, [], false⟩,
      ⟨(some 31), .build [(.int .i64 0), (.bool false), (.bool false)] [(0, 1, (.tmp 22)), (1, 1, (.tmp 26)), (2, 1, (.tmp 30))], none, [], false⟩,
      ⟨(some 32), .buildSlice 47 [(.int .i64 0), (.bool false), (.bool false)] 1 [(0, 3, (.tmp 31))], none, [((some 21), .mov (.tmp 2), none)], false⟩,
      ⟨(some 33), .append 47 3 16 [(.int .i64 0), (.bool false), (.bool false)] false (.tmp 21) (.tmp 32), none, [], true⟩,
      ⟨(some 2), .mov (.tmp 33), none, [], true⟩])))) (.region [
      ⟨(some 34), .bin .add (so (.binOp .add 3 (.tmp 11) (.const (.int .i64 1)) 3) 3) (.tmp 11) (.const (.int .i64 1)), none, [], false⟩,
      ⟨(some 11), .mov (.tmp 34), none, [], false⟩]))))
def zkbQ_c : ACode :=
  (.seq (.region [
      ⟨(some 2), .mov (.const (.slice none 0 0)), none, [], false⟩]) (.seq (.seq (.region [
      ⟨(some 6), .mov (.tmp 0), none, [], false⟩,
      ⟨(some 7), .callV (.func 37) [(.tmp 6)], none, [], false⟩]) (.cond (.tmp 7)
    (.seq (.region [
      ⟨(some 2), .mov (.const (.slice none 0 0)), none, [], false⟩]) .ret)
    .skip)) (.seq (.seq (.region [
      ⟨(some 8), .mov (.tmp 0), none, [], false⟩,
      ⟨(some 9), .callV (.func 38) [(.tmp 8)], none, [], false⟩,
      ⟨(some 10), .lenSl (.tmp 9), none, [], false⟩,
      ⟨(some 11), .mov (.const (.int .i64 0)), none, [], false⟩]) (.block 0 (.loop zkbQ_l0))) (.seq (.region [
      ⟨(some 35), .mov (.tmp 2), none, [], false⟩,
      ⟨(some 2), .mov (.tmp 35), none, [], false⟩]) .ret))))
def zkbQ : AFunc := ⟨36, [(2, none)], zkbQ_c, none⟩
theorem zkbQ_t0 : tableOf Try.prog 17 = some zkbQ := by kernel_rfl
theorem zkbQ_t : T0 17 = some zkbQ := withKept_t rfl (withTrue_t rfl zkbQ_t0)
abbrev fn_zobQ : FuncId := 18
def zobQ_c : ACode :=
  (.seq (.region [
      ⟨(some 4), .mov (.const (.int .i64 0)), none, [], false⟩]) (.seq (.region [
      ⟨(some 5), .mov (.tmp 0), none, [], false⟩,
      ⟨(some 6), .mov (.tmp 1), none, [], false⟩,
      ⟨(some 7), .callV (.func 41) [(.tmp 5), (.tmp 6), (.func 45)], none, [], false⟩,
      ⟨(some 4), .mov (.tmp 7), none, [], false⟩]) .ret))
def zobQ : AFunc := ⟨8, [(4, none)], zobQ_c, none⟩
theorem zobQ_t0 : tableOf Try.prog 18 = some zobQ := by kernel_rfl
theorem zobQ_t : T0 18 = some zobQ := withKept_t rfl (withTrue_t rfl zobQ_t0)
abbrev fn_znbQ : FuncId := 21
def znbQ_c : ACode :=
  (.seq (.region [
      ⟨(some 3), .box 36 (.tmp 1), none, [], false⟩,
      ⟨(some 4), .mov (.const (.int .i64 0)), none, [], false⟩,
      ⟨(some 5), .mov (.const (.int .i64 0)), none, [], false⟩]) (.seq (.seq (.region [
      ⟨(some 10), .mov (.tmp 0), none, [], false⟩,
      ⟨(some 11), .callV (.func 37) [(.tmp 10)], none, [], false⟩]) (.cond (.tmp 11)
    (.seq (.region [
      ⟨(some 4), .mov (.const (.int .i64 0)), none, [], false⟩,
      ⟨(some 5), .mov (.const (.int .i64 1)), none, [], false⟩]) .ret)
    .skip)) (.seq (.regionD [
      ⟨(some 13), .mov (.tmp 0), none, [], false⟩,
      ⟨(some 14), .nilCheck (.tmp 13), none, [], false⟩,
      ⟨(some 15), .fieldAddr 1 (.tmp 14), none, [], false⟩,
      ⟨(some 16), .load none (.tmp 15), none, [], false⟩,
      ⟨(some 17), .fieldAddr 0 (.tmp 3), none, [], false⟩,
      ⟨(some 18), .fieldAddr 1 (.tmp 17), none, [], false⟩,
      ⟨(some 19), .load none (.tmp 18), none, [], false⟩,
      ⟨(some 20), .lookup (.int .i64) (.pointer none) true (.tmp 16) (.tmp 19), none, [], true⟩,
      ⟨(some 12), .mov (.tmp 20), none, [], true⟩,
      ⟨(some 21), .extract 0 (.tmp 12), none, [], false⟩,
      ⟨(some 22), .extract 1 (.tmp 12), none, [], false⟩,
      ⟨(some 6), .mov (.tmp 21), none, [], false⟩,
      ⟨(some 7), .mov (.tmp 22), none, [], true⟩]) (.seq (.block 0 (.seq (.region [
      ⟨(some 24), .fieldAddr 0 (.tmp 3), none, [], false⟩,
      ⟨(some 25), .fieldAddr 1 (.tmp 24), none, [], false⟩,
      ⟨(some 26), .load none (.tmp 25), none, [], false⟩,
      ⟨(some 27), .bin .lss (so (.binOp .lss 3 (.tmp 26) (.const (.int .i64 1)) 3) 4) (.tmp 26) (.const (.int .i64 1)), none, [], false⟩,
      ⟨(some 28), .mov (.tmp 27), none, [], false⟩,
      ⟨(some 29), .fieldAddr 0 (.tmp 3), (some (28, false)), [], false⟩,
      ⟨(some 30), .fieldAddr 1 (.tmp 29), (some (28, false)), [], false⟩,
      ⟨(some 31), .load none (.tmp 30), (some (28, false)), [], false⟩,
      ⟨(some 32), .bin .gtr (so (.binOp .gtr 3 (.tmp 31) (.const (.int .i64 1073741824)) 3) 4) (.tmp 31) (.const (.int .i64 1073741824)), (some (28, false)), [], false⟩,
      ⟨(some 33), .pick (.tmp 28) (.const (.bool true)) (.tmp 32), none, [], false⟩,
      ⟨(some 23), .mov (.tmp 33), none, [], false⟩]) (.cond (.tmp 23)
    (.seq (.region [
      ⟨(some 4), .mov (.const (.int .i64 0)), none, [], false⟩,
      ⟨(some 5), .mov (.const (.int .i64 13)), none, [], false⟩]) .ret)
    (.seq (.region [
      ⟨(some 35), .mov (.tmp 7), none, [], false⟩,
      ⟨(some 34), .mov (.tmp 35), none, [], false⟩]) (.cond (.tmp 34)
    (.seq (.region [
      ⟨(some 4), .mov (.const (.int .i64 0)), none, [], false⟩,
      ⟨(some 5), .mov (.const (.int .i64 8)), none, [], false⟩]) .ret)
    .skip))))) (.seq (.region [
      ⟨(some 8), .mov (.const (.int .i64 0)), none, [], false⟩]) (.seq (.seq (.regionD [
      ⟨(some 36), .mov (.tmp 0), none, [], false⟩,
      ⟨(some 37), .nilCheck (.tmp 36), none, [], false⟩,
      ⟨(some 38), .fieldAddr 1 (.tmp 37), none, [], false⟩,
      ⟨(some 39), .load none (.tmp 38), none, [], false⟩,
      ⟨(some 40), .lenMap (.tmp 39), none, [], false⟩,
      ⟨(some 41), .mov (.tmp 0), none, [], false⟩,
      ⟨(some 42), .nilCheck (.tmp 41), none, [], false⟩,
      ⟨(some 43), .fieldAddr 0 (.tmp 42), none, [], false⟩,
      ⟨(some 44), .load none (.tmp 43), none, [], false⟩,
      ⟨(some 45), .bin .geq (so (.binOp .geq 3 (.tmp 40) (.tmp 44) 3) 4) (.tmp 40) (.tmp 44), none, [], true⟩]) (.cond (.tmp 45)
    (.seq (.region [
      ⟨(some 46), .mov (.tmp 0), none, [], false⟩,
      ⟨(some 47), .callV (.func 46) [(.tmp 46)], none, [], false⟩,
      ⟨(some 9), .mov (.tmp 47), none, [], false⟩]) (.seq (.seq (.region [
      ⟨(some 48), .mov (.tmp 9), none, [], false⟩,
      ⟨(some 49), .lenSl (.tmp 48), none, [], false⟩,
      ⟨(some 50), .bin .eql (so (.binOp .eql 3 (.tmp 49) (.const (.int .i64 0)) 3) 4) (.tmp 49) (.const (.int .i64 0)), none, [], false⟩]) (.cond (.tmp 50)
    (.seq (.region [
      ⟨(some 4), .mov (.const (.int .i64 0)), none, [], false⟩,
      ⟨(some 5), .mov (.const (.int .i64 7)), none, [], false⟩]) .ret)
    .skip)) (.seq (.region [
      ⟨(some 51), .mov (.tmp 9), none, [], false⟩,
      ⟨(some 52), .callV (.func 47) [(.tmp 51), (.func 48)], none, [], false⟩,
      ⟨(some 53), .nilCheck (.tmp 52), none, [], false⟩,
      ⟨(some 54), .fieldAddr 0 (.tmp 53), none, [], false⟩,
      ⟨(some 55), .fieldAddr 0 (.tmp 54), none, [], false⟩,
      ⟨(some 56), .fieldAddr 1 (.tmp 55), none, [], false⟩,
      ⟨(some 57), .load none (.tmp 56), none, [], false⟩,
      ⟨(some 8), .mov (.tmp 57), none, [], false⟩]) (.region [
      ⟨(some 58), .mov (.tmp 0), none, [], false⟩,
      ⟨(some 59), .nilCheck (.tmp 58), none, [], false⟩,
      ⟨(some 60), .fieldAddr 1 (.tmp 59), none, [], false⟩,
      ⟨(some 61), .load none (.tmp 60), none, [], false⟩,
      ⟨(some 62), .mov (.tmp 8), none, [], false⟩,
      ⟨none, .delete (.int .i64) (.tmp 61) (.tmp 62), none, [], false⟩]))))
    .skip)) (.seq (.regionD [
      ⟨(some 63), .mov (.tmp 0), none, [], false⟩,
      ⟨(some 64), .nilCheck (.tmp 63), none, [], false⟩,
      ⟨(some 65), .fieldAddr 1 (.tmp 64), none, [], false⟩,
      ⟨(some 66), .load none (.tmp 65), none, [], false⟩,
      ⟨(some 67), .fieldAddr 0 (.tmp 3), none, [], false⟩,
      ⟨(some 68), .fieldAddr 1 (.tmp 67), none, [], false⟩,
      ⟨(some 69), .load none (.tmp 68), none, [], false⟩,
      ⟨(some 70), .load (some 166) (.tmp 3), none, [], false⟩,
      ⟨(some 71), .callV (.func 39) [(.tmp 70)], none, [((some 69), .load none (.tmp 68), none), ((some 68), .fieldAddr 1 (.tmp 67), none), ((some 67), .fieldAddr 0 (.tmp 3), none), ((some 66), .load none (.tmp 65), none), ((some 65), .fieldAddr 1 (.tmp 64), none), ((some 64), .nilCheck (.tmp 63), none), ((some 63), .mov (.tmp 0), none)], false⟩,
      ⟨(some 72), .build ((.string ⟨⟨[]⟩⟩) :: ((.int .i64 0) :: ((.int .i64 0) :: (z32 ++ (z32 ++ (z32 ++ (z32 ++ ((.int .i64 0) :: (z32 ++ [(.slice none 0 0), (.slice none 0 0), (.bool false), (.bool false)]))))))))) [(0, 166, (.tmp 71))], none, [], false⟩,
      ⟨(some 73), .box 82 (.tmp 72), none, [((some 69), .load none (.tmp 68), none), ((some 68), .fieldAddr 1 (.tmp 67), none), ((some 67), .fieldAddr 0 (.tmp 3), none), ((some 66), .load none (.tmp 65), none), ((some 65), .fieldAddr 1 (.tmp 64), none), ((some 64), .nilCheck (.tmp 63), none), ((some 63), .mov (.tmp 0), none)], false⟩,
      ⟨none, .mapUpdate (.int .i64) (.tmp 66) (.tmp 69) (.tmp 73), none, [], true⟩]) (.seq (.region [
      ⟨(some 74), .mov (.tmp 8), none, [], false⟩,
      ⟨(some 4), .mov (.tmp 74), none, [], false⟩,
      ⟨(some 5), .mov (.const (.int .i64 0)), none, [], false⟩]) .ret))))))))
def znbQ : AFunc := ⟨75, [(4, none), (5, none)], znbQ_c, none⟩
theorem znbQ_t0 : tableOf Try.prog 21 = some znbQ := by kernel_rfl
theorem znbQ_t : T0 21 = some znbQ := withKept_t rfl (withTrue_t rfl znbQ_t0)
abbrev fn_zrbQ : FuncId := 37
def zrbQ_c : ACode :=
  (.seq (.region [
      ⟨(some 2), .mov (.const (.bool false)), none, [], false⟩]) (.seq (.region [
      ⟨(some 3), .mov (.tmp 0), none, [], false⟩,
      ⟨(some 4), .eq .ptr false (so (.binOp .eql 22 (.tmp 3) (.const (.pointer none)) 22) 4) (.tmp 3) (.const (.pointer none)), none, [], false⟩,
      ⟨(some 5), .mov (.tmp 4), none, [], false⟩,
      ⟨(some 6), .mov (.tmp 0), (some (5, false)), [], false⟩,
      ⟨(some 7), .nilCheck (.tmp 6), (some (5, false)), [], false⟩,
      ⟨(some 8), .fieldAddr 1 (.tmp 7), (some (5, false)), [], false⟩,
      ⟨(some 9), .load none (.tmp 8), (some (5, false)), [], false⟩,
      ⟨(some 10), .eq .map false (so (.binOp .eql 73 (.tmp 9) (.const (.map none)) 73) 4) (.tmp 9) (.const (.map none)), (some (5, false)), [], false⟩,
      ⟨(some 11), .pick (.tmp 5) (.const (.bool true)) (.tmp 10), none, [], false⟩,
      ⟨(some 2), .mov (.tmp 11), none, [], false⟩]) .ret))
def zrbQ : AFunc := ⟨12, [(2, none)], zrbQ_c, none⟩
theorem zrbQ_t0 : tableOf Try.prog 37 = some zrbQ := by kernel_rfl
theorem zrbQ_t : T0 37 = some zrbQ := withKept_t rfl (withTrue_t rfl zrbQ_t0)
abbrev fn_zsbQ : FuncId := 38
def zsbQ_l0 : ACode :=
  (.seq (.seq (.region [
      ⟨(some 14), .load none (.tmp 3), none, [], false⟩,
      ⟨(some 15), .callV (.func 61) [(.tmp 14)], none, [], false⟩,
      ⟨(some 16), .bin .gtr (so (.binOp .gtr 3 (.tmp 15) (.const (.int .i64 0)) 3) 4) (.tmp 15) (.const (.int .i64 0)), none, [], false⟩]) (.cond (.tmp 16)
    .skip
    (.exit 0))) (.block 1 (.seq (.region [
      ⟨(some 18), .mkIface 107 (.tmp 3), none, [], false⟩,
      ⟨(some 19), .callV (.func 62) [(.tmp 18)], none, [], false⟩,
      ⟨(some 20), .assertTo 3 (.int .i64 0) true (.tmp 19), none, [], false⟩,
      ⟨(some 17), .mov (.tmp 20), none, [], false⟩,
      ⟨(some 21), .extract 0 (.tmp 17), none, [], false⟩,
      ⟨(some 22), .extract 1 (.tmp 17), none, [], false⟩,
      ⟨(some 4), .mov (.tmp 21), none, [], false⟩,
      ⟨(some 5), .mov (.tmp 22), none, [], false⟩]) (.seq (.region [
      ⟨(some 23), .mov (.tmp 5), none, [], false⟩]) (.cond (.tmp 23)
    (.region [
      ⟨(some 24), .mov (.tmp 2), none, [], false⟩,
      ⟨(some 25), .mov (.tmp 4), none, [], false⟩,
      ⟨(some 26), .buildSlice 3 [(.int .i64 0)] 1 [(0, 1, (.tmp 25))], none, [], false⟩,
      ⟨(some 27), .append 3 1 8 [(.int .i64 0)] false (.tmp 24) (.tmp 26), none, [], false⟩,
      ⟨(some 2), .mov (.tmp 27), none, [], false⟩])
    .skip)))))
def zsbQ_c : ACode :=
  (.seq (.region [
      ⟨(some 2), .mov (.const (.slice none 0 0)), none, [], false⟩]) (.seq (.region [
      ⟨(some 6), .mov (.tmp 0), none, [], false⟩,
      ⟨(some 7), .nilCheck (.tmp 6), none, [], false⟩,
      ⟨(some 8), .fieldAddr 1 (.tmp 7), none, [], false⟩,
      ⟨(some 9), .load none (.tmp 8), none, [], false⟩,
      ⟨(some 10), .callV (.func 59) [(.tmp 9)], none, [], false⟩,
      ⟨(some 11), .callV (.func 58) [(.tmp 10)], none, [], false⟩,
      ⟨(some 3), .alloc 101 [(.slice none 0 0)], none, [], false⟩,
      ⟨none, .store 1 (.tmp 3) (.tmp 11), none, [], false⟩]) (.seq (.region [
      ⟨(some 12), .mkIface 107 (.tmp 3), none, [], false⟩,
      ⟨(some 13), .callV (.func 60) [(.tmp 12)], none, [], false⟩]) (.seq (.block 0 (.loop zsbQ_l0)) (.seq (.region [
      ⟨(some 28), .mov (.tmp 2), none, [], false⟩,
      ⟨(some 2), .mov (.tmp 28), none, [], false⟩]) .ret)))))
def zsbQ : AFunc := ⟨29, [(2, none)], zsbQ_c, none⟩
theorem zsbQ_t0 : tableOf Try.prog 38 = some zsbQ := by kernel_rfl
theorem zsbQ_t : T0 38 = some zsbQ := withKept_t rfl (withTrue_t rfl zsbQ_t0)
abbrev fn_zacQ : FuncId := 39
def zacQ_c : ACode :=
  (.seq (.region [
      ⟨(some 1), .box 36 (.tmp 0), none, [], false⟩,
      ⟨(some 2), .alloc 36 ((.string ⟨⟨[]⟩⟩) :: ((.int .i64 0) :: ((.int .i64 0) :: (z32 ++ (z32 ++ (z32 ++ (z32 ++ ((.int .i64 0) :: (z32 ++ [(.slice none 0 0), (.slice none 0 0)]))))))))), none, [], false⟩]) (.seq (.regionD [
      ⟨(some 3), .fieldAddr 165 (.tmp 1), none, [], false⟩,
      ⟨(some 4), .load none (.tmp 3), none, [], false⟩,
      ⟨(some 6), .fieldAddr 131 (.tmp 1), none, [], false⟩,
      ⟨(some 7), .fieldAddr 33 (.tmp 6), none, [], false⟩,
      ⟨(some 8), .load none (.tmp 7), none, [], false⟩,
      ⟨(some 5), .callV (.func 63) [(.tmp 4)], none, [((some 8), .load none (.tmp 7), none), ((some 7), .fieldAddr 33 (.tmp 6), none), ((some 6), .fieldAddr 131 (.tmp 1), none)], false⟩,
      ⟨(some 10), .fieldAddr 165 (.tmp 1), none, [], false⟩,
      ⟨(some 9), .callV (.func 64) [(.tmp 8)], none, [((some 10), .fieldAddr 165 (.tmp 1), none)], false⟩,
      ⟨none, .store 1 (.tmp 10) (.tmp 5), none, [], true⟩,
      ⟨(some 11), .fieldAddr 131 (.tmp 1), none, [], true⟩,
      ⟨(some 12), .fieldAddr 33 (.tmp 11), none, [], true⟩,
      ⟨none, .store 1 (.tmp 12) (.tmp 9), none, [], true⟩]) (.seq (.region [
      ⟨(some 13), .load (some 166) (.tmp 1), none, [], false⟩,
      ⟨none, .store 166 (.tmp 2) (.tmp 13), none, [], false⟩]) .ret)))
def zacQ : AFunc := ⟨14, [(2, some (some 166))], zacQ_c, none⟩
theorem zacQ_t0 : tableOf Try.prog 39 = some zacQ := by kernel_rfl
theorem zacQ_t : T0 39 = some zacQ := withKept_t rfl (withTrue_t rfl zacQ_t0)
def ztQ_c : ACode :=
  (.seq (.region [
      ⟨(some 2), .alloc 36 ((.string ⟨⟨[]⟩⟩) :: ((.int .i64 0) :: ((.int .i64 0) :: (z32 ++ (z32 ++ (z32 ++ (z32 ++ ((.int .i64 0) :: (z32 ++ [(.slice none 0 0), (.slice none 0 0)]))))))))), none, [], false⟩]) (.seq (.region [
      ⟨(some 3), .mov (.tmp 0), none, [], false⟩,
      ⟨(some 4), .build ((.string ⟨⟨[]⟩⟩) :: ((.int .i64 0) :: ((.int .i64 0) :: (z32 ++ (z32 ++ (z32 ++ z32)))))) [(1, 1, (.tmp 3))], none, [], false⟩,
      ⟨(some 5), .build ((.string ⟨⟨[]⟩⟩) :: ((.int .i64 0) :: ((.int .i64 0) :: (z32 ++ (z32 ++ (z32 ++ (z32 ++ ((.int .i64 0) :: (z32 ++ [(.slice none 0 0), (.slice none 0 0)]))))))))) [(0, 131, (.tmp 4))], none, [], false⟩,
      ⟨none, .store 166 (.tmp 2) (.tmp 5), none, [], false⟩]) .ret))
def ztQ : AFunc := ⟨6, [(2, some (some 166))], ztQ_c, none⟩
theorem ztQ_t0 : tableOf Try.prog 40 = some ztQ := by kernel_rfl
abbrev fn_ztbQ : FuncId := 41
def ztbQ_c : ACode :=
  (.seq (.region [
      ⟨(some 6), .mov (.const (.int .i64 0)), none, [], false⟩]) (.seq (.seq (.region [
      ⟨(some 9), .mov (.tmp 0), none, [], false⟩,
      ⟨(some 10), .callV (.func 37) [(.tmp 9)], none, [], false⟩]) (.cond (.tmp 10)
    (.seq (.region [
      ⟨(some 6), .mov (.const (.int .i64 1)), none, [], false⟩]) .ret)
    .skip)) (.seq (.region [
      ⟨(some 12), .mov (.tmp 0), none, [], false⟩,
      ⟨(some 13), .nilCheck (.tmp 12), none, [], false⟩,
      ⟨(some 14), .fieldAddr 1 (.tmp 13), none, [], false⟩,
      ⟨(some 15), .load none (.tmp 14), none, [], false⟩,
      ⟨(some 16), .mov (.tmp 1), none, [], false⟩,
      ⟨(some 17), .lookup (.int .i64) (.pointer none) true (.tmp 15) (.tmp 16), none, [], false⟩,
      ⟨(some 11), .mov (.tmp 17), none, [], false⟩,
      ⟨(some 18), .extract 0 (.tmp 11), none, [], false⟩,
      ⟨(some 19), .extract 1 (.tmp 11), none, [], false⟩,
      ⟨(some 7), .mov (.tmp 18), none, [], false⟩,
      ⟨(some 8), .mov (.tmp 19), none, [], false⟩]) (.seq (.seq (.region [
      ⟨(some 20), .mov (.tmp 8), none, [], false⟩,
      ⟨(some 21), .raw (so (.unOp .not 4 (.tmp 20)) 4), none, [], false⟩]) (.cond (.tmp 21)
    (.seq (.region [
      ⟨(some 6), .mov (.const (.int .i64 10)), none, [], false⟩]) .ret)
    .skip)) (.seq (.region [
      ⟨(some 22), .mov (.tmp 2), none, [], false⟩,
      ⟨(some 23), .mov (.tmp 7), none, [], false⟩,
      ⟨(some 24), .callV (.tmp 22) [(.tmp 23)], none, [], false⟩]) (.seq (.region [
      ⟨(some 6), .mov (.const (.int .i64 0)), none, [], false⟩]) .ret))))))
def ztbQ : AFunc := ⟨25, [(6, none)], ztbQ_c, none⟩
theorem ztbQ_t0 : tableOf Try.prog 41 = some ztbQ := by kernel_rfl
theorem ztbQ_t : T0 41 = some ztbQ := withKept_t rfl (withTrue_t rfl ztbQ_t0)
abbrev fn_zmbQ : FuncId := 42
def zmbQ_c : ACode :=
  (.region [
      ⟨(some 3), .mov (.tmp 0), none, [], false⟩,
      ⟨(some 4), .load none (.tmp 1), none, [], false⟩,
      ⟨(some 5), .nilCheck (.tmp 3), none, [], false⟩,
      ⟨(some 6), .fieldAddr 167 (.tmp 5), none, [], false⟩,
      ⟨none, .store 1 (.tmp 6) (.tmp 4), none, [], false⟩])
def zmbQ : AFunc := ⟨7, [], zmbQ_c, none⟩
theorem zmbQ_t0 : tableOf Try.prog 42 = some zmbQ := by kernel_rfl
theorem zmbQ_t : T0 42 = some zmbQ := withKept_t rfl (withTrue_t rfl zmbQ_t0)
abbrev fn_zvQ : FuncId := 43
def zvQ_l0 : ACode :=
  (.seq (.region [
      ⟨(some 8), .nextMap (.tmp 7), none, [], false⟩,
      ⟨(some 9), .extract 0 (.tmp 8), none, [], false⟩]) (.seq (.cond (.tmp 9)
    .skip
    (.exit 0)) (.block 1 (.seq (.region [
      ⟨(some 10), .entryMap (.tmp 7), none, [], false⟩,
      ⟨(some 11), .extract 0 (.tmp 10), none, [], false⟩,
      ⟨(some 12), .extract 1 (.tmp 10), none, [], false⟩,
      ⟨(some 4), .mov (.tmp 11), none, [], false⟩,
      ⟨(some 5), .mov (.tmp 12), none, [], false⟩]) (.seq (.region [
      ⟨(some 13), .mov (.tmp 1), none, [], false⟩,
      ⟨(some 14), .mov (.tmp 4), none, [], false⟩,
      ⟨(some 15), .mov (.tmp 5), none, [], false⟩,
      ⟨(some 16), .callV (.tmp 13) [(.tmp 14), (.tmp 15)], none, [], false⟩]) (.cond (.tmp 16)
    (.region [
      ⟨(some 17), .mov (.tmp 0), none, [], false⟩,
      ⟨(some 18), .mov (.tmp 4), none, [], false⟩,
      ⟨none, .delete (.int .i64) (.tmp 17) (.tmp 18), none, [], false⟩])
    .skip))))))
def zvQ_c : ACode :=
  (.seq (.region [
      ⟨(some 6), .mov (.tmp 0), none, [], false⟩,
      ⟨(some 7), .rangeMap (.tmp 6), none, [], false⟩]) (.block 0 (.loop zvQ_l0)))
def zvQ : AFunc := ⟨19, [], zvQ_c, none⟩
theorem zvQ_t0 : tableOf Try.prog 43 = some zvQ := by kernel_rfl
theorem zvQ_t : T0 43 = some zvQ := withKept_t rfl (withTrue_t rfl zvQ_t0)
abbrev fn_zibQ : FuncId := 44
def zibQ_c : ACode :=
  (.seq (.region [
      ⟨(some 5), .mov (.const (.bool false)), none, [], false⟩]) (.seq (.region [
      ⟨(some 6), .mov (.tmp 0), none, [], false⟩,
      ⟨(some 7), .load none (.tmp 2), none, [], false⟩,
      ⟨(some 8), .bin .neq (so (.binOp .neq 3 (.tmp 6) (.tmp 7) 3) 4) (.tmp 6) (.tmp 7), none, [], false⟩,
      ⟨(some 5), .mov (.tmp 8), none, [], false⟩]) .ret))
def zibQ : AFunc := ⟨9, [(5, none)], zibQ_c, none⟩
theorem zibQ_t0 : tableOf Try.prog 44 = some zibQ := by kernel_rfl
theorem zibQ_t : T0 44 = some zibQ := withKept_t rfl (withTrue_t rfl zibQ_t0)
abbrev fn_zpbQ : FuncId := 45
def zpbQ_c : ACode :=
  (.region [
      ⟨(some 2), .mov (.tmp 0), none, [], false⟩,
      ⟨(some 3), .nilCheck (.tmp 2), none, [], false⟩,
      ⟨(some 4), .fieldAddr 166 (.tmp 3), none, [], false⟩,
      ⟨none, .store 1 (.tmp 4) (.const (.bool true)), none, [], false⟩])
def zpbQ : AFunc := ⟨5, [], zpbQ_c, none⟩
theorem zpbQ_t0 : tableOf Try.prog 45 = some zpbQ := by kernel_rfl
theorem zpbQ_t : T0 45 = some zpbQ := withKept_t rfl (withTrue_t rfl zpbQ_t0)
abbrev fn_zqbQ : FuncId := 46
def zqbQ_ra0 : Code := (rangeParts (subCode ((Try.prog.funcs[46]?).bind (·.body)) [true, false, true, false])).1
def zqbQ_rb0 : Code := (rangeParts (subCode ((Try.prog.funcs[46]?).bind (·.body)) [true, false, true, false])).2
def zqbQ_a0 : ACode :=
  (.region [
      ⟨(some 3), .mov (.tmp 9), none, [], false⟩])
def zqbQ_b0 : ACode :=
  (.block 1 (.seq (.region [
      ⟨(some 10), .mov (.tmp 3), none, [], false⟩,
      ⟨(some 11), .nilCheck (.tmp 10), none, [], false⟩,
      ⟨(some 12), .fieldAddr 167 (.tmp 11), none, [], false⟩,
      ⟨(some 13), .load none (.tmp 12), none, [], false⟩,
      ⟨(some 14), .raw (so (.unOp .not 4 (.tmp 13)) 4), none, [], false⟩]) (.cond (.tmp 14)
    (.region [
      ⟨(some 15), .load none (.tmp 2), none, [], false⟩,
      ⟨(some 16), .mov (.tmp 3), none, [], false⟩,
      ⟨(some 17), .buildSlice 80 [(.pointer none)] 1 [(0, 1, (.tmp 16))], none, [], false⟩,
      ⟨(some 18), .append 80 1 8 [(.pointer none)] false (.tmp 15) (.tmp 17), none, [], false⟩,
      ⟨none, .store 1 (.tmp 2) (.tmp 18), none, [], false⟩])
    .skip)))
theorem zqbQ_ca0 : comp Try.prog zqbQ_ra0 = some zqbQ_a0 := by kernel_rfl
theorem zqbQ_cb0 : comp Try.prog zqbQ_rb0 = some zqbQ_b0 := by kernel_rfl
theorem zqbQ_na0 : noDefer zqbQ_ra0 = true := by kernel_rfl
theorem zqbQ_nb0 : noDefer zqbQ_rb0 = true := by kernel_rfl
def zqbQ_c : ACode :=
  (.seq (.region [
      ⟨(some 2), .alloc 89 [(.slice none 0 0)], none, [], false⟩]) (.seq (.seq (.region [
      ⟨(some 4), .mov (.tmp 0), none, [], false⟩,
      ⟨(some 5), .nilCheck (.tmp 4), none, [], false⟩,
      ⟨(some 6), .fieldAddr 1 (.tmp 5), none, [], false⟩,
      ⟨(some 7), .load none (.tmp 6), none, [], false⟩,
      ⟨(some 8), .callV (.func 65) [(.tmp 7)], none, [], false⟩]) (.block 0 (.rangeFunc (.tmp 8) [9] zqbQ_ra0 zqbQ_rb0))) (.seq (.region [
      ⟨(some 19), .load none (.tmp 2), none, [], false⟩,
      ⟨none, .store 1 (.tmp 2) (.tmp 19), none, [], false⟩]) .ret)))
def zqbQ : AFunc := ⟨20, [(2, some none)], zqbQ_c, none⟩
theorem zqbQ_t0 : tableOf Try.prog 46 = some zqbQ := by kernel_rfl
theorem zqbQ_t : T0 46 = some zqbQ := withKept_t rfl (withTrue_t rfl zqbQ_t0)
abbrev fn_zebQ : FuncId := 47
def zebQ_l0 : ACode :=
  (.seq (.seq (.region [
      ⟨(some 14), .mov (.tmp 6), none, [], false⟩,
      ⟨(some 15), .mov (.tmp 0), none, [], false⟩,
      ⟨(some 16), .lenSl (.tmp 15), none, [], false⟩,
      ⟨(some 17), .bin .lss (so (.binOp .lss 3 (.tmp 14) (.tmp 16) 3) 4) (.tmp 14) (.tmp 16), none, [], false⟩]) (.cond (.tmp 17)
    .skip
    (.exit 0))) (.seq (.block 1 (.seq (.region [
      ⟨(some 20), .mov (.tmp 1), none, [], false⟩,
      ⟨(some 21), .mov (.tmp 0), none, [], false⟩,
      ⟨(some 22), .mov (.tmp 6), none, [], false⟩,
      ⟨(some 23), .indexSl 1 (.tmp 21) (.tmp 22), none, [], false⟩,
      ⟨(some 24), .load none (.tmp 23), none, [], false⟩,
      ⟨(some 25), .mov (.tmp 5), none, [], false⟩,
      ⟨(some 26), .callV (.tmp 20) [(.tmp 24), (.tmp 25)], none, [], false⟩,
      ⟨(some 27), .bin .lss (so (.binOp .lss 3 (.tmp 26) (.const (.int .i64 0)) 3) 4) (.tmp 26) (.const (.int .i64 0)), none, [], false⟩]) (.cond (.tmp 27)
    (.region [
      ⟨(some 28), .mov (.tmp 0), none, [], false⟩,
      ⟨(some 29), .mov (.tmp 6), none, [], false⟩,
      ⟨(some 30), .indexSl 1 (.tmp 28) (.tmp 29), none, [], false⟩,
      ⟨(some 31), .load none (.tmp 30), none, [], false⟩,
      ⟨(some 5), .mov (.tmp 31), none, [], false⟩])
    .skip))) (.region [
      ⟨(some 18), .mov (.tmp 6), none, [], false⟩,
      ⟨(some 19), .bin .add (so (.binOp .add 3 (.tmp 18) (.const (.int .i64 1)) 3) 3) (.tmp 18) (.const (.int .i64 1)), none, [], false⟩,
      ⟨(some 6), .mov (.tmp 19), none, [], false⟩])))
def zebQ_c : ACode :=
  (.seq (.region [
      ⟨(some 4), .mov (.const (.pointer none)), none, [], false⟩]) (.seq (.seq (.region [
      ⟨(some 7), .mov (.tmp 0), none, [], false⟩,
      ⟨(some 8), .lenSl (.tmp 7), none, [], false⟩,
      ⟨(some 9), .bin .lss (so (.binOp .lss 3 (.tmp 8) (.const (.int .i64 1)) 3) 4) (.tmp 8) (.const (.int .i64 1)), none, [], false⟩]) (.cond (.tmp 9)
    (.region [
      ⟨(some 10), .mkIface 9 (.const (.string ⟨⟨[115, 108, 105, 99, 101, 115, 46, 77, 105, 110, 70, 117, 110, 99, 58, 32, 101, 109, 112, 116, 121, 32, 108, 105, 115, 116]⟩⟩)), none, [], false⟩,
      ⟨none, .panic (.tmp 10), none, [], false⟩])
    .skip)) (.seq (.region [
      ⟨(some 11), .mov (.tmp 0), none, [], false⟩,
      ⟨(some 12), .indexSl 1 (.tmp 11) (.const (.int .i64 0)), none, [], false⟩,
      ⟨(some 13), .load none (.tmp 12), none, [], false⟩,
      ⟨(some 5), .mov (.tmp 13), none, [], false⟩]) (.seq (.seq (.region [
      ⟨(some 6), .mov (.const (.int .i64 1)), none, [], false⟩]) (.block 0 (.loop zebQ_l0))) (.seq (.region [
      ⟨(some 32), .mov (.tmp 5), none, [], false⟩,
      ⟨(some 4), .mov (.tmp 32), none, [], false⟩]) .ret)))))
def zebQ : AFunc := ⟨33, [(4, none)], zebQ_c, none⟩
theorem zebQ_t0 : tableOf Try.prog 47 = some zebQ := by kernel_rfl
theorem zebQ_t : T0 47 = some zebQ := withKept_t rfl (withTrue_t rfl zebQ_t0)
abbrev fn_zybQ : FuncId := 48
def zybQ_c : ACode :=
  (.seq (.region [
      ⟨(some 4), .mov (.const (.int .i64 0)), none, [], false⟩]) (.seq (.region [
      ⟨(some 5), .mov (.func 66), none, [], false⟩]) (.seq (.regionD [
      ⟨(some 6), .mov (.tmp 5), none, [], false⟩,
      ⟨(some 7), .mov (.tmp 0), none, [], false⟩,
      ⟨(some 9), .mov (.tmp 5), none, [], false⟩,
      ⟨(some 10), .mov (.tmp 1), none, [], false⟩,
      ⟨(some 13), .mov (.tmp 0), none, [], false⟩,
      ⟨(some 14), .nilCheck (.tmp 13), none, [], false⟩,
      ⟨(some 15), .fieldAddr 0 (.tmp 14), none, [], false⟩,
      ⟨(some 16), .fieldAddr 0 (.tmp 15), none, [], false⟩,
      ⟨(some 17), .fieldAddr 1 (.tmp 16), none, [], false⟩,
      ⟨(some 18), .load none (.tmp 17), none, [], false⟩,
      ⟨(some 19), .mov (.tmp 1), none, [], false⟩,
      ⟨(some 20), .nilCheck (.tmp 19), none, [], false⟩,
      ⟨(some 21), .fieldAddr 0 (.tmp 20), none, [], false⟩,
      ⟨(some 22), .fieldAddr 0 (.tmp 21), none, [], false⟩,
      ⟨(some 23), .fieldAddr 1 (.tmp 22), none, [], false⟩,
      ⟨(some 24), .load none (.tmp 23), none, [], false⟩,
      ⟨(some 8), .callV (.tmp 6) [(.tmp 7)], none, [((some 24), .load none (.tmp 23), none), ((some 23), .fieldAddr 1 (.tmp 22), none), ((some 22), .fieldAddr 0 (.tmp 21), none), ((some 21), .fieldAddr 0 (.tmp 20), none), ((some 20), .nilCheck (.tmp 19), none), ((some 19), .mov (.tmp 1), none), ((some 18), .load none (.tmp 17), none), ((some 17), .fieldAddr 1 (.tmp 16), none), ((some 16), .fieldAddr 0 (.tmp 15), none), ((some 15), .fieldAddr 0 (.tmp 14), none), ((some 14), .nilCheck (.tmp 13), none), ((some 13), .mov (.tmp 0), none), ((some 10), .mov (.tmp 1), none), ((some 9), .mov (.tmp 5), none)], false⟩,
      ⟨(some 11), .callV (.tmp 9) [(.tmp 10)], none, [((some 24), .load none (.tmp 23), none), ((some 23), .fieldAddr 1 (.tmp 22), none), ((some 22), .fieldAddr 0 (.tmp 21), none), ((some 21), .fieldAddr 0 (.tmp 20), none), ((some 20), .nilCheck (.tmp 19), none), ((some 19), .mov (.tmp 1), none), ((some 18), .load none (.tmp 17), none), ((some 17), .fieldAddr 1 (.tmp 16), none), ((some 16), .fieldAddr 0 (.tmp 15), none), ((some 15), .fieldAddr 0 (.tmp 14), none), ((some 14), .nilCheck (.tmp 13), none), ((some 13), .mov (.tmp 0), none)], false⟩,
      ⟨(some 12), .callV (.func 68) [(.tmp 8), (.tmp 11)], none, [((some 24), .load none (.tmp 23), none), ((some 23), .fieldAddr 1 (.tmp 22), none), ((some 22), .fieldAddr 0 (.tmp 21), none), ((some 21), .fieldAddr 0 (.tmp 20), none), ((some 20), .nilCheck (.tmp 19), none), ((some 19), .mov (.tmp 1), none), ((some 18), .load none (.tmp 17), none), ((some 17), .fieldAddr 1 (.tmp 16), none), ((some 16), .fieldAddr 0 (.tmp 15), none), ((some 15), .fieldAddr 0 (.tmp 14), none), ((some 14), .nilCheck (.tmp 13), none), ((some 13), .mov (.tmp 0), none)], false⟩,
      ⟨(some 25), .callV (.func 68) [(.tmp 18), (.tmp 24)], none, [], true⟩,
      ⟨(some 26), .buildSlice 3 [(.int .i64 0), (.int .i64 0)] 2 [(0, 1, (.tmp 12)), (1, 1, (.tmp 25))], none, [], true⟩,
      ⟨(some 27), .callV (.func 67) [(.tmp 26)], none, [], true⟩,
      ⟨(some 4), .mov (.tmp 27), none, [], true⟩]) .ret)))
def zybQ : AFunc := ⟨28, [(4, none)], zybQ_c, none⟩
theorem zybQ_t0 : tableOf Try.prog 48 = some zybQ := by kernel_rfl
theorem zybQ_t : T0 48 = some zybQ := withKept_t rfl (withTrue_t rfl zybQ_t0)
abbrev fn_zdbQ : FuncId := 58
def zdbQ_c : ACode :=
  (.seq (.region [
      ⟨(some 2), .mov (.const (.slice none 0 0)), none, [], false⟩]) (.seq (.region [
      ⟨(some 3), .mov (.tmp 0), none, [], false⟩,
      ⟨(some 4), .callV (.func 70) [(.const (.slice none 0 0)), (.tmp 3)], none, [], false⟩,
      ⟨(some 2), .mov (.tmp 4), none, [], false⟩]) .ret))
def zdbQ : AFunc := ⟨5, [(2, none)], zdbQ_c, none⟩
theorem zdbQ_t0 : tableOf Try.prog 58 = some zdbQ := by kernel_rfl
theorem zdbQ_t : T0 58 = some zdbQ := withKept_t rfl (withTrue_t rfl zdbQ_t0)
abbrev fn_zwQ : FuncId := 59
def zwQ_c : ACode :=
  (.seq (.region [
      ⟨(some 1), .box 73 (.tmp 0), none, [], false⟩,
      ⟨(some 2), .mov (.const .nilFunc), none, [], false⟩]) (.seq (.region [
      ⟨(some 3), .mkFunc (.func 71) [] [(.tmp 1)], none, [], false⟩,
      ⟨(some 2), .mov (.tmp 3), none, [], false⟩]) .ret))
def zwQ : AFunc := ⟨4, [(2, none)], zwQ_c, none⟩
theorem zwQ_t0 : tableOf Try.prog 59 = some zwQ := by kernel_rfl
theorem zwQ_t : T0 59 = some zwQ := withKept_t rfl (withTrue_t rfl zwQ_t0)
abbrev fn_zdQ : FuncId := 60
def zdQ_l0 : ACode :=
  (.seq (.seq (.region [
      ⟨(some 9), .mov (.tmp 3), none, [], false⟩,
      ⟨(some 10), .bin .geq (so (.binOp .geq 3 (.tmp 9) (.const (.int .i64 0)) 3) 4) (.tmp 9) (.const (.int .i64 0)), none, [], false⟩]) (.cond (.tmp 10)
    .skip
    (.exit 0))) (.seq (.block 1 (.region [
      ⟨(some 13), .mov (.tmp 0), none, [], false⟩,
      ⟨(some 14), .mov (.tmp 3), none, [], false⟩,
      ⟨(some 15), .mov (.tmp 2), none, [], false⟩,
      ⟨(some 16), .callV (.func 72) [(.tmp 13), (.tmp 14), (.tmp 15)], none, [], false⟩])) (.region [
      ⟨(some 11), .mov (.tmp 3), none, [], false⟩,
      ⟨(some 12), .bin .sub (so (.binOp .sub 3 (.tmp 11) (.const (.int .i64 1)) 3) 3) (.tmp 11) (.const (.int .i64 1)), none, [], false⟩,
      ⟨(some 3), .mov (.tmp 12), none, [], false⟩])))
def zdQ_c : ACode :=
  (.seq (.region [
      ⟨(some 4), .mov (.tmp 0), none, [], false⟩,
      ⟨(some 5), .invoke (.tmp 4) "Len" [], none, [], false⟩,
      ⟨(some 2), .mov (.tmp 5), none, [], false⟩]) (.seq (.region [
      ⟨(some 6), .mov (.tmp 2), none, [], false⟩,
      ⟨(some 7), .bin .quo (so (.binOp .quo 3 (.tmp 6) (.const (.int .i64 2)) 3) 3) (.tmp 6) (.const (.int .i64 2)), none, [], false⟩,
      ⟨(some 8), .bin .sub (so (.binOp .sub 3 (.tmp 7) (.const (.int .i64 1)) 3) 3) (.tmp 7) (.const (.int .i64 1)), none, [], false⟩,
      ⟨(some 3), .mov (.tmp 8), none, [], false⟩]) (.block 0 (.loop zdQ_l0))))
def zdQ : AFunc := ⟨17, [], zdQ_c, none⟩
theorem zdQ_t0 : tableOf Try.prog 60 = some zdQ := by kernel_rfl
theorem zdQ_t : T0 60 = some zdQ := withKept_t rfl (withTrue_t rfl zdQ_t0)
abbrev fn_zubQ : FuncId := 61
def zubQ_c : ACode :=
  (.seq (.region [
      ⟨(some 2), .mov (.const (.int .i64 0)), none, [], false⟩]) (.seq (.region [
      ⟨(some 3), .mov (.tmp 0), none, [], false⟩,
      ⟨(some 4), .lenSl (.tmp 3), none, [], false⟩,
      ⟨(some 2), .mov (.tmp 4), none, [], false⟩]) .ret))
def zubQ : AFunc := ⟨5, [(2, none)], zubQ_c, none⟩
theorem zubQ_t0 : tableOf Try.prog 61 = some zubQ := by kernel_rfl
theorem zubQ_t : T0 61 = some zubQ := withKept_t rfl (withTrue_t rfl zubQ_t0)
abbrev fn_zeQ : FuncId := 62
def zeQ_c : ACode :=
  (.seq (.region [
      ⟨(some 2), .mov (.const .nilIface), none, [], false⟩]) (.seq (.region [
      ⟨(some 4), .mov (.tmp 0), none, [], false⟩,
      ⟨(some 5), .invoke (.tmp 4) "Len" [], none, [], false⟩,
      ⟨(some 6), .bin .sub (so (.binOp .sub 3 (.tmp 5) (.const (.int .i64 1)) 3) 3) (.tmp 5) (.const (.int .i64 1)), none, [], false⟩,
      ⟨(some 3), .mov (.tmp 6), none, [], false⟩]) (.seq (.region [
      ⟨(some 7), .mov (.tmp 0), none, [], false⟩,
      ⟨(some 8), .mov (.tmp 3), none, [], false⟩,
      ⟨(some 9), .invoke (.tmp 7) "Swap" [(.const (.int .i64 0)), (.tmp 8)], none, [], false⟩]) (.seq (.region [
      ⟨(some 10), .mov (.tmp 0), none, [], false⟩,
      ⟨(some 11), .mov (.tmp 3), none, [], false⟩,
      ⟨(some 12), .callV (.func 72) [(.tmp 10), (.const (.int .i64 0)), (.tmp 11)], none, [], false⟩]) (.seq (.region [
      ⟨(some 13), .mov (.tmp 0), none, [], false⟩,
      ⟨(some 14), .invoke (.tmp 13) "Pop" [], none, [], false⟩,
      ⟨(some 2), .mov (.tmp 14), none, [], false⟩]) .ret)))))
def zeQ : AFunc := ⟨15, [(2, none)], zeQ_c, none⟩
theorem zeQ_t0 : tableOf Try.prog 62 = some zeQ := by kernel_rfl
theorem zeQ_t : T0 62 = some zeQ := withKept_t rfl (withTrue_t rfl zeQ_t0)
abbrev fn_zbbQ : FuncId := 63
def zbbQ_c : ACode :=
  (.seq (.region [
      ⟨(some 2), .mov (.const (.slice none 0 0)), none, [], false⟩]) (.seq (.seq (.region [
      ⟨(some 3), .mov (.tmp 0), none, [], false⟩,
      ⟨(some 4), .eq .slice false (so (.binOp .eql 34 (.tmp 3) (.const (.slice none 0 0)) 34) 4) (.tmp 3) (.const (.slice none 0 0)), none, [], false⟩]) (.cond (.tmp 4)
    (.seq (.region [
      ⟨(some 2), .mov (.const (.slice none 0 0)), none, [], false⟩]) .ret)
    .skip)) (.seq (.region [
      ⟨(some 5), .buildSlice 113 [] 0 [], none, [], false⟩,
      ⟨(some 6), .mov (.tmp 0), none, [], false⟩,
      ⟨(some 7), .append 113 5 16 [(.int .u8 0), (.int .u8 0), (.int .u8 0), (.int .u8 0), (.int .i64 0)] false (.tmp 5) (.tmp 6), none, [], false⟩,
      ⟨(some 2), .mov (.tmp 7), none, [], false⟩]) .ret)))
def zbbQ : AFunc := ⟨8, [(2, none)], zbbQ_c, none⟩
theorem zbbQ_t0 : tableOf Try.prog 63 = some zbbQ := by kernel_rfl
theorem zbbQ_t : T0 63 = some zbbQ := withKept_t rfl (withTrue_t rfl zbbQ_t0)
abbrev fn_zcbQ : FuncId := 64
def zcbQ_c : ACode :=
  (.seq (.region [
      ⟨(some 2), .mov (.const (.slice none 0 0)), none, [], false⟩]) (.seq (.seq (.region [
      ⟨(some 3), .mov (.tmp 0), none, [], false⟩,
      ⟨(some 4), .eq .slice false (so (.binOp .eql 31 (.tmp 3) (.const (.slice none 0 0)) 31) 4) (.tmp 3) (.const (.slice none 0 0)), none, [], false⟩]) (.cond (.tmp 4)
    (.seq (.region [
      ⟨(some 2), .mov (.const (.slice none 0 0)), none, [], false⟩]) .ret)
    .skip)) (.seq (.region [
      ⟨(some 5), .buildSlice 117 [] 0 [], none, [], false⟩,
      ⟨(some 6), .mov (.tmp 0), none, [], false⟩,
      ⟨(some 7), .append 117 2 16 [(.int .i64 0), (.int .u64 0)] false (.tmp 5) (.tmp 6), none, [], false⟩,
      ⟨(some 2), .mov (.tmp 7), none, [], false⟩]) .ret)))
def zcbQ : AFunc := ⟨8, [(2, none)], zcbQ_c, none⟩
theorem zcbQ_t0 : tableOf Try.prog 64 = some zcbQ := by kernel_rfl
theorem zcbQ_t : T0 64 = some zcbQ := withKept_t rfl (withTrue_t rfl zcbQ_t0)
abbrev fn_zyQ : FuncId := 65
def zyQ_c : ACode :=
  (.seq (.region [
      ⟨(some 1), .box 73 (.tmp 0), none, [], false⟩,
      ⟨(some 2), .mov (.const .nilFunc), none, [], false⟩]) (.seq (.region [
      ⟨(some 3), .mkFunc (.func 73) [] [(.tmp 1)], none, [], false⟩,
      ⟨(some 2), .mov (.tmp 3), none, [], false⟩]) .ret))
def zyQ : AFunc := ⟨4, [(2, none)], zyQ_c, none⟩
theorem zyQ_t0 : tableOf Try.prog 65 = some zyQ := by kernel_rfl
theorem zyQ_t : T0 65 = some zyQ := withKept_t rfl (withTrue_t rfl zyQ_t0)
abbrev fn_zzbQ : FuncId := 66
def zzbQ_c : ACode :=
  (.seq (.region [
      ⟨(some 2), .mov (.const (.int .i64 0)), none, [], false⟩]) (.seq (.seq (.region [
      ⟨(some 3), .mov (.tmp 0), none, [], false⟩,
      ⟨(some 4), .nilCheck (.tmp 3), none, [], false⟩,
      ⟨(some 5), .fieldAddr 166 (.tmp 4), none, [], false⟩,
      ⟨(some 6), .load none (.tmp 5), none, [], false⟩]) (.cond (.tmp 6)
    (.seq (.region [
      ⟨(some 2), .mov (.const (.int .i64 1)), none, [], false⟩]) .ret)
    .skip)) (.seq (.region [
      ⟨(some 2), .mov (.const (.int .i64 0)), none, [], false⟩]) .ret)))
def zzbQ : AFunc := ⟨7, [(2, none)], zzbQ_c, none⟩
theorem zzbQ_t0 : tableOf Try.prog 66 = some zzbQ := by kernel_rfl
theorem zzbQ_t : T0 66 = some zzbQ := withKept_t rfl (withTrue_t rfl zzbQ_t0)
abbrev fn_zbQ : FuncId := 67
def zbQ_l0 : ACode :=
  (.seq (.region [
      ⟨(some 9), .bin .lss (so (.binOp .lss 3 (.tmp 8) (.tmp 7) 3) 0) (.tmp 8) (.tmp 7), none, [], false⟩]) (.seq (.cond (.tmp 9)
    .skip
    (.exit 0)) (.seq (.block 1 (.seq (.region [
      ⟨(some 10), .indexSl 1 (.tmp 6) (.tmp 8), none, [], false⟩,
      ⟨(some 11), .load none (.tmp 10), none, [], false⟩,
      ⟨(some 5), .mov (.tmp 11), none, [], false⟩]) (.seq (.region [
      ⟨(some 12), .mov (.tmp 5), none, [], false⟩,
      ⟨(some 13), .mov (.tmp 3), none, [], false⟩,
      ⟨(some 14), .bin .neq (so (.binOp .neq 3 (.tmp 12) (.tmp 13) 3) 4) (.tmp 12) (.tmp 13), none, [], false⟩]) (.cond (.tmp 14)
    (.seq (.region [
      ⟨(some 15), .mov (.tmp 5), none, [], false⟩,
      ⟨(some 2), .mov (.tmp 15), none, [], false⟩]) .ret)
    .skip)))) (.region [
      ⟨(some 16), .bin .add (so (.binOp .add 3 (.tmp 8) (.const (.int .i64 1)) 3) 3) (.tmp 8) (.const (.int .i64 1)), none, [], false⟩,
      ⟨(some 8), .mov (.tmp 16), none, [], false⟩]))))
def zbQ_c : ACode :=
  (.seq (.region [
      ⟨(some 2), .mov (.const (.int .i64 0)), none, [], false⟩]) (.seq (.region [
      ⟨(some 3), .mov (.const (.int .i64 0)), none, [], false⟩]) (.seq (.seq (.region [
      ⟨(some 6), .mov (.tmp 0), none, [], false⟩,
      ⟨(some 7), .lenSl (.tmp 6), none, [], false⟩,
      ⟨(some 8), .mov (.const (.int .i64 0)), none, [], false⟩]) (.block 0 (.loop zbQ_l0))) (.seq (.region [
      ⟨(some 17), .mov (.tmp 3), none, [], false⟩,
      ⟨(some 2), .mov (.tmp 17), none, [], false⟩]) .ret))))
def zbQ : AFunc := ⟨18, [(2, none)], zbQ_c, none⟩
theorem zbQ_t0 : tableOf Try.prog 67 = some zbQ := by kernel_rfl
theorem zbQ_t : T0 67 = some zbQ := withKept_t rfl (withTrue_t rfl zbQ_t0)
abbrev fn_zaQ : FuncId := 68
def zaQ_c : ACode :=
  (.seq (.region [
      ⟨(some 4), .mov (.const (.int .i64 0)), none, [], false⟩]) (.seq (.region [
      ⟨(some 7), .mov (.tmp 0), none, [], false⟩,
      ⟨(some 8), .callV (.func 74) [(.tmp 7)], none, [], false⟩,
      ⟨(some 5), .mov (.tmp 8), none, [], false⟩]) (.seq (.region [
      ⟨(some 9), .mov (.tmp 1), none, [], false⟩,
      ⟨(some 10), .callV (.func 74) [(.tmp 9)], none, [], false⟩,
      ⟨(some 6), .mov (.tmp 10), none, [], false⟩]) (.seq (.seq (.region [
      ⟨(some 11), .mov (.tmp 5), none, [], false⟩]) (.cond (.tmp 11)
    (.seq (.seq (.region [
      ⟨(some 12), .mov (.tmp 6), none, [], false⟩]) (.cond (.tmp 12)
    (.seq (.region [
      ⟨(some 4), .mov (.const (.int .i64 0)), none, [], false⟩]) .ret)
    .skip)) (.seq (.region [
      ⟨(some 4), .mov (.const (.int .i64 (-1))), none, [], false⟩]) .ret))
    .skip)) (.seq (.seq (.region [
      ⟨(some 13), .mov (.tmp 6), none, [], false⟩]) (.cond (.tmp 13)
    (.seq (.region [
      ⟨(some 4), .mov (.const (.int .i64 1)), none, [], false⟩]) .ret)
    .skip)) (.seq (.seq (.region [
      ⟨(some 14), .mov (.tmp 0), none, [], false⟩,
      ⟨(some 15), .mov (.tmp 1), none, [], false⟩,
      ⟨(some 16), .bin .lss (so (.binOp .lss 3 (.tmp 14) (.tmp 15) 3) 4) (.tmp 14) (.tmp 15), none, [], false⟩]) (.cond (.tmp 16)
    (.seq (.region [
      ⟨(some 4), .mov (.const (.int .i64 (-1))), none, [], false⟩]) .ret)
    .skip)) (.seq (.seq (.region [
      ⟨(some 17), .mov (.tmp 0), none, [], false⟩,
      ⟨(some 18), .mov (.tmp 1), none, [], false⟩,
      ⟨(some 19), .bin .gtr (so (.binOp .gtr 3 (.tmp 17) (.tmp 18) 3) 4) (.tmp 17) (.tmp 18), none, [], false⟩]) (.cond (.tmp 19)
    (.seq (.region [
      ⟨(some 4), .mov (.const (.int .i64 1)), none, [], false⟩]) .ret)
    .skip)) (.seq (.region [
      ⟨(some 4), .mov (.const (.int .i64 0)), none, [], false⟩]) .ret))))))))
def zaQ : AFunc := ⟨20, [(4, none)], zaQ_c, none⟩
theorem zaQ_t0 : tableOf Try.prog 68 = some zaQ := by kernel_rfl
theorem zaQ_t : T0 68 = some zaQ := withKept_t rfl (withTrue_t rfl zaQ_t0)
abbrev fn_zabQ : FuncId := 70
def zabQ_ra0 : Code := (rangeParts (subCode ((Try.prog.funcs[70]?).bind (·.body)) [true, false, true, false])).1
def zabQ_rb0 : Code := (rangeParts (subCode ((Try.prog.funcs[70]?).bind (·.body)) [true, false, true, false])).2
def zabQ_a0 : ACode :=
  (.region [
      ⟨(some 5), .mov (.tmp 7), none, [], false⟩])
def zabQ_b0 : ACode :=
  (.block 1 (.region [
      ⟨(some 8), .load none (.tmp 2), none, [], false⟩,
      ⟨(some 9), .mov (.tmp 5), none, [], false⟩,
      ⟨(some 10), .buildSlice 3 [(.int .i64 0)] 1 [(0, 1, (.tmp 9))], none, [], false⟩,
      ⟨(some 11), .append 3 1 8 [(.int .i64 0)] false (.tmp 8) (.tmp 10), none, [], false⟩,
      ⟨none, .store 1 (.tmp 2) (.tmp 11), none, [], false⟩]))
theorem zabQ_ca0 : comp Try.prog zabQ_ra0 = some zabQ_a0 := by kernel_rfl
theorem zabQ_cb0 : comp Try.prog zabQ_rb0 = some zabQ_b0 := by kernel_rfl
theorem zabQ_na0 : noDefer zabQ_ra0 = true := by kernel_rfl
theorem zabQ_nb0 : noDefer zabQ_rb0 = true := by kernel_rfl
def zabQ_c : ACode :=
  (.seq (.region [
      ⟨(some 2), .box 78 (.tmp 0), none, [], false⟩,
      ⟨(some 4), .mov (.const (.slice none 0 0)), none, [], false⟩]) (.seq (.seq (.region [
      ⟨(some 6), .mov (.tmp 1), none, [], false⟩]) (.block 0 (.rangeFunc (.tmp 6) [7] zabQ_ra0 zabQ_rb0))) (.seq (.region [
      ⟨(some 12), .load none (.tmp 2), none, [], false⟩,
      ⟨(some 4), .mov (.tmp 12), none, [], false⟩]) .ret)))
def zabQ : AFunc := ⟨13, [(4, none)], zabQ_c, none⟩
theorem zabQ_t0 : tableOf Try.prog 70 = some zabQ := by kernel_rfl
theorem zabQ_t : T0 70 = some zabQ := withKept_t rfl (withTrue_t rfl zabQ_t0)
abbrev fn_zxQ : FuncId := 71
def zxQ_l0 : ACode :=
  (.seq (.region [
      ⟨(some 6), .nextMap (.tmp 5), none, [], false⟩,
      ⟨(some 7), .extract 0 (.tmp 6), none, [], false⟩]) (.seq (.cond (.tmp 7)
    .skip
    (.exit 0)) (.block 1 (.seq (.region [
      ⟨(some 8), .entryMap (.tmp 5), none, [], false⟩,
      ⟨(some 9), .extract 0 (.tmp 8), none, [], false⟩,
      ⟨(some 3), .mov (.tmp 9), none, [], false⟩]) (.seq (.region [
      ⟨(some 10), .mov (.tmp 0), none, [], false⟩,
      ⟨(some 11), .mov (.tmp 3), none, [], false⟩,
      ⟨(some 12), .callV (.tmp 10) [(.tmp 11)], none, [], false⟩,
      ⟨(some 13), .raw (so (.unOp .not 4 (.tmp 12)) 4), none, [], false⟩]) (.cond (.tmp 13)
    .ret
    .skip))))))
def zxQ_c : ACode :=
  (.seq (.region [
      ⟨(some 4), .load none (.tmp 1), none, [], false⟩,
      ⟨(some 5), .rangeMap (.tmp 4), none, [], false⟩]) (.block 0 (.loop zxQ_l0)))
def zxQ : AFunc := ⟨14, [], zxQ_c, none⟩
theorem zxQ_t0 : tableOf Try.prog 71 = some zxQ := by kernel_rfl
theorem zxQ_t : T0 71 = some zxQ := withKept_t rfl (withTrue_t rfl zxQ_t0)
abbrev fn_zfQ : FuncId := 72
def zfQ_l0 : ACode :=
  (.block 1 (.seq (.region [
      ⟨(some 12), .mov (.tmp 7), none, [], false⟩,
      ⟨(some 13), .bin .mul (so (.binOp .mul 3 (.const (.int .i64 2)) (.tmp 12) 3) 3) (.const (.int .i64 2)) (.tmp 12), none, [], false⟩,
      ⟨(some 14), .bin .add (so (.binOp .add 3 (.tmp 13) (.const (.int .i64 1)) 3) 3) (.tmp 13) (.const (.int .i64 1)), none, [], false⟩,
      ⟨(some 8), .mov (.tmp 14), none, [], false⟩]) (.seq (.seq (.region [
      ⟨(some 15), .mov (.tmp 8), none, [], false⟩,
      ⟨(some 16), .mov (.tmp 2), none, [], false⟩,
      ⟨(some 17), .bin .geq (so (.binOp .geq 3 (.tmp 15) (.tmp 16) 3) 4) (.tmp 15) (.tmp 16), none, [], false⟩,
      ⟨(some 18), .mov (.tmp 17), none, [], false⟩,
      ⟨(some 19), .mov (.tmp 8), (some (18, false)), [], false⟩,
      ⟨(some 20), .bin .lss (so (.binOp .lss 3 (.tmp 19) (.const (.int .i64 0)) 3) 4) (.tmp 19) (.const (.int .i64 0)), (some (18, false)), [], false⟩,
      ⟨(some 21), .pick (.tmp 18) (.const (.bool true)) (.tmp 20), none, [], false⟩]) (.cond (.tmp 21)
    (.exit 0)
    .skip)) (.seq (.region [
      ⟨(some 22), .mov (.tmp 8), none, [], false⟩,
      ⟨(some 9), .mov (.tmp 22), none, [], false⟩]) (.seq (.seq (.region [
      ⟨(some 23), .mov (.tmp 8), none, [], false⟩,
      ⟨(some 24), .bin .add (so (.binOp .add 3 (.tmp 23) (.const (.int .i64 1)) 3) 3) (.tmp 23) (.const (.int .i64 1)), none, [], false⟩,
      ⟨(some 10), .mov (.tmp 24), none, [], false⟩]) (.seq (.region [
      ⟨(some 25), .mov (.tmp 10), none, [], false⟩,
      ⟨(some 26), .mov (.tmp 2), none, [], false⟩,
      ⟨(some 27), .bin .lss (so (.binOp .lss 3 (.tmp 25) (.tmp 26) 3) 4) (.tmp 25) (.tmp 26), none, [], false⟩,
      ⟨(some 28), .mov (.tmp 27), none, [], false⟩,
      ⟨(some 29), .mov (.tmp 0), (some (28, true)), [], false⟩,
      ⟨(some 30), .mov (.tmp 10), (some (28, true)), [], false⟩,
      ⟨(some 31), .mov (.tmp 8), (some (28, true)), [], false⟩,
      ⟨(some 32), .invoke (.tmp 29) "Less" [(.tmp 30), (.tmp 31)], (some (28, true)), [], false⟩,
      ⟨(some 33), .pick (.tmp 28) (.tmp 32) (.const (.bool false)), none, [], false⟩]) (.cond (.tmp 33)
    (.region [
      ⟨(some 34), .mov (.tmp 10), none, [], false⟩,
      ⟨(some 9), .mov (.tmp 34), none, [], false⟩])
    .skip))) (.seq (.seq (.region [
      ⟨(some 35), .mov (.tmp 0), none, [], false⟩,
      ⟨(some 36), .mov (.tmp 9), none, [], false⟩,
      ⟨(some 37), .mov (.tmp 7), none, [], false⟩,
      ⟨(some 38), .invoke (.tmp 35) "Less" [(.tmp 36), (.tmp 37)], none, [], false⟩,
      ⟨(some 39), .raw (so (.unOp .not 4 (.tmp 38)) 4), none, [], false⟩]) (.cond (.tmp 39)
    (.exit 0)
    .skip)) (.seq (.region [
      ⟨(some 40), .mov (.tmp 0), none, [], false⟩,
      ⟨(some 41), .mov (.tmp 7), none, [], false⟩,
      ⟨(some 42), .mov (.tmp 9), none, [], false⟩,
      ⟨(some 43), .invoke (.tmp 40) "Swap" [(.tmp 41), (.tmp 42)], none, [], false⟩]) (.region [
      ⟨(some 44), .mov (.tmp 9), none, [], false⟩,
      ⟨(some 7), .mov (.tmp 44), none, [], false⟩]))))))))
def zfQ_c : ACode :=
  (.seq (.region [
      ⟨(some 6), .mov (.const (.bool false)), none, [], false⟩]) (.seq (.region [
      ⟨(some 11), .mov (.tmp 1), none, [], false⟩,
      ⟨(some 7), .mov (.tmp 11), none, [], false⟩]) (.seq (.block 0 (.loop zfQ_l0)) (.seq (.region [
      ⟨(some 45), .mov (.tmp 7), none, [], false⟩,
      ⟨(some 46), .mov (.tmp 1), none, [], false⟩,
      ⟨(some 47), .bin .gtr (so (.binOp .gtr 3 (.tmp 45) (.tmp 46) 3) 4) (.tmp 45) (.tmp 46), none, [], false⟩,
      ⟨(some 6), .mov (.tmp 47), none, [], false⟩]) .ret))))
def zfQ : AFunc := ⟨48, [(6, none)], zfQ_c, none⟩
theorem zfQ_t0 : tableOf Try.prog 72 = some zfQ := by kernel_rfl
theorem zfQ_t : T0 72 = some zfQ := withKept_t rfl (withTrue_t rfl zfQ_t0)
abbrev fn_zzQ : FuncId := 73
def zzQ_l0 : ACode :=
  (.seq (.region [
      ⟨(some 7), .nextMap (.tmp 6), none, [], false⟩,
      ⟨(some 8), .extract 0 (.tmp 7), none, [], false⟩]) (.seq (.cond (.tmp 8)
    .skip
    (.exit 0)) (.block 1 (.seq (.region [
      ⟨(some 9), .entryMap (.tmp 6), none, [], false⟩,
      ⟨(some 10), .extract 1 (.tmp 9), none, [], false⟩,
      ⟨(some 4), .mov (.tmp 10), none, [], false⟩]) (.seq (.region [
      ⟨(some 11), .mov (.tmp 0), none, [], false⟩,
      ⟨(some 12), .mov (.tmp 4), none, [], false⟩,
      ⟨(some 13), .callV (.tmp 11) [(.tmp 12)], none, [], false⟩,
      ⟨(some 14), .raw (so (.unOp .not 4 (.tmp 13)) 4), none, [], false⟩]) (.cond (.tmp 14)
    .ret
    .skip))))))
def zzQ_c : ACode :=
  (.seq (.region [
      ⟨(some 5), .load none (.tmp 1), none, [], false⟩,
      ⟨(some 6), .rangeMap (.tmp 5), none, [], false⟩]) (.block 0 (.loop zzQ_l0)))
def zzQ : AFunc := ⟨15, [], zzQ_c, none⟩
theorem zzQ_t0 : tableOf Try.prog 73 = some zzQ := by kernel_rfl
theorem zzQ_t : T0 73 = some zzQ := withKept_t rfl (withTrue_t rfl zzQ_t0)
abbrev fn_zcQ : FuncId := 74
def zcQ_c : ACode :=
  (.seq (.region [
      ⟨(some 2), .mov (.const (.bool false)), none, [], false⟩]) (.seq (.region [
      ⟨(some 3), .mov (.tmp 0), none, [], false⟩,
      ⟨(some 4), .mov (.tmp 0), none, [], false⟩,
      ⟨(some 5), .bin .neq (so (.binOp .neq 3 (.tmp 3) (.tmp 4) 3) 4) (.tmp 3) (.tmp 4), none, [], false⟩,
      ⟨(some 2), .mov (.tmp 5), none, [], false⟩]) .ret))
def zcQ : AFunc := ⟨6, [(2, none)], zcQ_c, none⟩
theorem zcQ_t0 : tableOf Try.prog 74 = some zcQ := by kernel_rfl
theorem zcQ_t : T0 74 = some zcQ := withKept_t rfl (withTrue_t rfl zcQ_t0)
abbrev fn_zvbQ : FuncId := 92
def zvbQ_c : ACode :=
  (.seq (.region [
      ⟨(some 6), .mov (.const (.bool false)), none, [], false⟩]) (.seq (.regionD [
      ⟨(some 7), .mov (.tmp 0), none, [], false⟩,
      ⟨(some 8), .mov (.tmp 1), none, [], false⟩,
      ⟨(some 9), .indexSl 1 (.tmp 7) (.tmp 8), none, [], false⟩,
      ⟨(some 10), .load none (.tmp 9), none, [], false⟩,
      ⟨(some 11), .mov (.tmp 0), none, [], false⟩,
      ⟨(some 12), .mov (.tmp 2), none, [], false⟩,
      ⟨(some 13), .indexSl 1 (.tmp 11) (.tmp 12), none, [], false⟩,
      ⟨(some 14), .load none (.tmp 13), none, [], false⟩,
      ⟨(some 15), .bin .lss (so (.binOp .lss 3 (.tmp 10) (.tmp 14) 3) 4) (.tmp 10) (.tmp 14), none, [], true⟩,
      ⟨(some 6), .mov (.tmp 15), none, [], true⟩]) .ret))
def zvbQ : AFunc := ⟨16, [(6, none)], zvbQ_c, none⟩
theorem zvbQ_t0 : tableOf Try.prog 92 = some zvbQ := by kernel_rfl
theorem zvbQ_t : T0 92 = some zvbQ := withKept_t rfl (withTrue_t rfl zvbQ_t0)
abbrev fn_zxbQ : FuncId := 93
def zxbQ_c : ACode :=
  (.regionD [
      ⟨(some 6), .mov (.tmp 0), none, [], false⟩,
      ⟨(some 7), .mov (.tmp 1), none, [], false⟩,
      ⟨(some 8), .mov (.tmp 0), none, [], false⟩,
      ⟨(some 9), .mov (.tmp 2), none, [], false⟩,
      ⟨(some 10), .mov (.tmp 0), none, [], false⟩,
      ⟨(some 11), .mov (.tmp 2), none, [], false⟩,
      ⟨(some 12), .indexSl 1 (.tmp 10) (.tmp 11), none, [], false⟩,
      ⟨(some 13), .load none (.tmp 12), none, [], false⟩,
      ⟨(some 14), .mov (.tmp 0), none, [], false⟩,
      ⟨(some 15), .mov (.tmp 1), none, [], false⟩,
      ⟨(some 16), .indexSl 1 (.tmp 14) (.tmp 15), none, [], false⟩,
      ⟨(some 17), .load none (.tmp 16), none, [], false⟩,
      ⟨(some 18), .indexSl 1 (.tmp 6) (.tmp 7), none, [], false⟩,
      ⟨none, .store 1 (.tmp 18) (.tmp 13), none, [((some 9), .mov (.tmp 2), none), ((some 8), .mov (.tmp 0), none)], false⟩,
      ⟨(some 19), .indexSl 1 (.tmp 8) (.tmp 9), none, [], true⟩,
      ⟨none, .store 1 (.tmp 19) (.tmp 17), none, [], true⟩])
def zxbQ : AFunc := ⟨20, [], zxbQ_c, none⟩
theorem zxbQ_t0 : tableOf Try.prog 93 = some zxbQ := by kernel_rfl
theorem zxbQ_t : T0 93 = some zxbQ := withKept_t rfl (withTrue_t rfl zxbQ_t0)
abbrev fn_zwbQ : FuncId := 94
def zwbQ_c : ACode :=
  (.seq (.region [
      ⟨(some 2), .mov (.const .nilIface), none, [], false⟩]) (.seq (.region [
      ⟨(some 5), .mov (.tmp 0), none, [], false⟩,
      ⟨(some 6), .nilCheck (.tmp 5), none, [], false⟩,
      ⟨(some 7), .load none (.tmp 6), none, [], false⟩,
      ⟨(some 8), .lenSl (.tmp 7), none, [], false⟩,
      ⟨(some 9), .bin .sub (so (.binOp .sub 3 (.tmp 8) (.const (.int .i64 1)) 3) 3) (.tmp 8) (.const (.int .i64 1)), none, [], false⟩,
      ⟨(some 3), .mov (.tmp 9), none, [], false⟩]) (.seq (.region [
      ⟨(some 10), .mov (.tmp 0), none, [], false⟩,
      ⟨(some 11), .nilCheck (.tmp 10), none, [], false⟩,
      ⟨(some 12), .load none (.tmp 11), none, [], false⟩,
      ⟨(some 13), .mov (.tmp 3), none, [], false⟩,
      ⟨(some 14), .indexSl 1 (.tmp 12) (.tmp 13), none, [], false⟩,
      ⟨(some 15), .load none (.tmp 14), none, [], false⟩,
      ⟨(some 4), .mov (.tmp 15), none, [], false⟩]) (.seq (.region [
      ⟨(some 16), .mov (.tmp 0), none, [], false⟩,
      ⟨(some 17), .mov (.tmp 0), none, [], false⟩,
      ⟨(some 18), .nilCheck (.tmp 17), none, [], false⟩,
      ⟨(some 19), .load none (.tmp 18), none, [], false⟩,
      ⟨(some 20), .mov (.tmp 3), none, [], false⟩,
      ⟨(some 21), .sliceSl 1 (.tmp 19) none (some (.tmp 20)) none, none, [], false⟩,
      ⟨(some 22), .nilCheck (.tmp 16), none, [], false⟩,
      ⟨none, .store 1 (.tmp 22) (.tmp 21), none, [], false⟩]) (.seq (.region [
      ⟨(some 23), .mov (.tmp 4), none, [], false⟩,
      ⟨(some 24), .mkIface 3 (.tmp 23), none, [], false⟩,
      ⟨(some 2), .mov (.tmp 24), none, [], false⟩]) .ret)))))
def zwbQ : AFunc := ⟨25, [(2, none)], zwbQ_c, none⟩
theorem zwbQ_t0 : tableOf Try.prog 94 = some zwbQ := by kernel_rfl
theorem zwbQ_t : T0 94 = some zwbQ := withKept_t rfl (withTrue_t rfl zwbQ_t0)
def table : TT :=
  (.node (.node (.node (.node (.node (.node .nil 3 zoQ .nil) 8 zqQ .nil) 9 zfbQ (.node (.node .nil 10 zgbQ .nil) 11 zuQ .nil)) 12 zlbQ (.node (.node (.node .nil 13 zhbQ .nil) 14 zjbQ .nil) 15 zpQ (.node (.node .nil 16 zkQ .nil) 17 zkbQ .nil))) 18 zobQ (.node (.node (.node (.node .nil 21 znbQ .nil) 37 zrbQ .nil) 38 zsbQ (.node (.node .nil 39 zacQ .nil) 40 ztQ .nil)) 41 ztbQ (.node (.node (.node .nil 42 zmbQ .nil) 43 zvQ .nil) 44 zibQ (.node .nil 45 zpbQ .nil)))) 46 zqbQ (.node (.node (.node (.node (.node .nil 47 zebQ .nil) 48 zybQ .nil) 58 zdbQ (.node (.node .nil 59 zwQ .nil) 60 zdQ .nil)) 61 zubQ (.node (.node (.node .nil 62 zeQ .nil) 63 zbbQ .nil) 64 zcbQ (.node .nil 65 zyQ .nil))) 66 zzbQ (.node (.node (.node (.node .nil 67 zbQ .nil) 68 zaQ .nil) 70 zabQ (.node (.node .nil 71 zxQ .nil) 72 zfQ .nil)) 73 zzQ (.node (.node (.node .nil 74 zcQ .nil) 92 zvbQ .nil) 93 zxbQ (.node .nil 94 zwbQ .nil)))))
theorem table_all : table.All Try.prog := ⟨zqbQ_t0, ⟨zobQ_t0, ⟨zlbQ_t0, ⟨zfbQ_t0, ⟨zqQ_t0, ⟨zoQ_t0, trivial, trivial⟩, trivial⟩, ⟨zuQ_t0, ⟨zgbQ_t0, trivial, trivial⟩, trivial⟩⟩, ⟨zpQ_t0, ⟨zjbQ_t0, ⟨zhbQ_t0, trivial, trivial⟩, trivial⟩, ⟨zkbQ_t0, ⟨zkQ_t0, trivial, trivial⟩, trivial⟩⟩⟩, ⟨ztbQ_t0, ⟨zsbQ_t0, ⟨zrbQ_t0, ⟨znbQ_t0, trivial, trivial⟩, trivial⟩, ⟨ztQ_t0, ⟨zacQ_t0, trivial, trivial⟩, trivial⟩⟩, ⟨zibQ_t0, ⟨zvQ_t0, ⟨zmbQ_t0, trivial, trivial⟩, trivial⟩, ⟨zpbQ_t0, trivial, trivial⟩⟩⟩⟩, ⟨zzbQ_t0, ⟨zubQ_t0, ⟨zdbQ_t0, ⟨zybQ_t0, ⟨zebQ_t0, trivial, trivial⟩, trivial⟩, ⟨zdQ_t0, ⟨zwQ_t0, trivial, trivial⟩, trivial⟩⟩, ⟨zcbQ_t0, ⟨zbbQ_t0, ⟨zeQ_t0, trivial, trivial⟩, trivial⟩, ⟨zyQ_t0, trivial, trivial⟩⟩⟩, ⟨zzQ_t0, ⟨zabQ_t0, ⟨zaQ_t0, ⟨zbQ_t0, trivial, trivial⟩, trivial⟩, ⟨zfQ_t0, ⟨zxQ_t0, trivial, trivial⟩, trivial⟩⟩, ⟨zxbQ_t0, ⟨zvbQ_t0, ⟨zcQ_t0, trivial, trivial⟩, trivial⟩, ⟨zwbQ_t0, trivial, trivial⟩⟩⟩⟩⟩
end Go.Proofs.Ytmhnddkpiefkhaa.R

namespace Go.Proofs.Ytmhnddkpiefkhaa.R
open Go Go.Vm
set_option maxRecDepth 100000
def rep (n : Nat) (v : Value) (l : List Value) : List Value := List.replicate n v ++ l
def va_1 : Value := .agg ⟨(.string ⟨⟨[]⟩⟩) :: (.int .i64 5) :: (.int .i64 0) :: rep 128 (.int .u8 0) ((.int .i64 0) :: rep 32 (.int .u8 0) ((.slice none 0 0) :: (.slice none 0 0) :: []))⟩
def ob_2 : AObj := .cells ((.string ⟨⟨[]⟩⟩) :: (.int .i64 5) :: (.int .i64 0) :: rep 128 (.int .u8 0) ((.int .i64 0) :: rep 32 (.int .u8 0) ((.slice none 0 0) :: (.slice none 0 0) :: []))) 0
def ob_3 : AObj := .cells ((.string ⟨⟨[]⟩⟩) :: (.int .i64 5) :: (.int .i64 0) :: rep 128 (.int .u8 0) ((.int .i64 0) :: rep 32 (.int .u8 0) ((.slice none 0 0) :: (.slice none 0 0) :: (.bool false) :: (.bool false) :: []))) 0
def va_4 : Value := .agg ⟨(.string ⟨⟨[]⟩⟩) :: (.int .i64 2) :: (.int .i64 0) :: rep 128 (.int .u8 0) ((.int .i64 0) :: rep 32 (.int .u8 0) ((.slice none 0 0) :: (.slice none 0 0) :: []))⟩
def ob_5 : AObj := .cells ((.string ⟨⟨[]⟩⟩) :: (.int .i64 2) :: (.int .i64 0) :: rep 128 (.int .u8 0) ((.int .i64 0) :: rep 32 (.int .u8 0) ((.slice none 0 0) :: (.slice none 0 0) :: []))) 0
def ob_6 : AObj := .cells ((.string ⟨⟨[]⟩⟩) :: (.int .i64 2) :: (.int .i64 0) :: rep 128 (.int .u8 0) ((.int .i64 0) :: rep 32 (.int .u8 0) ((.slice none 0 0) :: (.slice none 0 0) :: (.bool false) :: (.bool false) :: []))) 0
def va_7 : Value := .agg ⟨(.string ⟨⟨[]⟩⟩) :: (.int .i64 9) :: (.int .i64 0) :: rep 128 (.int .u8 0) ((.int .i64 0) :: rep 32 (.int .u8 0) ((.slice none 0 0) :: (.slice none 0 0) :: []))⟩
def ob_8 : AObj := .cells ((.string ⟨⟨[]⟩⟩) :: (.int .i64 9) :: (.int .i64 0) :: rep 128 (.int .u8 0) ((.int .i64 0) :: rep 32 (.int .u8 0) ((.slice none 0 0) :: (.slice none 0 0) :: []))) 0
def ob_9 : AObj := .cells ((.string ⟨⟨[]⟩⟩) :: (.int .i64 9) :: (.int .i64 0) :: rep 128 (.int .u8 0) ((.int .i64 0) :: rep 32 (.int .u8 0) ((.slice none 0 0) :: (.slice none 0 0) :: (.bool false) :: (.bool false) :: []))) 0
def va_10 : Value := .agg ⟨(.string ⟨⟨[]⟩⟩) :: (.int .i64 7) :: (.int .i64 0) :: rep 128 (.int .u8 0) ((.int .i64 0) :: rep 32 (.int .u8 0) ((.slice none 0 0) :: (.slice none 0 0) :: []))⟩
def ob_11 : AObj := .cells ((.string ⟨⟨[]⟩⟩) :: (.int .i64 5) :: (.int .i64 0) :: rep 128 (.int .u8 0) ((.int .i64 0) :: rep 32 (.int .u8 0) ((.slice none 0 0) :: (.slice none 0 0) :: (.bool true) :: (.bool false) :: []))) 0
def ob_12 : AObj := .cells ((.string ⟨⟨[]⟩⟩) :: (.int .i64 7) :: (.int .i64 0) :: rep 128 (.int .u8 0) ((.int .i64 0) :: rep 32 (.int .u8 0) ((.slice none 0 0) :: (.slice none 0 0) :: []))) 0
def ob_13 : AObj := .cells ((.string ⟨⟨[]⟩⟩) :: (.int .i64 2) :: (.int .i64 0) :: rep 128 (.int .u8 0) ((.int .i64 0) :: rep 32 (.int .u8 0) ((.slice none 0 0) :: (.slice none 0 0) :: (.bool false) :: (.bool true) :: []))) 0
def ob_14 : AObj := .cells ((.string ⟨⟨[]⟩⟩) :: (.int .i64 7) :: (.int .i64 0) :: rep 128 (.int .u8 0) ((.int .i64 0) :: rep 32 (.int .u8 0) ((.slice none 0 0) :: (.slice none 0 0) :: (.bool false) :: (.bool false) :: []))) 0
def va_15 : Value := .agg ⟨(.string ⟨⟨[]⟩⟩) :: (.int .i64 0) :: (.int .i64 0) :: rep 128 (.int .u8 0) ((.int .i64 0) :: rep 32 (.int .u8 0) ((.slice none 0 0) :: (.slice none 0 0) :: []))⟩
def va_16 : Value := .agg ⟨(.string ⟨⟨[]⟩⟩) :: (.int .i64 3) :: (.int .i64 0) :: rep 128 (.int .u8 0) ((.int .i64 0) :: rep 32 (.int .u8 0) ((.slice none 0 0) :: (.slice none 0 0) :: []))⟩
def ob_17 : AObj := .cells ((.string ⟨⟨[]⟩⟩) :: (.int .i64 0) :: (.int .i64 0) :: rep 128 (.int .u8 0) ((.int .i64 0) :: rep 32 (.int .u8 0) ((.slice none 0 0) :: (.slice none 0 0) :: []))) 0
def ob_18 : AObj := .cells ((.string ⟨⟨[]⟩⟩) :: (.int .i64 3) :: (.int .i64 0) :: rep 128 (.int .u8 0) ((.int .i64 0) :: rep 32 (.int .u8 0) ((.slice none 0 0) :: (.slice none 0 0) :: []))) 0
def ob_19 : AObj := .cells ((.string ⟨⟨[]⟩⟩) :: (.int .i64 3) :: (.int .i64 0) :: rep 128 (.int .u8 0) ((.int .i64 0) :: rep 32 (.int .u8 0) ((.slice none 0 0) :: (.slice none 0 0) :: (.bool false) :: (.bool false) :: []))) 0
def va_20 : Value := .agg ⟨(.string ⟨⟨[]⟩⟩) :: (.int .i64 4) :: (.int .i64 0) :: rep 128 (.int .u8 0) ((.int .i64 0) :: rep 32 (.int .u8 0) ((.slice none 0 0) :: (.slice none 0 0) :: []))⟩
def ob_21 : AObj := .cells ((.string ⟨⟨[]⟩⟩) :: (.int .i64 5) :: (.int .i64 0) :: rep 128 (.int .u8 0) ((.int .i64 0) :: rep 32 (.int .u8 0) ((.slice none 0 0) :: (.slice none 0 0) :: (.bool true) :: (.bool true) :: []))) 0
def ob_22 : AObj := .cells ((.string ⟨⟨[]⟩⟩) :: (.int .i64 4) :: (.int .i64 0) :: rep 128 (.int .u8 0) ((.int .i64 0) :: rep 32 (.int .u8 0) ((.slice none 0 0) :: (.slice none 0 0) :: []))) 0
def ob_23 : AObj := .cells ((.string ⟨⟨[]⟩⟩) :: (.int .i64 3) :: (.int .i64 0) :: rep 128 (.int .u8 0) ((.int .i64 0) :: rep 32 (.int .u8 0) ((.slice none 0 0) :: (.slice none 0 0) :: (.bool false) :: (.bool true) :: []))) 0
def ob_24 : AObj := .cells ((.int .i64 2) :: (.bool false) :: (.bool true) :: (.int .i64 5) :: (.bool true) :: (.bool false) :: (.int .i64 7) :: (.bool false) :: (.bool false) :: []) 3
def ob_25 : AObj := .cells ((.int .i64 2) :: (.bool false) :: (.bool true) :: (.int .i64 5) :: (.bool true) :: (.bool false) :: (.int .i64 7) :: (.bool false) :: (.bool false) :: []) 0
def tr_1 : Tr := .node ob_2 .nil .nil
def tr_2 : Tr := .node ob_3 .nil .nil
def tr_3 : Tr := .node .dead .nil .nil
def tr_4 : Tr := .node (.map [⟨(.int .i64 5), (.pointer (some ⟨7, 0, none⟩)), 0⟩] 1) (.node ob_2 tr_2 .nil) tr_3
def tr_5 : Tr := .node ob_5 .nil .nil
def tr_6 : Tr := .node ob_2 tr_2 tr_3
def tr_7 : Tr := .node .dead tr_3 .nil
def tr_8 : Tr := .node ob_6 .nil .nil
def tr_9 : Tr := .node (.cells [(.int .i64 3), (.map (some 1))] 0) (.node .dead tr_5 tr_8) tr_7
def tr_10 : Tr := .node ob_8 .nil .nil
def tr_11 : Tr := .node .dead tr_3 tr_10
def tr_12 : Tr := .node ob_9 .nil .nil
def tr_13 : Tr := .node .dead (.node .dead tr_12 .nil) tr_10
def tr_14 : Tr := .node ob_5 tr_3 .nil
def tr_15 : Tr := .node .dead tr_3 tr_3
def tr_16 : Tr := .node ob_11 tr_3 .nil
def tr_17 : Tr := .node ob_12 .nil .nil
def tr_18 : Tr := .node .dead tr_17 .nil
def tr_19 : Tr := .node ob_13 .nil .nil
def tr_20 : Tr := .node (.cells [(.bool true)] 0) .nil .nil
def tr_21 : Tr := .node .dead tr_20 .nil
def tr_22 : Tr := .node ob_14 .nil .nil
def tr_23 : Tr := .node .dead tr_20 tr_3
def tr_24 : Tr := .node .dead (.node (.map [⟨(.int .i64 5), (.pointer (some ⟨7, 0, none⟩)), 0⟩, ⟨(.int .i64 2), (.pointer (some ⟨12, 0, none⟩)), 1⟩, ⟨(.int .i64 7), (.pointer (some ⟨33, 0, none⟩)), 3⟩] 4) (.node ob_2 (.node ob_11 tr_7 tr_3) (.node .dead tr_17 tr_3)) (.node .dead (.node .dead (.node ob_9 tr_22 .nil) tr_3) (.node ob_8 tr_3 tr_3))) (.node (.cells [(.int .i64 3), (.map (some 1))] 0) (.node .dead (.node ob_5 tr_7 tr_3) (.node ob_13 tr_3 tr_3)) (.node .dead tr_23 tr_15))
def tr_25 : Tr := .node .dead (.node ob_12 tr_3 tr_3) tr_7
def tr_26 : Tr := .node .dead (.node .dead (.node ob_9 tr_22 tr_3) tr_7) (.node ob_8 tr_15 tr_7)
def tr_27 : Tr := .node .dead tr_15 tr_7
def tr_28 : Tr := .node (.cells [(.int .i64 3), (.map (some 1))] 0) (.node .dead (.node ob_5 tr_15 tr_7) (.node ob_13 tr_15 tr_7)) (.node .dead (.node .dead (.node (.cells [(.bool true)] 0) tr_3 tr_3) tr_7) tr_27)
def tr_29 : Tr := .node .dead tr_3 tr_1
def tr_30 : Tr := .node .dead tr_7 tr_3
def tr_31 : Tr := .node .dead tr_7 tr_1
def tr_32 : Tr := .node ob_11 tr_30 tr_31
def tr_33 : Tr := .node ob_12 tr_7 tr_3
def tr_34 : Tr := .node ob_14 tr_3 .nil
def tr_35 : Tr := .node .dead (.node .dead (.node ob_9 tr_34 tr_3) tr_30) (.node ob_8 tr_30 tr_15)
def tr_36 : Tr := .node ob_5 tr_30 tr_30
def tr_37 : Tr := .node .dead tr_30 tr_15
def tr_38 : Tr := .node .dead (.node .dead (.node (.cells [(.bool true)] 0) tr_7 tr_3) tr_30) tr_37
def tr_39 : Tr := .node ob_17 .nil .nil
def tr_40 : Tr := .node .dead tr_39 .nil
def tr_41 : Tr := .node .dead tr_40 tr_3
def tr_42 : Tr := .node ob_18 .nil .nil
def tr_43 : Tr := .node .dead tr_42 .nil
def tr_44 : Tr := .node .dead tr_43 tr_3
def tr_45 : Tr := .node .dead tr_7 tr_7
def tr_46 : Tr := .node ob_2 tr_3 .nil
def tr_47 : Tr := .node .dead tr_7 tr_46
def tr_48 : Tr := .node ob_12 tr_7 tr_7
def tr_49 : Tr := .node .dead (.node ob_9 tr_34 tr_7) tr_45
def tr_50 : Tr := .node ob_5 tr_45 tr_45
def tr_51 : Tr := .node (.cells [(.bool true)] 0) tr_7 tr_7
def tr_52 : Tr := .node .dead tr_7 (.node .dead (.node ob_19 .nil .nil) .nil)
def tr_53 : Tr := .node .dead tr_45 tr_30
def tr_54 : Tr := .node .dead tr_40 tr_21
def tr_55 : Tr := .node ob_22 .nil .nil
def tr_56 : Tr := .node .dead tr_55 .nil
def tr_57 : Tr := .node .dead tr_7 tr_56
def tr_58 : Tr := .node ob_8 tr_45 tr_57
def tr_59 : Tr := .node .dead tr_43 tr_21
def tr_60 : Tr := .node ob_13 tr_45 tr_59
def tr_61 : Tr := .node ob_23 .nil .nil
def tr_62 : Tr := .node .dead tr_61 .nil
def tr_63 : Tr := .node .dead tr_7 tr_62
def tr_64 : Tr := .node ob_12 tr_15 tr_7
def tr_65 : Tr := .node .dead tr_64 tr_54
def tr_66 : Tr := .node ob_2 (.node ob_21 tr_27 tr_47) tr_65
def tr_67 : Tr := .node ob_14 tr_3 tr_3
def tr_68 : Tr := .node ob_9 tr_67 tr_7
def tr_69 : Tr := .node .dead tr_68 tr_45
def tr_70 : Tr := .node ob_5 tr_27 tr_45
def tr_71 : Tr := .node (.cells [(.bool true)] 0) tr_15 tr_7
def tr_72 : Tr := .node .dead tr_45 tr_45
def tr_73 : Tr := .node .dead (.node .dead tr_71 tr_63) tr_72
def tr_74 : Tr := .node .dead (.node (.map [⟨(.int .i64 5), (.pointer (some ⟨7, 0, none⟩)), 0⟩, ⟨(.int .i64 2), (.pointer (some ⟨12, 0, none⟩)), 1⟩, ⟨(.int .i64 3), (.pointer (some ⟨90, 0, none⟩)), 4⟩] 5) tr_66 (.node .dead tr_69 tr_58)) (.node (.cells [(.int .i64 3), (.map (some 1))] 0) (.node .dead tr_70 tr_60) tr_73)
def tr_75 : Tr := .node ob_8 tr_27 tr_57
def tr_76 : Tr := .node ob_13 tr_27 tr_59
def tr_77 : Tr := .node .dead tr_3 tr_39
def tr_78 : Tr := .node .dead tr_77 tr_46
def tr_79 : Tr := .node ob_21 tr_27 tr_78
def tr_80 : Tr := .node (.cells [(.int .i64 3), (.map (some 104))] 0) .nil .nil
def tr_81 : Tr := .node .dead tr_3 tr_80
def tr_82 : Tr := .node .dead tr_81 tr_7
def tr_83 : Tr := .node .dead tr_68 tr_82
def tr_84 : Tr := .node .dead tr_29 tr_62
def tr_85 : Tr := .node .dead tr_71 tr_84
def tr_86 : Tr := .node .dead tr_77 tr_7
def tr_87 : Tr := .node .dead tr_39 tr_3
def tr_88 : Tr := .node .dead tr_87 tr_21
def tr_89 : Tr := .node .dead tr_64 tr_88
def tr_90 : Tr := .node .dead tr_15 tr_56
def tr_91 : Tr := .node ob_8 tr_27 tr_90
def tr_92 : Tr := .node .dead tr_83 tr_91
def tr_93 : Tr := .node .dead tr_42 tr_3
def tr_94 : Tr := .node .dead tr_93 tr_21
def tr_95 : Tr := .node ob_13 tr_27 tr_94
def tr_96 : Tr := .node .dead (.node .dead tr_3 tr_2) tr_7
def tr_97 : Tr := .node .dead tr_86 tr_96
def tr_98 : Tr := .node (.cells [(.int .i64 3), (.map (some 1))] 0) (.node .dead (.node ob_5 tr_27 (.node .dead (.node .dead tr_3 (.node (.map [⟨(.int .i64 5), (.pointer (some ⟨110, 0, none⟩)), 0⟩] 1) .nil .nil)) tr_7)) tr_95) (.node .dead tr_85 tr_97)
def tr_99 : Tr := .node .dead tr_3 tr_5
def tr_100 : Tr := .node .dead tr_15 tr_99
def tr_101 : Tr := .node ob_21 tr_100 tr_78
def tr_102 : Tr := .node .dead (.node ob_12 tr_15 (.node .dead tr_3 tr_8)) tr_88
def tr_103 : Tr := .node ob_9 tr_67 tr_15
def tr_104 : Tr := .node .dead tr_103 tr_82
def tr_105 : Tr := .node (.map [⟨(.int .i64 5), (.pointer (some ⟨7, 0, none⟩)), 0⟩] 5) (.node ob_2 tr_101 tr_102) (.node .dead tr_104 tr_91)
def tr_106 : Tr := .node .dead tr_15 tr_15
def tr_107 : Tr := .node ob_5 tr_106 (.node .dead (.node .dead tr_3 (.node (.map [⟨(.int .i64 5), (.pointer (some ⟨110, 0, none⟩)), 0⟩, ⟨(.int .i64 2), (.pointer (some ⟨115, 0, none⟩)), 1⟩] 2) .nil .nil)) tr_7)
def tr_108 : Tr := .node (.cells [(.bool true)] 0) tr_15 tr_15
def tr_109 : Tr := .node .dead tr_108 tr_84
def tr_110 : Tr := .node .dead tr_109 tr_97
def tr_111 : Tr := .node ob_13 (.node .dead tr_15 tr_11) tr_94
def tr_112 : Tr := .node ob_2 tr_3 tr_3
def tr_113 : Tr := .node ob_21 tr_100 (.node .dead tr_77 tr_112)
def tr_114 : Tr := .node ob_8 tr_106 tr_90
def tr_115 : Tr := .node .dead tr_3 tr_12
def tr_116 : Tr := .node .dead (.node ob_5 tr_106 (.node .dead (.node .dead tr_3 (.node (.map [⟨(.int .i64 5), (.pointer (some ⟨110, 0, none⟩)), 0⟩, ⟨(.int .i64 2), (.pointer (some ⟨115, 0, none⟩)), 1⟩, ⟨(.int .i64 9), (.pointer (some ⟨120, 0, none⟩)), 2⟩] 3) .nil .nil)) tr_115)) tr_111
def tr_117 : Tr := .node .dead tr_77 tr_15
def tr_118 : Tr := .node .dead tr_3 tr_19
def tr_119 : Tr := .node .dead tr_3 tr_20
def tr_120 : Tr := .node .dead tr_81 tr_119
def tr_121 : Tr := .node .dead tr_29 (.node .dead tr_61 tr_17)
def tr_122 : Tr := .node ob_11 .nil .nil
def tr_123 : Tr := .node .dead tr_3 tr_122
def tr_124 : Tr := .node .dead tr_7 tr_39
def tr_125 : Tr := .node ob_14 tr_7 tr_3
def tr_126 : Tr := .node .dead tr_22 .nil
def tr_127 : Tr := .node .dead tr_126 (.node (.map [⟨(.int .i64 5), (.pointer (some ⟨110, 0, none⟩)), 0⟩, ⟨(.int .i64 2), (.pointer (some ⟨115, 0, none⟩)), 1⟩, ⟨(.int .i64 7), (.pointer (some ⟨136, 0, none⟩)), 3⟩] 4) .nil .nil)
def tr_128 : Tr := .node .dead (.node (.map [⟨(.int .i64 5), (.pointer (some ⟨7, 0, none⟩)), 0⟩] 5) (.node ob_2 (.node ob_21 (.node .dead tr_30 tr_99) (.node .dead tr_124 tr_112)) (.node .dead (.node ob_12 tr_30 tr_118) (.node .dead tr_87 tr_23))) (.node .dead (.node .dead (.node ob_9 tr_125 tr_15) tr_120) (.node ob_8 tr_37 (.node .dead tr_15 (.node .dead tr_55 tr_3))))) (.node (.cells [(.int .i64 3), (.map (some 1))] 0) (.node .dead (.node ob_5 tr_37 (.node .dead tr_127 tr_115)) (.node ob_13 (.node .dead tr_30 tr_11) (.node .dead tr_93 tr_23))) (.node .dead (.node .dead (.node (.cells [(.bool true)] 0) tr_30 tr_15) tr_121) (.node .dead (.node .dead tr_124 tr_15) (.node .dead tr_123 tr_15))))
def tr_129 : Tr := .node ob_2 tr_7 tr_3
def tr_130 : Tr := .node ob_21 (.node .dead tr_45 (.node .dead tr_7 tr_5)) (.node .dead tr_124 tr_129)
def tr_131 : Tr := .node .dead tr_7 tr_19
def tr_132 : Tr := .node ob_17 tr_3 .nil
def tr_133 : Tr := .node (.cells [(.bool true)] 0) tr_3 .nil
def tr_134 : Tr := .node .dead tr_133 tr_3
def tr_135 : Tr := .node .dead (.node .dead tr_132 tr_3) tr_134
def tr_136 : Tr := .node ob_2 tr_130 (.node .dead (.node ob_12 tr_30 tr_131) tr_135)
def tr_137 : Tr := .node .dead tr_7 tr_20
def tr_138 : Tr := .node .dead (.node .dead tr_7 tr_80) tr_137
def tr_139 : Tr := .node ob_22 tr_3 .nil
def tr_140 : Tr := .node .dead tr_139 tr_3
def tr_141 : Tr := .node ob_8 (.node .dead tr_30 tr_30) (.node .dead tr_30 tr_140)
def tr_142 : Tr := .node .dead (.node ob_24 .nil .nil) .nil
def tr_143 : Tr := .node .dead tr_7 tr_142
def tr_144 : Tr := .node .dead tr_7 tr_12
def tr_145 : Tr := .node ob_5 (.node .dead tr_143 tr_30) (.node .dead tr_127 tr_144)
def tr_146 : Tr := .node .dead tr_7 tr_10
def tr_147 : Tr := .node ob_18 tr_3 .nil
def tr_148 : Tr := .node .dead (.node .dead tr_147 tr_3) tr_134
def tr_149 : Tr := .node .dead tr_145 (.node ob_13 (.node .dead tr_30 tr_146) tr_148)
def tr_150 : Tr := .node ob_23 tr_3 .nil
def tr_151 : Tr := .node .dead tr_150 tr_17
def tr_152 : Tr := .node .dead tr_31 tr_151
def tr_153 : Tr := .node .dead (.node .dead tr_124 tr_30) (.node .dead (.node .dead tr_7 tr_122) tr_30)
def tr_154 : Tr := .node .dead (.node ob_25 .nil .nil) .nil
def tr_155 : Tr := .node ob_14 tr_7 tr_154
def tr_156 : Tr := .node .dead (.node .dead (.node ob_9 tr_155 tr_30) tr_138) tr_141
def tr_157 : Tr := .node .dead tr_7 tr_18
def tr_158 : Tr := .node .dead (.node .dead (.node (.cells [(.bool true)] 0) tr_157 tr_30) tr_152) tr_153
def tr_159 : Tr := .node (.cells [(.int .i64 3), (.map (some 1))] 0) tr_149 tr_158
def tr_160 : Tr := .node ob_12 tr_45 tr_131
def tr_161 : Tr := .node (.map [⟨(.int .i64 5), (.pointer (some ⟨7, 0, none⟩)), 0⟩] 5) (.node ob_2 tr_130 (.node .dead tr_160 tr_135)) tr_156
def tr_162 : Tr := .node .dead tr_7 tr_43
def tr_163 : Tr := .node .dead tr_162 tr_146
def tr_164 : Tr := .node .dead tr_7 tr_14
def tr_165 : Tr := .node .dead tr_45 tr_164
def tr_166 : Tr := .node .dead tr_7 tr_132
def tr_167 : Tr := .node .dead tr_132 tr_7
def tr_168 : Tr := .node ob_9 tr_155 tr_45
def tr_169 : Tr := .node .dead tr_7 (.node (.cells [(.int .i64 3), (.map (some 104))] 0) tr_3 .nil)
def tr_170 : Tr := .node .dead tr_143 tr_45
def tr_171 : Tr := .node .dead tr_126 (.node (.map [⟨(.int .i64 5), (.pointer (some ⟨110, 0, none⟩)), 0⟩, ⟨(.int .i64 2), (.pointer (some ⟨115, 0, none⟩)), 1⟩, ⟨(.int .i64 3), (.pointer (some ⟨178, 0, none⟩)), 4⟩] 5) tr_3 .nil)
def tr_172 : Tr := .node .dead tr_147 tr_7
def tr_173 : Tr := .node (.cells [(.bool true)] 0) tr_157 tr_52
def tr_174 : Tr := .node .dead tr_7 tr_16
def tr_175 : Tr := .node .dead (.node (.map [⟨(.int .i64 5), (.pointer (some ⟨7, 0, none⟩)), 0⟩] 5) (.node ob_2 (.node ob_21 tr_165 (.node .dead tr_166 tr_129)) (.node .dead tr_160 (.node .dead tr_167 tr_134))) (.node .dead (.node .dead tr_168 (.node .dead tr_169 tr_137)) (.node ob_8 tr_53 (.node .dead tr_45 tr_140)))) (.node (.cells [(.int .i64 3), (.map (some 1))] 0) (.node .dead (.node ob_5 tr_170 (.node .dead tr_171 tr_144)) (.node ob_13 tr_163 (.node .dead tr_172 tr_134))) (.node .dead (.node .dead tr_173 (.node .dead tr_47 tr_151)) (.node .dead (.node .dead tr_166 tr_30) (.node .dead tr_174 tr_30))))
def tr_176 : Tr := .node .dead tr_166 (.node ob_2 tr_7 tr_7)
def tr_177 : Tr := .node .dead tr_133 tr_7
def tr_178 : Tr := .node .dead (.node ob_12 tr_45 (.node .dead tr_7 (.node ob_13 tr_3 .nil))) (.node .dead tr_167 tr_177)
def tr_179 : Tr := .node .dead tr_169 (.node .dead tr_7 tr_133)
def tr_180 : Tr := .node ob_8 tr_72 (.node .dead tr_45 (.node .dead tr_139 tr_7))
def tr_181 : Tr := .node .dead tr_171 (.node .dead tr_7 (.node ob_9 tr_3 .nil))
def tr_182 : Tr := .node ob_13 (.node .dead tr_162 (.node .dead tr_7 (.node ob_8 tr_3 .nil))) (.node .dead tr_172 tr_177)
def tr_183 : Tr := .node .dead tr_47 (.node .dead tr_150 (.node ob_12 tr_3 .nil))
def tr_184 : Tr := .node .dead (.node .dead tr_166 tr_45) (.node .dead tr_174 (.node .dead tr_7 (.node .dead (.node (.cells [(.int .i64 5), (.bool true), (.bool true)] 3) .nil .nil) .nil)))
def tr_185 : Tr := .node .dead (.node .dead tr_173 tr_183) tr_184
def tr_186 : Tr := .node (.map [⟨(.int .i64 5), (.pointer (some ⟨7, 0, none⟩)), 0⟩] 5) (.node ob_2 (.node ob_21 (.node .dead (.node .dead (.node .dead tr_3 (.node (.cells [(.int .i64 5), (.bool true), (.bool true)] 0) .nil .nil)) tr_7) tr_164) tr_176) tr_178) (.node .dead (.node .dead (.node ob_9 (.node ob_14 tr_77 tr_154) tr_45) tr_179) tr_180)
def tr_187 : Tr := .node .dead (.node ob_5 (.node .dead (.node .dead tr_119 tr_142) tr_45) tr_181) tr_182
end Go.Proofs.Ytmhnddkpiefkhaa.R

namespace Go.Proofs.Ytmhnddkpiefkhaa.R
open Go Go.Vm
set_option maxRecDepth 100000
def ma_1 : List Value := [(.pointer (some ⟨2, 0, none⟩)), va_1]
def mh_1 : Heap := ⟨4, (.node .dead (.node (.map [] 0) tr_1 .nil) (.node (.cells [(.int .i64 3), (.map (some 1))] 0) .nil .nil))⟩
def mo_1 : List CO := [(.ret (.tuple ⟨[(.int .i64 0), (.int .i64 0)]⟩) ⟨8, (.node .dead tr_4 (.node (.cells [(.int .i64 3), (.map (some 1))] 0) tr_3 tr_3))⟩)]
theorem me_1 : fewOK (xcall Try.prog table.get 1000 60 (.fn 21) ma_1 mh_1) mo_1 = true := by kernel_rfl
def ma_2 : List Value := [(.pointer (some ⟨2, 0, none⟩)), va_4]
def mh_2 : Heap := ⟨9, (.node .dead tr_4 (.node (.cells [(.int .i64 3), (.map (some 1))] 0) (.node .dead tr_5 .nil) tr_3))⟩
def mo_2 : List CO := [(.ret (.tuple ⟨[(.int .i64 0), (.int .i64 0)]⟩) ⟨13, (.node .dead (.node (.map [⟨(.int .i64 5), (.pointer (some ⟨7, 0, none⟩)), 0⟩, ⟨(.int .i64 2), (.pointer (some ⟨12, 0, none⟩)), 1⟩] 2) tr_6 tr_7) tr_9)⟩)]
theorem me_2 : fewOK (xcall Try.prog table.get 1000 60 (.fn 21) ma_2 mh_2) mo_2 = true := by kernel_rfl
def ma_3 : List Value := [(.pointer (some ⟨2, 0, none⟩)), va_7]
def mh_3 : Heap := ⟨14, (.node .dead (.node (.map [⟨(.int .i64 5), (.pointer (some ⟨7, 0, none⟩)), 0⟩, ⟨(.int .i64 2), (.pointer (some ⟨12, 0, none⟩)), 1⟩] 2) tr_6 tr_11) tr_9)⟩
def mo_3 : List CO := [(.ret (.tuple ⟨[(.int .i64 0), (.int .i64 0)]⟩) ⟨18, (.node .dead (.node (.map [⟨(.int .i64 5), (.pointer (some ⟨7, 0, none⟩)), 0⟩, ⟨(.int .i64 2), (.pointer (some ⟨12, 0, none⟩)), 1⟩, ⟨(.int .i64 9), (.pointer (some ⟨17, 0, none⟩)), 2⟩] 3) (.node ob_2 (.node ob_3 tr_3 .nil) tr_3) tr_13) (.node (.cells [(.int .i64 3), (.map (some 1))] 0) (.node .dead tr_14 tr_8) tr_15))⟩)]
theorem me_3 : fewOK (xcall Try.prog table.get 1000 60 (.fn 21) ma_3 mh_3) mo_3 = true := by kernel_rfl
def ma_4 : List Value := [(.pointer (some ⟨2, 0, none⟩)), va_10]
def mh_4 : Heap := ⟨20, (.node .dead (.node (.map [⟨(.int .i64 5), (.pointer (some ⟨7, 0, none⟩)), 0⟩, ⟨(.int .i64 2), (.pointer (some ⟨12, 0, none⟩)), 1⟩, ⟨(.int .i64 9), (.pointer (some ⟨17, 0, none⟩)), 2⟩] 3) (.node ob_2 tr_16 tr_18) tr_13) (.node (.cells [(.int .i64 3), (.map (some 1))] 0) (.node .dead tr_14 tr_19) (.node .dead tr_21 tr_3)))⟩
def mo_4 : List CO := [(.ret (.tuple ⟨[(.int .i64 9), (.int .i64 0)]⟩) ⟨34, tr_24⟩)]
theorem me_4 : fewOK (xcall Try.prog table.get 1000 60 (.fn 21) ma_4 mh_4) mo_4 = true := by kernel_rfl
def ma_5 : List Value := [(.pointer (some ⟨2, 0, none⟩)), (.int .i64 7)]
def mh_5 : Heap := ⟨34, tr_24⟩
def mo_5 : List CO := [(.ret (.tuple ⟨[va_1, (.bool true)]⟩) ⟨55, (.node .dead (.node (.map [⟨(.int .i64 5), (.pointer (some ⟨7, 0, none⟩)), 0⟩, ⟨(.int .i64 2), (.pointer (some ⟨12, 0, none⟩)), 1⟩, ⟨(.int .i64 7), (.pointer (some ⟨33, 0, none⟩)), 3⟩] 4) (.node ob_2 (.node ob_11 tr_15 tr_7) tr_25) tr_26) tr_28)⟩)]
theorem me_5 : fewOK (xcall Try.prog table.get 1000 60 (.fn 10) ma_5 mh_5) mo_5 = true := by kernel_rfl
def ma_6 : List Value := [(.pointer (some ⟨2, 0, none⟩)), (.int .i64 5)]
def mh_6 : Heap := ⟨56, (.node .dead (.node (.map [⟨(.int .i64 5), (.pointer (some ⟨7, 0, none⟩)), 0⟩, ⟨(.int .i64 2), (.pointer (some ⟨12, 0, none⟩)), 1⟩, ⟨(.int .i64 7), (.pointer (some ⟨33, 0, none⟩)), 3⟩] 4) (.node ob_2 (.node ob_11 tr_15 tr_29) tr_25) tr_26) tr_28)⟩
def mo_6 : List CO := [(.ret (.tuple ⟨[va_15, (.bool false)]⟩) ⟨75, (.node .dead (.node (.map [⟨(.int .i64 5), (.pointer (some ⟨7, 0, none⟩)), 0⟩, ⟨(.int .i64 2), (.pointer (some ⟨12, 0, none⟩)), 1⟩, ⟨(.int .i64 7), (.pointer (some ⟨33, 0, none⟩)), 3⟩] 4) (.node ob_2 tr_32 (.node .dead tr_33 tr_15)) tr_35) (.node (.cells [(.int .i64 3), (.map (some 1))] 0) (.node .dead tr_36 (.node ob_13 tr_30 tr_15)) tr_38))⟩)]
theorem me_6 : fewOK (xcall Try.prog table.get 1000 60 (.fn 10) ma_6 mh_6) mo_6 = true := by kernel_rfl
end Go.Proofs.Ytmhnddkpiefkhaa.R

namespace Go.Proofs.Ytmhnddkpiefkhaa.R
open Go Go.Vm
set_option maxRecDepth 100000
def ma_7 : List Value := [(.pointer (some ⟨2, 0, none⟩)), va_16]
def mh_7 : Heap := ⟨77, (.node .dead (.node (.map [⟨(.int .i64 5), (.pointer (some ⟨7, 0, none⟩)), 0⟩, ⟨(.int .i64 2), (.pointer (some ⟨12, 0, none⟩)), 1⟩, ⟨(.int .i64 7), (.pointer (some ⟨33, 0, none⟩)), 3⟩] 4) (.node ob_2 tr_32 (.node .dead tr_33 tr_41)) tr_35) (.node (.cells [(.int .i64 3), (.map (some 1))] 0) (.node .dead tr_36 (.node ob_13 tr_30 tr_44)) tr_38))⟩
def mo_7 : List CO := [(.ret (.tuple ⟨[(.int .i64 7), (.int .i64 0)]⟩) ⟨91, (.node .dead (.node (.map [⟨(.int .i64 5), (.pointer (some ⟨7, 0, none⟩)), 0⟩, ⟨(.int .i64 2), (.pointer (some ⟨12, 0, none⟩)), 1⟩, ⟨(.int .i64 3), (.pointer (some ⟨90, 0, none⟩)), 4⟩] 5) (.node ob_2 (.node ob_11 tr_45 tr_47) (.node .dead tr_48 tr_41)) (.node .dead tr_49 (.node ob_8 tr_45 tr_30))) (.node (.cells [(.int .i64 3), (.map (some 1))] 0) (.node .dead tr_50 (.node ob_13 tr_45 tr_44)) (.node .dead (.node .dead tr_51 tr_52) tr_53)))⟩)]
theorem me_7 : fewOK (xcall Try.prog table.get 1000 60 (.fn 21) ma_7 mh_7) mo_7 = true := by kernel_rfl
def ma_8 : List Value := [(.pointer (some ⟨2, 0, none⟩)), va_20]
def mh_8 : Heap := ⟨94, (.node .dead (.node (.map [⟨(.int .i64 5), (.pointer (some ⟨7, 0, none⟩)), 0⟩, ⟨(.int .i64 2), (.pointer (some ⟨12, 0, none⟩)), 1⟩, ⟨(.int .i64 3), (.pointer (some ⟨90, 0, none⟩)), 4⟩] 5) (.node ob_2 (.node ob_21 tr_45 tr_47) (.node .dead tr_48 tr_54)) (.node .dead tr_49 tr_58)) (.node (.cells [(.int .i64 3), (.map (some 1))] 0) (.node .dead tr_50 tr_60) (.node .dead (.node .dead tr_51 tr_63) tr_53)))⟩
def mo_8 : List CO := [(.ret (.tuple ⟨[(.int .i64 0), (.int .i64 7)]⟩) ⟨100, tr_74⟩)]
theorem me_8 : fewOK (xcall Try.prog table.get 1000 60 (.fn 21) ma_8 mh_8) mo_8 = true := by kernel_rfl
def ma_9 : List Value := [(.pointer (some ⟨2, 0, none⟩)), (.int .i64 5)]
def mh_9 : Heap := ⟨100, tr_74⟩
def mo_9 : List CO := [(.ret (.tuple ⟨[]⟩) ⟨102, (.node .dead (.node (.map [⟨(.int .i64 5), (.pointer (some ⟨7, 0, none⟩)), 0⟩] 5) tr_66 (.node .dead tr_69 tr_75)) (.node (.cells [(.int .i64 3), (.map (some 1))] 0) (.node .dead tr_70 tr_76) tr_73))⟩)]
theorem me_9 : fewOK (xcall Try.prog table.get 1000 60 (.fn 13) ma_9 mh_9) mo_9 = true := by kernel_rfl
def ma_10 : List Value := [(.pointer (some ⟨105, 0, none⟩)), va_1]
def mh_10 : Heap := ⟨107, (.node .dead (.node (.map [⟨(.int .i64 5), (.pointer (some ⟨7, 0, none⟩)), 0⟩] 5) (.node ob_2 tr_79 tr_65) (.node .dead tr_83 tr_75)) (.node (.cells [(.int .i64 3), (.map (some 1))] 0) (.node .dead (.node ob_5 tr_27 (.node .dead (.node .dead tr_3 (.node (.map [] 0) .nil .nil)) tr_7)) tr_76) (.node .dead tr_85 (.node .dead tr_86 tr_45))))⟩
def mo_10 : List CO := [(.ret (.tuple ⟨[(.int .i64 0), (.int .i64 0)]⟩) ⟨111, (.node .dead (.node (.map [⟨(.int .i64 5), (.pointer (some ⟨7, 0, none⟩)), 0⟩] 5) (.node ob_2 tr_79 tr_89) tr_92) tr_98)⟩)]
theorem me_10 : fewOK (xcall Try.prog table.get 1000 60 (.fn 21) ma_10 mh_10) mo_10 = true := by kernel_rfl
def ma_11 : List Value := [(.pointer (some ⟨105, 0, none⟩)), va_4]
def mh_11 : Heap := ⟨112, (.node .dead (.node (.map [⟨(.int .i64 5), (.pointer (some ⟨7, 0, none⟩)), 0⟩] 5) (.node ob_2 tr_101 tr_89) tr_92) tr_98)⟩
def mo_11 : List CO := [(.ret (.tuple ⟨[(.int .i64 0), (.int .i64 0)]⟩) ⟨116, (.node .dead tr_105 (.node (.cells [(.int .i64 3), (.map (some 1))] 0) (.node .dead tr_107 tr_95) tr_110))⟩)]
theorem me_11 : fewOK (xcall Try.prog table.get 1000 60 (.fn 21) ma_11 mh_11) mo_11 = true := by kernel_rfl
def ma_12 : List Value := [(.pointer (some ⟨105, 0, none⟩)), va_7]
def mh_12 : Heap := ⟨117, (.node .dead tr_105 (.node (.cells [(.int .i64 3), (.map (some 1))] 0) (.node .dead tr_107 tr_111) tr_110))⟩
def mo_12 : List CO := [(.ret (.tuple ⟨[(.int .i64 0), (.int .i64 0)]⟩) ⟨121, (.node .dead (.node (.map [⟨(.int .i64 5), (.pointer (some ⟨7, 0, none⟩)), 0⟩] 5) (.node ob_2 tr_113 tr_102) (.node .dead tr_104 tr_114)) (.node (.cells [(.int .i64 3), (.map (some 1))] 0) tr_116 (.node .dead tr_109 (.node .dead tr_117 tr_96))))⟩)]
theorem me_12 : fewOK (xcall Try.prog table.get 1000 60 (.fn 21) ma_12 mh_12) mo_12 = true := by kernel_rfl
end Go.Proofs.Ytmhnddkpiefkhaa.R

namespace Go.Proofs.Ytmhnddkpiefkhaa.R
open Go Go.Vm
set_option maxRecDepth 100000
def ma_13 : List Value := [(.pointer (some ⟨105, 0, none⟩)), va_10]
def mh_13 : Heap := ⟨123, (.node .dead (.node (.map [⟨(.int .i64 5), (.pointer (some ⟨7, 0, none⟩)), 0⟩] 5) (.node ob_2 tr_113 (.node .dead (.node ob_12 tr_15 tr_118) tr_88)) (.node .dead (.node .dead tr_103 tr_120) tr_114)) (.node (.cells [(.int .i64 3), (.map (some 1))] 0) tr_116 (.node .dead (.node .dead tr_108 tr_121) (.node .dead tr_117 (.node .dead tr_123 tr_7)))))⟩
def mo_13 : List CO := [(.ret (.tuple ⟨[(.int .i64 9), (.int .i64 0)]⟩) ⟨137, tr_128⟩)]
theorem me_13 : fewOK (xcall Try.prog table.get 1000 60 (.fn 21) ma_13 mh_13) mo_13 = true := by kernel_rfl
def ma_14 : List Value := [(.pointer (some ⟨105, 0, none⟩))]
def mh_14 : Heap := ⟨137, tr_128⟩
def mo_14 : List CO := [(.ret (.slice (some ⟨160, 0, (some 0)⟩) 3 3) ⟨161, (.node .dead (.node (.map [⟨(.int .i64 5), (.pointer (some ⟨7, 0, none⟩)), 0⟩] 5) tr_136 (.node .dead (.node .dead (.node ob_9 tr_125 tr_30) tr_138) tr_141)) (.node (.cells [(.int .i64 3), (.map (some 1))] 0) tr_149 (.node .dead (.node .dead (.node (.cells [(.bool true)] 0) tr_30 tr_30) tr_152) tr_153)))⟩)]
theorem me_14 : fewOK (xcall Try.prog table.get 1000 60 (.fn 17) ma_14 mh_14) mo_14 = true := by kernel_rfl
def ma_15 : List Value := [(.pointer (some ⟨105, 0, none⟩)), va_10]
def mh_15 : Heap := ⟨163, (.node .dead (.node (.map [⟨(.int .i64 5), (.pointer (some ⟨7, 0, none⟩)), 0⟩] 5) tr_136 tr_156) tr_159)⟩
def mo_15 : List CO := [(.ret (.tuple ⟨[(.int .i64 0), (.int .i64 8)]⟩) ⟨164, (.node .dead tr_161 tr_159)⟩)]
theorem me_15 : fewOK (xcall Try.prog table.get 1000 60 (.fn 21) ma_15 mh_15) mo_15 = true := by kernel_rfl
def ma_16 : List Value := [(.pointer (some ⟨105, 0, none⟩)), va_16]
def mh_16 : Heap := ⟨165, (.node .dead tr_161 (.node (.cells [(.int .i64 3), (.map (some 1))] 0) (.node .dead tr_145 (.node ob_13 tr_163 tr_148)) tr_158))⟩
def mo_16 : List CO := [(.ret (.tuple ⟨[(.int .i64 7), (.int .i64 0)]⟩) ⟨179, tr_175⟩)]
theorem me_16 : fewOK (xcall Try.prog table.get 1000 60 (.fn 21) ma_16 mh_16) mo_16 = true := by kernel_rfl
def ma_17 : List Value := [(.pointer (some ⟨2, 0, none⟩))]
def mh_17 : Heap := ⟨179, tr_175⟩
def mo_17 : List CO := [(.ret (.slice (some ⟨190, 0, (some 0)⟩) 1 1) ⟨191, (.node .dead (.node (.map [⟨(.int .i64 5), (.pointer (some ⟨7, 0, none⟩)), 0⟩] 5) (.node ob_2 (.node ob_21 tr_165 tr_176) tr_178) (.node .dead (.node .dead tr_168 tr_179) tr_180)) (.node (.cells [(.int .i64 3), (.map (some 1))] 0) (.node .dead (.node ob_5 tr_170 tr_181) tr_182) tr_185))⟩)]
theorem me_17 : fewOK (xcall Try.prog table.get 1000 60 (.fn 17) ma_17 mh_17) mo_17 = true := by kernel_rfl
def ma_18 : List Value := [(.pointer (some ⟨2, 0, none⟩)), va_15]
def mh_18 : Heap := ⟨194, (.node .dead tr_186 (.node (.cells [(.int .i64 3), (.map (some 1))] 0) tr_187 tr_185))⟩
def mo_18 : List CO := [(.ret (.tuple ⟨[(.int .i64 0), (.int .i64 13)]⟩) ⟨195, (.node .dead tr_186 (.node (.cells [(.int .i64 3), (.map (some 1))] 0) tr_187 (.node .dead (.node .dead (.node (.cells [(.bool true)] 0) (.node .dead tr_15 tr_18) tr_52) tr_183) tr_184)))⟩)]
theorem me_18 : fewOK (xcall Try.prog table.get 1000 60 (.fn 21) ma_18 mh_18) mo_18 = true := by kernel_rfl
end Go.Proofs.Ytmhnddkpiefkhaa.R

namespace Go.Proofs.Ytmhnddkpiefkhaa.R
open Go Go.Vm
set_option maxRecDepth 100000
def memo_10 : Memo := [(ma_5, mh_5, mo_5), (ma_6, mh_6, mo_6)]
theorem memo_10_ok : MemoF Try.prog 10 memo_10 := MemoF.cons (TT.table_ok table_all) me_5 (MemoF.cons (TT.table_ok table_all) me_6 (MemoF.nil))
def memo_13 : Memo := [(ma_9, mh_9, mo_9)]
theorem memo_13_ok : MemoF Try.prog 13 memo_13 := MemoF.cons (TT.table_ok table_all) me_9 (MemoF.nil)
def memo_17 : Memo := [(ma_14, mh_14, mo_14), (ma_17, mh_17, mo_17)]
theorem memo_17_ok : MemoF Try.prog 17 memo_17 := MemoF.cons (TT.table_ok table_all) me_14 (MemoF.cons (TT.table_ok table_all) me_17 (MemoF.nil))
def memo_21 : Memo := [(ma_1, mh_1, mo_1), (ma_2, mh_2, mo_2), (ma_3, mh_3, mo_3), (ma_4, mh_4, mo_4), (ma_7, mh_7, mo_7), (ma_8, mh_8, mo_8), (ma_10, mh_10, mo_10), (ma_11, mh_11, mo_11), (ma_12, mh_12, mo_12), (ma_13, mh_13, mo_13), (ma_15, mh_15, mo_15), (ma_16, mh_16, mo_16), (ma_18, mh_18, mo_18)]
theorem memo_21_ok : MemoF Try.prog 21 memo_21 := MemoF.cons (TT.table_ok table_all) me_1 (MemoF.cons (TT.table_ok table_all) me_2 (MemoF.cons (TT.table_ok table_all) me_3 (MemoF.cons (TT.table_ok table_all) me_4 (MemoF.cons (TT.table_ok table_all) me_7 (MemoF.cons (TT.table_ok table_all) me_8 (MemoF.cons (TT.table_ok table_all) me_10 (MemoF.cons (TT.table_ok table_all) me_11 (MemoF.cons (TT.table_ok table_all) me_12 (MemoF.cons (TT.table_ok table_all) me_13 (MemoF.cons (TT.table_ok table_all) me_15 (MemoF.cons (TT.table_ok table_all) me_16 (MemoF.cons (TT.table_ok table_all) me_18 (MemoF.nil)))))))))))))
def tab : Table := (withMemo (withMemo (withMemo (withMemo table.get 10 memo_10) 13 memo_13) 17 memo_17) 21 memo_21)
theorem tab_ok : TableOK Try.prog tab := (withMemoF_ok (Checked.mixed Try.checked) (withMemoF_ok (Checked.mixed Try.checked) (withMemoF_ok (Checked.mixed Try.checked) (withMemoF_ok (Checked.mixed Try.checked) (TT.table_ok table_all) memo_10_ok) memo_13_ok) memo_17_ok) memo_21_ok)
end Go.Proofs.Ytmhnddkpiefkhaa.R
