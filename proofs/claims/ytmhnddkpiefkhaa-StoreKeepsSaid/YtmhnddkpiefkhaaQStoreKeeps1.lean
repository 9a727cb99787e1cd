/- Contracts of functions, over the machine. -/
import Derived.Test.YtmhnddkpiefkhaaRows
import Derived.Test.YtmhnddkpiefkhaaVJ
import Derived.Test.YtmhnddkpiefkhaaVL
import Derived.Test.YtmhnddkpiefkhaaVK
namespace Go.Vm
abbrev U : Value := undef
abbrev tm (n : Nat) : Operand := .tmp n
abbrev k0 : Operand := .const (.int .i64 0)
abbrev o1 (d : Nat) (x : AOp) : AOper := ⟨some d, x, none, [], false⟩
abbrev o2 (d : Nat) (x : AOp) : AOper := ⟨some d, x, none, [], true⟩
abbrev o3 (x : AOp) : AOper := ⟨none, x, none, [], false⟩
abbrev o4 (d : Nat) (x : AOp) (t : Nat) : AOper := ⟨some d, x, some (t, true), [], false⟩
abbrev o5 (d : Nat) (x : AOp) (t : Nat) : AOper := ⟨some d, x, some (t, false), [], false⟩
end Go.Vm
set_option linter.unusedSimpArgs false
noncomputable section
set_option maxRecDepth 100000
set_option linter.unusedVariables false
namespace Go.Proofs.Ytmhnddkpiefkhaa.R
open Go Go.Vm
abbrev ty_internal_abi_BoundsErrorCode : TypeId := 6
abbrev ty_runtime_boundsError : TypeId := 8
abbrev ty_runtime_errorString : TypeId := 10
abbrev ty_runtime_plainError : TypeId := 11
abbrev ty_runtime_errorAddressString : TypeId := 14
abbrev ty_internal_runtime_maps_unhashableTypeError : TypeId := 19
abbrev ty_api_Errno : TypeId := 24
abbrev ty_api_Hash : TypeId := 28
abbrev ty_api_Header : TypeId := 30
abbrev ty_api_Commit : TypeId := 33
abbrev ty_api_Block : TypeId := 36
abbrev ty_api_Kept : TypeId := 47
abbrev ty_ll22_Act : TypeId := 53
abbrev ty_lr22_Store : TypeId := 69
abbrev ty_store_Store : TypeId := 75
abbrev ty_store_kept : TypeId := 82
abbrev ty_store_heights : TypeId := 101
abbrev ty_iter_Seq_int_ : TypeId := 104
abbrev ty_api_Key : TypeId := 111
abbrev ty_api_Validator : TypeId := 113
abbrev ty_api_Vote : TypeId := 117
abbrev ty_iter_Seq__store_kept_ : TypeId := 119
abbrev ty_container_heap_Interface : TypeId := 126
abbrev ty_runtime_TypeAssertionError : TypeId := 134
abbrev ty_runtime_PanicNilError : TypeId := 137
abbrev ty_internal_abi_TFlag : TypeId := 139
abbrev ty_internal_abi_Kind : TypeId := 140
abbrev ty_internal_abi_NameOff : TypeId := 143
abbrev ty_internal_abi_TypeOff : TypeId := 144
abbrev ty_internal_abi_Type : TypeId := 146
instance : IsIface Try.prog 20 := ⟨by kernel_rfl⟩
instance : IsIface Try.prog 125 := ⟨by kernel_rfl⟩
instance : IsIface Try.prog 126 := ⟨by kernel_rfl⟩
abbrev prims : List FuncId := []
abbrev kepts : List FuncId := []
def T0 : Table := withKept (withTrue Try.prog prims) kepts
instance : IsBoolT Try.prog 4 := ⟨by kernel_rfl⟩
instance : TLeaves Try.prog 7 (.i .i64 :: (.i .i64 :: (.b :: (.i .u8 :: [])))) := ⟨by kernel_rfl, by kernel_rfl, by kernel_rfl⟩
instance : TLeaves Try.prog 8 (.i .i64 :: (.i .i64 :: (.b :: (.i .u8 :: [])))) := ⟨by kernel_rfl, by kernel_rfl, by kernel_rfl⟩
instance : TLeaves Try.prog 27 (u8s 32) := ⟨by kernel_rfl, by kernel_rfl, by kernel_rfl⟩
instance : TLeaves Try.prog 28 (u8s 32) := ⟨by kernel_rfl, by kernel_rfl, by kernel_rfl⟩
instance : TLeaves Try.prog 29 (.s :: (.i .i64 :: (.i .i64 :: (u8s 32 ++ (u8s 32 ++ (u8s 32 ++ (u8s 32))))))) := ⟨by kernel_rfl, by kernel_rfl, by kernel_rfl⟩
instance : TLeaves Try.prog 30 (.s :: (.i .i64 :: (.i .i64 :: (u8s 32 ++ (u8s 32 ++ (u8s 32 ++ (u8s 32))))))) := ⟨by kernel_rfl, by kernel_rfl, by kernel_rfl⟩
instance : TLeaves Try.prog 46 (.i .i64 :: (.b :: (.b :: []))) := ⟨by kernel_rfl, by kernel_rfl, by kernel_rfl⟩
instance : TLeaves Try.prog 47 (.i .i64 :: (.b :: (.b :: []))) := ⟨by kernel_rfl, by kernel_rfl, by kernel_rfl⟩
instance : TLeaves Try.prog 110 (u8s 4) := ⟨by kernel_rfl, by kernel_rfl, by kernel_rfl⟩
instance : TLeaves Try.prog 111 (u8s 4) := ⟨by kernel_rfl, by kernel_rfl, by kernel_rfl⟩
instance : TLeaves Try.prog 112 (u8s 4 ++ (.i .i64 :: [])) := ⟨by kernel_rfl, by kernel_rfl, by kernel_rfl⟩
instance : TLeaves Try.prog 113 (u8s 4 ++ (.i .i64 :: [])) := ⟨by kernel_rfl, by kernel_rfl, by kernel_rfl⟩
instance : TLeaves Try.prog 116 (.i .i64 :: (.i .u64 :: [])) := ⟨by kernel_rfl, by kernel_rfl, by kernel_rfl⟩
instance : TLeaves Try.prog 117 (.i .i64 :: (.i .u64 :: [])) := ⟨by kernel_rfl, by kernel_rfl, by kernel_rfl⟩
abbrev fn_zkQ : FuncId := 3
def zkQ_c : ACode :=
  (.seq (.region [
      ⟨(some 0), .mov (.const (.bool false)), none, [], false⟩]) (.seq (.region [
      ⟨(some 12), .callV (.func 8) [], none, [], false⟩,
      ⟨(some 1), .mov (.tmp 12), none, [], false⟩]) (.seq (.region [
      ⟨(some 14), .callV (.func 9) [(.const (.int .i64 0))], none, [], false⟩,
      ⟨(some 13), .mov (.tmp 14), none, [], false⟩,
      ⟨(some 15), .extract 0 (.tmp 13), none, [], false⟩,
      ⟨(some 16), .extract 1 (.tmp 13), none, [], false⟩,
      ⟨(some 2), .mov (.tmp 15), none, [], false⟩,
      ⟨(some 3), .mov (.tmp 16), none, [], false⟩]) (.seq (.region [
      ⟨(some 18), .callV (.func 9) [(.const (.int .i64 4097))], none, [], false⟩,
      ⟨(some 17), .mov (.tmp 18), none, [], false⟩,
      ⟨(some 19), .extract 0 (.tmp 17), none, [], false⟩,
      ⟨(some 20), .extract 1 (.tmp 17), none, [], false⟩,
      ⟨(some 4), .mov (.tmp 19), none, [], false⟩,
      ⟨(some 5), .mov (.tmp 20), none, [], false⟩]) (.seq (.seq (.region [
      ⟨(some 21), .mov (.tmp 1), none, [], false⟩,
      ⟨(some 22), .eq .ptr false (so (.binOp .eql 22 (.tmp 21) (.const (.pointer none)) 22) 4) (.tmp 21) (.const (.pointer none)), none, [], false⟩,
      ⟨(some 23), .mov (.tmp 22), none, [], false⟩,
      ⟨(some 24), .mov (.tmp 3), (some (23, false)), [], false⟩,
      ⟨(some 25), .bin .neq (so (.binOp .neq 24 (.tmp 24) (.const (.int .i64 3)) 24) 4) (.tmp 24) (.const (.int .i64 3)), (some (23, false)), [], false⟩,
      ⟨(some 26), .pick (.tmp 23) (.const (.bool true)) (.tmp 25), none, [], false⟩,
      ⟨(some 27), .mov (.tmp 26), none, [], false⟩,
      ⟨(some 28), .mov (.tmp 5), (some (27, false)), [], false⟩,
      ⟨(some 29), .bin .neq (so (.binOp .neq 24 (.tmp 28) (.const (.int .i64 3)) 24) 4) (.tmp 28) (.const (.int .i64 3)), (some (27, false)), [], false⟩,
      ⟨(some 30), .pick (.tmp 27) (.const (.bool true)) (.tmp 29), none, [], false⟩]) (.cond (.tmp 30)
    (.seq (.region [
      ⟨(some 0), .mov (.const (.bool false)), none, [], false⟩]) .ret)
    .skip)) (.seq (.region [
      ⟨(some 32), .mov (.tmp 1), none, [], false⟩,
      ⟨(some 33), .callV (.func 10) [(.tmp 32), (.const (.int .i64 7))], none, [], false⟩,
      ⟨(some 31), .mov (.tmp 33), none, [], false⟩,
      ⟨(some 34), .extract 0 (.tmp 31), none, [], false⟩,
      ⟨(some 35), .extract 1 (.tmp 31), none, [], false⟩,
      ⟨(some 6), .alloc 36 ((.string ⟨⟨[]⟩⟩) :: ((.int .i64 0) :: ((.int .i64 0) :: (z32 ++ (z32 ++ (z32 ++ (z32 ++ ((.int .i64 0) :: (z32 ++ [(.slice none 0 0), (.slice none 0 0)]))))))))), none, [], false⟩,
      ⟨none, .store 166 (.tmp 6) (.tmp 34), none, [], false⟩,
      ⟨(some 7), .mov (.tmp 35), none, [], false⟩]) (.seq (.region [
      ⟨(some 37), .mov (.tmp 1), none, [], false⟩,
      ⟨(some 38), .callV (.func 10) [(.tmp 37), (.const (.int .i64 5))], none, [], false⟩,
      ⟨(some 36), .mov (.tmp 38), none, [], false⟩,
      ⟨(some 39), .extract 0 (.tmp 36), none, [], false⟩,
      ⟨(some 40), .extract 1 (.tmp 36), none, [], false⟩,
      ⟨(some 8), .alloc 36 ((.string ⟨⟨[]⟩⟩) :: ((.int .i64 0) :: ((.int .i64 0) :: (z32 ++ (z32 ++ (z32 ++ (z32 ++ ((.int .i64 0) :: (z32 ++ [(.slice none 0 0), (.slice none 0 0)]))))))))), none, [], false⟩,
      ⟨none, .store 166 (.tmp 8) (.tmp 39), none, [], false⟩,
      ⟨(some 9), .mov (.tmp 40), none, [], false⟩]) (.seq (.seq (.region [
      ⟨(some 41), .mov (.tmp 7), none, [], false⟩,
      ⟨(some 42), .raw (so (.unOp .not 4 (.tmp 41)) 4), none, [], false⟩,
      ⟨(some 43), .mov (.tmp 42), none, [], false⟩,
      ⟨(some 44), .fieldAddr 0 (.tmp 6), (some (43, false)), [], false⟩,
      ⟨(some 45), .fieldAddr 1 (.tmp 44), (some (43, false)), [], false⟩,
      ⟨(some 46), .load none (.tmp 45), (some (43, false)), [], false⟩,
      ⟨(some 47), .bin .neq (so (.binOp .neq 3 (.tmp 46) (.const (.int .i64 5)) 3) 4) (.tmp 46) (.const (.int .i64 5)), (some (43, false)), [], false⟩,
      ⟨(some 48), .pick (.tmp 43) (.const (.bool true)) (.tmp 47), none, [], false⟩,
      ⟨(some 49), .mov (.tmp 48), none, [], false⟩,
      ⟨(some 50), .mov (.tmp 9), (some (49, false)), [], false⟩,
      ⟨(some 51), .pick (.tmp 49) (.const (.bool true)) (.tmp 50), none, [], false⟩,
      ⟨(some 52), .mov (.tmp 51), none, [], false⟩,
      ⟨(some 53), .mov (.tmp 1), (some (52, false)), [], false⟩,
      ⟨(some 54), .callV (.func 11) [(.tmp 53), (.const (.int .i64 3)), (.const (.int .i64 7)), (.const (.int .i64 0))], (some (52, false)), [], false⟩,
      ⟨(some 55), .raw (so (.unOp .not 4 (.tmp 54)) 4), (some (52, false)), [], false⟩,
      ⟨(some 56), .pick (.tmp 52) (.const (.bool true)) (.tmp 55), none, [], false⟩,
      ⟨(some 57), .mov (.tmp 56), none, [], false⟩,
      ⟨(some 58), .mov (.tmp 1), (some (57, false)), [], false⟩,
      ⟨(some 59), .callV (.func 12) [(.tmp 58), (.const (.int .i64 3)), (.const (.bool true))], (some (57, false)), [], false⟩,
      ⟨(some 60), .bin .neq (so (.binOp .neq 24 (.tmp 59) (.const (.int .i64 0)) 24) 4) (.tmp 59) (.const (.int .i64 0)), (some (57, false)), [], false⟩,
      ⟨(some 61), .pick (.tmp 57) (.const (.bool true)) (.tmp 60), none, [], false⟩,
      ⟨(some 62), .mov (.tmp 61), none, [], false⟩,
      ⟨(some 63), .mov (.tmp 1), (some (62, false)), [], false⟩,
      ⟨(some 64), .callV (.func 12) [(.tmp 63), (.const (.int .i64 5)), (.const (.bool true))], (some (62, false)), [], false⟩,
      ⟨(some 65), .bin .neq (so (.binOp .neq 24 (.tmp 64) (.const (.int .i64 0)) 24) 4) (.tmp 64) (.const (.int .i64 0)), (some (62, false)), [], false⟩,
      ⟨(some 66), .pick (.tmp 62) (.const (.bool true)) (.tmp 65), none, [], false⟩,
      ⟨(some 67), .mov (.tmp 66), none, [], false⟩,
      ⟨(some 68), .mov (.tmp 1), (some (67, false)), [], false⟩,
      ⟨(some 69), .callV (.func 11) [(.tmp 68), (.const (.int .i64 4)), (.const (.int .i64 0)), (.const (.int .i64 7))], (some (67, false)), [], false⟩,
      ⟨(some 70), .raw (so (.unOp .not 4 (.tmp 69)) 4), (some (67, false)), [], false⟩,
      ⟨(some 71), .pick (.tmp 67) (.const (.bool true)) (.tmp 70), none, [], false⟩]) (.cond (.tmp 71)
    (.seq (.region [
      ⟨(some 0), .mov (.const (.bool false)), none, [], false⟩]) .ret)
    .skip)) (.seq (.region [
      ⟨(some 72), .mov (.tmp 1), none, [], false⟩,
      ⟨(some 73), .callV (.func 13) [(.tmp 72), (.const (.int .i64 5))], none, [], false⟩]) (.seq (.region [
      ⟨(some 75), .mov (.tmp 1), none, [], false⟩,
      ⟨(some 76), .callV (.func 14) [(.tmp 75), (.const (.int .i64 2))], none, [], false⟩,
      ⟨(some 74), .mov (.tmp 76), none, [], false⟩,
      ⟨(some 77), .extract 0 (.tmp 74), none, [], false⟩,
      ⟨(some 78), .extract 1 (.tmp 74), none, [], false⟩,
      ⟨(some 10), .alloc 36 ((.string ⟨⟨[]⟩⟩) :: ((.int .i64 0) :: ((.int .i64 0) :: (z32 ++ (z32 ++ (z32 ++ (z32 ++ ((.int .i64 0) :: (z32 ++ [(.slice none 0 0), (.slice none 0 0)]))))))))), none, [], false⟩,
      ⟨none, .store 166 (.tmp 10) (.tmp 77), none, [], false⟩,
      ⟨(some 11), .mov (.tmp 78), none, [], false⟩]) (.seq (.region [
      ⟨(some 79), .callV (.func 15) [], none, [], false⟩,
      ⟨(some 80), .mov (.tmp 79), none, [], false⟩,
      ⟨(some 81), .mov (.tmp 11), (some (80, true)), [], false⟩,
      ⟨(some 82), .raw (so (.unOp .not 4 (.tmp 81)) 4), (some (80, true)), [], false⟩,
      ⟨(some 83), .pick (.tmp 80) (.tmp 82) (.const (.bool false)), none, [], false⟩,
      ⟨(some 84), .mov (.tmp 83), none, [], false⟩,
      ⟨(some 85), .mov (.tmp 1), (some (84, true)), [], false⟩,
      ⟨(some 86), .callV (.func 17) [(.tmp 85)], (some (84, true)), [], false⟩,
      ⟨(some 87), .build [(.int .i64 0), (.bool false), (.bool false)] [(0, 1, (.const (.int .i64 5))), (1, 1, (.const (.bool true))), (2, 1, (.const (.bool true)))], (some (84, true)), [], false⟩,
      ⟨(some 88), .buildSlice 47 [(.int .i64 0), (.bool false), (.bool false)] 1 [(0, 3, (.tmp 87))], (some (84, true)), [], false⟩,
      ⟨(some 89), .callV (.func 16) [(.tmp 86), (.tmp 88)], (some (84, true)), [], false⟩,
      ⟨(some 90), .pick (.tmp 84) (.tmp 89) (.const (.bool false)), none, [], false⟩,
      ⟨(some 91), .mov (.tmp 90), none, [], false⟩,
      ⟨(some 92), .mov (.tmp 1), (some (91, true)), [], false⟩,
      ⟨(some 93), .callV (.func 12) [(.tmp 92), (.const (.int .i64 1)), (.const (.bool true))], (some (91, true)), [], false⟩,
      ⟨(some 94), .bin .eql (so (.binOp .eql 24 (.tmp 93) (.const (.int .i64 10)) 24) 4) (.tmp 93) (.const (.int .i64 10)), (some (91, true)), [], false⟩,
      ⟨(some 95), .pick (.tmp 91) (.tmp 94) (.const (.bool false)), none, [], false⟩,
      ⟨(some 96), .mov (.tmp 95), none, [], false⟩,
      ⟨(some 97), .mov (.tmp 1), (some (96, true)), [], false⟩,
      ⟨(some 98), .callV (.func 18) [(.tmp 97), (.const (.int .i64 1))], (some (96, true)), [], false⟩,
      ⟨(some 99), .bin .eql (so (.binOp .eql 24 (.tmp 98) (.const (.int .i64 10)) 24) 4) (.tmp 98) (.const (.int .i64 10)), (some (96, true)), [], false⟩,
      ⟨(some 100), .pick (.tmp 96) (.tmp 99) (.const (.bool false)), none, [], false⟩,
      ⟨(some 101), .mov (.tmp 100), none, [], false⟩,
      ⟨(some 102), .mov (.tmp 1), (some (101, true)), [], false⟩,
      ⟨(some 103), .callV (.func 11) [(.tmp 102), (.const (.int .i64 0)), (.const (.int .i64 0)), (.const (.int .i64 13))], (some (101, true)), [], false⟩,
      ⟨(some 104), .pick (.tmp 101) (.tmp 103) (.const (.bool false)), none, [], false⟩,
      ⟨(some 0), .mov (.tmp 104), none, [], false⟩]) .ret)))))))))))
def zkQ : AFunc := ⟨105, [(0, none)], zkQ_c, none⟩
theorem zkQ_t0 : tableOf Try.prog 3 = some zkQ := by kernel_rfl
def zmQ_c : ACode :=
  (.seq (.region [
      ⟨(some 0), .mov (.const (.pointer none)), none, [], false⟩]) (.seq (.region [
      ⟨(some 4), .callV (.func 9) [(.const (.int .i64 3))], none, [], false⟩,
      ⟨(some 3), .mov (.tmp 4), none, [], false⟩,
      ⟨(some 5), .extract 0 (.tmp 3), none, [], false⟩,
      ⟨(some 6), .extract 1 (.tmp 3), none, [], false⟩,
      ⟨(some 1), .mov (.tmp 5), none, [], false⟩,
      ⟨(some 2), .mov (.tmp 6), none, [], false⟩]) (.seq (.seq (.region [
      ⟨(some 7), .mov (.tmp 2), none, [], false⟩,
      ⟨(some 8), .bin .neq (so (.binOp .neq 24 (.tmp 7) (.const (.int .i64 0)) 24) 4) (.tmp 7) (.const (.int .i64 0)), none, [], false⟩,
      ⟨(some 9), .mov (.tmp 8), none, [], false⟩,
      ⟨(some 10), .mov (.tmp 1), (some (9, false)), [], false⟩,
      ⟨(some 11), .eq .ptr false (so (.binOp .eql 22 (.tmp 10) (.const (.pointer none)) 22) 4) (.tmp 10) (.const (.pointer none)), (some (9, false)), [], false⟩,
      ⟨(some 12), .pick (.tmp 9) (.const (.bool true)) (.tmp 11), none, [], false⟩,
      ⟨(some 13), .mov (.tmp 12), none, [], false⟩,
      ⟨(some 14), .mov (.tmp 1), (some (13, false)), [], false⟩,
      ⟨(some 15), .callV (.func 11) [(.tmp 14), (.const (.int .i64 5)), (.const (.int .i64 0)), (.const (.int .i64 0))], (some (13, false)), [], false⟩,
      ⟨(some 16), .raw (so (.unOp .not 4 (.tmp 15)) 4), (some (13, false)), [], false⟩,
      ⟨(some 17), .pick (.tmp 13) (.const (.bool true)) (.tmp 16), none, [], false⟩,
      ⟨(some 18), .mov (.tmp 17), none, [], false⟩,
      ⟨(some 19), .mov (.tmp 1), (some (18, false)), [], false⟩,
      ⟨(some 20), .callV (.func 11) [(.tmp 19), (.const (.int .i64 2)), (.const (.int .i64 0)), (.const (.int .i64 0))], (some (18, false)), [], false⟩,
      ⟨(some 21), .raw (so (.unOp .not 4 (.tmp 20)) 4), (some (18, false)), [], false⟩,
      ⟨(some 22), .pick (.tmp 18) (.const (.bool true)) (.tmp 21), none, [], false⟩,
      ⟨(some 23), .mov (.tmp 22), none, [], false⟩,
      ⟨(some 24), .mov (.tmp 1), (some (23, false)), [], false⟩,
      ⟨(some 25), .callV (.func 11) [(.tmp 24), (.const (.int .i64 9)), (.const (.int .i64 0)), (.const (.int .i64 0))], (some (23, false)), [], false⟩,
      ⟨(some 26), .raw (so (.unOp .not 4 (.tmp 25)) 4), (some (23, false)), [], false⟩,
      ⟨(some 27), .pick (.tmp 23) (.const (.bool true)) (.tmp 26), none, [], false⟩,
      ⟨(some 28), .mov (.tmp 27), none, [], false⟩,
      ⟨(some 29), .mov (.tmp 1), (some (28, false)), [], false⟩,
      ⟨(some 30), .callV (.func 12) [(.tmp 29), (.const (.int .i64 2)), (.const (.bool true))], (some (28, false)), [], false⟩,
      ⟨(some 31), .bin .neq (so (.binOp .neq 24 (.tmp 30) (.const (.int .i64 0)) 24) 4) (.tmp 30) (.const (.int .i64 0)), (some (28, false)), [], false⟩,
      ⟨(some 32), .pick (.tmp 28) (.const (.bool true)) (.tmp 31), none, [], false⟩,
      ⟨(some 33), .mov (.tmp 32), none, [], false⟩,
      ⟨(some 34), .mov (.tmp 1), (some (33, false)), [], false⟩,
      ⟨(some 35), .callV (.func 18) [(.tmp 34), (.const (.int .i64 5))], (some (33, false)), [], false⟩,
      ⟨(some 36), .bin .neq (so (.binOp .neq 24 (.tmp 35) (.const (.int .i64 0)) 24) 4) (.tmp 35) (.const (.int .i64 0)), (some (33, false)), [], false⟩,
      ⟨(some 37), .pick (.tmp 33) (.const (.bool true)) (.tmp 36), none, [], false⟩,
      ⟨(some 38), .mov (.tmp 37), none, [], false⟩,
      ⟨(some 39), .mov (.tmp 1), (some (38, false)), [], false⟩,
      ⟨(some 40), .callV (.func 11) [(.tmp 39), (.const (.int .i64 7)), (.const (.int .i64 9)), (.const (.int .i64 0))], (some (38, false)), [], false⟩,
      ⟨(some 41), .raw (so (.unOp .not 4 (.tmp 40)) 4), (some (38, false)), [], false⟩,
      ⟨(some 42), .pick (.tmp 38) (.const (.bool true)) (.tmp 41), none, [], false⟩]) (.cond (.tmp 42)
    (.seq (.region [
      ⟨(some 0), .mov (.const (.pointer none)), none, [], false⟩]) .ret)
    .skip)) (.seq (.region [
      ⟨(some 43), .mov (.tmp 1), none, [], false⟩,
      ⟨(some 0), .mov (.tmp 43), none, [], false⟩]) .ret))))
def zmQ : AFunc := ⟨44, [(0, none)], zmQ_c, none⟩
theorem zmQ_t0 : tableOf Try.prog 8 = some zmQ := by kernel_rfl
abbrev fn_zbbQ : FuncId := 9
def zbbQ_c : ACode :=
  (.seq (.region [
      ⟨(some 2), .mov (.const (.pointer none)), none, [], false⟩,
      ⟨(some 3), .mov (.const (.int .i64 0)), none, [], false⟩]) (.seq (.seq (.region [
      ⟨(some 4), .mov (.tmp 0), none, [], false⟩,
      ⟨(some 5), .bin .lss (so (.binOp .lss 3 (.tmp 4) (.const (.int .i64 1)) 3) 4) (.tmp 4) (.const (.int .i64 1)), none, [], false⟩,
      ⟨(some 6), .mov (.tmp 5), none, [], false⟩,
      ⟨(some 7), .mov (.tmp 0), (some (6, false)), [], false⟩,
      ⟨(some 8), .bin .gtr (so (.binOp .gtr 3 (.tmp 7) (.const (.int .i64 4096)) 3) 4) (.tmp 7) (.const (.int .i64 4096)), (some (6, false)), [], false⟩,
      ⟨(some 9), .pick (.tmp 6) (.const (.bool true)) (.tmp 8), none, [], false⟩]) (.cond (.tmp 9)
    (.seq (.region [
      ⟨(some 2), .mov (.const (.pointer none)), none, [], false⟩,
      ⟨(some 3), .mov (.const (.int .i64 3)), none, [], false⟩]) .ret)
    .skip)) (.seq (.region [
      ⟨(some 10), .mov (.tmp 0), none, [], false⟩,
      ⟨(some 11), .mkMap, none, [], false⟩,
      ⟨(some 12), .build [(.int .i64 0), (.map none)] [(0, 1, (.tmp 10)), (1, 1, (.tmp 11))], none, [], false⟩,
      ⟨(some 13), .box 75 (.tmp 12), none, [], false⟩,
      ⟨(some 2), .mov (.tmp 13), none, [], false⟩,
      ⟨(some 3), .mov (.const (.int .i64 0)), none, [], false⟩]) .ret)))
def zbbQ : AFunc := ⟨14, [(2, none), (3, none)], zbbQ_c, none⟩
theorem zbbQ_t0 : tableOf Try.prog 9 = some zbbQ := by kernel_rfl
theorem zbbQ_t : T0 9 = some zbbQ := withKept_t rfl (withTrue_t rfl zbbQ_t0)
def zcbQ_l0 : ACode :=
  (.seq (.region [
      ⟨(some 16), .bin .lss (so (.binOp .lss 3 (.tmp 15) (.tmp 14) 3) 0) (.tmp 15) (.tmp 14), none, [], false⟩]) (.seq (.cond (.tmp 16)
    .skip
    (.exit 0)) (.seq (.block 1 (.seq (.region [
      ⟨(some 17), .indexSl 1 (.tmp 13) (.tmp 15), none, [], false⟩,
      ⟨(some 18), .load none (.tmp 17), none, [], false⟩,
      ⟨(some 7), .mov (.tmp 18), none, [], false⟩]) (.seq (.region [
      ⟨(some 19), .mov (.tmp 0), none, [], false⟩,
      ⟨(some 20), .nilCheck (.tmp 19), none, [], false⟩,
      ⟨(some 21), .fieldAddr 1 (.tmp 20), none, [], false⟩,
      ⟨(some 22), .load none (.tmp 21), none, [], false⟩,
      ⟨(some 23), .mov (.tmp 7), none, [], false⟩,
      ⟨(some 24), .lookup (.int .i64) (.pointer none) false (.tmp 22) (.tmp 23), none, [], false⟩,
      ⟨(some 8), .mov (.tmp 24), none, [], false⟩]) (.seq (.region [
      ⟨(some 25), .mov (.tmp 7), none, [], false⟩,
      ⟨(some 26), .mov (.tmp 1), none, [], false⟩,
      ⟨(some 27), .bin .lss (so (.binOp .lss 3 (.tmp 25) (.tmp 26) 3) 4) (.tmp 25) (.tmp 26), none, [], false⟩,
      ⟨(some 28), .mov (.tmp 27), none, [], false⟩,
      ⟨(some 29), .mov (.tmp 8), (some (28, true)), [], false⟩,
      ⟨(some 30), .nilCheck (.tmp 29), (some (28, true)), [], false⟩,
      ⟨(some 31), .fieldAddr 166 (.tmp 30), (some (28, true)), [], false⟩,
      ⟨(some 32), .load none (.tmp 31), (some (28, true)), [], false⟩,
      ⟨(some 33), .pick (.tmp 28) (.tmp 32) (.const (.bool false)), none, [], false⟩]) (.cond (.tmp 33)
    (.region [
      ⟨(some 34), .mov (.tmp 8), none, [], false⟩,
      ⟨(some 35), .nilCheck (.tmp 34), none, [], false⟩,
      ⟨(some 36), .fieldAddr 0 (.tmp 35), none, [], false⟩,
      ⟨(some 37), .load (some 166) (.tmp 36), none, [], false⟩,
      ⟨(some 38), .callV (.func 39) [(.tmp 37)], none, [], false⟩,
      ⟨none, .store 166 (.tmp 4) (.tmp 38), none, [], false⟩,
      ⟨(some 5), .mov (.const (.bool true)), none, [], false⟩])
    .skip))))) (.region [
      ⟨(some 39), .bin .add (so (.binOp .add 3 (.tmp 15) (.const (.int .i64 1)) 3) 3) (.tmp 15) (.const (.int .i64 1)), none, [], false⟩,
      ⟨(some 15), .mov (.tmp 39), none, [], false⟩]))))
def zcbQ_c : ACode :=
  (.seq (.region [
      ⟨(some 4), .alloc 36 ((.string ⟨⟨[]⟩⟩) :: ((.int .i64 0) :: ((.int .i64 0) :: (z32 ++ (z32 ++ (z32 ++ (z32 ++ ((.int .i64 0) :: (z32 ++ [(.slice none 0 0), (.slice none 0 0)]))))))))), none, [], false⟩,
      ⟨(some 5), .mov (.const (.bool false)), none, [], false⟩]) (.seq (.seq (.region [
      ⟨(some 9), .mov (.tmp 0), none, [], false⟩,
      ⟨(some 10), .callV (.func 37) [(.tmp 9)], none, [], false⟩]) (.cond (.tmp 10)
    (.seq (.region [
      ⟨(some 11), .build ((.string ⟨⟨[]⟩⟩) :: ((.int .i64 0) :: ((.int .i64 0) :: (z32 ++ (z32 ++ (z32 ++ (z32 ++ ((.int .i64 0) :: (z32 ++ [(.slice none 0 0), (.slice none 0 0)]))))))))) [], none, [], false⟩,
      ⟨none, .store 166 (.tmp 4) (.tmp 11), none, [], false⟩,
      ⟨(some 5), .mov (.const (.bool false)), none, [], false⟩]) .ret)
    .skip)) (.seq (.seq (.region [
      ⟨(some 12), .mov (.tmp 0), none, [], false⟩,
      ⟨(some 13), .callV (.func 38) [(.tmp 12)], none, [], false⟩,
      ⟨(some 14), .lenSl (.tmp 13), none, [], false⟩,
      ⟨(some 15), .mov (.const (.int .i64 0)), none, [], false⟩]) (.block 0 (.loop zcbQ_l0))) (.seq (.region [
      ⟨(some 40), .load (some 166) (.tmp 4), none, [], false⟩,
      ⟨(some 41), .mov (.tmp 5), none, [], false⟩,
      ⟨none, .store 166 (.tmp 4) (.tmp 40), none, [], false⟩,
      ⟨(some 5), .mov (.tmp 41), none, [], false⟩]) .ret))))
def zcbQ : AFunc := ⟨42, [(4, some (some 166)), (5, none)], zcbQ_c, none⟩
theorem zcbQ_t0 : tableOf Try.prog 10 = some zcbQ := by kernel_rfl
def zqQ_c : ACode :=
  (.seq (.region [
      ⟨(some 8), .mov (.const (.bool false)), none, [], false⟩]) (.seq (.region [
      ⟨(some 12), .mov (.tmp 0), none, [], false⟩,
      ⟨(some 13), .mov (.tmp 1), none, [], false⟩,
      ⟨(some 14), .callV (.func 40) [(.tmp 13)], none, [], false⟩,
      ⟨(some 15), .callV (.func 21) [(.tmp 12), (.tmp 14)], none, [], false⟩,
      ⟨(some 11), .mov (.tmp 15), none, [], false⟩,
      ⟨(some 16), .extract 0 (.tmp 11), none, [], false⟩,
      ⟨(some 17), .extract 1 (.tmp 11), none, [], false⟩,
      ⟨(some 9), .mov (.tmp 16), none, [], false⟩,
      ⟨(some 10), .mov (.tmp 17), none, [], false⟩]) (.seq (.region [
      ⟨(some 18), .mov (.tmp 9), none, [], false⟩,
      ⟨(some 19), .mov (.tmp 2), none, [], false⟩,
      ⟨(some 20), .bin .eql (so (.binOp .eql 3 (.tmp 18) (.tmp 19) 3) 4) (.tmp 18) (.tmp 19), none, [], false⟩,
      ⟨(some 21), .mov (.tmp 20), none, [], false⟩,
      ⟨(some 22), .mov (.tmp 10), (some (21, true)), [], false⟩,
      ⟨(some 23), .mov (.tmp 3), (some (21, true)), [], false⟩,
      ⟨(some 24), .bin .eql (so (.binOp .eql 24 (.tmp 22) (.tmp 23) 24) 4) (.tmp 22) (.tmp 23), (some (21, true)), [], false⟩,
      ⟨(some 25), .pick (.tmp 21) (.tmp 24) (.const (.bool false)), none, [], false⟩,
      ⟨(some 8), .mov (.tmp 25), none, [], false⟩]) .ret)))
def zqQ : AFunc := ⟨26, [(8, none)], zqQ_c, none⟩
theorem zqQ_t0 : tableOf Try.prog 11 = some zqQ := by kernel_rfl
abbrev fn_zhbQ : FuncId := 12
def zhbQ_c : ACode :=
  (.seq (.region [
      ⟨(some 5), .box 4 (.tmp 2), none, [], false⟩,
      ⟨(some 6), .mov (.const (.int .i64 0)), none, [], false⟩]) (.seq (.region [
      ⟨(some 7), .mov (.tmp 0), none, [], false⟩,
      ⟨(some 8), .mov (.tmp 1), none, [], false⟩,
      ⟨(some 9), .mkFunc (.func 42) [] [(.tmp 5)], none, [], false⟩,
      ⟨(some 10), .callV (.func 41) [(.tmp 7), (.tmp 8), (.tmp 9)], none, [], false⟩,
      ⟨(some 6), .mov (.tmp 10), none, [], false⟩]) .ret))
def zhbQ : AFunc := ⟨11, [(6, none)], zhbQ_c, none⟩
theorem zhbQ_t0 : tableOf Try.prog 12 = some zhbQ := by kernel_rfl
theorem zhbQ_t : T0 12 = some zhbQ := withKept_t rfl (withTrue_t rfl zhbQ_t0)
abbrev fn_zdbQ : FuncId := 13
def zdbQ_c : ACode :=
  (.seq (.region [
      ⟨(some 3), .box 3 (.tmp 1), none, [], false⟩]) (.seq (.region [
      ⟨(some 4), .mov (.tmp 0), none, [], false⟩,
      ⟨(some 5), .callV (.func 37) [(.tmp 4)], none, [], false⟩,
      ⟨(some 6), .raw (so (.unOp .not 4 (.tmp 5)) 4), none, [], false⟩]) (.cond (.tmp 6)
    (.region [
      ⟨(some 7), .mov (.tmp 0), none, [], false⟩,
      ⟨(some 8), .nilCheck (.tmp 7), none, [], false⟩,
      ⟨(some 9), .fieldAddr 1 (.tmp 8), none, [], false⟩,
      ⟨(some 10), .load none (.tmp 9), none, [], false⟩,
      ⟨(some 11), .mkFunc (.func 44) [] [(.tmp 3)], none, [], false⟩,
      ⟨(some 12), .callV (.func 43) [(.tmp 10), (.tmp 11)], none, [], false⟩])
    .skip)))
def zdbQ : AFunc := ⟨13, [], zdbQ_c, none⟩
theorem zdbQ_t0 : tableOf Try.prog 13 = some zdbQ := by kernel_rfl
theorem zdbQ_t : T0 13 = some zdbQ := withKept_t rfl (withTrue_t rfl zdbQ_t0)
def zfbQ_c : ACode :=
  (.seq (.region [
      ⟨(some 4), .alloc 36 ((.string ⟨⟨[]⟩⟩) :: ((.int .i64 0) :: ((.int .i64 0) :: (z32 ++ (z32 ++ (z32 ++ (z32 ++ ((.int .i64 0) :: (z32 ++ [(.slice none 0 0), (.slice none 0 0)]))))))))), none, [], false⟩,
      ⟨(some 5), .mov (.const (.bool false)), none, [], false⟩]) (.seq (.seq (.region [
      ⟨(some 8), .mov (.tmp 0), none, [], false⟩,
      ⟨(some 9), .callV (.func 37) [(.tmp 8)], none, [], false⟩]) (.cond (.tmp 9)
    (.seq (.region [
      ⟨(some 10), .build ((.string ⟨⟨[]⟩⟩) :: ((.int .i64 0) :: ((.int .i64 0) :: (z32 ++ (z32 ++ (z32 ++ (z32 ++ ((.int .i64 0) :: (z32 ++ [(.slice none 0 0), (.slice none 0 0)]))))))))) [], none, [], false⟩,
      ⟨none, .store 166 (.tmp 4) (.tmp 10), none, [], false⟩,
      ⟨(some 5), .mov (.const (.bool false)), none, [], false⟩]) .ret)
    .skip)) (.seq (.region [
      ⟨(some 12), .mov (.tmp 0), none, [], false⟩,
      ⟨(some 13), .nilCheck (.tmp 12), none, [], false⟩,
      ⟨(some 14), .fieldAddr 1 (.tmp 13), none, [], false⟩,
      ⟨(some 15), .load none (.tmp 14), none, [], false⟩,
      ⟨(some 16), .mov (.tmp 1), none, [], false⟩,
      ⟨(some 17), .lookup (.int .i64) (.pointer none) true (.tmp 15) (.tmp 16), none, [], false⟩,
      ⟨(some 11), .mov (.tmp 17), none, [], false⟩,
      ⟨(some 18), .extract 0 (.tmp 11), none, [], false⟩,
      ⟨(some 19), .extract 1 (.tmp 11), none, [], false⟩,
      ⟨(some 6), .mov (.tmp 18), none, [], false⟩,
      ⟨(some 7), .mov (.tmp 19), none, [], false⟩]) (.seq (.seq (.region [
      ⟨(some 20), .mov (.tmp 7), none, [], false⟩,
      ⟨(some 21), .raw (so (.unOp .not 4 (.tmp 20)) 4), none, [], false⟩]) (.cond (.tmp 21)
    (.seq (.region [
      ⟨(some 22), .build ((.string ⟨⟨[]⟩⟩) :: ((.int .i64 0) :: ((.int .i64 0) :: (z32 ++ (z32 ++ (z32 ++ (z32 ++ ((.int .i64 0) :: (z32 ++ [(.slice none 0 0), (.slice none 0 0)]))))))))) [], none, [], false⟩,
      ⟨none, .store 166 (.tmp 4) (.tmp 22), none, [], false⟩,
      ⟨(some 5), .mov (.const (.bool false)), none, [], false⟩]) .ret)
    .skip)) (.seq (.region [
      ⟨(some 23), .mov (.tmp 6), none, [], false⟩,
      ⟨(some 24), .nilCheck (.tmp 23), none, [], false⟩,
      ⟨(some 25), .fieldAddr 0 (.tmp 24), none, [], false⟩,
      ⟨(some 26), .load (some 166) (.tmp 25), none, [], false⟩,
      ⟨(some 27), .callV (.func 39) [(.tmp 26)], none, [], false⟩,
      ⟨none, .store 166 (.tmp 4) (.tmp 27), none, [], false⟩,
      ⟨(some 5), .mov (.const (.bool true)), none, [], false⟩]) .ret)))))
def zfbQ : AFunc := ⟨28, [(4, some (some 166)), (5, none)], zfbQ_c, none⟩
theorem zfbQ_t0 : tableOf Try.prog 14 = some zfbQ := by kernel_rfl
def zlQ_c : ACode :=
  (.seq (.region [
      ⟨(some 0), .mov (.const (.bool false)), none, [], false⟩]) (.seq (.region [
      ⟨(some 2), .callV (.func 8) [], none, [], false⟩,
      ⟨(some 1), .mov (.tmp 2), none, [], false⟩]) (.seq (.region [
      ⟨(some 3), .mov (.tmp 1), none, [], false⟩,
      ⟨(some 4), .eq .ptr true (so (.binOp .neq 22 (.tmp 3) (.const (.pointer none)) 22) 4) (.tmp 3) (.const (.pointer none)), none, [], false⟩,
      ⟨(some 5), .mov (.tmp 4), none, [], false⟩,
      ⟨(some 6), .mov (.tmp 1), (some (5, true)), [], false⟩,
      ⟨(some 7), .callV (.func 17) [(.tmp 6)], (some (5, true)), [], false⟩,
      ⟨(some 8), .build [(.int .i64 0), (.bool false), (.bool false)] [(0, 1, (.const (.int .i64 2))), (2, 1, (.const (.bool true)))], (some (5, true)), [], false⟩,
      ⟨(some 9), .build [(.int .i64 0), (.bool false), (.bool false)] [(0, 1, (.const (.int .i64 5))), (1, 1, (.const (.bool true)))], (some (5, true)), [], false⟩,
      ⟨(some 10), .build [(.int .i64 0), (.bool false), (.bool false)] [(0, 1, (.const (.int .i64 7)))], (some (5, true)), [], false⟩,
      ⟨(some 11), .buildSlice 47 [(.int .i64 0), (.bool false), (.bool false), (.int .i64 0), (.bool false), (.bool false), (.int .i64 0), (.bool false), (.bool false)] 3 [(0, 3, (.tmp 8)), (3, 3, (.tmp 9)), (6, 3, (.tmp 10))], (some (5, true)), [], false⟩,
      ⟨(some 12), .callV (.func 16) [(.tmp 7), (.tmp 11)], (some (5, true)), [], false⟩,
      ⟨(some 13), .pick (.tmp 5) (.tmp 12) (.const (.bool false)), none, [], false⟩,
      ⟨(some 14), .mov (.tmp 13), none, [], false⟩,
      ⟨(some 15), .mov (.tmp 1), (some (14, true)), [], false⟩,
      ⟨(some 16), .callV (.func 11) [(.tmp 15), (.const (.int .i64 7)), (.const (.int .i64 0)), (.const (.int .i64 8))], (some (14, true)), [], false⟩,
      ⟨(some 17), .pick (.tmp 14) (.tmp 16) (.const (.bool false)), none, [], false⟩,
      ⟨(some 18), .mov (.tmp 17), none, [], false⟩,
      ⟨(some 19), .mov (.tmp 1), (some (18, true)), [], false⟩,
      ⟨(some 20), .callV (.func 11) [(.tmp 19), (.const (.int .i64 3)), (.const (.int .i64 7)), (.const (.int .i64 0))], (some (18, true)), [], false⟩,
      ⟨(some 21), .pick (.tmp 18) (.tmp 20) (.const (.bool false)), none, [], false⟩,
      ⟨(some 0), .mov (.tmp 21), none, [], false⟩]) .ret)))
def zlQ : AFunc := ⟨22, [(0, none)], zlQ_c, none⟩
theorem zlQ_t0 : tableOf Try.prog 15 = some zlQ := by kernel_rfl
abbrev fn_ziQ : FuncId := 16
def ziQ_l0 : ACode :=
  (.seq (.seq (.region [
      ⟨(some 12), .mov (.tmp 5), none, [], false⟩,
      ⟨(some 13), .mov (.tmp 12), none, [], false⟩,
      ⟨(some 14), .mov (.tmp 6), (some (13, true)), [], false⟩,
      ⟨(some 15), .mov (.tmp 0), (some (13, true)), [], false⟩,
      ⟨(some 16), .lenSl (.tmp 15), (some (13, true)), [], false⟩,
      ⟨(some 17), .bin .lss (so (.binOp .lss 3 (.tmp 14) (.tmp 16) 3) 4) (.tmp 14) (.tmp 16), (some (13, true)), [], false⟩,
      ⟨(some 18), .pick (.tmp 13) (.tmp 17) (.const (.bool false)), none, [], false⟩]) (.cond (.tmp 18)
    .skip
    (.exit 0))) (.seq (.block 1 (.regionD [
      ⟨(some 21), .mov (.tmp 0), none, [], false⟩,
      ⟨(some 22), .mov (.tmp 6), none, [], false⟩,
      ⟨(some 23), .indexSl 3 (.tmp 21) (.tmp 22), none, [], false⟩,
      ⟨(some 24), .load (some 3) (.tmp 23), none, [], false⟩,
      ⟨(some 25), .mov (.tmp 1), none, [], false⟩,
      ⟨(some 26), .mov (.tmp 6), none, [], false⟩,
      ⟨(some 27), .indexSl 3 (.tmp 25) (.tmp 26), none, [], false⟩,
      ⟨(some 28), .load (some 3) (.tmp 27), none, [], false⟩,
      ⟨(some 29), .bin .eql (so (.binOp .eql 47 (.tmp 24) (.tmp 28) 47) 4) (.tmp 24) (.tmp 28), none, [], true⟩,
      ⟨(some 5), .mov (.tmp 29), none, [], true⟩])) (.region [
      ⟨(some 19), .mov (.tmp 6), none, [], false⟩,
      ⟨(some 20), .bin .add (so (.binOp .add 3 (.tmp 19) (.const (.int .i64 1)) 3) 3) (.tmp 19) (.const (.int .i64 1)), none, [], false⟩,
      ⟨(some 6), .mov (.tmp 20), none, [], false⟩])))
def ziQ_c : ACode :=
  (.seq (.region [
      ⟨(some 4), .mov (.const (.bool false)), none, [], false⟩]) (.seq (.region [
      ⟨(some 7), .mov (.tmp 0), none, [], false⟩,
      ⟨(some 8), .lenSl (.tmp 7), none, [], false⟩,
      ⟨(some 9), .mov (.tmp 1), none, [], false⟩,
      ⟨(some 10), .lenSl (.tmp 9), none, [], false⟩,
      ⟨(some 11), .bin .eql (so (.binOp .eql 3 (.tmp 8) (.tmp 10) 3) 4) (.tmp 8) (.tmp 10), none, [], false⟩,
      ⟨(some 5), .mov (.tmp 11), none, [], false⟩]) (.seq (.seq (.region [
      ⟨(some 6), .mov (.const (.int .i64 0)), none, [], false⟩]) (.block 0 (.loop ziQ_l0))) (.seq (.region [
      ⟨(some 30), .mov (.tmp 5), none, [], false⟩,
      ⟨(some 4), .mov (.tmp 30), none, [], false⟩]) .ret))))
def ziQ : AFunc := ⟨31, [(4, none)], ziQ_c, none⟩
theorem ziQ_t0 : tableOf Try.prog 16 = some ziQ := by kernel_rfl
theorem ziQ_t : T0 16 = some ziQ := withKept_t rfl (withTrue_t rfl ziQ_t0)
abbrev fn_zgbQ : FuncId := 17
def zgbQ_l0 : ACode :=
  (.seq (.region [
      ⟨(some 12), .bin .lss (so (.binOp .lss 3 (.tmp 11) (.tmp 10) 3) 0) (.tmp 11) (.tmp 10), none, [], false⟩]) (.seq (.cond (.tmp 12)
    .skip
    (.exit 0)) (.seq (.block 1 (.seq (.region [
      ⟨(some 13), .indexSl 1 (.tmp 9) (.tmp 11), none, [], false⟩,
      ⟨(some 14), .load none (.tmp 13), none, [], false⟩,
      ⟨(some 4), .mov (.tmp 14), none, [], false⟩]) (.seq (.region [
      ⟨(some 15), .mov (.tmp 0), none, [], false⟩,
      ⟨(some 16), .nilCheck (.tmp 15), none, [], false⟩,
      ⟨(some 17), .fieldAddr 1 (.tmp 16), none, [], false⟩,
      ⟨(some 18), .load none (.tmp 17), none, [], false⟩,
      ⟨(some 19), .mov (.tmp 4), none, [], false⟩,
      ⟨(some 20), .lookup (.int .i64) (.pointer none) false (.tmp 18) (.tmp 19), none, [], false⟩,
      ⟨(some 5), .mov (.tmp 20), none, [], false⟩]) (.regionD [
      ⟨(some 21), .mov (.tmp 2), none, [], false⟩,
      ⟨(some 22), .mov (.tmp 4), none, [], false⟩,
      ⟨(some 23), .mov (.tmp 5), none, [], false⟩,
      ⟨(some 24), .nilCheck (.tmp 23), none, [], false⟩,
      ⟨(some 25), .fieldAddr 166 (.tmp 24), none, [], false⟩,
      ⟨(some 26), .load none (.tmp 25), none, [], false⟩,
      ⟨(some 27), .mov (.tmp 5), none, [], false⟩,
      ⟨(some 28), .nilCheck (.tmp 27), none, [], false⟩,
      ⟨(some 29), .fieldAddr 167 (.tmp 28), none, [], false⟩,
      ⟨(some 30), .load none (.tmp 29), none, [], false⟩,
      ⟨(some 31), .build [(.int .i64 0), (.bool false), (.bool false)] [(0, 1, (.tmp 22)), (1, 1, (.tmp 26)), (2, 1, (.tmp 30))], none, [], false⟩,
      ⟨(some 32), .buildSlice 47 [(.int .i64 0), (.bool false), (.bool false)] 1 [(0, 3, (.tmp 31))], none, [((some 21), .mov (.tmp 2), none)], false⟩,
      ⟨(some 33), .append 47 3 16 [(.int .i64 0), (.bool false), (.bool false)] false (.tmp 21) (.tmp 32), none, [], true⟩,
      ⟨(some 2), .mov (.tmp 33), none, [], true⟩])))) (.region [
      ⟨(some 34), .bin .add (so (.binOp .add 3 (.tmp 11) (.const (.int .i64 1)) 3) 3) (.tmp 11) (.const (.int .i64 1)), none, [], false⟩,
      ⟨(some 11), .mov (.tmp 34), none, [], false⟩]))))
def zgbQ_c : ACode :=
  (.seq (.region [
      ⟨(some 2), .mov (.const (.slice none 0 0)), none, [], false⟩]) (.seq (.seq (.region [
      ⟨(some 6), .mov (.tmp 0), none, [], false⟩,
      ⟨(some 7), .callV (.func 37) [(.tmp 6)], none, [], false⟩]) (.cond (.tmp 7)
    (.seq (.region [
      ⟨(some 2), .mov (.const (.slice none 0 0)), none, [], false⟩]) .ret)
    .skip)) (.seq (.seq (.region [
      ⟨(some 8), .mov (.tmp 0), none, [], false⟩,
      ⟨(some 9), .callV (.func 38) [(.tmp 8)], none, [], false⟩,
      ⟨(some 10), .lenSl (.tmp 9), none, [], false⟩,
      ⟨(some 11), .mov (.const (.int .i64 0)), none, [], false⟩]) (.block 0 (.loop zgbQ_l0))) (.seq (.region [
      ⟨(some 35), .mov (.tmp 2), none, [], false⟩,
      ⟨(some 2), .mov (.tmp 35), none, [], false⟩]) .ret))))
def zgbQ : AFunc := ⟨36, [(2, none)], zgbQ_c, none⟩
theorem zgbQ_t0 : tableOf Try.prog 17 = some zgbQ := by kernel_rfl
theorem zgbQ_t : T0 17 = some zgbQ := withKept_t rfl (withTrue_t rfl zgbQ_t0)
abbrev fn_zkbQ : FuncId := 18
def zkbQ_c : ACode :=
  (.seq (.region [
      ⟨(some 4), .mov (.const (.int .i64 0)), none, [], false⟩]) (.seq (.region [
      ⟨(some 5), .mov (.tmp 0), none, [], false⟩,
      ⟨(some 6), .mov (.tmp 1), none, [], false⟩,
      ⟨(some 7), .callV (.func 41) [(.tmp 5), (.tmp 6), (.func 45)], none, [], false⟩,
      ⟨(some 4), .mov (.tmp 7), none, [], false⟩]) .ret))
def zkbQ : AFunc := ⟨8, [(4, none)], zkbQ_c, none⟩
theorem zkbQ_t0 : tableOf Try.prog 18 = some zkbQ := by kernel_rfl
theorem zkbQ_t : T0 18 = some zkbQ := withKept_t rfl (withTrue_t rfl zkbQ_t0)
abbrev fn_zjbQ : FuncId := 21
def zjbQ_c : ACode :=
  (.seq (.region [
      ⟨(some 3), .box 36 (.tmp 1), none, [], false⟩,
      ⟨(some 4), .mov (.const (.int .i64 0)), none, [], false⟩,
      ⟨(some 5), .mov (.const (.int .i64 0)), none, [], false⟩]) (.seq (.seq (.region [
      ⟨(some 10), .mov (.tmp 0), none, [], false⟩,
      ⟨(some 11), .callV (.func 37) [(.tmp 10)], none, [], false⟩]) (.cond (.tmp 11)
    (.seq (.region [
      ⟨(some 4), .mov (.const (.int .i64 0)), none, [], false⟩,
      ⟨(some 5), .mov (.const (.int .i64 1)), none, [], false⟩]) .ret)
    .skip)) (.seq (.regionD [
      ⟨(some 13), .mov (.tmp 0), none, [], false⟩,
      ⟨(some 14), .nilCheck (.tmp 13), none, [], false⟩,
      ⟨(some 15), .fieldAddr 1 (.tmp 14), none, [], false⟩,
      ⟨(some 16), .load none (.tmp 15), none, [], false⟩,
      ⟨(some 17), .fieldAddr 0 (.tmp 3), none, [], false⟩,
      ⟨(some 18), .fieldAddr 1 (.tmp 17), none, [], false⟩,
      ⟨(some 19), .load none (.tmp 18), none, [], false⟩,
      ⟨(some 20), .lookup (.int .i64) (.pointer none) true (.tmp 16) (.tmp 19), none, [], true⟩,
      ⟨(some 12), .mov (.tmp 20), none, [], true⟩,
      ⟨(some 21), .extract 0 (.tmp 12), none, [], false⟩,
      ⟨(some 22), .extract 1 (.tmp 12), none, [], false⟩,
      ⟨(some 6), .mov (.tmp 21), none, [], false⟩,
      ⟨(some 7), .mov (.tmp 22), none, [], true⟩]) (.seq (.block 0 (.seq (.region [
      ⟨(some 24), .fieldAddr 0 (.tmp 3), none, [], false⟩,
      ⟨(some 25), .fieldAddr 1 (.tmp 24), none, [], false⟩,
      ⟨(some 26), .load none (.tmp 25), none, [], false⟩,
      ⟨(some 27), .bin .lss (so (.binOp .lss 3 (.tmp 26) (.const (.int .i64 1)) 3) 4) (.tmp 26) (.const (.int .i64 1)), none, [], false⟩,
      ⟨(some 28), .mov (.tmp 27), none, [], false⟩,
      ⟨(some 29), .fieldAddr 0 (.tmp 3), (some (28, false)), [], false⟩,
      ⟨(some 30), .fieldAddr 1 (.tmp 29), (some (28, false)), [], false⟩,
      ⟨(some 31), .load none (.tmp 30), (some (28, false)), [], false⟩,
      ⟨(some 32), .bin .gtr (so (.binOp .gtr 3 (.tmp 31) (.const (.int .i64 1073741824)) 3) 4) (.tmp 31) (.const (.int .i64 1073741824)), (some (28, false)), [], false⟩,
      ⟨(some 33), .pick (.tmp 28) (.const (.bool true)) (.tmp 32), none, [], false⟩,
      ⟨(some 23), .mov (.tmp 33), none, [], false⟩]) (.cond (.tmp 23)
    (.seq (.region [
      ⟨(some 4), .mov (.const (.int .i64 0)), none, [], false⟩,
      ⟨(some 5), .mov (.const (.int .i64 13)), none, [], false⟩]) .ret)
    (.seq (.region [
      ⟨(some 35), .mov (.tmp 7), none, [], false⟩,
      ⟨(some 34), .mov (.tmp 35), none, [], false⟩]) (.cond (.tmp 34)
    (.seq (.region [
      ⟨(some 4), .mov (.const (.int .i64 0)), none, [], false⟩,
      ⟨(some 5), .mov (.const (.int .i64 8)), none, [], false⟩]) .ret)
    .skip))))) (.seq (.region [
      ⟨(some 8), .mov (.const (.int .i64 0)), none, [], false⟩]) (.seq (.seq (.regionD [
      ⟨(some 36), .mov (.tmp 0), none, [], false⟩,
      ⟨(some 37), .nilCheck (.tmp 36), none, [], false⟩,
      ⟨(some 38), .fieldAddr 1 (.tmp 37), none, [], false⟩,
      ⟨(some 39), .load none (.tmp 38), none, [], false⟩,
      ⟨(some 40), .lenMap (.tmp 39), none, [], false⟩,
      ⟨(some 41), .mov (.tmp 0), none, [], false⟩,
      ⟨(some 42), .nilCheck (.tmp 41), none, [], false⟩,
      ⟨(some 43), .fieldAddr 0 (.tmp 42), none, [], false⟩,
      ⟨(some 44), .load none (.tmp 43), none, [], false⟩,
      ⟨(some 45), .bin .geq (so (.binOp .geq 3 (.tmp 40) (.tmp 44) 3) 4) (.tmp 40) (.tmp 44), none, [], true⟩]) (.cond (.tmp 45)
    (.seq (.region [
      ⟨(some 46), .mov (.tmp 0), none, [], false⟩,
      ⟨(some 47), .callV (.func 46) [(.tmp 46)], none, [], false⟩,
      ⟨(some 9), .mov (.tmp 47), none, [], false⟩]) (.seq (.seq (.region [
      ⟨(some 48), .mov (.tmp 9), none, [], false⟩,
      ⟨(some 49), .lenSl (.tmp 48), none, [], false⟩,
      ⟨(some 50), .bin .eql (so (.binOp .eql 3 (.tmp 49) (.const (.int .i64 0)) 3) 4) (.tmp 49) (.const (.int .i64 0)), none, [], false⟩]) (.cond (.tmp 50)
    (.seq (.region [
      ⟨(some 4), .mov (.const (.int .i64 0)), none, [], false⟩,
      ⟨(some 5), .mov (.const (.int .i64 7)), none, [], false⟩]) .ret)
    .skip)) (.seq (.region [
      ⟨(some 51), .mov (.tmp 9), none, [], false⟩,
      ⟨(some 52), .callV (.func 47) [(.tmp 51), (.func 48)], none, [], false⟩,
      ⟨(some 53), .nilCheck (.tmp 52), none, [], false⟩,
      ⟨(some 54), .fieldAddr 0 (.tmp 53), none, [], false⟩,
      ⟨(some 55), .fieldAddr 0 (.tmp 54), none, [], false⟩,
      ⟨(some 56), .fieldAddr 1 (.tmp 55), none, [], false⟩,
      ⟨(some 57), .load none (.tmp 56), none, [], false⟩,
      ⟨(some 8), .mov (.tmp 57), none, [], false⟩]) (.region [
      ⟨(some 58), .mov (.tmp 0), none, [], false⟩,
      ⟨(some 59), .nilCheck (.tmp 58), none, [], false⟩,
      ⟨(some 60), .fieldAddr 1 (.tmp 59), none, [], false⟩,
      ⟨(some 61), .load none (.tmp 60), none, [], false⟩,
      ⟨(some 62), .mov (.tmp 8), none, [], false⟩,
      ⟨none, .delete (.int .i64) (.tmp 61) (.tmp 62), none, [], false⟩]))))
    .skip)) (.seq (.regionD [
      ⟨(some 63), .mov (.tmp 0), none, [], false⟩,
      ⟨(some 64), .nilCheck (.tmp 63), none, [], false⟩,
      ⟨(some 65), .fieldAddr 1 (.tmp 64), none, [], false⟩,
      ⟨(some 66), .load none (.tmp 65), none, [], false⟩,
      ⟨(some 67), .fieldAddr 0 (.tmp 3), none, [], false⟩,
      ⟨(some 68), .fieldAddr 1 (.tmp 67), none, [], false⟩,
      ⟨(some 69), .load none (.tmp 68), none, [], false⟩,
      ⟨(some 70), .load (some 166) (.tmp 3), none, [], false⟩,
      ⟨(some 71), .callV (.func 39) [(.tmp 70)], none, [((some 69), .load none (.tmp 68), none), ((some 68), .fieldAddr 1 (.tmp 67), none), ((some 67), .fieldAddr 0 (.tmp 3), none), ((some 66), .load none (.tmp 65), none), ((some 65), .fieldAddr 1 (.tmp 64), none), ((some 64), .nilCheck (.tmp 63), none), ((some 63), .mov (.tmp 0), none)], false⟩,
      ⟨(some 72), .build ((.string ⟨⟨[]⟩⟩) :: ((.int .i64 0) :: ((.int .i64 0) :: (z32 ++ (z32 ++ (z32 ++ (z32 ++ ((.int .i64 0) :: (z32 ++ [(.slice none 0 0), (.slice none 0 0), (.bool false), (.bool false)]))))))))) [(0, 166, (.tmp 71))], none, [], false⟩,
      ⟨(some 73), .box 82 (.tmp 72), none, [((some 69), .load none (.tmp 68), none), ((some 68), .fieldAddr 1 (.tmp 67), none), ((some 67), .fieldAddr 0 (.tmp 3), none), ((some 66), .load none (.tmp 65), none), ((some 65), .fieldAddr 1 (.tmp 64), none), ((some 64), .nilCheck (.tmp 63), none), ((some 63), .mov (.tmp 0), none)], false⟩,
      ⟨none, .mapUpdate (.int .i64) (.tmp 66) (.tmp 69) (.tmp 73), none, [], true⟩]) (.seq (.region [
      ⟨(some 74), .mov (.tmp 8), none, [], false⟩,
      ⟨(some 4), .mov (.tmp 74), none, [], false⟩,
      ⟨(some 5), .mov (.const (.int .i64 0)), none, [], false⟩]) .ret))))))))
def zjbQ : AFunc := ⟨75, [(4, none), (5, none)], zjbQ_c, none⟩
theorem zjbQ_t0 : tableOf Try.prog 21 = some zjbQ := by kernel_rfl
theorem zjbQ_t : T0 21 = some zjbQ := withKept_t rfl (withTrue_t rfl zjbQ_t0)
abbrev fn_znbQ : FuncId := 37
def znbQ_c : ACode :=
  (.seq (.region [
      ⟨(some 2), .mov (.const (.bool false)), none, [], false⟩]) (.seq (.region [
      ⟨(some 3), .mov (.tmp 0), none, [], false⟩,
      ⟨(some 4), .eq .ptr false (so (.binOp .eql 22 (.tmp 3) (.const (.pointer none)) 22) 4) (.tmp 3) (.const (.pointer none)), none, [], false⟩,
      ⟨(some 5), .mov (.tmp 4), none, [], false⟩,
      ⟨(some 6), .mov (.tmp 0), (some (5, false)), [], false⟩,
      ⟨(some 7), .nilCheck (.tmp 6), (some (5, false)), [], false⟩,
      ⟨(some 8), .fieldAddr 1 (.tmp 7), (some (5, false)), [], false⟩,
      ⟨(some 9), .load none (.tmp 8), (some (5, false)), [], false⟩,
      ⟨(some 10), .eq .map false (so (.binOp .eql 73 (.tmp 9) (.const (.map none)) 73) 4) (.tmp 9) (.const (.map none)), (some (5, false)), [], false⟩,
      ⟨(some 11), .pick (.tmp 5) (.const (.bool true)) (.tmp 10), none, [], false⟩,
      ⟨(some 2), .mov (.tmp 11), none, [], false⟩]) .ret))
def znbQ : AFunc := ⟨12, [(2, none)], znbQ_c, none⟩
theorem znbQ_t0 : tableOf Try.prog 37 = some znbQ := by kernel_rfl
theorem znbQ_t : T0 37 = some znbQ := withKept_t rfl (withTrue_t rfl znbQ_t0)
abbrev fn_zobQ : FuncId := 38
def zobQ_l0 : ACode :=
  (.seq (.seq (.region [
      ⟨(some 14), .load none (.tmp 3), none, [], false⟩,
      ⟨(some 15), .callV (.func 61) [(.tmp 14)], none, [], false⟩,
      ⟨(some 16), .bin .gtr (so (.binOp .gtr 3 (.tmp 15) (.const (.int .i64 0)) 3) 4) (.tmp 15) (.const (.int .i64 0)), none, [], false⟩]) (.cond (.tmp 16)
    .skip
    (.exit 0))) (.block 1 (.seq (.region [
      ⟨(some 18), .mkIface 107 (.tmp 3), none, [], false⟩,
      ⟨(some 19), .callV (.func 62) [(.tmp 18)], none, [], false⟩,
      ⟨(some 20), .assertTo 3 (.int .i64 0) true (.tmp 19), none, [], false⟩,
      ⟨(some 17), .mov (.tmp 20), none, [], false⟩,
      ⟨(some 21), .extract 0 (.tmp 17), none, [], false⟩,
      ⟨(some 22), .extract 1 (.tmp 17), none, [], false⟩,
      ⟨(some 4), .mov (.tmp 21), none, [], false⟩,
      ⟨(some 5), .mov (.tmp 22), none, [], false⟩]) (.seq (.region [
      ⟨(some 23), .mov (.tmp 5), none, [], false⟩]) (.cond (.tmp 23)
    (.region [
      ⟨(some 24), .mov (.tmp 2), none, [], false⟩,
      ⟨(some 25), .mov (.tmp 4), none, [], false⟩,
      ⟨(some 26), .buildSlice 3 [(.int .i64 0)] 1 [(0, 1, (.tmp 25))], none, [], false⟩,
      ⟨(some 27), .append 3 1 8 [(.int .i64 0)] false (.tmp 24) (.tmp 26), none, [], false⟩,
      ⟨(some 2), .mov (.tmp 27), none, [], false⟩])
    .skip)))))
def zobQ_c : ACode :=
  (.seq (.region [
      ⟨(some 2), .mov (.const (.slice none 0 0)), none, [], false⟩]) (.seq (.region [
      ⟨(some 6), .mov (.tmp 0), none, [], false⟩,
      ⟨(some 7), .nilCheck (.tmp 6), none, [], false⟩,
      ⟨(some 8), .fieldAddr 1 (.tmp 7), none, [], false⟩,
      ⟨(some 9), .load none (.tmp 8), none, [], false⟩,
      ⟨(some 10), .callV (.func 59) [(.tmp 9)], none, [], false⟩,
      ⟨(some 11), .callV (.func 58) [(.tmp 10)], none, [], false⟩,
      ⟨(some 3), .alloc 101 [(.slice none 0 0)], none, [], false⟩,
      ⟨none, .store 1 (.tmp 3) (.tmp 11), none, [], false⟩]) (.seq (.region [
      ⟨(some 12), .mkIface 107 (.tmp 3), none, [], false⟩,
      ⟨(some 13), .callV (.func 60) [(.tmp 12)], none, [], false⟩]) (.seq (.block 0 (.loop zobQ_l0)) (.seq (.region [
      ⟨(some 28), .mov (.tmp 2), none, [], false⟩,
      ⟨(some 2), .mov (.tmp 28), none, [], false⟩]) .ret)))))
def zobQ : AFunc := ⟨29, [(2, none)], zobQ_c, none⟩
theorem zobQ_t0 : tableOf Try.prog 38 = some zobQ := by kernel_rfl
theorem zobQ_t : T0 38 = some zobQ := withKept_t rfl (withTrue_t rfl zobQ_t0)
abbrev fn_zwbQ : FuncId := 39
def zwbQ_c : ACode :=
  (.seq (.region [
      ⟨(some 1), .box 36 (.tmp 0), none, [], false⟩,
      ⟨(some 2), .alloc 36 ((.string ⟨⟨[]⟩⟩) :: ((.int .i64 0) :: ((.int .i64 0) :: (z32 ++ (z32 ++ (z32 ++ (z32 ++ ((.int .i64 0) :: (z32 ++ [(.slice none 0 0), (.slice none 0 0)]))))))))), none, [], false⟩]) (.seq (.regionD [
      ⟨(some 3), .fieldAddr 165 (.tmp 1), none, [], false⟩,
      ⟨(some 4), .load none (.tmp 3), none, [], false⟩,
      ⟨(some 6), .fieldAddr 131 (.tmp 1), none, [], false⟩,
      ⟨(some 7), .fieldAddr 33 (.tmp 6), none, [], false⟩,
      ⟨(some 8), .load none (.tmp 7), none, [], false⟩,
      ⟨(some 5), .callV (.func 63) [(.tmp 4)], none, [((some 8), .load none (.tmp 7), none), ((some 7), .fieldAddr 33 (.tmp 6), none), ((some 6), .fieldAddr 131 (.tmp 1), none)], false⟩,
      ⟨(some 10), .fieldAddr 165 (.tmp 1), none, [], false⟩,
      ⟨(some 9), .callV (.func 64) [(.tmp 8)], none, [((some 10), .fieldAddr 165 (.tmp 1), none)], false⟩,
      ⟨none, .store 1 (.tmp 10) (.tmp 5), none, [], true⟩,
      ⟨(some 11), .fieldAddr 131 (.tmp 1), none, [], true⟩,
      ⟨(some 12), .fieldAddr 33 (.tmp 11), none, [], true⟩,
      ⟨none, .store 1 (.tmp 12) (.tmp 9), none, [], true⟩]) (.seq (.region [
      ⟨(some 13), .load (some 166) (.tmp 1), none, [], false⟩,
      ⟨none, .store 166 (.tmp 2) (.tmp 13), none, [], false⟩]) .ret)))
def zwbQ : AFunc := ⟨14, [(2, some (some 166))], zwbQ_c, none⟩
theorem zwbQ_t0 : tableOf Try.prog 39 = some zwbQ := by kernel_rfl
theorem zwbQ_t : T0 39 = some zwbQ := withKept_t rfl (withTrue_t rfl zwbQ_t0)
def zpQ_c : ACode :=
  (.seq (.region [
      ⟨(some 2), .alloc 36 ((.string ⟨⟨[]⟩⟩) :: ((.int .i64 0) :: ((.int .i64 0) :: (z32 ++ (z32 ++ (z32 ++ (z32 ++ ((.int .i64 0) :: (z32 ++ [(.slice none 0 0), (.slice none 0 0)]))))))))), none, [], false⟩]) (.seq (.region [
      ⟨(some 3), .mov (.tmp 0), none, [], false⟩,
      ⟨(some 4), .build ((.string ⟨⟨[]⟩⟩) :: ((.int .i64 0) :: ((.int .i64 0) :: (z32 ++ (z32 ++ (z32 ++ z32)))))) [(1, 1, (.tmp 3))], none, [], false⟩,
      ⟨(some 5), .build ((.string ⟨⟨[]⟩⟩) :: ((.int .i64 0) :: ((.int .i64 0) :: (z32 ++ (z32 ++ (z32 ++ (z32 ++ ((.int .i64 0) :: (z32 ++ [(.slice none 0 0), (.slice none 0 0)]))))))))) [(0, 131, (.tmp 4))], none, [], false⟩,
      ⟨none, .store 166 (.tmp 2) (.tmp 5), none, [], false⟩]) .ret))
def zpQ : AFunc := ⟨6, [(2, some (some 166))], zpQ_c, none⟩
theorem zpQ_t0 : tableOf Try.prog 40 = some zpQ := by kernel_rfl
abbrev fn_zpbQ : FuncId := 41
def zpbQ_c : ACode :=
  (.seq (.region [
      ⟨(some 6), .mov (.const (.int .i64 0)), none, [], false⟩]) (.seq (.seq (.region [
      ⟨(some 9), .mov (.tmp 0), none, [], false⟩,
      ⟨(some 10), .callV (.func 37) [(.tmp 9)], none, [], false⟩]) (.cond (.tmp 10)
    (.seq (.region [
      ⟨(some 6), .mov (.const (.int .i64 1)), none, [], false⟩]) .ret)
    .skip)) (.seq (.region [
      ⟨(some 12), .mov (.tmp 0), none, [], false⟩,
      ⟨(some 13), .nilCheck (.tmp 12), none, [], false⟩,
      ⟨(some 14), .fieldAddr 1 (.tmp 13), none, [], false⟩,
      ⟨(some 15), .load none (.tmp 14), none, [], false⟩,
      ⟨(some 16), .mov (.tmp 1), none, [], false⟩,
      ⟨(some 17), .lookup (.int .i64) (.pointer none) true (.tmp 15) (.tmp 16), none, [], false⟩,
      ⟨(some 11), .mov (.tmp 17), none, [], false⟩,
      ⟨(some 18), .extract 0 (.tmp 11), none, [], false⟩,
      ⟨(some 19), .extract 1 (.tmp 11), none, [], false⟩,
      ⟨(some 7), .mov (.tmp 18), none, [], false⟩,
      ⟨(some 8), .mov (.tmp 19), none, [], false⟩]) (.seq (.seq (.region [
      ⟨(some 20), .mov (.tmp 8), none, [], false⟩,
      ⟨(some 21), .raw (so (.unOp .not 4 (.tmp 20)) 4), none, [], false⟩]) (.cond (.tmp 21)
    (.seq (.region [
      ⟨(some 6), .mov (.const (.int .i64 10)), none, [], false⟩]) .ret)
    .skip)) (.seq (.region [
      ⟨(some 22), .mov (.tmp 2), none, [], false⟩,
      ⟨(some 23), .mov (.tmp 7), none, [], false⟩,
      ⟨(some 24), .callV (.tmp 22) [(.tmp 23)], none, [], false⟩]) (.seq (.region [
      ⟨(some 6), .mov (.const (.int .i64 0)), none, [], false⟩]) .ret))))))
def zpbQ : AFunc := ⟨25, [(6, none)], zpbQ_c, none⟩
theorem zpbQ_t0 : tableOf Try.prog 41 = some zpbQ := by kernel_rfl
theorem zpbQ_t : T0 41 = some zpbQ := withKept_t rfl (withTrue_t rfl zpbQ_t0)
abbrev fn_zibQ : FuncId := 42
def zibQ_c : ACode :=
  (.region [
      ⟨(some 3), .mov (.tmp 0), none, [], false⟩,
      ⟨(some 4), .load none (.tmp 1), none, [], false⟩,
      ⟨(some 5), .nilCheck (.tmp 3), none, [], false⟩,
      ⟨(some 6), .fieldAddr 167 (.tmp 5), none, [], false⟩,
      ⟨none, .store 1 (.tmp 6) (.tmp 4), none, [], false⟩])
def zibQ : AFunc := ⟨7, [], zibQ_c, none⟩
theorem zibQ_t0 : tableOf Try.prog 42 = some zibQ := by kernel_rfl
theorem zibQ_t : T0 42 = some zibQ := withKept_t rfl (withTrue_t rfl zibQ_t0)
abbrev fn_zrQ : FuncId := 43
def zrQ_l0 : ACode :=
  (.seq (.region [
      ⟨(some 8), .nextMap (.tmp 7), none, [], false⟩,
      ⟨(some 9), .extract 0 (.tmp 8), none, [], false⟩]) (.seq (.cond (.tmp 9)
    .skip
    (.exit 0)) (.block 1 (.seq (.region [
      ⟨(some 10), .entryMap (.tmp 7), none, [], false⟩,
      ⟨(some 11), .extract 0 (.tmp 10), none, [], false⟩,
      ⟨(some 12), .extract 1 (.tmp 10), none, [], false⟩,
      ⟨(some 4), .mov (.tmp 11), none, [], false⟩,
      ⟨(some 5), .mov (.tmp 12), none, [], false⟩]) (.seq (.region [
      ⟨(some 13), .mov (.tmp 1), none, [], false⟩,
      ⟨(some 14), .mov (.tmp 4), none, [], false⟩,
      ⟨(some 15), .mov (.tmp 5), none, [], false⟩,
      ⟨(some 16), .callV (.tmp 13) [(.tmp 14), (.tmp 15)], none, [], false⟩]) (.cond (.tmp 16)
    (.region [
      ⟨(some 17), .mov (.tmp 0), none, [], false⟩,
      ⟨(some 18), .mov (.tmp 4), none, [], false⟩,
      ⟨none, .delete (.int .i64) (.tmp 17) (.tmp 18), none, [], false⟩])
    .skip))))))
def zrQ_c : ACode :=
  (.seq (.region [
      ⟨(some 6), .mov (.tmp 0), none, [], false⟩,
      ⟨(some 7), .rangeMap (.tmp 6), none, [], false⟩]) (.block 0 (.loop zrQ_l0)))
def zrQ : AFunc := ⟨19, [], zrQ_c, none⟩
theorem zrQ_t0 : tableOf Try.prog 43 = some zrQ := by kernel_rfl
theorem zrQ_t : T0 43 = some zrQ := withKept_t rfl (withTrue_t rfl zrQ_t0)
abbrev fn_zebQ : FuncId := 44
def zebQ_c : ACode :=
  (.seq (.region [
      ⟨(some 5), .mov (.const (.bool false)), none, [], false⟩]) (.seq (.region [
      ⟨(some 6), .mov (.tmp 0), none, [], false⟩,
      ⟨(some 7), .load none (.tmp 2), none, [], false⟩,
      ⟨(some 8), .bin .neq (so (.binOp .neq 3 (.tmp 6) (.tmp 7) 3) 4) (.tmp 6) (.tmp 7), none, [], false⟩,
      ⟨(some 5), .mov (.tmp 8), none, [], false⟩]) .ret))
def zebQ : AFunc := ⟨9, [(5, none)], zebQ_c, none⟩
theorem zebQ_t0 : tableOf Try.prog 44 = some zebQ := by kernel_rfl
theorem zebQ_t : T0 44 = some zebQ := withKept_t rfl (withTrue_t rfl zebQ_t0)
abbrev fn_zlbQ : FuncId := 45
def zlbQ_c : ACode :=
  (.region [
      ⟨(some 2), .mov (.tmp 0), none, [], false⟩,
      ⟨(some 3), .nilCheck (.tmp 2), none, [], false⟩,
      ⟨(some 4), .fieldAddr 166 (.tmp 3), none, [], false⟩,
      ⟨none, .store 1 (.tmp 4) (.const (.bool true)), none, [], false⟩])
def zlbQ : AFunc := ⟨5, [], zlbQ_c, none⟩
theorem zlbQ_t0 : tableOf Try.prog 45 = some zlbQ := by kernel_rfl
theorem zlbQ_t : T0 45 = some zlbQ := withKept_t rfl (withTrue_t rfl zlbQ_t0)
abbrev fn_zmbQ : FuncId := 46
def zmbQ_ra0 : Code := (rangeParts (subCode ((Try.prog.funcs[46]?).bind (·.body)) [true, false, true, false])).1
def zmbQ_rb0 : Code := (rangeParts (subCode ((Try.prog.funcs[46]?).bind (·.body)) [true, false, true, false])).2
def zmbQ_a0 : ACode :=
  (.region [
      ⟨(some 3), .mov (.tmp 9), none, [], false⟩])
def zmbQ_b0 : ACode :=
  (.block 1 (.seq (.region [
      ⟨(some 10), .mov (.tmp 3), none, [], false⟩,
      ⟨(some 11), .nilCheck (.tmp 10), none, [], false⟩,
      ⟨(some 12), .fieldAddr 167 (.tmp 11), none, [], false⟩,
      ⟨(some 13), .load none (.tmp 12), none, [], false⟩,
      ⟨(some 14), .raw (so (.unOp .not 4 (.tmp 13)) 4), none, [], false⟩]) (.cond (.tmp 14)
    (.region [
      ⟨(some 15), .load none (.tmp 2), none, [], false⟩,
      ⟨(some 16), .mov (.tmp 3), none, [], false⟩,
      ⟨(some 17), .buildSlice 80 [(.pointer none)] 1 [(0, 1, (.tmp 16))], none, [], false⟩,
      ⟨(some 18), .append 80 1 8 [(.pointer none)] false (.tmp 15) (.tmp 17), none, [], false⟩,
      ⟨none, .store 1 (.tmp 2) (.tmp 18), none, [], false⟩])
    .skip)))
theorem zmbQ_ca0 : comp Try.prog zmbQ_ra0 = some zmbQ_a0 := by kernel_rfl
theorem zmbQ_cb0 : comp Try.prog zmbQ_rb0 = some zmbQ_b0 := by kernel_rfl
theorem zmbQ_na0 : noDefer zmbQ_ra0 = true := by kernel_rfl
theorem zmbQ_nb0 : noDefer zmbQ_rb0 = true := by kernel_rfl
def zmbQ_c : ACode :=
  (.seq (.region [
      ⟨(some 2), .alloc 89 [(.slice none 0 0)], none, [], false⟩]) (.seq (.seq (.region [
      ⟨(some 4), .mov (.tmp 0), none, [], false⟩,
      ⟨(some 5), .nilCheck (.tmp 4), none, [], false⟩,
      ⟨(some 6), .fieldAddr 1 (.tmp 5), none, [], false⟩,
      ⟨(some 7), .load none (.tmp 6), none, [], false⟩,
      ⟨(some 8), .callV (.func 65) [(.tmp 7)], none, [], false⟩]) (.block 0 (.rangeFunc (.tmp 8) [9] zmbQ_ra0 zmbQ_rb0))) (.seq (.region [
      ⟨(some 19), .load none (.tmp 2), none, [], false⟩,
      ⟨none, .store 1 (.tmp 2) (.tmp 19), none, [], false⟩]) .ret)))
def zmbQ : AFunc := ⟨20, [(2, some none)], zmbQ_c, none⟩
theorem zmbQ_t0 : tableOf Try.prog 46 = some zmbQ := by kernel_rfl
theorem zmbQ_t : T0 46 = some zmbQ := withKept_t rfl (withTrue_t rfl zmbQ_t0)
abbrev fn_zabQ : FuncId := 47
def zabQ_l0 : ACode :=
  (.seq (.seq (.region [
      ⟨(some 14), .mov (.tmp 6), none, [], false⟩,
      ⟨(some 15), .mov (.tmp 0), none, [], false⟩,
      ⟨(some 16), .lenSl (.tmp 15), none, [], false⟩,
      ⟨(some 17), .bin .lss (so (.binOp .lss 3 (.tmp 14) (.tmp 16) 3) 4) (.tmp 14) (.tmp 16), none, [], false⟩]) (.cond (.tmp 17)
    .skip
    (.exit 0))) (.seq (.block 1 (.seq (.region [
      ⟨(some 20), .mov (.tmp 1), none, [], false⟩,
      ⟨(some 21), .mov (.tmp 0), none, [], false⟩,
      ⟨(some 22), .mov (.tmp 6), none, [], false⟩,
      ⟨(some 23), .indexSl 1 (.tmp 21) (.tmp 22), none, [], false⟩,
      ⟨(some 24), .load none (.tmp 23), none, [], false⟩,
      ⟨(some 25), .mov (.tmp 5), none, [], false⟩,
      ⟨(some 26), .callV (.tmp 20) [(.tmp 24), (.tmp 25)], none, [], false⟩,
      ⟨(some 27), .bin .lss (so (.binOp .lss 3 (.tmp 26) (.const (.int .i64 0)) 3) 4) (.tmp 26) (.const (.int .i64 0)), none, [], false⟩]) (.cond (.tmp 27)
    (.region [
      ⟨(some 28), .mov (.tmp 0), none, [], false⟩,
      ⟨(some 29), .mov (.tmp 6), none, [], false⟩,
      ⟨(some 30), .indexSl 1 (.tmp 28) (.tmp 29), none, [], false⟩,
      ⟨(some 31), .load none (.tmp 30), none, [], false⟩,
      ⟨(some 5), .mov (.tmp 31), none, [], false⟩])
    .skip))) (.region [
      ⟨(some 18), .mov (.tmp 6), none, [], false⟩,
      ⟨(some 19), .bin .add (so (.binOp .add 3 (.tmp 18) (.const (.int .i64 1)) 3) 3) (.tmp 18) (.const (.int .i64 1)), none, [], false⟩,
      ⟨(some 6), .mov (.tmp 19), none, [], false⟩])))
def zabQ_c : ACode :=
  (.seq (.region [
      ⟨(some 4), .mov (.const (.pointer none)), none, [], false⟩]) (.seq (.seq (.region [
      ⟨(some 7), .mov (.tmp 0), none, [], false⟩,
      ⟨(some 8), .lenSl (.tmp 7), none, [], false⟩,
      ⟨(some 9), .bin .lss (so (.binOp .lss 3 (.tmp 8) (.const (.int .i64 1)) 3) 4) (.tmp 8) (.const (.int .i64 1)), none, [], false⟩]) (.cond (.tmp 9)
    (.region [
      ⟨(some 10), .mkIface 9 (.const (.string ⟨⟨[115, 108, 105, 99, 101, 115, 46, 77, 105, 110, 70, 117, 110, 99, 58, 32, 101, 109, 112, 116, 121, 32, 108, 105, 115, 116]⟩⟩)), none, [], false⟩,
      ⟨none, .panic (.tmp 10), none, [], false⟩])
    .skip)) (.seq (.region [
      ⟨(some 11), .mov (.tmp 0), none, [], false⟩,
      ⟨(some 12), .indexSl 1 (.tmp 11) (.const (.int .i64 0)), none, [], false⟩,
      ⟨(some 13), .load none (.tmp 12), none, [], false⟩,
      ⟨(some 5), .mov (.tmp 13), none, [], false⟩]) (.seq (.seq (.region [
      ⟨(some 6), .mov (.const (.int .i64 1)), none, [], false⟩]) (.block 0 (.loop zabQ_l0))) (.seq (.region [
      ⟨(some 32), .mov (.tmp 5), none, [], false⟩,
      ⟨(some 4), .mov (.tmp 32), none, [], false⟩]) .ret)))))
def zabQ : AFunc := ⟨33, [(4, none)], zabQ_c, none⟩
theorem zabQ_t0 : tableOf Try.prog 47 = some zabQ := by kernel_rfl
theorem zabQ_t : T0 47 = some zabQ := withKept_t rfl (withTrue_t rfl zabQ_t0)
abbrev fn_zubQ : FuncId := 48
def zubQ_c : ACode :=
  (.seq (.region [
      ⟨(some 4), .mov (.const (.int .i64 0)), none, [], false⟩]) (.seq (.region [
      ⟨(some 5), .mov (.func 66), none, [], false⟩]) (.seq (.regionD [
      ⟨(some 6), .mov (.tmp 5), none, [], false⟩,
      ⟨(some 7), .mov (.tmp 0), none, [], false⟩,
      ⟨(some 9), .mov (.tmp 5), none, [], false⟩,
      ⟨(some 10), .mov (.tmp 1), none, [], false⟩,
      ⟨(some 13), .mov (.tmp 0), none, [], false⟩,
      ⟨(some 14), .nilCheck (.tmp 13), none, [], false⟩,
      ⟨(some 15), .fieldAddr 0 (.tmp 14), none, [], false⟩,
      ⟨(some 16), .fieldAddr 0 (.tmp 15), none, [], false⟩,
      ⟨(some 17), .fieldAddr 1 (.tmp 16), none, [], false⟩,
      ⟨(some 18), .load none (.tmp 17), none, [], false⟩,
      ⟨(some 19), .mov (.tmp 1), none, [], false⟩,
      ⟨(some 20), .nilCheck (.tmp 19), none, [], false⟩,
      ⟨(some 21), .fieldAddr 0 (.tmp 20), none, [], false⟩,
      ⟨(some 22), .fieldAddr 0 (.tmp 21), none, [], false⟩,
      ⟨(some 23), .fieldAddr 1 (.tmp 22), none, [], false⟩,
      ⟨(some 24), .load none (.tmp 23), none, [], false⟩,
      ⟨(some 8), .callV (.tmp 6) [(.tmp 7)], none, [((some 24), .load none (.tmp 23), none), ((some 23), .fieldAddr 1 (.tmp 22), none), ((some 22), .fieldAddr 0 (.tmp 21), none), ((some 21), .fieldAddr 0 (.tmp 20), none), ((some 20), .nilCheck (.tmp 19), none), ((some 19), .mov (.tmp 1), none), ((some 18), .load none (.tmp 17), none), ((some 17), .fieldAddr 1 (.tmp 16), none), ((some 16), .fieldAddr 0 (.tmp 15), none), ((some 15), .fieldAddr 0 (.tmp 14), none), ((some 14), .nilCheck (.tmp 13), none), ((some 13), .mov (.tmp 0), none), ((some 10), .mov (.tmp 1), none), ((some 9), .mov (.tmp 5), none)], false⟩,
      ⟨(some 11), .callV (.tmp 9) [(.tmp 10)], none, [((some 24), .load none (.tmp 23), none), ((some 23), .fieldAddr 1 (.tmp 22), none), ((some 22), .fieldAddr 0 (.tmp 21), none), ((some 21), .fieldAddr 0 (.tmp 20), none), ((some 20), .nilCheck (.tmp 19), none), ((some 19), .mov (.tmp 1), none), ((some 18), .load none (.tmp 17), none), ((some 17), .fieldAddr 1 (.tmp 16), none), ((some 16), .fieldAddr 0 (.tmp 15), none), ((some 15), .fieldAddr 0 (.tmp 14), none), ((some 14), .nilCheck (.tmp 13), none), ((some 13), .mov (.tmp 0), none)], false⟩,
      ⟨(some 12), .callV (.func 68) [(.tmp 8), (.tmp 11)], none, [((some 24), .load none (.tmp 23), none), ((some 23), .fieldAddr 1 (.tmp 22), none), ((some 22), .fieldAddr 0 (.tmp 21), none), ((some 21), .fieldAddr 0 (.tmp 20), none), ((some 20), .nilCheck (.tmp 19), none), ((some 19), .mov (.tmp 1), none), ((some 18), .load none (.tmp 17), none), ((some 17), .fieldAddr 1 (.tmp 16), none), ((some 16), .fieldAddr 0 (.tmp 15), none), ((some 15), .fieldAddr 0 (.tmp 14), none), ((some 14), .nilCheck (.tmp 13), none), ((some 13), .mov (.tmp 0), none)], false⟩,
      ⟨(some 25), .callV (.func 68) [(.tmp 18), (.tmp 24)], none, [], true⟩,
      ⟨(some 26), .buildSlice 3 [(.int .i64 0), (.int .i64 0)] 2 [(0, 1, (.tmp 12)), (1, 1, (.tmp 25))], none, [], true⟩,
      ⟨(some 27), .callV (.func 67) [(.tmp 26)], none, [], true⟩,
      ⟨(some 4), .mov (.tmp 27), none, [], true⟩]) .ret)))
def zubQ : AFunc := ⟨28, [(4, none)], zubQ_c, none⟩
theorem zubQ_t0 : tableOf Try.prog 48 = some zubQ := by kernel_rfl
theorem zubQ_t : T0 48 = some zubQ := withKept_t rfl (withTrue_t rfl zubQ_t0)
abbrev fn_zzQ : FuncId := 58
def zzQ_c : ACode :=
  (.seq (.region [
      ⟨(some 2), .mov (.const (.slice none 0 0)), none, [], false⟩]) (.seq (.region [
      ⟨(some 3), .mov (.tmp 0), none, [], false⟩,
      ⟨(some 4), .callV (.func 70) [(.const (.slice none 0 0)), (.tmp 3)], none, [], false⟩,
      ⟨(some 2), .mov (.tmp 4), none, [], false⟩]) .ret))
def zzQ : AFunc := ⟨5, [(2, none)], zzQ_c, none⟩
theorem zzQ_t0 : tableOf Try.prog 58 = some zzQ := by kernel_rfl
theorem zzQ_t : T0 58 = some zzQ := withKept_t rfl (withTrue_t rfl zzQ_t0)
abbrev fn_zsQ : FuncId := 59
def zsQ_c : ACode :=
  (.seq (.region [
      ⟨(some 1), .box 73 (.tmp 0), none, [], false⟩,
      ⟨(some 2), .mov (.const .nilFunc), none, [], false⟩]) (.seq (.region [
      ⟨(some 3), .mkFunc (.func 71) [] [(.tmp 1)], none, [], false⟩,
      ⟨(some 2), .mov (.tmp 3), none, [], false⟩]) .ret))
def zsQ : AFunc := ⟨4, [(2, none)], zsQ_c, none⟩
theorem zsQ_t0 : tableOf Try.prog 59 = some zsQ := by kernel_rfl
theorem zsQ_t : T0 59 = some zsQ := withKept_t rfl (withTrue_t rfl zsQ_t0)
abbrev fn_zdQ : FuncId := 60
def zdQ_l0 : ACode :=
  (.seq (.seq (.region [
      ⟨(some 9), .mov (.tmp 3), none, [], false⟩,
      ⟨(some 10), .bin .geq (so (.binOp .geq 3 (.tmp 9) (.const (.int .i64 0)) 3) 4) (.tmp 9) (.const (.int .i64 0)), none, [], false⟩]) (.cond (.tmp 10)
    .skip
    (.exit 0))) (.seq (.block 1 (.region [
      ⟨(some 13), .mov (.tmp 0), none, [], false⟩,
      ⟨(some 14), .mov (.tmp 3), none, [], false⟩,
      ⟨(some 15), .mov (.tmp 2), none, [], false⟩,
      ⟨(some 16), .callV (.func 72) [(.tmp 13), (.tmp 14), (.tmp 15)], none, [], false⟩])) (.region [
      ⟨(some 11), .mov (.tmp 3), none, [], false⟩,
      ⟨(some 12), .bin .sub (so (.binOp .sub 3 (.tmp 11) (.const (.int .i64 1)) 3) 3) (.tmp 11) (.const (.int .i64 1)), none, [], false⟩,
      ⟨(some 3), .mov (.tmp 12), none, [], false⟩])))
def zdQ_c : ACode :=
  (.seq (.region [
      ⟨(some 4), .mov (.tmp 0), none, [], false⟩,
      ⟨(some 5), .invoke (.tmp 4) "Len" [], none, [], false⟩,
      ⟨(some 2), .mov (.tmp 5), none, [], false⟩]) (.seq (.region [
      ⟨(some 6), .mov (.tmp 2), none, [], false⟩,
      ⟨(some 7), .bin .quo (so (.binOp .quo 3 (.tmp 6) (.const (.int .i64 2)) 3) 3) (.tmp 6) (.const (.int .i64 2)), none, [], false⟩,
      ⟨(some 8), .bin .sub (so (.binOp .sub 3 (.tmp 7) (.const (.int .i64 1)) 3) 3) (.tmp 7) (.const (.int .i64 1)), none, [], false⟩,
      ⟨(some 3), .mov (.tmp 8), none, [], false⟩]) (.block 0 (.loop zdQ_l0))))
def zdQ : AFunc := ⟨17, [], zdQ_c, none⟩
theorem zdQ_t0 : tableOf Try.prog 60 = some zdQ := by kernel_rfl
theorem zdQ_t : T0 60 = some zdQ := withKept_t rfl (withTrue_t rfl zdQ_t0)
abbrev fn_zqbQ : FuncId := 61
def zqbQ_c : ACode :=
  (.seq (.region [
      ⟨(some 2), .mov (.const (.int .i64 0)), none, [], false⟩]) (.seq (.region [
      ⟨(some 3), .mov (.tmp 0), none, [], false⟩,
      ⟨(some 4), .lenSl (.tmp 3), none, [], false⟩,
      ⟨(some 2), .mov (.tmp 4), none, [], false⟩]) .ret))
def zqbQ : AFunc := ⟨5, [(2, none)], zqbQ_c, none⟩
theorem zqbQ_t0 : tableOf Try.prog 61 = some zqbQ := by kernel_rfl
theorem zqbQ_t : T0 61 = some zqbQ := withKept_t rfl (withTrue_t rfl zqbQ_t0)
abbrev fn_zeQ : FuncId := 62
def zeQ_c : ACode :=
  (.seq (.region [
      ⟨(some 2), .mov (.const .nilIface), none, [], false⟩]) (.seq (.region [
      ⟨(some 4), .mov (.tmp 0), none, [], false⟩,
      ⟨(some 5), .invoke (.tmp 4) "Len" [], none, [], false⟩,
      ⟨(some 6), .bin .sub (so (.binOp .sub 3 (.tmp 5) (.const (.int .i64 1)) 3) 3) (.tmp 5) (.const (.int .i64 1)), none, [], false⟩,
      ⟨(some 3), .mov (.tmp 6), none, [], false⟩]) (.seq (.region [
      ⟨(some 7), .mov (.tmp 0), none, [], false⟩,
      ⟨(some 8), .mov (.tmp 3), none, [], false⟩,
      ⟨(some 9), .invoke (.tmp 7) "Swap" [(.const (.int .i64 0)), (.tmp 8)], none, [], false⟩]) (.seq (.region [
      ⟨(some 10), .mov (.tmp 0), none, [], false⟩,
      ⟨(some 11), .mov (.tmp 3), none, [], false⟩,
      ⟨(some 12), .callV (.func 72) [(.tmp 10), (.const (.int .i64 0)), (.tmp 11)], none, [], false⟩]) (.seq (.region [
      ⟨(some 13), .mov (.tmp 0), none, [], false⟩,
      ⟨(some 14), .invoke (.tmp 13) "Pop" [], none, [], false⟩,
      ⟨(some 2), .mov (.tmp 14), none, [], false⟩]) .ret)))))
def zeQ : AFunc := ⟨15, [(2, none)], zeQ_c, none⟩
theorem zeQ_t0 : tableOf Try.prog 62 = some zeQ := by kernel_rfl
theorem zeQ_t : T0 62 = some zeQ := withKept_t rfl (withTrue_t rfl zeQ_t0)
abbrev fn_zxQ : FuncId := 63
def zxQ_c : ACode :=
  (.seq (.region [
      ⟨(some 2), .mov (.const (.slice none 0 0)), none, [], false⟩]) (.seq (.seq (.region [
      ⟨(some 3), .mov (.tmp 0), none, [], false⟩,
      ⟨(some 4), .eq .slice false (so (.binOp .eql 34 (.tmp 3) (.const (.slice none 0 0)) 34) 4) (.tmp 3) (.const (.slice none 0 0)), none, [], false⟩]) (.cond (.tmp 4)
    (.seq (.region [
      ⟨(some 2), .mov (.const (.slice none 0 0)), none, [], false⟩]) .ret)
    .skip)) (.seq (.region [
      ⟨(some 5), .buildSlice 113 [] 0 [], none, [], false⟩,
      ⟨(some 6), .mov (.tmp 0), none, [], false⟩,
      ⟨(some 7), .append 113 5 16 [(.int .u8 0), (.int .u8 0), (.int .u8 0), (.int .u8 0), (.int .i64 0)] false (.tmp 5) (.tmp 6), none, [], false⟩,
      ⟨(some 2), .mov (.tmp 7), none, [], false⟩]) .ret)))
def zxQ : AFunc := ⟨8, [(2, none)], zxQ_c, none⟩
theorem zxQ_t0 : tableOf Try.prog 63 = some zxQ := by kernel_rfl
theorem zxQ_t : T0 63 = some zxQ := withKept_t rfl (withTrue_t rfl zxQ_t0)
abbrev fn_zyQ : FuncId := 64
def zyQ_c : ACode :=
  (.seq (.region [
      ⟨(some 2), .mov (.const (.slice none 0 0)), none, [], false⟩]) (.seq (.seq (.region [
      ⟨(some 3), .mov (.tmp 0), none, [], false⟩,
      ⟨(some 4), .eq .slice false (so (.binOp .eql 31 (.tmp 3) (.const (.slice none 0 0)) 31) 4) (.tmp 3) (.const (.slice none 0 0)), none, [], false⟩]) (.cond (.tmp 4)
    (.seq (.region [
      ⟨(some 2), .mov (.const (.slice none 0 0)), none, [], false⟩]) .ret)
    .skip)) (.seq (.region [
      ⟨(some 5), .buildSlice 117 [] 0 [], none, [], false⟩,
      ⟨(some 6), .mov (.tmp 0), none, [], false⟩,
      ⟨(some 7), .append 117 2 16 [(.int .i64 0), (.int .u64 0)] false (.tmp 5) (.tmp 6), none, [], false⟩,
      ⟨(some 2), .mov (.tmp 7), none, [], false⟩]) .ret)))
def zyQ : AFunc := ⟨8, [(2, none)], zyQ_c, none⟩
theorem zyQ_t0 : tableOf Try.prog 64 = some zyQ := by kernel_rfl
theorem zyQ_t : T0 64 = some zyQ := withKept_t rfl (withTrue_t rfl zyQ_t0)
abbrev fn_zuQ : FuncId := 65
def zuQ_c : ACode :=
  (.seq (.region [
      ⟨(some 1), .box 73 (.tmp 0), none, [], false⟩,
      ⟨(some 2), .mov (.const .nilFunc), none, [], false⟩]) (.seq (.region [
      ⟨(some 3), .mkFunc (.func 73) [] [(.tmp 1)], none, [], false⟩,
      ⟨(some 2), .mov (.tmp 3), none, [], false⟩]) .ret))
def zuQ : AFunc := ⟨4, [(2, none)], zuQ_c, none⟩
theorem zuQ_t0 : tableOf Try.prog 65 = some zuQ := by kernel_rfl
theorem zuQ_t : T0 65 = some zuQ := withKept_t rfl (withTrue_t rfl zuQ_t0)
abbrev fn_zvbQ : FuncId := 66
def zvbQ_c : ACode :=
  (.seq (.region [
      ⟨(some 2), .mov (.const (.int .i64 0)), none, [], false⟩]) (.seq (.seq (.region [
      ⟨(some 3), .mov (.tmp 0), none, [], false⟩,
      ⟨(some 4), .nilCheck (.tmp 3), none, [], false⟩,
      ⟨(some 5), .fieldAddr 166 (.tmp 4), none, [], false⟩,
      ⟨(some 6), .load none (.tmp 5), none, [], false⟩]) (.cond (.tmp 6)
    (.seq (.region [
      ⟨(some 2), .mov (.const (.int .i64 1)), none, [], false⟩]) .ret)
    .skip)) (.seq (.region [
      ⟨(some 2), .mov (.const (.int .i64 0)), none, [], false⟩]) .ret)))
def zvbQ : AFunc := ⟨7, [(2, none)], zvbQ_c, none⟩
theorem zvbQ_t0 : tableOf Try.prog 66 = some zvbQ := by kernel_rfl
theorem zvbQ_t : T0 66 = some zvbQ := withKept_t rfl (withTrue_t rfl zvbQ_t0)
abbrev fn_zbQ : FuncId := 67
def zbQ_l0 : ACode :=
  (.seq (.region [
      ⟨(some 9), .bin .lss (so (.binOp .lss 3 (.tmp 8) (.tmp 7) 3) 0) (.tmp 8) (.tmp 7), none, [], false⟩]) (.seq (.cond (.tmp 9)
    .skip
    (.exit 0)) (.seq (.block 1 (.seq (.region [
      ⟨(some 10), .indexSl 1 (.tmp 6) (.tmp 8), none, [], false⟩,
      ⟨(some 11), .load none (.tmp 10), none, [], false⟩,
      ⟨(some 5), .mov (.tmp 11), none, [], false⟩]) (.seq (.region [
      ⟨(some 12), .mov (.tmp 5), none, [], false⟩,
      ⟨(some 13), .mov (.tmp 3), none, [], false⟩,
      ⟨(some 14), .bin .neq (so (.binOp .neq 3 (.tmp 12) (.tmp 13) 3) 4) (.tmp 12) (.tmp 13), none, [], false⟩]) (.cond (.tmp 14)
    (.seq (.region [
      ⟨(some 15), .mov (.tmp 5), none, [], false⟩,
      ⟨(some 2), .mov (.tmp 15), none, [], false⟩]) .ret)
    .skip)))) (.region [
      ⟨(some 16), .bin .add (so (.binOp .add 3 (.tmp 8) (.const (.int .i64 1)) 3) 3) (.tmp 8) (.const (.int .i64 1)), none, [], false⟩,
      ⟨(some 8), .mov (.tmp 16), none, [], false⟩]))))
def zbQ_c : ACode :=
  (.seq (.region [
      ⟨(some 2), .mov (.const (.int .i64 0)), none, [], false⟩]) (.seq (.region [
      ⟨(some 3), .mov (.const (.int .i64 0)), none, [], false⟩]) (.seq (.seq (.region [
      ⟨(some 6), .mov (.tmp 0), none, [], false⟩,
      ⟨(some 7), .lenSl (.tmp 6), none, [], false⟩,
      ⟨(some 8), .mov (.const (.int .i64 0)), none, [], false⟩]) (.block 0 (.loop zbQ_l0))) (.seq (.region [
      ⟨(some 17), .mov (.tmp 3), none, [], false⟩,
      ⟨(some 2), .mov (.tmp 17), none, [], false⟩]) .ret))))
def zbQ : AFunc := ⟨18, [(2, none)], zbQ_c, none⟩
theorem zbQ_t0 : tableOf Try.prog 67 = some zbQ := by kernel_rfl
theorem zbQ_t : T0 67 = some zbQ := withKept_t rfl (withTrue_t rfl zbQ_t0)
abbrev fn_zaQ : FuncId := 68
def zaQ_c : ACode :=
  (.seq (.region [
      ⟨(some 4), .mov (.const (.int .i64 0)), none, [], false⟩]) (.seq (.region [
      ⟨(some 7), .mov (.tmp 0), none, [], false⟩,
      ⟨(some 8), .callV (.func 74) [(.tmp 7)], none, [], false⟩,
      ⟨(some 5), .mov (.tmp 8), none, [], false⟩]) (.seq (.region [
      ⟨(some 9), .mov (.tmp 1), none, [], false⟩,
      ⟨(some 10), .callV (.func 74) [(.tmp 9)], none, [], false⟩,
      ⟨(some 6), .mov (.tmp 10), none, [], false⟩]) (.seq (.seq (.region [
      ⟨(some 11), .mov (.tmp 5), none, [], false⟩]) (.cond (.tmp 11)
    (.seq (.seq (.region [
      ⟨(some 12), .mov (.tmp 6), none, [], false⟩]) (.cond (.tmp 12)
    (.seq (.region [
      ⟨(some 4), .mov (.const (.int .i64 0)), none, [], false⟩]) .ret)
    .skip)) (.seq (.region [
      ⟨(some 4), .mov (.const (.int .i64 (-1))), none, [], false⟩]) .ret))
    .skip)) (.seq (.seq (.region [
      ⟨(some 13), .mov (.tmp 6), none, [], false⟩]) (.cond (.tmp 13)
    (.seq (.region [
      ⟨(some 4), .mov (.const (.int .i64 1)), none, [], false⟩]) .ret)
    .skip)) (.seq (.seq (.region [
      ⟨(some 14), .mov (.tmp 0), none, [], false⟩,
      ⟨(some 15), .mov (.tmp 1), none, [], false⟩,
      ⟨(some 16), .bin .lss (so (.binOp .lss 3 (.tmp 14) (.tmp 15) 3) 4) (.tmp 14) (.tmp 15), none, [], false⟩]) (.cond (.tmp 16)
    (.seq (.region [
      ⟨(some 4), .mov (.const (.int .i64 (-1))), none, [], false⟩]) .ret)
    .skip)) (.seq (.seq (.region [
      ⟨(some 17), .mov (.tmp 0), none, [], false⟩,
      ⟨(some 18), .mov (.tmp 1), none, [], false⟩,
      ⟨(some 19), .bin .gtr (so (.binOp .gtr 3 (.tmp 17) (.tmp 18) 3) 4) (.tmp 17) (.tmp 18), none, [], false⟩]) (.cond (.tmp 19)
    (.seq (.region [
      ⟨(some 4), .mov (.const (.int .i64 1)), none, [], false⟩]) .ret)
    .skip)) (.seq (.region [
      ⟨(some 4), .mov (.const (.int .i64 0)), none, [], false⟩]) .ret))))))))
def zaQ : AFunc := ⟨20, [(4, none)], zaQ_c, none⟩
theorem zaQ_t0 : tableOf Try.prog 68 = some zaQ := by kernel_rfl
theorem zaQ_t : T0 68 = some zaQ := withKept_t rfl (withTrue_t rfl zaQ_t0)
abbrev fn_zwQ : FuncId := 70
def zwQ_ra0 : Code := (rangeParts (subCode ((Try.prog.funcs[70]?).bind (·.body)) [true, false, true, false])).1
def zwQ_rb0 : Code := (rangeParts (subCode ((Try.prog.funcs[70]?).bind (·.body)) [true, false, true, false])).2
def zwQ_a0 : ACode :=
  (.region [
      ⟨(some 5), .mov (.tmp 7), none, [], false⟩])
def zwQ_b0 : ACode :=
  (.block 1 (.region [
      ⟨(some 8), .load none (.tmp 2), none, [], false⟩,
      ⟨(some 9), .mov (.tmp 5), none, [], false⟩,
      ⟨(some 10), .buildSlice 3 [(.int .i64 0)] 1 [(0, 1, (.tmp 9))], none, [], false⟩,
      ⟨(some 11), .append 3 1 8 [(.int .i64 0)] false (.tmp 8) (.tmp 10), none, [], false⟩,
      ⟨none, .store 1 (.tmp 2) (.tmp 11), none, [], false⟩]))
theorem zwQ_ca0 : comp Try.prog zwQ_ra0 = some zwQ_a0 := by kernel_rfl
theorem zwQ_cb0 : comp Try.prog zwQ_rb0 = some zwQ_b0 := by kernel_rfl
theorem zwQ_na0 : noDefer zwQ_ra0 = true := by kernel_rfl
theorem zwQ_nb0 : noDefer zwQ_rb0 = true := by kernel_rfl
def zwQ_c : ACode :=
  (.seq (.region [
      ⟨(some 2), .box 78 (.tmp 0), none, [], false⟩,
      ⟨(some 4), .mov (.const (.slice none 0 0)), none, [], false⟩]) (.seq (.seq (.region [
      ⟨(some 6), .mov (.tmp 1), none, [], false⟩]) (.block 0 (.rangeFunc (.tmp 6) [7] zwQ_ra0 zwQ_rb0))) (.seq (.region [
      ⟨(some 12), .load none (.tmp 2), none, [], false⟩,
      ⟨(some 4), .mov (.tmp 12), none, [], false⟩]) .ret)))
def zwQ : AFunc := ⟨13, [(4, none)], zwQ_c, none⟩
theorem zwQ_t0 : tableOf Try.prog 70 = some zwQ := by kernel_rfl
theorem zwQ_t : T0 70 = some zwQ := withKept_t rfl (withTrue_t rfl zwQ_t0)
abbrev fn_ztQ : FuncId := 71
def ztQ_l0 : ACode :=
  (.seq (.region [
      ⟨(some 6), .nextMap (.tmp 5), none, [], false⟩,
      ⟨(some 7), .extract 0 (.tmp 6), none, [], false⟩]) (.seq (.cond (.tmp 7)
    .skip
    (.exit 0)) (.block 1 (.seq (.region [
      ⟨(some 8), .entryMap (.tmp 5), none, [], false⟩,
      ⟨(some 9), .extract 0 (.tmp 8), none, [], false⟩,
      ⟨(some 3), .mov (.tmp 9), none, [], false⟩]) (.seq (.region [
      ⟨(some 10), .mov (.tmp 0), none, [], false⟩,
      ⟨(some 11), .mov (.tmp 3), none, [], false⟩,
      ⟨(some 12), .callV (.tmp 10) [(.tmp 11)], none, [], false⟩,
      ⟨(some 13), .raw (so (.unOp .not 4 (.tmp 12)) 4), none, [], false⟩]) (.cond (.tmp 13)
    .ret
    .skip))))))
def ztQ_c : ACode :=
  (.seq (.region [
      ⟨(some 4), .load none (.tmp 1), none, [], false⟩,
      ⟨(some 5), .rangeMap (.tmp 4), none, [], false⟩]) (.block 0 (.loop ztQ_l0)))
def ztQ : AFunc := ⟨14, [], ztQ_c, none⟩
theorem ztQ_t0 : tableOf Try.prog 71 = some ztQ := by kernel_rfl
theorem ztQ_t : T0 71 = some ztQ := withKept_t rfl (withTrue_t rfl ztQ_t0)
abbrev fn_zfQ : FuncId := 72
def zfQ_l0 : ACode :=
  (.block 1 (.seq (.region [
      ⟨(some 12), .mov (.tmp 7), none, [], false⟩,
      ⟨(some 13), .bin .mul (so (.binOp .mul 3 (.const (.int .i64 2)) (.tmp 12) 3) 3) (.const (.int .i64 2)) (.tmp 12), none, [], false⟩,
      ⟨(some 14), .bin .add (so (.binOp .add 3 (.tmp 13) (.const (.int .i64 1)) 3) 3) (.tmp 13) (.const (.int .i64 1)), none, [], false⟩,
      ⟨(some 8), .mov (.tmp 14), none, [], false⟩]) (.seq (.seq (.region [
      ⟨(some 15), .mov (.tmp 8), none, [], false⟩,
      ⟨(some 16), .mov (.tmp 2), none, [], false⟩,
      ⟨(some 17), .bin .geq (so (.binOp .geq 3 (.tmp 15) (.tmp 16) 3) 4) (.tmp 15) (.tmp 16), none, [], false⟩,
      ⟨(some 18), .mov (.tmp 17), none, [], false⟩,
      ⟨(some 19), .mov (.tmp 8), (some (18, false)), [], false⟩,
      ⟨(some 20), .bin .lss (so (.binOp .lss 3 (.tmp 19) (.const (.int .i64 0)) 3) 4) (.tmp 19) (.const (.int .i64 0)), (some (18, false)), [], false⟩,
      ⟨(some 21), .pick (.tmp 18) (.const (.bool true)) (.tmp 20), none, [], false⟩]) (.cond (.tmp 21)
    (.exit 0)
    .skip)) (.seq (.region [
      ⟨(some 22), .mov (.tmp 8), none, [], false⟩,
      ⟨(some 9), .mov (.tmp 22), none, [], false⟩]) (.seq (.seq (.region [
      ⟨(some 23), .mov (.tmp 8), none, [], false⟩,
      ⟨(some 24), .bin .add (so (.binOp .add 3 (.tmp 23) (.const (.int .i64 1)) 3) 3) (.tmp 23) (.const (.int .i64 1)), none, [], false⟩,
      ⟨(some 10), .mov (.tmp 24), none, [], false⟩]) (.seq (.region [
      ⟨(some 25), .mov (.tmp 10), none, [], false⟩,
      ⟨(some 26), .mov (.tmp 2), none, [], false⟩,
      ⟨(some 27), .bin .lss (so (.binOp .lss 3 (.tmp 25) (.tmp 26) 3) 4) (.tmp 25) (.tmp 26), none, [], false⟩,
      ⟨(some 28), .mov (.tmp 27), none, [], false⟩,
      ⟨(some 29), .mov (.tmp 0), (some (28, true)), [], false⟩,
      ⟨(some 30), .mov (.tmp 10), (some (28, true)), [], false⟩,
      ⟨(some 31), .mov (.tmp 8), (some (28, true)), [], false⟩,
      ⟨(some 32), .invoke (.tmp 29) "Less" [(.tmp 30), (.tmp 31)], (some (28, true)), [], false⟩,
      ⟨(some 33), .pick (.tmp 28) (.tmp 32) (.const (.bool false)), none, [], false⟩]) (.cond (.tmp 33)
    (.region [
      ⟨(some 34), .mov (.tmp 10), none, [], false⟩,
      ⟨(some 9), .mov (.tmp 34), none, [], false⟩])
    .skip))) (.seq (.seq (.region [
      ⟨(some 35), .mov (.tmp 0), none, [], false⟩,
      ⟨(some 36), .mov (.tmp 9), none, [], false⟩,
      ⟨(some 37), .mov (.tmp 7), none, [], false⟩,
      ⟨(some 38), .invoke (.tmp 35) "Less" [(.tmp 36), (.tmp 37)], none, [], false⟩,
      ⟨(some 39), .raw (so (.unOp .not 4 (.tmp 38)) 4), none, [], false⟩]) (.cond (.tmp 39)
    (.exit 0)
    .skip)) (.seq (.region [
      ⟨(some 40), .mov (.tmp 0), none, [], false⟩,
      ⟨(some 41), .mov (.tmp 7), none, [], false⟩,
      ⟨(some 42), .mov (.tmp 9), none, [], false⟩,
      ⟨(some 43), .invoke (.tmp 40) "Swap" [(.tmp 41), (.tmp 42)], none, [], false⟩]) (.region [
      ⟨(some 44), .mov (.tmp 9), none, [], false⟩,
      ⟨(some 7), .mov (.tmp 44), none, [], false⟩]))))))))
def zfQ_c : ACode :=
  (.seq (.region [
      ⟨(some 6), .mov (.const (.bool false)), none, [], false⟩]) (.seq (.region [
      ⟨(some 11), .mov (.tmp 1), none, [], false⟩,
      ⟨(some 7), .mov (.tmp 11), none, [], false⟩]) (.seq (.block 0 (.loop zfQ_l0)) (.seq (.region [
      ⟨(some 45), .mov (.tmp 7), none, [], false⟩,
      ⟨(some 46), .mov (.tmp 1), none, [], false⟩,
      ⟨(some 47), .bin .gtr (so (.binOp .gtr 3 (.tmp 45) (.tmp 46) 3) 4) (.tmp 45) (.tmp 46), none, [], false⟩,
      ⟨(some 6), .mov (.tmp 47), none, [], false⟩]) .ret))))
def zfQ : AFunc := ⟨48, [(6, none)], zfQ_c, none⟩
theorem zfQ_t0 : tableOf Try.prog 72 = some zfQ := by kernel_rfl
theorem zfQ_t : T0 72 = some zfQ := withKept_t rfl (withTrue_t rfl zfQ_t0)
abbrev fn_zvQ : FuncId := 73
def zvQ_l0 : ACode :=
  (.seq (.region [
      ⟨(some 7), .nextMap (.tmp 6), none, [], false⟩,
      ⟨(some 8), .extract 0 (.tmp 7), none, [], false⟩]) (.seq (.cond (.tmp 8)
    .skip
    (.exit 0)) (.block 1 (.seq (.region [
      ⟨(some 9), .entryMap (.tmp 6), none, [], false⟩,
      ⟨(some 10), .extract 1 (.tmp 9), none, [], false⟩,
      ⟨(some 4), .mov (.tmp 10), none, [], false⟩]) (.seq (.region [
      ⟨(some 11), .mov (.tmp 0), none, [], false⟩,
      ⟨(some 12), .mov (.tmp 4), none, [], false⟩,
      ⟨(some 13), .callV (.tmp 11) [(.tmp 12)], none, [], false⟩,
      ⟨(some 14), .raw (so (.unOp .not 4 (.tmp 13)) 4), none, [], false⟩]) (.cond (.tmp 14)
    .ret
    .skip))))))
def zvQ_c : ACode :=
  (.seq (.region [
      ⟨(some 5), .load none (.tmp 1), none, [], false⟩,
      ⟨(some 6), .rangeMap (.tmp 5), none, [], false⟩]) (.block 0 (.loop zvQ_l0)))
def zvQ : AFunc := ⟨15, [], zvQ_c, none⟩
theorem zvQ_t0 : tableOf Try.prog 73 = some zvQ := by kernel_rfl
theorem zvQ_t : T0 73 = some zvQ := withKept_t rfl (withTrue_t rfl zvQ_t0)
abbrev fn_zcQ : FuncId := 74
def zcQ_c : ACode :=
  (.seq (.region [
      ⟨(some 2), .mov (.const (.bool false)), none, [], false⟩]) (.seq (.region [
      ⟨(some 3), .mov (.tmp 0), none, [], false⟩,
      ⟨(some 4), .mov (.tmp 0), none, [], false⟩,
      ⟨(some 5), .bin .neq (so (.binOp .neq 3 (.tmp 3) (.tmp 4) 3) 4) (.tmp 3) (.tmp 4), none, [], false⟩,
      ⟨(some 2), .mov (.tmp 5), none, [], false⟩]) .ret))
def zcQ : AFunc := ⟨6, [(2, none)], zcQ_c, none⟩
theorem zcQ_t0 : tableOf Try.prog 74 = some zcQ := by kernel_rfl
theorem zcQ_t : T0 74 = some zcQ := withKept_t rfl (withTrue_t rfl zcQ_t0)
abbrev fn_zrbQ : FuncId := 92
def zrbQ_c : ACode :=
  (.seq (.region [
      ⟨(some 6), .mov (.const (.bool false)), none, [], false⟩]) (.seq (.regionD [
      ⟨(some 7), .mov (.tmp 0), none, [], false⟩,
      ⟨(some 8), .mov (.tmp 1), none, [], false⟩,
      ⟨(some 9), .indexSl 1 (.tmp 7) (.tmp 8), none, [], false⟩,
      ⟨(some 10), .load none (.tmp 9), none, [], false⟩,
      ⟨(some 11), .mov (.tmp 0), none, [], false⟩,
      ⟨(some 12), .mov (.tmp 2), none, [], false⟩,
      ⟨(some 13), .indexSl 1 (.tmp 11) (.tmp 12), none, [], false⟩,
      ⟨(some 14), .load none (.tmp 13), none, [], false⟩,
      ⟨(some 15), .bin .lss (so (.binOp .lss 3 (.tmp 10) (.tmp 14) 3) 4) (.tmp 10) (.tmp 14), none, [], true⟩,
      ⟨(some 6), .mov (.tmp 15), none, [], true⟩]) .ret))
def zrbQ : AFunc := ⟨16, [(6, none)], zrbQ_c, none⟩
theorem zrbQ_t0 : tableOf Try.prog 92 = some zrbQ := by kernel_rfl
theorem zrbQ_t : T0 92 = some zrbQ := withKept_t rfl (withTrue_t rfl zrbQ_t0)
abbrev fn_ztbQ : FuncId := 93
def ztbQ_c : ACode :=
  (.regionD [
      ⟨(some 6), .mov (.tmp 0), none, [], false⟩,
      ⟨(some 7), .mov (.tmp 1), none, [], false⟩,
      ⟨(some 8), .mov (.tmp 0), none, [], false⟩,
      ⟨(some 9), .mov (.tmp 2), none, [], false⟩,
      ⟨(some 10), .mov (.tmp 0), none, [], false⟩,
      ⟨(some 11), .mov (.tmp 2), none, [], false⟩,
      ⟨(some 12), .indexSl 1 (.tmp 10) (.tmp 11), none, [], false⟩,
      ⟨(some 13), .load none (.tmp 12), none, [], false⟩,
      ⟨(some 14), .mov (.tmp 0), none, [], false⟩,
      ⟨(some 15), .mov (.tmp 1), none, [], false⟩,
      ⟨(some 16), .indexSl 1 (.tmp 14) (.tmp 15), none, [], false⟩,
      ⟨(some 17), .load none (.tmp 16), none, [], false⟩,
      ⟨(some 18), .indexSl 1 (.tmp 6) (.tmp 7), none, [], false⟩,
      ⟨none, .store 1 (.tmp 18) (.tmp 13), none, [((some 9), .mov (.tmp 2), none), ((some 8), .mov (.tmp 0), none)], false⟩,
      ⟨(some 19), .indexSl 1 (.tmp 8) (.tmp 9), none, [], true⟩,
      ⟨none, .store 1 (.tmp 19) (.tmp 17), none, [], true⟩])
def ztbQ : AFunc := ⟨20, [], ztbQ_c, none⟩
theorem ztbQ_t0 : tableOf Try.prog 93 = some ztbQ := by kernel_rfl
theorem ztbQ_t : T0 93 = some ztbQ := withKept_t rfl (withTrue_t rfl ztbQ_t0)
abbrev fn_zsbQ : FuncId := 94
def zsbQ_c : ACode :=
  (.seq (.region [
      ⟨(some 2), .mov (.const .nilIface), none, [], false⟩]) (.seq (.region [
      ⟨(some 5), .mov (.tmp 0), none, [], false⟩,
      ⟨(some 6), .nilCheck (.tmp 5), none, [], false⟩,
      ⟨(some 7), .load none (.tmp 6), none, [], false⟩,
      ⟨(some 8), .lenSl (.tmp 7), none, [], false⟩,
      ⟨(some 9), .bin .sub (so (.binOp .sub 3 (.tmp 8) (.const (.int .i64 1)) 3) 3) (.tmp 8) (.const (.int .i64 1)), none, [], false⟩,
      ⟨(some 3), .mov (.tmp 9), none, [], false⟩]) (.seq (.region [
      ⟨(some 10), .mov (.tmp 0), none, [], false⟩,
      ⟨(some 11), .nilCheck (.tmp 10), none, [], false⟩,
      ⟨(some 12), .load none (.tmp 11), none, [], false⟩,
      ⟨(some 13), .mov (.tmp 3), none, [], false⟩,
      ⟨(some 14), .indexSl 1 (.tmp 12) (.tmp 13), none, [], false⟩,
      ⟨(some 15), .load none (.tmp 14), none, [], false⟩,
      ⟨(some 4), .mov (.tmp 15), none, [], false⟩]) (.seq (.region [
      ⟨(some 16), .mov (.tmp 0), none, [], false⟩,
      ⟨(some 17), .mov (.tmp 0), none, [], false⟩,
      ⟨(some 18), .nilCheck (.tmp 17), none, [], false⟩,
      ⟨(some 19), .load none (.tmp 18), none, [], false⟩,
      ⟨(some 20), .mov (.tmp 3), none, [], false⟩,
      ⟨(some 21), .sliceSl 1 (.tmp 19) none (some (.tmp 20)) none, none, [], false⟩,
      ⟨(some 22), .nilCheck (.tmp 16), none, [], false⟩,
      ⟨none, .store 1 (.tmp 22) (.tmp 21), none, [], false⟩]) (.seq (.region [
      ⟨(some 23), .mov (.tmp 4), none, [], false⟩,
      ⟨(some 24), .mkIface 3 (.tmp 23), none, [], false⟩,
      ⟨(some 2), .mov (.tmp 24), none, [], false⟩]) .ret)))))
def zsbQ : AFunc := ⟨25, [(2, none)], zsbQ_c, none⟩
theorem zsbQ_t0 : tableOf Try.prog 94 = some zsbQ := by kernel_rfl
theorem zsbQ_t : T0 94 = some zsbQ := withKept_t rfl (withTrue_t rfl zsbQ_t0)
def table : TT :=
  (.node (.node (.node (.node (.node (.node .nil 3 zkQ .nil) 8 zmQ .nil) 9 zbbQ (.node (.node .nil 10 zcbQ .nil) 11 zqQ .nil)) 12 zhbQ (.node (.node (.node .nil 13 zdbQ .nil) 14 zfbQ .nil) 15 zlQ (.node (.node .nil 16 ziQ .nil) 17 zgbQ .nil))) 18 zkbQ (.node (.node (.node (.node .nil 21 zjbQ .nil) 37 znbQ .nil) 38 zobQ (.node (.node .nil 39 zwbQ .nil) 40 zpQ .nil)) 41 zpbQ (.node (.node (.node .nil 42 zibQ .nil) 43 zrQ .nil) 44 zebQ (.node .nil 45 zlbQ .nil)))) 46 zmbQ (.node (.node (.node (.node (.node .nil 47 zabQ .nil) 48 zubQ .nil) 58 zzQ (.node (.node .nil 59 zsQ .nil) 60 zdQ .nil)) 61 zqbQ (.node (.node (.node .nil 62 zeQ .nil) 63 zxQ .nil) 64 zyQ (.node .nil 65 zuQ .nil))) 66 zvbQ (.node (.node (.node (.node .nil 67 zbQ .nil) 68 zaQ .nil) 70 zwQ (.node (.node .nil 71 ztQ .nil) 72 zfQ .nil)) 73 zvQ (.node (.node (.node .nil 74 zcQ .nil) 92 zrbQ .nil) 93 ztbQ (.node .nil 94 zsbQ .nil)))))
theorem table_all : table.All Try.prog := ⟨zmbQ_t0, ⟨zkbQ_t0, ⟨zhbQ_t0, ⟨zbbQ_t0, ⟨zmQ_t0, ⟨zkQ_t0, trivial, trivial⟩, trivial⟩, ⟨zqQ_t0, ⟨zcbQ_t0, trivial, trivial⟩, trivial⟩⟩, ⟨zlQ_t0, ⟨zfbQ_t0, ⟨zdbQ_t0, trivial, trivial⟩, trivial⟩, ⟨zgbQ_t0, ⟨ziQ_t0, trivial, trivial⟩, trivial⟩⟩⟩, ⟨zpbQ_t0, ⟨zobQ_t0, ⟨znbQ_t0, ⟨zjbQ_t0, trivial, trivial⟩, trivial⟩, ⟨zpQ_t0, ⟨zwbQ_t0, trivial, trivial⟩, trivial⟩⟩, ⟨zebQ_t0, ⟨zrQ_t0, ⟨zibQ_t0, trivial, trivial⟩, trivial⟩, ⟨zlbQ_t0, trivial, trivial⟩⟩⟩⟩, ⟨zvbQ_t0, ⟨zqbQ_t0, ⟨zzQ_t0, ⟨zubQ_t0, ⟨zabQ_t0, trivial, trivial⟩, trivial⟩, ⟨zdQ_t0, ⟨zsQ_t0, trivial, trivial⟩, trivial⟩⟩, ⟨zyQ_t0, ⟨zxQ_t0, ⟨zeQ_t0, trivial, trivial⟩, trivial⟩, ⟨zuQ_t0, trivial, trivial⟩⟩⟩, ⟨zvQ_t0, ⟨zwQ_t0, ⟨zaQ_t0, ⟨zbQ_t0, trivial, trivial⟩, trivial⟩, ⟨zfQ_t0, ⟨ztQ_t0, trivial, trivial⟩, trivial⟩⟩, ⟨ztbQ_t0, ⟨zrbQ_t0, ⟨zcQ_t0, trivial, trivial⟩, trivial⟩, ⟨zsbQ_t0, trivial, trivial⟩⟩⟩⟩⟩
end Go.Proofs.Ytmhnddkpiefkhaa.R

namespace Go.Proofs.Ytmhnddkpiefkhaa.R
open Go Go.Vm
set_option maxRecDepth 100000
def rep (n : Nat) (v : Value) (l : List Value) : List Value := List.replicate n v ++ l
def va_1 : Value := .agg ⟨(.string ⟨⟨[]⟩⟩) :: (.int .i64 5) :: (.int .i64 0) :: rep 128 (.int .u8 0) ((.int .i64 0) :: rep 32 (.int .u8 0) ((.slice none 0 0) :: (.slice none 0 0) :: []))⟩
def ob_2 : AObj := .cells ((.string ⟨⟨[]⟩⟩) :: (.int .i64 5) :: (.int .i64 0) :: rep 128 (.int .u8 0) ((.int .i64 0) :: rep 32 (.int .u8 0) ((.slice none 0 0) :: (.slice none 0 0) :: []))) 0
def ob_3 : AObj := .cells ((.string ⟨⟨[]⟩⟩) :: (.int .i64 5) :: (.int .i64 0) :: rep 128 (.int .u8 0) ((.int .i64 0) :: rep 32 (.int .u8 0) ((.slice none 0 0) :: (.slice none 0 0) :: (.bool false) :: (.bool false) :: []))) 0
def va_4 : Value := .agg ⟨(.string ⟨⟨[]⟩⟩) :: (.int .i64 2) :: (.int .i64 0) :: rep 128 (.int .u8 0) ((.int .i64 0) :: rep 32 (.int .u8 0) ((.slice none 0 0) :: (.slice none 0 0) :: []))⟩
def ob_5 : AObj := .cells ((.string ⟨⟨[]⟩⟩) :: (.int .i64 2) :: (.int .i64 0) :: rep 128 (.int .u8 0) ((.int .i64 0) :: rep 32 (.int .u8 0) ((.slice none 0 0) :: (.slice none 0 0) :: []))) 0
def ob_6 : AObj := .cells ((.string ⟨⟨[]⟩⟩) :: (.int .i64 2) :: (.int .i64 0) :: rep 128 (.int .u8 0) ((.int .i64 0) :: rep 32 (.int .u8 0) ((.slice none 0 0) :: (.slice none 0 0) :: (.bool false) :: (.bool false) :: []))) 0
def va_7 : Value := .agg ⟨(.string ⟨⟨[]⟩⟩) :: (.int .i64 9) :: (.int .i64 0) :: rep 128 (.int .u8 0) ((.int .i64 0) :: rep 32 (.int .u8 0) ((.slice none 0 0) :: (.slice none 0 0) :: []))⟩
def ob_8 : AObj := .cells ((.string ⟨⟨[]⟩⟩) :: (.int .i64 9) :: (.int .i64 0) :: rep 128 (.int .u8 0) ((.int .i64 0) :: rep 32 (.int .u8 0) ((.slice none 0 0) :: (.slice none 0 0) :: []))) 0
def ob_9 : AObj := .cells ((.string ⟨⟨[]⟩⟩) :: (.int .i64 9) :: (.int .i64 0) :: rep 128 (.int .u8 0) ((.int .i64 0) :: rep 32 (.int .u8 0) ((.slice none 0 0) :: (.slice none 0 0) :: (.bool false) :: (.bool false) :: []))) 0
def va_10 : Value := .agg ⟨(.string ⟨⟨[]⟩⟩) :: (.int .i64 7) :: (.int .i64 0) :: rep 128 (.int .u8 0) ((.int .i64 0) :: rep 32 (.int .u8 0) ((.slice none 0 0) :: (.slice none 0 0) :: []))⟩
def ob_11 : AObj := .cells ((.string ⟨⟨[]⟩⟩) :: (.int .i64 5) :: (.int .i64 0) :: rep 128 (.int .u8 0) ((.int .i64 0) :: rep 32 (.int .u8 0) ((.slice none 0 0) :: (.slice none 0 0) :: (.bool true) :: (.bool false) :: []))) 0
def ob_12 : AObj := .cells ((.string ⟨⟨[]⟩⟩) :: (.int .i64 7) :: (.int .i64 0) :: rep 128 (.int .u8 0) ((.int .i64 0) :: rep 32 (.int .u8 0) ((.slice none 0 0) :: (.slice none 0 0) :: []))) 0
def ob_13 : AObj := .cells ((.string ⟨⟨[]⟩⟩) :: (.int .i64 2) :: (.int .i64 0) :: rep 128 (.int .u8 0) ((.int .i64 0) :: rep 32 (.int .u8 0) ((.slice none 0 0) :: (.slice none 0 0) :: (.bool false) :: (.bool true) :: []))) 0
def ob_14 : AObj := .cells ((.string ⟨⟨[]⟩⟩) :: (.int .i64 7) :: (.int .i64 0) :: rep 128 (.int .u8 0) ((.int .i64 0) :: rep 32 (.int .u8 0) ((.slice none 0 0) :: (.slice none 0 0) :: (.bool false) :: (.bool false) :: []))) 0
def va_15 : Value := .agg ⟨(.string ⟨⟨[]⟩⟩) :: (.int .i64 0) :: (.int .i64 0) :: rep 128 (.int .u8 0) ((.int .i64 0) :: rep 32 (.int .u8 0) ((.slice none 0 0) :: (.slice none 0 0) :: []))⟩
def va_16 : Value := .agg ⟨(.string ⟨⟨[]⟩⟩) :: (.int .i64 3) :: (.int .i64 0) :: rep 128 (.int .u8 0) ((.int .i64 0) :: rep 32 (.int .u8 0) ((.slice none 0 0) :: (.slice none 0 0) :: []))⟩
def ob_17 : AObj := .cells ((.string ⟨⟨[]⟩⟩) :: (.int .i64 0) :: (.int .i64 0) :: rep 128 (.int .u8 0) ((.int .i64 0) :: rep 32 (.int .u8 0) ((.slice none 0 0) :: (.slice none 0 0) :: []))) 0
def ob_18 : AObj := .cells ((.string ⟨⟨[]⟩⟩) :: (.int .i64 3) :: (.int .i64 0) :: rep 128 (.int .u8 0) ((.int .i64 0) :: rep 32 (.int .u8 0) ((.slice none 0 0) :: (.slice none 0 0) :: []))) 0
def ob_19 : AObj := .cells ((.string ⟨⟨[]⟩⟩) :: (.int .i64 3) :: (.int .i64 0) :: rep 128 (.int .u8 0) ((.int .i64 0) :: rep 32 (.int .u8 0) ((.slice none 0 0) :: (.slice none 0 0) :: (.bool false) :: (.bool false) :: []))) 0
def va_20 : Value := .agg ⟨(.string ⟨⟨[]⟩⟩) :: (.int .i64 4) :: (.int .i64 0) :: rep 128 (.int .u8 0) ((.int .i64 0) :: rep 32 (.int .u8 0) ((.slice none 0 0) :: (.slice none 0 0) :: []))⟩
def ob_21 : AObj := .cells ((.string ⟨⟨[]⟩⟩) :: (.int .i64 5) :: (.int .i64 0) :: rep 128 (.int .u8 0) ((.int .i64 0) :: rep 32 (.int .u8 0) ((.slice none 0 0) :: (.slice none 0 0) :: (.bool true) :: (.bool true) :: []))) 0
def ob_22 : AObj := .cells ((.string ⟨⟨[]⟩⟩) :: (.int .i64 4) :: (.int .i64 0) :: rep 128 (.int .u8 0) ((.int .i64 0) :: rep 32 (.int .u8 0) ((.slice none 0 0) :: (.slice none 0 0) :: []))) 0
def ob_23 : AObj := .cells ((.string ⟨⟨[]⟩⟩) :: (.int .i64 3) :: (.int .i64 0) :: rep 128 (.int .u8 0) ((.int .i64 0) :: rep 32 (.int .u8 0) ((.slice none 0 0) :: (.slice none 0 0) :: (.bool false) :: (.bool true) :: []))) 0
def ob_24 : AObj := .cells ((.int .i64 2) :: (.bool false) :: (.bool true) :: (.int .i64 5) :: (.bool true) :: (.bool false) :: (.int .i64 7) :: (.bool false) :: (.bool false) :: []) 3
def ob_25 : AObj := .cells ((.int .i64 2) :: (.bool false) :: (.bool true) :: (.int .i64 5) :: (.bool true) :: (.bool false) :: (.int .i64 7) :: (.bool false) :: (.bool false) :: []) 0
def tr_1 : Tr := .node ob_2 .nil .nil
def tr_2 : Tr := .node ob_3 .nil .nil
def tr_3 : Tr := .node .dead .nil .nil
def tr_4 : Tr := .node (.map [⟨(.int .i64 5), (.pointer (some ⟨7, 0, none⟩)), 0⟩] 1) (.node ob_2 tr_2 .nil) tr_3
def tr_5 : Tr := .node ob_5 .nil .nil
def tr_6 : Tr := .node ob_2 tr_2 tr_3
def tr_7 : Tr := .node .dead tr_3 .nil
def tr_8 : Tr := .node ob_6 .nil .nil
def tr_9 : Tr := .node (.cells [(.int .i64 3), (.map (some 1))] 0) (.node .dead tr_5 tr_8) tr_7
def tr_10 : Tr := .node ob_8 .nil .nil
def tr_11 : Tr := .node .dead tr_3 tr_10
def tr_12 : Tr := .node ob_9 .nil .nil
def tr_13 : Tr := .node .dead (.node .dead tr_12 .nil) tr_10
def tr_14 : Tr := .node ob_5 tr_3 .nil
def tr_15 : Tr := .node .dead tr_3 tr_3
def tr_16 : Tr := .node ob_11 tr_3 .nil
def tr_17 : Tr := .node ob_12 .nil .nil
def tr_18 : Tr := .node .dead tr_17 .nil
def tr_19 : Tr := .node ob_13 .nil .nil
def tr_20 : Tr := .node (.cells [(.bool true)] 0) .nil .nil
def tr_21 : Tr := .node .dead tr_20 .nil
def tr_22 : Tr := .node ob_14 .nil .nil
def tr_23 : Tr := .node .dead tr_20 tr_3
def tr_24 : Tr := .node .dead (.node (.map [⟨(.int .i64 5), (.pointer (some ⟨7, 0, none⟩)), 0⟩, ⟨(.int .i64 2), (.pointer (some ⟨12, 0, none⟩)), 1⟩, ⟨(.int .i64 7), (.pointer (some ⟨33, 0, none⟩)), 3⟩] 4) (.node ob_2 (.node ob_11 tr_7 tr_3) (.node .dead tr_17 tr_3)) (.node .dead (.node .dead (.node ob_9 tr_22 .nil) tr_3) (.node ob_8 tr_3 tr_3))) (.node (.cells [(.int .i64 3), (.map (some 1))] 0) (.node .dead (.node ob_5 tr_7 tr_3) (.node ob_13 tr_3 tr_3)) (.node .dead tr_23 tr_15))
def tr_25 : Tr := .node .dead (.node ob_12 tr_3 tr_3) tr_7
def tr_26 : Tr := .node .dead (.node .dead (.node ob_9 tr_22 tr_3) tr_7) (.node ob_8 tr_15 tr_7)
def tr_27 : Tr := .node .dead tr_15 tr_7
def tr_28 : Tr := .node (.cells [(.int .i64 3), (.map (some 1))] 0) (.node .dead (.node ob_5 tr_15 tr_7) (.node ob_13 tr_15 tr_7)) (.node .dead (.node .dead (.node (.cells [(.bool true)] 0) tr_3 tr_3) tr_7) tr_27)
def tr_29 : Tr := .node .dead tr_3 tr_1
def tr_30 : Tr := .node .dead tr_7 tr_3
def tr_31 : Tr := .node .dead tr_7 tr_1
def tr_32 : Tr := .node ob_11 tr_30 tr_31
def tr_33 : Tr := .node ob_12 tr_7 tr_3
def tr_34 : Tr := .node ob_14 tr_3 .nil
def tr_35 : Tr := .node .dead (.node .dead (.node ob_9 tr_34 tr_3) tr_30) (.node ob_8 tr_30 tr_15)
def tr_36 : Tr := .node ob_5 tr_30 tr_30
def tr_37 : Tr := .node .dead tr_30 tr_15
def tr_38 : Tr := .node .dead (.node .dead (.node (.cells [(.bool true)] 0) tr_7 tr_3) tr_30) tr_37
def tr_39 : Tr := .node ob_17 .nil .nil
def tr_40 : Tr := .node .dead tr_39 .nil
def tr_41 : Tr := .node .dead tr_40 tr_3
def tr_42 : Tr := .node ob_18 .nil .nil
def tr_43 : Tr := .node .dead tr_42 .nil
def tr_44 : Tr := .node .dead tr_43 tr_3
def tr_45 : Tr := .node .dead tr_7 tr_7
def tr_46 : Tr := .node ob_2 tr_3 .nil
def tr_47 : Tr := .node .dead tr_7 tr_46
def tr_48 : Tr := .node ob_12 tr_7 tr_7
def tr_49 : Tr := .node .dead (.node ob_9 tr_34 tr_7) tr_45
def tr_50 : Tr := .node ob_5 tr_45 tr_45
def tr_51 : Tr := .node (.cells [(.bool true)] 0) tr_7 tr_7
def tr_52 : Tr := .node .dead tr_7 (.node .dead (.node ob_19 .nil .nil) .nil)
def tr_53 : Tr := .node .dead tr_45 tr_30
def tr_54 : Tr := .node .dead tr_40 tr_21
def tr_55 : Tr := .node ob_22 .nil .nil
def tr_56 : Tr := .node .dead tr_55 .nil
def tr_57 : Tr := .node .dead tr_7 tr_56
def tr_58 : Tr := .node ob_8 tr_45 tr_57
def tr_59 : Tr := .node .dead tr_43 tr_21
def tr_60 : Tr := .node ob_13 tr_45 tr_59
def tr_61 : Tr := .node ob_23 .nil .nil
def tr_62 : Tr := .node .dead tr_61 .nil
def tr_63 : Tr := .node .dead tr_7 tr_62
def tr_64 : Tr := .node ob_12 tr_15 tr_7
def tr_65 : Tr := .node .dead tr_64 tr_54
def tr_66 : Tr := .node ob_2 (.node ob_21 tr_27 tr_47) tr_65
def tr_67 : Tr := .node ob_14 tr_3 tr_3
def tr_68 : Tr := .node ob_9 tr_67 tr_7
def tr_69 : Tr := .node .dead tr_68 tr_45
def tr_70 : Tr := .node ob_5 tr_27 tr_45
def tr_71 : Tr := .node (.cells [(.bool true)] 0) tr_15 tr_7
def tr_72 : Tr := .node .dead tr_45 tr_45
def tr_73 : Tr := .node .dead (.node .dead tr_71 tr_63) tr_72
def tr_74 : Tr := .node .dead (.node (.map [⟨(.int .i64 5), (.pointer (some ⟨7, 0, none⟩)), 0⟩, ⟨(.int .i64 2), (.pointer (some ⟨12, 0, none⟩)), 1⟩, ⟨(.int .i64 3), (.pointer (some ⟨90, 0, none⟩)), 4⟩] 5) tr_66 (.node .dead tr_69 tr_58)) (.node (.cells [(.int .i64 3), (.map (some 1))] 0) (.node .dead tr_70 tr_60) tr_73)
def tr_75 : Tr := .node ob_8 tr_27 tr_57
def tr_76 : Tr := .node ob_13 tr_27 tr_59
def tr_77 : Tr := .node .dead tr_3 tr_39
def tr_78 : Tr := .node .dead tr_77 tr_46
def tr_79 : Tr := .node ob_21 tr_27 tr_78
def tr_80 : Tr := .node (.cells [(.int .i64 3), (.map (some 104))] 0) .nil .nil
def tr_81 : Tr := .node .dead tr_3 tr_80
def tr_82 : Tr := .node .dead tr_81 tr_7
def tr_83 : Tr := .node .dead tr_68 tr_82
def tr_84 : Tr := .node .dead tr_29 tr_62
def tr_85 : Tr := .node .dead tr_71 tr_84
def tr_86 : Tr := .node .dead tr_77 tr_7
def tr_87 : Tr := .node .dead tr_39 tr_3
def tr_88 : Tr := .node .dead tr_87 tr_21
def tr_89 : Tr := .node .dead tr_64 tr_88
def tr_90 : Tr := .node .dead tr_15 tr_56
def tr_91 : Tr := .node ob_8 tr_27 tr_90
def tr_92 : Tr := .node .dead tr_83 tr_91
def tr_93 : Tr := .node .dead tr_42 tr_3
def tr_94 : Tr := .node .dead tr_93 tr_21
def tr_95 : Tr := .node ob_13 tr_27 tr_94
def tr_96 : Tr := .node .dead (.node .dead tr_3 tr_2) tr_7
def tr_97 : Tr := .node .dead tr_86 tr_96
def tr_98 : Tr := .node (.cells [(.int .i64 3), (.map (some 1))] 0) (.node .dead (.node ob_5 tr_27 (.node .dead (.node .dead tr_3 (.node (.map [⟨(.int .i64 5), (.pointer (some ⟨110, 0, none⟩)), 0⟩] 1) .nil .nil)) tr_7)) tr_95) (.node .dead tr_85 tr_97)
def tr_99 : Tr := .node .dead tr_3 tr_5
def tr_100 : Tr := .node .dead tr_15 tr_99
def tr_101 : Tr := .node ob_21 tr_100 tr_78
def tr_102 : Tr := .node .dead (.node ob_12 tr_15 (.node .dead tr_3 tr_8)) tr_88
def tr_103 : Tr := .node ob_9 tr_67 tr_15
def tr_104 : Tr := .node .dead tr_103 tr_82
def tr_105 : Tr := .node (.map [⟨(.int .i64 5), (.pointer (some ⟨7, 0, none⟩)), 0⟩] 5) (.node ob_2 tr_101 tr_102) (.node .dead tr_104 tr_91)
def tr_106 : Tr := .node .dead tr_15 tr_15
def tr_107 : Tr := .node ob_5 tr_106 (.node .dead (.node .dead tr_3 (.node (.map [⟨(.int .i64 5), (.pointer (some ⟨110, 0, none⟩)), 0⟩, ⟨(.int .i64 2), (.pointer (some ⟨115, 0, none⟩)), 1⟩] 2) .nil .nil)) tr_7)
def tr_108 : Tr := .node (.cells [(.bool true)] 0) tr_15 tr_15
def tr_109 : Tr := .node .dead tr_108 tr_84
def tr_110 : Tr := .node .dead tr_109 tr_97
def tr_111 : Tr := .node ob_13 (.node .dead tr_15 tr_11) tr_94
def tr_112 : Tr := .node ob_2 tr_3 tr_3
def tr_113 : Tr := .node ob_21 tr_100 (.node .dead tr_77 tr_112)
def tr_114 : Tr := .node ob_8 tr_106 tr_90
def tr_115 : Tr := .node .dead tr_3 tr_12
def tr_116 : Tr := .node .dead (.node ob_5 tr_106 (.node .dead (.node .dead tr_3 (.node (.map [⟨(.int .i64 5), (.pointer (some ⟨110, 0, none⟩)), 0⟩, ⟨(.int .i64 2), (.pointer (some ⟨115, 0, none⟩)), 1⟩, ⟨(.int .i64 9), (.pointer (some ⟨120, 0, none⟩)), 2⟩] 3) .nil .nil)) tr_115)) tr_111
def tr_117 : Tr := .node .dead tr_77 tr_15
def tr_118 : Tr := .node .dead tr_3 tr_19
def tr_119 : Tr := .node .dead tr_3 tr_20
def tr_120 : Tr := .node .dead tr_81 tr_119
def tr_121 : Tr := .node .dead tr_29 (.node .dead tr_61 tr_17)
def tr_122 : Tr := .node ob_11 .nil .nil
def tr_123 : Tr := .node .dead tr_3 tr_122
def tr_124 : Tr := .node .dead tr_7 tr_39
def tr_125 : Tr := .node ob_14 tr_7 tr_3
def tr_126 : Tr := .node .dead tr_22 .nil
def tr_127 : Tr := .node .dead tr_126 (.node (.map [⟨(.int .i64 5), (.pointer (some ⟨110, 0, none⟩)), 0⟩, ⟨(.int .i64 2), (.pointer (some ⟨115, 0, none⟩)), 1⟩, ⟨(.int .i64 7), (.pointer (some ⟨136, 0, none⟩)), 3⟩] 4) .nil .nil)
def tr_128 : Tr := .node .dead (.node (.map [⟨(.int .i64 5), (.pointer (some ⟨7, 0, none⟩)), 0⟩] 5) (.node ob_2 (.node ob_21 (.node .dead tr_30 tr_99) (.node .dead tr_124 tr_112)) (.node .dead (.node ob_12 tr_30 tr_118) (.node .dead tr_87 tr_23))) (.node .dead (.node .dead (.node ob_9 tr_125 tr_15) tr_120) (.node ob_8 tr_37 (.node .dead tr_15 (.node .dead tr_55 tr_3))))) (.node (.cells [(.int .i64 3), (.map (some 1))] 0) (.node .dead (.node ob_5 tr_37 (.node .dead tr_127 tr_115)) (.node ob_13 (.node .dead tr_30 tr_11) (.node .dead tr_93 tr_23))) (.node .dead (.node .dead (.node (.cells [(.bool true)] 0) tr_30 tr_15) tr_121) (.node .dead (.node .dead tr_124 tr_15) (.node .dead tr_123 tr_15))))
def tr_129 : Tr := .node ob_2 tr_7 tr_3
def tr_130 : Tr := .node ob_21 (.node .dead tr_45 (.node .dead tr_7 tr_5)) (.node .dead tr_124 tr_129)
def tr_131 : Tr := .node .dead tr_7 tr_19
def tr_132 : Tr := .node ob_17 tr_3 .nil
def tr_133 : Tr := .node (.cells [(.bool true)] 0) tr_3 .nil
def tr_134 : Tr := .node .dead tr_133 tr_3
def tr_135 : Tr := .node .dead (.node .dead tr_132 tr_3) tr_134
def tr_136 : Tr := .node ob_2 tr_130 (.node .dead (.node ob_12 tr_30 tr_131) tr_135)
def tr_137 : Tr := .node .dead tr_7 tr_20
def tr_138 : Tr := .node .dead (.node .dead tr_7 tr_80) tr_137
def tr_139 : Tr := .node ob_22 tr_3 .nil
def tr_140 : Tr := .node .dead tr_139 tr_3
def tr_141 : Tr := .node ob_8 (.node .dead tr_30 tr_30) (.node .dead tr_30 tr_140)
def tr_142 : Tr := .node .dead (.node ob_24 .nil .nil) .nil
def tr_143 : Tr := .node .dead tr_7 tr_142
def tr_144 : Tr := .node .dead tr_7 tr_12
def tr_145 : Tr := .node ob_5 (.node .dead tr_143 tr_30) (.node .dead tr_127 tr_144)
def tr_146 : Tr := .node .dead tr_7 tr_10
def tr_147 : Tr := .node ob_18 tr_3 .nil
def tr_148 : Tr := .node .dead (.node .dead tr_147 tr_3) tr_134
def tr_149 : Tr := .node .dead tr_145 (.node ob_13 (.node .dead tr_30 tr_146) tr_148)
def tr_150 : Tr := .node ob_23 tr_3 .nil
def tr_151 : Tr := .node .dead tr_150 tr_17
def tr_152 : Tr := .node .dead tr_31 tr_151
def tr_153 : Tr := .node .dead (.node .dead tr_124 tr_30) (.node .dead (.node .dead tr_7 tr_122) tr_30)
def tr_154 : Tr := .node .dead (.node ob_25 .nil .nil) .nil
def tr_155 : Tr := .node ob_14 tr_7 tr_154
def tr_156 : Tr := .node .dead (.node .dead (.node ob_9 tr_155 tr_30) tr_138) tr_141
def tr_157 : Tr := .node .dead tr_7 tr_18
def tr_158 : Tr := .node .dead (.node .dead (.node (.cells [(.bool true)] 0) tr_157 tr_30) tr_152) tr_153
def tr_159 : Tr := .node (.cells [(.int .i64 3), (.map (some 1))] 0) tr_149 tr_158
def tr_160 : Tr := .node ob_12 tr_45 tr_131
def tr_161 : Tr := .node (.map [⟨(.int .i64 5), (.pointer (some ⟨7, 0, none⟩)), 0⟩] 5) (.node ob_2 tr_130 (.node .dead tr_160 tr_135)) tr_156
def tr_162 : Tr := .node .dead tr_7 tr_43
def tr_163 : Tr := .node .dead tr_162 tr_146
def tr_164 : Tr := .node .dead tr_7 tr_14
def tr_165 : Tr := .node .dead tr_45 tr_164
def tr_166 : Tr := .node .dead tr_7 tr_132
def tr_167 : Tr := .node .dead tr_132 tr_7
def tr_168 : Tr := .node ob_9 tr_155 tr_45
def tr_169 : Tr := .node .dead tr_7 (.node (.cells [(.int .i64 3), (.map (some 104))] 0) tr_3 .nil)
def tr_170 : Tr := .node .dead tr_143 tr_45
def tr_171 : Tr := .node .dead tr_126 (.node (.map [⟨(.int .i64 5), (.pointer (some ⟨110, 0, none⟩)), 0⟩, ⟨(.int .i64 2), (.pointer (some ⟨115, 0, none⟩)), 1⟩, ⟨(.int .i64 3), (.pointer (some ⟨178, 0, none⟩)), 4⟩] 5) tr_3 .nil)
def tr_172 : Tr := .node .dead tr_147 tr_7
def tr_173 : Tr := .node (.cells [(.bool true)] 0) tr_157 tr_52
def tr_174 : Tr := .node .dead tr_7 tr_16
def tr_175 : Tr := .node .dead (.node (.map [⟨(.int .i64 5), (.pointer (some ⟨7, 0, none⟩)), 0⟩] 5) (.node ob_2 (.node ob_21 tr_165 (.node .dead tr_166 tr_129)) (.node .dead tr_160 (.node .dead tr_167 tr_134))) (.node .dead (.node .dead tr_168 (.node .dead tr_169 tr_137)) (.node ob_8 tr_53 (.node .dead tr_45 tr_140)))) (.node (.cells [(.int .i64 3), (.map (some 1))] 0) (.node .dead (.node ob_5 tr_170 (.node .dead tr_171 tr_144)) (.node ob_13 tr_163 (.node .dead tr_172 tr_134))) (.node .dead (.node .dead tr_173 (.node .dead tr_47 tr_151)) (.node .dead (.node .dead tr_166 tr_30) (.node .dead tr_174 tr_30))))
def tr_176 : Tr := .node .dead tr_166 (.node ob_2 tr_7 tr_7)
def tr_177 : Tr := .node .dead tr_133 tr_7
def tr_178 : Tr := .node .dead (.node ob_12 tr_45 (.node .dead tr_7 (.node ob_13 tr_3 .nil))) (.node .dead tr_167 tr_177)
def tr_179 : Tr := .node .dead tr_169 (.node .dead tr_7 tr_133)
def tr_180 : Tr := .node ob_8 tr_72 (.node .dead tr_45 (.node .dead tr_139 tr_7))
def tr_181 : Tr := .node .dead tr_171 (.node .dead tr_7 (.node ob_9 tr_3 .nil))
def tr_182 : Tr := .node ob_13 (.node .dead tr_162 (.node .dead tr_7 (.node ob_8 tr_3 .nil))) (.node .dead tr_172 tr_177)
def tr_183 : Tr := .node .dead tr_47 (.node .dead tr_150 (.node ob_12 tr_3 .nil))
def tr_184 : Tr := .node .dead (.node .dead tr_166 tr_45) (.node .dead tr_174 (.node .dead tr_7 (.node .dead (.node (.cells [(.int .i64 5), (.bool true), (.bool true)] 3) .nil .nil) .nil)))
def tr_185 : Tr := .node .dead (.node .dead tr_173 tr_183) tr_184
def tr_186 : Tr := .node (.map [⟨(.int .i64 5), (.pointer (some ⟨7, 0, none⟩)), 0⟩] 5) (.node ob_2 (.node ob_21 (.node .dead (.node .dead (.node .dead tr_3 (.node (.cells [(.int .i64 5), (.bool true), (.bool true)] 0) .nil .nil)) tr_7) tr_164) tr_176) tr_178) (.node .dead (.node .dead (.node ob_9 (.node ob_14 tr_77 tr_154) tr_45) tr_179) tr_180)
def tr_187 : Tr := .node .dead (.node ob_5 (.node .dead (.node .dead tr_119 tr_142) tr_45) tr_181) tr_182
end Go.Proofs.Ytmhnddkpiefkhaa.R

namespace Go.Proofs.Ytmhnddkpiefkhaa.R
open Go Go.Vm
set_option maxRecDepth 100000
def ma_1 : List Value := [(.pointer (some ⟨2, 0, none⟩)), va_1]
def mh_1 : Heap := ⟨4, (.node .dead (.node (.map [] 0) tr_1 .nil) (.node (.cells [(.int .i64 3), (.map (some 1))] 0) .nil .nil))⟩
def mo_1 : List CO := [(.ret (.tuple ⟨[(.int .i64 0), (.int .i64 0)]⟩) ⟨8, (.node .dead tr_4 (.node (.cells [(.int .i64 3), (.map (some 1))] 0) tr_3 tr_3))⟩)]
theorem me_1 : fewOK (xcall Try.prog table.get 1000 60 (.fn 21) ma_1 mh_1) mo_1 = true := by kernel_rfl
def ma_2 : List Value := [(.pointer (some ⟨2, 0, none⟩)), va_4]
def mh_2 : Heap := ⟨9, (.node .dead tr_4 (.node (.cells [(.int .i64 3), (.map (some 1))] 0) (.node .dead tr_5 .nil) tr_3))⟩
def mo_2 : List CO := [(.ret (.tuple ⟨[(.int .i64 0), (.int .i64 0)]⟩) ⟨13, (.node .dead (.node (.map [⟨(.int .i64 5), (.pointer (some ⟨7, 0, none⟩)), 0⟩, ⟨(.int .i64 2), (.pointer (some ⟨12, 0, none⟩)), 1⟩] 2) tr_6 tr_7) tr_9)⟩)]
theorem me_2 : fewOK (xcall Try.prog table.get 1000 60 (.fn 21) ma_2 mh_2) mo_2 = true := by kernel_rfl
def ma_3 : List Value := [(.pointer (some ⟨2, 0, none⟩)), va_7]
def mh_3 : Heap := ⟨14, (.node .dead (.node (.map [⟨(.int .i64 5), (.pointer (some ⟨7, 0, none⟩)), 0⟩, ⟨(.int .i64 2), (.pointer (some ⟨12, 0, none⟩)), 1⟩] 2) tr_6 tr_11) tr_9)⟩
def mo_3 : List CO := [(.ret (.tuple ⟨[(.int .i64 0), (.int .i64 0)]⟩) ⟨18, (.node .dead (.node (.map [⟨(.int .i64 5), (.pointer (some ⟨7, 0, none⟩)), 0⟩, ⟨(.int .i64 2), (.pointer (some ⟨12, 0, none⟩)), 1⟩, ⟨(.int .i64 9), (.pointer (some ⟨17, 0, none⟩)), 2⟩] 3) (.node ob_2 (.node ob_3 tr_3 .nil) tr_3) tr_13) (.node (.cells [(.int .i64 3), (.map (some 1))] 0) (.node .dead tr_14 tr_8) tr_15))⟩)]
theorem me_3 : fewOK (xcall Try.prog table.get 1000 60 (.fn 21) ma_3 mh_3) mo_3 = true := by kernel_rfl
def ma_4 : List Value := [(.pointer (some ⟨2, 0, none⟩)), va_10]
def mh_4 : Heap := ⟨20, (.node .dead (.node (.map [⟨(.int .i64 5), (.pointer (some ⟨7, 0, none⟩)), 0⟩, ⟨(.int .i64 2), (.pointer (some ⟨12, 0, none⟩)), 1⟩, ⟨(.int .i64 9), (.pointer (some ⟨17, 0, none⟩)), 2⟩] 3) (.node ob_2 tr_16 tr_18) tr_13) (.node (.cells [(.int .i64 3), (.map (some 1))] 0) (.node .dead tr_14 tr_19) (.node .dead tr_21 tr_3)))⟩
def mo_4 : List CO := [(.ret (.tuple ⟨[(.int .i64 9), (.int .i64 0)]⟩) ⟨34, tr_24⟩)]
theorem me_4 : fewOK (xcall Try.prog table.get 1000 60 (.fn 21) ma_4 mh_4) mo_4 = true := by kernel_rfl
def ma_5 : List Value := [(.pointer (some ⟨2, 0, none⟩)), (.int .i64 7)]
def mh_5 : Heap := ⟨34, tr_24⟩
def mo_5 : List CO := [(.ret (.tuple ⟨[va_1, (.bool true)]⟩) ⟨55, (.node .dead (.node (.map [⟨(.int .i64 5), (.pointer (some ⟨7, 0, none⟩)), 0⟩, ⟨(.int .i64 2), (.pointer (some ⟨12, 0, none⟩)), 1⟩, ⟨(.int .i64 7), (.pointer (some ⟨33, 0, none⟩)), 3⟩] 4) (.node ob_2 (.node ob_11 tr_15 tr_7) tr_25) tr_26) tr_28)⟩)]
theorem me_5 : fewOK (xcall Try.prog table.get 1000 60 (.fn 10) ma_5 mh_5) mo_5 = true := by kernel_rfl
def ma_6 : List Value := [(.pointer (some ⟨2, 0, none⟩)), (.int .i64 5)]
def mh_6 : Heap := ⟨56, (.node .dead (.node (.map [⟨(.int .i64 5), (.pointer (some ⟨7, 0, none⟩)), 0⟩, ⟨(.int .i64 2), (.pointer (some ⟨12, 0, none⟩)), 1⟩, ⟨(.int .i64 7), (.pointer (some ⟨33, 0, none⟩)), 3⟩] 4) (.node ob_2 (.node ob_11 tr_15 tr_29) tr_25) tr_26) tr_28)⟩
def mo_6 : List CO := [(.ret (.tuple ⟨[va_15, (.bool false)]⟩) ⟨75, (.node .dead (.node (.map [⟨(.int .i64 5), (.pointer (some ⟨7, 0, none⟩)), 0⟩, ⟨(.int .i64 2), (.pointer (some ⟨12, 0, none⟩)), 1⟩, ⟨(.int .i64 7), (.pointer (some ⟨33, 0, none⟩)), 3⟩] 4) (.node ob_2 tr_32 (.node .dead tr_33 tr_15)) tr_35) (.node (.cells [(.int .i64 3), (.map (some 1))] 0) (.node .dead tr_36 (.node ob_13 tr_30 tr_15)) tr_38))⟩)]
theorem me_6 : fewOK (xcall Try.prog table.get 1000 60 (.fn 10) ma_6 mh_6) mo_6 = true := by kernel_rfl
end Go.Proofs.Ytmhnddkpiefkhaa.R

namespace Go.Proofs.Ytmhnddkpiefkhaa.R
open Go Go.Vm
set_option maxRecDepth 100000
def ma_7 : List Value := [(.pointer (some ⟨2, 0, none⟩)), va_16]
def mh_7 : Heap := ⟨77, (.node .dead (.node (.map [⟨(.int .i64 5), (.pointer (some ⟨7, 0, none⟩)), 0⟩, ⟨(.int .i64 2), (.pointer (some ⟨12, 0, none⟩)), 1⟩, ⟨(.int .i64 7), (.pointer (some ⟨33, 0, none⟩)), 3⟩] 4) (.node ob_2 tr_32 (.node .dead tr_33 tr_41)) tr_35) (.node (.cells [(.int .i64 3), (.map (some 1))] 0) (.node .dead tr_36 (.node ob_13 tr_30 tr_44)) tr_38))⟩
def mo_7 : List CO := [(.ret (.tuple ⟨[(.int .i64 7), (.int .i64 0)]⟩) ⟨91, (.node .dead (.node (.map [⟨(.int .i64 5), (.pointer (some ⟨7, 0, none⟩)), 0⟩, ⟨(.int .i64 2), (.pointer (some ⟨12, 0, none⟩)), 1⟩, ⟨(.int .i64 3), (.pointer (some ⟨90, 0, none⟩)), 4⟩] 5) (.node ob_2 (.node ob_11 tr_45 tr_47) (.node .dead tr_48 tr_41)) (.node .dead tr_49 (.node ob_8 tr_45 tr_30))) (.node (.cells [(.int .i64 3), (.map (some 1))] 0) (.node .dead tr_50 (.node ob_13 tr_45 tr_44)) (.node .dead (.node .dead tr_51 tr_52) tr_53)))⟩)]
theorem me_7 : fewOK (xcall Try.prog table.get 1000 60 (.fn 21) ma_7 mh_7) mo_7 = true := by kernel_rfl
def ma_8 : List Value := [(.pointer (some ⟨2, 0, none⟩)), va_20]
def mh_8 : Heap := ⟨94, (.node .dead (.node (.map [⟨(.int .i64 5), (.pointer (some ⟨7, 0, none⟩)), 0⟩, ⟨(.int .i64 2), (.pointer (some ⟨12, 0, none⟩)), 1⟩, ⟨(.int .i64 3), (.pointer (some ⟨90, 0, none⟩)), 4⟩] 5) (.node ob_2 (.node ob_21 tr_45 tr_47) (.node .dead tr_48 tr_54)) (.node .dead tr_49 tr_58)) (.node (.cells [(.int .i64 3), (.map (some 1))] 0) (.node .dead tr_50 tr_60) (.node .dead (.node .dead tr_51 tr_63) tr_53)))⟩
def mo_8 : List CO := [(.ret (.tuple ⟨[(.int .i64 0), (.int .i64 7)]⟩) ⟨100, tr_74⟩)]
theorem me_8 : fewOK (xcall Try.prog table.get 1000 60 (.fn 21) ma_8 mh_8) mo_8 = true := by kernel_rfl
def ma_9 : List Value := [(.pointer (some ⟨2, 0, none⟩)), (.int .i64 5)]
def mh_9 : Heap := ⟨100, tr_74⟩
def mo_9 : List CO := [(.ret (.tuple ⟨[]⟩) ⟨102, (.node .dead (.node (.map [⟨(.int .i64 5), (.pointer (some ⟨7, 0, none⟩)), 0⟩] 5) tr_66 (.node .dead tr_69 tr_75)) (.node (.cells [(.int .i64 3), (.map (some 1))] 0) (.node .dead tr_70 tr_76) tr_73))⟩)]
theorem me_9 : fewOK (xcall Try.prog table.get 1000 60 (.fn 13) ma_9 mh_9) mo_9 = true := by kernel_rfl
def ma_10 : List Value := [(.pointer (some ⟨105, 0, none⟩)), va_1]
def mh_10 : Heap := ⟨107, (.node .dead (.node (.map [⟨(.int .i64 5), (.pointer (some ⟨7, 0, none⟩)), 0⟩] 5) (.node ob_2 tr_79 tr_65) (.node .dead tr_83 tr_75)) (.node (.cells [(.int .i64 3), (.map (some 1))] 0) (.node .dead (.node ob_5 tr_27 (.node .dead (.node .dead tr_3 (.node (.map [] 0) .nil .nil)) tr_7)) tr_76) (.node .dead tr_85 (.node .dead tr_86 tr_45))))⟩
def mo_10 : List CO := [(.ret (.tuple ⟨[(.int .i64 0), (.int .i64 0)]⟩) ⟨111, (.node .dead (.node (.map [⟨(.int .i64 5), (.pointer (some ⟨7, 0, none⟩)), 0⟩] 5) (.node ob_2 tr_79 tr_89) tr_92) tr_98)⟩)]
theorem me_10 : fewOK (xcall Try.prog table.get 1000 60 (.fn 21) ma_10 mh_10) mo_10 = true := by kernel_rfl
def ma_11 : List Value := [(.pointer (some ⟨105, 0, none⟩)), va_4]
def mh_11 : Heap := ⟨112, (.node .dead (.node (.map [⟨(.int .i64 5), (.pointer (some ⟨7, 0, none⟩)), 0⟩] 5) (.node ob_2 tr_101 tr_89) tr_92) tr_98)⟩
def mo_11 : List CO := [(.ret (.tuple ⟨[(.int .i64 0), (.int .i64 0)]⟩) ⟨116, (.node .dead tr_105 (.node (.cells [(.int .i64 3), (.map (some 1))] 0) (.node .dead tr_107 tr_95) tr_110))⟩)]
theorem me_11 : fewOK (xcall Try.prog table.get 1000 60 (.fn 21) ma_11 mh_11) mo_11 = true := by kernel_rfl
def ma_12 : List Value := [(.pointer (some ⟨105, 0, none⟩)), va_7]
def mh_12 : Heap := ⟨117, (.node .dead tr_105 (.node (.cells [(.int .i64 3), (.map (some 1))] 0) (.node .dead tr_107 tr_111) tr_110))⟩
def mo_12 : List CO := [(.ret (.tuple ⟨[(.int .i64 0), (.int .i64 0)]⟩) ⟨121, (.node .dead (.node (.map [⟨(.int .i64 5), (.pointer (some ⟨7, 0, none⟩)), 0⟩] 5) (.node ob_2 tr_113 tr_102) (.node .dead tr_104 tr_114)) (.node (.cells [(.int .i64 3), (.map (some 1))] 0) tr_116 (.node .dead tr_109 (.node .dead tr_117 tr_96))))⟩)]
theorem me_12 : fewOK (xcall Try.prog table.get 1000 60 (.fn 21) ma_12 mh_12) mo_12 = true := by kernel_rfl
end Go.Proofs.Ytmhnddkpiefkhaa.R

namespace Go.Proofs.Ytmhnddkpiefkhaa.R
open Go Go.Vm
set_option maxRecDepth 100000
def ma_13 : List Value := [(.pointer (some ⟨105, 0, none⟩)), va_10]
def mh_13 : Heap := ⟨123, (.node .dead (.node (.map [⟨(.int .i64 5), (.pointer (some ⟨7, 0, none⟩)), 0⟩] 5) (.node ob_2 tr_113 (.node .dead (.node ob_12 tr_15 tr_118) tr_88)) (.node .dead (.node .dead tr_103 tr_120) tr_114)) (.node (.cells [(.int .i64 3), (.map (some 1))] 0) tr_116 (.node .dead (.node .dead tr_108 tr_121) (.node .dead tr_117 (.node .dead tr_123 tr_7)))))⟩
def mo_13 : List CO := [(.ret (.tuple ⟨[(.int .i64 9), (.int .i64 0)]⟩) ⟨137, tr_128⟩)]
theorem me_13 : fewOK (xcall Try.prog table.get 1000 60 (.fn 21) ma_13 mh_13) mo_13 = true := by kernel_rfl
def ma_14 : List Value := [(.pointer (some ⟨105, 0, none⟩))]
def mh_14 : Heap := ⟨137, tr_128⟩
def mo_14 : List CO := [(.ret (.slice (some ⟨160, 0, (some 0)⟩) 3 3) ⟨161, (.node .dead (.node (.map [⟨(.int .i64 5), (.pointer (some ⟨7, 0, none⟩)), 0⟩] 5) tr_136 (.node .dead (.node .dead (.node ob_9 tr_125 tr_30) tr_138) tr_141)) (.node (.cells [(.int .i64 3), (.map (some 1))] 0) tr_149 (.node .dead (.node .dead (.node (.cells [(.bool true)] 0) tr_30 tr_30) tr_152) tr_153)))⟩)]
theorem me_14 : fewOK (xcall Try.prog table.get 1000 60 (.fn 17) ma_14 mh_14) mo_14 = true := by kernel_rfl
def ma_15 : List Value := [(.pointer (some ⟨105, 0, none⟩)), va_10]
def mh_15 : Heap := ⟨163, (.node .dead (.node (.map [⟨(.int .i64 5), (.pointer (some ⟨7, 0, none⟩)), 0⟩] 5) tr_136 tr_156) tr_159)⟩
def mo_15 : List CO := [(.ret (.tuple ⟨[(.int .i64 0), (.int .i64 8)]⟩) ⟨164, (.node .dead tr_161 tr_159)⟩)]
theorem me_15 : fewOK (xcall Try.prog table.get 1000 60 (.fn 21) ma_15 mh_15) mo_15 = true := by kernel_rfl
def ma_16 : List Value := [(.pointer (some ⟨105, 0, none⟩)), va_16]
def mh_16 : Heap := ⟨165, (.node .dead tr_161 (.node (.cells [(.int .i64 3), (.map (some 1))] 0) (.node .dead tr_145 (.node ob_13 tr_163 tr_148)) tr_158))⟩
def mo_16 : List CO := [(.ret (.tuple ⟨[(.int .i64 7), (.int .i64 0)]⟩) ⟨179, tr_175⟩)]
theorem me_16 : fewOK (xcall Try.prog table.get 1000 60 (.fn 21) ma_16 mh_16) mo_16 = true := by kernel_rfl
def ma_17 : List Value := [(.pointer (some ⟨2, 0, none⟩))]
def mh_17 : Heap := ⟨179, tr_175⟩
def mo_17 : List CO := [(.ret (.slice (some ⟨190, 0, (some 0)⟩) 1 1) ⟨191, (.node .dead (.node (.map [⟨(.int .i64 5), (.pointer (some ⟨7, 0, none⟩)), 0⟩] 5) (.node ob_2 (.node ob_21 tr_165 tr_176) tr_178) (.node .dead (.node .dead tr_168 tr_179) tr_180)) (.node (.cells [(.int .i64 3), (.map (some 1))] 0) (.node .dead (.node ob_5 tr_170 tr_181) tr_182) tr_185))⟩)]
theorem me_17 : fewOK (xcall Try.prog table.get 1000 60 (.fn 17) ma_17 mh_17) mo_17 = true := by kernel_rfl
def ma_18 : List Value := [(.pointer (some ⟨2, 0, none⟩)), va_15]
def mh_18 : Heap := ⟨194, (.node .dead tr_186 (.node (.cells [(.int .i64 3), (.map (some 1))] 0) tr_187 tr_185))⟩
def mo_18 : List CO := [(.ret (.tuple ⟨[(.int .i64 0), (.int .i64 13)]⟩) ⟨195, (.node .dead tr_186 (.node (.cells [(.int .i64 3), (.map (some 1))] 0) tr_187 (.node .dead (.node .dead (.node (.cells [(.bool true)] 0) (.node .dead tr_15 tr_18) tr_52) tr_183) tr_184)))⟩)]
theorem me_18 : fewOK (xcall Try.prog table.get 1000 60 (.fn 21) ma_18 mh_18) mo_18 = true := by kernel_rfl
end Go.Proofs.Ytmhnddkpiefkhaa.R

namespace Go.Proofs.Ytmhnddkpiefkhaa.R
open Go Go.Vm
set_option maxRecDepth 100000
def memo_10 : Memo := [(ma_5, mh_5, mo_5), (ma_6, mh_6, mo_6)]
theorem memo_10_ok : MemoF Try.prog 10 memo_10 := MemoF.cons (TT.table_ok table_all) me_5 (MemoF.cons (TT.table_ok table_all) me_6 (MemoF.nil))
def memo_13 : Memo := [(ma_9, mh_9, mo_9)]
theorem memo_13_ok : MemoF Try.prog 13 memo_13 := MemoF.cons (TT.table_ok table_all) me_9 (MemoF.nil)
def memo_17 : Memo := [(ma_14, mh_14, mo_14), (ma_17, mh_17, mo_17)]
theorem memo_17_ok : MemoF Try.prog 17 memo_17 := MemoF.cons (TT.table_ok table_all) me_14 (MemoF.cons (TT.table_ok table_all) me_17 (MemoF.nil))
def memo_21 : Memo := [(ma_1, mh_1, mo_1), (ma_2, mh_2, mo_2), (ma_3, mh_3, mo_3), (ma_4, mh_4, mo_4), (ma_7, mh_7, mo_7), (ma_8, mh_8, mo_8), (ma_10, mh_10, mo_10), (ma_11, mh_11, mo_11), (ma_12, mh_12, mo_12), (ma_13, mh_13, mo_13), (ma_15, mh_15, mo_15), (ma_16, mh_16, mo_16), (ma_18, mh_18, mo_18)]
theorem memo_21_ok : MemoF Try.prog 21 memo_21 := MemoF.cons (TT.table_ok table_all) me_1 (MemoF.cons (TT.table_ok table_all) me_2 (MemoF.cons (TT.table_ok table_all) me_3 (MemoF.cons (TT.table_ok table_all) me_4 (MemoF.cons (TT.table_ok table_all) me_7 (MemoF.cons (TT.table_ok table_all) me_8 (MemoF.cons (TT.table_ok table_all) me_10 (MemoF.cons (TT.table_ok table_all) me_11 (MemoF.cons (TT.table_ok table_all) me_12 (MemoF.cons (TT.table_ok table_all) me_13 (MemoF.cons (TT.table_ok table_all) me_15 (MemoF.cons (TT.table_ok table_all) me_16 (MemoF.cons (TT.table_ok table_all) me_18 (MemoF.nil)))))))))))))
def tab : Table := (withMemo (withMemo (withMemo (withMemo table.get 10 memo_10) 13 memo_13) 17 memo_17) 21 memo_21)
theorem tab_ok : TableOK Try.prog tab := (withMemoF_ok (Checked.mixed Try.checked) (withMemoF_ok (Checked.mixed Try.checked) (withMemoF_ok (Checked.mixed Try.checked) (withMemoF_ok (Checked.mixed Try.checked) (TT.table_ok table_all) memo_10_ok) memo_13_ok) memo_17_ok) memo_21_ok)
end Go.Proofs.Ytmhnddkpiefkhaa.R

set_option maxRecDepth 100000
set_option linter.unusedVariables false
namespace Go.Proofs.Ytmhnddkpiefkhaa.A
open Go Go.Vm
abbrev ty_internal_abi_BoundsErrorCode : TypeId := 6
abbrev ty_runtime_boundsError : TypeId := 8
abbrev ty_runtime_errorString : TypeId := 10
abbrev ty_runtime_plainError : TypeId := 11
abbrev ty_runtime_errorAddressString : TypeId := 14
abbrev ty_internal_runtime_maps_unhashableTypeError : TypeId := 19
abbrev ty_api_Errno : TypeId := 24
abbrev ty_api_Hash : TypeId := 28
abbrev ty_api_Header : TypeId := 30
abbrev ty_api_Commit : TypeId := 33
abbrev ty_api_Block : TypeId := 36
abbrev ty_api_Kept : TypeId := 47
abbrev ty_ll22_Act : TypeId := 53
abbrev ty_lr22_Store : TypeId := 69
abbrev ty_store_Store : TypeId := 75
abbrev ty_store_kept : TypeId := 82
abbrev ty_store_heights : TypeId := 101
abbrev ty_iter_Seq_int_ : TypeId := 104
abbrev ty_api_Key : TypeId := 111
abbrev ty_api_Validator : TypeId := 113
abbrev ty_api_Vote : TypeId := 117
abbrev ty_iter_Seq__store_kept_ : TypeId := 119
abbrev ty_container_heap_Interface : TypeId := 126
abbrev ty_runtime_TypeAssertionError : TypeId := 134
abbrev ty_runtime_PanicNilError : TypeId := 137
abbrev ty_internal_abi_TFlag : TypeId := 139
abbrev ty_internal_abi_Kind : TypeId := 140
abbrev ty_internal_abi_NameOff : TypeId := 143
abbrev ty_internal_abi_TypeOff : TypeId := 144
abbrev ty_internal_abi_Type : TypeId := 146
instance : IsIface Try.prog 20 := ⟨by kernel_rfl⟩
instance : IsIface Try.prog 125 := ⟨by kernel_rfl⟩
instance : IsIface Try.prog 126 := ⟨by kernel_rfl⟩
abbrev prims : List FuncId := [3]
abbrev kepts : List FuncId := []
def T0 : Table := withKept (withTrue Try.prog prims) kepts
abbrev fn_zkQ : FuncId := 3
theorem zkQ_known {h : Heap} : Runs Try.prog T0 (.fn 3) [] h (fun r h' => r = .bool true ∧ h' = h) (fun _ _ => False) := known_runs rfl
instance : IsBoolT Try.prog 4 := ⟨by kernel_rfl⟩
instance : TLeaves Try.prog 7 (.i .i64 :: (.i .i64 :: (.b :: (.i .u8 :: [])))) := ⟨by kernel_rfl, by kernel_rfl, by kernel_rfl⟩
instance : TLeaves Try.prog 8 (.i .i64 :: (.i .i64 :: (.b :: (.i .u8 :: [])))) := ⟨by kernel_rfl, by kernel_rfl, by kernel_rfl⟩
instance : TLeaves Try.prog 27 (u8s 32) := ⟨by kernel_rfl, by kernel_rfl, by kernel_rfl⟩
instance : TLeaves Try.prog 28 (u8s 32) := ⟨by kernel_rfl, by kernel_rfl, by kernel_rfl⟩
instance : TLeaves Try.prog 29 (.s :: (.i .i64 :: (.i .i64 :: (u8s 32 ++ (u8s 32 ++ (u8s 32 ++ (u8s 32))))))) := ⟨by kernel_rfl, by kernel_rfl, by kernel_rfl⟩
instance : TLeaves Try.prog 30 (.s :: (.i .i64 :: (.i .i64 :: (u8s 32 ++ (u8s 32 ++ (u8s 32 ++ (u8s 32))))))) := ⟨by kernel_rfl, by kernel_rfl, by kernel_rfl⟩
instance : TLeaves Try.prog 46 (.i .i64 :: (.b :: (.b :: []))) := ⟨by kernel_rfl, by kernel_rfl, by kernel_rfl⟩
instance : TLeaves Try.prog 47 (.i .i64 :: (.b :: (.b :: []))) := ⟨by kernel_rfl, by kernel_rfl, by kernel_rfl⟩
instance : TLeaves Try.prog 110 (u8s 4) := ⟨by kernel_rfl, by kernel_rfl, by kernel_rfl⟩
instance : TLeaves Try.prog 111 (u8s 4) := ⟨by kernel_rfl, by kernel_rfl, by kernel_rfl⟩
instance : TLeaves Try.prog 112 (u8s 4 ++ (.i .i64 :: [])) := ⟨by kernel_rfl, by kernel_rfl, by kernel_rfl⟩
instance : TLeaves Try.prog 113 (u8s 4 ++ (.i .i64 :: [])) := ⟨by kernel_rfl, by kernel_rfl, by kernel_rfl⟩
instance : TLeaves Try.prog 116 (.i .i64 :: (.i .u64 :: [])) := ⟨by kernel_rfl, by kernel_rfl, by kernel_rfl⟩
instance : TLeaves Try.prog 117 (.i .i64 :: (.i .u64 :: [])) := ⟨by kernel_rfl, by kernel_rfl, by kernel_rfl⟩
abbrev fn_zbbQ : FuncId := 9
def zbbQ_c : ACode :=
 (.seq (.region [
 o1 2 (.mov (.const (.pointer none))),
 o1 3 (.mov k0)]) (.seq (.seq (.region [
 o1 4 (.mov (tm 0)),
 o1 5 (.bin .lss (so (.binOp .lss 3 (tm 4) (.const (.int .i64 1)) 3) 4) (tm 4) (.const (.int .i64 1))),
 o1 6 (.mov (tm 5)),
 o5 7 (.mov (tm 0)) 6,
 o5 8 (.bin .gtr (so (.binOp .gtr 3 (tm 7) (.const (.int .i64 4096)) 3) 4) (tm 7) (.const (.int .i64 4096))) 6,
 o1 9 (.pick (tm 6) (.const (.bool true)) (tm 8))]) (.cond (tm 9)
 (.seq (.region [
 o1 2 (.mov (.const (.pointer none))),
 o1 3 (.mov (.const (.int .i64 3)))]) .ret)
 .skip)) (.seq (.region [
 o1 10 (.mov (tm 0)),
 o1 11 (.mkMap),
 o1 12 (.build [(.int .i64 0), (.map none)] [(0, 1, (tm 10)), (1, 1, (tm 11))]),
 o1 13 (.box 75 (tm 12)),
 o1 2 (.mov (tm 13)),
 o1 3 (.mov k0)]) .ret)))
def zbbQ : AFunc := ⟨14, [(2, none), (3, none)], zbbQ_c, none⟩
theorem zbbQ_t0 : tableOf Try.prog 9 = some zbbQ := by kernel_rfl
theorem zbbQ_t : T0 9 = some zbbQ := withKept_t rfl (withTrue_t rfl zbbQ_t0)
theorem zbbQ_runs {v0 : Value} {h : Heap} {R : RP} {X : XP} (k : RunC Try.prog T0 zbbQ_c ⟨[v0, U, U, U, U, U, U, U, U, U, U, U, U, U], [], h, none⟩ (bodyQ Try.prog T0 [(2, none), (3, none)] R X)) :
 Runs Try.prog T0 (.fn 9) [v0] h R X := Runs.fn zbbQ_t rfl k
abbrev fn_zhbQ : FuncId := 12
def zhbQ_c : ACode :=
 (.seq (.region [
 o1 5 (.box 4 (tm 2)),
 o1 6 (.mov k0)]) (.seq (.region [
 o1 7 (.mov (tm 0)),
 o1 8 (.mov (tm 1)),
 o1 9 (.mkFunc (.func 42) [] [(tm 5)]),
 o1 10 (.callV (.func 41) [(tm 7), (tm 8), (tm 9)]),
 o1 6 (.mov (tm 10))]) .ret))
def zhbQ : AFunc := ⟨11, [(6, none)], zhbQ_c, none⟩
theorem zhbQ_t0 : tableOf Try.prog 12 = some zhbQ := by kernel_rfl
theorem zhbQ_t : T0 12 = some zhbQ := withKept_t rfl (withTrue_t rfl zhbQ_t0)
theorem zhbQ_runs {v0 v1 v2 : Value} {h : Heap} {R : RP} {X : XP} (k : RunC Try.prog T0 zhbQ_c ⟨[v0, v1, v2, U, U, U, U, U, U, U, U], [], h, none⟩ (bodyQ Try.prog T0 [(6, none)] R X)) :
 Runs Try.prog T0 (.fn 12) [v0, v1, v2] h R X := Runs.fn zhbQ_t rfl k
abbrev fn_zdbQ : FuncId := 13
def zdbQ_c : ACode :=
 (.seq (.region [
 o1 3 (.box 3 (tm 1))]) (.seq (.region [
 o1 4 (.mov (tm 0)),
 o1 5 (.callV (.func 37) [(tm 4)]),
 o1 6 (.raw (so (.unOp .not 4 (tm 5)) 4))]) (.cond (tm 6)
 (.region [
 o1 7 (.mov (tm 0)),
 o1 8 (.nilCheck (tm 7)),
 o1 9 (.fieldAddr 1 (tm 8)),
 o1 10 (.load none (tm 9)),
 o1 11 (.mkFunc (.func 44) [] [(tm 3)]),
 o1 12 (.callV (.func 43) [(tm 10), (tm 11)])])
 .skip)))
def zdbQ : AFunc := ⟨13, [], zdbQ_c, none⟩
theorem zdbQ_t0 : tableOf Try.prog 13 = some zdbQ := by kernel_rfl
theorem zdbQ_t : T0 13 = some zdbQ := withKept_t rfl (withTrue_t rfl zdbQ_t0)
theorem zdbQ_runs {v0 v1 : Value} {h : Heap} {R : RP} {X : XP} (k : RunC Try.prog T0 zdbQ_c ⟨[v0, v1, U, U, U, U, U, U, U, U, U, U, U], [], h, none⟩ (bodyQ Try.prog T0 [] R X)) :
 Runs Try.prog T0 (.fn 13) [v0, v1] h R X := Runs.fn zdbQ_t rfl k
abbrev fn_ziQ : FuncId := 16
def ziQ_l0 : ACode :=
 (.seq (.seq (.region [
 o1 12 (.mov (tm 5)),
 o1 13 (.mov (tm 12)),
 o4 14 (.mov (tm 6)) 13,
 o4 15 (.mov (tm 0)) 13,
 o4 16 (.lenSl (tm 15)) 13,
 o4 17 (.bin .lss (so (.binOp .lss 3 (tm 14) (tm 16) 3) 4) (tm 14) (tm 16)) 13,
 o1 18 (.pick (tm 13) (tm 17) (.const (.bool false)))]) (.cond (tm 18)
 .skip
 (.exit 0))) (.seq (.block 1 (.regionD [
 o1 21 (.mov (tm 0)),
 o1 22 (.mov (tm 6)),
 o1 23 (.indexSl 3 (tm 21) (tm 22)),
 o1 24 (.load (some 3) (tm 23)),
 o1 25 (.mov (tm 1)),
 o1 26 (.mov (tm 6)),
 o1 27 (.indexSl 3 (tm 25) (tm 26)),
 o1 28 (.load (some 3) (tm 27)),
 o2 29 (.bin .eql (so (.binOp .eql 47 (tm 24) (tm 28) 47) 4) (tm 24) (tm 28)),
 o2 5 (.mov (tm 29))])) (.region [
 o1 19 (.mov (tm 6)),
 o1 20 (.bin .add (so (.binOp .add 3 (tm 19) (.const (.int .i64 1)) 3) 3) (tm 19) (.const (.int .i64 1))),
 o1 6 (.mov (tm 20))])))
def ziQ_c : ACode :=
 (.seq (.region [
 o1 4 (.mov (.const (.bool false)))]) (.seq (.region [
 o1 7 (.mov (tm 0)),
 o1 8 (.lenSl (tm 7)),
 o1 9 (.mov (tm 1)),
 o1 10 (.lenSl (tm 9)),
 o1 11 (.bin .eql (so (.binOp .eql 3 (tm 8) (tm 10) 3) 4) (tm 8) (tm 10)),
 o1 5 (.mov (tm 11))]) (.seq (.seq (.region [
 o1 6 (.mov k0)]) (.block 0 (.loop ziQ_l0))) (.seq (.region [
 o1 30 (.mov (tm 5)),
 o1 4 (.mov (tm 30))]) .ret))))
def ziQ : AFunc := ⟨31, [(4, none)], ziQ_c, none⟩
theorem ziQ_t0 : tableOf Try.prog 16 = some ziQ := by kernel_rfl
theorem ziQ_t : T0 16 = some ziQ := withKept_t rfl (withTrue_t rfl ziQ_t0)
theorem ziQ_runs {v0 v1 : Value} {h : Heap} {R : RP} {X : XP} (k : RunC Try.prog T0 ziQ_c ⟨[v0, v1, U, U, U, U, U, U, U, U, U, U, U, U, U, U, U, U, U, U, U, U, U, U, U, U, U, U, U, U, U], [], h, none⟩ (bodyQ Try.prog T0 [(4, none)] R X)) :
 Runs Try.prog T0 (.fn 16) [v0, v1] h R X := Runs.fn ziQ_t rfl k
abbrev ziQ_l0_M : List Nat := [0, 0, 0, 0, 0, 2, 2, 0, 0, 0, 0, 0, 1, 1, 1, 1, 1, 1, 1, 1, 1, 1, 1, 1, 1, 1, 1, 1, 1, 1, 0]
abbrev fn_zgbQ : FuncId := 17
def zgbQ_l0 : ACode :=
 (.seq (.region [
 o1 12 (.bin .lss (so (.binOp .lss 3 (tm 11) (tm 10) 3) 0) (tm 11) (tm 10))]) (.seq (.cond (tm 12)
 .skip
 (.exit 0)) (.seq (.block 1 (.seq (.region [
 o1 13 (.indexSl 1 (tm 9) (tm 11)),
 o1 14 (.load none (tm 13)),
 o1 4 (.mov (tm 14))]) (.seq (.region [
 o1 15 (.mov (tm 0)),
 o1 16 (.nilCheck (tm 15)),
 o1 17 (.fieldAddr 1 (tm 16)),
 o1 18 (.load none (tm 17)),
 o1 19 (.mov (tm 4)),
 o1 20 (.lookup (.int .i64) (.pointer none) false (tm 18) (tm 19)),
 o1 5 (.mov (tm 20))]) (.regionD [
 o1 21 (.mov (tm 2)),
 o1 22 (.mov (tm 4)),
 o1 23 (.mov (tm 5)),
 o1 24 (.nilCheck (tm 23)),
 o1 25 (.fieldAddr 166 (tm 24)),
 o1 26 (.load none (tm 25)),
 o1 27 (.mov (tm 5)),
 o1 28 (.nilCheck (tm 27)),
 o1 29 (.fieldAddr 167 (tm 28)),
 o1 30 (.load none (tm 29)),
 o1 31 (.build [(.int .i64 0), (.bool false), (.bool false)] [(0, 1, (tm 22)), (1, 1, (tm 26)), (2, 1, (tm 30))]),
 ⟨some 32, .buildSlice 47 [(.int .i64 0), (.bool false), (.bool false)] 1 [(0, 3, (tm 31))], none, [(some 21, .mov (tm 2), none)], false⟩,
 o2 33 (.append 47 3 16 [(.int .i64 0), (.bool false), (.bool false)] false (tm 21) (tm 32)),
 o2 2 (.mov (tm 33))])))) (.region [
 o1 34 (.bin .add (so (.binOp .add 3 (tm 11) (.const (.int .i64 1)) 3) 3) (tm 11) (.const (.int .i64 1))),
 o1 11 (.mov (tm 34))]))))
def zgbQ_c : ACode :=
 (.seq (.region [
 o1 2 (.mov (.const (.slice none 0 0)))]) (.seq (.seq (.region [
 o1 6 (.mov (tm 0)),
 o1 7 (.callV (.func 37) [(tm 6)])]) (.cond (tm 7)
 (.seq (.region [
 o1 2 (.mov (.const (.slice none 0 0)))]) .ret)
 .skip)) (.seq (.seq (.region [
 o1 8 (.mov (tm 0)),
 o1 9 (.callV (.func 38) [(tm 8)]),
 o1 10 (.lenSl (tm 9)),
 o1 11 (.mov k0)]) (.block 0 (.loop zgbQ_l0))) (.seq (.region [
 o1 35 (.mov (tm 2)),
 o1 2 (.mov (tm 35))]) .ret))))
def zgbQ : AFunc := ⟨36, [(2, none)], zgbQ_c, none⟩
theorem zgbQ_t0 : tableOf Try.prog 17 = some zgbQ := by kernel_rfl
theorem zgbQ_t : T0 17 = some zgbQ := withKept_t rfl (withTrue_t rfl zgbQ_t0)
theorem zgbQ_runs {v0 : Value} {h : Heap} {R : RP} {X : XP} (k : RunC Try.prog T0 zgbQ_c ⟨[v0, U, U, U, U, U, U, U, U, U, U, U, U, U, U, U, U, U, U, U, U, U, U, U, U, U, U, U, U, U, U, U, U, U, U, U], [], h, none⟩ (bodyQ Try.prog T0 [(2, none)] R X)) :
 Runs Try.prog T0 (.fn 17) [v0] h R X := Runs.fn zgbQ_t rfl k
abbrev zgbQ_l0_M : List Nat := [0, 0, 2, 0, 1, 1, 0, 0, 0, 0, 0, 2, 1, 1, 1, 1, 1, 1, 1, 1, 1, 1, 1, 1, 1, 1, 1, 1, 1, 1, 1, 1, 1, 1, 1, 0]
abbrev fn_zkbQ : FuncId := 18
def zkbQ_c : ACode :=
 (.seq (.region [
 o1 4 (.mov k0)]) (.seq (.region [
 o1 5 (.mov (tm 0)),
 o1 6 (.mov (tm 1)),
 o1 7 (.callV (.func 41) [(tm 5), (tm 6), (.func 45)]),
 o1 4 (.mov (tm 7))]) .ret))
def zkbQ : AFunc := ⟨8, [(4, none)], zkbQ_c, none⟩
theorem zkbQ_t0 : tableOf Try.prog 18 = some zkbQ := by kernel_rfl
theorem zkbQ_t : T0 18 = some zkbQ := withKept_t rfl (withTrue_t rfl zkbQ_t0)
theorem zkbQ_runs {v0 v1 : Value} {h : Heap} {R : RP} {X : XP} (k : RunC Try.prog T0 zkbQ_c ⟨[v0, v1, U, U, U, U, U, U], [], h, none⟩ (bodyQ Try.prog T0 [(4, none)] R X)) :
 Runs Try.prog T0 (.fn 18) [v0, v1] h R X := Runs.fn zkbQ_t rfl k
abbrev fn_zoQ : FuncId := 19
def zoQ_l0 : ACode :=
 (.seq (.seq (.region [
 o1 4 (.mov (tm 3)),
 o1 5 (.mov (tm 0)),
 o1 6 (.lenSl (tm 5)),
 o1 7 (.bin .lss (so (.binOp .lss 3 (tm 4) (tm 6) 3) 4) (tm 4) (tm 6)),
 o1 8 (.mov (tm 7)),
 o4 9 (.mov (tm 3)) 8,
 o4 10 (.bin .lss (so (.binOp .lss 3 (tm 9) (.const (.int .i64 41)) 3) 4) (tm 9) (.const (.int .i64 41))) 8,
 o1 11 (.pick (tm 8) (tm 10) (.const (.bool false)))]) (.cond (tm 11)
 .skip
 (.exit 0))) (.seq (.block 1 (.seq (.region [
 o1 14 (.mov (tm 0)),
 o1 15 (.mov (tm 3)),
 o1 16 (.indexSl 169 (tm 14) (tm 15)),
 o1 17 (.fieldAddr 3 (tm 16)),
 o1 18 (.load (some 166) (tm 17)),
 o1 19 (.callV (.func 36) [(tm 18)])]) (.cond (tm 19)
 (.seq (.region [
 o1 2 (.mov (.const (.bool true)))]) .ret)
 .skip))) (.region [
 o1 12 (.mov (tm 3)),
 o1 13 (.bin .add (so (.binOp .add 3 (tm 12) (.const (.int .i64 1)) 3) 3) (tm 12) (.const (.int .i64 1))),
 o1 3 (.mov (tm 13))])))
def zoQ_c : ACode :=
 (.seq (.region [
 o1 2 (.mov (.const (.bool false)))]) (.seq (.seq (.region [
 o1 3 (.mov k0)]) (.block 0 (.loop zoQ_l0))) (.seq (.region [
 o1 20 (.mov (tm 0)),
 o1 21 (.lenSl (tm 20)),
 o1 22 (.bin .gtr (so (.binOp .gtr 3 (tm 21) (.const (.int .i64 40)) 3) 4) (tm 21) (.const (.int .i64 40))),
 o1 2 (.mov (tm 22))]) .ret)))
def zoQ : AFunc := ⟨23, [(2, none)], zoQ_c, none⟩
theorem zoQ_t0 : tableOf Try.prog 19 = some zoQ := by kernel_rfl
theorem zoQ_t : T0 19 = some zoQ := withKept_t rfl (withTrue_t rfl zoQ_t0)
theorem zoQ_runs {v0 : Value} {h : Heap} {R : RP} {X : XP} (k : RunC Try.prog T0 zoQ_c ⟨[v0, U, U, U, U, U, U, U, U, U, U, U, U, U, U, U, U, U, U, U, U, U, U], [], h, none⟩ (bodyQ Try.prog T0 [(2, none)] R X)) :
 Runs Try.prog T0 (.fn 19) [v0] h R X := Runs.fn zoQ_t rfl k
abbrev zoQ_l0_M : List Nat := [0, 0, 1, 2, 1, 1, 1, 1, 1, 1, 1, 1, 1, 1, 1, 1, 1, 1, 1, 1, 0, 0, 0]
abbrev fn_zhQ : FuncId := 20
def zhQ_c : ACode :=
 (.seq (.region [
 o1 4 (.mov k0)]) (.seq (.seq (.region [
 o1 5 (.mov (tm 1)),
 o1 6 (.bin .leq (so (.binOp .leq 3 (tm 5) k0 3) 4) (tm 5) k0)]) (.cond (tm 6)
 (.seq (.region [
 o1 4 (.mov k0)]) .ret)
 .skip)) (.seq (.region [
 o1 7 (.mov (tm 0)),
 o1 8 (.mov (tm 1)),
 o1 9 (.bin .rem (so (.binOp .rem 3 (tm 7) (tm 8) 3) 3) (tm 7) (tm 8)),
 o1 0 (.mov (tm 9))]) (.seq (.seq (.region [
 o1 10 (.mov (tm 0)),
 o1 11 (.bin .lss (so (.binOp .lss 3 (tm 10) k0 3) 4) (tm 10) k0)]) (.cond (tm 11)
 (.region [
 o1 12 (.mov (tm 0)),
 o1 13 (.mov (tm 1)),
 o1 14 (.bin .add (so (.binOp .add 3 (tm 12) (tm 13) 3) 3) (tm 12) (tm 13)),
 o1 0 (.mov (tm 14))])
 .skip)) (.seq (.region [
 o1 15 (.mov (tm 0)),
 o1 4 (.mov (tm 15))]) .ret)))))
def zhQ : AFunc := ⟨16, [(4, none)], zhQ_c, none⟩
theorem zhQ_t0 : tableOf Try.prog 20 = some zhQ := by kernel_rfl
theorem zhQ_t : T0 20 = some zhQ := withKept_t rfl (withTrue_t rfl zhQ_t0)
theorem zhQ_runs {v0 v1 : Value} {h : Heap} {R : RP} {X : XP} (k : RunC Try.prog T0 zhQ_c ⟨[v0, v1, U, U, U, U, U, U, U, U, U, U, U, U, U, U], [], h, none⟩ (bodyQ Try.prog T0 [(4, none)] R X)) :
 Runs Try.prog T0 (.fn 20) [v0, v1] h R X := Runs.fn zhQ_t rfl k
abbrev fn_zjbQ : FuncId := 21
def zjbQ_c : ACode :=
 (.seq (.region [
 o1 3 (.box 36 (tm 1)),
 o1 4 (.mov k0),
 o1 5 (.mov k0)]) (.seq (.seq (.region [
 o1 10 (.mov (tm 0)),
 o1 11 (.callV (.func 37) [(tm 10)])]) (.cond (tm 11)
 (.seq (.region [
 o1 4 (.mov k0),
 o1 5 (.mov (.const (.int .i64 1)))]) .ret)
 .skip)) (.seq (.regionD [
 o1 13 (.mov (tm 0)),
 o1 14 (.nilCheck (tm 13)),
 o1 15 (.fieldAddr 1 (tm 14)),
 o1 16 (.load none (tm 15)),
 o1 17 (.fieldAddr 0 (tm 3)),
 o1 18 (.fieldAddr 1 (tm 17)),
 o1 19 (.load none (tm 18)),
 o2 20 (.lookup (.int .i64) (.pointer none) true (tm 16) (tm 19)),
 o2 12 (.mov (tm 20)),
 o1 21 (.extract 0 (tm 12)),
 o1 22 (.extract 1 (tm 12)),
 o1 6 (.mov (tm 21)),
 o2 7 (.mov (tm 22))]) (.seq (.block 0 (.seq (.region [
 o1 24 (.fieldAddr 0 (tm 3)),
 o1 25 (.fieldAddr 1 (tm 24)),
 o1 26 (.load none (tm 25)),
 o1 27 (.bin .lss (so (.binOp .lss 3 (tm 26) (.const (.int .i64 1)) 3) 4) (tm 26) (.const (.int .i64 1))),
 o1 28 (.mov (tm 27)),
 o5 29 (.fieldAddr 0 (tm 3)) 28,
 o5 30 (.fieldAddr 1 (tm 29)) 28,
 o5 31 (.load none (tm 30)) 28,
 o5 32 (.bin .gtr (so (.binOp .gtr 3 (tm 31) (.const (.int .i64 1073741824)) 3) 4) (tm 31) (.const (.int .i64 1073741824))) 28,
 o1 33 (.pick (tm 28) (.const (.bool true)) (tm 32)),
 o1 23 (.mov (tm 33))]) (.cond (tm 23)
 (.seq (.region [
 o1 4 (.mov k0),
 o1 5 (.mov (.const (.int .i64 13)))]) .ret)
 (.seq (.region [
 o1 35 (.mov (tm 7)),
 o1 34 (.mov (tm 35))]) (.cond (tm 34)
 (.seq (.region [
 o1 4 (.mov k0),
 o1 5 (.mov (.const (.int .i64 8)))]) .ret)
 .skip))))) (.seq (.region [
 o1 8 (.mov k0)]) (.seq (.seq (.regionD [
 o1 36 (.mov (tm 0)),
 o1 37 (.nilCheck (tm 36)),
 o1 38 (.fieldAddr 1 (tm 37)),
 o1 39 (.load none (tm 38)),
 o1 40 (.lenMap (tm 39)),
 o1 41 (.mov (tm 0)),
 o1 42 (.nilCheck (tm 41)),
 o1 43 (.fieldAddr 0 (tm 42)),
 o1 44 (.load none (tm 43)),
 o2 45 (.bin .geq (so (.binOp .geq 3 (tm 40) (tm 44) 3) 4) (tm 40) (tm 44))]) (.cond (tm 45)
 (.seq (.region [
 o1 46 (.mov (tm 0)),
 o1 47 (.callV (.func 46) [(tm 46)]),
 o1 9 (.mov (tm 47))]) (.seq (.seq (.region [
 o1 48 (.mov (tm 9)),
 o1 49 (.lenSl (tm 48)),
 o1 50 (.bin .eql (so (.binOp .eql 3 (tm 49) k0 3) 4) (tm 49) k0)]) (.cond (tm 50)
 (.seq (.region [
 o1 4 (.mov k0),
 o1 5 (.mov (.const (.int .i64 7)))]) .ret)
 .skip)) (.seq (.region [
 o1 51 (.mov (tm 9)),
 o1 52 (.callV (.func 47) [(tm 51), (.func 48)]),
 o1 53 (.nilCheck (tm 52)),
 o1 54 (.fieldAddr 0 (tm 53)),
 o1 55 (.fieldAddr 0 (tm 54)),
 o1 56 (.fieldAddr 1 (tm 55)),
 o1 57 (.load none (tm 56)),
 o1 8 (.mov (tm 57))]) (.region [
 o1 58 (.mov (tm 0)),
 o1 59 (.nilCheck (tm 58)),
 o1 60 (.fieldAddr 1 (tm 59)),
 o1 61 (.load none (tm 60)),
 o1 62 (.mov (tm 8)),
 o3 (.delete (.int .i64) (tm 61) (tm 62))]))))
 .skip)) (.seq (.regionD [
 o1 63 (.mov (tm 0)),
 o1 64 (.nilCheck (tm 63)),
 o1 65 (.fieldAddr 1 (tm 64)),
 o1 66 (.load none (tm 65)),
 o1 67 (.fieldAddr 0 (tm 3)),
 o1 68 (.fieldAddr 1 (tm 67)),
 o1 69 (.load none (tm 68)),
 o1 70 (.load (some 166) (tm 3)),
 ⟨some 71, .callV (.func 39) [(tm 70)], none, [(some 69, .load none (tm 68), none), (some 68, .fieldAddr 1 (tm 67), none), (some 67, .fieldAddr 0 (tm 3), none), (some 66, .load none (tm 65), none), (some 65, .fieldAddr 1 (tm 64), none), (some 64, .nilCheck (tm 63), none), (some 63, .mov (tm 0), none)], false⟩,
 o1 72 (.build ((.string ⟨⟨[]⟩⟩) :: ((.int .i64 0) :: ((.int .i64 0) :: (z32 ++ (z32 ++ (z32 ++ (z32 ++ ((.int .i64 0) :: (z32 ++ [(.slice none 0 0), (.slice none 0 0), (.bool false), (.bool false)]))))))))) [(0, 166, (tm 71))]),
 ⟨some 73, .box 82 (tm 72), none, [(some 69, .load none (tm 68), none), (some 68, .fieldAddr 1 (tm 67), none), (some 67, .fieldAddr 0 (tm 3), none), (some 66, .load none (tm 65), none), (some 65, .fieldAddr 1 (tm 64), none), (some 64, .nilCheck (tm 63), none), (some 63, .mov (tm 0), none)], false⟩,
 ⟨none, .mapUpdate (.int .i64) (tm 66) (tm 69) (tm 73), none, [], true⟩]) (.seq (.region [
 o1 74 (.mov (tm 8)),
 o1 4 (.mov (tm 74)),
 o1 5 (.mov k0)]) .ret))))))))
def zjbQ : AFunc := ⟨75, [(4, none), (5, none)], zjbQ_c, none⟩
theorem zjbQ_t0 : tableOf Try.prog 21 = some zjbQ := by kernel_rfl
theorem zjbQ_t : T0 21 = some zjbQ := withKept_t rfl (withTrue_t rfl zjbQ_t0)
theorem zjbQ_runs {v0 v1 : Value} {h : Heap} {R : RP} {X : XP} (k : RunC Try.prog T0 zjbQ_c ⟨[v0, v1, U, U, U, U, U, U, U, U, U, U, U, U, U, U, U, U, U, U, U, U, U, U, U, U, U, U, U, U, U, U, U, U, U, U, U, U, U, U, U, U, U, U, U, U, U, U, U, U, U, U, U, U, U, U, U, U, U, U, U, U, U, U, U, U, U, U, U, U, U, U, U, U, U], [], h, none⟩ (bodyQ Try.prog T0 [(4, none), (5, none)] R X)) :
 Runs Try.prog T0 (.fn 21) [v0, v1] h R X := Runs.fn zjbQ_t rfl k
abbrev fn_znQ : FuncId := 22
def znQ_l0 : ACode :=
 (.seq (.seq (.region [
 o1 7 (.mov (tm 6)),
 o1 8 (.mov (tm 0)),
 o1 9 (.lenSl (tm 8)),
 o1 10 (.bin .lss (so (.binOp .lss 3 (tm 7) (tm 9) 3) 4) (tm 7) (tm 9))]) (.cond (tm 10)
 .skip
 (.exit 0))) (.seq (.block 1 (.seq (.region [
 o1 13 (.mov (tm 0)),
 o1 14 (.mov (tm 6)),
 o1 15 (.indexSl 3 (tm 13) (tm 14)),
 o1 16 (.fieldAddr 0 (tm 15)),
 o1 17 (.load none (tm 16)),
 o1 18 (.mov (tm 1)),
 o1 19 (.bin .eql (so (.binOp .eql 3 (tm 17) (tm 18) 3) 4) (tm 17) (tm 18))]) (.cond (tm 19)
 (.seq (.region [
 o1 20 (.mov (tm 0)),
 o1 21 (.mov (tm 6)),
 o1 22 (.indexSl 3 (tm 20) (tm 21)),
 o1 23 (.load (some 3) (tm 22)),
 o3 (.store 3 (tm 4) (tm 23)),
 o1 5 (.mov (.const (.bool true)))]) .ret)
 .skip))) (.region [
 o1 11 (.mov (tm 6)),
 o1 12 (.bin .add (so (.binOp .add 3 (tm 11) (.const (.int .i64 1)) 3) 3) (tm 11) (.const (.int .i64 1))),
 o1 6 (.mov (tm 12))])))
def znQ_c : ACode :=
 (.seq (.region [
 o1 4 (.alloc 47 [(.int .i64 0), (.bool false), (.bool false)]),
 o1 5 (.mov (.const (.bool false)))]) (.seq (.seq (.region [
 o1 6 (.mov k0)]) (.block 0 (.loop znQ_l0))) (.seq (.region [
 o1 24 (.build [(.int .i64 0), (.bool false), (.bool false)] []),
 o3 (.store 3 (tm 4) (tm 24)),
 o1 5 (.mov (.const (.bool false)))]) .ret)))
def znQ : AFunc := ⟨25, [(4, some (some 3)), (5, none)], znQ_c, none⟩
theorem znQ_t0 : tableOf Try.prog 22 = some znQ := by kernel_rfl
theorem znQ_t : T0 22 = some znQ := withKept_t rfl (withTrue_t rfl znQ_t0)
theorem znQ_runs {v0 v1 : Value} {h : Heap} {R : RP} {X : XP} (k : RunC Try.prog T0 znQ_c ⟨[v0, v1, U, U, U, U, U, U, U, U, U, U, U, U, U, U, U, U, U, U, U, U, U, U, U], [], h, none⟩ (bodyQ Try.prog T0 [(4, some (some 3)), (5, none)] R X)) :
 Runs Try.prog T0 (.fn 22) [v0, v1] h R X := Runs.fn znQ_t rfl k
abbrev znQ_l0_M : List Nat := [0, 0, 0, 0, 0, 1, 2, 1, 1, 1, 1, 1, 1, 1, 1, 1, 1, 1, 1, 1, 1, 1, 1, 1, 0]
abbrev fn_zgQ : FuncId := 36
def zgQ_c : ACode :=
 (.seq (.region [
 o1 1 (.box 36 (tm 0)),
 o1 2 (.mov (.const (.bool false)))]) (.seq (.region [
 o1 3 (.fieldAddr 165 (tm 1)),
 o1 4 (.load none (tm 3)),
 o1 5 (.lenSl (tm 4)),
 o1 6 (.bin .gtr (so (.binOp .gtr 3 (tm 5) (.const (.int .i64 70)) 3) 4) (tm 5) (.const (.int .i64 70))),
 o1 7 (.mov (tm 6)),
 o5 8 (.fieldAddr 131 (tm 1)) 7,
 o5 9 (.fieldAddr 33 (tm 8)) 7,
 o5 10 (.load none (tm 9)) 7,
 o5 11 (.lenSl (tm 10)) 7,
 o5 12 (.bin .gtr (so (.binOp .gtr 3 (tm 11) (.const (.int .i64 70)) 3) 4) (tm 11) (.const (.int .i64 70))) 7,
 o1 13 (.pick (tm 7) (.const (.bool true)) (tm 12)),
 o1 14 (.mov (tm 13)),
 o5 15 (.fieldAddr 0 (tm 1)) 14,
 o5 16 (.fieldAddr 0 (tm 15)) 14,
 o5 17 (.load none (tm 16)) 14,
 o5 18 (.lenStr (tm 17)) 14,
 o5 19 (.bin .gtr (so (.binOp .gtr 3 (tm 18) (.const (.int .i64 60)) 3) 4) (tm 18) (.const (.int .i64 60))) 14,
 o1 20 (.pick (tm 14) (.const (.bool true)) (tm 19)),
 o1 2 (.mov (tm 20))]) .ret))
def zgQ : AFunc := ⟨21, [(2, none)], zgQ_c, none⟩
theorem zgQ_t0 : tableOf Try.prog 36 = some zgQ := by kernel_rfl
theorem zgQ_t : T0 36 = some zgQ := withKept_t rfl (withTrue_t rfl zgQ_t0)
theorem zgQ_runs {v0 : Value} {h : Heap} {R : RP} {X : XP} (k : RunC Try.prog T0 zgQ_c ⟨[v0, U, U, U, U, U, U, U, U, U, U, U, U, U, U, U, U, U, U, U, U], [], h, none⟩ (bodyQ Try.prog T0 [(2, none)] R X)) :
 Runs Try.prog T0 (.fn 36) [v0] h R X := Runs.fn zgQ_t rfl k
abbrev fn_znbQ : FuncId := 37
def znbQ_c : ACode :=
 (.seq (.region [
 o1 2 (.mov (.const (.bool false)))]) (.seq (.region [
 o1 3 (.mov (tm 0)),
 o1 4 (.eq .ptr false (so (.binOp .eql 22 (tm 3) (.const (.pointer none)) 22) 4) (tm 3) (.const (.pointer none))),
 o1 5 (.mov (tm 4)),
 o5 6 (.mov (tm 0)) 5,
 o5 7 (.nilCheck (tm 6)) 5,
 o5 8 (.fieldAddr 1 (tm 7)) 5,
 o5 9 (.load none (tm 8)) 5,
 o5 10 (.eq .map false (so (.binOp .eql 73 (tm 9) (.const (.map none)) 73) 4) (tm 9) (.const (.map none))) 5,
 o1 11 (.pick (tm 5) (.const (.bool true)) (tm 10)),
 o1 2 (.mov (tm 11))]) .ret))
def znbQ : AFunc := ⟨12, [(2, none)], znbQ_c, none⟩
theorem znbQ_t0 : tableOf Try.prog 37 = some znbQ := by kernel_rfl
theorem znbQ_t : T0 37 = some znbQ := withKept_t rfl (withTrue_t rfl znbQ_t0)
theorem znbQ_runs {v0 : Value} {h : Heap} {R : RP} {X : XP} (k : RunC Try.prog T0 znbQ_c ⟨[v0, U, U, U, U, U, U, U, U, U, U, U], [], h, none⟩ (bodyQ Try.prog T0 [(2, none)] R X)) :
 Runs Try.prog T0 (.fn 37) [v0] h R X := Runs.fn znbQ_t rfl k
abbrev fn_zobQ : FuncId := 38
def zobQ_l0 : ACode :=
 (.seq (.seq (.region [
 o1 14 (.load none (tm 3)),
 o1 15 (.callV (.func 61) [(tm 14)]),
 o1 16 (.bin .gtr (so (.binOp .gtr 3 (tm 15) k0 3) 4) (tm 15) k0)]) (.cond (tm 16)
 .skip
 (.exit 0))) (.block 1 (.seq (.region [
 o1 18 (.mkIface 107 (tm 3)),
 o1 19 (.callV (.func 62) [(tm 18)]),
 o1 20 (.assertTo 3 (.int .i64 0) true (tm 19)),
 o1 17 (.mov (tm 20)),
 o1 21 (.extract 0 (tm 17)),
 o1 22 (.extract 1 (tm 17)),
 o1 4 (.mov (tm 21)),
 o1 5 (.mov (tm 22))]) (.seq (.region [
 o1 23 (.mov (tm 5))]) (.cond (tm 23)
 (.region [
 o1 24 (.mov (tm 2)),
 o1 25 (.mov (tm 4)),
 o1 26 (.buildSlice 3 [(.int .i64 0)] 1 [(0, 1, (tm 25))]),
 o1 27 (.append 3 1 8 [(.int .i64 0)] false (tm 24) (tm 26)),
 o1 2 (.mov (tm 27))])
 .skip)))))
def zobQ_c : ACode :=
 (.seq (.region [
 o1 2 (.mov (.const (.slice none 0 0)))]) (.seq (.region [
 o1 6 (.mov (tm 0)),
 o1 7 (.nilCheck (tm 6)),
 o1 8 (.fieldAddr 1 (tm 7)),
 o1 9 (.load none (tm 8)),
 o1 10 (.callV (.func 59) [(tm 9)]),
 o1 11 (.callV (.func 58) [(tm 10)]),
 o1 3 (.alloc 101 [(.slice none 0 0)]),
 o3 (.store 1 (tm 3) (tm 11))]) (.seq (.region [
 o1 12 (.mkIface 107 (tm 3)),
 o1 13 (.callV (.func 60) [(tm 12)])]) (.seq (.block 0 (.loop zobQ_l0)) (.seq (.region [
 o1 28 (.mov (tm 2)),
 o1 2 (.mov (tm 28))]) .ret)))))
def zobQ : AFunc := ⟨29, [(2, none)], zobQ_c, none⟩
theorem zobQ_t0 : tableOf Try.prog 38 = some zobQ := by kernel_rfl
theorem zobQ_t : T0 38 = some zobQ := withKept_t rfl (withTrue_t rfl zobQ_t0)
theorem zobQ_runs {v0 : Value} {h : Heap} {R : RP} {X : XP} (k : RunC Try.prog T0 zobQ_c ⟨[v0, U, U, U, U, U, U, U, U, U, U, U, U, U, U, U, U, U, U, U, U, U, U, U, U, U, U, U, U], [], h, none⟩ (bodyQ Try.prog T0 [(2, none)] R X)) :
 Runs Try.prog T0 (.fn 38) [v0] h R X := Runs.fn zobQ_t rfl k
abbrev zobQ_l0_M : List Nat := [0, 0, 2, 0, 1, 1, 0, 0, 0, 0, 0, 0, 0, 0, 1, 1, 1, 1, 1, 1, 1, 1, 1, 1, 1, 1, 1, 1, 0]
abbrev fn_zwbQ : FuncId := 39
def zwbQ_c : ACode :=
 (.seq (.region [
 o1 1 (.box 36 (tm 0)),
 o1 2 (.alloc 36 ((.string ⟨⟨[]⟩⟩) :: ((.int .i64 0) :: ((.int .i64 0) :: (z32 ++ (z32 ++ (z32 ++ (z32 ++ ((.int .i64 0) :: (z32 ++ [(.slice none 0 0), (.slice none 0 0)]))))))))))]) (.seq (.regionD [
 o1 3 (.fieldAddr 165 (tm 1)),
 o1 4 (.load none (tm 3)),
 o1 6 (.fieldAddr 131 (tm 1)),
 o1 7 (.fieldAddr 33 (tm 6)),
 o1 8 (.load none (tm 7)),
 ⟨some 5, .callV (.func 63) [(tm 4)], none, [(some 8, .load none (tm 7), none), (some 7, .fieldAddr 33 (tm 6), none), (some 6, .fieldAddr 131 (tm 1), none)], false⟩,
 o1 10 (.fieldAddr 165 (tm 1)),
 ⟨some 9, .callV (.func 64) [(tm 8)], none, [(some 10, .fieldAddr 165 (tm 1), none)], false⟩,
 ⟨none, .store 1 (tm 10) (tm 5), none, [], true⟩,
 o2 11 (.fieldAddr 131 (tm 1)),
 o2 12 (.fieldAddr 33 (tm 11)),
 ⟨none, .store 1 (tm 12) (tm 9), none, [], true⟩]) (.seq (.region [
 o1 13 (.load (some 166) (tm 1)),
 o3 (.store 166 (tm 2) (tm 13))]) .ret)))
def zwbQ : AFunc := ⟨14, [(2, some (some 166))], zwbQ_c, none⟩
theorem zwbQ_t0 : tableOf Try.prog 39 = some zwbQ := by kernel_rfl
theorem zwbQ_t : T0 39 = some zwbQ := withKept_t rfl (withTrue_t rfl zwbQ_t0)
theorem zwbQ_runs {v0 : Value} {h : Heap} {R : RP} {X : XP} (k : RunC Try.prog T0 zwbQ_c ⟨[v0, U, U, U, U, U, U, U, U, U, U, U, U, U], [], h, none⟩ (bodyQ Try.prog T0 [(2, some (some 166))] R X)) :
 Runs Try.prog T0 (.fn 39) [v0] h R X := Runs.fn zwbQ_t rfl k
abbrev fn_zpbQ : FuncId := 41
def zpbQ_c : ACode :=
 (.seq (.region [
 o1 6 (.mov k0)]) (.seq (.seq (.region [
 o1 9 (.mov (tm 0)),
 o1 10 (.callV (.func 37) [(tm 9)])]) (.cond (tm 10)
 (.seq (.region [
 o1 6 (.mov (.const (.int .i64 1)))]) .ret)
 .skip)) (.seq (.region [
 o1 12 (.mov (tm 0)),
 o1 13 (.nilCheck (tm 12)),
 o1 14 (.fieldAddr 1 (tm 13)),
 o1 15 (.load none (tm 14)),
 o1 16 (.mov (tm 1)),
 o1 17 (.lookup (.int .i64) (.pointer none) true (tm 15) (tm 16)),
 o1 11 (.mov (tm 17)),
 o1 18 (.extract 0 (tm 11)),
 o1 19 (.extract 1 (tm 11)),
 o1 7 (.mov (tm 18)),
 o1 8 (.mov (tm 19))]) (.seq (.seq (.region [
 o1 20 (.mov (tm 8)),
 o1 21 (.raw (so (.unOp .not 4 (tm 20)) 4))]) (.cond (tm 21)
 (.seq (.region [
 o1 6 (.mov (.const (.int .i64 10)))]) .ret)
 .skip)) (.seq (.region [
 o1 22 (.mov (tm 2)),
 o1 23 (.mov (tm 7)),
 o1 24 (.callV (tm 22) [(tm 23)])]) (.seq (.region [
 o1 6 (.mov k0)]) .ret))))))
def zpbQ : AFunc := ⟨25, [(6, none)], zpbQ_c, none⟩
theorem zpbQ_t0 : tableOf Try.prog 41 = some zpbQ := by kernel_rfl
theorem zpbQ_t : T0 41 = some zpbQ := withKept_t rfl (withTrue_t rfl zpbQ_t0)
theorem zpbQ_runs {v0 v1 v2 : Value} {h : Heap} {R : RP} {X : XP} (k : RunC Try.prog T0 zpbQ_c ⟨[v0, v1, v2, U, U, U, U, U, U, U, U, U, U, U, U, U, U, U, U, U, U, U, U, U, U], [], h, none⟩ (bodyQ Try.prog T0 [(6, none)] R X)) :
 Runs Try.prog T0 (.fn 41) [v0, v1, v2] h R X := Runs.fn zpbQ_t rfl k
abbrev fn_zibQ : FuncId := 42
def zibQ_c : ACode :=
 (.region [
 o1 3 (.mov (tm 0)),
 o1 4 (.load none (tm 1)),
 o1 5 (.nilCheck (tm 3)),
 o1 6 (.fieldAddr 167 (tm 5)),
 o3 (.store 1 (tm 6) (tm 4))])
def zibQ : AFunc := ⟨7, [], zibQ_c, none⟩
theorem zibQ_t0 : tableOf Try.prog 42 = some zibQ := by kernel_rfl
theorem zibQ_t : T0 42 = some zibQ := withKept_t rfl (withTrue_t rfl zibQ_t0)
theorem zibQ_runs {v0 v1 : Value} {h : Heap} {R : RP} {X : XP} (k : RunC Try.prog T0 zibQ_c ⟨[v0, v1, U, U, U, U, U], [], h, none⟩ (bodyQ Try.prog T0 [] R X)) :
 Runs Try.prog T0 (.fn 42) [v0, v1] h R X := Runs.fn zibQ_t rfl k
abbrev fn_zrQ : FuncId := 43
def zrQ_l0 : ACode :=
 (.seq (.region [
 o1 8 (.nextMap (tm 7)),
 o1 9 (.extract 0 (tm 8))]) (.seq (.cond (tm 9)
 .skip
 (.exit 0)) (.block 1 (.seq (.region [
 o1 10 (.entryMap (tm 7)),
 o1 11 (.extract 0 (tm 10)),
 o1 12 (.extract 1 (tm 10)),
 o1 4 (.mov (tm 11)),
 o1 5 (.mov (tm 12))]) (.seq (.region [
 o1 13 (.mov (tm 1)),
 o1 14 (.mov (tm 4)),
 o1 15 (.mov (tm 5)),
 o1 16 (.callV (tm 13) [(tm 14), (tm 15)])]) (.cond (tm 16)
 (.region [
 o1 17 (.mov (tm 0)),
 o1 18 (.mov (tm 4)),
 o3 (.delete (.int .i64) (tm 17) (tm 18))])
 .skip))))))
def zrQ_c : ACode :=
 (.seq (.region [
 o1 6 (.mov (tm 0)),
 o1 7 (.rangeMap (tm 6))]) (.block 0 (.loop zrQ_l0)))
def zrQ : AFunc := ⟨19, [], zrQ_c, none⟩
theorem zrQ_t0 : tableOf Try.prog 43 = some zrQ := by kernel_rfl
theorem zrQ_t : T0 43 = some zrQ := withKept_t rfl (withTrue_t rfl zrQ_t0)
theorem zrQ_runs {v0 v1 : Value} {h : Heap} {R : RP} {X : XP} (k : RunC Try.prog T0 zrQ_c ⟨[v0, v1, U, U, U, U, U, U, U, U, U, U, U, U, U, U, U, U, U], [], h, none⟩ (bodyQ Try.prog T0 [] R X)) :
 Runs Try.prog T0 (.fn 43) [v0, v1] h R X := Runs.fn zrQ_t rfl k
abbrev zrQ_l0_M : List Nat := [0, 0, 0, 0, 1, 1, 0, 0, 1, 1, 1, 1, 1, 1, 1, 1, 1, 1, 1]
abbrev fn_zebQ : FuncId := 44
def zebQ_c : ACode :=
 (.seq (.region [
 o1 5 (.mov (.const (.bool false)))]) (.seq (.region [
 o1 6 (.mov (tm 0)),
 o1 7 (.load none (tm 2)),
 o1 8 (.bin .neq (so (.binOp .neq 3 (tm 6) (tm 7) 3) 4) (tm 6) (tm 7)),
 o1 5 (.mov (tm 8))]) .ret))
def zebQ : AFunc := ⟨9, [(5, none)], zebQ_c, none⟩
theorem zebQ_t0 : tableOf Try.prog 44 = some zebQ := by kernel_rfl
theorem zebQ_t : T0 44 = some zebQ := withKept_t rfl (withTrue_t rfl zebQ_t0)
theorem zebQ_runs {v0 v1 v2 : Value} {h : Heap} {R : RP} {X : XP} (k : RunC Try.prog T0 zebQ_c ⟨[v0, v1, v2, U, U, U, U, U, U], [], h, none⟩ (bodyQ Try.prog T0 [(5, none)] R X)) :
 Runs Try.prog T0 (.fn 44) [v0, v1, v2] h R X := Runs.fn zebQ_t rfl k
abbrev fn_zlbQ : FuncId := 45
def zlbQ_c : ACode :=
 (.region [
 o1 2 (.mov (tm 0)),
 o1 3 (.nilCheck (tm 2)),
 o1 4 (.fieldAddr 166 (tm 3)),
 o3 (.store 1 (tm 4) (.const (.bool true)))])
def zlbQ : AFunc := ⟨5, [], zlbQ_c, none⟩
theorem zlbQ_t0 : tableOf Try.prog 45 = some zlbQ := by kernel_rfl
theorem zlbQ_t : T0 45 = some zlbQ := withKept_t rfl (withTrue_t rfl zlbQ_t0)
theorem zlbQ_runs {v0 : Value} {h : Heap} {R : RP} {X : XP} (k : RunC Try.prog T0 zlbQ_c ⟨[v0, U, U, U, U], [], h, none⟩ (bodyQ Try.prog T0 [] R X)) :
 Runs Try.prog T0 (.fn 45) [v0] h R X := Runs.fn zlbQ_t rfl k
abbrev fn_zmbQ : FuncId := 46
def zmbQ_ra0 : Code := (rangeParts (subCode ((Try.prog.funcs[46]?).bind (·.body)) [true, false, true, false])).1
def zmbQ_rb0 : Code := (rangeParts (subCode ((Try.prog.funcs[46]?).bind (·.body)) [true, false, true, false])).2
def zmbQ_a0 : ACode :=
 (.region [
 o1 3 (.mov (tm 9))])
def zmbQ_b0 : ACode :=
 (.block 1 (.seq (.region [
 o1 10 (.mov (tm 3)),
 o1 11 (.nilCheck (tm 10)),
 o1 12 (.fieldAddr 167 (tm 11)),
 o1 13 (.load none (tm 12)),
 o1 14 (.raw (so (.unOp .not 4 (tm 13)) 4))]) (.cond (tm 14)
 (.region [
 o1 15 (.load none (tm 2)),
 o1 16 (.mov (tm 3)),
 o1 17 (.buildSlice 80 [(.pointer none)] 1 [(0, 1, (tm 16))]),
 o1 18 (.append 80 1 8 [(.pointer none)] false (tm 15) (tm 17)),
 o3 (.store 1 (tm 2) (tm 18))])
 .skip)))
theorem zmbQ_ca0 : comp Try.prog zmbQ_ra0 = some zmbQ_a0 := by kernel_rfl
theorem zmbQ_cb0 : comp Try.prog zmbQ_rb0 = some zmbQ_b0 := by kernel_rfl
theorem zmbQ_na0 : noDefer zmbQ_ra0 = true := by kernel_rfl
theorem zmbQ_nb0 : noDefer zmbQ_rb0 = true := by kernel_rfl
def zmbQ_c : ACode :=
 (.seq (.region [
 o1 2 (.alloc 89 [(.slice none 0 0)])]) (.seq (.seq (.region [
 o1 4 (.mov (tm 0)),
 o1 5 (.nilCheck (tm 4)),
 o1 6 (.fieldAddr 1 (tm 5)),
 o1 7 (.load none (tm 6)),
 o1 8 (.callV (.func 65) [(tm 7)])]) (.block 0 (.rangeFunc (tm 8) [9] zmbQ_ra0 zmbQ_rb0))) (.seq (.region [
 o1 19 (.load none (tm 2)),
 o3 (.store 1 (tm 2) (tm 19))]) .ret)))
def zmbQ : AFunc := ⟨20, [(2, some none)], zmbQ_c, none⟩
theorem zmbQ_t0 : tableOf Try.prog 46 = some zmbQ := by kernel_rfl
theorem zmbQ_t : T0 46 = some zmbQ := withKept_t rfl (withTrue_t rfl zmbQ_t0)
theorem zmbQ_runs {v0 : Value} {h : Heap} {R : RP} {X : XP} (k : RunC Try.prog T0 zmbQ_c ⟨[v0, U, U, U, U, U, U, U, U, U, U, U, U, U, U, U, U, U, U, U], [], h, none⟩ (bodyQ Try.prog T0 [(2, some none)] R X)) :
 Runs Try.prog T0 (.fn 46) [v0] h R X := Runs.fn zmbQ_t rfl k
abbrev fn_zabQ : FuncId := 47
def zabQ_l0 : ACode :=
 (.seq (.seq (.region [
 o1 14 (.mov (tm 6)),
 o1 15 (.mov (tm 0)),
 o1 16 (.lenSl (tm 15)),
 o1 17 (.bin .lss (so (.binOp .lss 3 (tm 14) (tm 16) 3) 4) (tm 14) (tm 16))]) (.cond (tm 17)
 .skip
 (.exit 0))) (.seq (.block 1 (.seq (.region [
 o1 20 (.mov (tm 1)),
 o1 21 (.mov (tm 0)),
 o1 22 (.mov (tm 6)),
 o1 23 (.indexSl 1 (tm 21) (tm 22)),
 o1 24 (.load none (tm 23)),
 o1 25 (.mov (tm 5)),
 o1 26 (.callV (tm 20) [(tm 24), (tm 25)]),
 o1 27 (.bin .lss (so (.binOp .lss 3 (tm 26) k0 3) 4) (tm 26) k0)]) (.cond (tm 27)
 (.region [
 o1 28 (.mov (tm 0)),
 o1 29 (.mov (tm 6)),
 o1 30 (.indexSl 1 (tm 28) (tm 29)),
 o1 31 (.load none (tm 30)),
 o1 5 (.mov (tm 31))])
 .skip))) (.region [
 o1 18 (.mov (tm 6)),
 o1 19 (.bin .add (so (.binOp .add 3 (tm 18) (.const (.int .i64 1)) 3) 3) (tm 18) (.const (.int .i64 1))),
 o1 6 (.mov (tm 19))])))
def zabQ_c : ACode :=
 (.seq (.region [
 o1 4 (.mov (.const (.pointer none)))]) (.seq (.seq (.region [
 o1 7 (.mov (tm 0)),
 o1 8 (.lenSl (tm 7)),
 o1 9 (.bin .lss (so (.binOp .lss 3 (tm 8) (.const (.int .i64 1)) 3) 4) (tm 8) (.const (.int .i64 1)))]) (.cond (tm 9)
 (.region [
 o1 10 (.mkIface 9 (.const (.string ⟨⟨[115, 108, 105, 99, 101, 115, 46, 77, 105, 110, 70, 117, 110, 99, 58, 32, 101, 109, 112, 116, 121, 32, 108, 105, 115, 116]⟩⟩))),
 o3 (.panic (tm 10))])
 .skip)) (.seq (.region [
 o1 11 (.mov (tm 0)),
 o1 12 (.indexSl 1 (tm 11) k0),
 o1 13 (.load none (tm 12)),
 o1 5 (.mov (tm 13))]) (.seq (.seq (.region [
 o1 6 (.mov (.const (.int .i64 1)))]) (.block 0 (.loop zabQ_l0))) (.seq (.region [
 o1 32 (.mov (tm 5)),
 o1 4 (.mov (tm 32))]) .ret)))))
def zabQ : AFunc := ⟨33, [(4, none)], zabQ_c, none⟩
theorem zabQ_t0 : tableOf Try.prog 47 = some zabQ := by kernel_rfl
theorem zabQ_t : T0 47 = some zabQ := withKept_t rfl (withTrue_t rfl zabQ_t0)
theorem zabQ_runs {v0 v1 : Value} {h : Heap} {R : RP} {X : XP} (k : RunC Try.prog T0 zabQ_c ⟨[v0, v1, U, U, U, U, U, U, U, U, U, U, U, U, U, U, U, U, U, U, U, U, U, U, U, U, U, U, U, U, U, U, U], [], h, none⟩ (bodyQ Try.prog T0 [(4, none)] R X)) :
 Runs Try.prog T0 (.fn 47) [v0, v1] h R X := Runs.fn zabQ_t rfl k
abbrev zabQ_l0_M : List Nat := [0, 0, 0, 0, 0, 2, 2, 0, 0, 0, 0, 0, 0, 0, 1, 1, 1, 1, 1, 1, 1, 1, 1, 1, 1, 1, 1, 1, 1, 1, 1, 1, 0]
abbrev fn_zubQ : FuncId := 48
def zubQ_c : ACode :=
 (.seq (.region [
 o1 4 (.mov k0)]) (.seq (.region [
 o1 5 (.mov (.func 66))]) (.seq (.regionD [
 o1 6 (.mov (tm 5)),
 o1 7 (.mov (tm 0)),
 o1 9 (.mov (tm 5)),
 o1 10 (.mov (tm 1)),
 o1 13 (.mov (tm 0)),
 o1 14 (.nilCheck (tm 13)),
 o1 15 (.fieldAddr 0 (tm 14)),
 o1 16 (.fieldAddr 0 (tm 15)),
 o1 17 (.fieldAddr 1 (tm 16)),
 o1 18 (.load none (tm 17)),
 o1 19 (.mov (tm 1)),
 o1 20 (.nilCheck (tm 19)),
 o1 21 (.fieldAddr 0 (tm 20)),
 o1 22 (.fieldAddr 0 (tm 21)),
 o1 23 (.fieldAddr 1 (tm 22)),
 o1 24 (.load none (tm 23)),
 ⟨some 8, .callV (tm 6) [(tm 7)], none, [(some 24, .load none (tm 23), none), (some 23, .fieldAddr 1 (tm 22), none), (some 22, .fieldAddr 0 (tm 21), none), (some 21, .fieldAddr 0 (tm 20), none), (some 20, .nilCheck (tm 19), none), (some 19, .mov (tm 1), none), (some 18, .load none (tm 17), none), (some 17, .fieldAddr 1 (tm 16), none), (some 16, .fieldAddr 0 (tm 15), none), (some 15, .fieldAddr 0 (tm 14), none), (some 14, .nilCheck (tm 13), none), (some 13, .mov (tm 0), none), (some 10, .mov (tm 1), none), (some 9, .mov (tm 5), none)], false⟩,
 ⟨some 11, .callV (tm 9) [(tm 10)], none, [(some 24, .load none (tm 23), none), (some 23, .fieldAddr 1 (tm 22), none), (some 22, .fieldAddr 0 (tm 21), none), (some 21, .fieldAddr 0 (tm 20), none), (some 20, .nilCheck (tm 19), none), (some 19, .mov (tm 1), none), (some 18, .load none (tm 17), none), (some 17, .fieldAddr 1 (tm 16), none), (some 16, .fieldAddr 0 (tm 15), none), (some 15, .fieldAddr 0 (tm 14), none), (some 14, .nilCheck (tm 13), none), (some 13, .mov (tm 0), none)], false⟩,
 ⟨some 12, .callV (.func 68) [(tm 8), (tm 11)], none, [(some 24, .load none (tm 23), none), (some 23, .fieldAddr 1 (tm 22), none), (some 22, .fieldAddr 0 (tm 21), none), (some 21, .fieldAddr 0 (tm 20), none), (some 20, .nilCheck (tm 19), none), (some 19, .mov (tm 1), none), (some 18, .load none (tm 17), none), (some 17, .fieldAddr 1 (tm 16), none), (some 16, .fieldAddr 0 (tm 15), none), (some 15, .fieldAddr 0 (tm 14), none), (some 14, .nilCheck (tm 13), none), (some 13, .mov (tm 0), none)], false⟩,
 o2 25 (.callV (.func 68) [(tm 18), (tm 24)]),
 o2 26 (.buildSlice 3 [(.int .i64 0), (.int .i64 0)] 2 [(0, 1, (tm 12)), (1, 1, (tm 25))]),
 o2 27 (.callV (.func 67) [(tm 26)]),
 o2 4 (.mov (tm 27))]) .ret)))
def zubQ : AFunc := ⟨28, [(4, none)], zubQ_c, none⟩
theorem zubQ_t0 : tableOf Try.prog 48 = some zubQ := by kernel_rfl
theorem zubQ_t : T0 48 = some zubQ := withKept_t rfl (withTrue_t rfl zubQ_t0)
theorem zubQ_runs {v0 v1 : Value} {h : Heap} {R : RP} {X : XP} (k : RunC Try.prog T0 zubQ_c ⟨[v0, v1, U, U, U, U, U, U, U, U, U, U, U, U, U, U, U, U, U, U, U, U, U, U, U, U, U, U], [], h, none⟩ (bodyQ Try.prog T0 [(4, none)] R X)) :
 Runs Try.prog T0 (.fn 48) [v0, v1] h R X := Runs.fn zubQ_t rfl k
abbrev fn_zzQ : FuncId := 58
def zzQ_c : ACode :=
 (.seq (.region [
 o1 2 (.mov (.const (.slice none 0 0)))]) (.seq (.region [
 o1 3 (.mov (tm 0)),
 o1 4 (.callV (.func 70) [(.const (.slice none 0 0)), (tm 3)]),
 o1 2 (.mov (tm 4))]) .ret))
def zzQ : AFunc := ⟨5, [(2, none)], zzQ_c, none⟩
theorem zzQ_t0 : tableOf Try.prog 58 = some zzQ := by kernel_rfl
theorem zzQ_t : T0 58 = some zzQ := withKept_t rfl (withTrue_t rfl zzQ_t0)
theorem zzQ_runs {v0 : Value} {h : Heap} {R : RP} {X : XP} (k : RunC Try.prog T0 zzQ_c ⟨[v0, U, U, U, U], [], h, none⟩ (bodyQ Try.prog T0 [(2, none)] R X)) :
 Runs Try.prog T0 (.fn 58) [v0] h R X := Runs.fn zzQ_t rfl k
abbrev fn_zsQ : FuncId := 59
def zsQ_c : ACode :=
 (.seq (.region [
 o1 1 (.box 73 (tm 0)),
 o1 2 (.mov (.const .nilFunc))]) (.seq (.region [
 o1 3 (.mkFunc (.func 71) [] [(tm 1)]),
 o1 2 (.mov (tm 3))]) .ret))
def zsQ : AFunc := ⟨4, [(2, none)], zsQ_c, none⟩
theorem zsQ_t0 : tableOf Try.prog 59 = some zsQ := by kernel_rfl
theorem zsQ_t : T0 59 = some zsQ := withKept_t rfl (withTrue_t rfl zsQ_t0)
theorem zsQ_runs {v0 : Value} {h : Heap} {R : RP} {X : XP} (k : RunC Try.prog T0 zsQ_c ⟨[v0, U, U, U], [], h, none⟩ (bodyQ Try.prog T0 [(2, none)] R X)) :
 Runs Try.prog T0 (.fn 59) [v0] h R X := Runs.fn zsQ_t rfl k
abbrev fn_zdQ : FuncId := 60
def zdQ_l0 : ACode :=
 (.seq (.seq (.region [
 o1 9 (.mov (tm 3)),
 o1 10 (.bin .geq (so (.binOp .geq 3 (tm 9) k0 3) 4) (tm 9) k0)]) (.cond (tm 10)
 .skip
 (.exit 0))) (.seq (.block 1 (.region [
 o1 13 (.mov (tm 0)),
 o1 14 (.mov (tm 3)),
 o1 15 (.mov (tm 2)),
 o1 16 (.callV (.func 72) [(tm 13), (tm 14), (tm 15)])])) (.region [
 o1 11 (.mov (tm 3)),
 o1 12 (.bin .sub (so (.binOp .sub 3 (tm 11) (.const (.int .i64 1)) 3) 3) (tm 11) (.const (.int .i64 1))),
 o1 3 (.mov (tm 12))])))
def zdQ_c : ACode :=
 (.seq (.region [
 o1 4 (.mov (tm 0)),
 o1 5 (.invoke (tm 4) "Len" []),
 o1 2 (.mov (tm 5))]) (.seq (.region [
 o1 6 (.mov (tm 2)),
 o1 7 (.bin .quo (so (.binOp .quo 3 (tm 6) (.const (.int .i64 2)) 3) 3) (tm 6) (.const (.int .i64 2))),
 o1 8 (.bin .sub (so (.binOp .sub 3 (tm 7) (.const (.int .i64 1)) 3) 3) (tm 7) (.const (.int .i64 1))),
 o1 3 (.mov (tm 8))]) (.block 0 (.loop zdQ_l0))))
def zdQ : AFunc := ⟨17, [], zdQ_c, none⟩
theorem zdQ_t0 : tableOf Try.prog 60 = some zdQ := by kernel_rfl
theorem zdQ_t : T0 60 = some zdQ := withKept_t rfl (withTrue_t rfl zdQ_t0)
theorem zdQ_runs {v0 : Value} {h : Heap} {R : RP} {X : XP} (k : RunC Try.prog T0 zdQ_c ⟨[v0, U, U, U, U, U, U, U, U, U, U, U, U, U, U, U, U], [], h, none⟩ (bodyQ Try.prog T0 [] R X)) :
 Runs Try.prog T0 (.fn 60) [v0] h R X := Runs.fn zdQ_t rfl k
abbrev zdQ_l0_M : List Nat := [0, 0, 0, 2, 0, 0, 0, 0, 0, 1, 1, 1, 1, 1, 1, 1, 1]
abbrev fn_zqbQ : FuncId := 61
def zqbQ_c : ACode :=
 (.seq (.region [
 o1 2 (.mov k0)]) (.seq (.region [
 o1 3 (.mov (tm 0)),
 o1 4 (.lenSl (tm 3)),
 o1 2 (.mov (tm 4))]) .ret))
def zqbQ : AFunc := ⟨5, [(2, none)], zqbQ_c, none⟩
theorem zqbQ_t0 : tableOf Try.prog 61 = some zqbQ := by kernel_rfl
theorem zqbQ_t : T0 61 = some zqbQ := withKept_t rfl (withTrue_t rfl zqbQ_t0)
theorem zqbQ_runs {v0 : Value} {h : Heap} {R : RP} {X : XP} (k : RunC Try.prog T0 zqbQ_c ⟨[v0, U, U, U, U], [], h, none⟩ (bodyQ Try.prog T0 [(2, none)] R X)) :
 Runs Try.prog T0 (.fn 61) [v0] h R X := Runs.fn zqbQ_t rfl k
abbrev fn_zeQ : FuncId := 62
def zeQ_c : ACode :=
 (.seq (.region [
 o1 2 (.mov (.const .nilIface))]) (.seq (.region [
 o1 4 (.mov (tm 0)),
 o1 5 (.invoke (tm 4) "Len" []),
 o1 6 (.bin .sub (so (.binOp .sub 3 (tm 5) (.const (.int .i64 1)) 3) 3) (tm 5) (.const (.int .i64 1))),
 o1 3 (.mov (tm 6))]) (.seq (.region [
 o1 7 (.mov (tm 0)),
 o1 8 (.mov (tm 3)),
 o1 9 (.invoke (tm 7) "Swap" [k0, (tm 8)])]) (.seq (.region [
 o1 10 (.mov (tm 0)),
 o1 11 (.mov (tm 3)),
 o1 12 (.callV (.func 72) [(tm 10), k0, (tm 11)])]) (.seq (.region [
 o1 13 (.mov (tm 0)),
 o1 14 (.invoke (tm 13) "Pop" []),
 o1 2 (.mov (tm 14))]) .ret)))))
def zeQ : AFunc := ⟨15, [(2, none)], zeQ_c, none⟩
theorem zeQ_t0 : tableOf Try.prog 62 = some zeQ := by kernel_rfl
theorem zeQ_t : T0 62 = some zeQ := withKept_t rfl (withTrue_t rfl zeQ_t0)
theorem zeQ_runs {v0 : Value} {h : Heap} {R : RP} {X : XP} (k : RunC Try.prog T0 zeQ_c ⟨[v0, U, U, U, U, U, U, U, U, U, U, U, U, U, U], [], h, none⟩ (bodyQ Try.prog T0 [(2, none)] R X)) :
 Runs Try.prog T0 (.fn 62) [v0] h R X := Runs.fn zeQ_t rfl k
abbrev fn_zxQ : FuncId := 63
def zxQ_c : ACode :=
 (.seq (.region [
 o1 2 (.mov (.const (.slice none 0 0)))]) (.seq (.seq (.region [
 o1 3 (.mov (tm 0)),
 o1 4 (.eq .slice false (so (.binOp .eql 34 (tm 3) (.const (.slice none 0 0)) 34) 4) (tm 3) (.const (.slice none 0 0)))]) (.cond (tm 4)
 (.seq (.region [
 o1 2 (.mov (.const (.slice none 0 0)))]) .ret)
 .skip)) (.seq (.region [
 o1 5 (.buildSlice 113 [] 0 []),
 o1 6 (.mov (tm 0)),
 o1 7 (.append 113 5 16 [(.int .u8 0), (.int .u8 0), (.int .u8 0), (.int .u8 0), (.int .i64 0)] false (tm 5) (tm 6)),
 o1 2 (.mov (tm 7))]) .ret)))
def zxQ : AFunc := ⟨8, [(2, none)], zxQ_c, none⟩
theorem zxQ_t0 : tableOf Try.prog 63 = some zxQ := by kernel_rfl
theorem zxQ_t : T0 63 = some zxQ := withKept_t rfl (withTrue_t rfl zxQ_t0)
theorem zxQ_runs {v0 : Value} {h : Heap} {R : RP} {X : XP} (k : RunC Try.prog T0 zxQ_c ⟨[v0, U, U, U, U, U, U, U], [], h, none⟩ (bodyQ Try.prog T0 [(2, none)] R X)) :
 Runs Try.prog T0 (.fn 63) [v0] h R X := Runs.fn zxQ_t rfl k
abbrev fn_zyQ : FuncId := 64
def zyQ_c : ACode :=
 (.seq (.region [
 o1 2 (.mov (.const (.slice none 0 0)))]) (.seq (.seq (.region [
 o1 3 (.mov (tm 0)),
 o1 4 (.eq .slice false (so (.binOp .eql 31 (tm 3) (.const (.slice none 0 0)) 31) 4) (tm 3) (.const (.slice none 0 0)))]) (.cond (tm 4)
 (.seq (.region [
 o1 2 (.mov (.const (.slice none 0 0)))]) .ret)
 .skip)) (.seq (.region [
 o1 5 (.buildSlice 117 [] 0 []),
 o1 6 (.mov (tm 0)),
 o1 7 (.append 117 2 16 [(.int .i64 0), (.int .u64 0)] false (tm 5) (tm 6)),
 o1 2 (.mov (tm 7))]) .ret)))
def zyQ : AFunc := ⟨8, [(2, none)], zyQ_c, none⟩
theorem zyQ_t0 : tableOf Try.prog 64 = some zyQ := by kernel_rfl
theorem zyQ_t : T0 64 = some zyQ := withKept_t rfl (withTrue_t rfl zyQ_t0)
theorem zyQ_runs {v0 : Value} {h : Heap} {R : RP} {X : XP} (k : RunC Try.prog T0 zyQ_c ⟨[v0, U, U, U, U, U, U, U], [], h, none⟩ (bodyQ Try.prog T0 [(2, none)] R X)) :
 Runs Try.prog T0 (.fn 64) [v0] h R X := Runs.fn zyQ_t rfl k
abbrev fn_zuQ : FuncId := 65
def zuQ_c : ACode :=
 (.seq (.region [
 o1 1 (.box 73 (tm 0)),
 o1 2 (.mov (.const .nilFunc))]) (.seq (.region [
 o1 3 (.mkFunc (.func 73) [] [(tm 1)]),
 o1 2 (.mov (tm 3))]) .ret))
def zuQ : AFunc := ⟨4, [(2, none)], zuQ_c, none⟩
theorem zuQ_t0 : tableOf Try.prog 65 = some zuQ := by kernel_rfl
theorem zuQ_t : T0 65 = some zuQ := withKept_t rfl (withTrue_t rfl zuQ_t0)
theorem zuQ_runs {v0 : Value} {h : Heap} {R : RP} {X : XP} (k : RunC Try.prog T0 zuQ_c ⟨[v0, U, U, U], [], h, none⟩ (bodyQ Try.prog T0 [(2, none)] R X)) :
 Runs Try.prog T0 (.fn 65) [v0] h R X := Runs.fn zuQ_t rfl k
abbrev fn_zvbQ : FuncId := 66
def zvbQ_c : ACode :=
 (.seq (.region [
 o1 2 (.mov k0)]) (.seq (.seq (.region [
 o1 3 (.mov (tm 0)),
 o1 4 (.nilCheck (tm 3)),
 o1 5 (.fieldAddr 166 (tm 4)),
 o1 6 (.load none (tm 5))]) (.cond (tm 6)
 (.seq (.region [
 o1 2 (.mov (.const (.int .i64 1)))]) .ret)
 .skip)) (.seq (.region [
 o1 2 (.mov k0)]) .ret)))
def zvbQ : AFunc := ⟨7, [(2, none)], zvbQ_c, none⟩
theorem zvbQ_t0 : tableOf Try.prog 66 = some zvbQ := by kernel_rfl
theorem zvbQ_t : T0 66 = some zvbQ := withKept_t rfl (withTrue_t rfl zvbQ_t0)
theorem zvbQ_runs {v0 : Value} {h : Heap} {R : RP} {X : XP} (k : RunC Try.prog T0 zvbQ_c ⟨[v0, U, U, U, U, U, U], [], h, none⟩ (bodyQ Try.prog T0 [(2, none)] R X)) :
 Runs Try.prog T0 (.fn 66) [v0] h R X := Runs.fn zvbQ_t rfl k
abbrev fn_zbQ : FuncId := 67
def zbQ_l0 : ACode :=
 (.seq (.region [
 o1 9 (.bin .lss (so (.binOp .lss 3 (tm 8) (tm 7) 3) 0) (tm 8) (tm 7))]) (.seq (.cond (tm 9)
 .skip
 (.exit 0)) (.seq (.block 1 (.seq (.region [
 o1 10 (.indexSl 1 (tm 6) (tm 8)),
 o1 11 (.load none (tm 10)),
 o1 5 (.mov (tm 11))]) (.seq (.region [
 o1 12 (.mov (tm 5)),
 o1 13 (.mov (tm 3)),
 o1 14 (.bin .neq (so (.binOp .neq 3 (tm 12) (tm 13) 3) 4) (tm 12) (tm 13))]) (.cond (tm 14)
 (.seq (.region [
 o1 15 (.mov (tm 5)),
 o1 2 (.mov (tm 15))]) .ret)
 .skip)))) (.region [
 o1 16 (.bin .add (so (.binOp .add 3 (tm 8) (.const (.int .i64 1)) 3) 3) (tm 8) (.const (.int .i64 1))),
 o1 8 (.mov (tm 16))]))))
def zbQ_c : ACode :=
 (.seq (.region [
 o1 2 (.mov k0)]) (.seq (.region [
 o1 3 (.mov k0)]) (.seq (.seq (.region [
 o1 6 (.mov (tm 0)),
 o1 7 (.lenSl (tm 6)),
 o1 8 (.mov k0)]) (.block 0 (.loop zbQ_l0))) (.seq (.region [
 o1 17 (.mov (tm 3)),
 o1 2 (.mov (tm 17))]) .ret))))
def zbQ : AFunc := ⟨18, [(2, none)], zbQ_c, none⟩
theorem zbQ_t0 : tableOf Try.prog 67 = some zbQ := by kernel_rfl
theorem zbQ_t : T0 67 = some zbQ := withKept_t rfl (withTrue_t rfl zbQ_t0)
theorem zbQ_runs {v0 : Value} {h : Heap} {R : RP} {X : XP} (k : RunC Try.prog T0 zbQ_c ⟨[v0, U, U, U, U, U, U, U, U, U, U, U, U, U, U, U, U, U], [], h, none⟩ (bodyQ Try.prog T0 [(2, none)] R X)) :
 Runs Try.prog T0 (.fn 67) [v0] h R X := Runs.fn zbQ_t rfl k
abbrev zbQ_l0_M : List Nat := [0, 0, 1, 0, 0, 1, 0, 0, 2, 1, 1, 1, 1, 1, 1, 1, 1, 0]
abbrev fn_zaQ : FuncId := 68
def zaQ_c : ACode :=
 (.seq (.region [
 o1 4 (.mov k0)]) (.seq (.region [
 o1 7 (.mov (tm 0)),
 o1 8 (.callV (.func 74) [(tm 7)]),
 o1 5 (.mov (tm 8))]) (.seq (.region [
 o1 9 (.mov (tm 1)),
 o1 10 (.callV (.func 74) [(tm 9)]),
 o1 6 (.mov (tm 10))]) (.seq (.seq (.region [
 o1 11 (.mov (tm 5))]) (.cond (tm 11)
 (.seq (.seq (.region [
 o1 12 (.mov (tm 6))]) (.cond (tm 12)
 (.seq (.region [
 o1 4 (.mov k0)]) .ret)
 .skip)) (.seq (.region [
 o1 4 (.mov (.const (.int .i64 (-1))))]) .ret))
 .skip)) (.seq (.seq (.region [
 o1 13 (.mov (tm 6))]) (.cond (tm 13)
 (.seq (.region [
 o1 4 (.mov (.const (.int .i64 1)))]) .ret)
 .skip)) (.seq (.seq (.region [
 o1 14 (.mov (tm 0)),
 o1 15 (.mov (tm 1)),
 o1 16 (.bin .lss (so (.binOp .lss 3 (tm 14) (tm 15) 3) 4) (tm 14) (tm 15))]) (.cond (tm 16)
 (.seq (.region [
 o1 4 (.mov (.const (.int .i64 (-1))))]) .ret)
 .skip)) (.seq (.seq (.region [
 o1 17 (.mov (tm 0)),
 o1 18 (.mov (tm 1)),
 o1 19 (.bin .gtr (so (.binOp .gtr 3 (tm 17) (tm 18) 3) 4) (tm 17) (tm 18))]) (.cond (tm 19)
 (.seq (.region [
 o1 4 (.mov (.const (.int .i64 1)))]) .ret)
 .skip)) (.seq (.region [
 o1 4 (.mov k0)]) .ret))))))))
def zaQ : AFunc := ⟨20, [(4, none)], zaQ_c, none⟩
theorem zaQ_t0 : tableOf Try.prog 68 = some zaQ := by kernel_rfl
theorem zaQ_t : T0 68 = some zaQ := withKept_t rfl (withTrue_t rfl zaQ_t0)
theorem zaQ_runs {v0 v1 : Value} {h : Heap} {R : RP} {X : XP} (k : RunC Try.prog T0 zaQ_c ⟨[v0, v1, U, U, U, U, U, U, U, U, U, U, U, U, U, U, U, U, U, U], [], h, none⟩ (bodyQ Try.prog T0 [(4, none)] R X)) :
 Runs Try.prog T0 (.fn 68) [v0, v1] h R X := Runs.fn zaQ_t rfl k
abbrev fn_zwQ : FuncId := 70
def zwQ_ra0 : Code := (rangeParts (subCode ((Try.prog.funcs[70]?).bind (·.body)) [true, false, true, false])).1
def zwQ_rb0 : Code := (rangeParts (subCode ((Try.prog.funcs[70]?).bind (·.body)) [true, false, true, false])).2
def zwQ_a0 : ACode :=
 (.region [
 o1 5 (.mov (tm 7))])
def zwQ_b0 : ACode :=
 (.block 1 (.region [
 o1 8 (.load none (tm 2)),
 o1 9 (.mov (tm 5)),
 o1 10 (.buildSlice 3 [(.int .i64 0)] 1 [(0, 1, (tm 9))]),
 o1 11 (.append 3 1 8 [(.int .i64 0)] false (tm 8) (tm 10)),
 o3 (.store 1 (tm 2) (tm 11))]))
theorem zwQ_ca0 : comp Try.prog zwQ_ra0 = some zwQ_a0 := by kernel_rfl
theorem zwQ_cb0 : comp Try.prog zwQ_rb0 = some zwQ_b0 := by kernel_rfl
theorem zwQ_na0 : noDefer zwQ_ra0 = true := by kernel_rfl
theorem zwQ_nb0 : noDefer zwQ_rb0 = true := by kernel_rfl
def zwQ_c : ACode :=
 (.seq (.region [
 o1 2 (.box 78 (tm 0)),
 o1 4 (.mov (.const (.slice none 0 0)))]) (.seq (.seq (.region [
 o1 6 (.mov (tm 1))]) (.block 0 (.rangeFunc (tm 6) [7] zwQ_ra0 zwQ_rb0))) (.seq (.region [
 o1 12 (.load none (tm 2)),
 o1 4 (.mov (tm 12))]) .ret)))
def zwQ : AFunc := ⟨13, [(4, none)], zwQ_c, none⟩
theorem zwQ_t0 : tableOf Try.prog 70 = some zwQ := by kernel_rfl
theorem zwQ_t : T0 70 = some zwQ := withKept_t rfl (withTrue_t rfl zwQ_t0)
theorem zwQ_runs {v0 v1 : Value} {h : Heap} {R : RP} {X : XP} (k : RunC Try.prog T0 zwQ_c ⟨[v0, v1, U, U, U, U, U, U, U, U, U, U, U], [], h, none⟩ (bodyQ Try.prog T0 [(4, none)] R X)) :
 Runs Try.prog T0 (.fn 70) [v0, v1] h R X := Runs.fn zwQ_t rfl k
abbrev fn_ztQ : FuncId := 71
def ztQ_l0 : ACode :=
 (.seq (.region [
 o1 6 (.nextMap (tm 5)),
 o1 7 (.extract 0 (tm 6))]) (.seq (.cond (tm 7)
 .skip
 (.exit 0)) (.block 1 (.seq (.region [
 o1 8 (.entryMap (tm 5)),
 o1 9 (.extract 0 (tm 8)),
 o1 3 (.mov (tm 9))]) (.seq (.region [
 o1 10 (.mov (tm 0)),
 o1 11 (.mov (tm 3)),
 o1 12 (.callV (tm 10) [(tm 11)]),
 o1 13 (.raw (so (.unOp .not 4 (tm 12)) 4))]) (.cond (tm 13)
 .ret
 .skip))))))
def ztQ_c : ACode :=
 (.seq (.region [
 o1 4 (.load none (tm 1)),
 o1 5 (.rangeMap (tm 4))]) (.block 0 (.loop ztQ_l0)))
def ztQ : AFunc := ⟨14, [], ztQ_c, none⟩
theorem ztQ_t0 : tableOf Try.prog 71 = some ztQ := by kernel_rfl
theorem ztQ_t : T0 71 = some ztQ := withKept_t rfl (withTrue_t rfl ztQ_t0)
theorem ztQ_runs {v0 v1 : Value} {h : Heap} {R : RP} {X : XP} (k : RunC Try.prog T0 ztQ_c ⟨[v0, v1, U, U, U, U, U, U, U, U, U, U, U, U], [], h, none⟩ (bodyQ Try.prog T0 [] R X)) :
 Runs Try.prog T0 (.fn 71) [v0, v1] h R X := Runs.fn ztQ_t rfl k
abbrev ztQ_l0_M : List Nat := [0, 0, 0, 1, 0, 0, 1, 1, 1, 1, 1, 1, 1, 1]
abbrev fn_zfQ : FuncId := 72
def zfQ_l0 : ACode :=
 (.block 1 (.seq (.region [
 o1 12 (.mov (tm 7)),
 o1 13 (.bin .mul (so (.binOp .mul 3 (.const (.int .i64 2)) (tm 12) 3) 3) (.const (.int .i64 2)) (tm 12)),
 o1 14 (.bin .add (so (.binOp .add 3 (tm 13) (.const (.int .i64 1)) 3) 3) (tm 13) (.const (.int .i64 1))),
 o1 8 (.mov (tm 14))]) (.seq (.seq (.region [
 o1 15 (.mov (tm 8)),
 o1 16 (.mov (tm 2)),
 o1 17 (.bin .geq (so (.binOp .geq 3 (tm 15) (tm 16) 3) 4) (tm 15) (tm 16)),
 o1 18 (.mov (tm 17)),
 o5 19 (.mov (tm 8)) 18,
 o5 20 (.bin .lss (so (.binOp .lss 3 (tm 19) k0 3) 4) (tm 19) k0) 18,
 o1 21 (.pick (tm 18) (.const (.bool true)) (tm 20))]) (.cond (tm 21)
 (.exit 0)
 .skip)) (.seq (.region [
 o1 22 (.mov (tm 8)),
 o1 9 (.mov (tm 22))]) (.seq (.seq (.region [
 o1 23 (.mov (tm 8)),
 o1 24 (.bin .add (so (.binOp .add 3 (tm 23) (.const (.int .i64 1)) 3) 3) (tm 23) (.const (.int .i64 1))),
 o1 10 (.mov (tm 24))]) (.seq (.region [
 o1 25 (.mov (tm 10)),
 o1 26 (.mov (tm 2)),
 o1 27 (.bin .lss (so (.binOp .lss 3 (tm 25) (tm 26) 3) 4) (tm 25) (tm 26)),
 o1 28 (.mov (tm 27)),
 o4 29 (.mov (tm 0)) 28,
 o4 30 (.mov (tm 10)) 28,
 o4 31 (.mov (tm 8)) 28,
 o4 32 (.invoke (tm 29) "Less" [(tm 30), (tm 31)]) 28,
 o1 33 (.pick (tm 28) (tm 32) (.const (.bool false)))]) (.cond (tm 33)
 (.region [
 o1 34 (.mov (tm 10)),
 o1 9 (.mov (tm 34))])
 .skip))) (.seq (.seq (.region [
 o1 35 (.mov (tm 0)),
 o1 36 (.mov (tm 9)),
 o1 37 (.mov (tm 7)),
 o1 38 (.invoke (tm 35) "Less" [(tm 36), (tm 37)]),
 o1 39 (.raw (so (.unOp .not 4 (tm 38)) 4))]) (.cond (tm 39)
 (.exit 0)
 .skip)) (.seq (.region [
 o1 40 (.mov (tm 0)),
 o1 41 (.mov (tm 7)),
 o1 42 (.mov (tm 9)),
 o1 43 (.invoke (tm 40) "Swap" [(tm 41), (tm 42)])]) (.region [
 o1 44 (.mov (tm 9)),
 o1 7 (.mov (tm 44))]))))))))
def zfQ_c : ACode :=
 (.seq (.region [
 o1 6 (.mov (.const (.bool false)))]) (.seq (.region [
 o1 11 (.mov (tm 1)),
 o1 7 (.mov (tm 11))]) (.seq (.block 0 (.loop zfQ_l0)) (.seq (.region [
 o1 45 (.mov (tm 7)),
 o1 46 (.mov (tm 1)),
 o1 47 (.bin .gtr (so (.binOp .gtr 3 (tm 45) (tm 46) 3) 4) (tm 45) (tm 46)),
 o1 6 (.mov (tm 47))]) .ret))))
def zfQ : AFunc := ⟨48, [(6, none)], zfQ_c, none⟩
theorem zfQ_t0 : tableOf Try.prog 72 = some zfQ := by kernel_rfl
theorem zfQ_t : T0 72 = some zfQ := withKept_t rfl (withTrue_t rfl zfQ_t0)
theorem zfQ_runs {v0 v1 v2 : Value} {h : Heap} {R : RP} {X : XP} (k : RunC Try.prog T0 zfQ_c ⟨[v0, v1, v2, U, U, U, U, U, U, U, U, U, U, U, U, U, U, U, U, U, U, U, U, U, U, U, U, U, U, U, U, U, U, U, U, U, U, U, U, U, U, U, U, U, U, U, U, U], [], h, none⟩ (bodyQ Try.prog T0 [(6, none)] R X)) :
 Runs Try.prog T0 (.fn 72) [v0, v1, v2] h R X := Runs.fn zfQ_t rfl k
abbrev zfQ_l0_M : List Nat := [0, 0, 0, 0, 0, 0, 0, 2, 1, 1, 1, 0, 1, 1, 1, 1, 1, 1, 1, 1, 1, 1, 1, 1, 1, 1, 1, 1, 1, 1, 1, 1, 1, 1, 1, 1, 1, 1, 1, 1, 1, 1, 1, 1, 1, 0, 0, 0]
abbrev fn_zvQ : FuncId := 73
def zvQ_l0 : ACode :=
 (.seq (.region [
 o1 7 (.nextMap (tm 6)),
 o1 8 (.extract 0 (tm 7))]) (.seq (.cond (tm 8)
 .skip
 (.exit 0)) (.block 1 (.seq (.region [
 o1 9 (.entryMap (tm 6)),
 o1 10 (.extract 1 (tm 9)),
 o1 4 (.mov (tm 10))]) (.seq (.region [
 o1 11 (.mov (tm 0)),
 o1 12 (.mov (tm 4)),
 o1 13 (.callV (tm 11) [(tm 12)]),
 o1 14 (.raw (so (.unOp .not 4 (tm 13)) 4))]) (.cond (tm 14)
 .ret
 .skip))))))
def zvQ_c : ACode :=
 (.seq (.region [
 o1 5 (.load none (tm 1)),
 o1 6 (.rangeMap (tm 5))]) (.block 0 (.loop zvQ_l0)))
def zvQ : AFunc := ⟨15, [], zvQ_c, none⟩
theorem zvQ_t0 : tableOf Try.prog 73 = some zvQ := by kernel_rfl
theorem zvQ_t : T0 73 = some zvQ := withKept_t rfl (withTrue_t rfl zvQ_t0)
theorem zvQ_runs {v0 v1 : Value} {h : Heap} {R : RP} {X : XP} (k : RunC Try.prog T0 zvQ_c ⟨[v0, v1, U, U, U, U, U, U, U, U, U, U, U, U, U], [], h, none⟩ (bodyQ Try.prog T0 [] R X)) :
 Runs Try.prog T0 (.fn 73) [v0, v1] h R X := Runs.fn zvQ_t rfl k
abbrev zvQ_l0_M : List Nat := [0, 0, 0, 0, 1, 0, 0, 1, 1, 1, 1, 1, 1, 1, 1]
abbrev fn_zcQ : FuncId := 74
def zcQ_c : ACode :=
 (.seq (.region [
 o1 2 (.mov (.const (.bool false)))]) (.seq (.region [
 o1 3 (.mov (tm 0)),
 o1 4 (.mov (tm 0)),
 o1 5 (.bin .neq (so (.binOp .neq 3 (tm 3) (tm 4) 3) 4) (tm 3) (tm 4)),
 o1 2 (.mov (tm 5))]) .ret))
def zcQ : AFunc := ⟨6, [(2, none)], zcQ_c, none⟩
theorem zcQ_t0 : tableOf Try.prog 74 = some zcQ := by kernel_rfl
theorem zcQ_t : T0 74 = some zcQ := withKept_t rfl (withTrue_t rfl zcQ_t0)
theorem zcQ_runs {v0 : Value} {h : Heap} {R : RP} {X : XP} (k : RunC Try.prog T0 zcQ_c ⟨[v0, U, U, U, U, U], [], h, none⟩ (bodyQ Try.prog T0 [(2, none)] R X)) :
 Runs Try.prog T0 (.fn 74) [v0] h R X := Runs.fn zcQ_t rfl k
abbrev fn_zrbQ : FuncId := 92
def zrbQ_c : ACode :=
 (.seq (.region [
 o1 6 (.mov (.const (.bool false)))]) (.seq (.regionD [
 o1 7 (.mov (tm 0)),
 o1 8 (.mov (tm 1)),
 o1 9 (.indexSl 1 (tm 7) (tm 8)),
 o1 10 (.load none (tm 9)),
 o1 11 (.mov (tm 0)),
 o1 12 (.mov (tm 2)),
 o1 13 (.indexSl 1 (tm 11) (tm 12)),
 o1 14 (.load none (tm 13)),
 o2 15 (.bin .lss (so (.binOp .lss 3 (tm 10) (tm 14) 3) 4) (tm 10) (tm 14)),
 o2 6 (.mov (tm 15))]) .ret))
def zrbQ : AFunc := ⟨16, [(6, none)], zrbQ_c, none⟩
theorem zrbQ_t0 : tableOf Try.prog 92 = some zrbQ := by kernel_rfl
theorem zrbQ_t : T0 92 = some zrbQ := withKept_t rfl (withTrue_t rfl zrbQ_t0)
theorem zrbQ_runs {v0 v1 v2 : Value} {h : Heap} {R : RP} {X : XP} (k : RunC Try.prog T0 zrbQ_c ⟨[v0, v1, v2, U, U, U, U, U, U, U, U, U, U, U, U, U], [], h, none⟩ (bodyQ Try.prog T0 [(6, none)] R X)) :
 Runs Try.prog T0 (.fn 92) [v0, v1, v2] h R X := Runs.fn zrbQ_t rfl k
abbrev fn_ztbQ : FuncId := 93
def ztbQ_c : ACode :=
 (.regionD [
 o1 6 (.mov (tm 0)),
 o1 7 (.mov (tm 1)),
 o1 8 (.mov (tm 0)),
 o1 9 (.mov (tm 2)),
 o1 10 (.mov (tm 0)),
 o1 11 (.mov (tm 2)),
 o1 12 (.indexSl 1 (tm 10) (tm 11)),
 o1 13 (.load none (tm 12)),
 o1 14 (.mov (tm 0)),
 o1 15 (.mov (tm 1)),
 o1 16 (.indexSl 1 (tm 14) (tm 15)),
 o1 17 (.load none (tm 16)),
 o1 18 (.indexSl 1 (tm 6) (tm 7)),
 ⟨none, .store 1 (tm 18) (tm 13), none, [(some 9, .mov (tm 2), none), (some 8, .mov (tm 0), none)], false⟩,
 o2 19 (.indexSl 1 (tm 8) (tm 9)),
 ⟨none, .store 1 (tm 19) (tm 17), none, [], true⟩])
def ztbQ : AFunc := ⟨20, [], ztbQ_c, none⟩
theorem ztbQ_t0 : tableOf Try.prog 93 = some ztbQ := by kernel_rfl
theorem ztbQ_t : T0 93 = some ztbQ := withKept_t rfl (withTrue_t rfl ztbQ_t0)
theorem ztbQ_runs {v0 v1 v2 : Value} {h : Heap} {R : RP} {X : XP} (k : RunC Try.prog T0 ztbQ_c ⟨[v0, v1, v2, U, U, U, U, U, U, U, U, U, U, U, U, U, U, U, U, U], [], h, none⟩ (bodyQ Try.prog T0 [] R X)) :
 Runs Try.prog T0 (.fn 93) [v0, v1, v2] h R X := Runs.fn ztbQ_t rfl k
abbrev fn_zsbQ : FuncId := 94
def zsbQ_c : ACode :=
 (.seq (.region [
 o1 2 (.mov (.const .nilIface))]) (.seq (.region [
 o1 5 (.mov (tm 0)),
 o1 6 (.nilCheck (tm 5)),
 o1 7 (.load none (tm 6)),
 o1 8 (.lenSl (tm 7)),
 o1 9 (.bin .sub (so (.binOp .sub 3 (tm 8) (.const (.int .i64 1)) 3) 3) (tm 8) (.const (.int .i64 1))),
 o1 3 (.mov (tm 9))]) (.seq (.region [
 o1 10 (.mov (tm 0)),
 o1 11 (.nilCheck (tm 10)),
 o1 12 (.load none (tm 11)),
 o1 13 (.mov (tm 3)),
 o1 14 (.indexSl 1 (tm 12) (tm 13)),
 o1 15 (.load none (tm 14)),
 o1 4 (.mov (tm 15))]) (.seq (.region [
 o1 16 (.mov (tm 0)),
 o1 17 (.mov (tm 0)),
 o1 18 (.nilCheck (tm 17)),
 o1 19 (.load none (tm 18)),
 o1 20 (.mov (tm 3)),
 o1 21 (.sliceSl 1 (tm 19) none (some (tm 20)) none),
 o1 22 (.nilCheck (tm 16)),
 o3 (.store 1 (tm 22) (tm 21))]) (.seq (.region [
 o1 23 (.mov (tm 4)),
 o1 24 (.mkIface 3 (tm 23)),
 o1 2 (.mov (tm 24))]) .ret)))))
def zsbQ : AFunc := ⟨25, [(2, none)], zsbQ_c, none⟩
theorem zsbQ_t0 : tableOf Try.prog 94 = some zsbQ := by kernel_rfl
theorem zsbQ_t : T0 94 = some zsbQ := withKept_t rfl (withTrue_t rfl zsbQ_t0)
theorem zsbQ_runs {v0 : Value} {h : Heap} {R : RP} {X : XP} (k : RunC Try.prog T0 zsbQ_c ⟨[v0, U, U, U, U, U, U, U, U, U, U, U, U, U, U, U, U, U, U, U, U, U, U, U, U], [], h, none⟩ (bodyQ Try.prog T0 [(2, none)] R X)) :
 Runs Try.prog T0 (.fn 94) [v0] h R X := Runs.fn zsbQ_t rfl k
end Go.Proofs.Ytmhnddkpiefkhaa.A

namespace Go.Proofs.Ytmhnddkpiefkhaa.A
open Go Go.Vm
set_option maxRecDepth 10000
set_option linter.unusedVariables false
theorem l32 {l : List UInt8} (h : l.length = 32) : L32 (bcells l) := ⟨by simpa [bcells] using h⟩
end Go.Proofs.Ytmhnddkpiefkhaa.A

namespace Go.Proofs.Ytmhnddkpiefkhaa.A
open Go Go.Vm
set_option maxRecDepth 10000
set_option linter.unusedVariables false
structure Hd where
  chain : List UInt8
  height : Int
  time : Int
  prev : List UInt8
  vals : List UInt8
  next : List UInt8
  app : List UInt8
structure Hd.ok (x : Hd) : Prop where
  prev : x.prev.length = 32
  vals : x.vals.length = 32
  next : x.next.length = 32
  app : x.app.length = 32
abbrev Hd.cells (x : Hd) : List Value := .string ⟨⟨x.chain⟩⟩ :: .int .i64 x.height :: .int .i64 x.time :: (bcells x.prev ++ (bcells x.vals ++ (bcells x.next ++ bcells x.app)))
end Go.Proofs.Ytmhnddkpiefkhaa.A

namespace Go.Proofs.Ytmhnddkpiefkhaa.A
open Go Go.Vm
set_option maxRecDepth 10000
set_option linter.unusedVariables false
structure Val where
  k0 : UInt8
  k1 : UInt8
  k2 : UInt8
  k3 : UInt8
  p : Int
deriving DecidableEq
abbrev Val.key (v : Val) : List UInt8 := [v.k0, v.k1, v.k2, v.k3]
abbrev Val.cells (v : Val) : List Value := [.int .u8 v.k0.toNat, .int .u8 v.k1.toNat, .int .u8 v.k2.toNat, .int .u8 v.k3.toNat, .int .i64 v.p]
def Val.of (l : List UInt8) (p : Int) : Val := ⟨l.getD 0 0, l.getD 1 0, l.getD 2 0, l.getD 3 0, p⟩
def vcells (l : List Val) : List Value := l.flatMap Val.cells
theorem vcells_nil : vcells [] = [] := rfl
theorem vcells_cons (v : Val) (l : List Val) : vcells (v :: l) = v.cells ++ vcells l := rfl
theorem vcells_len : ∀ l : List Val, (vcells l).length = l.length * 5
  | [] => rfl
  | v :: l => by rw [vcells_cons, List.length_append, vcells_len l]; simp; omega
theorem vcells_one : ∀ l : List Val, (vcells l).all Value.oneCell' = true
  | [] => rfl
  | v :: l => by rw [vcells_cons, List.all_append, vcells_one l]; rfl
end Go.Proofs.Ytmhnddkpiefkhaa.A

namespace Go.Proofs.Ytmhnddkpiefkhaa.A
open Go Go.Vm
set_option maxRecDepth 10000
set_option linter.unusedVariables false
theorem Rd.block_lt {h : Heap} {size n : Nat} {v : Value} {c : List Value} (hv : Rd h size v c n) {i : Nat} (hi : blockOf v i) : i < h.n := by
  obtain ⟨a, cap, rfl, _, hc⟩ := hv
  cases a with
  | none => exact hi.elim
  | some a =>
    obtain ⟨h1, h2⟩ := hi
    obtain ⟨b, o, sp, e, hb, _⟩ := hc h2
    cases e
    subst h1
    exact hb
end Go.Proofs.Ytmhnddkpiefkhaa.A
