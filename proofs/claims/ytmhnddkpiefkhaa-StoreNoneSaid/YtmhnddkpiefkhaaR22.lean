/- Functions of the program, as the machine has them: written by a program of mine (GenVm.lean), each held against the given program by the kernel. -/
import Derived.Test.YtmhnddkpiefkhaaRows
import Derived.Test.YtmhnddkpiefkhaaVJ
set_option maxRecDepth 100000
set_option linter.unusedVariables false
namespace Go.Proofs.Ytmhnddkpiefkhaa.R
open Go Go.Vm

abbrev ty_internal_abi_BoundsErrorCode : TypeId := 6
abbrev ty_runtime_boundsError : TypeId := 8
abbrev ty_runtime_errorString : TypeId := 10
abbrev ty_runtime_plainError : TypeId := 11
abbrev ty_runtime_errorAddressString : TypeId := 14
abbrev ty_internal_runtime_maps_unhashableTypeError : TypeId := 19
abbrev ty_api_Errno : TypeId := 24
abbrev ty_api_Hash : TypeId := 28
abbrev ty_api_Header : TypeId := 30
abbrev ty_api_Commit : TypeId := 33
abbrev ty_api_Block : TypeId := 36
abbrev ty_api_Kept : TypeId := 47
abbrev ty_landfalllaw22_Act : TypeId := 53
abbrev ty_landfallref22_Store : TypeId := 69
abbrev ty_store_Store : TypeId := 75
abbrev ty_store_kept : TypeId := 82
abbrev ty_store_heights : TypeId := 101
abbrev ty_iter_Seq_int_ : TypeId := 104
abbrev ty_api_Key : TypeId := 111
abbrev ty_api_Validator : TypeId := 113
abbrev ty_api_Vote : TypeId := 117
abbrev ty_iter_Seq__store_kept_ : TypeId := 119
abbrev ty_container_heap_Interface : TypeId := 126
abbrev ty_runtime_TypeAssertionError : TypeId := 134
abbrev ty_runtime_PanicNilError : TypeId := 137
abbrev ty_internal_abi_TFlag : TypeId := 139
abbrev ty_internal_abi_Kind : TypeId := 140
abbrev ty_internal_abi_NameOff : TypeId := 143
abbrev ty_internal_abi_TypeOff : TypeId := 144
abbrev ty_internal_abi_Type : TypeId := 146
instance : IsIface Try.prog 20 := ⟨by kernel_rfl⟩
instance : IsIface Try.prog 125 := ⟨by kernel_rfl⟩
instance : IsIface Try.prog 126 := ⟨by kernel_rfl⟩
/-- functions that are known to come to true -/
abbrev prims : List FuncId := []
abbrev kepts : List FuncId := []
noncomputable def T0 : Table := withKept (withTrue Try.prog prims) kepts
instance : IsBoolT Try.prog 4 := ⟨by kernel_rfl⟩
instance : TLeaves Try.prog 7 (.i .i64 :: (.i .i64 :: (.b :: (.i .u8 :: [])))) := ⟨by kernel_rfl, by kernel_rfl, by kernel_rfl⟩
instance : TLeaves Try.prog 8 (.i .i64 :: (.i .i64 :: (.b :: (.i .u8 :: [])))) := ⟨by kernel_rfl, by kernel_rfl, by kernel_rfl⟩
instance : TLeaves Try.prog 27 (u8s 32) := ⟨by kernel_rfl, by kernel_rfl, by kernel_rfl⟩
instance : TLeaves Try.prog 28 (u8s 32) := ⟨by kernel_rfl, by kernel_rfl, by kernel_rfl⟩
instance : TLeaves Try.prog 29 (.s :: (.i .i64 :: (.i .i64 :: (u8s 32 ++ (u8s 32 ++ (u8s 32 ++ (u8s 32))))))) := ⟨by kernel_rfl, by kernel_rfl, by kernel_rfl⟩
instance : TLeaves Try.prog 30 (.s :: (.i .i64 :: (.i .i64 :: (u8s 32 ++ (u8s 32 ++ (u8s 32 ++ (u8s 32))))))) := ⟨by kernel_rfl, by kernel_rfl, by kernel_rfl⟩
instance : TLeaves Try.prog 46 (.i .i64 :: (.b :: (.b :: []))) := ⟨by kernel_rfl, by kernel_rfl, by kernel_rfl⟩
instance : TLeaves Try.prog 47 (.i .i64 :: (.b :: (.b :: []))) := ⟨by kernel_rfl, by kernel_rfl, by kernel_rfl⟩
instance : TLeaves Try.prog 110 (u8s 4) := ⟨by kernel_rfl, by kernel_rfl, by kernel_rfl⟩
instance : TLeaves Try.prog 111 (u8s 4) := ⟨by kernel_rfl, by kernel_rfl, by kernel_rfl⟩
instance : TLeaves Try.prog 112 (u8s 4 ++ (.i .i64 :: [])) := ⟨by kernel_rfl, by kernel_rfl, by kernel_rfl⟩
instance : TLeaves Try.prog 113 (u8s 4 ++ (.i .i64 :: [])) := ⟨by kernel_rfl, by kernel_rfl, by kernel_rfl⟩
instance : TLeaves Try.prog 116 (.i .i64 :: (.i .u64 :: [])) := ⟨by kernel_rfl, by kernel_rfl, by kernel_rfl⟩
instance : TLeaves Try.prog 117 (.i .i64 :: (.i .u64 :: [])) := ⟨by kernel_rfl, by kernel_rfl, by kernel_rfl⟩

/-! 3 landfall/landfalllaw22.StoreKnown -/
abbrev fn_landfalllaw22_StoreKnown : FuncId := 3
noncomputable def landfalllaw22_StoreKnown_c : ACode :=
  (.seq (.region [
      ⟨(some 0), .mov (.const (.bool false)), none, [], false⟩]) (.seq (.region [
      ⟨(some 12), .callV (.func 8) [], none, [], false⟩,
      ⟨(some 1), .mov (.tmp 12), none, [], false⟩]) (.seq (.region [
      ⟨(some 14), .callV (.func 9) [(.const (.int .i64 0))], none, [], false⟩,
      ⟨(some 13), .mov (.tmp 14), none, [], false⟩,
      ⟨(some 15), .extract 0 (.tmp 13), none, [], false⟩,
      ⟨(some 16), .extract 1 (.tmp 13), none, [], false⟩,
      ⟨(some 2), .mov (.tmp 15), none, [], false⟩,
      ⟨(some 3), .mov (.tmp 16), none, [], false⟩]) (.seq (.region [
      ⟨(some 18), .callV (.func 9) [(.const (.int .i64 4097))], none, [], false⟩,
      ⟨(some 17), .mov (.tmp 18), none, [], false⟩,
      ⟨(some 19), .extract 0 (.tmp 17), none, [], false⟩,
      ⟨(some 20), .extract 1 (.tmp 17), none, [], false⟩,
      ⟨(some 4), .mov (.tmp 19), none, [], false⟩,
      ⟨(some 5), .mov (.tmp 20), none, [], false⟩]) (.seq (.seq (.region [
      ⟨(some 21), .mov (.tmp 1), none, [], false⟩,
      ⟨(some 22), .eq .ptr false (so (.binOp .eql 22 (.tmp 21) (.const (.pointer none)) 22) 4) (.tmp 21) (.const (.pointer none)), none, [], false⟩,
      ⟨(some 23), .mov (.tmp 22), none, [], false⟩,
      ⟨(some 24), .mov (.tmp 3), (some (23, false)), [], false⟩,
      ⟨(some 25), .bin .neq (so (.binOp .neq 24 (.tmp 24) (.const (.int .i64 3)) 24) 4) (.tmp 24) (.const (.int .i64 3)), (some (23, false)), [], false⟩,
      ⟨(some 26), .pick (.tmp 23) (.const (.bool true)) (.tmp 25), none, [], false⟩,
      ⟨(some 27), .mov (.tmp 26), none, [], false⟩,
      ⟨(some 28), .mov (.tmp 5), (some (27, false)), [], false⟩,
      ⟨(some 29), .bin .neq (so (.binOp .neq 24 (.tmp 28) (.const (.int .i64 3)) 24) 4) (.tmp 28) (.const (.int .i64 3)), (some (27, false)), [], false⟩,
      ⟨(some 30), .pick (.tmp 27) (.const (.bool true)) (.tmp 29), none, [], false⟩]) (.cond (.tmp 30)
    (.seq (.region [
      ⟨(some 0), .mov (.const (.bool false)), none, [], false⟩]) .ret)
    .skip)) (.seq (.region [
      ⟨(some 32), .mov (.tmp 1), none, [], false⟩,
      ⟨(some 33), .callV (.func 10) [(.tmp 32), (.const (.int .i64 7))], none, [], false⟩,
      ⟨(some 31), .mov (.tmp 33), none, [], false⟩,
      ⟨(some 34), .extract 0 (.tmp 31), none, [], false⟩,
      ⟨(some 35), .extract 1 (.tmp 31), none, [], false⟩,
      ⟨(some 6), .alloc 36 ((.string ⟨⟨[]⟩⟩) :: ((.int .i64 0) :: ((.int .i64 0) :: (z32 ++ (z32 ++ (z32 ++ (z32 ++ ((.int .i64 0) :: (z32 ++ [(.slice none 0 0), (.slice none 0 0)]))))))))), none, [], false⟩,
      ⟨none, .store 166 (.tmp 6) (.tmp 34), none, [], false⟩,
      ⟨(some 7), .mov (.tmp 35), none, [], false⟩]) (.seq (.region [
      ⟨(some 37), .mov (.tmp 1), none, [], false⟩,
      ⟨(some 38), .callV (.func 10) [(.tmp 37), (.const (.int .i64 5))], none, [], false⟩,
      ⟨(some 36), .mov (.tmp 38), none, [], false⟩,
      ⟨(some 39), .extract 0 (.tmp 36), none, [], false⟩,
      ⟨(some 40), .extract 1 (.tmp 36), none, [], false⟩,
      ⟨(some 8), .alloc 36 ((.string ⟨⟨[]⟩⟩) :: ((.int .i64 0) :: ((.int .i64 0) :: (z32 ++ (z32 ++ (z32 ++ (z32 ++ ((.int .i64 0) :: (z32 ++ [(.slice none 0 0), (.slice none 0 0)]))))))))), none, [], false⟩,
      ⟨none, .store 166 (.tmp 8) (.tmp 39), none, [], false⟩,
      ⟨(some 9), .mov (.tmp 40), none, [], false⟩]) (.seq (.seq (.region [
      ⟨(some 41), .mov (.tmp 7), none, [], false⟩,
      ⟨(some 42), .raw (so (.unOp .not 4 (.tmp 41)) 4), none, [], false⟩,
      ⟨(some 43), .mov (.tmp 42), none, [], false⟩,
      ⟨(some 44), .fieldAddr 0 (.tmp 6), (some (43, false)), [], false⟩,
      ⟨(some 45), .fieldAddr 1 (.tmp 44), (some (43, false)), [], false⟩,
      ⟨(some 46), .load none (.tmp 45), (some (43, false)), [], false⟩,
      ⟨(some 47), .bin .neq (so (.binOp .neq 3 (.tmp 46) (.const (.int .i64 5)) 3) 4) (.tmp 46) (.const (.int .i64 5)), (some (43, false)), [], false⟩,
      ⟨(some 48), .pick (.tmp 43) (.const (.bool true)) (.tmp 47), none, [], false⟩,
      ⟨(some 49), .mov (.tmp 48), none, [], false⟩,
      ⟨(some 50), .mov (.tmp 9), (some (49, false)), [], false⟩,
      ⟨(some 51), .pick (.tmp 49) (.const (.bool true)) (.tmp 50), none, [], false⟩,
      ⟨(some 52), .mov (.tmp 51), none, [], false⟩,
      ⟨(some 53), .mov (.tmp 1), (some (52, false)), [], false⟩,
      ⟨(some 54), .callV (.func 11) [(.tmp 53), (.const (.int .i64 3)), (.const (.int .i64 7)), (.const (.int .i64 0))], (some (52, false)), [], false⟩,
      ⟨(some 55), .raw (so (.unOp .not 4 (.tmp 54)) 4), (some (52, false)), [], false⟩,
      ⟨(some 56), .pick (.tmp 52) (.const (.bool true)) (.tmp 55), none, [], false⟩,
      ⟨(some 57), .mov (.tmp 56), none, [], false⟩,
      ⟨(some 58), .mov (.tmp 1), (some (57, false)), [], false⟩,
      ⟨(some 59), .callV (.func 12) [(.tmp 58), (.const (.int .i64 3)), (.const (.bool true))], (some (57, false)), [], false⟩,
      ⟨(some 60), .bin .neq (so (.binOp .neq 24 (.tmp 59) (.const (.int .i64 0)) 24) 4) (.tmp 59) (.const (.int .i64 0)), (some (57, false)), [], false⟩,
      ⟨(some 61), .pick (.tmp 57) (.const (.bool true)) (.tmp 60), none, [], false⟩,
      ⟨(some 62), .mov (.tmp 61), none, [], false⟩,
      ⟨(some 63), .mov (.tmp 1), (some (62, false)), [], false⟩,
      ⟨(some 64), .callV (.func 12) [(.tmp 63), (.const (.int .i64 5)), (.const (.bool true))], (some (62, false)), [], false⟩,
      ⟨(some 65), .bin .neq (so (.binOp .neq 24 (.tmp 64) (.const (.int .i64 0)) 24) 4) (.tmp 64) (.const (.int .i64 0)), (some (62, false)), [], false⟩,
      ⟨(some 66), .pick (.tmp 62) (.const (.bool true)) (.tmp 65), none, [], false⟩,
      ⟨(some 67), .mov (.tmp 66), none, [], false⟩,
      ⟨(some 68), .mov (.tmp 1), (some (67, false)), [], false⟩,
      ⟨(some 69), .callV (.func 11) [(.tmp 68), (.const (.int .i64 4)), (.const (.int .i64 0)), (.const (.int .i64 7))], (some (67, false)), [], false⟩,
      ⟨(some 70), .raw (so (.unOp .not 4 (.tmp 69)) 4), (some (67, false)), [], false⟩,
      ⟨(some 71), .pick (.tmp 67) (.const (.bool true)) (.tmp 70), none, [], false⟩]) (.cond (.tmp 71)
    (.seq (.region [
      ⟨(some 0), .mov (.const (.bool false)), none, [], false⟩]) .ret)
    .skip)) (.seq (.region [
      ⟨(some 72), .mov (.tmp 1), none, [], false⟩,
      ⟨(some 73), .callV (.func 13) [(.tmp 72), (.const (.int .i64 5))], none, [], false⟩]) (.seq (.region [
      ⟨(some 75), .mov (.tmp 1), none, [], false⟩,
      ⟨(some 76), .callV (.func 14) [(.tmp 75), (.const (.int .i64 2))], none, [], false⟩,
      ⟨(some 74), .mov (.tmp 76), none, [], false⟩,
      ⟨(some 77), .extract 0 (.tmp 74), none, [], false⟩,
      ⟨(some 78), .extract 1 (.tmp 74), none, [], false⟩,
      ⟨(some 10), .alloc 36 ((.string ⟨⟨[]⟩⟩) :: ((.int .i64 0) :: ((.int .i64 0) :: (z32 ++ (z32 ++ (z32 ++ (z32 ++ ((.int .i64 0) :: (z32 ++ [(.slice none 0 0), (.slice none 0 0)]))))))))), none, [], false⟩,
      ⟨none, .store 166 (.tmp 10) (.tmp 77), none, [], false⟩,
      ⟨(some 11), .mov (.tmp 78), none, [], false⟩]) (.seq (.region [
      ⟨(some 79), .callV (.func 15) [], none, [], false⟩,
      ⟨(some 80), .mov (.tmp 79), none, [], false⟩,
      ⟨(some 81), .mov (.tmp 11), (some (80, true)), [], false⟩,
      ⟨(some 82), .raw (so (.unOp .not 4 (.tmp 81)) 4), (some (80, true)), [], false⟩,
      ⟨(some 83), .pick (.tmp 80) (.tmp 82) (.const (.bool false)), none, [], false⟩,
      ⟨(some 84), .mov (.tmp 83), none, [], false⟩,
      ⟨(some 85), .mov (.tmp 1), (some (84, true)), [], false⟩,
      ⟨(some 86), .callV (.func 17) [(.tmp 85)], (some (84, true)), [], false⟩,
      ⟨(some 87), .build [(.int .i64 0), (.bool false), (.bool false)] [(0, 1, (.const (.int .i64 5))), (1, 1, (.const (.bool true))), (2, 1, (.const (.bool true)))], (some (84, true)), [], false⟩,
      ⟨(some 88), .buildSlice 47 [(.int .i64 0), (.bool false), (.bool false)] 1 [(0, 3, (.tmp 87))], (some (84, true)), [], false⟩,
      ⟨(some 89), .callV (.func 16) [(.tmp 86), (.tmp 88)], (some (84, true)), [], false⟩,
      ⟨(some 90), .pick (.tmp 84) (.tmp 89) (.const (.bool false)), none, [], false⟩,
      ⟨(some 91), .mov (.tmp 90), none, [], false⟩,
      ⟨(some 92), .mov (.tmp 1), (some (91, true)), [], false⟩,
      ⟨(some 93), .callV (.func 12) [(.tmp 92), (.const (.int .i64 1)), (.const (.bool true))], (some (91, true)), [], false⟩,
      ⟨(some 94), .bin .eql (so (.binOp .eql 24 (.tmp 93) (.const (.int .i64 10)) 24) 4) (.tmp 93) (.const (.int .i64 10)), (some (91, true)), [], false⟩,
      ⟨(some 95), .pick (.tmp 91) (.tmp 94) (.const (.bool false)), none, [], false⟩,
      ⟨(some 96), .mov (.tmp 95), none, [], false⟩,
      ⟨(some 97), .mov (.tmp 1), (some (96, true)), [], false⟩,
      ⟨(some 98), .callV (.func 18) [(.tmp 97), (.const (.int .i64 1))], (some (96, true)), [], false⟩,
      ⟨(some 99), .bin .eql (so (.binOp .eql 24 (.tmp 98) (.const (.int .i64 10)) 24) 4) (.tmp 98) (.const (.int .i64 10)), (some (96, true)), [], false⟩,
      ⟨(some 100), .pick (.tmp 96) (.tmp 99) (.const (.bool false)), none, [], false⟩,
      ⟨(some 101), .mov (.tmp 100), none, [], false⟩,
      ⟨(some 102), .mov (.tmp 1), (some (101, true)), [], false⟩,
      ⟨(some 103), .callV (.func 11) [(.tmp 102), (.const (.int .i64 0)), (.const (.int .i64 0)), (.const (.int .i64 13))], (some (101, true)), [], false⟩,
      ⟨(some 104), .pick (.tmp 101) (.tmp 103) (.const (.bool false)), none, [], false⟩,
      ⟨(some 0), .mov (.tmp 104), none, [], false⟩]) .ret)))))))))))
noncomputable def landfalllaw22_StoreKnown : AFunc := ⟨105, [(0, none)], landfalllaw22_StoreKnown_c, none⟩
theorem landfalllaw22_StoreKnown_t0 : tableOf Try.prog 3 = some landfalllaw22_StoreKnown := by kernel_rfl
theorem landfalllaw22_StoreKnown_t : T0 3 = some landfalllaw22_StoreKnown := withKept_t rfl (withTrue_t rfl landfalllaw22_StoreKnown_t0)


/-! 8 landfall/landfalllaw22.first -/
abbrev fn_landfalllaw22_first : FuncId := 8
noncomputable def landfalllaw22_first_c : ACode :=
  (.seq (.region [
      ⟨(some 0), .mov (.const (.pointer none)), none, [], false⟩]) (.seq (.region [
      ⟨(some 4), .callV (.func 9) [(.const (.int .i64 3))], none, [], false⟩,
      ⟨(some 3), .mov (.tmp 4), none, [], false⟩,
      ⟨(some 5), .extract 0 (.tmp 3), none, [], false⟩,
      ⟨(some 6), .extract 1 (.tmp 3), none, [], false⟩,
      ⟨(some 1), .mov (.tmp 5), none, [], false⟩,
      ⟨(some 2), .mov (.tmp 6), none, [], false⟩]) (.seq (.seq (.region [
      ⟨(some 7), .mov (.tmp 2), none, [], false⟩,
      ⟨(some 8), .bin .neq (so (.binOp .neq 24 (.tmp 7) (.const (.int .i64 0)) 24) 4) (.tmp 7) (.const (.int .i64 0)), none, [], false⟩,
      ⟨(some 9), .mov (.tmp 8), none, [], false⟩,
      ⟨(some 10), .mov (.tmp 1), (some (9, false)), [], false⟩,
      ⟨(some 11), .eq .ptr false (so (.binOp .eql 22 (.tmp 10) (.const (.pointer none)) 22) 4) (.tmp 10) (.const (.pointer none)), (some (9, false)), [], false⟩,
      ⟨(some 12), .pick (.tmp 9) (.const (.bool true)) (.tmp 11), none, [], false⟩,
      ⟨(some 13), .mov (.tmp 12), none, [], false⟩,
      ⟨(some 14), .mov (.tmp 1), (some (13, false)), [], false⟩,
      ⟨(some 15), .callV (.func 11) [(.tmp 14), (.const (.int .i64 5)), (.const (.int .i64 0)), (.const (.int .i64 0))], (some (13, false)), [], false⟩,
      ⟨(some 16), .raw (so (.unOp .not 4 (.tmp 15)) 4), (some (13, false)), [], false⟩,
      ⟨(some 17), .pick (.tmp 13) (.const (.bool true)) (.tmp 16), none, [], false⟩,
      ⟨(some 18), .mov (.tmp 17), none, [], false⟩,
      ⟨(some 19), .mov (.tmp 1), (some (18, false)), [], false⟩,
      ⟨(some 20), .callV (.func 11) [(.tmp 19), (.const (.int .i64 2)), (.const (.int .i64 0)), (.const (.int .i64 0))], (some (18, false)), [], false⟩,
      ⟨(some 21), .raw (so (.unOp .not 4 (.tmp 20)) 4), (some (18, false)), [], false⟩,
      ⟨(some 22), .pick (.tmp 18) (.const (.bool true)) (.tmp 21), none, [], false⟩,
      ⟨(some 23), .mov (.tmp 22), none, [], false⟩,
      ⟨(some 24), .mov (.tmp 1), (some (23, false)), [], false⟩,
      ⟨(some 25), .callV (.func 11) [(.tmp 24), (.const (.int .i64 9)), (.const (.int .i64 0)), (.const (.int .i64 0))], (some (23, false)), [], false⟩,
      ⟨(some 26), .raw (so (.unOp .not 4 (.tmp 25)) 4), (some (23, false)), [], false⟩,
      ⟨(some 27), .pick (.tmp 23) (.const (.bool true)) (.tmp 26), none, [], false⟩,
      ⟨(some 28), .mov (.tmp 27), none, [], false⟩,
      ⟨(some 29), .mov (.tmp 1), (some (28, false)), [], false⟩,
      ⟨(some 30), .callV (.func 12) [(.tmp 29), (.const (.int .i64 2)), (.const (.bool true))], (some (28, false)), [], false⟩,
      ⟨(some 31), .bin .neq (so (.binOp .neq 24 (.tmp 30) (.const (.int .i64 0)) 24) 4) (.tmp 30) (.const (.int .i64 0)), (some (28, false)), [], false⟩,
      ⟨(some 32), .pick (.tmp 28) (.const (.bool true)) (.tmp 31), none, [], false⟩,
      ⟨(some 33), .mov (.tmp 32), none, [], false⟩,
      ⟨(some 34), .mov (.tmp 1), (some (33, false)), [], false⟩,
      ⟨(some 35), .callV (.func 18) [(.tmp 34), (.const (.int .i64 5))], (some (33, false)), [], false⟩,
      ⟨(some 36), .bin .neq (so (.binOp .neq 24 (.tmp 35) (.const (.int .i64 0)) 24) 4) (.tmp 35) (.const (.int .i64 0)), (some (33, false)), [], false⟩,
      ⟨(some 37), .pick (.tmp 33) (.const (.bool true)) (.tmp 36), none, [], false⟩,
      ⟨(some 38), .mov (.tmp 37), none, [], false⟩,
      ⟨(some 39), .mov (.tmp 1), (some (38, false)), [], false⟩,
      ⟨(some 40), .callV (.func 11) [(.tmp 39), (.const (.int .i64 7)), (.const (.int .i64 9)), (.const (.int .i64 0))], (some (38, false)), [], false⟩,
      ⟨(some 41), .raw (so (.unOp .not 4 (.tmp 40)) 4), (some (38, false)), [], false⟩,
      ⟨(some 42), .pick (.tmp 38) (.const (.bool true)) (.tmp 41), none, [], false⟩]) (.cond (.tmp 42)
    (.seq (.region [
      ⟨(some 0), .mov (.const (.pointer none)), none, [], false⟩]) .ret)
    .skip)) (.seq (.region [
      ⟨(some 43), .mov (.tmp 1), none, [], false⟩,
      ⟨(some 0), .mov (.tmp 43), none, [], false⟩]) .ret))))
noncomputable def landfalllaw22_first : AFunc := ⟨44, [(0, none)], landfalllaw22_first_c, none⟩
theorem landfalllaw22_first_t0 : tableOf Try.prog 8 = some landfalllaw22_first := by kernel_rfl
theorem landfalllaw22_first_t : T0 8 = some landfalllaw22_first := withKept_t rfl (withTrue_t rfl landfalllaw22_first_t0)


/-! 9 landfall/store.New -/
abbrev fn_store_New : FuncId := 9
noncomputable def store_New_c : ACode :=
  (.seq (.region [
      ⟨(some 2), .mov (.const (.pointer none)), none, [], false⟩,
      ⟨(some 3), .mov (.const (.int .i64 0)), none, [], false⟩]) (.seq (.seq (.region [
      ⟨(some 4), .mov (.tmp 0), none, [], false⟩,
      ⟨(some 5), .bin .lss (so (.binOp .lss 3 (.tmp 4) (.const (.int .i64 1)) 3) 4) (.tmp 4) (.const (.int .i64 1)), none, [], false⟩,
      ⟨(some 6), .mov (.tmp 5), none, [], false⟩,
      ⟨(some 7), .mov (.tmp 0), (some (6, false)), [], false⟩,
      ⟨(some 8), .bin .gtr (so (.binOp .gtr 3 (.tmp 7) (.const (.int .i64 4096)) 3) 4) (.tmp 7) (.const (.int .i64 4096)), (some (6, false)), [], false⟩,
      ⟨(some 9), .pick (.tmp 6) (.const (.bool true)) (.tmp 8), none, [], false⟩]) (.cond (.tmp 9)
    (.seq (.region [
      ⟨(some 2), .mov (.const (.pointer none)), none, [], false⟩,
      ⟨(some 3), .mov (.const (.int .i64 3)), none, [], false⟩]) .ret)
    .skip)) (.seq (.region [
      ⟨(some 10), .mov (.tmp 0), none, [], false⟩,
      ⟨(some 11), .mkMap, none, [], false⟩,
      ⟨(some 12), .build [(.int .i64 0), (.map none)] [(0, 1, (.tmp 10)), (1, 1, (.tmp 11))], none, [], false⟩,
      ⟨(some 13), .box 75 (.tmp 12), none, [], false⟩,
      ⟨(some 2), .mov (.tmp 13), none, [], false⟩,
      ⟨(some 3), .mov (.const (.int .i64 0)), none, [], false⟩]) .ret)))
noncomputable def store_New : AFunc := ⟨14, [(2, none), (3, none)], store_New_c, none⟩
theorem store_New_t0 : tableOf Try.prog 9 = some store_New := by kernel_rfl
theorem store_New_t : T0 9 = some store_New := withKept_t rfl (withTrue_t rfl store_New_t0)


/-! 10 (*landfall/store.Store).Below -/
abbrev fn_store_Store_Below : FuncId := 10
noncomputable def store_Store_Below_l0 : ACode :=
  (.seq (.region [
      ⟨(some 16), .bin .lss (so (.binOp .lss 3 (.tmp 15) (.tmp 14) 3) 0) (.tmp 15) (.tmp 14), none, [], false⟩]) (.seq (.cond (.tmp 16)
    .skip
    (.exit 0)) (.seq (.block 1 (.seq (.region [
      ⟨(some 17), .indexSl 1 (.tmp 13) (.tmp 15), none, [], false⟩,
      ⟨(some 18), .load none (.tmp 17), none, [], false⟩,
      ⟨(some 7), .mov (.tmp 18), none, [], false⟩]) (.seq (.region [
      ⟨(some 19), .mov (.tmp 0), none, [], false⟩,
      ⟨(some 20), .nilCheck (.tmp 19), none, [], false⟩,
      ⟨(some 21), .fieldAddr 1 (.tmp 20), none, [], false⟩,
      ⟨(some 22), .load none (.tmp 21), none, [], false⟩,
      ⟨(some 23), .mov (.tmp 7), none, [], false⟩,
      ⟨(some 24), .lookup (.int .i64) (.pointer none) false (.tmp 22) (.tmp 23), none, [], false⟩,
      ⟨(some 8), .mov (.tmp 24), none, [], false⟩]) (.seq (.region [
      ⟨(some 25), .mov (.tmp 7), none, [], false⟩,
      ⟨(some 26), .mov (.tmp 1), none, [], false⟩,
      ⟨(some 27), .bin .lss (so (.binOp .lss 3 (.tmp 25) (.tmp 26) 3) 4) (.tmp 25) (.tmp 26), none, [], false⟩,
      ⟨(some 28), .mov (.tmp 27), none, [], false⟩,
      ⟨(some 29), .mov (.tmp 8), (some (28, true)), [], false⟩,
      ⟨(some 30), .nilCheck (.tmp 29), (some (28, true)), [], false⟩,
      ⟨(some 31), .fieldAddr 166 (.tmp 30), (some (28, true)), [], false⟩,
      ⟨(some 32), .load none (.tmp 31), (some (28, true)), [], false⟩,
      ⟨(some 33), .pick (.tmp 28) (.tmp 32) (.const (.bool false)), none, [], false⟩]) (.cond (.tmp 33)
    (.region [
      ⟨(some 34), .mov (.tmp 8), none, [], false⟩,
      ⟨(some 35), .nilCheck (.tmp 34), none, [], false⟩,
      ⟨(some 36), .fieldAddr 0 (.tmp 35), none, [], false⟩,
      ⟨(some 37), .load (some 166) (.tmp 36), none, [], false⟩,
      ⟨(some 38), .callV (.func 39) [(.tmp 37)], none, [], false⟩,
      ⟨none, .store 166 (.tmp 4) (.tmp 38), none, [], false⟩,
      ⟨(some 5), .mov (.const (.bool true)), none, [], false⟩])
    .skip))))) (.region [
      ⟨(some 39), .bin .add (so (.binOp .add 3 (.tmp 15) (.const (.int .i64 1)) 3) 3) (.tmp 15) (.const (.int .i64 1)), none, [], false⟩,
      ⟨(some 15), .mov (.tmp 39), none, [], false⟩]))))
noncomputable def store_Store_Below_c : ACode :=
  (.seq (.region [
      ⟨(some 4), .alloc 36 ((.string ⟨⟨[]⟩⟩) :: ((.int .i64 0) :: ((.int .i64 0) :: (z32 ++ (z32 ++ (z32 ++ (z32 ++ ((.int .i64 0) :: (z32 ++ [(.slice none 0 0), (.slice none 0 0)]))))))))), none, [], false⟩,
      ⟨(some 5), .mov (.const (.bool false)), none, [], false⟩]) (.seq (.seq (.region [
      ⟨(some 9), .mov (.tmp 0), none, [], false⟩,
      ⟨(some 10), .callV (.func 37) [(.tmp 9)], none, [], false⟩]) (.cond (.tmp 10)
    (.seq (.region [
      ⟨(some 11), .build ((.string ⟨⟨[]⟩⟩) :: ((.int .i64 0) :: ((.int .i64 0) :: (z32 ++ (z32 ++ (z32 ++ (z32 ++ ((.int .i64 0) :: (z32 ++ [(.slice none 0 0), (.slice none 0 0)]))))))))) [], none, [], false⟩,
      ⟨none, .store 166 (.tmp 4) (.tmp 11), none, [], false⟩,
      ⟨(some 5), .mov (.const (.bool false)), none, [], false⟩]) .ret)
    .skip)) (.seq (.seq (.region [
      ⟨(some 12), .mov (.tmp 0), none, [], false⟩,
      ⟨(some 13), .callV (.func 38) [(.tmp 12)], none, [], false⟩,
      ⟨(some 14), .lenSl (.tmp 13), none, [], false⟩,
      ⟨(some 15), .mov (.const (.int .i64 0)), none, [], false⟩]) (.block 0 (.loop store_Store_Below_l0))) (.seq (.region [
      ⟨(some 40), .load (some 166) (.tmp 4), none, [], false⟩,
      ⟨(some 41), .mov (.tmp 5), none, [], false⟩,
      ⟨none, .store 166 (.tmp 4) (.tmp 40), none, [], false⟩,
      ⟨(some 5), .mov (.tmp 41), none, [], false⟩]) .ret))))
noncomputable def store_Store_Below : AFunc := ⟨42, [(4, some (some 166)), (5, none)], store_Store_Below_c, none⟩
theorem store_Store_Below_t0 : tableOf Try.prog 10 = some store_Store_Below := by kernel_rfl
theorem store_Store_Below_t : T0 10 = some store_Store_Below := withKept_t rfl (withTrue_t rfl store_Store_Below_t0)


/-! 11 landfall/landfalllaw22.puts -/
abbrev fn_landfalllaw22_puts : FuncId := 11
noncomputable def landfalllaw22_puts_c : ACode :=
  (.seq (.region [
      ⟨(some 8), .mov (.const (.bool false)), none, [], false⟩]) (.seq (.region [
      ⟨(some 12), .mov (.tmp 0), none, [], false⟩,
      ⟨(some 13), .mov (.tmp 1), none, [], false⟩,
      ⟨(some 14), .callV (.func 40) [(.tmp 13)], none, [], false⟩,
      ⟨(some 15), .callV (.func 21) [(.tmp 12), (.tmp 14)], none, [], false⟩,
      ⟨(some 11), .mov (.tmp 15), none, [], false⟩,
      ⟨(some 16), .extract 0 (.tmp 11), none, [], false⟩,
      ⟨(some 17), .extract 1 (.tmp 11), none, [], false⟩,
      ⟨(some 9), .mov (.tmp 16), none, [], false⟩,
      ⟨(some 10), .mov (.tmp 17), none, [], false⟩]) (.seq (.region [
      ⟨(some 18), .mov (.tmp 9), none, [], false⟩,
      ⟨(some 19), .mov (.tmp 2), none, [], false⟩,
      ⟨(some 20), .bin .eql (so (.binOp .eql 3 (.tmp 18) (.tmp 19) 3) 4) (.tmp 18) (.tmp 19), none, [], false⟩,
      ⟨(some 21), .mov (.tmp 20), none, [], false⟩,
      ⟨(some 22), .mov (.tmp 10), (some (21, true)), [], false⟩,
      ⟨(some 23), .mov (.tmp 3), (some (21, true)), [], false⟩,
      ⟨(some 24), .bin .eql (so (.binOp .eql 24 (.tmp 22) (.tmp 23) 24) 4) (.tmp 22) (.tmp 23), (some (21, true)), [], false⟩,
      ⟨(some 25), .pick (.tmp 21) (.tmp 24) (.const (.bool false)), none, [], false⟩,
      ⟨(some 8), .mov (.tmp 25), none, [], false⟩]) .ret)))
noncomputable def landfalllaw22_puts : AFunc := ⟨26, [(8, none)], landfalllaw22_puts_c, none⟩
theorem landfalllaw22_puts_t0 : tableOf Try.prog 11 = some landfalllaw22_puts := by kernel_rfl
theorem landfalllaw22_puts_t : T0 11 = some landfalllaw22_puts := withKept_t rfl (withTrue_t rfl landfalllaw22_puts_t0)


/-! 12 (*landfall/store.Store).Pin -/
abbrev fn_store_Store_Pin : FuncId := 12
noncomputable def store_Store_Pin_c : ACode :=
  (.seq (.region [
      ⟨(some 5), .box 4 (.tmp 2), none, [], false⟩,
      ⟨(some 6), .mov (.const (.int .i64 0)), none, [], false⟩]) (.seq (.region [
      ⟨(some 7), .mov (.tmp 0), none, [], false⟩,
      ⟨(some 8), .mov (.tmp 1), none, [], false⟩,
      ⟨(some 9), .mkFunc (.func 42) [] [(.tmp 5)], none, [], false⟩,
      ⟨(some 10), .callV (.func 41) [(.tmp 7), (.tmp 8), (.tmp 9)], none, [], false⟩,
      ⟨(some 6), .mov (.tmp 10), none, [], false⟩]) .ret))
noncomputable def store_Store_Pin : AFunc := ⟨11, [(6, none)], store_Store_Pin_c, none⟩
theorem store_Store_Pin_t0 : tableOf Try.prog 12 = some store_Store_Pin := by kernel_rfl
theorem store_Store_Pin_t : T0 12 = some store_Store_Pin := withKept_t rfl (withTrue_t rfl store_Store_Pin_t0)


/-! 13 (*landfall/store.Store).Clear -/
abbrev fn_store_Store_Clear : FuncId := 13
noncomputable def store_Store_Clear_c : ACode :=
  (.seq (.region [
      ⟨(some 3), .box 3 (.tmp 1), none, [], false⟩]) (.seq (.region [
      ⟨(some 4), .mov (.tmp 0), none, [], false⟩,
      ⟨(some 5), .callV (.func 37) [(.tmp 4)], none, [], false⟩,
      ⟨(some 6), .raw (so (.unOp .not 4 (.tmp 5)) 4), none, [], false⟩]) (.cond (.tmp 6)
    (.region [
      ⟨(some 7), .mov (.tmp 0), none, [], false⟩,
      ⟨(some 8), .nilCheck (.tmp 7), none, [], false⟩,
      ⟨(some 9), .fieldAddr 1 (.tmp 8), none, [], false⟩,
      ⟨(some 10), .load none (.tmp 9), none, [], false⟩,
      ⟨(some 11), .mkFunc (.func 44) [] [(.tmp 3)], none, [], false⟩,
      ⟨(some 12), .callV (.func 43) [(.tmp 10), (.tmp 11)], none, [], false⟩])
    .skip)))
noncomputable def store_Store_Clear : AFunc := ⟨13, [], store_Store_Clear_c, none⟩
theorem store_Store_Clear_t0 : tableOf Try.prog 13 = some store_Store_Clear := by kernel_rfl
theorem store_Store_Clear_t : T0 13 = some store_Store_Clear := withKept_t rfl (withTrue_t rfl store_Store_Clear_t0)


/-! 14 (*landfall/store.Store).Get -/
abbrev fn_store_Store_Get : FuncId := 14
noncomputable def store_Store_Get_c : ACode :=
  (.seq (.region [
      ⟨(some 4), .alloc 36 ((.string ⟨⟨[]⟩⟩) :: ((.int .i64 0) :: ((.int .i64 0) :: (z32 ++ (z32 ++ (z32 ++ (z32 ++ ((.int .i64 0) :: (z32 ++ [(.slice none 0 0), (.slice none 0 0)]))))))))), none, [], false⟩,
      ⟨(some 5), .mov (.const (.bool false)), none, [], false⟩]) (.seq (.seq (.region [
      ⟨(some 8), .mov (.tmp 0), none, [], false⟩,
      ⟨(some 9), .callV (.func 37) [(.tmp 8)], none, [], false⟩]) (.cond (.tmp 9)
    (.seq (.region [
      ⟨(some 10), .build ((.string ⟨⟨[]⟩⟩) :: ((.int .i64 0) :: ((.int .i64 0) :: (z32 ++ (z32 ++ (z32 ++ (z32 ++ ((.int .i64 0) :: (z32 ++ [(.slice none 0 0), (.slice none 0 0)]))))))))) [], none, [], false⟩,
      ⟨none, .store 166 (.tmp 4) (.tmp 10), none, [], false⟩,
      ⟨(some 5), .mov (.const (.bool false)), none, [], false⟩]) .ret)
    .skip)) (.seq (.region [
      ⟨(some 12), .mov (.tmp 0), none, [], false⟩,
      ⟨(some 13), .nilCheck (.tmp 12), none, [], false⟩,
      ⟨(some 14), .fieldAddr 1 (.tmp 13), none, [], false⟩,
      ⟨(some 15), .load none (.tmp 14), none, [], false⟩,
      ⟨(some 16), .mov (.tmp 1), none, [], false⟩,
      ⟨(some 17), .lookup (.int .i64) (.pointer none) true (.tmp 15) (.tmp 16), none, [], false⟩,
      ⟨(some 11), .mov (.tmp 17), none, [], false⟩,
      ⟨(some 18), .extract 0 (.tmp 11), none, [], false⟩,
      ⟨(some 19), .extract 1 (.tmp 11), none, [], false⟩,
      ⟨(some 6), .mov (.tmp 18), none, [], false⟩,
      ⟨(some 7), .mov (.tmp 19), none, [], false⟩]) (.seq (.seq (.region [
      ⟨(some 20), .mov (.tmp 7), none, [], false⟩,
      ⟨(some 21), .raw (so (.unOp .not 4 (.tmp 20)) 4), none, [], false⟩]) (.cond (.tmp 21)
    (.seq (.region [
      ⟨(some 22), .build ((.string ⟨⟨[]⟩⟩) :: ((.int .i64 0) :: ((.int .i64 0) :: (z32 ++ (z32 ++ (z32 ++ (z32 ++ ((.int .i64 0) :: (z32 ++ [(.slice none 0 0), (.slice none 0 0)]))))))))) [], none, [], false⟩,
      ⟨none, .store 166 (.tmp 4) (.tmp 22), none, [], false⟩,
      ⟨(some 5), .mov (.const (.bool false)), none, [], false⟩]) .ret)
    .skip)) (.seq (.region [
      ⟨(some 23), .mov (.tmp 6), none, [], false⟩,
      ⟨(some 24), .nilCheck (.tmp 23), none, [], false⟩,
      ⟨(some 25), .fieldAddr 0 (.tmp 24), none, [], false⟩,
      ⟨(some 26), .load (some 166) (.tmp 25), none, [], false⟩,
      ⟨(some 27), .callV (.func 39) [(.tmp 26)], none, [], false⟩,
      ⟨none, .store 166 (.tmp 4) (.tmp 27), none, [], false⟩,
      ⟨(some 5), .mov (.const (.bool true)), none, [], false⟩]) .ret)))))
noncomputable def store_Store_Get : AFunc := ⟨28, [(4, some (some 166)), (5, none)], store_Store_Get_c, none⟩
theorem store_Store_Get_t0 : tableOf Try.prog 14 = some store_Store_Get := by kernel_rfl
theorem store_Store_Get_t : T0 14 = some store_Store_Get := withKept_t rfl (withTrue_t rfl store_Store_Get_t0)


/-! 15 landfall/landfalllaw22.awake -/
abbrev fn_landfalllaw22_awake : FuncId := 15
noncomputable def landfalllaw22_awake_c : ACode :=
  (.seq (.region [
      ⟨(some 0), .mov (.const (.bool false)), none, [], false⟩]) (.seq (.region [
      ⟨(some 2), .callV (.func 8) [], none, [], false⟩,
      ⟨(some 1), .mov (.tmp 2), none, [], false⟩]) (.seq (.region [
      ⟨(some 3), .mov (.tmp 1), none, [], false⟩,
      ⟨(some 4), .eq .ptr true (so (.binOp .neq 22 (.tmp 3) (.const (.pointer none)) 22) 4) (.tmp 3) (.const (.pointer none)), none, [], false⟩,
      ⟨(some 5), .mov (.tmp 4), none, [], false⟩,
      ⟨(some 6), .mov (.tmp 1), (some (5, true)), [], false⟩,
      ⟨(some 7), .callV (.func 17) [(.tmp 6)], (some (5, true)), [], false⟩,
      ⟨(some 8), .build [(.int .i64 0), (.bool false), (.bool false)] [(0, 1, (.const (.int .i64 2))), (2, 1, (.const (.bool true)))], (some (5, true)), [], false⟩,
      ⟨(some 9), .build [(.int .i64 0), (.bool false), (.bool false)] [(0, 1, (.const (.int .i64 5))), (1, 1, (.const (.bool true)))], (some (5, true)), [], false⟩,
      ⟨(some 10), .build [(.int .i64 0), (.bool false), (.bool false)] [(0, 1, (.const (.int .i64 7)))], (some (5, true)), [], false⟩,
      ⟨(some 11), .buildSlice 47 [(.int .i64 0), (.bool false), (.bool false), (.int .i64 0), (.bool false), (.bool false), (.int .i64 0), (.bool false), (.bool false)] 3 [(0, 3, (.tmp 8)), (3, 3, (.tmp 9)), (6, 3, (.tmp 10))], (some (5, true)), [], false⟩,
      ⟨(some 12), .callV (.func 16) [(.tmp 7), (.tmp 11)], (some (5, true)), [], false⟩,
      ⟨(some 13), .pick (.tmp 5) (.tmp 12) (.const (.bool false)), none, [], false⟩,
      ⟨(some 14), .mov (.tmp 13), none, [], false⟩,
      ⟨(some 15), .mov (.tmp 1), (some (14, true)), [], false⟩,
      ⟨(some 16), .callV (.func 11) [(.tmp 15), (.const (.int .i64 7)), (.const (.int .i64 0)), (.const (.int .i64 8))], (some (14, true)), [], false⟩,
      ⟨(some 17), .pick (.tmp 14) (.tmp 16) (.const (.bool false)), none, [], false⟩,
      ⟨(some 18), .mov (.tmp 17), none, [], false⟩,
      ⟨(some 19), .mov (.tmp 1), (some (18, true)), [], false⟩,
      ⟨(some 20), .callV (.func 11) [(.tmp 19), (.const (.int .i64 3)), (.const (.int .i64 7)), (.const (.int .i64 0))], (some (18, true)), [], false⟩,
      ⟨(some 21), .pick (.tmp 18) (.tmp 20) (.const (.bool false)), none, [], false⟩,
      ⟨(some 0), .mov (.tmp 21), none, [], false⟩]) .ret)))
noncomputable def landfalllaw22_awake : AFunc := ⟨22, [(0, none)], landfalllaw22_awake_c, none⟩
theorem landfalllaw22_awake_t0 : tableOf Try.prog 15 = some landfalllaw22_awake := by kernel_rfl
theorem landfalllaw22_awake_t : T0 15 = some landfalllaw22_awake := withKept_t rfl (withTrue_t rfl landfalllaw22_awake_t0)


/-! 16 landfall/landfallkit.SameKept -/
abbrev fn_landfallkit_SameKept : FuncId := 16
noncomputable def landfallkit_SameKept_l0 : ACode :=
  (.seq (.seq (.region [
      ⟨(some 12), .mov (.tmp 5), none, [], false⟩,
      ⟨(some 13), .mov (.tmp 12), none, [], false⟩,
      ⟨(some 14), .mov (.tmp 6), (some (13, true)), [], false⟩,
      ⟨(some 15), .mov (.tmp 0), (some (13, true)), [], false⟩,
      ⟨(some 16), .lenSl (.tmp 15), (some (13, true)), [], false⟩,
      ⟨(some 17), .bin .lss (so (.binOp .lss 3 (.tmp 14) (.tmp 16) 3) 4) (.tmp 14) (.tmp 16), (some (13, true)), [], false⟩,
      ⟨(some 18), .pick (.tmp 13) (.tmp 17) (.const (.bool false)), none, [], false⟩]) (.cond (.tmp 18)
    .skip
    (.exit 0))) (.seq (.block 1 (.regionD [
      ⟨(some 21), .mov (.tmp 0), none, [], false⟩,
      ⟨(some 22), .mov (.tmp 6), none, [], false⟩,
      ⟨(some 23), .indexSl 3 (.tmp 21) (.tmp 22), none, [], false⟩,
      ⟨(some 24), .load (some 3) (.tmp 23), none, [], false⟩,
      ⟨(some 25), .mov (.tmp 1), none, [], false⟩,
      ⟨(some 26), .mov (.tmp 6), none, [], false⟩,
      ⟨(some 27), .indexSl 3 (.tmp 25) (.tmp 26), none, [], false⟩,
      ⟨(some 28), .load (some 3) (.tmp 27), none, [], false⟩,
      ⟨(some 29), .bin .eql (so (.binOp .eql 47 (.tmp 24) (.tmp 28) 47) 4) (.tmp 24) (.tmp 28), none, [], true⟩,
      ⟨(some 5), .mov (.tmp 29), none, [], true⟩])) (.region [
      ⟨(some 19), .mov (.tmp 6), none, [], false⟩,
      ⟨(some 20), .bin .add (so (.binOp .add 3 (.tmp 19) (.const (.int .i64 1)) 3) 3) (.tmp 19) (.const (.int .i64 1)), none, [], false⟩,
      ⟨(some 6), .mov (.tmp 20), none, [], false⟩])))
noncomputable def landfallkit_SameKept_c : ACode :=
  (.seq (.region [
      ⟨(some 4), .mov (.const (.bool false)), none, [], false⟩]) (.seq (.region [
      ⟨(some 7), .mov (.tmp 0), none, [], false⟩,
      ⟨(some 8), .lenSl (.tmp 7), none, [], false⟩,
      ⟨(some 9), .mov (.tmp 1), none, [], false⟩,
      ⟨(some 10), .lenSl (.tmp 9), none, [], false⟩,
      ⟨(some 11), .bin .eql (so (.binOp .eql 3 (.tmp 8) (.tmp 10) 3) 4) (.tmp 8) (.tmp 10), none, [], false⟩,
      ⟨(some 5), .mov (.tmp 11), none, [], false⟩]) (.seq (.seq (.region [
      ⟨(some 6), .mov (.const (.int .i64 0)), none, [], false⟩]) (.block 0 (.loop landfallkit_SameKept_l0))) (.seq (.region [
      ⟨(some 30), .mov (.tmp 5), none, [], false⟩,
      ⟨(some 4), .mov (.tmp 30), none, [], false⟩]) .ret))))
noncomputable def landfallkit_SameKept : AFunc := ⟨31, [(4, none)], landfallkit_SameKept_c, none⟩
theorem landfallkit_SameKept_t0 : tableOf Try.prog 16 = some landfallkit_SameKept := by kernel_rfl
theorem landfallkit_SameKept_t : T0 16 = some landfallkit_SameKept := withKept_t rfl (withTrue_t rfl landfallkit_SameKept_t0)


/-! 17 (*landfall/store.Store).List -/
abbrev fn_store_Store_List : FuncId := 17
noncomputable def store_Store_List_l0 : ACode :=
  (.seq (.region [
      ⟨(some 12), .bin .lss (so (.binOp .lss 3 (.tmp 11) (.tmp 10) 3) 0) (.tmp 11) (.tmp 10), none, [], false⟩]) (.seq (.cond (.tmp 12)
    .skip
    (.exit 0)) (.seq (.block 1 (.seq (.region [
      ⟨(some 13), .indexSl 1 (.tmp 9) (.tmp 11), none, [], false⟩,
      ⟨(some 14), .load none (.tmp 13), none, [], false⟩,
      ⟨(some 4), .mov (.tmp 14), none, [], false⟩]) (.seq (.region [
      ⟨(some 15), .mov (.tmp 0), none, [], false⟩,
      ⟨(some 16), .nilCheck (.tmp 15), none, [], false⟩,
      ⟨(some 17), .fieldAddr 1 (.tmp 16), none, [], false⟩,
      ⟨(some 18), .load none (.tmp 17), none, [], false⟩,
      ⟨(some 19), .mov (.tmp 4), none, [], false⟩,
      ⟨(some 20), .lookup (.int .i64) (.pointer none) false (.tmp 18) (.tmp 19), none, [], false⟩,
      ⟨(some 5), .mov (.tmp 20), none, [], false⟩]) (.regionD [
      ⟨(some 21), .mov (.tmp 2), none, [], false⟩,
      ⟨(some 22), .mov (.tmp 4), none, [], false⟩,
      ⟨(some 23), .mov (.tmp 5), none, [], false⟩,
      ⟨(some 24), .nilCheck (.tmp 23), none, [], false⟩,
      ⟨(some 25), .fieldAddr 166 (.tmp 24), none, [], false⟩,
      ⟨(some 26), .load none (.tmp 25), none, [], false⟩,
      ⟨(some 27), .mov (.tmp 5), none, [], false⟩,
      ⟨(some 28), .nilCheck (.tmp 27), none, [], false⟩,
      ⟨(some 29), .fieldAddr 167 (.tmp 28), none, [], false⟩,
      ⟨(some 30), .load none (.tmp 29), none, [], false⟩,
      ⟨(some 31), .build [(.int .i64 0), (.bool false), (.bool false)] [(0, 1, (.tmp 22)), (1, 1, (.tmp 26)), (2, 1, (.tmp 30))], none, [], false⟩,
      ⟨(some 32), .buildSlice 47 [(.int .i64 0), (.bool false), (.bool false)] 1 [(0, 3, (.tmp 31))], none, [((some 21), .mov (.tmp 2), none)], false⟩,
      ⟨(some 33), .append 47 3 16 [(.int .i64 0), (.bool false), (.bool false)] false (.tmp 21) (.tmp 32), none, [], true⟩,
      ⟨(some 2), .mov (.tmp 33), none, [], true⟩])))) (.region [
      ⟨(some 34), .bin .add (so (.binOp .add 3 (.tmp 11) (.const (.int .i64 1)) 3) 3) (.tmp 11) (.const (.int .i64 1)), none, [], false⟩,
      ⟨(some 11), .mov (.tmp 34), none, [], false⟩]))))
noncomputable def store_Store_List_c : ACode :=
  (.seq (.region [
      ⟨(some 2), .mov (.const (.slice none 0 0)), none, [], false⟩]) (.seq (.seq (.region [
      ⟨(some 6), .mov (.tmp 0), none, [], false⟩,
      ⟨(some 7), .callV (.func 37) [(.tmp 6)], none, [], false⟩]) (.cond (.tmp 7)
    (.seq (.region [
      ⟨(some 2), .mov (.const (.slice none 0 0)), none, [], false⟩]) .ret)
    .skip)) (.seq (.seq (.region [
      ⟨(some 8), .mov (.tmp 0), none, [], false⟩,
      ⟨(some 9), .callV (.func 38) [(.tmp 8)], none, [], false⟩,
      ⟨(some 10), .lenSl (.tmp 9), none, [], false⟩,
      ⟨(some 11), .mov (.const (.int .i64 0)), none, [], false⟩]) (.block 0 (.loop store_Store_List_l0))) (.seq (.region [
      ⟨(some 35), .mov (.tmp 2), none, [], false⟩,
      ⟨(some 2), .mov (.tmp 35), none, [], false⟩]) .ret))))
noncomputable def store_Store_List : AFunc := ⟨36, [(2, none)], store_Store_List_c, none⟩
theorem store_Store_List_t0 : tableOf Try.prog 17 = some store_Store_List := by kernel_rfl
theorem store_Store_List_t : T0 17 = some store_Store_List := withKept_t rfl (withTrue_t rfl store_Store_List_t0)


/-! 18 (*landfall/store.Store).Verify -/
abbrev fn_store_Store_Verify : FuncId := 18
noncomputable def store_Store_Verify_c : ACode :=
  (.seq (.region [
      ⟨(some 4), .mov (.const (.int .i64 0)), none, [], false⟩]) (.seq (.region [
      ⟨(some 5), .mov (.tmp 0), none, [], false⟩,
      ⟨(some 6), .mov (.tmp 1), none, [], false⟩,
      ⟨(some 7), .callV (.func 41) [(.tmp 5), (.tmp 6), (.func 45)], none, [], false⟩,
      ⟨(some 4), .mov (.tmp 7), none, [], false⟩]) .ret))
noncomputable def store_Store_Verify : AFunc := ⟨8, [(4, none)], store_Store_Verify_c, none⟩
theorem store_Store_Verify_t0 : tableOf Try.prog 18 = some store_Store_Verify := by kernel_rfl
theorem store_Store_Verify_t : T0 18 = some store_Store_Verify := withKept_t rfl (withTrue_t rfl store_Store_Verify_t0)


/-! 21 (*landfall/store.Store).Put -/
abbrev fn_store_Store_Put : FuncId := 21
noncomputable def store_Store_Put_c : ACode :=
  (.seq (.region [
      ⟨(some 3), .box 36 (.tmp 1), none, [], false⟩,
      ⟨(some 4), .mov (.const (.int .i64 0)), none, [], false⟩,
      ⟨(some 5), .mov (.const (.int .i64 0)), none, [], false⟩]) (.seq (.seq (.region [
      ⟨(some 10), .mov (.tmp 0), none, [], false⟩,
      ⟨(some 11), .callV (.func 37) [(.tmp 10)], none, [], false⟩]) (.cond (.tmp 11)
    (.seq (.region [
      ⟨(some 4), .mov (.const (.int .i64 0)), none, [], false⟩,
      ⟨(some 5), .mov (.const (.int .i64 1)), none, [], false⟩]) .ret)
    .skip)) (.seq (.regionD [
      ⟨(some 13), .mov (.tmp 0), none, [], false⟩,
      ⟨(some 14), .nilCheck (.tmp 13), none, [], false⟩,
      ⟨(some 15), .fieldAddr 1 (.tmp 14), none, [], false⟩,
      ⟨(some 16), .load none (.tmp 15), none, [], false⟩,
      ⟨(some 17), .fieldAddr 0 (.tmp 3), none, [], false⟩,
      ⟨(some 18), .fieldAddr 1 (.tmp 17), none, [], false⟩,
      ⟨(some 19), .load none (.tmp 18), none, [], false⟩,
      ⟨(some 20), .lookup (.int .i64) (.pointer none) true (.tmp 16) (.tmp 19), none, [], true⟩,
      ⟨(some 12), .mov (.tmp 20), none, [], true⟩,
      ⟨(some 21), .extract 0 (.tmp 12), none, [], false⟩,
      ⟨(some 22), .extract 1 (.tmp 12), none, [], false⟩,
      ⟨(some 6), .mov (.tmp 21), none, [], false⟩,
      ⟨(some 7), .mov (.tmp 22), none, [], true⟩]) (.seq (.block 0 (.seq (.region [
      ⟨(some 24), .fieldAddr 0 (.tmp 3), none, [], false⟩,
      ⟨(some 25), .fieldAddr 1 (.tmp 24), none, [], false⟩,
      ⟨(some 26), .load none (.tmp 25), none, [], false⟩,
      ⟨(some 27), .bin .lss (so (.binOp .lss 3 (.tmp 26) (.const (.int .i64 1)) 3) 4) (.tmp 26) (.const (.int .i64 1)), none, [], false⟩,
      ⟨(some 28), .mov (.tmp 27), none, [], false⟩,
      ⟨(some 29), .fieldAddr 0 (.tmp 3), (some (28, false)), [], false⟩,
      ⟨(some 30), .fieldAddr 1 (.tmp 29), (some (28, false)), [], false⟩,
      ⟨(some 31), .load none (.tmp 30), (some (28, false)), [], false⟩,
      ⟨(some 32), .bin .gtr (so (.binOp .gtr 3 (.tmp 31) (.const (.int .i64 1073741824)) 3) 4) (.tmp 31) (.const (.int .i64 1073741824)), (some (28, false)), [], false⟩,
      ⟨(some 33), .pick (.tmp 28) (.const (.bool true)) (.tmp 32), none, [], false⟩,
      ⟨(some 23), .mov (.tmp 33), none, [], false⟩]) (.cond (.tmp 23)
    (.seq (.region [
      ⟨(some 4), .mov (.const (.int .i64 0)), none, [], false⟩,
      ⟨(some 5), .mov (.const (.int .i64 13)), none, [], false⟩]) .ret)
    (.seq (.region [
      ⟨(some 35), .mov (.tmp 7), none, [], false⟩,
      ⟨(some 34), .mov (.tmp 35), none, [], false⟩]) (.cond (.tmp 34)
    (.seq (.region [
      ⟨(some 4), .mov (.const (.int .i64 0)), none, [], false⟩,
      ⟨(some 5), .mov (.const (.int .i64 8)), none, [], false⟩]) .ret)
    .skip))))) (.seq (.region [
      ⟨(some 8), .mov (.const (.int .i64 0)), none, [], false⟩]) (.seq (.seq (.regionD [
      ⟨(some 36), .mov (.tmp 0), none, [], false⟩,
      ⟨(some 37), .nilCheck (.tmp 36), none, [], false⟩,
      ⟨(some 38), .fieldAddr 1 (.tmp 37), none, [], false⟩,
      ⟨(some 39), .load none (.tmp 38), none, [], false⟩,
      ⟨(some 40), .lenMap (.tmp 39), none, [], false⟩,
      ⟨(some 41), .mov (.tmp 0), none, [], false⟩,
      ⟨(some 42), .nilCheck (.tmp 41), none, [], false⟩,
      ⟨(some 43), .fieldAddr 0 (.tmp 42), none, [], false⟩,
      ⟨(some 44), .load none (.tmp 43), none, [], false⟩,
      ⟨(some 45), .bin .geq (so (.binOp .geq 3 (.tmp 40) (.tmp 44) 3) 4) (.tmp 40) (.tmp 44), none, [], true⟩]) (.cond (.tmp 45)
    (.seq (.region [
      ⟨(some 46), .mov (.tmp 0), none, [], false⟩,
      ⟨(some 47), .callV (.func 46) [(.tmp 46)], none, [], false⟩,
      ⟨(some 9), .mov (.tmp 47), none, [], false⟩]) (.seq (.seq (.region [
      ⟨(some 48), .mov (.tmp 9), none, [], false⟩,
      ⟨(some 49), .lenSl (.tmp 48), none, [], false⟩,
      ⟨(some 50), .bin .eql (so (.binOp .eql 3 (.tmp 49) (.const (.int .i64 0)) 3) 4) (.tmp 49) (.const (.int .i64 0)), none, [], false⟩]) (.cond (.tmp 50)
    (.seq (.region [
      ⟨(some 4), .mov (.const (.int .i64 0)), none, [], false⟩,
      ⟨(some 5), .mov (.const (.int .i64 7)), none, [], false⟩]) .ret)
    .skip)) (.seq (.region [
      ⟨(some 51), .mov (.tmp 9), none, [], false⟩,
      ⟨(some 52), .callV (.func 47) [(.tmp 51), (.func 48)], none, [], false⟩,
      ⟨(some 53), .nilCheck (.tmp 52), none, [], false⟩,
      ⟨(some 54), .fieldAddr 0 (.tmp 53), none, [], false⟩,
      ⟨(some 55), .fieldAddr 0 (.tmp 54), none, [], false⟩,
      ⟨(some 56), .fieldAddr 1 (.tmp 55), none, [], false⟩,
      ⟨(some 57), .load none (.tmp 56), none, [], false⟩,
      ⟨(some 8), .mov (.tmp 57), none, [], false⟩]) (.region [
      ⟨(some 58), .mov (.tmp 0), none, [], false⟩,
      ⟨(some 59), .nilCheck (.tmp 58), none, [], false⟩,
      ⟨(some 60), .fieldAddr 1 (.tmp 59), none, [], false⟩,
      ⟨(some 61), .load none (.tmp 60), none, [], false⟩,
      ⟨(some 62), .mov (.tmp 8), none, [], false⟩,
      ⟨none, .delete (.int .i64) (.tmp 61) (.tmp 62), none, [], false⟩]))))
    .skip)) (.seq (.regionD [
      ⟨(some 63), .mov (.tmp 0), none, [], false⟩,
      ⟨(some 64), .nilCheck (.tmp 63), none, [], false⟩,
      ⟨(some 65), .fieldAddr 1 (.tmp 64), none, [], false⟩,
      ⟨(some 66), .load none (.tmp 65), none, [], false⟩,
      ⟨(some 67), .fieldAddr 0 (.tmp 3), none, [], false⟩,
      ⟨(some 68), .fieldAddr 1 (.tmp 67), none, [], false⟩,
      ⟨(some 69), .load none (.tmp 68), none, [], false⟩,
      ⟨(some 70), .load (some 166) (.tmp 3), none, [], false⟩,
      ⟨(some 71), .callV (.func 39) [(.tmp 70)], none, [((some 69), .load none (.tmp 68), none), ((some 68), .fieldAddr 1 (.tmp 67), none), ((some 67), .fieldAddr 0 (.tmp 3), none), ((some 66), .load none (.tmp 65), none), ((some 65), .fieldAddr 1 (.tmp 64), none), ((some 64), .nilCheck (.tmp 63), none), ((some 63), .mov (.tmp 0), none)], false⟩,
      ⟨(some 72), .build ((.string ⟨⟨[]⟩⟩) :: ((.int .i64 0) :: ((.int .i64 0) :: (z32 ++ (z32 ++ (z32 ++ (z32 ++ ((.int .i64 0) :: (z32 ++ [(.slice none 0 0), (.slice none 0 0), (.bool false), (.bool false)]))))))))) [(0, 166, (.tmp 71))], none, [], false⟩,
      ⟨(some 73), .box 82 (.tmp 72), none, [((some 69), .load none (.tmp 68), none), ((some 68), .fieldAddr 1 (.tmp 67), none), ((some 67), .fieldAddr 0 (.tmp 3), none), ((some 66), .load none (.tmp 65), none), ((some 65), .fieldAddr 1 (.tmp 64), none), ((some 64), .nilCheck (.tmp 63), none), ((some 63), .mov (.tmp 0), none)], false⟩,
      ⟨none, .mapUpdate (.int .i64) (.tmp 66) (.tmp 69) (.tmp 73), none, [], true⟩]) (.seq (.region [
      ⟨(some 74), .mov (.tmp 8), none, [], false⟩,
      ⟨(some 4), .mov (.tmp 74), none, [], false⟩,
      ⟨(some 5), .mov (.const (.int .i64 0)), none, [], false⟩]) .ret))))))))
noncomputable def store_Store_Put : AFunc := ⟨75, [(4, none), (5, none)], store_Store_Put_c, none⟩
theorem store_Store_Put_t0 : tableOf Try.prog 21 = some store_Store_Put := by kernel_rfl
theorem store_Store_Put_t : T0 21 = some store_Store_Put := withKept_t rfl (withTrue_t rfl store_Store_Put_t0)


/-! 37 (*landfall/store.Store).none -/
abbrev fn_store_Store_none : FuncId := 37
noncomputable def store_Store_none_c : ACode :=
  (.seq (.region [
      ⟨(some 2), .mov (.const (.bool false)), none, [], false⟩]) (.seq (.region [
      ⟨(some 3), .mov (.tmp 0), none, [], false⟩,
      ⟨(some 4), .eq .ptr false (so (.binOp .eql 22 (.tmp 3) (.const (.pointer none)) 22) 4) (.tmp 3) (.const (.pointer none)), none, [], false⟩,
      ⟨(some 5), .mov (.tmp 4), none, [], false⟩,
      ⟨(some 6), .mov (.tmp 0), (some (5, false)), [], false⟩,
      ⟨(some 7), .nilCheck (.tmp 6), (some (5, false)), [], false⟩,
      ⟨(some 8), .fieldAddr 1 (.tmp 7), (some (5, false)), [], false⟩,
      ⟨(some 9), .load none (.tmp 8), (some (5, false)), [], false⟩,
      ⟨(some 10), .eq .map false (so (.binOp .eql 73 (.tmp 9) (.const (.map none)) 73) 4) (.tmp 9) (.const (.map none)), (some (5, false)), [], false⟩,
      ⟨(some 11), .pick (.tmp 5) (.const (.bool true)) (.tmp 10), none, [], false⟩,
      ⟨(some 2), .mov (.tmp 11), none, [], false⟩]) .ret))
noncomputable def store_Store_none : AFunc := ⟨12, [(2, none)], store_Store_none_c, none⟩
theorem store_Store_none_t0 : tableOf Try.prog 37 = some store_Store_none := by kernel_rfl
theorem store_Store_none_t : T0 37 = some store_Store_none := withKept_t rfl (withTrue_t rfl store_Store_none_t0)


/-! 38 (*landfall/store.Store).rising -/
abbrev fn_store_Store_rising : FuncId := 38
noncomputable def store_Store_rising_l0 : ACode :=
  (.seq (.seq (.region [
      ⟨(some 14), .load none (.tmp 3), none, [], false⟩,
      ⟨(some 15), .callV (.func 61) [(.tmp 14)], none, [], false⟩,
      ⟨(some 16), .bin .gtr (so (.binOp .gtr 3 (.tmp 15) (.const (.int .i64 0)) 3) 4) (.tmp 15) (.const (.int .i64 0)), none, [], false⟩]) (.cond (.tmp 16)
    .skip
    (.exit 0))) (.block 1 (.seq (.region [
      ⟨(some 18), .mkIface 107 (.tmp 3), none, [], false⟩,
      ⟨(some 19), .callV (.func 62) [(.tmp 18)], none, [], false⟩,
      ⟨(some 20), .assertTo 3 (.int .i64 0) true (.tmp 19), none, [], false⟩,
      ⟨(some 17), .mov (.tmp 20), none, [], false⟩,
      ⟨(some 21), .extract 0 (.tmp 17), none, [], false⟩,
      ⟨(some 22), .extract 1 (.tmp 17), none, [], false⟩,
      ⟨(some 4), .mov (.tmp 21), none, [], false⟩,
      ⟨(some 5), .mov (.tmp 22), none, [], false⟩]) (.seq (.region [
      ⟨(some 23), .mov (.tmp 5), none, [], false⟩]) (.cond (.tmp 23)
    (.region [
      ⟨(some 24), .mov (.tmp 2), none, [], false⟩,
      ⟨(some 25), .mov (.tmp 4), none, [], false⟩,
      ⟨(some 26), .buildSlice 3 [(.int .i64 0)] 1 [(0, 1, (.tmp 25))], none, [], false⟩,
      ⟨(some 27), .append 3 1 8 [(.int .i64 0)] false (.tmp 24) (.tmp 26), none, [], false⟩,
      ⟨(some 2), .mov (.tmp 27), none, [], false⟩])
    .skip)))))
noncomputable def store_Store_rising_c : ACode :=
  (.seq (.region [
      ⟨(some 2), .mov (.const (.slice none 0 0)), none, [], false⟩]) (.seq (.region [
      ⟨(some 6), .mov (.tmp 0), none, [], false⟩,
      ⟨(some 7), .nilCheck (.tmp 6), none, [], false⟩,
      ⟨(some 8), .fieldAddr 1 (.tmp 7), none, [], false⟩,
      ⟨(some 9), .load none (.tmp 8), none, [], false⟩,
      ⟨(some 10), .callV (.func 59) [(.tmp 9)], none, [], false⟩,
      ⟨(some 11), .callV (.func 58) [(.tmp 10)], none, [], false⟩,
      ⟨(some 3), .alloc 101 [(.slice none 0 0)], none, [], false⟩,
      ⟨none, .store 1 (.tmp 3) (.tmp 11), none, [], false⟩]) (.seq (.region [
      ⟨(some 12), .mkIface 107 (.tmp 3), none, [], false⟩,
      ⟨(some 13), .callV (.func 60) [(.tmp 12)], none, [], false⟩]) (.seq (.block 0 (.loop store_Store_rising_l0)) (.seq (.region [
      ⟨(some 28), .mov (.tmp 2), none, [], false⟩,
      ⟨(some 2), .mov (.tmp 28), none, [], false⟩]) .ret)))))
noncomputable def store_Store_rising : AFunc := ⟨29, [(2, none)], store_Store_rising_c, none⟩
theorem store_Store_rising_t0 : tableOf Try.prog 38 = some store_Store_rising := by kernel_rfl
theorem store_Store_rising_t : T0 38 = some store_Store_rising := withKept_t rfl (withTrue_t rfl store_Store_rising_t0)


/-! 39 landfall/store.own -/
abbrev fn_store_own : FuncId := 39
noncomputable def store_own_c : ACode :=
  (.seq (.region [
      ⟨(some 1), .box 36 (.tmp 0), none, [], false⟩,
      ⟨(some 2), .alloc 36 ((.string ⟨⟨[]⟩⟩) :: ((.int .i64 0) :: ((.int .i64 0) :: (z32 ++ (z32 ++ (z32 ++ (z32 ++ ((.int .i64 0) :: (z32 ++ [(.slice none 0 0), (.slice none 0 0)]))))))))), none, [], false⟩]) (.seq (.regionD [
      ⟨(some 3), .fieldAddr 165 (.tmp 1), none, [], false⟩,
      ⟨(some 4), .load none (.tmp 3), none, [], false⟩,
      ⟨(some 6), .fieldAddr 131 (.tmp 1), none, [], false⟩,
      ⟨(some 7), .fieldAddr 33 (.tmp 6), none, [], false⟩,
      ⟨(some 8), .load none (.tmp 7), none, [], false⟩,
      ⟨(some 5), .callV (.func 63) [(.tmp 4)], none, [((some 8), .load none (.tmp 7), none), ((some 7), .fieldAddr 33 (.tmp 6), none), ((some 6), .fieldAddr 131 (.tmp 1), none)], false⟩,
      ⟨(some 10), .fieldAddr 165 (.tmp 1), none, [], false⟩,
      ⟨(some 9), .callV (.func 64) [(.tmp 8)], none, [((some 10), .fieldAddr 165 (.tmp 1), none)], false⟩,
      ⟨none, .store 1 (.tmp 10) (.tmp 5), none, [], true⟩,
      ⟨(some 11), .fieldAddr 131 (.tmp 1), none, [], true⟩,
      ⟨(some 12), .fieldAddr 33 (.tmp 11), none, [], true⟩,
      ⟨none, .store 1 (.tmp 12) (.tmp 9), none, [], true⟩]) (.seq (.region [
      ⟨(some 13), .load (some 166) (.tmp 1), none, [], false⟩,
      ⟨none, .store 166 (.tmp 2) (.tmp 13), none, [], false⟩]) .ret)))
noncomputable def store_own : AFunc := ⟨14, [(2, some (some 166))], store_own_c, none⟩
theorem store_own_t0 : tableOf Try.prog 39 = some store_own := by kernel_rfl
theorem store_own_t : T0 39 = some store_own := withKept_t rfl (withTrue_t rfl store_own_t0)


/-! 40 landfall/landfalllaw22.of -/
abbrev fn_landfalllaw22_of : FuncId := 40
noncomputable def landfalllaw22_of_c : ACode :=
  (.seq (.region [
      ⟨(some 2), .alloc 36 ((.string ⟨⟨[]⟩⟩) :: ((.int .i64 0) :: ((.int .i64 0) :: (z32 ++ (z32 ++ (z32 ++ (z32 ++ ((.int .i64 0) :: (z32 ++ [(.slice none 0 0), (.slice none 0 0)]))))))))), none, [], false⟩]) (.seq (.region [
      ⟨(some 3), .mov (.tmp 0), none, [], false⟩,
      ⟨(some 4), .build ((.string ⟨⟨[]⟩⟩) :: ((.int .i64 0) :: ((.int .i64 0) :: (z32 ++ (z32 ++ (z32 ++ z32)))))) [(1, 1, (.tmp 3))], none, [], false⟩,
      ⟨(some 5), .build ((.string ⟨⟨[]⟩⟩) :: ((.int .i64 0) :: ((.int .i64 0) :: (z32 ++ (z32 ++ (z32 ++ (z32 ++ ((.int .i64 0) :: (z32 ++ [(.slice none 0 0), (.slice none 0 0)]))))))))) [(0, 131, (.tmp 4))], none, [], false⟩,
      ⟨none, .store 166 (.tmp 2) (.tmp 5), none, [], false⟩]) .ret))
noncomputable def landfalllaw22_of : AFunc := ⟨6, [(2, some (some 166))], landfalllaw22_of_c, none⟩
theorem landfalllaw22_of_t0 : tableOf Try.prog 40 = some landfalllaw22_of := by kernel_rfl
theorem landfalllaw22_of_t : T0 40 = some landfalllaw22_of := withKept_t rfl (withTrue_t rfl landfalllaw22_of_t0)


/-! 41 (*landfall/store.Store).with -/
abbrev fn_store_Store_with : FuncId := 41
noncomputable def store_Store_with_c : ACode :=
  (.seq (.region [
      ⟨(some 6), .mov (.const (.int .i64 0)), none, [], false⟩]) (.seq (.seq (.region [
      ⟨(some 9), .mov (.tmp 0), none, [], false⟩,
      ⟨(some 10), .callV (.func 37) [(.tmp 9)], none, [], false⟩]) (.cond (.tmp 10)
    (.seq (.region [
      ⟨(some 6), .mov (.const (.int .i64 1)), none, [], false⟩]) .ret)
    .skip)) (.seq (.region [
      ⟨(some 12), .mov (.tmp 0), none, [], false⟩,
      ⟨(some 13), .nilCheck (.tmp 12), none, [], false⟩,
      ⟨(some 14), .fieldAddr 1 (.tmp 13), none, [], false⟩,
      ⟨(some 15), .load none (.tmp 14), none, [], false⟩,
      ⟨(some 16), .mov (.tmp 1), none, [], false⟩,
      ⟨(some 17), .lookup (.int .i64) (.pointer none) true (.tmp 15) (.tmp 16), none, [], false⟩,
      ⟨(some 11), .mov (.tmp 17), none, [], false⟩,
      ⟨(some 18), .extract 0 (.tmp 11), none, [], false⟩,
      ⟨(some 19), .extract 1 (.tmp 11), none, [], false⟩,
      ⟨(some 7), .mov (.tmp 18), none, [], false⟩,
      ⟨(some 8), .mov (.tmp 19), none, [], false⟩]) (.seq (.seq (.region [
      ⟨(some 20), .mov (.tmp 8), none, [], false⟩,
      ⟨(some 21), .raw (so (.unOp .not 4 (.tmp 20)) 4), none, [], false⟩]) (.cond (.tmp 21)
    (.seq (.region [
      ⟨(some 6), .mov (.const (.int .i64 10)), none, [], false⟩]) .ret)
    .skip)) (.seq (.region [
      ⟨(some 22), .mov (.tmp 2), none, [], false⟩,
      ⟨(some 23), .mov (.tmp 7), none, [], false⟩,
      ⟨(some 24), .callV (.tmp 22) [(.tmp 23)], none, [], false⟩]) (.seq (.region [
      ⟨(some 6), .mov (.const (.int .i64 0)), none, [], false⟩]) .ret))))))
noncomputable def store_Store_with : AFunc := ⟨25, [(6, none)], store_Store_with_c, none⟩
theorem store_Store_with_t0 : tableOf Try.prog 41 = some store_Store_with := by kernel_rfl
theorem store_Store_with_t : T0 41 = some store_Store_with := withKept_t rfl (withTrue_t rfl store_Store_with_t0)


/-! 42 (*landfall/store.Store).Pin$1 -/
abbrev fn_store_Store_Pin_1 : FuncId := 42
noncomputable def store_Store_Pin_1_c : ACode :=
  (.region [
      ⟨(some 3), .mov (.tmp 0), none, [], false⟩,
      ⟨(some 4), .load none (.tmp 1), none, [], false⟩,
      ⟨(some 5), .nilCheck (.tmp 3), none, [], false⟩,
      ⟨(some 6), .fieldAddr 167 (.tmp 5), none, [], false⟩,
      ⟨none, .store 1 (.tmp 6) (.tmp 4), none, [], false⟩])
noncomputable def store_Store_Pin_1 : AFunc := ⟨7, [], store_Store_Pin_1_c, none⟩
theorem store_Store_Pin_1_t0 : tableOf Try.prog 42 = some store_Store_Pin_1 := by kernel_rfl
theorem store_Store_Pin_1_t : T0 42 = some store_Store_Pin_1 := withKept_t rfl (withTrue_t rfl store_Store_Pin_1_t0)


/-! 43 maps.DeleteFunc[map[int]*landfall/store.kept,int,*landfall/store.kept] -/
abbrev fn_maps_DeleteFunc_map_int__store_kept_int__store_kept_ : FuncId := 43
noncomputable def maps_DeleteFunc_map_int__store_kept_int__store_kept__l0 : ACode :=
  (.seq (.region [
      ⟨(some 8), .nextMap (.tmp 7), none, [], false⟩,
      ⟨(some 9), .extract 0 (.tmp 8), none, [], false⟩]) (.seq (.cond (.tmp 9)
    .skip
    (.exit 0)) (.block 1 (.seq (.region [
      ⟨(some 10), .entryMap (.tmp 7), none, [], false⟩,
      ⟨(some 11), .extract 0 (.tmp 10), none, [], false⟩,
      ⟨(some 12), .extract 1 (.tmp 10), none, [], false⟩,
      ⟨(some 4), .mov (.tmp 11), none, [], false⟩,
      ⟨(some 5), .mov (.tmp 12), none, [], false⟩]) (.seq (.region [
      ⟨(some 13), .mov (.tmp 1), none, [], false⟩,
      ⟨(some 14), .mov (.tmp 4), none, [], false⟩,
      ⟨(some 15), .mov (.tmp 5), none, [], false⟩,
      ⟨(some 16), .callV (.tmp 13) [(.tmp 14), (.tmp 15)], none, [], false⟩]) (.cond (.tmp 16)
    (.region [
      ⟨(some 17), .mov (.tmp 0), none, [], false⟩,
      ⟨(some 18), .mov (.tmp 4), none, [], false⟩,
      ⟨none, .delete (.int .i64) (.tmp 17) (.tmp 18), none, [], false⟩])
    .skip))))))
noncomputable def maps_DeleteFunc_map_int__store_kept_int__store_kept__c : ACode :=
  (.seq (.region [
      ⟨(some 6), .mov (.tmp 0), none, [], false⟩,
      ⟨(some 7), .rangeMap (.tmp 6), none, [], false⟩]) (.block 0 (.loop maps_DeleteFunc_map_int__store_kept_int__store_kept__l0)))
noncomputable def maps_DeleteFunc_map_int__store_kept_int__store_kept_ : AFunc := ⟨19, [], maps_DeleteFunc_map_int__store_kept_int__store_kept__c, none⟩
theorem maps_DeleteFunc_map_int__store_kept_int__store_kept__t0 : tableOf Try.prog 43 = some maps_DeleteFunc_map_int__store_kept_int__store_kept_ := by kernel_rfl
theorem maps_DeleteFunc_map_int__store_kept_int__store_kept__t : T0 43 = some maps_DeleteFunc_map_int__store_kept_int__store_kept_ := withKept_t rfl (withTrue_t rfl maps_DeleteFunc_map_int__store_kept_int__store_kept__t0)


/-! 44 (*landfall/store.Store).Clear$1 -/
abbrev fn_store_Store_Clear_1 : FuncId := 44
noncomputable def store_Store_Clear_1_c : ACode :=
  (.seq (.region [
      ⟨(some 5), .mov (.const (.bool false)), none, [], false⟩]) (.seq (.region [
      ⟨(some 6), .mov (.tmp 0), none, [], false⟩,
      ⟨(some 7), .load none (.tmp 2), none, [], false⟩,
      ⟨(some 8), .bin .neq (so (.binOp .neq 3 (.tmp 6) (.tmp 7) 3) 4) (.tmp 6) (.tmp 7), none, [], false⟩,
      ⟨(some 5), .mov (.tmp 8), none, [], false⟩]) .ret))
noncomputable def store_Store_Clear_1 : AFunc := ⟨9, [(5, none)], store_Store_Clear_1_c, none⟩
theorem store_Store_Clear_1_t0 : tableOf Try.prog 44 = some store_Store_Clear_1 := by kernel_rfl
theorem store_Store_Clear_1_t : T0 44 = some store_Store_Clear_1 := withKept_t rfl (withTrue_t rfl store_Store_Clear_1_t0)


/-! 45 (*landfall/store.Store).Verify$1 -/
abbrev fn_store_Store_Verify_1 : FuncId := 45
noncomputable def store_Store_Verify_1_c : ACode :=
  (.region [
      ⟨(some 2), .mov (.tmp 0), none, [], false⟩,
      ⟨(some 3), .nilCheck (.tmp 2), none, [], false⟩,
      ⟨(some 4), .fieldAddr 166 (.tmp 3), none, [], false⟩,
      ⟨none, .store 1 (.tmp 4) (.const (.bool true)), none, [], false⟩])
noncomputable def store_Store_Verify_1 : AFunc := ⟨5, [], store_Store_Verify_1_c, none⟩
theorem store_Store_Verify_1_t0 : tableOf Try.prog 45 = some store_Store_Verify_1 := by kernel_rfl
theorem store_Store_Verify_1_t : T0 45 = some store_Store_Verify_1 := withKept_t rfl (withTrue_t rfl store_Store_Verify_1_t0)


/-! 46 (*landfall/store.Store).loose -/
abbrev fn_store_Store_loose : FuncId := 46
noncomputable def store_Store_loose_ra0 : Code := (rangeParts (subCode ((Try.prog.funcs[46]?).bind (·.body)) [true, false, true, false])).1
noncomputable def store_Store_loose_rb0 : Code := (rangeParts (subCode ((Try.prog.funcs[46]?).bind (·.body)) [true, false, true, false])).2
noncomputable def store_Store_loose_a0 : ACode :=
  (.region [
      ⟨(some 3), .mov (.tmp 9), none, [], false⟩])
noncomputable def store_Store_loose_b0 : ACode :=
  (.block 1 (.seq (.region [
      ⟨(some 10), .mov (.tmp 3), none, [], false⟩,
      ⟨(some 11), .nilCheck (.tmp 10), none, [], false⟩,
      ⟨(some 12), .fieldAddr 167 (.tmp 11), none, [], false⟩,
      ⟨(some 13), .load none (.tmp 12), none, [], false⟩,
      ⟨(some 14), .raw (so (.unOp .not 4 (.tmp 13)) 4), none, [], false⟩]) (.cond (.tmp 14)
    (.region [
      ⟨(some 15), .load none (.tmp 2), none, [], false⟩,
      ⟨(some 16), .mov (.tmp 3), none, [], false⟩,
      ⟨(some 17), .buildSlice 80 [(.pointer none)] 1 [(0, 1, (.tmp 16))], none, [], false⟩,
      ⟨(some 18), .append 80 1 8 [(.pointer none)] false (.tmp 15) (.tmp 17), none, [], false⟩,
      ⟨none, .store 1 (.tmp 2) (.tmp 18), none, [], false⟩])
    .skip)))
theorem store_Store_loose_ca0 : comp Try.prog store_Store_loose_ra0 = some store_Store_loose_a0 := by kernel_rfl
theorem store_Store_loose_cb0 : comp Try.prog store_Store_loose_rb0 = some store_Store_loose_b0 := by kernel_rfl
theorem store_Store_loose_na0 : noDefer store_Store_loose_ra0 = true := by kernel_rfl
theorem store_Store_loose_nb0 : noDefer store_Store_loose_rb0 = true := by kernel_rfl
noncomputable def store_Store_loose_c : ACode :=
  (.seq (.region [
      ⟨(some 2), .alloc 89 [(.slice none 0 0)], none, [], false⟩]) (.seq (.seq (.region [
      ⟨(some 4), .mov (.tmp 0), none, [], false⟩,
      ⟨(some 5), .nilCheck (.tmp 4), none, [], false⟩,
      ⟨(some 6), .fieldAddr 1 (.tmp 5), none, [], false⟩,
      ⟨(some 7), .load none (.tmp 6), none, [], false⟩,
      ⟨(some 8), .callV (.func 65) [(.tmp 7)], none, [], false⟩]) (.block 0 (.rangeFunc (.tmp 8) [9] store_Store_loose_ra0 store_Store_loose_rb0))) (.seq (.region [
      ⟨(some 19), .load none (.tmp 2), none, [], false⟩,
      ⟨none, .store 1 (.tmp 2) (.tmp 19), none, [], false⟩]) .ret)))
noncomputable def store_Store_loose : AFunc := ⟨20, [(2, some none)], store_Store_loose_c, none⟩
theorem store_Store_loose_t0 : tableOf Try.prog 46 = some store_Store_loose := by kernel_rfl
theorem store_Store_loose_t : T0 46 = some store_Store_loose := withKept_t rfl (withTrue_t rfl store_Store_loose_t0)


/-! 47 slices.MinFunc[[]*landfall/store.kept,*landfall/store.kept] -/
abbrev fn_slices_MinFunc____store_kept__store_kept_ : FuncId := 47
noncomputable def slices_MinFunc____store_kept__store_kept__l0 : ACode :=
  (.seq (.seq (.region [
      ⟨(some 14), .mov (.tmp 6), none, [], false⟩,
      ⟨(some 15), .mov (.tmp 0), none, [], false⟩,
      ⟨(some 16), .lenSl (.tmp 15), none, [], false⟩,
      ⟨(some 17), .bin .lss (so (.binOp .lss 3 (.tmp 14) (.tmp 16) 3) 4) (.tmp 14) (.tmp 16), none, [], false⟩]) (.cond (.tmp 17)
    .skip
    (.exit 0))) (.seq (.block 1 (.seq (.region [
      ⟨(some 20), .mov (.tmp 1), none, [], false⟩,
      ⟨(some 21), .mov (.tmp 0), none, [], false⟩,
      ⟨(some 22), .mov (.tmp 6), none, [], false⟩,
      ⟨(some 23), .indexSl 1 (.tmp 21) (.tmp 22), none, [], false⟩,
      ⟨(some 24), .load none (.tmp 23), none, [], false⟩,
      ⟨(some 25), .mov (.tmp 5), none, [], false⟩,
      ⟨(some 26), .callV (.tmp 20) [(.tmp 24), (.tmp 25)], none, [], false⟩,
      ⟨(some 27), .bin .lss (so (.binOp .lss 3 (.tmp 26) (.const (.int .i64 0)) 3) 4) (.tmp 26) (.const (.int .i64 0)), none, [], false⟩]) (.cond (.tmp 27)
    (.region [
      ⟨(some 28), .mov (.tmp 0), none, [], false⟩,
      ⟨(some 29), .mov (.tmp 6), none, [], false⟩,
      ⟨(some 30), .indexSl 1 (.tmp 28) (.tmp 29), none, [], false⟩,
      ⟨(some 31), .load none (.tmp 30), none, [], false⟩,
      ⟨(some 5), .mov (.tmp 31), none, [], false⟩])
    .skip))) (.region [
      ⟨(some 18), .mov (.tmp 6), none, [], false⟩,
      ⟨(some 19), .bin .add (so (.binOp .add 3 (.tmp 18) (.const (.int .i64 1)) 3) 3) (.tmp 18) (.const (.int .i64 1)), none, [], false⟩,
      ⟨(some 6), .mov (.tmp 19), none, [], false⟩])))
noncomputable def slices_MinFunc____store_kept__store_kept__c : ACode :=
  (.seq (.region [
      ⟨(some 4), .mov (.const (.pointer none)), none, [], false⟩]) (.seq (.seq (.region [
      ⟨(some 7), .mov (.tmp 0), none, [], false⟩,
      ⟨(some 8), .lenSl (.tmp 7), none, [], false⟩,
      ⟨(some 9), .bin .lss (so (.binOp .lss 3 (.tmp 8) (.const (.int .i64 1)) 3) 4) (.tmp 8) (.const (.int .i64 1)), none, [], false⟩]) (.cond (.tmp 9)
    (.region [
      ⟨(some 10), .mkIface 9 (.const (.string ⟨⟨[115, 108, 105, 99, 101, 115, 46, 77, 105, 110, 70, 117, 110, 99, 58, 32, 101, 109, 112, 116, 121, 32, 108, 105, 115, 116]⟩⟩)), none, [], false⟩,
      ⟨none, .panic (.tmp 10), none, [], false⟩])
    .skip)) (.seq (.region [
      ⟨(some 11), .mov (.tmp 0), none, [], false⟩,
      ⟨(some 12), .indexSl 1 (.tmp 11) (.const (.int .i64 0)), none, [], false⟩,
      ⟨(some 13), .load none (.tmp 12), none, [], false⟩,
      ⟨(some 5), .mov (.tmp 13), none, [], false⟩]) (.seq (.seq (.region [
      ⟨(some 6), .mov (.const (.int .i64 1)), none, [], false⟩]) (.block 0 (.loop slices_MinFunc____store_kept__store_kept__l0))) (.seq (.region [
      ⟨(some 32), .mov (.tmp 5), none, [], false⟩,
      ⟨(some 4), .mov (.tmp 32), none, [], false⟩]) .ret)))))
noncomputable def slices_MinFunc____store_kept__store_kept_ : AFunc := ⟨33, [(4, none)], slices_MinFunc____store_kept__store_kept__c, none⟩
theorem slices_MinFunc____store_kept__store_kept__t0 : tableOf Try.prog 47 = some slices_MinFunc____store_kept__store_kept_ := by kernel_rfl
theorem slices_MinFunc____store_kept__store_kept__t : T0 47 = some slices_MinFunc____store_kept__store_kept_ := withKept_t rfl (withTrue_t rfl slices_MinFunc____store_kept__store_kept__t0)


/-! 48 (*landfall/store.kept).order -/
abbrev fn_store_kept_order : FuncId := 48
noncomputable def store_kept_order_c : ACode :=
  (.seq (.region [
      ⟨(some 4), .mov (.const (.int .i64 0)), none, [], false⟩]) (.seq (.region [
      ⟨(some 5), .mov (.func 66), none, [], false⟩]) (.seq (.regionD [
      ⟨(some 6), .mov (.tmp 5), none, [], false⟩,
      ⟨(some 7), .mov (.tmp 0), none, [], false⟩,
      ⟨(some 9), .mov (.tmp 5), none, [], false⟩,
      ⟨(some 10), .mov (.tmp 1), none, [], false⟩,
      ⟨(some 13), .mov (.tmp 0), none, [], false⟩,
      ⟨(some 14), .nilCheck (.tmp 13), none, [], false⟩,
      ⟨(some 15), .fieldAddr 0 (.tmp 14), none, [], false⟩,
      ⟨(some 16), .fieldAddr 0 (.tmp 15), none, [], false⟩,
      ⟨(some 17), .fieldAddr 1 (.tmp 16), none, [], false⟩,
      ⟨(some 18), .load none (.tmp 17), none, [], false⟩,
      ⟨(some 19), .mov (.tmp 1), none, [], false⟩,
      ⟨(some 20), .nilCheck (.tmp 19), none, [], false⟩,
      ⟨(some 21), .fieldAddr 0 (.tmp 20), none, [], false⟩,
      ⟨(some 22), .fieldAddr 0 (.tmp 21), none, [], false⟩,
      ⟨(some 23), .fieldAddr 1 (.tmp 22), none, [], false⟩,
      ⟨(some 24), .load none (.tmp 23), none, [], false⟩,
      ⟨(some 8), .callV (.tmp 6) [(.tmp 7)], none, [((some 24), .load none (.tmp 23), none), ((some 23), .fieldAddr 1 (.tmp 22), none), ((some 22), .fieldAddr 0 (.tmp 21), none), ((some 21), .fieldAddr 0 (.tmp 20), none), ((some 20), .nilCheck (.tmp 19), none), ((some 19), .mov (.tmp 1), none), ((some 18), .load none (.tmp 17), none), ((some 17), .fieldAddr 1 (.tmp 16), none), ((some 16), .fieldAddr 0 (.tmp 15), none), ((some 15), .fieldAddr 0 (.tmp 14), none), ((some 14), .nilCheck (.tmp 13), none), ((some 13), .mov (.tmp 0), none), ((some 10), .mov (.tmp 1), none), ((some 9), .mov (.tmp 5), none)], false⟩,
      ⟨(some 11), .callV (.tmp 9) [(.tmp 10)], none, [((some 24), .load none (.tmp 23), none), ((some 23), .fieldAddr 1 (.tmp 22), none), ((some 22), .fieldAddr 0 (.tmp 21), none), ((some 21), .fieldAddr 0 (.tmp 20), none), ((some 20), .nilCheck (.tmp 19), none), ((some 19), .mov (.tmp 1), none), ((some 18), .load none (.tmp 17), none), ((some 17), .fieldAddr 1 (.tmp 16), none), ((some 16), .fieldAddr 0 (.tmp 15), none), ((some 15), .fieldAddr 0 (.tmp 14), none), ((some 14), .nilCheck (.tmp 13), none), ((some 13), .mov (.tmp 0), none)], false⟩,
      ⟨(some 12), .callV (.func 68) [(.tmp 8), (.tmp 11)], none, [((some 24), .load none (.tmp 23), none), ((some 23), .fieldAddr 1 (.tmp 22), none), ((some 22), .fieldAddr 0 (.tmp 21), none), ((some 21), .fieldAddr 0 (.tmp 20), none), ((some 20), .nilCheck (.tmp 19), none), ((some 19), .mov (.tmp 1), none), ((some 18), .load none (.tmp 17), none), ((some 17), .fieldAddr 1 (.tmp 16), none), ((some 16), .fieldAddr 0 (.tmp 15), none), ((some 15), .fieldAddr 0 (.tmp 14), none), ((some 14), .nilCheck (.tmp 13), none), ((some 13), .mov (.tmp 0), none)], false⟩,
      ⟨(some 25), .callV (.func 68) [(.tmp 18), (.tmp 24)], none, [], true⟩,
      ⟨(some 26), .buildSlice 3 [(.int .i64 0), (.int .i64 0)] 2 [(0, 1, (.tmp 12)), (1, 1, (.tmp 25))], none, [], true⟩,
      ⟨(some 27), .callV (.func 67) [(.tmp 26)], none, [], true⟩,
      ⟨(some 4), .mov (.tmp 27), none, [], true⟩]) .ret)))
noncomputable def store_kept_order : AFunc := ⟨28, [(4, none)], store_kept_order_c, none⟩
theorem store_kept_order_t0 : tableOf Try.prog 48 = some store_kept_order := by kernel_rfl
theorem store_kept_order_t : T0 48 = some store_kept_order := withKept_t rfl (withTrue_t rfl store_kept_order_t0)


/-! 58 slices.Collect[int] -/
abbrev fn_slices_Collect_int_ : FuncId := 58
noncomputable def slices_Collect_int__c : ACode :=
  (.seq (.region [
      ⟨(some 2), .mov (.const (.slice none 0 0)), none, [], false⟩]) (.seq (.region [
      ⟨(some 3), .mov (.tmp 0), none, [], false⟩,
      ⟨(some 4), .callV (.func 70) [(.const (.slice none 0 0)), (.tmp 3)], none, [], false⟩,
      ⟨(some 2), .mov (.tmp 4), none, [], false⟩]) .ret))
noncomputable def slices_Collect_int_ : AFunc := ⟨5, [(2, none)], slices_Collect_int__c, none⟩
theorem slices_Collect_int__t0 : tableOf Try.prog 58 = some slices_Collect_int_ := by kernel_rfl
theorem slices_Collect_int__t : T0 58 = some slices_Collect_int_ := withKept_t rfl (withTrue_t rfl slices_Collect_int__t0)


/-! 59 maps.Keys[map[int]*landfall/store.kept,int,*landfall/store.kept] -/
abbrev fn_maps_Keys_map_int__store_kept_int__store_kept_ : FuncId := 59
noncomputable def maps_Keys_map_int__store_kept_int__store_kept__c : ACode :=
  (.seq (.region [
      ⟨(some 1), .box 73 (.tmp 0), none, [], false⟩,
      ⟨(some 2), .mov (.const .nilFunc), none, [], false⟩]) (.seq (.region [
      ⟨(some 3), .mkFunc (.func 71) [] [(.tmp 1)], none, [], false⟩,
      ⟨(some 2), .mov (.tmp 3), none, [], false⟩]) .ret))
noncomputable def maps_Keys_map_int__store_kept_int__store_kept_ : AFunc := ⟨4, [(2, none)], maps_Keys_map_int__store_kept_int__store_kept__c, none⟩
theorem maps_Keys_map_int__store_kept_int__store_kept__t0 : tableOf Try.prog 59 = some maps_Keys_map_int__store_kept_int__store_kept_ := by kernel_rfl
theorem maps_Keys_map_int__store_kept_int__store_kept__t : T0 59 = some maps_Keys_map_int__store_kept_int__store_kept_ := withKept_t rfl (withTrue_t rfl maps_Keys_map_int__store_kept_int__store_kept__t0)


/-! 60 container/heap.Init -/
abbrev fn_container_heap_Init : FuncId := 60
noncomputable def container_heap_Init_l0 : ACode :=
  (.seq (.seq (.region [
      ⟨(some 9), .mov (.tmp 3), none, [], false⟩,
      ⟨(some 10), .bin .geq (so (.binOp .geq 3 (.tmp 9) (.const (.int .i64 0)) 3) 4) (.tmp 9) (.const (.int .i64 0)), none, [], false⟩]) (.cond (.tmp 10)
    .skip
    (.exit 0))) (.seq (.block 1 (.region [
      ⟨(some 13), .mov (.tmp 0), none, [], false⟩,
      ⟨(some 14), .mov (.tmp 3), none, [], false⟩,
      ⟨(some 15), .mov (.tmp 2), none, [], false⟩,
      ⟨(some 16), .callV (.func 72) [(.tmp 13), (.tmp 14), (.tmp 15)], none, [], false⟩])) (.region [
      ⟨(some 11), .mov (.tmp 3), none, [], false⟩,
      ⟨(some 12), .bin .sub (so (.binOp .sub 3 (.tmp 11) (.const (.int .i64 1)) 3) 3) (.tmp 11) (.const (.int .i64 1)), none, [], false⟩,
      ⟨(some 3), .mov (.tmp 12), none, [], false⟩])))
noncomputable def container_heap_Init_c : ACode :=
  (.seq (.region [
      ⟨(some 4), .mov (.tmp 0), none, [], false⟩,
      ⟨(some 5), .invoke (.tmp 4) "Len" [], none, [], false⟩,
      ⟨(some 2), .mov (.tmp 5), none, [], false⟩]) (.seq (.region [
      ⟨(some 6), .mov (.tmp 2), none, [], false⟩,
      ⟨(some 7), .bin .quo (so (.binOp .quo 3 (.tmp 6) (.const (.int .i64 2)) 3) 3) (.tmp 6) (.const (.int .i64 2)), none, [], false⟩,
      ⟨(some 8), .bin .sub (so (.binOp .sub 3 (.tmp 7) (.const (.int .i64 1)) 3) 3) (.tmp 7) (.const (.int .i64 1)), none, [], false⟩,
      ⟨(some 3), .mov (.tmp 8), none, [], false⟩]) (.block 0 (.loop container_heap_Init_l0))))
noncomputable def container_heap_Init : AFunc := ⟨17, [], container_heap_Init_c, none⟩
theorem container_heap_Init_t0 : tableOf Try.prog 60 = some container_heap_Init := by kernel_rfl
theorem container_heap_Init_t : T0 60 = some container_heap_Init := withKept_t rfl (withTrue_t rfl container_heap_Init_t0)


/-! 61 (landfall/store.heights).Len -/
abbrev fn_store_heights_Len : FuncId := 61
noncomputable def store_heights_Len_c : ACode :=
  (.seq (.region [
      ⟨(some 2), .mov (.const (.int .i64 0)), none, [], false⟩]) (.seq (.region [
      ⟨(some 3), .mov (.tmp 0), none, [], false⟩,
      ⟨(some 4), .lenSl (.tmp 3), none, [], false⟩,
      ⟨(some 2), .mov (.tmp 4), none, [], false⟩]) .ret))
noncomputable def store_heights_Len : AFunc := ⟨5, [(2, none)], store_heights_Len_c, none⟩
theorem store_heights_Len_t0 : tableOf Try.prog 61 = some store_heights_Len := by kernel_rfl
theorem store_heights_Len_t : T0 61 = some store_heights_Len := withKept_t rfl (withTrue_t rfl store_heights_Len_t0)


/-! 62 container/heap.Pop -/
abbrev fn_container_heap_Pop : FuncId := 62
noncomputable def container_heap_Pop_c : ACode :=
  (.seq (.region [
      ⟨(some 2), .mov (.const .nilIface), none, [], false⟩]) (.seq (.region [
      ⟨(some 4), .mov (.tmp 0), none, [], false⟩,
      ⟨(some 5), .invoke (.tmp 4) "Len" [], none, [], false⟩,
      ⟨(some 6), .bin .sub (so (.binOp .sub 3 (.tmp 5) (.const (.int .i64 1)) 3) 3) (.tmp 5) (.const (.int .i64 1)), none, [], false⟩,
      ⟨(some 3), .mov (.tmp 6), none, [], false⟩]) (.seq (.region [
      ⟨(some 7), .mov (.tmp 0), none, [], false⟩,
      ⟨(some 8), .mov (.tmp 3), none, [], false⟩,
      ⟨(some 9), .invoke (.tmp 7) "Swap" [(.const (.int .i64 0)), (.tmp 8)], none, [], false⟩]) (.seq (.region [
      ⟨(some 10), .mov (.tmp 0), none, [], false⟩,
      ⟨(some 11), .mov (.tmp 3), none, [], false⟩,
      ⟨(some 12), .callV (.func 72) [(.tmp 10), (.const (.int .i64 0)), (.tmp 11)], none, [], false⟩]) (.seq (.region [
      ⟨(some 13), .mov (.tmp 0), none, [], false⟩,
      ⟨(some 14), .invoke (.tmp 13) "Pop" [], none, [], false⟩,
      ⟨(some 2), .mov (.tmp 14), none, [], false⟩]) .ret)))))
noncomputable def container_heap_Pop : AFunc := ⟨15, [(2, none)], container_heap_Pop_c, none⟩
theorem container_heap_Pop_t0 : tableOf Try.prog 62 = some container_heap_Pop := by kernel_rfl
theorem container_heap_Pop_t : T0 62 = some container_heap_Pop := withKept_t rfl (withTrue_t rfl container_heap_Pop_t0)


/-! 63 slices.Clone[[]landfall/api.Validator,landfall/api.Validator] -/
abbrev fn_slices_Clone___api_Validator_api_Validator_ : FuncId := 63
noncomputable def slices_Clone___api_Validator_api_Validator__c : ACode :=
  (.seq (.region [
      ⟨(some 2), .mov (.const (.slice none 0 0)), none, [], false⟩]) (.seq (.seq (.region [
      ⟨(some 3), .mov (.tmp 0), none, [], false⟩,
      ⟨(some 4), .eq .slice false (so (.binOp .eql 34 (.tmp 3) (.const (.slice none 0 0)) 34) 4) (.tmp 3) (.const (.slice none 0 0)), none, [], false⟩]) (.cond (.tmp 4)
    (.seq (.region [
      ⟨(some 2), .mov (.const (.slice none 0 0)), none, [], false⟩]) .ret)
    .skip)) (.seq (.region [
      ⟨(some 5), .buildSlice 113 [] 0 [], none, [], false⟩,
      ⟨(some 6), .mov (.tmp 0), none, [], false⟩,
      ⟨(some 7), .append 113 5 16 [(.int .u8 0), (.int .u8 0), (.int .u8 0), (.int .u8 0), (.int .i64 0)] false (.tmp 5) (.tmp 6), none, [], false⟩,
      ⟨(some 2), .mov (.tmp 7), none, [], false⟩]) .ret)))
noncomputable def slices_Clone___api_Validator_api_Validator_ : AFunc := ⟨8, [(2, none)], slices_Clone___api_Validator_api_Validator__c, none⟩
theorem slices_Clone___api_Validator_api_Validator__t0 : tableOf Try.prog 63 = some slices_Clone___api_Validator_api_Validator_ := by kernel_rfl
theorem slices_Clone___api_Validator_api_Validator__t : T0 63 = some slices_Clone___api_Validator_api_Validator_ := withKept_t rfl (withTrue_t rfl slices_Clone___api_Validator_api_Validator__t0)


/-! 64 slices.Clone[[]landfall/api.Vote,landfall/api.Vote] -/
abbrev fn_slices_Clone___api_Vote_api_Vote_ : FuncId := 64
noncomputable def slices_Clone___api_Vote_api_Vote__c : ACode :=
  (.seq (.region [
      ⟨(some 2), .mov (.const (.slice none 0 0)), none, [], false⟩]) (.seq (.seq (.region [
      ⟨(some 3), .mov (.tmp 0), none, [], false⟩,
      ⟨(some 4), .eq .slice false (so (.binOp .eql 31 (.tmp 3) (.const (.slice none 0 0)) 31) 4) (.tmp 3) (.const (.slice none 0 0)), none, [], false⟩]) (.cond (.tmp 4)
    (.seq (.region [
      ⟨(some 2), .mov (.const (.slice none 0 0)), none, [], false⟩]) .ret)
    .skip)) (.seq (.region [
      ⟨(some 5), .buildSlice 117 [] 0 [], none, [], false⟩,
      ⟨(some 6), .mov (.tmp 0), none, [], false⟩,
      ⟨(some 7), .append 117 2 16 [(.int .i64 0), (.int .u64 0)] false (.tmp 5) (.tmp 6), none, [], false⟩,
      ⟨(some 2), .mov (.tmp 7), none, [], false⟩]) .ret)))
noncomputable def slices_Clone___api_Vote_api_Vote_ : AFunc := ⟨8, [(2, none)], slices_Clone___api_Vote_api_Vote__c, none⟩
theorem slices_Clone___api_Vote_api_Vote__t0 : tableOf Try.prog 64 = some slices_Clone___api_Vote_api_Vote_ := by kernel_rfl
theorem slices_Clone___api_Vote_api_Vote__t : T0 64 = some slices_Clone___api_Vote_api_Vote_ := withKept_t rfl (withTrue_t rfl slices_Clone___api_Vote_api_Vote__t0)


/-! 65 maps.Values[map[int]*landfall/store.kept,int,*landfall/store.kept] -/
abbrev fn_maps_Values_map_int__store_kept_int__store_kept_ : FuncId := 65
noncomputable def maps_Values_map_int__store_kept_int__store_kept__c : ACode :=
  (.seq (.region [
      ⟨(some 1), .box 73 (.tmp 0), none, [], false⟩,
      ⟨(some 2), .mov (.const .nilFunc), none, [], false⟩]) (.seq (.region [
      ⟨(some 3), .mkFunc (.func 73) [] [(.tmp 1)], none, [], false⟩,
      ⟨(some 2), .mov (.tmp 3), none, [], false⟩]) .ret))
noncomputable def maps_Values_map_int__store_kept_int__store_kept_ : AFunc := ⟨4, [(2, none)], maps_Values_map_int__store_kept_int__store_kept__c, none⟩
theorem maps_Values_map_int__store_kept_int__store_kept__t0 : tableOf Try.prog 65 = some maps_Values_map_int__store_kept_int__store_kept_ := by kernel_rfl
theorem maps_Values_map_int__store_kept_int__store_kept__t : T0 65 = some maps_Values_map_int__store_kept_int__store_kept_ := withKept_t rfl (withTrue_t rfl maps_Values_map_int__store_kept_int__store_kept__t0)


/-! 66 (*landfall/store.kept).order$1 -/
abbrev fn_store_kept_order_1 : FuncId := 66
noncomputable def store_kept_order_1_c : ACode :=
  (.seq (.region [
      ⟨(some 2), .mov (.const (.int .i64 0)), none, [], false⟩]) (.seq (.seq (.region [
      ⟨(some 3), .mov (.tmp 0), none, [], false⟩,
      ⟨(some 4), .nilCheck (.tmp 3), none, [], false⟩,
      ⟨(some 5), .fieldAddr 166 (.tmp 4), none, [], false⟩,
      ⟨(some 6), .load none (.tmp 5), none, [], false⟩]) (.cond (.tmp 6)
    (.seq (.region [
      ⟨(some 2), .mov (.const (.int .i64 1)), none, [], false⟩]) .ret)
    .skip)) (.seq (.region [
      ⟨(some 2), .mov (.const (.int .i64 0)), none, [], false⟩]) .ret)))
noncomputable def store_kept_order_1 : AFunc := ⟨7, [(2, none)], store_kept_order_1_c, none⟩
theorem store_kept_order_1_t0 : tableOf Try.prog 66 = some store_kept_order_1 := by kernel_rfl
theorem store_kept_order_1_t : T0 66 = some store_kept_order_1 := withKept_t rfl (withTrue_t rfl store_kept_order_1_t0)


/-! 67 cmp.Or[int] -/
abbrev fn_cmp_Or_int_ : FuncId := 67
noncomputable def cmp_Or_int__l0 : ACode :=
  (.seq (.region [
      ⟨(some 9), .bin .lss (so (.binOp .lss 3 (.tmp 8) (.tmp 7) 3) 0) (.tmp 8) (.tmp 7), none, [], false⟩]) (.seq (.cond (.tmp 9)
    .skip
    (.exit 0)) (.seq (.block 1 (.seq (.region [
      ⟨(some 10), .indexSl 1 (.tmp 6) (.tmp 8), none, [], false⟩,
      ⟨(some 11), .load none (.tmp 10), none, [], false⟩,
      ⟨(some 5), .mov (.tmp 11), none, [], false⟩]) (.seq (.region [
      ⟨(some 12), .mov (.tmp 5), none, [], false⟩,
      ⟨(some 13), .mov (.tmp 3), none, [], false⟩,
      ⟨(some 14), .bin .neq (so (.binOp .neq 3 (.tmp 12) (.tmp 13) 3) 4) (.tmp 12) (.tmp 13), none, [], false⟩]) (.cond (.tmp 14)
    (.seq (.region [
      ⟨(some 15), .mov (.tmp 5), none, [], false⟩,
      ⟨(some 2), .mov (.tmp 15), none, [], false⟩]) .ret)
    .skip)))) (.region [
      ⟨(some 16), .bin .add (so (.binOp .add 3 (.tmp 8) (.const (.int .i64 1)) 3) 3) (.tmp 8) (.const (.int .i64 1)), none, [], false⟩,
      ⟨(some 8), .mov (.tmp 16), none, [], false⟩]))))
noncomputable def cmp_Or_int__c : ACode :=
  (.seq (.region [
      ⟨(some 2), .mov (.const (.int .i64 0)), none, [], false⟩]) (.seq (.region [
      ⟨(some 3), .mov (.const (.int .i64 0)), none, [], false⟩]) (.seq (.seq (.region [
      ⟨(some 6), .mov (.tmp 0), none, [], false⟩,
      ⟨(some 7), .lenSl (.tmp 6), none, [], false⟩,
      ⟨(some 8), .mov (.const (.int .i64 0)), none, [], false⟩]) (.block 0 (.loop cmp_Or_int__l0))) (.seq (.region [
      ⟨(some 17), .mov (.tmp 3), none, [], false⟩,
      ⟨(some 2), .mov (.tmp 17), none, [], false⟩]) .ret))))
noncomputable def cmp_Or_int_ : AFunc := ⟨18, [(2, none)], cmp_Or_int__c, none⟩
theorem cmp_Or_int__t0 : tableOf Try.prog 67 = some cmp_Or_int_ := by kernel_rfl
theorem cmp_Or_int__t : T0 67 = some cmp_Or_int_ := withKept_t rfl (withTrue_t rfl cmp_Or_int__t0)


/-! 68 cmp.Compare[int] -/
abbrev fn_cmp_Compare_int_ : FuncId := 68
noncomputable def cmp_Compare_int__c : ACode :=
  (.seq (.region [
      ⟨(some 4), .mov (.const (.int .i64 0)), none, [], false⟩]) (.seq (.region [
      ⟨(some 7), .mov (.tmp 0), none, [], false⟩,
      ⟨(some 8), .callV (.func 74) [(.tmp 7)], none, [], false⟩,
      ⟨(some 5), .mov (.tmp 8), none, [], false⟩]) (.seq (.region [
      ⟨(some 9), .mov (.tmp 1), none, [], false⟩,
      ⟨(some 10), .callV (.func 74) [(.tmp 9)], none, [], false⟩,
      ⟨(some 6), .mov (.tmp 10), none, [], false⟩]) (.seq (.seq (.region [
      ⟨(some 11), .mov (.tmp 5), none, [], false⟩]) (.cond (.tmp 11)
    (.seq (.seq (.region [
      ⟨(some 12), .mov (.tmp 6), none, [], false⟩]) (.cond (.tmp 12)
    (.seq (.region [
      ⟨(some 4), .mov (.const (.int .i64 0)), none, [], false⟩]) .ret)
    .skip)) (.seq (.region [
      ⟨(some 4), .mov (.const (.int .i64 (-1))), none, [], false⟩]) .ret))
    .skip)) (.seq (.seq (.region [
      ⟨(some 13), .mov (.tmp 6), none, [], false⟩]) (.cond (.tmp 13)
    (.seq (.region [
      ⟨(some 4), .mov (.const (.int .i64 1)), none, [], false⟩]) .ret)
    .skip)) (.seq (.seq (.region [
      ⟨(some 14), .mov (.tmp 0), none, [], false⟩,
      ⟨(some 15), .mov (.tmp 1), none, [], false⟩,
      ⟨(some 16), .bin .lss (so (.binOp .lss 3 (.tmp 14) (.tmp 15) 3) 4) (.tmp 14) (.tmp 15), none, [], false⟩]) (.cond (.tmp 16)
    (.seq (.region [
      ⟨(some 4), .mov (.const (.int .i64 (-1))), none, [], false⟩]) .ret)
    .skip)) (.seq (.seq (.region [
      ⟨(some 17), .mov (.tmp 0), none, [], false⟩,
      ⟨(some 18), .mov (.tmp 1), none, [], false⟩,
      ⟨(some 19), .bin .gtr (so (.binOp .gtr 3 (.tmp 17) (.tmp 18) 3) 4) (.tmp 17) (.tmp 18), none, [], false⟩]) (.cond (.tmp 19)
    (.seq (.region [
      ⟨(some 4), .mov (.const (.int .i64 1)), none, [], false⟩]) .ret)
    .skip)) (.seq (.region [
      ⟨(some 4), .mov (.const (.int .i64 0)), none, [], false⟩]) .ret))))))))
noncomputable def cmp_Compare_int_ : AFunc := ⟨20, [(4, none)], cmp_Compare_int__c, none⟩
theorem cmp_Compare_int__t0 : tableOf Try.prog 68 = some cmp_Compare_int_ := by kernel_rfl
theorem cmp_Compare_int__t : T0 68 = some cmp_Compare_int_ := withKept_t rfl (withTrue_t rfl cmp_Compare_int__t0)


/-! 70 slices.AppendSeq[[]int,int] -/
abbrev fn_slices_AppendSeq___int_int_ : FuncId := 70
noncomputable def slices_AppendSeq___int_int__ra0 : Code := (rangeParts (subCode ((Try.prog.funcs[70]?).bind (·.body)) [true, false, true, false])).1
noncomputable def slices_AppendSeq___int_int__rb0 : Code := (rangeParts (subCode ((Try.prog.funcs[70]?).bind (·.body)) [true, false, true, false])).2
noncomputable def slices_AppendSeq___int_int__a0 : ACode :=
  (.region [
      ⟨(some 5), .mov (.tmp 7), none, [], false⟩])
noncomputable def slices_AppendSeq___int_int__b0 : ACode :=
  (.block 1 (.region [
      ⟨(some 8), .load none (.tmp 2), none, [], false⟩,
      ⟨(some 9), .mov (.tmp 5), none, [], false⟩,
      ⟨(some 10), .buildSlice 3 [(.int .i64 0)] 1 [(0, 1, (.tmp 9))], none, [], false⟩,
      ⟨(some 11), .append 3 1 8 [(.int .i64 0)] false (.tmp 8) (.tmp 10), none, [], false⟩,
      ⟨none, .store 1 (.tmp 2) (.tmp 11), none, [], false⟩]))
theorem slices_AppendSeq___int_int__ca0 : comp Try.prog slices_AppendSeq___int_int__ra0 = some slices_AppendSeq___int_int__a0 := by kernel_rfl
theorem slices_AppendSeq___int_int__cb0 : comp Try.prog slices_AppendSeq___int_int__rb0 = some slices_AppendSeq___int_int__b0 := by kernel_rfl
theorem slices_AppendSeq___int_int__na0 : noDefer slices_AppendSeq___int_int__ra0 = true := by kernel_rfl
theorem slices_AppendSeq___int_int__nb0 : noDefer slices_AppendSeq___int_int__rb0 = true := by kernel_rfl
noncomputable def slices_AppendSeq___int_int__c : ACode :=
  (.seq (.region [
      ⟨(some 2), .box 78 (.tmp 0), none, [], false⟩,
      ⟨(some 4), .mov (.const (.slice none 0 0)), none, [], false⟩]) (.seq (.seq (.region [
      ⟨(some 6), .mov (.tmp 1), none, [], false⟩]) (.block 0 (.rangeFunc (.tmp 6) [7] slices_AppendSeq___int_int__ra0 slices_AppendSeq___int_int__rb0))) (.seq (.region [
      ⟨(some 12), .load none (.tmp 2), none, [], false⟩,
      ⟨(some 4), .mov (.tmp 12), none, [], false⟩]) .ret)))
noncomputable def slices_AppendSeq___int_int_ : AFunc := ⟨13, [(4, none)], slices_AppendSeq___int_int__c, none⟩
theorem slices_AppendSeq___int_int__t0 : tableOf Try.prog 70 = some slices_AppendSeq___int_int_ := by kernel_rfl
theorem slices_AppendSeq___int_int__t : T0 70 = some slices_AppendSeq___int_int_ := withKept_t rfl (withTrue_t rfl slices_AppendSeq___int_int__t0)


/-! 71 maps.Keys[map[int]*landfall/store.kept,int,*landfall/store.kept]$1 -/
abbrev fn_maps_Keys_map_int__store_kept_int__store_kept__1 : FuncId := 71
noncomputable def maps_Keys_map_int__store_kept_int__store_kept__1_l0 : ACode :=
  (.seq (.region [
      ⟨(some 6), .nextMap (.tmp 5), none, [], false⟩,
      ⟨(some 7), .extract 0 (.tmp 6), none, [], false⟩]) (.seq (.cond (.tmp 7)
    .skip
    (.exit 0)) (.block 1 (.seq (.region [
      ⟨(some 8), .entryMap (.tmp 5), none, [], false⟩,
      ⟨(some 9), .extract 0 (.tmp 8), none, [], false⟩,
      ⟨(some 3), .mov (.tmp 9), none, [], false⟩]) (.seq (.region [
      ⟨(some 10), .mov (.tmp 0), none, [], false⟩,
      ⟨(some 11), .mov (.tmp 3), none, [], false⟩,
      ⟨(some 12), .callV (.tmp 10) [(.tmp 11)], none, [], false⟩,
      ⟨(some 13), .raw (so (.unOp .not 4 (.tmp 12)) 4), none, [], false⟩]) (.cond (.tmp 13)
    .ret
    .skip))))))
noncomputable def maps_Keys_map_int__store_kept_int__store_kept__1_c : ACode :=
  (.seq (.region [
      ⟨(some 4), .load none (.tmp 1), none, [], false⟩,
      ⟨(some 5), .rangeMap (.tmp 4), none, [], false⟩]) (.block 0 (.loop maps_Keys_map_int__store_kept_int__store_kept__1_l0)))
noncomputable def maps_Keys_map_int__store_kept_int__store_kept__1 : AFunc := ⟨14, [], maps_Keys_map_int__store_kept_int__store_kept__1_c, none⟩
theorem maps_Keys_map_int__store_kept_int__store_kept__1_t0 : tableOf Try.prog 71 = some maps_Keys_map_int__store_kept_int__store_kept__1 := by kernel_rfl
theorem maps_Keys_map_int__store_kept_int__store_kept__1_t : T0 71 = some maps_Keys_map_int__store_kept_int__store_kept__1 := withKept_t rfl (withTrue_t rfl maps_Keys_map_int__store_kept_int__store_kept__1_t0)


/-! 72 container/heap.down -/
abbrev fn_container_heap_down : FuncId := 72
noncomputable def container_heap_down_l0 : ACode :=
  (.block 1 (.seq (.region [
      ⟨(some 12), .mov (.tmp 7), none, [], false⟩,
      ⟨(some 13), .bin .mul (so (.binOp .mul 3 (.const (.int .i64 2)) (.tmp 12) 3) 3) (.const (.int .i64 2)) (.tmp 12), none, [], false⟩,
      ⟨(some 14), .bin .add (so (.binOp .add 3 (.tmp 13) (.const (.int .i64 1)) 3) 3) (.tmp 13) (.const (.int .i64 1)), none, [], false⟩,
      ⟨(some 8), .mov (.tmp 14), none, [], false⟩]) (.seq (.seq (.region [
      ⟨(some 15), .mov (.tmp 8), none, [], false⟩,
      ⟨(some 16), .mov (.tmp 2), none, [], false⟩,
      ⟨(some 17), .bin .geq (so (.binOp .geq 3 (.tmp 15) (.tmp 16) 3) 4) (.tmp 15) (.tmp 16), none, [], false⟩,
      ⟨(some 18), .mov (.tmp 17), none, [], false⟩,
      ⟨(some 19), .mov (.tmp 8), (some (18, false)), [], false⟩,
      ⟨(some 20), .bin .lss (so (.binOp .lss 3 (.tmp 19) (.const (.int .i64 0)) 3) 4) (.tmp 19) (.const (.int .i64 0)), (some (18, false)), [], false⟩,
      ⟨(some 21), .pick (.tmp 18) (.const (.bool true)) (.tmp 20), none, [], false⟩]) (.cond (.tmp 21)
    (.exit 0)
    .skip)) (.seq (.region [
      ⟨(some 22), .mov (.tmp 8), none, [], false⟩,
      ⟨(some 9), .mov (.tmp 22), none, [], false⟩]) (.seq (.seq (.region [
      ⟨(some 23), .mov (.tmp 8), none, [], false⟩,
      ⟨(some 24), .bin .add (so (.binOp .add 3 (.tmp 23) (.const (.int .i64 1)) 3) 3) (.tmp 23) (.const (.int .i64 1)), none, [], false⟩,
      ⟨(some 10), .mov (.tmp 24), none, [], false⟩]) (.seq (.region [
      ⟨(some 25), .mov (.tmp 10), none, [], false⟩,
      ⟨(some 26), .mov (.tmp 2), none, [], false⟩,
      ⟨(some 27), .bin .lss (so (.binOp .lss 3 (.tmp 25) (.tmp 26) 3) 4) (.tmp 25) (.tmp 26), none, [], false⟩,
      ⟨(some 28), .mov (.tmp 27), none, [], false⟩,
      ⟨(some 29), .mov (.tmp 0), (some (28, true)), [], false⟩,
      ⟨(some 30), .mov (.tmp 10), (some (28, true)), [], false⟩,
      ⟨(some 31), .mov (.tmp 8), (some (28, true)), [], false⟩,
      ⟨(some 32), .invoke (.tmp 29) "Less" [(.tmp 30), (.tmp 31)], (some (28, true)), [], false⟩,
      ⟨(some 33), .pick (.tmp 28) (.tmp 32) (.const (.bool false)), none, [], false⟩]) (.cond (.tmp 33)
    (.region [
      ⟨(some 34), .mov (.tmp 10), none, [], false⟩,
      ⟨(some 9), .mov (.tmp 34), none, [], false⟩])
    .skip))) (.seq (.seq (.region [
      ⟨(some 35), .mov (.tmp 0), none, [], false⟩,
      ⟨(some 36), .mov (.tmp 9), none, [], false⟩,
      ⟨(some 37), .mov (.tmp 7), none, [], false⟩,
      ⟨(some 38), .invoke (.tmp 35) "Less" [(.tmp 36), (.tmp 37)], none, [], false⟩,
      ⟨(some 39), .raw (so (.unOp .not 4 (.tmp 38)) 4), none, [], false⟩]) (.cond (.tmp 39)
    (.exit 0)
    .skip)) (.seq (.region [
      ⟨(some 40), .mov (.tmp 0), none, [], false⟩,
      ⟨(some 41), .mov (.tmp 7), none, [], false⟩,
      ⟨(some 42), .mov (.tmp 9), none, [], false⟩,
      ⟨(some 43), .invoke (.tmp 40) "Swap" [(.tmp 41), (.tmp 42)], none, [], false⟩]) (.region [
      ⟨(some 44), .mov (.tmp 9), none, [], false⟩,
      ⟨(some 7), .mov (.tmp 44), none, [], false⟩]))))))))
noncomputable def container_heap_down_c : ACode :=
  (.seq (.region [
      ⟨(some 6), .mov (.const (.bool false)), none, [], false⟩]) (.seq (.region [
      ⟨(some 11), .mov (.tmp 1), none, [], false⟩,
      ⟨(some 7), .mov (.tmp 11), none, [], false⟩]) (.seq (.block 0 (.loop container_heap_down_l0)) (.seq (.region [
      ⟨(some 45), .mov (.tmp 7), none, [], false⟩,
      ⟨(some 46), .mov (.tmp 1), none, [], false⟩,
      ⟨(some 47), .bin .gtr (so (.binOp .gtr 3 (.tmp 45) (.tmp 46) 3) 4) (.tmp 45) (.tmp 46), none, [], false⟩,
      ⟨(some 6), .mov (.tmp 47), none, [], false⟩]) .ret))))
noncomputable def container_heap_down : AFunc := ⟨48, [(6, none)], container_heap_down_c, none⟩
theorem container_heap_down_t0 : tableOf Try.prog 72 = some container_heap_down := by kernel_rfl
theorem container_heap_down_t : T0 72 = some container_heap_down := withKept_t rfl (withTrue_t rfl container_heap_down_t0)


/-! 73 maps.Values[map[int]*landfall/store.kept,int,*landfall/store.kept]$1 -/
abbrev fn_maps_Values_map_int__store_kept_int__store_kept__1 : FuncId := 73
noncomputable def maps_Values_map_int__store_kept_int__store_kept__1_l0 : ACode :=
  (.seq (.region [
      ⟨(some 7), .nextMap (.tmp 6), none, [], false⟩,
      ⟨(some 8), .extract 0 (.tmp 7), none, [], false⟩]) (.seq (.cond (.tmp 8)
    .skip
    (.exit 0)) (.block 1 (.seq (.region [
      ⟨(some 9), .entryMap (.tmp 6), none, [], false⟩,
      ⟨(some 10), .extract 1 (.tmp 9), none, [], false⟩,
      ⟨(some 4), .mov (.tmp 10), none, [], false⟩]) (.seq (.region [
      ⟨(some 11), .mov (.tmp 0), none, [], false⟩,
      ⟨(some 12), .mov (.tmp 4), none, [], false⟩,
      ⟨(some 13), .callV (.tmp 11) [(.tmp 12)], none, [], false⟩,
      ⟨(some 14), .raw (so (.unOp .not 4 (.tmp 13)) 4), none, [], false⟩]) (.cond (.tmp 14)
    .ret
    .skip))))))
noncomputable def maps_Values_map_int__store_kept_int__store_kept__1_c : ACode :=
  (.seq (.region [
      ⟨(some 5), .load none (.tmp 1), none, [], false⟩,
      ⟨(some 6), .rangeMap (.tmp 5), none, [], false⟩]) (.block 0 (.loop maps_Values_map_int__store_kept_int__store_kept__1_l0)))
noncomputable def maps_Values_map_int__store_kept_int__store_kept__1 : AFunc := ⟨15, [], maps_Values_map_int__store_kept_int__store_kept__1_c, none⟩
theorem maps_Values_map_int__store_kept_int__store_kept__1_t0 : tableOf Try.prog 73 = some maps_Values_map_int__store_kept_int__store_kept__1 := by kernel_rfl
theorem maps_Values_map_int__store_kept_int__store_kept__1_t : T0 73 = some maps_Values_map_int__store_kept_int__store_kept__1 := withKept_t rfl (withTrue_t rfl maps_Values_map_int__store_kept_int__store_kept__1_t0)


/-! 74 cmp.isNaN[int] -/
abbrev fn_cmp_isNaN_int_ : FuncId := 74
noncomputable def cmp_isNaN_int__c : ACode :=
  (.seq (.region [
      ⟨(some 2), .mov (.const (.bool false)), none, [], false⟩]) (.seq (.region [
      ⟨(some 3), .mov (.tmp 0), none, [], false⟩,
      ⟨(some 4), .mov (.tmp 0), none, [], false⟩,
      ⟨(some 5), .bin .neq (so (.binOp .neq 3 (.tmp 3) (.tmp 4) 3) 4) (.tmp 3) (.tmp 4), none, [], false⟩,
      ⟨(some 2), .mov (.tmp 5), none, [], false⟩]) .ret))
noncomputable def cmp_isNaN_int_ : AFunc := ⟨6, [(2, none)], cmp_isNaN_int__c, none⟩
theorem cmp_isNaN_int__t0 : tableOf Try.prog 74 = some cmp_isNaN_int_ := by kernel_rfl
theorem cmp_isNaN_int__t : T0 74 = some cmp_isNaN_int_ := withKept_t rfl (withTrue_t rfl cmp_isNaN_int__t0)


/-! 92 (landfall/store.heights).Less -/
abbrev fn_store_heights_Less : FuncId := 92
noncomputable def store_heights_Less_c : ACode :=
  (.seq (.region [
      ⟨(some 6), .mov (.const (.bool false)), none, [], false⟩]) (.seq (.regionD [
      ⟨(some 7), .mov (.tmp 0), none, [], false⟩,
      ⟨(some 8), .mov (.tmp 1), none, [], false⟩,
      ⟨(some 9), .indexSl 1 (.tmp 7) (.tmp 8), none, [], false⟩,
      ⟨(some 10), .load none (.tmp 9), none, [], false⟩,
      ⟨(some 11), .mov (.tmp 0), none, [], false⟩,
      ⟨(some 12), .mov (.tmp 2), none, [], false⟩,
      ⟨(some 13), .indexSl 1 (.tmp 11) (.tmp 12), none, [], false⟩,
      ⟨(some 14), .load none (.tmp 13), none, [], false⟩,
      ⟨(some 15), .bin .lss (so (.binOp .lss 3 (.tmp 10) (.tmp 14) 3) 4) (.tmp 10) (.tmp 14), none, [], true⟩,
      ⟨(some 6), .mov (.tmp 15), none, [], true⟩]) .ret))
noncomputable def store_heights_Less : AFunc := ⟨16, [(6, none)], store_heights_Less_c, none⟩
theorem store_heights_Less_t0 : tableOf Try.prog 92 = some store_heights_Less := by kernel_rfl
theorem store_heights_Less_t : T0 92 = some store_heights_Less := withKept_t rfl (withTrue_t rfl store_heights_Less_t0)


/-! 93 (landfall/store.heights).Swap -/
abbrev fn_store_heights_Swap : FuncId := 93
noncomputable def store_heights_Swap_c : ACode :=
  (.regionD [
      ⟨(some 6), .mov (.tmp 0), none, [], false⟩,
      ⟨(some 7), .mov (.tmp 1), none, [], false⟩,
      ⟨(some 8), .mov (.tmp 0), none, [], false⟩,
      ⟨(some 9), .mov (.tmp 2), none, [], false⟩,
      ⟨(some 10), .mov (.tmp 0), none, [], false⟩,
      ⟨(some 11), .mov (.tmp 2), none, [], false⟩,
      ⟨(some 12), .indexSl 1 (.tmp 10) (.tmp 11), none, [], false⟩,
      ⟨(some 13), .load none (.tmp 12), none, [], false⟩,
      ⟨(some 14), .mov (.tmp 0), none, [], false⟩,
      ⟨(some 15), .mov (.tmp 1), none, [], false⟩,
      ⟨(some 16), .indexSl 1 (.tmp 14) (.tmp 15), none, [], false⟩,
      ⟨(some 17), .load none (.tmp 16), none, [], false⟩,
      ⟨(some 18), .indexSl 1 (.tmp 6) (.tmp 7), none, [], false⟩,
      ⟨none, .store 1 (.tmp 18) (.tmp 13), none, [((some 9), .mov (.tmp 2), none), ((some 8), .mov (.tmp 0), none)], false⟩,
      ⟨(some 19), .indexSl 1 (.tmp 8) (.tmp 9), none, [], true⟩,
      ⟨none, .store 1 (.tmp 19) (.tmp 17), none, [], true⟩])
noncomputable def store_heights_Swap : AFunc := ⟨20, [], store_heights_Swap_c, none⟩
theorem store_heights_Swap_t0 : tableOf Try.prog 93 = some store_heights_Swap := by kernel_rfl
theorem store_heights_Swap_t : T0 93 = some store_heights_Swap := withKept_t rfl (withTrue_t rfl store_heights_Swap_t0)


/-! 94 (*landfall/store.heights).Pop -/
abbrev fn_store_heights_Pop : FuncId := 94
noncomputable def store_heights_Pop_c : ACode :=
  (.seq (.region [
      ⟨(some 2), .mov (.const .nilIface), none, [], false⟩]) (.seq (.region [
      ⟨(some 5), .mov (.tmp 0), none, [], false⟩,
      ⟨(some 6), .nilCheck (.tmp 5), none, [], false⟩,
      ⟨(some 7), .load none (.tmp 6), none, [], false⟩,
      ⟨(some 8), .lenSl (.tmp 7), none, [], false⟩,
      ⟨(some 9), .bin .sub (so (.binOp .sub 3 (.tmp 8) (.const (.int .i64 1)) 3) 3) (.tmp 8) (.const (.int .i64 1)), none, [], false⟩,
      ⟨(some 3), .mov (.tmp 9), none, [], false⟩]) (.seq (.region [
      ⟨(some 10), .mov (.tmp 0), none, [], false⟩,
      ⟨(some 11), .nilCheck (.tmp 10), none, [], false⟩,
      ⟨(some 12), .load none (.tmp 11), none, [], false⟩,
      ⟨(some 13), .mov (.tmp 3), none, [], false⟩,
      ⟨(some 14), .indexSl 1 (.tmp 12) (.tmp 13), none, [], false⟩,
      ⟨(some 15), .load none (.tmp 14), none, [], false⟩,
      ⟨(some 4), .mov (.tmp 15), none, [], false⟩]) (.seq (.region [
      ⟨(some 16), .mov (.tmp 0), none, [], false⟩,
      ⟨(some 17), .mov (.tmp 0), none, [], false⟩,
      ⟨(some 18), .nilCheck (.tmp 17), none, [], false⟩,
      ⟨(some 19), .load none (.tmp 18), none, [], false⟩,
      ⟨(some 20), .mov (.tmp 3), none, [], false⟩,
      ⟨(some 21), .sliceSl 1 (.tmp 19) none (some (.tmp 20)) none, none, [], false⟩,
      ⟨(some 22), .nilCheck (.tmp 16), none, [], false⟩,
      ⟨none, .store 1 (.tmp 22) (.tmp 21), none, [], false⟩]) (.seq (.region [
      ⟨(some 23), .mov (.tmp 4), none, [], false⟩,
      ⟨(some 24), .mkIface 3 (.tmp 23), none, [], false⟩,
      ⟨(some 2), .mov (.tmp 24), none, [], false⟩]) .ret)))))
noncomputable def store_heights_Pop : AFunc := ⟨25, [(2, none)], store_heights_Pop_c, none⟩
theorem store_heights_Pop_t0 : tableOf Try.prog 94 = some store_heights_Pop := by kernel_rfl
theorem store_heights_Pop_t : T0 94 = some store_heights_Pop := withKept_t rfl (withTrue_t rfl store_heights_Pop_t0)


noncomputable def table : TT :=
  (.node (.node (.node (.node (.node (.node .nil 3 landfalllaw22_StoreKnown .nil) 8 landfalllaw22_first .nil) 9 store_New (.node (.node .nil 10 store_Store_Below .nil) 11 landfalllaw22_puts .nil)) 12 store_Store_Pin (.node (.node (.node .nil 13 store_Store_Clear .nil) 14 store_Store_Get .nil) 15 landfalllaw22_awake (.node (.node .nil 16 landfallkit_SameKept .nil) 17 store_Store_List .nil))) 18 store_Store_Verify (.node (.node (.node (.node .nil 21 store_Store_Put .nil) 37 store_Store_none .nil) 38 store_Store_rising (.node (.node .nil 39 store_own .nil) 40 landfalllaw22_of .nil)) 41 store_Store_with (.node (.node (.node .nil 42 store_Store_Pin_1 .nil) 43 maps_DeleteFunc_map_int__store_kept_int__store_kept_ .nil) 44 store_Store_Clear_1 (.node .nil 45 store_Store_Verify_1 .nil)))) 46 store_Store_loose (.node (.node (.node (.node (.node .nil 47 slices_MinFunc____store_kept__store_kept_ .nil) 48 store_kept_order .nil) 58 slices_Collect_int_ (.node (.node .nil 59 maps_Keys_map_int__store_kept_int__store_kept_ .nil) 60 container_heap_Init .nil)) 61 store_heights_Len (.node (.node (.node .nil 62 container_heap_Pop .nil) 63 slices_Clone___api_Validator_api_Validator_ .nil) 64 slices_Clone___api_Vote_api_Vote_ (.node .nil 65 maps_Values_map_int__store_kept_int__store_kept_ .nil))) 66 store_kept_order_1 (.node (.node (.node (.node .nil 67 cmp_Or_int_ .nil) 68 cmp_Compare_int_ .nil) 70 slices_AppendSeq___int_int_ (.node (.node .nil 71 maps_Keys_map_int__store_kept_int__store_kept__1 .nil) 72 container_heap_down .nil)) 73 maps_Values_map_int__store_kept_int__store_kept__1 (.node (.node (.node .nil 74 cmp_isNaN_int_ .nil) 92 store_heights_Less .nil) 93 store_heights_Swap (.node .nil 94 store_heights_Pop .nil)))))
theorem table_all : table.All Try.prog := ⟨store_Store_loose_t0, ⟨store_Store_Verify_t0, ⟨store_Store_Pin_t0, ⟨store_New_t0, ⟨landfalllaw22_first_t0, ⟨landfalllaw22_StoreKnown_t0, trivial, trivial⟩, trivial⟩, ⟨landfalllaw22_puts_t0, ⟨store_Store_Below_t0, trivial, trivial⟩, trivial⟩⟩, ⟨landfalllaw22_awake_t0, ⟨store_Store_Get_t0, ⟨store_Store_Clear_t0, trivial, trivial⟩, trivial⟩, ⟨store_Store_List_t0, ⟨landfallkit_SameKept_t0, trivial, trivial⟩, trivial⟩⟩⟩, ⟨store_Store_with_t0, ⟨store_Store_rising_t0, ⟨store_Store_none_t0, ⟨store_Store_Put_t0, trivial, trivial⟩, trivial⟩, ⟨landfalllaw22_of_t0, ⟨store_own_t0, trivial, trivial⟩, trivial⟩⟩, ⟨store_Store_Clear_1_t0, ⟨maps_DeleteFunc_map_int__store_kept_int__store_kept__t0, ⟨store_Store_Pin_1_t0, trivial, trivial⟩, trivial⟩, ⟨store_Store_Verify_1_t0, trivial, trivial⟩⟩⟩⟩, ⟨store_kept_order_1_t0, ⟨store_heights_Len_t0, ⟨slices_Collect_int__t0, ⟨store_kept_order_t0, ⟨slices_MinFunc____store_kept__store_kept__t0, trivial, trivial⟩, trivial⟩, ⟨container_heap_Init_t0, ⟨maps_Keys_map_int__store_kept_int__store_kept__t0, trivial, trivial⟩, trivial⟩⟩, ⟨slices_Clone___api_Vote_api_Vote__t0, ⟨slices_Clone___api_Validator_api_Validator__t0, ⟨container_heap_Pop_t0, trivial, trivial⟩, trivial⟩, ⟨maps_Values_map_int__store_kept_int__store_kept__t0, trivial, trivial⟩⟩⟩, ⟨maps_Values_map_int__store_kept_int__store_kept__1_t0, ⟨slices_AppendSeq___int_int__t0, ⟨cmp_Compare_int__t0, ⟨cmp_Or_int__t0, trivial, trivial⟩, trivial⟩, ⟨container_heap_down_t0, ⟨maps_Keys_map_int__store_kept_int__store_kept__1_t0, trivial, trivial⟩, trivial⟩⟩, ⟨store_heights_Swap_t0, ⟨store_heights_Less_t0, ⟨cmp_isNaN_int__t0, trivial, trivial⟩, trivial⟩, ⟨store_heights_Pop_t0, trivial, trivial⟩⟩⟩⟩⟩
end Go.Proofs.Ytmhnddkpiefkhaa.R
