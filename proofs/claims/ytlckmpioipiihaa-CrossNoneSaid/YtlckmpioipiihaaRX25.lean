/- Functions of the program, as the machine has them: written by a program of mine (GenVm.lean), each held against the given program by the kernel. -/
import Derived.Test.YtlckmpioipiihaaRows
import Derived.Test.YtlckmpioipiihaaVJ
set_option maxRecDepth 100000
set_option linter.unusedVariables false
namespace Go.Proofs.Ytlckmpioipiihaa.R
open Go Go.Vm

abbrev ty_internal_abi_BoundsErrorCode : TypeId := 6
abbrev ty_runtime_boundsError : TypeId := 8
abbrev ty_runtime_errorString : TypeId := 10
abbrev ty_runtime_plainError : TypeId := 11
abbrev ty_runtime_errorAddressString : TypeId := 14
abbrev ty_internal_runtime_maps_unhashableTypeError : TypeId := 19
abbrev ty_api_Hash : TypeId := 23
abbrev ty_api_Header : TypeId := 25
abbrev ty_api_Commit : TypeId := 28
abbrev ty_api_Block : TypeId := 31
abbrev ty_cross_state : TypeId := 35
abbrev ty_cross_witness : TypeId := 37
abbrev ty_cross_Cross : TypeId := 40
abbrev ty_api_Errno : TypeId := 44
abbrev ty_landfalllaw25_Act : TypeId := 64
abbrev ty_iter_Seq2_int__cross_witness_ : TypeId := 70
abbrev ty_api_Key : TypeId := 79
abbrev ty_api_Validator : TypeId := 81
abbrev ty_api_Vote : TypeId := 87
abbrev ty_header_rule : TypeId := 113
abbrev ty_wire_Writer : TypeId := 115
abbrev ty_blake_words : TypeId := 121
abbrev ty_blake_counter : TypeId := 125
abbrev ty_blake_State : TypeId := 127
abbrev ty_blake_four : TypeId := 142
abbrev ty_runtime_TypeAssertionError : TypeId := 151
abbrev ty_runtime_PanicNilError : TypeId := 154
abbrev ty_internal_abi_TFlag : TypeId := 155
abbrev ty_internal_abi_Kind : TypeId := 156
abbrev ty_internal_abi_NameOff : TypeId := 159
abbrev ty_internal_abi_TypeOff : TypeId := 160
abbrev ty_internal_abi_Type : TypeId := 162
instance : IsIface Try.prog 20 := ⟨by kernel_rfl⟩
/-- functions that are known to come to true -/
abbrev prims : List FuncId := []
abbrev kepts : List FuncId := []
noncomputable def T0 : Table := withKept (withTrue Try.prog prims) kepts
instance : IsBoolT Try.prog 4 := ⟨by kernel_rfl⟩
instance : TLeaves Try.prog 7 (.i .i64 :: (.i .i64 :: (.b :: (.i .u8 :: [])))) := ⟨by kernel_rfl, by kernel_rfl, by kernel_rfl⟩
instance : TLeaves Try.prog 8 (.i .i64 :: (.i .i64 :: (.b :: (.i .u8 :: [])))) := ⟨by kernel_rfl, by kernel_rfl, by kernel_rfl⟩
instance : TLeaves Try.prog 22 (u8s 32) := ⟨by kernel_rfl, by kernel_rfl, by kernel_rfl⟩
instance : TLeaves Try.prog 23 (u8s 32) := ⟨by kernel_rfl, by kernel_rfl, by kernel_rfl⟩
instance : TLeaves Try.prog 24 (.s :: (.i .i64 :: (.i .i64 :: (u8s 32 ++ (u8s 32 ++ (u8s 32 ++ (u8s 32))))))) := ⟨by kernel_rfl, by kernel_rfl, by kernel_rfl⟩
instance : TLeaves Try.prog 25 (.s :: (.i .i64 :: (.i .i64 :: (u8s 32 ++ (u8s 32 ++ (u8s 32 ++ (u8s 32))))))) := ⟨by kernel_rfl, by kernel_rfl, by kernel_rfl⟩
instance : TLeaves Try.prog 78 (u8s 4) := ⟨by kernel_rfl, by kernel_rfl, by kernel_rfl⟩
instance : TLeaves Try.prog 79 (u8s 4) := ⟨by kernel_rfl, by kernel_rfl, by kernel_rfl⟩
instance : TLeaves Try.prog 80 (u8s 4 ++ (.i .i64 :: [])) := ⟨by kernel_rfl, by kernel_rfl, by kernel_rfl⟩
instance : TLeaves Try.prog 81 (u8s 4 ++ (.i .i64 :: [])) := ⟨by kernel_rfl, by kernel_rfl, by kernel_rfl⟩
instance : TLeaves Try.prog 86 (.i .i64 :: (.i .u64 :: [])) := ⟨by kernel_rfl, by kernel_rfl, by kernel_rfl⟩
instance : TLeaves Try.prog 87 (.i .i64 :: (.i .u64 :: [])) := ⟨by kernel_rfl, by kernel_rfl, by kernel_rfl⟩
instance : TLeaves Try.prog 120 (.i .u32 :: (.i .u32 :: (.i .u32 :: (.i .u32 :: (.i .u32 :: (.i .u32 :: (.i .u32 :: (.i .u32 :: [])))))))) := ⟨by kernel_rfl, by kernel_rfl, by kernel_rfl⟩
instance : TLeaves Try.prog 121 (.i .u32 :: (.i .u32 :: (.i .u32 :: (.i .u32 :: (.i .u32 :: (.i .u32 :: (.i .u32 :: (.i .u32 :: [])))))))) := ⟨by kernel_rfl, by kernel_rfl, by kernel_rfl⟩
instance : TLeaves Try.prog 124 (.i .i64 :: []) := ⟨by kernel_rfl, by kernel_rfl, by kernel_rfl⟩
instance : TLeaves Try.prog 125 (.i .i64 :: []) := ⟨by kernel_rfl, by kernel_rfl, by kernel_rfl⟩
instance : TLeaves Try.prog 133 (u8s 4 ++ (u8s 4 ++ (.i .u8 :: []))) := ⟨by kernel_rfl, by kernel_rfl, by kernel_rfl⟩
instance : TLeaves Try.prog 136 (.i .u32 :: (.i .u32 :: (.i .u32 :: (.i .u32 :: (.i .u32 :: (.i .u32 :: (.i .u32 :: (.i .u32 :: (.i .u32 :: (.i .u32 :: (.i .u32 :: (.i .u32 :: (.i .u32 :: (.i .u32 :: (.i .u32 :: (.i .u32 :: [])))))))))))))))) := ⟨by kernel_rfl, by kernel_rfl, by kernel_rfl⟩

/-! 7 landfall/landfalllaw25.awake -/
abbrev fn_landfalllaw25_awake : FuncId := 7
noncomputable def landfalllaw25_awake_c : ACode :=
  (.seq (.region [
      ⟨(some 0), .mov (.const (.bool false)), none, [], false⟩]) (.seq (.region [
      ⟨(some 3), .callV (.func 15) [], none, [], false⟩,
      ⟨(some 4), .callV (.func 15) [], none, [], false⟩,
      ⟨(some 1), .mov (.tmp 3), none, [], false⟩,
      ⟨(some 2), .mov (.tmp 4), none, [], false⟩]) (.seq (.seq (.region [
      ⟨(some 5), .mov (.tmp 1), none, [], false⟩,
      ⟨(some 6), .eq .ptr false (so (.binOp .eql 34 (.tmp 5) (.const (.pointer none)) 34) 4) (.tmp 5) (.const (.pointer none)), none, [], false⟩,
      ⟨(some 7), .mov (.tmp 6), none, [], false⟩,
      ⟨(some 8), .mov (.tmp 2), (some (7, false)), [], false⟩,
      ⟨(some 9), .eq .ptr false (so (.binOp .eql 34 (.tmp 8) (.const (.pointer none)) 34) 4) (.tmp 8) (.const (.pointer none)), (some (7, false)), [], false⟩,
      ⟨(some 10), .pick (.tmp 7) (.const (.bool true)) (.tmp 9), none, [], false⟩,
      ⟨(some 11), .mov (.tmp 10), none, [], false⟩,
      ⟨(some 12), .mov (.tmp 1), (some (11, false)), [], false⟩,
      ⟨(some 13), .callV (.func 13) [(.tmp 12), (.const (.int .i64 1))], (some (11, false)), [], false⟩,
      ⟨(some 14), .buildSlice 3 [(.int .i64 0)] 1 [(0, 1, (.const (.int .i64 7)))], (some (11, false)), [], false⟩,
      ⟨(some 15), .callV (.func 23) [(.tmp 13), (.tmp 14)], (some (11, false)), [], false⟩,
      ⟨(some 16), .raw (so (.unOp .not 4 (.tmp 15)) 4), (some (11, false)), [], false⟩,
      ⟨(some 17), .pick (.tmp 11) (.const (.bool true)) (.tmp 16), none, [], false⟩,
      ⟨(some 18), .mov (.tmp 17), none, [], false⟩,
      ⟨(some 19), .mov (.tmp 1), (some (18, false)), [], false⟩,
      ⟨(some 20), .callV (.func 13) [(.tmp 19), (.const (.int .i64 2))], (some (18, false)), [], false⟩,
      ⟨(some 21), .buildSlice 3 [(.int .i64 0)] 1 [(0, 1, (.const (.int .i64 4)))], (some (18, false)), [], false⟩,
      ⟨(some 22), .callV (.func 23) [(.tmp 20), (.tmp 21)], (some (18, false)), [], false⟩,
      ⟨(some 23), .raw (so (.unOp .not 4 (.tmp 22)) 4), (some (18, false)), [], false⟩,
      ⟨(some 24), .pick (.tmp 18) (.const (.bool true)) (.tmp 23), none, [], false⟩]) (.cond (.tmp 24)
    (.seq (.region [
      ⟨(some 0), .mov (.const (.bool false)), none, [], false⟩]) .ret)
    .skip)) (.seq (.region [
      ⟨(some 25), .mov (.tmp 1), none, [], false⟩,
      ⟨(some 26), .callV (.func 10) [(.tmp 25), (.const (.int .i64 7))], none, [], false⟩,
      ⟨(some 27), .bin .eql (so (.binOp .eql 44 (.tmp 26) (.const (.int .i64 0)) 44) 4) (.tmp 26) (.const (.int .i64 0)), none, [], false⟩,
      ⟨(some 28), .mov (.tmp 27), none, [], false⟩,
      ⟨(some 29), .mov (.tmp 1), (some (28, true)), [], false⟩,
      ⟨(some 30), .callV (.func 11) [(.tmp 29)], (some (28, true)), [], false⟩,
      ⟨(some 31), .bin .eql (so (.binOp .eql 3 (.tmp 30) (.const (.int .i64 1)) 3) 4) (.tmp 30) (.const (.int .i64 1)), (some (28, true)), [], false⟩,
      ⟨(some 32), .pick (.tmp 28) (.tmp 31) (.const (.bool false)), none, [], false⟩,
      ⟨(some 33), .mov (.tmp 32), none, [], false⟩,
      ⟨(some 34), .mov (.tmp 2), (some (33, true)), [], false⟩,
      ⟨(some 35), .callV (.func 16) [(.const (.int .i64 2))], (some (33, true)), [], false⟩,
      ⟨(some 36), .callV (.func 9) [(.tmp 34), (.const (.int .i64 7)), (.tmp 35)], (some (33, true)), [], false⟩,
      ⟨(some 37), .bin .eql (so (.binOp .eql 44 (.tmp 36) (.const (.int .i64 0)) 44) 4) (.tmp 36) (.const (.int .i64 0)), (some (33, true)), [], false⟩,
      ⟨(some 38), .pick (.tmp 33) (.tmp 37) (.const (.bool false)), none, [], false⟩,
      ⟨(some 39), .mov (.tmp 38), none, [], false⟩,
      ⟨(some 40), .mov (.tmp 2), (some (39, true)), [], false⟩,
      ⟨(some 41), .callV (.func 11) [(.tmp 40)], (some (39, true)), [], false⟩,
      ⟨(some 42), .bin .eql (so (.binOp .eql 3 (.tmp 41) (.const (.int .i64 3)) 3) 4) (.tmp 41) (.const (.int .i64 3)), (some (39, true)), [], false⟩,
      ⟨(some 43), .pick (.tmp 39) (.tmp 42) (.const (.bool false)), none, [], false⟩,
      ⟨(some 44), .mov (.tmp 43), none, [], false⟩,
      ⟨(some 45), .mov (.tmp 2), (some (44, true)), [], false⟩,
      ⟨(some 46), .callV (.func 10) [(.tmp 45), (.const (.int .i64 1))], (some (44, true)), [], false⟩,
      ⟨(some 47), .bin .eql (so (.binOp .eql 44 (.tmp 46) (.const (.int .i64 11)) 44) 4) (.tmp 46) (.const (.int .i64 11)), (some (44, true)), [], false⟩,
      ⟨(some 48), .pick (.tmp 44) (.tmp 47) (.const (.bool false)), none, [], false⟩,
      ⟨(some 0), .mov (.tmp 48), none, [], false⟩]) .ret))))
noncomputable def landfalllaw25_awake : AFunc := ⟨49, [(0, none)], landfalllaw25_awake_c, none⟩
theorem landfalllaw25_awake_t0 : tableOf Try.prog 7 = some landfalllaw25_awake := by kernel_rfl
theorem landfalllaw25_awake_t : T0 7 = some landfalllaw25_awake := withKept_t rfl (withTrue_t rfl landfalllaw25_awake_t0)


/-! 9 (*landfall/cross.Cross).Say -/
abbrev fn_cross_Cross_Say : FuncId := 9
noncomputable def cross_Cross_Say_c : ACode :=
  (.seq (.region [
      ⟨(some 5), .box 31 (.tmp 2), none, [], false⟩,
      ⟨(some 6), .mov (.const (.int .i64 0)), none, [], false⟩]) (.seq (.seq (.region [
      ⟨(some 10), .mov (.tmp 0), none, [], false⟩,
      ⟨(some 11), .mov (.tmp 1), none, [], false⟩,
      ⟨(some 12), .callV (.func 26) [(.tmp 10), (.tmp 11)], none, [], false⟩,
      ⟨(some 7), .mov (.tmp 12), none, [], false⟩]) (.seq (.region [
      ⟨(some 13), .mov (.tmp 7), none, [], false⟩,
      ⟨(some 14), .bin .neq (so (.binOp .neq 44 (.tmp 13) (.const (.int .i64 0)) 44) 4) (.tmp 13) (.const (.int .i64 0)), none, [], false⟩]) (.cond (.tmp 14)
    (.seq (.region [
      ⟨(some 15), .mov (.tmp 7), none, [], false⟩,
      ⟨(some 6), .mov (.tmp 15), none, [], false⟩]) .ret)
    .skip))) (.seq (.region [
      ⟨(some 17), .load (some 166) (.tmp 5), none, [], false⟩,
      ⟨(some 18), .callV (.func 18) [(.tmp 17)], none, [], false⟩,
      ⟨(some 16), .mov (.tmp 18), none, [], false⟩,
      ⟨(some 19), .extract 0 (.tmp 16), none, [], false⟩,
      ⟨(some 20), .extract 1 (.tmp 16), none, [], false⟩,
      ⟨(some 8), .alloc 23 z32, none, [], false⟩,
      ⟨none, .store 32 (.tmp 8) (.tmp 19), none, [], false⟩,
      ⟨(some 9), .mov (.tmp 20), none, [], false⟩]) (.seq (.seq (.region [
      ⟨(some 21), .mov (.tmp 9), none, [], false⟩,
      ⟨(some 22), .bin .neq (so (.binOp .neq 44 (.tmp 21) (.const (.int .i64 0)) 44) 4) (.tmp 21) (.const (.int .i64 0)), none, [], false⟩]) (.cond (.tmp 22)
    (.seq (.region [
      ⟨(some 23), .mov (.tmp 9), none, [], false⟩,
      ⟨(some 6), .mov (.tmp 23), none, [], false⟩]) .ret)
    .skip)) (.seq (.seq (.regionD [
      ⟨(some 24), .load (some 32) (.tmp 8), none, [], false⟩,
      ⟨(some 25), .mov (.tmp 0), none, [], false⟩,
      ⟨(some 26), .nilCheck (.tmp 25), none, [], false⟩,
      ⟨(some 27), .fieldAddr 0 (.tmp 26), none, [], false⟩,
      ⟨(some 28), .load (some 32) (.tmp 27), none, [], false⟩,
      ⟨(some 29), .bin .eql (so (.binOp .eql 23 (.tmp 24) (.tmp 28) 23) 4) (.tmp 24) (.tmp 28), none, [], true⟩]) (.cond (.tmp 29)
    (.region [
      ⟨(some 30), .mov (.tmp 0), none, [], false⟩,
      ⟨(some 31), .mov (.tmp 1), none, [], false⟩,
      ⟨(some 32), .nilCheck (.tmp 30), none, [], false⟩,
      ⟨(some 33), .fieldAddr 32 (.tmp 32), none, [], false⟩,
      ⟨(some 34), .indexArr 16 167 (.tmp 33) (.tmp 31), none, [], false⟩,
      ⟨(some 35), .fieldAddr 0 (.tmp 34), none, [], false⟩,
      ⟨none, .store 1 (.tmp 35) (.const (.int .i64 2)), none, [], false⟩])
    (.regionD [
      ⟨(some 36), .mov (.tmp 0), none, [], false⟩,
      ⟨(some 37), .mov (.tmp 1), none, [], false⟩,
      ⟨(some 38), .load (some 166) (.tmp 5), none, [], false⟩,
      ⟨(some 41), .nilCheck (.tmp 36), none, [], false⟩,
      ⟨(some 42), .fieldAddr 32 (.tmp 41), none, [], false⟩,
      ⟨(some 39), .callV (.func 25) [(.tmp 38)], none, [((some 42), .fieldAddr 32 (.tmp 41), none), ((some 41), .nilCheck (.tmp 36), none), ((some 37), .mov (.tmp 1), none), ((some 36), .mov (.tmp 0), none)], false⟩,
      ⟨(some 40), .build ((.int .i64 0) :: ((.string ⟨⟨[]⟩⟩) :: ((.int .i64 0) :: ((.int .i64 0) :: (z32 ++ (z32 ++ (z32 ++ (z32 ++ ((.int .i64 0) :: (z32 ++ [(.slice none 0 0), (.slice none 0 0)])))))))))) [(0, 1, (.const (.int .i64 4))), (1, 166, (.tmp 39))], none, [], false⟩,
      ⟨(some 43), .indexArr 16 167 (.tmp 42) (.tmp 37), none, [], true⟩,
      ⟨none, .store 167 (.tmp 43) (.tmp 40), none, [], true⟩]))) (.seq (.region [
      ⟨(some 6), .mov (.const (.int .i64 0)), none, [], false⟩]) .ret))))))
noncomputable def cross_Cross_Say : AFunc := ⟨44, [(6, none)], cross_Cross_Say_c, none⟩
theorem cross_Cross_Say_t0 : tableOf Try.prog 9 = some cross_Cross_Say := by kernel_rfl
theorem cross_Cross_Say_t : T0 9 = some cross_Cross_Say := withKept_t rfl (withTrue_t rfl cross_Cross_Say_t0)


/-! 10 (*landfall/cross.Cross).Leave -/
abbrev fn_cross_Cross_Leave : FuncId := 10
noncomputable def cross_Cross_Leave_c : ACode :=
  (.seq (.region [
      ⟨(some 4), .mov (.const (.int .i64 0)), none, [], false⟩]) (.seq (.region [
      ⟨(some 6), .mov (.tmp 0), none, [], false⟩,
      ⟨(some 7), .mov (.tmp 1), none, [], false⟩,
      ⟨(some 8), .callV (.func 26) [(.tmp 6), (.tmp 7)], none, [], false⟩,
      ⟨(some 5), .mov (.tmp 8), none, [], false⟩]) (.seq (.seq (.region [
      ⟨(some 9), .mov (.tmp 5), none, [], false⟩,
      ⟨(some 10), .bin .eql (so (.binOp .eql 44 (.tmp 9) (.const (.int .i64 0)) 44) 4) (.tmp 9) (.const (.int .i64 0)), none, [], false⟩]) (.cond (.tmp 10)
    (.region [
      ⟨(some 11), .mov (.tmp 0), none, [], false⟩,
      ⟨(some 12), .mov (.tmp 1), none, [], false⟩,
      ⟨(some 13), .nilCheck (.tmp 11), none, [], false⟩,
      ⟨(some 14), .fieldAddr 32 (.tmp 13), none, [], false⟩,
      ⟨(some 15), .indexArr 16 167 (.tmp 14) (.tmp 12), none, [], false⟩,
      ⟨(some 16), .fieldAddr 0 (.tmp 15), none, [], false⟩,
      ⟨none, .store 1 (.tmp 16) (.const (.int .i64 3)), none, [], false⟩])
    .skip)) (.seq (.region [
      ⟨(some 17), .mov (.tmp 5), none, [], false⟩,
      ⟨(some 4), .mov (.tmp 17), none, [], false⟩]) .ret))))
noncomputable def cross_Cross_Leave : AFunc := ⟨18, [(4, none)], cross_Cross_Leave_c, none⟩
theorem cross_Cross_Leave_t0 : tableOf Try.prog 10 = some cross_Cross_Leave := by kernel_rfl
theorem cross_Cross_Leave_t : T0 10 = some cross_Cross_Leave := withKept_t rfl (withTrue_t rfl cross_Cross_Leave_t0)


/-! 11 (*landfall/cross.Cross).Result -/
abbrev fn_cross_Cross_Result : FuncId := 11
noncomputable def cross_Cross_Result_c : ACode :=
  (.seq (.region [
      ⟨(some 2), .mov (.const (.int .i64 0)), none, [], false⟩]) (.seq (.block 0 (.seq (.region [
      ⟨(some 4), .mov (.tmp 0), none, [], false⟩,
      ⟨(some 5), .callV (.func 27) [(.tmp 4)], none, [], false⟩,
      ⟨(some 6), .mov (.tmp 5), none, [], false⟩,
      ⟨(some 7), .mov (.tmp 0), (some (6, false)), [], false⟩,
      ⟨(some 8), .callV (.func 24) [(.tmp 7)], (some (6, false)), [], false⟩,
      ⟨(some 9), .callV (.func 29) [(.const (.int .i64 4))], (some (6, false)), [], false⟩,
      ⟨(some 10), .callV (.func 28) [(.tmp 8), (.tmp 9)], (some (6, false)), [], false⟩,
      ⟨(some 11), .raw (so (.unOp .not 4 (.tmp 10)) 4), (some (6, false)), [], false⟩,
      ⟨(some 12), .mov (.tmp 11), (some (6, false)), [], false⟩,
      ⟨(some 13), .mov (.tmp 0), (some (12, true)), [], false⟩,
      ⟨(some 14), .callV (.func 24) [(.tmp 13)], (some (12, true)), [], false⟩,
      ⟨(some 15), .callV (.func 29) [(.const (.int .i64 1))], (some (12, true)), [], false⟩,
      ⟨(some 16), .callV (.func 28) [(.tmp 14), (.tmp 15)], (some (12, true)), [], false⟩,
      ⟨(some 17), .pick (.tmp 12) (.tmp 16) (.const (.bool false)), (some (6, false)), [], false⟩,
      ⟨(some 18), .pick (.tmp 6) (.const (.bool true)) (.tmp 17), none, [], false⟩,
      ⟨(some 3), .mov (.tmp 18), none, [], false⟩]) (.cond (.tmp 3)
    (.seq (.region [
      ⟨(some 2), .mov (.const (.int .i64 0)), none, [], false⟩]) .ret)
    (.seq (.region [
      ⟨(some 20), .mov (.tmp 0), none, [], false⟩,
      ⟨(some 21), .callV (.func 24) [(.tmp 20)], none, [], false⟩,
      ⟨(some 22), .callV (.func 29) [(.const (.int .i64 4))], none, [], false⟩,
      ⟨(some 23), .callV (.func 28) [(.tmp 21), (.tmp 22)], none, [], false⟩,
      ⟨(some 19), .mov (.tmp 23), none, [], false⟩]) (.cond (.tmp 19)
    (.seq (.region [
      ⟨(some 2), .mov (.const (.int .i64 3)), none, [], false⟩]) .ret)
    (.seq (.region [
      ⟨(some 25), .mov (.tmp 0), none, [], false⟩,
      ⟨(some 26), .callV (.func 24) [(.tmp 25)], none, [], false⟩,
      ⟨(some 27), .callV (.func 29) [(.const (.int .i64 2))], none, [], false⟩,
      ⟨(some 28), .callV (.func 28) [(.tmp 26), (.tmp 27)], none, [], false⟩,
      ⟨(some 24), .mov (.tmp 28), none, [], false⟩]) (.cond (.tmp 24)
    (.seq (.region [
      ⟨(some 2), .mov (.const (.int .i64 1)), none, [], false⟩]) .ret)
    .skip))))))) (.seq (.region [
      ⟨(some 2), .mov (.const (.int .i64 2)), none, [], false⟩]) .ret)))
noncomputable def cross_Cross_Result : AFunc := ⟨29, [(2, none)], cross_Cross_Result_c, none⟩
theorem cross_Cross_Result_t0 : tableOf Try.prog 11 = some cross_Cross_Result := by kernel_rfl
theorem cross_Cross_Result_t : T0 11 = some cross_Cross_Result := withKept_t rfl (withTrue_t rfl cross_Cross_Result_t0)


/-! 13 (*landfall/cross.Cross).All -/
abbrev fn_cross_Cross_All : FuncId := 13
noncomputable def cross_Cross_All_ra0 : Code := (rangeParts (subCode ((Try.prog.funcs[13]?).bind (·.body)) [true, false, true, false])).1
noncomputable def cross_Cross_All_rb0 : Code := (rangeParts (subCode ((Try.prog.funcs[13]?).bind (·.body)) [true, false, true, false])).2
noncomputable def cross_Cross_All_a0 : ACode :=
  (.seq (.region [
      ⟨(some 5), .mov (.tmp 9), none, [], false⟩]) (.region [
      ⟨(some 6), .alloc 37 ((.int .i64 0) :: ((.string ⟨⟨[]⟩⟩) :: ((.int .i64 0) :: ((.int .i64 0) :: (z32 ++ (z32 ++ (z32 ++ (z32 ++ ((.int .i64 0) :: (z32 ++ [(.slice none 0 0), (.slice none 0 0)])))))))))), none, [], false⟩,
      ⟨none, .store 167 (.tmp 6) (.tmp 10), none, [], false⟩]))
noncomputable def cross_Cross_All_b0 : ACode :=
  (.block 1 (.seq (.region [
      ⟨(some 11), .fieldAddr 0 (.tmp 6), none, [], false⟩,
      ⟨(some 12), .load none (.tmp 11), none, [], false⟩,
      ⟨(some 13), .load none (.tmp 3), none, [], false⟩,
      ⟨(some 14), .bin .eql (so (.binOp .eql 3 (.tmp 12) (.tmp 13) 3) 4) (.tmp 12) (.tmp 13), none, [], false⟩]) (.cond (.tmp 14)
    (.region [
      ⟨(some 15), .load none (.tmp 4), none, [], false⟩,
      ⟨(some 16), .mov (.tmp 5), none, [], false⟩,
      ⟨(some 17), .buildSlice 3 [(.int .i64 0)] 1 [(0, 1, (.tmp 16))], none, [], false⟩,
      ⟨(some 18), .append 3 1 8 [(.int .i64 0)] false (.tmp 15) (.tmp 17), none, [], false⟩,
      ⟨none, .store 1 (.tmp 4) (.tmp 18), none, [], false⟩])
    .skip)))
theorem cross_Cross_All_ca0 : comp Try.prog cross_Cross_All_ra0 = some cross_Cross_All_a0 := by kernel_rfl
theorem cross_Cross_All_cb0 : comp Try.prog cross_Cross_All_rb0 = some cross_Cross_All_b0 := by kernel_rfl
theorem cross_Cross_All_na0 : noDefer cross_Cross_All_ra0 = true := by kernel_rfl
theorem cross_Cross_All_nb0 : noDefer cross_Cross_All_rb0 = true := by kernel_rfl
noncomputable def cross_Cross_All_c : ACode :=
  (.seq (.region [
      ⟨(some 3), .box 3 (.tmp 1), none, [], false⟩,
      ⟨(some 4), .alloc 49 [(.slice none 0 0)], none, [], false⟩]) (.seq (.seq (.region [
      ⟨(some 7), .mov (.tmp 0), none, [], false⟩,
      ⟨(some 8), .callV (.func 24) [(.tmp 7)], none, [], false⟩]) (.block 0 (.rangeFunc (.tmp 8) [9, 10] cross_Cross_All_ra0 cross_Cross_All_rb0))) (.seq (.region [
      ⟨(some 19), .load none (.tmp 4), none, [], false⟩,
      ⟨none, .store 1 (.tmp 4) (.tmp 19), none, [], false⟩]) .ret)))
noncomputable def cross_Cross_All : AFunc := ⟨20, [(4, some none)], cross_Cross_All_c, none⟩
theorem cross_Cross_All_t0 : tableOf Try.prog 13 = some cross_Cross_All := by kernel_rfl
theorem cross_Cross_All_t : T0 13 = some cross_Cross_All := withKept_t rfl (withTrue_t rfl cross_Cross_All_t0)


/-! 15 landfall/landfalllaw25.first -/
abbrev fn_landfalllaw25_first : FuncId := 15
noncomputable def landfalllaw25_first_c : ACode :=
  (.seq (.region [
      ⟨(some 0), .mov (.const (.pointer none)), none, [], false⟩]) (.seq (.region [
      ⟨(some 4), .callV (.func 16) [(.const (.int .i64 1))], none, [], false⟩,
      ⟨(some 5), .buildSlice 3 [(.int .i64 0), (.int .i64 0), (.int .i64 0)] 3 [(0, 1, (.const (.int .i64 1))), (1, 1, (.const (.int .i64 4))), (2, 1, (.const (.int .i64 7)))], none, [], false⟩,
      ⟨(some 6), .callV (.func 17) [(.tmp 4), (.tmp 5)], none, [], false⟩,
      ⟨(some 3), .mov (.tmp 6), none, [], false⟩,
      ⟨(some 7), .extract 0 (.tmp 3), none, [], false⟩,
      ⟨(some 8), .extract 1 (.tmp 3), none, [], false⟩,
      ⟨(some 1), .mov (.tmp 7), none, [], false⟩,
      ⟨(some 2), .mov (.tmp 8), none, [], false⟩]) (.seq (.seq (.region [
      ⟨(some 9), .mov (.tmp 2), none, [], false⟩,
      ⟨(some 10), .bin .neq (so (.binOp .neq 44 (.tmp 9) (.const (.int .i64 0)) 44) 4) (.tmp 9) (.const (.int .i64 0)), none, [], false⟩,
      ⟨(some 11), .mov (.tmp 10), none, [], false⟩,
      ⟨(some 12), .mov (.tmp 1), (some (11, false)), [], false⟩,
      ⟨(some 13), .eq .ptr false (so (.binOp .eql 34 (.tmp 12) (.const (.pointer none)) 34) 4) (.tmp 12) (.const (.pointer none)), (some (11, false)), [], false⟩,
      ⟨(some 14), .pick (.tmp 11) (.const (.bool true)) (.tmp 13), none, [], false⟩,
      ⟨(some 15), .mov (.tmp 14), none, [], false⟩,
      ⟨(some 16), .mov (.tmp 1), (some (15, false)), [], false⟩,
      ⟨(some 17), .callV (.func 11) [(.tmp 16)], (some (15, false)), [], false⟩,
      ⟨(some 18), .bin .neq (so (.binOp .neq 3 (.tmp 17) (.const (.int .i64 0)) 3) 4) (.tmp 17) (.const (.int .i64 0)), (some (15, false)), [], false⟩,
      ⟨(some 19), .pick (.tmp 15) (.const (.bool true)) (.tmp 18), none, [], false⟩,
      ⟨(some 20), .mov (.tmp 19), none, [], false⟩,
      ⟨(some 21), .mov (.tmp 1), (some (20, false)), [], false⟩,
      ⟨(some 22), .callV (.func 16) [(.const (.int .i64 1))], (some (20, false)), [], false⟩,
      ⟨(some 23), .callV (.func 9) [(.tmp 21), (.const (.int .i64 4)), (.tmp 22)], (some (20, false)), [], false⟩,
      ⟨(some 24), .bin .neq (so (.binOp .neq 44 (.tmp 23) (.const (.int .i64 0)) 44) 4) (.tmp 23) (.const (.int .i64 0)), (some (20, false)), [], false⟩,
      ⟨(some 25), .pick (.tmp 20) (.const (.bool true)) (.tmp 24), none, [], false⟩,
      ⟨(some 26), .mov (.tmp 25), none, [], false⟩,
      ⟨(some 27), .mov (.tmp 1), (some (26, false)), [], false⟩,
      ⟨(some 28), .callV (.func 16) [(.const (.int .i64 1))], (some (26, false)), [], false⟩,
      ⟨(some 29), .callV (.func 9) [(.tmp 27), (.const (.int .i64 4)), (.tmp 28)], (some (26, false)), [], false⟩,
      ⟨(some 30), .bin .neq (so (.binOp .neq 44 (.tmp 29) (.const (.int .i64 8)) 44) 4) (.tmp 29) (.const (.int .i64 8)), (some (26, false)), [], false⟩,
      ⟨(some 31), .pick (.tmp 26) (.const (.bool true)) (.tmp 30), none, [], false⟩,
      ⟨(some 32), .mov (.tmp 31), none, [], false⟩,
      ⟨(some 33), .mov (.tmp 1), (some (32, false)), [], false⟩,
      ⟨(some 34), .callV (.func 16) [(.const (.int .i64 1))], (some (32, false)), [], false⟩,
      ⟨(some 35), .callV (.func 9) [(.tmp 33), (.const (.int .i64 2)), (.tmp 34)], (some (32, false)), [], false⟩,
      ⟨(some 36), .bin .neq (so (.binOp .neq 44 (.tmp 35) (.const (.int .i64 10)) 44) 4) (.tmp 35) (.const (.int .i64 10)), (some (32, false)), [], false⟩,
      ⟨(some 37), .pick (.tmp 32) (.const (.bool true)) (.tmp 36), none, [], false⟩,
      ⟨(some 38), .mov (.tmp 37), none, [], false⟩,
      ⟨(some 39), .mov (.tmp 1), (some (38, false)), [], false⟩,
      ⟨(some 40), .callV (.func 10) [(.tmp 39), (.const (.int .i64 1))], (some (38, false)), [], false⟩,
      ⟨(some 41), .bin .neq (so (.binOp .neq 44 (.tmp 40) (.const (.int .i64 0)) 44) 4) (.tmp 40) (.const (.int .i64 0)), (some (38, false)), [], false⟩,
      ⟨(some 42), .pick (.tmp 38) (.const (.bool true)) (.tmp 41), none, [], false⟩,
      ⟨(some 43), .mov (.tmp 42), none, [], false⟩,
      ⟨(some 44), .mov (.tmp 1), (some (43, false)), [], false⟩,
      ⟨(some 45), .callV (.func 11) [(.tmp 44)], (some (43, false)), [], false⟩,
      ⟨(some 46), .bin .neq (so (.binOp .neq 3 (.tmp 45) (.const (.int .i64 0)) 3) 4) (.tmp 45) (.const (.int .i64 0)), (some (43, false)), [], false⟩,
      ⟨(some 47), .pick (.tmp 43) (.const (.bool true)) (.tmp 46), none, [], false⟩]) (.cond (.tmp 47)
    (.seq (.region [
      ⟨(some 0), .mov (.const (.pointer none)), none, [], false⟩]) .ret)
    .skip)) (.seq (.region [
      ⟨(some 48), .mov (.tmp 1), none, [], false⟩,
      ⟨(some 0), .mov (.tmp 48), none, [], false⟩]) .ret))))
noncomputable def landfalllaw25_first : AFunc := ⟨49, [(0, none)], landfalllaw25_first_c, none⟩
theorem landfalllaw25_first_t0 : tableOf Try.prog 15 = some landfalllaw25_first := by kernel_rfl
theorem landfalllaw25_first_t : T0 15 = some landfalllaw25_first := withKept_t rfl (withTrue_t rfl landfalllaw25_first_t0)


/-! 16 landfall/landfalllaw25.at -/
abbrev fn_landfalllaw25_at : FuncId := 16
noncomputable def landfalllaw25_at_c : ACode :=
  (.seq (.region [
      ⟨(some 2), .alloc 31 ((.string ⟨⟨[]⟩⟩) :: ((.int .i64 0) :: ((.int .i64 0) :: (z32 ++ (z32 ++ (z32 ++ (z32 ++ ((.int .i64 0) :: (z32 ++ [(.slice none 0 0), (.slice none 0 0)]))))))))), none, [], false⟩]) (.seq (.region [
      ⟨(some 3), .mov (.tmp 0), none, [], false⟩,
      ⟨(some 4), .build ((.string ⟨⟨[]⟩⟩) :: ((.int .i64 0) :: ((.int .i64 0) :: (z32 ++ (z32 ++ (z32 ++ z32)))))) [(0, 1, (.const (.string ⟨⟨[97]⟩⟩))), (1, 1, (.const (.int .i64 5))), (2, 1, (.tmp 3))], none, [], false⟩,
      ⟨(some 5), .build [(.int .u8 0), (.int .u8 0), (.int .u8 0), (.int .u8 0), (.int .i64 0)] [(4, 1, (.const (.int .i64 1)))], none, [], false⟩,
      ⟨(some 6), .buildSlice 81 [(.int .u8 0), (.int .u8 0), (.int .u8 0), (.int .u8 0), (.int .i64 0)] 1 [(0, 5, (.tmp 5))], none, [], false⟩,
      ⟨(some 7), .build ((.string ⟨⟨[]⟩⟩) :: ((.int .i64 0) :: ((.int .i64 0) :: (z32 ++ (z32 ++ (z32 ++ (z32 ++ ((.int .i64 0) :: (z32 ++ [(.slice none 0 0), (.slice none 0 0)]))))))))) [(0, 131, (.tmp 4)), (165, 1, (.tmp 6))], none, [], false⟩,
      ⟨none, .store 166 (.tmp 2) (.tmp 7), none, [], false⟩]) .ret))
noncomputable def landfalllaw25_at : AFunc := ⟨8, [(2, some (some 166))], landfalllaw25_at_c, none⟩
theorem landfalllaw25_at_t0 : tableOf Try.prog 16 = some landfalllaw25_at := by kernel_rfl
theorem landfalllaw25_at_t : T0 16 = some landfalllaw25_at := withKept_t rfl (withTrue_t rfl landfalllaw25_at_t0)


/-! 17 landfall/cross.New -/
abbrev fn_cross_New : FuncId := 17
noncomputable def cross_New_l0 : ACode :=
  (.seq (.region [
      ⟨(some 26), .bin .lss (so (.binOp .lss 3 (.tmp 25) (.tmp 24) 3) 0) (.tmp 25) (.tmp 24), none, [], false⟩]) (.seq (.cond (.tmp 26)
    .skip
    (.exit 0)) (.seq (.block 1 (.seq (.region [
      ⟨(some 27), .indexSl 1 (.tmp 23) (.tmp 25), none, [], false⟩,
      ⟨(some 28), .load none (.tmp 27), none, [], false⟩,
      ⟨(some 11), .mov (.tmp 28), none, [], false⟩]) (.seq (.block 2 (.seq (.region [
      ⟨(some 30), .mov (.tmp 11), none, [], false⟩,
      ⟨(some 31), .bin .lss (so (.binOp .lss 3 (.tmp 30) (.const (.int .i64 0)) 3) 4) (.tmp 30) (.const (.int .i64 0)), none, [], false⟩,
      ⟨(some 32), .mov (.tmp 31), none, [], false⟩,
      ⟨(some 33), .mov (.tmp 11), (some (32, false)), [], false⟩,
      ⟨(some 34), .bin .geq (so (.binOp .geq 3 (.tmp 33) (.const (.int .i64 16)) 3) 4) (.tmp 33) (.const (.int .i64 16)), (some (32, false)), [], false⟩,
      ⟨(some 35), .pick (.tmp 32) (.const (.bool true)) (.tmp 34), none, [], false⟩,
      ⟨(some 29), .mov (.tmp 35), none, [], false⟩]) (.cond (.tmp 29)
    (.seq (.region [
      ⟨(some 4), .mov (.const (.pointer none)), none, [], false⟩,
      ⟨(some 5), .mov (.const (.int .i64 3)), none, [], false⟩]) .ret)
    (.seq (.region [
      ⟨(some 37), .mov (.tmp 11), none, [], false⟩,
      ⟨(some 38), .mov (.tmp 9), none, [], false⟩,
      ⟨(some 39), .bin .leq (so (.binOp .leq 3 (.tmp 37) (.tmp 38) 3) 4) (.tmp 37) (.tmp 38), none, [], false⟩,
      ⟨(some 36), .mov (.tmp 39), none, [], false⟩]) (.cond (.tmp 36)
    (.seq (.region [
      ⟨(some 4), .mov (.const (.pointer none)), none, [], false⟩,
      ⟨(some 5), .mov (.const (.int .i64 9)), none, [], false⟩]) .ret)
    .skip))))) (.seq (.region [
      ⟨(some 40), .mov (.tmp 8), none, [], false⟩,
      ⟨(some 41), .mov (.tmp 11), none, [], false⟩,
      ⟨(some 42), .nilCheck (.tmp 40), none, [], false⟩,
      ⟨(some 43), .fieldAddr 32 (.tmp 42), none, [], false⟩,
      ⟨(some 44), .indexArr 16 167 (.tmp 43) (.tmp 41), none, [], false⟩,
      ⟨(some 45), .fieldAddr 0 (.tmp 44), none, [], false⟩,
      ⟨none, .store 1 (.tmp 45) (.const (.int .i64 1)), none, [], false⟩]) (.region [
      ⟨(some 46), .mov (.tmp 11), none, [], false⟩,
      ⟨(some 9), .mov (.tmp 46), none, [], false⟩]))))) (.region [
      ⟨(some 47), .bin .add (so (.binOp .add 3 (.tmp 25) (.const (.int .i64 1)) 3) 3) (.tmp 25) (.const (.int .i64 1)), none, [], false⟩,
      ⟨(some 25), .mov (.tmp 47), none, [], false⟩]))))
noncomputable def cross_New_c : ACode :=
  (.seq (.region [
      ⟨(some 2), .box 31 (.tmp 0), none, [], false⟩,
      ⟨(some 4), .mov (.const (.pointer none)), none, [], false⟩,
      ⟨(some 5), .mov (.const (.int .i64 0)), none, [], false⟩]) (.seq (.region [
      ⟨(some 13), .load (some 166) (.tmp 2), none, [], false⟩,
      ⟨(some 14), .callV (.func 18) [(.tmp 13)], none, [], false⟩,
      ⟨(some 12), .mov (.tmp 14), none, [], false⟩,
      ⟨(some 15), .extract 0 (.tmp 12), none, [], false⟩,
      ⟨(some 16), .extract 1 (.tmp 12), none, [], false⟩,
      ⟨(some 6), .alloc 23 z32, none, [], false⟩,
      ⟨none, .store 32 (.tmp 6) (.tmp 15), none, [], false⟩,
      ⟨(some 7), .mov (.tmp 16), none, [], false⟩]) (.seq (.seq (.region [
      ⟨(some 17), .mov (.tmp 7), none, [], false⟩,
      ⟨(some 18), .bin .neq (so (.binOp .neq 44 (.tmp 17) (.const (.int .i64 0)) 44) 4) (.tmp 17) (.const (.int .i64 0)), none, [], false⟩]) (.cond (.tmp 18)
    (.seq (.region [
      ⟨(some 19), .mov (.tmp 7), none, [], false⟩,
      ⟨(some 4), .mov (.const (.pointer none)), none, [], false⟩,
      ⟨(some 5), .mov (.tmp 19), none, [], false⟩]) .ret)
    .skip)) (.seq (.region [
      ⟨(some 20), .load (some 32) (.tmp 6), none, [], false⟩,
      ⟨(some 21), .build (z32 ++ ((.int .i64 0) :: ((.string ⟨⟨[]⟩⟩) :: ((.int .i64 0) :: ((.int .i64 0) :: (z32 ++ (z32 ++ (z32 ++ (z32 ++ ((.int .i64 0) :: (z32 ++ ((.slice none 0 0) :: ((.slice none 0 0) :: ((.int .i64 0) :: ((.string ⟨⟨[]⟩⟩) :: ((.int .i64 0) :: ((.int .i64 0) :: (z32 ++ (z32 ++ (z32 ++ (z32 ++ ((.int .i64 0) :: (z32 ++ ((.slice none 0 0) :: ((.slice none 0 0) :: ((.int .i64 0) :: ((.string ⟨⟨[]⟩⟩) :: ((.int .i64 0) :: ((.int .i64 0) :: (z32 ++ (z32 ++ (z32 ++ (z32 ++ ((.int .i64 0) :: (z32 ++ ((.slice none 0 0) :: ((.slice none 0 0) :: ((.int .i64 0) :: ((.string ⟨⟨[]⟩⟩) :: ((.int .i64 0) :: ((.int .i64 0) :: (z32 ++ (z32 ++ (z32 ++ (z32 ++ ((.int .i64 0) :: (z32 ++ ((.slice none 0 0) :: ((.slice none 0 0) :: ((.int .i64 0) :: ((.string ⟨⟨[]⟩⟩) :: ((.int .i64 0) :: ((.int .i64 0) :: (z32 ++ (z32 ++ (z32 ++ (z32 ++ ((.int .i64 0) :: (z32 ++ ((.slice none 0 0) :: ((.slice none 0 0) :: ((.int .i64 0) :: ((.string ⟨⟨[]⟩⟩) :: ((.int .i64 0) :: ((.int .i64 0) :: (z32 ++ (z32 ++ (z32 ++ (z32 ++ ((.int .i64 0) :: (z32 ++ ((.slice none 0 0) :: ((.slice none 0 0) :: ((.int .i64 0) :: ((.string ⟨⟨[]⟩⟩) :: ((.int .i64 0) :: ((.int .i64 0) :: (z32 ++ (z32 ++ (z32 ++ (z32 ++ ((.int .i64 0) :: (z32 ++ ((.slice none 0 0) :: ((.slice none 0 0) :: ((.int .i64 0) :: ((.string ⟨⟨[]⟩⟩) :: ((.int .i64 0) :: ((.int .i64 0) :: (z32 ++ (z32 ++ (z32 ++ (z32 ++ ((.int .i64 0) :: (z32 ++ ((.slice none 0 0) :: ((.slice none 0 0) :: ((.int .i64 0) :: ((.string ⟨⟨[]⟩⟩) :: ((.int .i64 0) :: ((.int .i64 0) :: (z32 ++ (z32 ++ (z32 ++ (z32 ++ ((.int .i64 0) :: (z32 ++ ((.slice none 0 0) :: ((.slice none 0 0) :: ((.int .i64 0) :: ((.string ⟨⟨[]⟩⟩) :: ((.int .i64 0) :: ((.int .i64 0) :: (z32 ++ (z32 ++ (z32 ++ (z32 ++ ((.int .i64 0) :: (z32 ++ ((.slice none 0 0) :: ((.slice none 0 0) :: ((.int .i64 0) :: ((.string ⟨⟨[]⟩⟩) :: ((.int .i64 0) :: ((.int .i64 0) :: (z32 ++ (z32 ++ (z32 ++ (z32 ++ ((.int .i64 0) :: (z32 ++ ((.slice none 0 0) :: ((.slice none 0 0) :: ((.int .i64 0) :: ((.string ⟨⟨[]⟩⟩) :: ((.int .i64 0) :: ((.int .i64 0) :: (z32 ++ (z32 ++ (z32 ++ (z32 ++ ((.int .i64 0) :: (z32 ++ ((.slice none 0 0) :: ((.slice none 0 0) :: ((.int .i64 0) :: ((.string ⟨⟨[]⟩⟩) :: ((.int .i64 0) :: ((.int .i64 0) :: (z32 ++ (z32 ++ (z32 ++ (z32 ++ ((.int .i64 0) :: (z32 ++ ((.slice none 0 0) :: ((.slice none 0 0) :: ((.int .i64 0) :: ((.string ⟨⟨[]⟩⟩) :: ((.int .i64 0) :: ((.int .i64 0) :: (z32 ++ (z32 ++ (z32 ++ (z32 ++ ((.int .i64 0) :: (z32 ++ ((.slice none 0 0) :: ((.slice none 0 0) :: ((.int .i64 0) :: ((.string ⟨⟨[]⟩⟩) :: ((.int .i64 0) :: ((.int .i64 0) :: (z32 ++ (z32 ++ (z32 ++ (z32 ++ ((.int .i64 0) :: (z32 ++ ((.slice none 0 0) :: ((.slice none 0 0) :: ((.int .i64 0) :: ((.string ⟨⟨[]⟩⟩) :: ((.int .i64 0) :: ((.int .i64 0) :: (z32 ++ (z32 ++ (z32 ++ (z32 ++ ((.int .i64 0) :: (z32 ++ [(.slice none 0 0), (.slice none 0 0), (.bool false)]))))))))))))))))))))))))))))))))))))))))))))))))))))))))))))))))))))))))))))))))))))))))))))))))))))))))))))))))))))))))))))))))))))))))))))))))))))))))))))))))))))))))))))))))))))))))))))))) [(0, 32, (.tmp 20)), (2704, 1, (.const (.bool true)))], none, [], false⟩,
      ⟨(some 22), .box 40 (.tmp 21), none, [], false⟩,
      ⟨(some 8), .mov (.tmp 22), none, [], false⟩]) (.seq (.region [
      ⟨(some 9), .mov (.const (.int .i64 (-1))), none, [], false⟩]) (.seq (.seq (.region [
      ⟨(some 23), .mov (.tmp 1), none, [], false⟩,
      ⟨(some 24), .lenSl (.tmp 23), none, [], false⟩,
      ⟨(some 25), .mov (.const (.int .i64 0)), none, [], false⟩]) (.block 0 (.loop cross_New_l0))) (.seq (.region [
      ⟨(some 48), .mov (.tmp 8), none, [], false⟩,
      ⟨(some 4), .mov (.tmp 48), none, [], false⟩,
      ⟨(some 5), .mov (.const (.int .i64 0)), none, [], false⟩]) .ret)))))))
noncomputable def cross_New : AFunc := ⟨49, [(4, none), (5, none)], cross_New_c, none⟩
theorem cross_New_t0 : tableOf Try.prog 17 = some cross_New := by kernel_rfl
theorem cross_New_t : T0 17 = some cross_New := withKept_t rfl (withTrue_t rfl cross_New_t0)


/-! 18 landfall/block.Hash -/
abbrev fn_block_Hash : FuncId := 18
noncomputable def block_Hash_c : ACode :=
  (.seq (.region [
      ⟨(some 1), .box 31 (.tmp 0), none, [], false⟩,
      ⟨(some 2), .alloc 23 z32, none, [], false⟩,
      ⟨(some 3), .mov (.const (.int .i64 0)), none, [], false⟩]) (.seq (.region [
      ⟨(some 4), .fieldAddr 0 (.tmp 1), none, [], false⟩,
      ⟨(some 5), .load (some 131) (.tmp 4), none, [], false⟩,
      ⟨(some 6), .callV (.func 32) [(.tmp 5)], none, [], false⟩,
      ⟨(some 7), .extract 0 (.tmp 6), none, [], false⟩,
      ⟨(some 8), .extract 1 (.tmp 6), none, [], false⟩,
      ⟨none, .store 32 (.tmp 2) (.tmp 7), none, [], false⟩,
      ⟨(some 3), .mov (.tmp 8), none, [], false⟩]) .ret))
noncomputable def block_Hash : AFunc := ⟨9, [(2, some (some 32)), (3, none)], block_Hash_c, none⟩
theorem block_Hash_t0 : tableOf Try.prog 18 = some block_Hash := by kernel_rfl
theorem block_Hash_t : T0 18 = some block_Hash := withKept_t rfl (withTrue_t rfl block_Hash_t0)


/-! 23 landfall/landfallkit.SameInts -/
abbrev fn_landfallkit_SameInts : FuncId := 23
noncomputable def landfallkit_SameInts_l0 : ACode :=
  (.seq (.seq (.region [
      ⟨(some 12), .mov (.tmp 5), none, [], false⟩,
      ⟨(some 13), .mov (.tmp 12), none, [], false⟩,
      ⟨(some 14), .mov (.tmp 6), (some (13, true)), [], false⟩,
      ⟨(some 15), .mov (.tmp 0), (some (13, true)), [], false⟩,
      ⟨(some 16), .lenSl (.tmp 15), (some (13, true)), [], false⟩,
      ⟨(some 17), .bin .lss (so (.binOp .lss 3 (.tmp 14) (.tmp 16) 3) 4) (.tmp 14) (.tmp 16), (some (13, true)), [], false⟩,
      ⟨(some 18), .pick (.tmp 13) (.tmp 17) (.const (.bool false)), none, [], false⟩]) (.cond (.tmp 18)
    .skip
    (.exit 0))) (.seq (.block 1 (.regionD [
      ⟨(some 21), .mov (.tmp 0), none, [], false⟩,
      ⟨(some 22), .mov (.tmp 6), none, [], false⟩,
      ⟨(some 23), .indexSl 1 (.tmp 21) (.tmp 22), none, [], false⟩,
      ⟨(some 24), .load none (.tmp 23), none, [], false⟩,
      ⟨(some 25), .mov (.tmp 1), none, [], false⟩,
      ⟨(some 26), .mov (.tmp 6), none, [], false⟩,
      ⟨(some 27), .indexSl 1 (.tmp 25) (.tmp 26), none, [], false⟩,
      ⟨(some 28), .load none (.tmp 27), none, [], false⟩,
      ⟨(some 29), .bin .eql (so (.binOp .eql 3 (.tmp 24) (.tmp 28) 3) 4) (.tmp 24) (.tmp 28), none, [], true⟩,
      ⟨(some 5), .mov (.tmp 29), none, [], true⟩])) (.region [
      ⟨(some 19), .mov (.tmp 6), none, [], false⟩,
      ⟨(some 20), .bin .add (so (.binOp .add 3 (.tmp 19) (.const (.int .i64 1)) 3) 3) (.tmp 19) (.const (.int .i64 1)), none, [], false⟩,
      ⟨(some 6), .mov (.tmp 20), none, [], false⟩])))
noncomputable def landfallkit_SameInts_c : ACode :=
  (.seq (.region [
      ⟨(some 4), .mov (.const (.bool false)), none, [], false⟩]) (.seq (.region [
      ⟨(some 7), .mov (.tmp 0), none, [], false⟩,
      ⟨(some 8), .lenSl (.tmp 7), none, [], false⟩,
      ⟨(some 9), .mov (.tmp 1), none, [], false⟩,
      ⟨(some 10), .lenSl (.tmp 9), none, [], false⟩,
      ⟨(some 11), .bin .eql (so (.binOp .eql 3 (.tmp 8) (.tmp 10) 3) 4) (.tmp 8) (.tmp 10), none, [], false⟩,
      ⟨(some 5), .mov (.tmp 11), none, [], false⟩]) (.seq (.seq (.region [
      ⟨(some 6), .mov (.const (.int .i64 0)), none, [], false⟩]) (.block 0 (.loop landfallkit_SameInts_l0))) (.seq (.region [
      ⟨(some 30), .mov (.tmp 5), none, [], false⟩,
      ⟨(some 4), .mov (.tmp 30), none, [], false⟩]) .ret))))
noncomputable def landfallkit_SameInts : AFunc := ⟨31, [(4, none)], landfallkit_SameInts_c, none⟩
theorem landfallkit_SameInts_t0 : tableOf Try.prog 23 = some landfallkit_SameInts := by kernel_rfl
theorem landfallkit_SameInts_t : T0 23 = some landfallkit_SameInts := withKept_t rfl (withTrue_t rfl landfallkit_SameInts_t0)


/-! 24 (*landfall/cross.Cross).all -/
abbrev fn_cross_Cross_all : FuncId := 24
noncomputable def cross_Cross_all_c : ACode :=
  (.seq (.region [
      ⟨(some 1), .box 34 (.tmp 0), none, [], false⟩,
      ⟨(some 2), .mov (.const .nilFunc), none, [], false⟩]) (.seq (.region [
      ⟨(some 3), .mkFunc (.func 33) [] [(.tmp 1)], none, [], false⟩,
      ⟨(some 2), .mov (.tmp 3), none, [], false⟩]) .ret))
noncomputable def cross_Cross_all : AFunc := ⟨4, [(2, none)], cross_Cross_all_c, none⟩
theorem cross_Cross_all_t0 : tableOf Try.prog 24 = some cross_Cross_all := by kernel_rfl
theorem cross_Cross_all_t : T0 24 = some cross_Cross_all := withKept_t rfl (withTrue_t rfl cross_Cross_all_t0)


/-! 25 landfall/cross.own -/
abbrev fn_cross_own : FuncId := 25
noncomputable def cross_own_c : ACode :=
  (.seq (.region [
      ⟨(some 1), .box 31 (.tmp 0), none, [], false⟩,
      ⟨(some 2), .alloc 31 ((.string ⟨⟨[]⟩⟩) :: ((.int .i64 0) :: ((.int .i64 0) :: (z32 ++ (z32 ++ (z32 ++ (z32 ++ ((.int .i64 0) :: (z32 ++ [(.slice none 0 0), (.slice none 0 0)]))))))))), none, [], false⟩]) (.seq (.regionD [
      ⟨(some 3), .fieldAddr 131 (.tmp 1), none, [], false⟩,
      ⟨(some 4), .fieldAddr 33 (.tmp 3), none, [], false⟩,
      ⟨(some 5), .load none (.tmp 4), none, [], false⟩,
      ⟨(some 7), .fieldAddr 165 (.tmp 1), none, [], false⟩,
      ⟨(some 8), .load none (.tmp 7), none, [], false⟩,
      ⟨(some 6), .callV (.func 34) [(.tmp 5)], none, [((some 8), .load none (.tmp 7), none), ((some 7), .fieldAddr 165 (.tmp 1), none)], false⟩,
      ⟨(some 10), .fieldAddr 131 (.tmp 1), none, [], false⟩,
      ⟨(some 11), .fieldAddr 33 (.tmp 10), none, [], false⟩,
      ⟨(some 9), .callV (.func 35) [(.tmp 8)], none, [((some 11), .fieldAddr 33 (.tmp 10), none), ((some 10), .fieldAddr 131 (.tmp 1), none)], false⟩,
      ⟨none, .store 1 (.tmp 11) (.tmp 6), none, [], true⟩,
      ⟨(some 12), .fieldAddr 165 (.tmp 1), none, [], true⟩,
      ⟨none, .store 1 (.tmp 12) (.tmp 9), none, [], true⟩]) (.seq (.region [
      ⟨(some 13), .load (some 166) (.tmp 1), none, [], false⟩,
      ⟨none, .store 166 (.tmp 2) (.tmp 13), none, [], false⟩]) .ret)))
noncomputable def cross_own : AFunc := ⟨14, [(2, some (some 166))], cross_own_c, none⟩
theorem cross_own_t0 : tableOf Try.prog 25 = some cross_own := by kernel_rfl
theorem cross_own_t : T0 25 = some cross_own := withKept_t rfl (withTrue_t rfl cross_own_t0)


/-! 26 (*landfall/cross.Cross).may -/
abbrev fn_cross_Cross_may : FuncId := 26
noncomputable def cross_Cross_may_c : ACode :=
  (.seq (.region [
      ⟨(some 4), .mov (.const (.int .i64 0)), none, [], false⟩]) (.seq (.block 0 (.seq (.region [
      ⟨(some 6), .mov (.tmp 0), none, [], false⟩,
      ⟨(some 7), .callV (.func 27) [(.tmp 6)], none, [], false⟩,
      ⟨(some 5), .mov (.tmp 7), none, [], false⟩]) (.cond (.tmp 5)
    (.seq (.region [
      ⟨(some 4), .mov (.const (.int .i64 1)), none, [], false⟩]) .ret)
    (.seq (.region [
      ⟨(some 9), .mov (.tmp 0), none, [], false⟩,
      ⟨(some 10), .callV (.func 24) [(.tmp 9)], none, [], false⟩,
      ⟨(some 11), .callV (.func 29) [(.const (.int .i64 4))], none, [], false⟩,
      ⟨(some 12), .callV (.func 28) [(.tmp 10), (.tmp 11)], none, [], false⟩,
      ⟨(some 8), .mov (.tmp 12), none, [], false⟩]) (.cond (.tmp 8)
    (.seq (.region [
      ⟨(some 4), .mov (.const (.int .i64 11)), none, [], false⟩]) .ret)
    (.seq (.region [
      ⟨(some 14), .mov (.tmp 1), none, [], false⟩,
      ⟨(some 15), .bin .lss (so (.binOp .lss 3 (.tmp 14) (.const (.int .i64 0)) 3) 4) (.tmp 14) (.const (.int .i64 0)), none, [], false⟩,
      ⟨(some 16), .mov (.tmp 15), none, [], false⟩,
      ⟨(some 17), .mov (.tmp 1), (some (16, false)), [], false⟩,
      ⟨(some 18), .bin .geq (so (.binOp .geq 3 (.tmp 17) (.const (.int .i64 16)) 3) 4) (.tmp 17) (.const (.int .i64 16)), (some (16, false)), [], false⟩,
      ⟨(some 19), .pick (.tmp 16) (.const (.bool true)) (.tmp 18), none, [], false⟩,
      ⟨(some 20), .mov (.tmp 19), none, [], false⟩,
      ⟨(some 21), .mov (.tmp 0), (some (20, false)), [], false⟩,
      ⟨(some 22), .mov (.tmp 1), (some (20, false)), [], false⟩,
      ⟨(some 23), .nilCheck (.tmp 21), (some (20, false)), [], false⟩,
      ⟨(some 24), .fieldAddr 32 (.tmp 23), (some (20, false)), [], false⟩,
      ⟨(some 25), .indexArr 16 167 (.tmp 24) (.tmp 22), (some (20, false)), [], false⟩,
      ⟨(some 26), .fieldAddr 0 (.tmp 25), (some (20, false)), [], false⟩,
      ⟨(some 27), .load none (.tmp 26), (some (20, false)), [], false⟩,
      ⟨(some 28), .bin .eql (so (.binOp .eql 35 (.tmp 27) (.const (.int .i64 0)) 35) 4) (.tmp 27) (.const (.int .i64 0)), (some (20, false)), [], false⟩,
      ⟨(some 29), .pick (.tmp 20) (.const (.bool true)) (.tmp 28), none, [], false⟩,
      ⟨(some 13), .mov (.tmp 29), none, [], false⟩]) (.cond (.tmp 13)
    (.seq (.region [
      ⟨(some 4), .mov (.const (.int .i64 10)), none, [], false⟩]) .ret)
    (.seq (.region [
      ⟨(some 31), .mov (.tmp 0), none, [], false⟩,
      ⟨(some 32), .mov (.tmp 1), none, [], false⟩,
      ⟨(some 33), .nilCheck (.tmp 31), none, [], false⟩,
      ⟨(some 34), .fieldAddr 32 (.tmp 33), none, [], false⟩,
      ⟨(some 35), .indexArr 16 167 (.tmp 34) (.tmp 32), none, [], false⟩,
      ⟨(some 36), .fieldAddr 0 (.tmp 35), none, [], false⟩,
      ⟨(some 37), .load none (.tmp 36), none, [], false⟩,
      ⟨(some 38), .bin .neq (so (.binOp .neq 35 (.tmp 37) (.const (.int .i64 1)) 35) 4) (.tmp 37) (.const (.int .i64 1)), none, [], false⟩,
      ⟨(some 30), .mov (.tmp 38), none, [], false⟩]) (.cond (.tmp 30)
    (.seq (.region [
      ⟨(some 4), .mov (.const (.int .i64 8)), none, [], false⟩]) .ret)
    .skip))))))))) (.seq (.region [
      ⟨(some 4), .mov (.const (.int .i64 0)), none, [], false⟩]) .ret)))
noncomputable def cross_Cross_may : AFunc := ⟨39, [(4, none)], cross_Cross_may_c, none⟩
theorem cross_Cross_may_t0 : tableOf Try.prog 26 = some cross_Cross_may := by kernel_rfl
theorem cross_Cross_may_t : T0 26 = some cross_Cross_may := withKept_t rfl (withTrue_t rfl cross_Cross_may_t0)


/-! 27 (*landfall/cross.Cross).off -/
abbrev fn_cross_Cross_off : FuncId := 27
noncomputable def cross_Cross_off_c : ACode :=
  (.seq (.region [
      ⟨(some 2), .mov (.const (.bool false)), none, [], false⟩]) (.seq (.region [
      ⟨(some 3), .mov (.tmp 0), none, [], false⟩,
      ⟨(some 4), .eq .ptr false (so (.binOp .eql 34 (.tmp 3) (.const (.pointer none)) 34) 4) (.tmp 3) (.const (.pointer none)), none, [], false⟩,
      ⟨(some 5), .mov (.tmp 4), none, [], false⟩,
      ⟨(some 6), .mov (.tmp 0), (some (5, false)), [], false⟩,
      ⟨(some 7), .nilCheck (.tmp 6), (some (5, false)), [], false⟩,
      ⟨(some 8), .fieldAddr 2704 (.tmp 7), (some (5, false)), [], false⟩,
      ⟨(some 9), .load none (.tmp 8), (some (5, false)), [], false⟩,
      ⟨(some 10), .raw (so (.unOp .not 4 (.tmp 9)) 4), (some (5, false)), [], false⟩,
      ⟨(some 11), .pick (.tmp 5) (.const (.bool true)) (.tmp 10), none, [], false⟩,
      ⟨(some 2), .mov (.tmp 11), none, [], false⟩]) .ret))
noncomputable def cross_Cross_off : AFunc := ⟨12, [(2, none)], cross_Cross_off_c, none⟩
theorem cross_Cross_off_t0 : tableOf Try.prog 27 = some cross_Cross_off := by kernel_rfl
theorem cross_Cross_off_t : T0 27 = some cross_Cross_off := withKept_t rfl (withTrue_t rfl cross_Cross_off_t0)


/-! 28 landfall/cross.one[landfall/cross.witness] -/
abbrev fn_cross_one_cross_witness_ : FuncId := 28
noncomputable def cross_one_cross_witness__ra0 : Code := (rangeParts (subCode ((Try.prog.funcs[28]?).bind (·.body)) [true, false, true, false])).1
noncomputable def cross_one_cross_witness__rb0 : Code := (rangeParts (subCode ((Try.prog.funcs[28]?).bind (·.body)) [true, false, true, false])).2
noncomputable def cross_one_cross_witness__a0 : ACode :=
  (.region [
      ⟨(some 6), .alloc 37 ((.int .i64 0) :: ((.string ⟨⟨[]⟩⟩) :: ((.int .i64 0) :: ((.int .i64 0) :: (z32 ++ (z32 ++ (z32 ++ (z32 ++ ((.int .i64 0) :: (z32 ++ [(.slice none 0 0), (.slice none 0 0)])))))))))), none, [], false⟩,
      ⟨none, .store 167 (.tmp 6) (.tmp 9), none, [], false⟩])
noncomputable def cross_one_cross_witness__b0 : ACode :=
  (.block 1 (.seq (.region [
      ⟨(some 10), .load none (.tmp 3), none, [], false⟩,
      ⟨(some 11), .load (some 167) (.tmp 6), none, [], false⟩,
      ⟨(some 12), .callV (.tmp 10) [(.tmp 11)], none, [], false⟩]) (.cond (.tmp 12)
    (.seq (.region [
      ⟨none, .store 1 (.tmp 4) (.const (.bool true)), none, [], false⟩]) .ret)
    .skip)))
theorem cross_one_cross_witness__ca0 : comp Try.prog cross_one_cross_witness__ra0 = some cross_one_cross_witness__a0 := by kernel_rfl
theorem cross_one_cross_witness__cb0 : comp Try.prog cross_one_cross_witness__rb0 = some cross_one_cross_witness__b0 := by kernel_rfl
theorem cross_one_cross_witness__na0 : noDefer cross_one_cross_witness__ra0 = true := by kernel_rfl
theorem cross_one_cross_witness__nb0 : noDefer cross_one_cross_witness__rb0 = true := by kernel_rfl
noncomputable def cross_one_cross_witness__c : ACode :=
  (.seq (.region [
      ⟨(some 3), .box 74 (.tmp 1), none, [], false⟩,
      ⟨(some 4), .alloc 4 [(.bool false)], none, [], false⟩]) (.seq (.seq (.region [
      ⟨(some 7), .mov (.tmp 0), none, [], false⟩]) (.block 0 (.rangeFunc (.tmp 7) [8, 9] cross_one_cross_witness__ra0 cross_one_cross_witness__rb0))) (.seq (.region [
      ⟨none, .store 1 (.tmp 4) (.const (.bool false)), none, [], false⟩]) .ret)))
noncomputable def cross_one_cross_witness_ : AFunc := ⟨13, [(4, some none)], cross_one_cross_witness__c, none⟩
theorem cross_one_cross_witness__t0 : tableOf Try.prog 28 = some cross_one_cross_witness_ := by kernel_rfl
theorem cross_one_cross_witness__t : T0 28 = some cross_one_cross_witness_ := withKept_t rfl (withTrue_t rfl cross_one_cross_witness__t0)


/-! 29 landfall/cross.are -/
abbrev fn_cross_are : FuncId := 29
noncomputable def cross_are_c : ACode :=
  (.seq (.region [
      ⟨(some 1), .box 35 (.tmp 0), none, [], false⟩,
      ⟨(some 2), .mov (.const .nilFunc), none, [], false⟩]) (.seq (.region [
      ⟨(some 3), .mkFunc (.func 36) [] [(.tmp 1)], none, [], false⟩,
      ⟨(some 2), .mov (.tmp 3), none, [], false⟩]) .ret))
noncomputable def cross_are : AFunc := ⟨4, [(2, none)], cross_are_c, none⟩
theorem cross_are_t0 : tableOf Try.prog 29 = some cross_are := by kernel_rfl
theorem cross_are_t : T0 29 = some cross_are := withKept_t rfl (withTrue_t rfl cross_are_t0)


/-! 32 landfall/header.Hash -/
abbrev fn_header_Hash : FuncId := 32
noncomputable def header_Hash_c : ACode :=
  (.seq (.region [
      ⟨(some 1), .box 25 (.tmp 0), none, [], false⟩,
      ⟨(some 2), .alloc 23 z32, none, [], false⟩,
      ⟨(some 3), .mov (.const (.int .i64 0)), none, [], false⟩]) (.seq (.region [
      ⟨(some 7), .load (some 131) (.tmp 1), none, [], false⟩,
      ⟨(some 8), .callV (.func 38) [(.tmp 7)], none, [], false⟩,
      ⟨(some 6), .mov (.tmp 8), none, [], false⟩,
      ⟨(some 9), .extract 0 (.tmp 6), none, [], false⟩,
      ⟨(some 10), .extract 1 (.tmp 6), none, [], false⟩,
      ⟨(some 4), .mov (.tmp 9), none, [], false⟩,
      ⟨(some 5), .mov (.tmp 10), none, [], false⟩]) (.seq (.seq (.region [
      ⟨(some 11), .mov (.tmp 5), none, [], false⟩,
      ⟨(some 12), .bin .neq (so (.binOp .neq 44 (.tmp 11) (.const (.int .i64 0)) 44) 4) (.tmp 11) (.const (.int .i64 0)), none, [], false⟩]) (.cond (.tmp 12)
    (.seq (.region [
      ⟨(some 13), .build z32 [], none, [], false⟩,
      ⟨(some 14), .mov (.tmp 5), none, [], false⟩,
      ⟨none, .store 32 (.tmp 2) (.tmp 13), none, [], false⟩,
      ⟨(some 3), .mov (.tmp 14), none, [], false⟩]) .ret)
    .skip)) (.seq (.region [
      ⟨(some 15), .buildSlice 5 [(.int .u8 0)] 1 [(0, 1, (.const (.int .u8 72)))], none, [], false⟩,
      ⟨(some 16), .mov (.tmp 4), none, [], false⟩,
      ⟨(some 17), .append 5 1 1 [(.int .u8 0)] false (.tmp 15) (.tmp 16), none, [], false⟩,
      ⟨(some 18), .callV (.func 39) [(.tmp 17)], none, [], false⟩,
      ⟨none, .store 32 (.tmp 2) (.tmp 18), none, [], false⟩,
      ⟨(some 3), .mov (.const (.int .i64 0)), none, [], false⟩]) .ret))))
noncomputable def header_Hash : AFunc := ⟨19, [(2, some (some 32)), (3, none)], header_Hash_c, none⟩
theorem header_Hash_t0 : tableOf Try.prog 32 = some header_Hash := by kernel_rfl
theorem header_Hash_t : T0 32 = some header_Hash := withKept_t rfl (withTrue_t rfl header_Hash_t0)


/-! 33 (*landfall/cross.Cross).all$1 -/
abbrev fn_cross_Cross_all_1 : FuncId := 33
noncomputable def cross_Cross_all_1_l0 : ACode :=
  (.seq (.region [
      ⟨(some 12), .bin .lss (so (.binOp .lss 3 (.tmp 11) (.const (.int .i64 16)) 3) 0) (.tmp 11) (.const (.int .i64 16)), none, [], false⟩]) (.seq (.cond (.tmp 12)
    .skip
    (.exit 0)) (.seq (.block 1 (.seq (.region [
      ⟨(some 13), .mov (.tmp 11), none, [], false⟩,
      ⟨(some 14), .index 16 167 (some 167) (.tmp 10) (.tmp 11), none, [], false⟩,
      ⟨(some 4), .alloc 37 ((.int .i64 0) :: ((.string ⟨⟨[]⟩⟩) :: ((.int .i64 0) :: ((.int .i64 0) :: (z32 ++ (z32 ++ (z32 ++ (z32 ++ ((.int .i64 0) :: (z32 ++ [(.slice none 0 0), (.slice none 0 0)])))))))))), none, [], false⟩,
      ⟨(some 3), .mov (.tmp 13), none, [], false⟩,
      ⟨none, .store 167 (.tmp 4) (.tmp 14), none, [], false⟩]) (.seq (.region [
      ⟨(some 15), .fieldAddr 0 (.tmp 4), none, [], false⟩,
      ⟨(some 16), .load none (.tmp 15), none, [], false⟩,
      ⟨(some 17), .bin .neq (so (.binOp .neq 35 (.tmp 16) (.const (.int .i64 0)) 35) 4) (.tmp 16) (.const (.int .i64 0)), none, [], false⟩,
      ⟨(some 18), .mov (.tmp 17), none, [], false⟩,
      ⟨(some 19), .mov (.tmp 0), (some (18, true)), [], false⟩,
      ⟨(some 20), .mov (.tmp 3), (some (18, true)), [], false⟩,
      ⟨(some 21), .load (some 167) (.tmp 4), (some (18, true)), [], false⟩,
      ⟨(some 22), .callV (.tmp 19) [(.tmp 20), (.tmp 21)], (some (18, true)), [], false⟩,
      ⟨(some 23), .raw (so (.unOp .not 4 (.tmp 22)) 4), (some (18, true)), [], false⟩,
      ⟨(some 24), .pick (.tmp 18) (.tmp 23) (.const (.bool false)), none, [], false⟩]) (.cond (.tmp 24)
    .ret
    .skip)))) (.region [
      ⟨(some 25), .bin .add (so (.binOp .add 3 (.tmp 11) (.const (.int .i64 1)) 3) 3) (.tmp 11) (.const (.int .i64 1)), none, [], false⟩,
      ⟨(some 11), .mov (.tmp 25), none, [], false⟩]))))
noncomputable def cross_Cross_all_1_c : ACode :=
  (.seq (.seq (.region [
      ⟨(some 5), .load none (.tmp 1), none, [], false⟩,
      ⟨(some 6), .callV (.func 27) [(.tmp 5)], none, [], false⟩]) (.cond (.tmp 6)
    .ret
    .skip)) (.seq (.region [
      ⟨(some 7), .load none (.tmp 1), none, [], false⟩,
      ⟨(some 8), .nilCheck (.tmp 7), none, [], false⟩,
      ⟨(some 9), .fieldAddr 32 (.tmp 8), none, [], false⟩,
      ⟨(some 10), .load (some 2672) (.tmp 9), none, [], false⟩,
      ⟨(some 11), .mov (.const (.int .i64 0)), none, [], false⟩]) (.block 0 (.loop cross_Cross_all_1_l0))))
noncomputable def cross_Cross_all_1 : AFunc := ⟨26, [], cross_Cross_all_1_c, none⟩
theorem cross_Cross_all_1_t0 : tableOf Try.prog 33 = some cross_Cross_all_1 := by kernel_rfl
theorem cross_Cross_all_1_t : T0 33 = some cross_Cross_all_1 := withKept_t rfl (withTrue_t rfl cross_Cross_all_1_t0)


/-! 34 slices.Clone[[]landfall/api.Vote,landfall/api.Vote] -/
abbrev fn_slices_Clone___api_Vote_api_Vote_ : FuncId := 34
noncomputable def slices_Clone___api_Vote_api_Vote__c : ACode :=
  (.seq (.region [
      ⟨(some 2), .mov (.const (.slice none 0 0)), none, [], false⟩]) (.seq (.seq (.region [
      ⟨(some 3), .mov (.tmp 0), none, [], false⟩,
      ⟨(some 4), .eq .slice false (so (.binOp .eql 26 (.tmp 3) (.const (.slice none 0 0)) 26) 4) (.tmp 3) (.const (.slice none 0 0)), none, [], false⟩]) (.cond (.tmp 4)
    (.seq (.region [
      ⟨(some 2), .mov (.const (.slice none 0 0)), none, [], false⟩]) .ret)
    .skip)) (.seq (.region [
      ⟨(some 5), .buildSlice 87 [] 0 [], none, [], false⟩,
      ⟨(some 6), .mov (.tmp 0), none, [], false⟩,
      ⟨(some 7), .append 87 2 16 [(.int .i64 0), (.int .u64 0)] false (.tmp 5) (.tmp 6), none, [], false⟩,
      ⟨(some 2), .mov (.tmp 7), none, [], false⟩]) .ret)))
noncomputable def slices_Clone___api_Vote_api_Vote_ : AFunc := ⟨8, [(2, none)], slices_Clone___api_Vote_api_Vote__c, none⟩
theorem slices_Clone___api_Vote_api_Vote__t0 : tableOf Try.prog 34 = some slices_Clone___api_Vote_api_Vote_ := by kernel_rfl
theorem slices_Clone___api_Vote_api_Vote__t : T0 34 = some slices_Clone___api_Vote_api_Vote_ := withKept_t rfl (withTrue_t rfl slices_Clone___api_Vote_api_Vote__t0)


/-! 35 slices.Clone[[]landfall/api.Validator,landfall/api.Validator] -/
abbrev fn_slices_Clone___api_Validator_api_Validator_ : FuncId := 35
noncomputable def slices_Clone___api_Validator_api_Validator__c : ACode :=
  (.seq (.region [
      ⟨(some 2), .mov (.const (.slice none 0 0)), none, [], false⟩]) (.seq (.seq (.region [
      ⟨(some 3), .mov (.tmp 0), none, [], false⟩,
      ⟨(some 4), .eq .slice false (so (.binOp .eql 29 (.tmp 3) (.const (.slice none 0 0)) 29) 4) (.tmp 3) (.const (.slice none 0 0)), none, [], false⟩]) (.cond (.tmp 4)
    (.seq (.region [
      ⟨(some 2), .mov (.const (.slice none 0 0)), none, [], false⟩]) .ret)
    .skip)) (.seq (.region [
      ⟨(some 5), .buildSlice 81 [] 0 [], none, [], false⟩,
      ⟨(some 6), .mov (.tmp 0), none, [], false⟩,
      ⟨(some 7), .append 81 5 16 [(.int .u8 0), (.int .u8 0), (.int .u8 0), (.int .u8 0), (.int .i64 0)] false (.tmp 5) (.tmp 6), none, [], false⟩,
      ⟨(some 2), .mov (.tmp 7), none, [], false⟩]) .ret)))
noncomputable def slices_Clone___api_Validator_api_Validator_ : AFunc := ⟨8, [(2, none)], slices_Clone___api_Validator_api_Validator__c, none⟩
theorem slices_Clone___api_Validator_api_Validator__t0 : tableOf Try.prog 35 = some slices_Clone___api_Validator_api_Validator_ := by kernel_rfl
theorem slices_Clone___api_Validator_api_Validator__t : T0 35 = some slices_Clone___api_Validator_api_Validator_ := withKept_t rfl (withTrue_t rfl slices_Clone___api_Validator_api_Validator__t0)


/-! 36 landfall/cross.are$1 -/
abbrev fn_cross_are_1 : FuncId := 36
noncomputable def cross_are_1_c : ACode :=
  (.seq (.region [
      ⟨(some 2), .box 37 (.tmp 0), none, [], false⟩,
      ⟨(some 3), .mov (.const (.bool false)), none, [], false⟩]) (.seq (.region [
      ⟨(some 4), .fieldAddr 0 (.tmp 2), none, [], false⟩,
      ⟨(some 5), .load none (.tmp 4), none, [], false⟩,
      ⟨(some 6), .load none (.tmp 1), none, [], false⟩,
      ⟨(some 7), .bin .eql (so (.binOp .eql 35 (.tmp 5) (.tmp 6) 35) 4) (.tmp 5) (.tmp 6), none, [], false⟩,
      ⟨(some 3), .mov (.tmp 7), none, [], false⟩]) .ret))
noncomputable def cross_are_1 : AFunc := ⟨8, [(3, none)], cross_are_1_c, none⟩
theorem cross_are_1_t0 : tableOf Try.prog 36 = some cross_are_1 := by kernel_rfl
theorem cross_are_1_t : T0 36 = some cross_are_1 := withKept_t rfl (withTrue_t rfl cross_are_1_t0)


/-! 38 landfall/header.Encode -/
abbrev fn_header_Encode : FuncId := 38
noncomputable def header_Encode_l0 : ACode :=
  (.seq (.region [
      ⟨(some 32), .bin .lss (so (.binOp .lss 3 (.tmp 31) (.const (.int .i64 4)) 3) 0) (.tmp 31) (.const (.int .i64 4)), none, [], false⟩]) (.seq (.cond (.tmp 32)
    .skip
    (.exit 0)) (.seq (.block 1 (.seq (.region [
      ⟨(some 33), .index 4 1 none (.tmp 30) (.tmp 31), none, [], false⟩,
      ⟨(some 8), .mov (.tmp 33), none, [], false⟩]) (.region [
      ⟨(some 34), .mov (.tmp 5), none, [], false⟩,
      ⟨(some 35), .mov (.tmp 8), none, [], false⟩,
      ⟨(some 36), .nilCheck (.tmp 35), none, [], false⟩,
      ⟨(some 37), .load (some 32) (.tmp 36), none, [], false⟩,
      ⟨(some 38), .callV (.func 45) [(.tmp 34), (.tmp 37)], none, [], false⟩]))) (.region [
      ⟨(some 39), .bin .add (so (.binOp .add 3 (.tmp 31) (.const (.int .i64 1)) 3) 3) (.tmp 31) (.const (.int .i64 1)), none, [], false⟩,
      ⟨(some 31), .mov (.tmp 39), none, [], false⟩]))))
noncomputable def header_Encode_c : ACode :=
  (.seq (.region [
      ⟨(some 1), .box 25 (.tmp 0), none, [], false⟩,
      ⟨(some 2), .mov (.const (.slice none 0 0)), none, [], false⟩,
      ⟨(some 3), .mov (.const (.int .i64 0)), none, [], false⟩]) (.seq (.seq (.region [
      ⟨(some 9), .load (some 131) (.tmp 1), none, [], false⟩,
      ⟨(some 10), .callV (.func 40) [(.tmp 9)], none, [], false⟩,
      ⟨(some 4), .mov (.tmp 10), none, [], false⟩]) (.seq (.region [
      ⟨(some 11), .mov (.tmp 4), none, [], false⟩,
      ⟨(some 12), .bin .neq (so (.binOp .neq 44 (.tmp 11) (.const (.int .i64 0)) 44) 4) (.tmp 11) (.const (.int .i64 0)), none, [], false⟩]) (.cond (.tmp 12)
    (.seq (.region [
      ⟨(some 13), .mov (.tmp 4), none, [], false⟩,
      ⟨(some 2), .mov (.const (.slice none 0 0)), none, [], false⟩,
      ⟨(some 3), .mov (.tmp 13), none, [], false⟩]) .ret)
    .skip))) (.seq (.region [
      ⟨(some 15), .callV (.func 41) [(.const (.int .i64 65536))], none, [], false⟩,
      ⟨(some 14), .mov (.tmp 15), none, [], false⟩,
      ⟨(some 16), .extract 0 (.tmp 14), none, [], false⟩,
      ⟨(some 17), .extract 1 (.tmp 14), none, [], false⟩,
      ⟨(some 5), .mov (.tmp 16), none, [], false⟩,
      ⟨(some 6), .mov (.tmp 17), none, [], false⟩]) (.seq (.region [
      ⟨(some 18), .mov (.tmp 5), none, [], false⟩,
      ⟨(some 19), .fieldAddr 0 (.tmp 1), none, [], false⟩,
      ⟨(some 20), .load none (.tmp 19), none, [], false⟩,
      ⟨(some 21), .callV (.func 42) [(.tmp 18), (.tmp 20)], none, [], false⟩]) (.seq (.region [
      ⟨(some 22), .mov (.tmp 5), none, [], false⟩,
      ⟨(some 23), .fieldAddr 1 (.tmp 1), none, [], false⟩,
      ⟨(some 24), .load none (.tmp 23), none, [], false⟩,
      ⟨(some 25), .callV (.func 43) [(.tmp 22), (.tmp 24)], none, [], false⟩]) (.seq (.region [
      ⟨(some 26), .mov (.tmp 5), none, [], false⟩,
      ⟨(some 27), .fieldAddr 2 (.tmp 1), none, [], false⟩,
      ⟨(some 28), .load none (.tmp 27), none, [], false⟩,
      ⟨(some 29), .callV (.func 43) [(.tmp 26), (.tmp 28)], none, [], false⟩]) (.seq (.seq (.region [
      ⟨(some 30), .callV (.func 44) [(.tmp 1)], none, [], false⟩,
      ⟨(some 31), .mov (.const (.int .i64 0)), none, [], false⟩]) (.block 0 (.loop header_Encode_l0))) (.seq (.region [
      ⟨(some 40), .mov (.tmp 5), none, [], false⟩,
      ⟨(some 41), .callV (.func 46) [(.tmp 40)], none, [], false⟩,
      ⟨(some 42), .extract 0 (.tmp 41), none, [], false⟩,
      ⟨(some 43), .extract 1 (.tmp 41), none, [], false⟩,
      ⟨(some 2), .mov (.tmp 42), none, [], false⟩,
      ⟨(some 3), .mov (.tmp 43), none, [], false⟩]) .ret))))))))
noncomputable def header_Encode : AFunc := ⟨44, [(2, none), (3, none)], header_Encode_c, none⟩
theorem header_Encode_t0 : tableOf Try.prog 38 = some header_Encode := by kernel_rfl
theorem header_Encode_t : T0 38 = some header_Encode := withKept_t rfl (withTrue_t rfl header_Encode_t0)


/-! 39 landfall/blake.Sum -/
abbrev fn_blake_Sum : FuncId := 39
noncomputable def blake_Sum_c : ACode :=
  (.seq (.region [
      ⟨(some 2), .alloc 23 z32, none, [], false⟩]) (.seq (.region [
      ⟨(some 6), .callV (.func 47) [], none, [], false⟩,
      ⟨(some 3), .mov (.tmp 6), none, [], false⟩]) (.seq (.region [
      ⟨(some 7), .mov (.tmp 3), none, [], false⟩,
      ⟨(some 8), .mov (.tmp 0), none, [], false⟩,
      ⟨(some 9), .callV (.func 48) [(.tmp 7), (.tmp 8)], none, [], false⟩]) (.seq (.region [
      ⟨(some 11), .mov (.tmp 3), none, [], false⟩,
      ⟨(some 12), .callV (.func 49) [(.tmp 11)], none, [], false⟩,
      ⟨(some 10), .mov (.tmp 12), none, [], false⟩,
      ⟨(some 13), .extract 0 (.tmp 10), none, [], false⟩,
      ⟨(some 14), .extract 1 (.tmp 10), none, [], false⟩,
      ⟨(some 4), .alloc 23 z32, none, [], false⟩,
      ⟨none, .store 32 (.tmp 4) (.tmp 13), none, [], false⟩,
      ⟨(some 5), .mov (.tmp 14), none, [], false⟩]) (.seq (.region [
      ⟨(some 15), .load (some 32) (.tmp 4), none, [], false⟩,
      ⟨none, .store 32 (.tmp 2) (.tmp 15), none, [], false⟩]) .ret)))))
noncomputable def blake_Sum : AFunc := ⟨16, [(2, some (some 32))], blake_Sum_c, none⟩
theorem blake_Sum_t0 : tableOf Try.prog 39 = some blake_Sum := by kernel_rfl
theorem blake_Sum_t : T0 39 = some blake_Sum := withKept_t rfl (withTrue_t rfl blake_Sum_t0)


/-! 40 landfall/header.Check -/
abbrev fn_header_Check : FuncId := 40
noncomputable def header_Check_l0 : ACode :=
  (.seq (.region [
      ⟨(some 8), .bin .lss (so (.binOp .lss 3 (.tmp 7) (.tmp 6) 3) 0) (.tmp 7) (.tmp 6), none, [], false⟩]) (.seq (.cond (.tmp 8)
    .skip
    (.exit 0)) (.seq (.block 1 (.seq (.region [
      ⟨(some 9), .indexSl 2 (.tmp 5) (.tmp 7), none, [], false⟩,
      ⟨(some 10), .load (some 2) (.tmp 9), none, [], false⟩,
      ⟨(some 4), .alloc 113 [.nilFunc, (.int .i64 0)], none, [], false⟩,
      ⟨none, .store 2 (.tmp 4) (.tmp 10), none, [], false⟩]) (.seq (.region [
      ⟨(some 11), .fieldAddr 0 (.tmp 4), none, [], false⟩,
      ⟨(some 12), .load none (.tmp 11), none, [], false⟩,
      ⟨(some 13), .load (some 131) (.tmp 1), none, [], false⟩,
      ⟨(some 14), .callV (.tmp 12) [(.tmp 13)], none, [], false⟩,
      ⟨(some 15), .raw (so (.unOp .not 4 (.tmp 14)) 4), none, [], false⟩]) (.cond (.tmp 15)
    (.seq (.region [
      ⟨(some 16), .fieldAddr 1 (.tmp 4), none, [], false⟩,
      ⟨(some 17), .load none (.tmp 16), none, [], false⟩,
      ⟨(some 2), .mov (.tmp 17), none, [], false⟩]) .ret)
    .skip)))) (.region [
      ⟨(some 18), .bin .add (so (.binOp .add 3 (.tmp 7) (.const (.int .i64 1)) 3) 3) (.tmp 7) (.const (.int .i64 1)), none, [], false⟩,
      ⟨(some 7), .mov (.tmp 18), none, [], false⟩]))))
noncomputable def header_Check_c : ACode :=
  (.seq (.region [
      ⟨(some 1), .box 25 (.tmp 0), none, [], false⟩,
      ⟨(some 2), .mov (.const (.int .i64 0)), none, [], false⟩]) (.seq (.seq (.region [
      ⟨(some 5), .callV (.func 50) [], none, [], false⟩,
      ⟨(some 6), .lenSl (.tmp 5), none, [], false⟩,
      ⟨(some 7), .mov (.const (.int .i64 0)), none, [], false⟩]) (.block 0 (.loop header_Check_l0))) (.seq (.region [
      ⟨(some 2), .mov (.const (.int .i64 0)), none, [], false⟩]) .ret)))
noncomputable def header_Check : AFunc := ⟨19, [(2, none)], header_Check_c, none⟩
theorem header_Check_t0 : tableOf Try.prog 40 = some header_Check := by kernel_rfl
theorem header_Check_t : T0 40 = some header_Check := withKept_t rfl (withTrue_t rfl header_Check_t0)


/-! 41 landfall/wire.NewWriter -/
abbrev fn_wire_NewWriter : FuncId := 41
noncomputable def wire_NewWriter_c : ACode :=
  (.seq (.region [
      ⟨(some 2), .mov (.const (.pointer none)), none, [], false⟩,
      ⟨(some 3), .mov (.const (.int .i64 0)), none, [], false⟩]) (.seq (.seq (.region [
      ⟨(some 4), .mov (.tmp 0), none, [], false⟩,
      ⟨(some 5), .bin .lss (so (.binOp .lss 3 (.tmp 4) (.const (.int .i64 0)) 3) 4) (.tmp 4) (.const (.int .i64 0)), none, [], false⟩,
      ⟨(some 6), .mov (.tmp 5), none, [], false⟩,
      ⟨(some 7), .mov (.tmp 0), (some (6, false)), [], false⟩,
      ⟨(some 8), .bin .gtr (so (.binOp .gtr 3 (.tmp 7) (.const (.int .i64 1048576)) 3) 4) (.tmp 7) (.const (.int .i64 1048576)), (some (6, false)), [], false⟩,
      ⟨(some 9), .pick (.tmp 6) (.const (.bool true)) (.tmp 8), none, [], false⟩]) (.cond (.tmp 9)
    (.seq (.region [
      ⟨(some 2), .mov (.const (.pointer none)), none, [], false⟩,
      ⟨(some 3), .mov (.const (.int .i64 3)), none, [], false⟩]) .ret)
    .skip)) (.seq (.region [
      ⟨(some 10), .mov (.tmp 0), none, [], false⟩,
      ⟨(some 11), .build [(.int .i64 0), (.slice none 0 0), (.int .i64 0), (.bool false)] [(0, 1, (.tmp 10)), (3, 1, (.const (.bool true)))], none, [], false⟩,
      ⟨(some 12), .box 115 (.tmp 11), none, [], false⟩,
      ⟨(some 2), .mov (.tmp 12), none, [], false⟩,
      ⟨(some 3), .mov (.const (.int .i64 0)), none, [], false⟩]) .ret)))
noncomputable def wire_NewWriter : AFunc := ⟨13, [(2, none), (3, none)], wire_NewWriter_c, none⟩
theorem wire_NewWriter_t0 : tableOf Try.prog 41 = some wire_NewWriter := by kernel_rfl
theorem wire_NewWriter_t : T0 41 = some wire_NewWriter := withKept_t rfl (withTrue_t rfl wire_NewWriter_t0)


/-! 42 (*landfall/wire.Writer).Text -/
abbrev fn_wire_Writer_Text : FuncId := 42
noncomputable def wire_Writer_Text_c : ACode :=
  (.seq (.region [
      ⟨(some 4), .mov (.const (.int .i64 0)), none, [], false⟩]) (.seq (.region [
      ⟨(some 5), .mov (.tmp 0), none, [], false⟩,
      ⟨(some 6), .mov (.tmp 1), none, [], false⟩,
      ⟨(some 7), .strToBytes 5 (.tmp 6), none, [], false⟩,
      ⟨(some 8), .callV (.func 51) [(.tmp 5), (.tmp 7)], none, [], false⟩,
      ⟨(some 4), .mov (.tmp 8), none, [], false⟩]) .ret))
noncomputable def wire_Writer_Text : AFunc := ⟨9, [(4, none)], wire_Writer_Text_c, none⟩
theorem wire_Writer_Text_t0 : tableOf Try.prog 42 = some wire_Writer_Text := by kernel_rfl
theorem wire_Writer_Text_t : T0 42 = some wire_Writer_Text := withKept_t rfl (withTrue_t rfl wire_Writer_Text_t0)


/-! 43 (*landfall/wire.Writer).Num -/
abbrev fn_wire_Writer_Num : FuncId := 43
noncomputable def wire_Writer_Num_c : ACode :=
  (.seq (.region [
      ⟨(some 4), .mov (.const (.int .i64 0)), none, [], false⟩]) (.seq (.region [
      ⟨(some 5), .mov (.tmp 0), none, [], false⟩,
      ⟨(some 6), .mov (.tmp 1), none, [], false⟩,
      ⟨(some 7), .bin .geq (so (.binOp .geq 3 (.tmp 6) (.const (.int .i64 0)) 3) 4) (.tmp 6) (.const (.int .i64 0)), none, [], false⟩,
      ⟨(some 8), .mov (.tmp 1), none, [], false⟩,
      ⟨(some 9), .raw (so (.call ⟨.builtin .max, #[(.tmp 8), (.const (.int .i64 0))], #[3, 3]⟩) 3), none, [], false⟩,
      ⟨(some 10), .callV (.func 53) [(.tmp 9)], none, [], false⟩,
      ⟨(some 11), .buildSlice 90 [(.slice none 0 0)] 1 [(0, 1, (.tmp 10))], none, [], false⟩,
      ⟨(some 12), .callV (.func 52) [(.tmp 5), (.tmp 7), (.tmp 11)], none, [], false⟩,
      ⟨(some 4), .mov (.tmp 12), none, [], false⟩]) .ret))
noncomputable def wire_Writer_Num : AFunc := ⟨13, [(4, none)], wire_Writer_Num_c, none⟩
theorem wire_Writer_Num_t0 : tableOf Try.prog 43 = some wire_Writer_Num := by kernel_rfl
theorem wire_Writer_Num_t : T0 43 = some wire_Writer_Num := withKept_t rfl (withTrue_t rfl wire_Writer_Num_t0)


/-! 44 landfall/header.hashes -/
abbrev fn_header_hashes : FuncId := 44
noncomputable def header_hashes_c : ACode :=
  (.seq (.region [
      ⟨(some 2), .alloc 100 [(.pointer none), (.pointer none), (.pointer none), (.pointer none)], none, [], false⟩]) (.seq (.regionD [
      ⟨(some 3), .mov (.tmp 0), none, [], false⟩,
      ⟨(some 4), .nilCheck (.tmp 3), none, [], false⟩,
      ⟨(some 5), .fieldAddr 3 (.tmp 4), none, [], false⟩,
      ⟨(some 6), .mov (.tmp 0), none, [], false⟩,
      ⟨(some 7), .nilCheck (.tmp 6), none, [], false⟩,
      ⟨(some 8), .fieldAddr 35 (.tmp 7), none, [], false⟩,
      ⟨(some 9), .mov (.tmp 0), none, [], false⟩,
      ⟨(some 10), .nilCheck (.tmp 9), none, [], false⟩,
      ⟨(some 11), .fieldAddr 67 (.tmp 10), none, [], false⟩,
      ⟨(some 12), .mov (.tmp 0), none, [], false⟩,
      ⟨(some 13), .nilCheck (.tmp 12), none, [], false⟩,
      ⟨(some 14), .fieldAddr 99 (.tmp 13), none, [], false⟩,
      ⟨(some 15), .build [(.pointer none), (.pointer none), (.pointer none), (.pointer none)] [(0, 1, (.tmp 5)), (1, 1, (.tmp 8)), (2, 1, (.tmp 11)), (3, 1, (.tmp 14))], none, [], true⟩,
      ⟨none, .store 4 (.tmp 2) (.tmp 15), none, [], true⟩]) .ret))
noncomputable def header_hashes : AFunc := ⟨16, [(2, some (some 4))], header_hashes_c, none⟩
theorem header_hashes_t0 : tableOf Try.prog 44 = some header_hashes := by kernel_rfl
theorem header_hashes_t : T0 44 = some header_hashes := withKept_t rfl (withTrue_t rfl header_hashes_t0)


/-! 45 (*landfall/wire.Writer).Hash -/
abbrev fn_wire_Writer_Hash : FuncId := 45
noncomputable def wire_Writer_Hash_c : ACode :=
  (.seq (.region [
      ⟨(some 3), .box 23 (.tmp 1), none, [], false⟩,
      ⟨(some 4), .mov (.const (.int .i64 0)), none, [], false⟩]) (.seq (.region [
      ⟨(some 5), .mov (.tmp 0), none, [], false⟩,
      ⟨(some 6), .sliceArr 32 1 (.tmp 3) none none, none, [], false⟩,
      ⟨(some 7), .buildSlice 90 [(.slice none 0 0)] 1 [(0, 1, (.tmp 6))], none, [], false⟩,
      ⟨(some 8), .callV (.func 52) [(.tmp 5), (.const (.bool true)), (.tmp 7)], none, [], false⟩,
      ⟨(some 4), .mov (.tmp 8), none, [], false⟩]) .ret))
noncomputable def wire_Writer_Hash : AFunc := ⟨9, [(4, none)], wire_Writer_Hash_c, none⟩
theorem wire_Writer_Hash_t0 : tableOf Try.prog 45 = some wire_Writer_Hash := by kernel_rfl
theorem wire_Writer_Hash_t : T0 45 = some wire_Writer_Hash := withKept_t rfl (withTrue_t rfl wire_Writer_Hash_t0)


/-! 46 (*landfall/wire.Writer).Done -/
abbrev fn_wire_Writer_Done : FuncId := 46
noncomputable def wire_Writer_Done_c : ACode :=
  (.seq (.region [
      ⟨(some 2), .mov (.const (.slice none 0 0)), none, [], false⟩,
      ⟨(some 3), .mov (.const (.int .i64 0)), none, [], false⟩]) (.seq (.block 0 (.seq (.region [
      ⟨(some 5), .mov (.tmp 0), none, [], false⟩,
      ⟨(some 6), .eq .ptr false (so (.binOp .eql 95 (.tmp 5) (.const (.pointer none)) 95) 4) (.tmp 5) (.const (.pointer none)), none, [], false⟩,
      ⟨(some 7), .mov (.tmp 6), none, [], false⟩,
      ⟨(some 8), .mov (.tmp 0), (some (7, false)), [], false⟩,
      ⟨(some 9), .nilCheck (.tmp 8), (some (7, false)), [], false⟩,
      ⟨(some 10), .fieldAddr 3 (.tmp 9), (some (7, false)), [], false⟩,
      ⟨(some 11), .load none (.tmp 10), (some (7, false)), [], false⟩,
      ⟨(some 12), .raw (so (.unOp .not 4 (.tmp 11)) 4), (some (7, false)), [], false⟩,
      ⟨(some 13), .pick (.tmp 7) (.const (.bool true)) (.tmp 12), none, [], false⟩,
      ⟨(some 4), .mov (.tmp 13), none, [], false⟩]) (.cond (.tmp 4)
    (.seq (.region [
      ⟨(some 2), .mov (.const (.slice none 0 0)), none, [], false⟩,
      ⟨(some 3), .mov (.const (.int .i64 1)), none, [], false⟩]) .ret)
    (.seq (.region [
      ⟨(some 15), .mov (.tmp 0), none, [], false⟩,
      ⟨(some 16), .nilCheck (.tmp 15), none, [], false⟩,
      ⟨(some 17), .fieldAddr 2 (.tmp 16), none, [], false⟩,
      ⟨(some 18), .load none (.tmp 17), none, [], false⟩,
      ⟨(some 19), .bin .neq (so (.binOp .neq 44 (.tmp 18) (.const (.int .i64 0)) 44) 4) (.tmp 18) (.const (.int .i64 0)), none, [], false⟩,
      ⟨(some 14), .mov (.tmp 19), none, [], false⟩]) (.cond (.tmp 14)
    (.seq (.regionD [
      ⟨(some 20), .mov (.tmp 0), none, [], false⟩,
      ⟨(some 21), .nilCheck (.tmp 20), none, [], false⟩,
      ⟨(some 22), .fieldAddr 2 (.tmp 21), none, [], false⟩,
      ⟨(some 23), .load none (.tmp 22), none, [], false⟩,
      ⟨(some 2), .mov (.const (.slice none 0 0)), none, [], false⟩,
      ⟨(some 3), .mov (.tmp 23), none, [], true⟩]) .ret)
    .skip))))) (.seq (.region [
      ⟨(some 24), .mov (.tmp 0), none, [], false⟩,
      ⟨(some 25), .nilCheck (.tmp 24), none, [], false⟩,
      ⟨(some 26), .fieldAddr 1 (.tmp 25), none, [], false⟩,
      ⟨(some 27), .load none (.tmp 26), none, [], false⟩,
      ⟨(some 28), .callV (.func 54) [(.tmp 27)], none, [], false⟩,
      ⟨(some 2), .mov (.tmp 28), none, [], false⟩,
      ⟨(some 3), .mov (.const (.int .i64 0)), none, [], false⟩]) .ret)))
noncomputable def wire_Writer_Done : AFunc := ⟨29, [(2, none), (3, none)], wire_Writer_Done_c, none⟩
theorem wire_Writer_Done_t0 : tableOf Try.prog 46 = some wire_Writer_Done := by kernel_rfl
theorem wire_Writer_Done_t : T0 46 = some wire_Writer_Done := withKept_t rfl (withTrue_t rfl wire_Writer_Done_t0)


/-! 47 landfall/blake.New -/
abbrev fn_blake_New : FuncId := 47
noncomputable def blake_New_c : ACode :=
  (.seq (.region [
      ⟨(some 0), .mov (.const (.pointer none)), none, [], false⟩]) (.seq (.region [
      ⟨(some 2), .callV (.func 55) [], none, [], false⟩,
      ⟨(some 1), .alloc 121 [(.int .u32 0), (.int .u32 0), (.int .u32 0), (.int .u32 0), (.int .u32 0), (.int .u32 0), (.int .u32 0), (.int .u32 0)], none, [], false⟩,
      ⟨none, .store 8 (.tmp 1) (.tmp 2), none, [], false⟩]) (.seq (.region [
      ⟨(some 3), .indexArr 8 1 (.tmp 1) (.const (.int .i64 0)), none, [], false⟩,
      ⟨(some 4), .load none (.tmp 3), none, [], false⟩,
      ⟨(some 5), .bin .xor (so (.binOp .xor 119 (.tmp 4) (.const (.int .u32 16842784)) 119) 119) (.tmp 4) (.const (.int .u32 16842784)), none, [], false⟩,
      ⟨(some 6), .indexArr 8 1 (.tmp 1) (.const (.int .i64 0)), none, [], false⟩,
      ⟨none, .store 1 (.tmp 6) (.tmp 5), none, [], false⟩]) (.seq (.region [
      ⟨(some 7), .build [(.int .i64 0)] [], none, [], false⟩,
      ⟨(some 8), .box 125 (.tmp 7), none, [], false⟩,
      ⟨(some 9), .load (some 8) (.tmp 1), none, [], false⟩,
      ⟨(some 10), .build [(.pointer none), (.int .u32 0), (.int .u32 0), (.int .u32 0), (.int .u32 0), (.int .u32 0), (.int .u32 0), (.int .u32 0), (.int .u32 0), (.slice none 0 0)] [(0, 1, (.tmp 8)), (1, 8, (.tmp 9))], none, [], false⟩,
      ⟨(some 11), .box 127 (.tmp 10), none, [], false⟩,
      ⟨(some 0), .mov (.tmp 11), none, [], false⟩]) .ret))))
noncomputable def blake_New : AFunc := ⟨12, [(0, none)], blake_New_c, none⟩
theorem blake_New_t0 : tableOf Try.prog 47 = some blake_New := by kernel_rfl
theorem blake_New_t : T0 47 = some blake_New := withKept_t rfl (withTrue_t rfl blake_New_t0)


/-! 48 (*landfall/blake.State).Write -/
abbrev fn_blake_State_Write : FuncId := 48
noncomputable def blake_State_Write_l0 : ACode :=
  (.seq (.seq (.region [
      ⟨(some 16), .mov (.tmp 0), none, [], false⟩,
      ⟨(some 17), .nilCheck (.tmp 16), none, [], false⟩,
      ⟨(some 18), .fieldAddr 9 (.tmp 17), none, [], false⟩,
      ⟨(some 19), .load none (.tmp 18), none, [], false⟩,
      ⟨(some 20), .lenSl (.tmp 19), none, [], false⟩,
      ⟨(some 21), .bin .gtr (so (.binOp .gtr 3 (.tmp 20) (.const (.int .i64 64)) 3) 4) (.tmp 20) (.const (.int .i64 64)), none, [], false⟩]) (.cond (.tmp 21)
    .skip
    (.exit 0))) (.block 1 (.seq (.region [
      ⟨(some 22), .mov (.tmp 0), none, [], false⟩,
      ⟨(some 23), .nilCheck (.tmp 22), none, [], false⟩,
      ⟨(some 24), .fieldAddr 0 (.tmp 23), none, [], false⟩,
      ⟨(some 25), .load none (.tmp 24), none, [], false⟩,
      ⟨(some 26), .callV (.func 57) [(.tmp 25), (.const (.int .i64 64))], none, [], false⟩]) (.seq (.regionD [
      ⟨(some 27), .mov (.tmp 0), none, [], false⟩,
      ⟨(some 28), .nilCheck (.tmp 27), none, [], false⟩,
      ⟨(some 29), .fieldAddr 1 (.tmp 28), none, [], false⟩,
      ⟨(some 30), .mov (.tmp 0), none, [], false⟩,
      ⟨(some 31), .nilCheck (.tmp 30), none, [], false⟩,
      ⟨(some 32), .fieldAddr 9 (.tmp 31), none, [], false⟩,
      ⟨(some 33), .load none (.tmp 32), none, [], false⟩,
      ⟨(some 34), .sliceSl 1 (.tmp 33) none (some (.const (.int .i64 64))) none, none, [], false⟩,
      ⟨(some 35), .mov (.tmp 0), none, [], false⟩,
      ⟨(some 36), .nilCheck (.tmp 35), none, [], false⟩,
      ⟨(some 37), .fieldAddr 0 (.tmp 36), none, [], false⟩,
      ⟨(some 38), .load none (.tmp 37), none, [], false⟩,
      ⟨(some 39), .nilCheck (.tmp 38), none, [], false⟩,
      ⟨(some 40), .fieldAddr 0 (.tmp 39), none, [], false⟩,
      ⟨(some 41), .load none (.tmp 40), none, [], false⟩,
      ⟨(some 42), .callV (.func 58) [(.tmp 29), (.tmp 34), (.tmp 41), (.const (.bool false))], none, [], true⟩]) (.region [
      ⟨(some 43), .mov (.tmp 0), none, [], false⟩,
      ⟨(some 44), .mov (.tmp 0), none, [], false⟩,
      ⟨(some 45), .nilCheck (.tmp 44), none, [], false⟩,
      ⟨(some 46), .fieldAddr 9 (.tmp 45), none, [], false⟩,
      ⟨(some 47), .load none (.tmp 46), none, [], false⟩,
      ⟨(some 48), .sliceSl 1 (.tmp 47) (some (.const (.int .i64 64))) none none, none, [], false⟩,
      ⟨(some 49), .nilCheck (.tmp 43), none, [], false⟩,
      ⟨(some 50), .fieldAddr 9 (.tmp 49), none, [], false⟩,
      ⟨none, .store 1 (.tmp 50) (.tmp 48), none, [], false⟩])))))
noncomputable def blake_State_Write_c : ACode :=
  (.seq (.region [
      ⟨(some 4), .mov (.const (.int .i64 0)), none, [], false⟩]) (.seq (.seq (.region [
      ⟨(some 5), .mov (.tmp 0), none, [], false⟩,
      ⟨(some 6), .callV (.func 56) [(.tmp 5)], none, [], false⟩]) (.cond (.tmp 6)
    (.seq (.region [
      ⟨(some 4), .mov (.const (.int .i64 1)), none, [], false⟩]) .ret)
    .skip)) (.seq (.region [
      ⟨(some 7), .mov (.tmp 0), none, [], false⟩,
      ⟨(some 8), .mov (.tmp 0), none, [], false⟩,
      ⟨(some 9), .nilCheck (.tmp 8), none, [], false⟩,
      ⟨(some 10), .fieldAddr 9 (.tmp 9), none, [], false⟩,
      ⟨(some 11), .load none (.tmp 10), none, [], false⟩,
      ⟨(some 12), .mov (.tmp 1), none, [], false⟩,
      ⟨(some 13), .append 5 1 1 [(.int .u8 0)] false (.tmp 11) (.tmp 12), none, [], false⟩,
      ⟨(some 14), .nilCheck (.tmp 7), none, [], false⟩,
      ⟨(some 15), .fieldAddr 9 (.tmp 14), none, [], false⟩,
      ⟨none, .store 1 (.tmp 15) (.tmp 13), none, [], false⟩]) (.seq (.block 0 (.loop blake_State_Write_l0)) (.seq (.region [
      ⟨(some 4), .mov (.const (.int .i64 0)), none, [], false⟩]) .ret)))))
noncomputable def blake_State_Write : AFunc := ⟨51, [(4, none)], blake_State_Write_c, none⟩
theorem blake_State_Write_t0 : tableOf Try.prog 48 = some blake_State_Write := by kernel_rfl
theorem blake_State_Write_t : T0 48 = some blake_State_Write := withKept_t rfl (withTrue_t rfl blake_State_Write_t0)


/-! 49 (*landfall/blake.State).Sum -/
abbrev fn_blake_State_Sum : FuncId := 49
noncomputable def blake_State_Sum_l0 : ACode :=
  (.seq (.region [
      ⟨(some 31), .bin .lss (so (.binOp .lss 3 (.tmp 30) (.const (.int .i64 32)) 3) 0) (.tmp 30) (.const (.int .i64 32)), none, [], false⟩]) (.seq (.cond (.tmp 31)
    .skip
    (.exit 0)) (.seq (.block 1 (.seq (.region [
      ⟨(some 32), .mov (.tmp 30), none, [], false⟩,
      ⟨(some 6), .mov (.tmp 32), none, [], false⟩]) (.region [
      ⟨(some 33), .mov (.tmp 6), none, [], false⟩,
      ⟨(some 34), .mov (.tmp 6), none, [], false⟩,
      ⟨(some 35), .bin .quo (so (.binOp .quo 3 (.tmp 34) (.const (.int .i64 4)) 3) 3) (.tmp 34) (.const (.int .i64 4)), none, [], false⟩,
      ⟨(some 36), .indexArr 8 1 (.tmp 4) (.tmp 35), none, [], false⟩,
      ⟨(some 37), .load none (.tmp 36), none, [], false⟩,
      ⟨(some 38), .mov (.tmp 6), none, [], false⟩,
      ⟨(some 39), .bin .rem (so (.binOp .rem 3 (.tmp 38) (.const (.int .i64 4)) 3) 3) (.tmp 38) (.const (.int .i64 4)), none, [], false⟩,
      ⟨(some 40), .bin .mul (so (.binOp .mul 3 (.const (.int .i64 8)) (.tmp 39) 3) 3) (.const (.int .i64 8)) (.tmp 39), none, [], false⟩,
      ⟨(some 41), .bin .shr (so (.binOp .shr 119 (.tmp 37) (.tmp 40) 3) 119) (.tmp 37) (.tmp 40), none, [], false⟩,
      ⟨(some 42), .conv .u8 (so (.convert 119 5 (.tmp 41)) 5) (.tmp 41), none, [], false⟩,
      ⟨(some 43), .indexArr 32 1 (.tmp 2) (.tmp 33), none, [], false⟩,
      ⟨none, .store 1 (.tmp 43) (.tmp 42), none, [], false⟩]))) (.region [
      ⟨(some 44), .bin .add (so (.binOp .add 3 (.tmp 30) (.const (.int .i64 1)) 3) 3) (.tmp 30) (.const (.int .i64 1)), none, [], false⟩,
      ⟨(some 30), .mov (.tmp 44), none, [], false⟩]))))
noncomputable def blake_State_Sum_c : ACode :=
  (.seq (.region [
      ⟨(some 2), .alloc 23 z32, none, [], false⟩,
      ⟨(some 3), .mov (.const (.int .i64 0)), none, [], false⟩]) (.seq (.seq (.region [
      ⟨(some 7), .mov (.tmp 0), none, [], false⟩,
      ⟨(some 8), .callV (.func 56) [(.tmp 7)], none, [], false⟩]) (.cond (.tmp 8)
    (.seq (.region [
      ⟨(some 9), .build z32 [], none, [], false⟩,
      ⟨none, .store 32 (.tmp 2) (.tmp 9), none, [], false⟩,
      ⟨(some 3), .mov (.const (.int .i64 1)), none, [], false⟩]) .ret)
    .skip)) (.seq (.region [
      ⟨(some 10), .mov (.tmp 0), none, [], false⟩,
      ⟨(some 11), .nilCheck (.tmp 10), none, [], false⟩,
      ⟨(some 12), .fieldAddr 1 (.tmp 11), none, [], false⟩,
      ⟨(some 13), .load (some 8) (.tmp 12), none, [], false⟩,
      ⟨(some 4), .alloc 121 [(.int .u32 0), (.int .u32 0), (.int .u32 0), (.int .u32 0), (.int .u32 0), (.int .u32 0), (.int .u32 0), (.int .u32 0)], none, [], false⟩,
      ⟨none, .store 8 (.tmp 4) (.tmp 13), none, [], false⟩]) (.seq (.regionD [
      ⟨(some 14), .mov (.tmp 0), none, [], false⟩,
      ⟨(some 15), .nilCheck (.tmp 14), none, [], false⟩,
      ⟨(some 16), .fieldAddr 9 (.tmp 15), none, [], false⟩,
      ⟨(some 17), .load none (.tmp 16), none, [], false⟩,
      ⟨(some 19), .mov (.tmp 0), none, [], false⟩,
      ⟨(some 20), .nilCheck (.tmp 19), none, [], false⟩,
      ⟨(some 21), .fieldAddr 9 (.tmp 20), none, [], false⟩,
      ⟨(some 22), .load none (.tmp 21), none, [], false⟩,
      ⟨(some 23), .lenSl (.tmp 22), none, [], false⟩,
      ⟨(some 24), .bin .sub (so (.binOp .sub 3 (.const (.int .i64 64)) (.tmp 23) 3) 3) (.const (.int .i64 64)) (.tmp 23), none, [], false⟩,
      ⟨(some 18), .callV (.func 54) [(.tmp 17)], none, [((some 24), .bin .sub (so (.binOp .sub 3 (.const (.int .i64 64)) (.tmp 23) 3) 3) (.const (.int .i64 64)) (.tmp 23), none), ((some 23), .lenSl (.tmp 22), none), ((some 22), .load none (.tmp 21), none), ((some 21), .fieldAddr 9 (.tmp 20), none), ((some 20), .nilCheck (.tmp 19), none), ((some 19), .mov (.tmp 0), none)], false⟩,
      ⟨(some 25), .append 5 1 1 [(.int .u8 0)] true (.tmp 18) (.tmp 24), none, [], true⟩,
      ⟨(some 5), .mov (.tmp 25), none, [], true⟩]) (.seq (.region [
      ⟨(some 26), .mov (.tmp 5), none, [], false⟩,
      ⟨(some 27), .mov (.tmp 0), none, [], false⟩,
      ⟨(some 28), .callV (.func 59) [(.tmp 27)], none, [], false⟩,
      ⟨(some 29), .callV (.func 58) [(.tmp 4), (.tmp 26), (.tmp 28), (.const (.bool true))], none, [], false⟩]) (.seq (.seq (.region [
      ⟨(some 30), .mov (.const (.int .i64 0)), none, [], false⟩]) (.block 0 (.loop blake_State_Sum_l0))) (.seq (.region [
      ⟨(some 45), .load (some 32) (.tmp 2), none, [], false⟩,
      ⟨none, .store 32 (.tmp 2) (.tmp 45), none, [], false⟩,
      ⟨(some 3), .mov (.const (.int .i64 0)), none, [], false⟩]) .ret)))))))
noncomputable def blake_State_Sum : AFunc := ⟨46, [(2, some (some 32)), (3, none)], blake_State_Sum_c, none⟩
theorem blake_State_Sum_t0 : tableOf Try.prog 49 = some blake_State_Sum := by kernel_rfl
theorem blake_State_Sum_t : T0 49 = some blake_State_Sum := withKept_t rfl (withTrue_t rfl blake_State_Sum_t0)


/-! 50 landfall/header.rules -/
abbrev fn_header_rules : FuncId := 50
noncomputable def header_rules_c : ACode :=
  (.seq (.region [
      ⟨(some 0), .mov (.const (.slice none 0 0)), none, [], false⟩]) (.seq (.region [
      ⟨(some 1), .build [.nilFunc, (.int .i64 0)] [(0, 1, (.func 60)), (1, 1, (.const (.int .i64 5)))], none, [], false⟩,
      ⟨(some 2), .build [.nilFunc, (.int .i64 0)] [(0, 1, (.func 62)), (1, 1, (.const (.int .i64 3)))], none, [], false⟩,
      ⟨(some 3), .build [.nilFunc, (.int .i64 0)] [(0, 1, (.func 63)), (1, 1, (.const (.int .i64 3)))], none, [], false⟩,
      ⟨(some 4), .buildSlice 113 [.nilFunc, (.int .i64 0), .nilFunc, (.int .i64 0), .nilFunc, (.int .i64 0)] 3 [(0, 2, (.tmp 1)), (2, 2, (.tmp 2)), (4, 2, (.tmp 3))], none, [], false⟩,
      ⟨(some 0), .mov (.tmp 4), none, [], false⟩]) .ret))
noncomputable def header_rules : AFunc := ⟨5, [(0, none)], header_rules_c, none⟩
theorem header_rules_t0 : tableOf Try.prog 50 = some header_rules := by kernel_rfl
theorem header_rules_t : T0 50 = some header_rules := withKept_t rfl (withTrue_t rfl header_rules_t0)


/-! 51 (*landfall/wire.Writer).Bytes -/
abbrev fn_wire_Writer_Bytes : FuncId := 51
noncomputable def wire_Writer_Bytes_c : ACode :=
  (.seq (.region [
      ⟨(some 4), .mov (.const (.int .i64 0)), none, [], false⟩]) (.seq (.region [
      ⟨(some 5), .mov (.tmp 0), none, [], false⟩,
      ⟨(some 6), .mov (.tmp 1), none, [], false⟩,
      ⟨(some 7), .lenSl (.tmp 6), none, [], false⟩,
      ⟨(some 8), .callV (.func 53) [(.tmp 7)], none, [], false⟩,
      ⟨(some 9), .mov (.tmp 1), none, [], false⟩,
      ⟨(some 10), .buildSlice 90 [(.slice none 0 0), (.slice none 0 0)] 2 [(0, 1, (.tmp 8)), (1, 1, (.tmp 9))], none, [], false⟩,
      ⟨(some 11), .callV (.func 52) [(.tmp 5), (.const (.bool true)), (.tmp 10)], none, [], false⟩,
      ⟨(some 4), .mov (.tmp 11), none, [], false⟩]) .ret))
noncomputable def wire_Writer_Bytes : AFunc := ⟨12, [(4, none)], wire_Writer_Bytes_c, none⟩
theorem wire_Writer_Bytes_t0 : tableOf Try.prog 51 = some wire_Writer_Bytes := by kernel_rfl
theorem wire_Writer_Bytes_t : T0 51 = some wire_Writer_Bytes := withKept_t rfl (withTrue_t rfl wire_Writer_Bytes_t0)


/-! 52 (*landfall/wire.Writer).put -/
abbrev fn_wire_Writer_put : FuncId := 52
noncomputable def wire_Writer_put_c : ACode :=
  (.seq (.region [
      ⟨(some 6), .mov (.const (.int .i64 0)), none, [], false⟩]) (.seq (.seq (.region [
      ⟨(some 8), .mov (.tmp 0), none, [], false⟩,
      ⟨(some 9), .eq .ptr false (so (.binOp .eql 95 (.tmp 8) (.const (.pointer none)) 95) 4) (.tmp 8) (.const (.pointer none)), none, [], false⟩,
      ⟨(some 10), .mov (.tmp 9), none, [], false⟩,
      ⟨(some 11), .mov (.tmp 0), (some (10, false)), [], false⟩,
      ⟨(some 12), .nilCheck (.tmp 11), (some (10, false)), [], false⟩,
      ⟨(some 13), .fieldAddr 3 (.tmp 12), (some (10, false)), [], false⟩,
      ⟨(some 14), .load none (.tmp 13), (some (10, false)), [], false⟩,
      ⟨(some 15), .raw (so (.unOp .not 4 (.tmp 14)) 4), (some (10, false)), [], false⟩,
      ⟨(some 16), .pick (.tmp 10) (.const (.bool true)) (.tmp 15), none, [], false⟩]) (.cond (.tmp 16)
    (.seq (.region [
      ⟨(some 6), .mov (.const (.int .i64 1)), none, [], false⟩]) .ret)
    .skip)) (.seq (.region [
      ⟨(some 17), .mov (.tmp 2), none, [], false⟩,
      ⟨(some 18), .callV (.func 64) [(.tmp 17)], none, [], false⟩,
      ⟨(some 7), .mov (.tmp 18), none, [], false⟩]) (.seq (.block 0 (.seq (.region [
      ⟨(some 29), .mov (.tmp 0), none, [], false⟩,
      ⟨(some 30), .nilCheck (.tmp 29), none, [], false⟩,
      ⟨(some 31), .fieldAddr 2 (.tmp 30), none, [], false⟩,
      ⟨(some 32), .load none (.tmp 31), none, [], false⟩,
      ⟨(some 33), .bin .neq (so (.binOp .neq 44 (.tmp 32) (.const (.int .i64 0)) 44) 4) (.tmp 32) (.const (.int .i64 0)), none, [], false⟩,
      ⟨(some 28), .mov (.tmp 33), none, [], false⟩]) (.cond (.tmp 28)
    .skip
    (.seq (.region [
      ⟨(some 35), .mov (.tmp 1), none, [], false⟩,
      ⟨(some 36), .raw (so (.unOp .not 4 (.tmp 35)) 4), none, [], false⟩,
      ⟨(some 34), .mov (.tmp 36), none, [], false⟩]) (.cond (.tmp 34)
    (.region [
      ⟨(some 37), .mov (.tmp 0), none, [], false⟩,
      ⟨(some 38), .nilCheck (.tmp 37), none, [], false⟩,
      ⟨(some 39), .fieldAddr 2 (.tmp 38), none, [], false⟩,
      ⟨none, .store 1 (.tmp 39) (.const (.int .i64 3)), none, [], false⟩])
    (.seq (.regionD [
      ⟨(some 41), .mov (.tmp 0), none, [], false⟩,
      ⟨(some 42), .nilCheck (.tmp 41), none, [], false⟩,
      ⟨(some 43), .fieldAddr 1 (.tmp 42), none, [], false⟩,
      ⟨(some 44), .load none (.tmp 43), none, [], false⟩,
      ⟨(some 45), .lenSl (.tmp 44), none, [], false⟩,
      ⟨(some 46), .mov (.tmp 7), none, [], false⟩,
      ⟨(some 47), .lenSl (.tmp 46), none, [], false⟩,
      ⟨(some 48), .bin .add (so (.binOp .add 3 (.tmp 45) (.tmp 47) 3) 3) (.tmp 45) (.tmp 47), none, [], false⟩,
      ⟨(some 49), .mov (.tmp 0), none, [], false⟩,
      ⟨(some 50), .nilCheck (.tmp 49), none, [], false⟩,
      ⟨(some 51), .fieldAddr 0 (.tmp 50), none, [], false⟩,
      ⟨(some 52), .load none (.tmp 51), none, [], false⟩,
      ⟨(some 53), .bin .gtr (so (.binOp .gtr 3 (.tmp 48) (.tmp 52) 3) 4) (.tmp 48) (.tmp 52), none, [], true⟩,
      ⟨(some 40), .mov (.tmp 53), none, [], true⟩]) (.cond (.tmp 40)
    (.region [
      ⟨(some 54), .mov (.tmp 0), none, [], false⟩,
      ⟨(some 55), .nilCheck (.tmp 54), none, [], false⟩,
      ⟨(some 56), .fieldAddr 2 (.tmp 55), none, [], false⟩,
      ⟨none, .store 1 (.tmp 56) (.const (.int .i64 4)), none, [], false⟩])
    (.region [
      ⟨(some 19), .mov (.tmp 0), none, [], false⟩,
      ⟨(some 20), .mov (.tmp 0), none, [], false⟩,
      ⟨(some 21), .nilCheck (.tmp 20), none, [], false⟩,
      ⟨(some 22), .fieldAddr 1 (.tmp 21), none, [], false⟩,
      ⟨(some 23), .load none (.tmp 22), none, [], false⟩,
      ⟨(some 24), .mov (.tmp 7), none, [], false⟩,
      ⟨(some 25), .append 5 1 1 [(.int .u8 0)] false (.tmp 23) (.tmp 24), none, [], false⟩,
      ⟨(some 26), .nilCheck (.tmp 19), none, [], false⟩,
      ⟨(some 27), .fieldAddr 1 (.tmp 26), none, [], false⟩,
      ⟨none, .store 1 (.tmp 27) (.tmp 25), none, [], false⟩])))))))) (.seq (.region [
      ⟨(some 57), .mov (.tmp 0), none, [], false⟩,
      ⟨(some 58), .nilCheck (.tmp 57), none, [], false⟩,
      ⟨(some 59), .fieldAddr 2 (.tmp 58), none, [], false⟩,
      ⟨(some 60), .load none (.tmp 59), none, [], false⟩,
      ⟨(some 6), .mov (.tmp 60), none, [], false⟩]) .ret)))))
noncomputable def wire_Writer_put : AFunc := ⟨61, [(6, none)], wire_Writer_put_c, none⟩
theorem wire_Writer_put_t0 : tableOf Try.prog 52 = some wire_Writer_put := by kernel_rfl
theorem wire_Writer_put_t : T0 52 = some wire_Writer_put := withKept_t rfl (withTrue_t rfl wire_Writer_put_t0)


/-! 53 landfall/wire.number -/
abbrev fn_wire_number : FuncId := 53
noncomputable def wire_number_l0 : ACode :=
  (.seq (.seq (.region [
      ⟨(some 5), .mov (.tmp 0), none, [], false⟩,
      ⟨(some 6), .bin .gtr (so (.binOp .gtr 3 (.tmp 5) (.const (.int .i64 0)) 3) 4) (.tmp 5) (.const (.int .i64 0)), none, [], false⟩]) (.cond (.tmp 6)
    .skip
    (.exit 0))) (.seq (.block 1 (.seq (.region [
      ⟨(some 9), .mov (.tmp 4), none, [], false⟩,
      ⟨(some 10), .bin .sub (so (.binOp .sub 3 (.const (.int .i64 8)) (.tmp 9) 3) 3) (.const (.int .i64 8)) (.tmp 9), none, [], false⟩,
      ⟨(some 11), .mov (.tmp 0), none, [], false⟩,
      ⟨(some 12), .conv .u8 (so (.convert 3 5 (.tmp 11)) 5) (.tmp 11), none, [], false⟩,
      ⟨(some 13), .indexArr 9 1 (.tmp 3) (.tmp 10), none, [], false⟩,
      ⟨none, .store 1 (.tmp 13) (.tmp 12), none, [], false⟩]) (.region [
      ⟨(some 14), .mov (.tmp 4), none, [], false⟩,
      ⟨(some 15), .bin .add (so (.binOp .add 3 (.tmp 14) (.const (.int .i64 1)) 3) 3) (.tmp 14) (.const (.int .i64 1)), none, [], false⟩,
      ⟨(some 4), .mov (.tmp 15), none, [], false⟩]))) (.region [
      ⟨(some 7), .mov (.tmp 0), none, [], false⟩,
      ⟨(some 8), .bin .shr (so (.binOp .shr 3 (.tmp 7) (.const (.int .u64 8)) 134) 3) (.tmp 7) (.const (.int .u64 8)), none, [], false⟩,
      ⟨(some 0), .mov (.tmp 8), none, [], false⟩])))
noncomputable def wire_number_c : ACode :=
  (.seq (.region [
      ⟨(some 2), .mov (.const (.slice none 0 0)), none, [], false⟩]) (.seq (.region [
      ⟨(some 3), .alloc 133 [(.int .u8 0), (.int .u8 0), (.int .u8 0), (.int .u8 0), (.int .u8 0), (.int .u8 0), (.int .u8 0), (.int .u8 0), (.int .u8 0)], none, [], false⟩]) (.seq (.region [
      ⟨(some 4), .mov (.const (.int .i64 0)), none, [], false⟩]) (.seq (.block 0 (.loop wire_number_l0)) (.seq (.region [
      ⟨(some 16), .mov (.tmp 4), none, [], false⟩,
      ⟨(some 17), .bin .sub (so (.binOp .sub 3 (.const (.int .i64 8)) (.tmp 16) 3) 3) (.const (.int .i64 8)) (.tmp 16), none, [], false⟩,
      ⟨(some 18), .mov (.tmp 4), none, [], false⟩,
      ⟨(some 19), .conv .u8 (so (.convert 3 5 (.tmp 18)) 5) (.tmp 18), none, [], false⟩,
      ⟨(some 20), .indexArr 9 1 (.tmp 3) (.tmp 17), none, [], false⟩,
      ⟨none, .store 1 (.tmp 20) (.tmp 19), none, [], false⟩]) (.seq (.region [
      ⟨(some 21), .mov (.tmp 4), none, [], false⟩,
      ⟨(some 22), .bin .sub (so (.binOp .sub 3 (.const (.int .i64 8)) (.tmp 21) 3) 3) (.const (.int .i64 8)) (.tmp 21), none, [], false⟩,
      ⟨(some 23), .sliceArr 9 1 (.tmp 3) (some (.tmp 22)) none, none, [], false⟩,
      ⟨(some 2), .mov (.tmp 23), none, [], false⟩]) .ret))))))
noncomputable def wire_number : AFunc := ⟨24, [(2, none)], wire_number_c, none⟩
theorem wire_number_t0 : tableOf Try.prog 53 = some wire_number := by kernel_rfl
theorem wire_number_t : T0 53 = some wire_number := withKept_t rfl (withTrue_t rfl wire_number_t0)


/-! 54 slices.Clone[[]byte,byte] -/
abbrev fn_slices_Clone___byte_byte_ : FuncId := 54
noncomputable def slices_Clone___byte_byte__c : ACode :=
  (.seq (.region [
      ⟨(some 2), .mov (.const (.slice none 0 0)), none, [], false⟩]) (.seq (.seq (.region [
      ⟨(some 3), .mov (.tmp 0), none, [], false⟩,
      ⟨(some 4), .eq .slice false (so (.binOp .eql 90 (.tmp 3) (.const (.slice none 0 0)) 90) 4) (.tmp 3) (.const (.slice none 0 0)), none, [], false⟩]) (.cond (.tmp 4)
    (.seq (.region [
      ⟨(some 2), .mov (.const (.slice none 0 0)), none, [], false⟩]) .ret)
    .skip)) (.seq (.region [
      ⟨(some 5), .buildSlice 5 [] 0 [], none, [], false⟩,
      ⟨(some 6), .mov (.tmp 0), none, [], false⟩,
      ⟨(some 7), .append 5 1 1 [(.int .u8 0)] false (.tmp 5) (.tmp 6), none, [], false⟩,
      ⟨(some 2), .mov (.tmp 7), none, [], false⟩]) .ret)))
noncomputable def slices_Clone___byte_byte_ : AFunc := ⟨8, [(2, none)], slices_Clone___byte_byte__c, none⟩
theorem slices_Clone___byte_byte__t0 : tableOf Try.prog 54 = some slices_Clone___byte_byte_ := by kernel_rfl
theorem slices_Clone___byte_byte__t : T0 54 = some slices_Clone___byte_byte_ := withKept_t rfl (withTrue_t rfl slices_Clone___byte_byte__t0)


/-! 55 landfall/blake.begin -/
abbrev fn_blake_begin : FuncId := 55
noncomputable def blake_begin_c : ACode :=
  (.seq (.region [
      ⟨(some 0), .alloc 121 [(.int .u32 0), (.int .u32 0), (.int .u32 0), (.int .u32 0), (.int .u32 0), (.int .u32 0), (.int .u32 0), (.int .u32 0)], none, [], false⟩]) (.seq (.region [
      ⟨(some 1), .build [(.int .u32 0), (.int .u32 0), (.int .u32 0), (.int .u32 0), (.int .u32 0), (.int .u32 0), (.int .u32 0), (.int .u32 0)] [(0, 1, (.const (.int .u32 1779033703))), (1, 1, (.const (.int .u32 3144134277))), (2, 1, (.const (.int .u32 1013904242))), (3, 1, (.const (.int .u32 2773480762))), (4, 1, (.const (.int .u32 1359893119))), (5, 1, (.const (.int .u32 2600822924))), (6, 1, (.const (.int .u32 528734635))), (7, 1, (.const (.int .u32 1541459225)))], none, [], false⟩,
      ⟨none, .store 8 (.tmp 0) (.tmp 1), none, [], false⟩]) .ret))
noncomputable def blake_begin : AFunc := ⟨2, [(0, some (some 8))], blake_begin_c, none⟩
theorem blake_begin_t0 : tableOf Try.prog 55 = some blake_begin := by kernel_rfl
theorem blake_begin_t : T0 55 = some blake_begin := withKept_t rfl (withTrue_t rfl blake_begin_t0)


/-! 56 (*landfall/blake.State).none -/
abbrev fn_blake_State_none : FuncId := 56
noncomputable def blake_State_none_c : ACode :=
  (.seq (.region [
      ⟨(some 2), .mov (.const (.bool false)), none, [], false⟩]) (.seq (.region [
      ⟨(some 3), .mov (.tmp 0), none, [], false⟩,
      ⟨(some 4), .eq .ptr false (so (.binOp .eql 105 (.tmp 3) (.const (.pointer none)) 105) 4) (.tmp 3) (.const (.pointer none)), none, [], false⟩,
      ⟨(some 5), .mov (.tmp 4), none, [], false⟩,
      ⟨(some 6), .mov (.tmp 0), (some (5, false)), [], false⟩,
      ⟨(some 7), .nilCheck (.tmp 6), (some (5, false)), [], false⟩,
      ⟨(some 8), .fieldAddr 0 (.tmp 7), (some (5, false)), [], false⟩,
      ⟨(some 9), .load none (.tmp 8), (some (5, false)), [], false⟩,
      ⟨(some 10), .eq .ptr false (so (.binOp .eql 123 (.tmp 9) (.const (.pointer none)) 123) 4) (.tmp 9) (.const (.pointer none)), (some (5, false)), [], false⟩,
      ⟨(some 11), .pick (.tmp 5) (.const (.bool true)) (.tmp 10), none, [], false⟩,
      ⟨(some 2), .mov (.tmp 11), none, [], false⟩]) .ret))
noncomputable def blake_State_none : AFunc := ⟨12, [(2, none)], blake_State_none_c, none⟩
theorem blake_State_none_t0 : tableOf Try.prog 56 = some blake_State_none := by kernel_rfl
theorem blake_State_none_t : T0 56 = some blake_State_none := withKept_t rfl (withTrue_t rfl blake_State_none_t0)


/-! 57 (*landfall/blake.counter).take -/
abbrev fn_blake_counter_take : FuncId := 57
noncomputable def blake_counter_take_c : ACode :=
  (.region [
      ⟨(some 4), .mov (.tmp 0), none, [], false⟩,
      ⟨(some 5), .nilCheck (.tmp 4), none, [], false⟩,
      ⟨(some 6), .fieldAddr 0 (.tmp 5), none, [], false⟩,
      ⟨(some 7), .load none (.tmp 6), none, [], false⟩,
      ⟨(some 8), .mov (.tmp 1), none, [], false⟩,
      ⟨(some 9), .bin .add (so (.binOp .add 3 (.tmp 7) (.tmp 8) 3) 3) (.tmp 7) (.tmp 8), none, [], false⟩,
      ⟨(some 10), .nilCheck (.tmp 4), none, [], false⟩,
      ⟨(some 11), .fieldAddr 0 (.tmp 10), none, [], false⟩,
      ⟨none, .store 1 (.tmp 11) (.tmp 9), none, [], false⟩])
noncomputable def blake_counter_take : AFunc := ⟨12, [], blake_counter_take_c, none⟩
theorem blake_counter_take_t0 : tableOf Try.prog 57 = some blake_counter_take := by kernel_rfl
theorem blake_counter_take_t : T0 57 = some blake_counter_take := withKept_t rfl (withTrue_t rfl blake_counter_take_t0)


/-! 58 (*landfall/blake.words).block -/
abbrev fn_blake_words_block : FuncId := 58
noncomputable def blake_words_block_l0 : ACode :=
  (.seq (.region [
      ⟨(some 32), .bin .lss (so (.binOp .lss 3 (.tmp 31) (.tmp 30) 3) 0) (.tmp 31) (.tmp 30), none, [], false⟩]) (.seq (.cond (.tmp 32)
    .skip
    (.exit 2)) (.seq (.block 3 (.seq (.region [
      ⟨(some 33), .mov (.tmp 31), none, [], false⟩,
      ⟨(some 34), .indexSl 1 (.tmp 29) (.tmp 31), none, [], false⟩,
      ⟨(some 35), .load none (.tmp 34), none, [], false⟩,
      ⟨(some 11), .mov (.tmp 33), none, [], false⟩,
      ⟨(some 12), .mov (.tmp 35), none, [], false⟩]) (.regionD [
      ⟨(some 36), .mov (.tmp 10), none, [], false⟩,
      ⟨(some 37), .indexArr 16 1 (.tmp 8) (.tmp 36), none, [], false⟩,
      ⟨(some 38), .load none (.tmp 37), none, [], false⟩,
      ⟨(some 39), .mov (.tmp 12), none, [], false⟩,
      ⟨(some 40), .conv .u32 (so (.convert 5 119 (.tmp 39)) 119) (.tmp 39), none, [], false⟩,
      ⟨(some 41), .mov (.tmp 11), none, [], false⟩,
      ⟨(some 42), .bin .mul (so (.binOp .mul 3 (.const (.int .i64 8)) (.tmp 41) 3) 3) (.const (.int .i64 8)) (.tmp 41), none, [], false⟩,
      ⟨(some 43), .bin .shl (so (.binOp .shl 119 (.tmp 40) (.tmp 42) 3) 119) (.tmp 40) (.tmp 42), none, [], false⟩,
      ⟨(some 44), .bin .or (so (.binOp .or 119 (.tmp 38) (.tmp 43) 119) 119) (.tmp 38) (.tmp 43), none, [], true⟩,
      ⟨(some 45), .indexArr 16 1 (.tmp 8) (.tmp 36), none, [], true⟩,
      ⟨none, .store 1 (.tmp 45) (.tmp 44), none, [], true⟩]))) (.region [
      ⟨(some 46), .bin .add (so (.binOp .add 3 (.tmp 31) (.const (.int .i64 1)) 3) 3) (.tmp 31) (.const (.int .i64 1)), none, [], false⟩,
      ⟨(some 31), .mov (.tmp 46), none, [], false⟩]))))
noncomputable def blake_words_block_l1 : ACode :=
  (.seq (.region [
      ⟨(some 21), .bin .lss (so (.binOp .lss 3 (.tmp 20) (.const (.int .i64 16)) 3) 0) (.tmp 20) (.const (.int .i64 16)), none, [], false⟩]) (.seq (.cond (.tmp 21)
    .skip
    (.exit 0)) (.seq (.block 1 (.seq (.region [
      ⟨(some 22), .mov (.tmp 20), none, [], false⟩,
      ⟨(some 10), .mov (.tmp 22), none, [], false⟩]) (.seq (.region [
      ⟨(some 23), .mov (.tmp 1), none, [], false⟩,
      ⟨(some 24), .mov (.tmp 10), none, [], false⟩,
      ⟨(some 25), .bin .mul (so (.binOp .mul 3 (.const (.int .i64 4)) (.tmp 24) 3) 3) (.const (.int .i64 4)) (.tmp 24), none, [], false⟩,
      ⟨(some 26), .mov (.tmp 10), none, [], false⟩,
      ⟨(some 27), .bin .mul (so (.binOp .mul 3 (.const (.int .i64 4)) (.tmp 26) 3) 3) (.const (.int .i64 4)) (.tmp 26), none, [], false⟩,
      ⟨(some 28), .bin .add (so (.binOp .add 3 (.tmp 27) (.const (.int .i64 4)) 3) 3) (.tmp 27) (.const (.int .i64 4)), none, [], false⟩,
      ⟨(some 29), .sliceSl 1 (.tmp 23) (some (.tmp 25)) (some (.tmp 28)) none, none, [], false⟩,
      ⟨(some 30), .lenSl (.tmp 29), none, [], false⟩,
      ⟨(some 31), .mov (.const (.int .i64 0)), none, [], false⟩]) (.block 2 (.loop blake_words_block_l0))))) (.region [
      ⟨(some 47), .bin .add (so (.binOp .add 3 (.tmp 20) (.const (.int .i64 1)) 3) 3) (.tmp 20) (.const (.int .i64 1)), none, [], false⟩,
      ⟨(some 20), .mov (.tmp 47), none, [], false⟩]))))
noncomputable def blake_words_block_l2 : ACode :=
  (.seq (.region [
      ⟨(some 91), .bin .lss (so (.binOp .lss 3 (.tmp 90) (.const (.int .i64 4)) 3) 4) (.tmp 90) (.const (.int .i64 4)), none, [], false⟩]) (.seq (.cond (.tmp 91)
    .skip
    (.exit 6)) (.seq (.block 7 (.seq (.region [
      ⟨(some 92), .mov (.tmp 90), none, [], false⟩,
      ⟨(some 17), .mov (.tmp 92), none, [], false⟩]) (.regionD [
      ⟨(some 93), .mov (.tmp 17), none, [], false⟩,
      ⟨(some 94), .indexArr 16 1 (.tmp 9) (.tmp 93), none, [], false⟩,
      ⟨(some 95), .mov (.tmp 17), none, [], false⟩,
      ⟨(some 96), .bin .add (so (.binOp .add 3 (.const (.int .i64 4)) (.tmp 95) 3) 3) (.const (.int .i64 4)) (.tmp 95), none, [], false⟩,
      ⟨(some 97), .indexArr 16 1 (.tmp 9) (.tmp 96), none, [], false⟩,
      ⟨(some 98), .mov (.tmp 17), none, [], false⟩,
      ⟨(some 99), .bin .add (so (.binOp .add 3 (.const (.int .i64 8)) (.tmp 98) 3) 3) (.const (.int .i64 8)) (.tmp 98), none, [], false⟩,
      ⟨(some 100), .indexArr 16 1 (.tmp 9) (.tmp 99), none, [], false⟩,
      ⟨(some 101), .mov (.tmp 17), none, [], false⟩,
      ⟨(some 102), .bin .add (so (.binOp .add 3 (.const (.int .i64 12)) (.tmp 101) 3) 3) (.const (.int .i64 12)) (.tmp 101), none, [], false⟩,
      ⟨(some 103), .indexArr 16 1 (.tmp 9) (.tmp 102), none, [], false⟩,
      ⟨(some 104), .build [(.pointer none), (.pointer none), (.pointer none), (.pointer none)] [(0, 1, (.tmp 94)), (1, 1, (.tmp 97)), (2, 1, (.tmp 100)), (3, 1, (.tmp 103))], none, [], false⟩,
      ⟨(some 105), .mov (.tmp 14), none, [], false⟩,
      ⟨(some 106), .mov (.tmp 17), none, [], false⟩,
      ⟨(some 107), .bin .mul (so (.binOp .mul 3 (.const (.int .i64 2)) (.tmp 106) 3) 3) (.const (.int .i64 2)) (.tmp 106), none, [], false⟩,
      ⟨(some 108), .indexSl 1 (.tmp 105) (.tmp 107), none, [], false⟩,
      ⟨(some 109), .load none (.tmp 108), none, [], false⟩,
      ⟨(some 110), .mov (.tmp 14), none, [], false⟩,
      ⟨(some 111), .mov (.tmp 17), none, [], false⟩,
      ⟨(some 112), .bin .mul (so (.binOp .mul 3 (.const (.int .i64 2)) (.tmp 111) 3) 3) (.const (.int .i64 2)) (.tmp 111), none, [], false⟩,
      ⟨(some 113), .bin .add (so (.binOp .add 3 (.tmp 112) (.const (.int .i64 1)) 3) 3) (.tmp 112) (.const (.int .i64 1)), none, [], false⟩,
      ⟨(some 114), .indexSl 1 (.tmp 110) (.tmp 113), none, [], false⟩,
      ⟨(some 115), .load none (.tmp 114), none, [], false⟩,
      ⟨(some 116), .callV (.func 66) [(.tmp 104), (.tmp 109), (.tmp 115)], none, [], true⟩]))) (.region [
      ⟨(some 117), .bin .add (so (.binOp .add 3 (.tmp 90) (.const (.int .i64 1)) 3) 3) (.tmp 90) (.const (.int .i64 1)), none, [], false⟩,
      ⟨(some 90), .mov (.tmp 117), none, [], false⟩]))))
noncomputable def blake_words_block_l3 : ACode :=
  (.seq (.region [
      ⟨(some 119), .bin .lss (so (.binOp .lss 3 (.tmp 118) (.const (.int .i64 4)) 3) 4) (.tmp 118) (.const (.int .i64 4)), none, [], false⟩]) (.seq (.cond (.tmp 119)
    .skip
    (.exit 8)) (.seq (.block 9 (.seq (.region [
      ⟨(some 120), .mov (.tmp 118), none, [], false⟩,
      ⟨(some 18), .mov (.tmp 120), none, [], false⟩]) (.regionD [
      ⟨(some 121), .mov (.tmp 18), none, [], false⟩,
      ⟨(some 122), .indexArr 16 1 (.tmp 9) (.tmp 121), none, [], false⟩,
      ⟨(some 123), .mov (.tmp 18), none, [], false⟩,
      ⟨(some 124), .bin .add (so (.binOp .add 3 (.tmp 123) (.const (.int .i64 1)) 3) 3) (.tmp 123) (.const (.int .i64 1)), none, [], false⟩,
      ⟨(some 125), .bin .rem (so (.binOp .rem 3 (.tmp 124) (.const (.int .i64 4)) 3) 3) (.tmp 124) (.const (.int .i64 4)), none, [], false⟩,
      ⟨(some 126), .bin .add (so (.binOp .add 3 (.const (.int .i64 4)) (.tmp 125) 3) 3) (.const (.int .i64 4)) (.tmp 125), none, [], false⟩,
      ⟨(some 127), .indexArr 16 1 (.tmp 9) (.tmp 126), none, [], false⟩,
      ⟨(some 128), .mov (.tmp 18), none, [], false⟩,
      ⟨(some 129), .bin .add (so (.binOp .add 3 (.tmp 128) (.const (.int .i64 2)) 3) 3) (.tmp 128) (.const (.int .i64 2)), none, [], false⟩,
      ⟨(some 130), .bin .rem (so (.binOp .rem 3 (.tmp 129) (.const (.int .i64 4)) 3) 3) (.tmp 129) (.const (.int .i64 4)), none, [], false⟩,
      ⟨(some 131), .bin .add (so (.binOp .add 3 (.const (.int .i64 8)) (.tmp 130) 3) 3) (.const (.int .i64 8)) (.tmp 130), none, [], false⟩,
      ⟨(some 132), .indexArr 16 1 (.tmp 9) (.tmp 131), none, [], false⟩,
      ⟨(some 133), .mov (.tmp 18), none, [], false⟩,
      ⟨(some 134), .bin .add (so (.binOp .add 3 (.tmp 133) (.const (.int .i64 3)) 3) 3) (.tmp 133) (.const (.int .i64 3)), none, [], false⟩,
      ⟨(some 135), .bin .rem (so (.binOp .rem 3 (.tmp 134) (.const (.int .i64 4)) 3) 3) (.tmp 134) (.const (.int .i64 4)), none, [], false⟩,
      ⟨(some 136), .bin .add (so (.binOp .add 3 (.const (.int .i64 12)) (.tmp 135) 3) 3) (.const (.int .i64 12)) (.tmp 135), none, [], false⟩,
      ⟨(some 137), .indexArr 16 1 (.tmp 9) (.tmp 136), none, [], false⟩,
      ⟨(some 138), .build [(.pointer none), (.pointer none), (.pointer none), (.pointer none)] [(0, 1, (.tmp 122)), (1, 1, (.tmp 127)), (2, 1, (.tmp 132)), (3, 1, (.tmp 137))], none, [], false⟩,
      ⟨(some 139), .mov (.tmp 14), none, [], false⟩,
      ⟨(some 140), .mov (.tmp 18), none, [], false⟩,
      ⟨(some 141), .bin .mul (so (.binOp .mul 3 (.const (.int .i64 2)) (.tmp 140) 3) 3) (.const (.int .i64 2)) (.tmp 140), none, [], false⟩,
      ⟨(some 142), .bin .add (so (.binOp .add 3 (.const (.int .i64 8)) (.tmp 141) 3) 3) (.const (.int .i64 8)) (.tmp 141), none, [], false⟩,
      ⟨(some 143), .indexSl 1 (.tmp 139) (.tmp 142), none, [], false⟩,
      ⟨(some 144), .load none (.tmp 143), none, [], false⟩,
      ⟨(some 145), .mov (.tmp 14), none, [], false⟩,
      ⟨(some 146), .mov (.tmp 18), none, [], false⟩,
      ⟨(some 147), .bin .mul (so (.binOp .mul 3 (.const (.int .i64 2)) (.tmp 146) 3) 3) (.const (.int .i64 2)) (.tmp 146), none, [], false⟩,
      ⟨(some 148), .bin .add (so (.binOp .add 3 (.const (.int .i64 9)) (.tmp 147) 3) 3) (.const (.int .i64 9)) (.tmp 147), none, [], false⟩,
      ⟨(some 149), .indexSl 1 (.tmp 145) (.tmp 148), none, [], false⟩,
      ⟨(some 150), .load none (.tmp 149), none, [], false⟩,
      ⟨(some 151), .callV (.func 66) [(.tmp 138), (.tmp 144), (.tmp 150)], none, [], true⟩]))) (.region [
      ⟨(some 152), .bin .add (so (.binOp .add 3 (.tmp 118) (.const (.int .i64 1)) 3) 3) (.tmp 118) (.const (.int .i64 1)), none, [], false⟩,
      ⟨(some 118), .mov (.tmp 152), none, [], false⟩]))))
noncomputable def blake_words_block_l4 : ACode :=
  (.seq (.region [
      ⟨(some 77), .nextStr (.tmp 76), none, [], false⟩,
      ⟨(some 78), .extract 0 (.tmp 77), none, [], false⟩]) (.seq (.cond (.tmp 78)
    .skip
    (.exit 4)) (.block 5 (.seq (.region [
      ⟨(some 79), .extract 2 (.tmp 77), none, [], false⟩,
      ⟨(some 16), .mov (.tmp 79), none, [], false⟩]) (.seq (.seq (.region [
      ⟨(some 80), .mov (.tmp 14), none, [], false⟩,
      ⟨(some 81), .mov (.tmp 16), none, [], false⟩,
      ⟨(some 82), .callV (.func 65) [(.const (.string ⟨⟨[48, 49, 50, 51, 52, 53, 54, 55, 56, 57, 97, 98, 99, 100, 101, 102]⟩⟩)), (.tmp 81)], none, [], false⟩,
      ⟨(some 83), .indexArr 16 1 (.tmp 8) (.tmp 82), none, [], false⟩,
      ⟨(some 84), .load none (.tmp 83), none, [], false⟩,
      ⟨(some 85), .buildSlice 119 [(.int .u32 0)] 1 [(0, 1, (.tmp 84))], none, [], false⟩,
      ⟨(some 86), .append 119 1 4 [(.int .u32 0)] false (.tmp 80) (.tmp 85), none, [], false⟩,
      ⟨(some 14), .mov (.tmp 86), none, [], false⟩]) (.seq (.region [
      ⟨(some 87), .mov (.tmp 14), none, [], false⟩,
      ⟨(some 88), .lenSl (.tmp 87), none, [], false⟩,
      ⟨(some 89), .bin .lss (so (.binOp .lss 3 (.tmp 88) (.const (.int .i64 16)) 3) 4) (.tmp 88) (.const (.int .i64 16)), none, [], false⟩]) (.cond (.tmp 89)
    (.exit 5)
    .skip))) (.seq (.seq (.region [
      ⟨(some 90), .mov (.const (.int .i64 0)), none, [], false⟩]) (.block 6 (.loop blake_words_block_l2))) (.seq (.seq (.region [
      ⟨(some 118), .mov (.const (.int .i64 0)), none, [], false⟩]) (.block 8 (.loop blake_words_block_l3))) (.region [
      ⟨(some 14), .mov (.const (.slice none 0 0)), none, [], false⟩]))))))))
noncomputable def blake_words_block_l5 : ACode :=
  (.seq (.region [
      ⟨(some 154), .bin .lss (so (.binOp .lss 3 (.tmp 153) (.const (.int .i64 8)) 3) 0) (.tmp 153) (.const (.int .i64 8)), none, [], false⟩]) (.seq (.cond (.tmp 154)
    .skip
    (.exit 10)) (.seq (.block 11 (.seq (.region [
      ⟨(some 155), .mov (.tmp 153), none, [], false⟩,
      ⟨(some 19), .mov (.tmp 155), none, [], false⟩]) (.regionD [
      ⟨(some 156), .mov (.tmp 0), none, [], false⟩,
      ⟨(some 157), .mov (.tmp 19), none, [], false⟩,
      ⟨(some 158), .nilCheck (.tmp 156), none, [], false⟩,
      ⟨(some 159), .indexArr 8 1 (.tmp 158) (.tmp 157), none, [], false⟩,
      ⟨(some 160), .load none (.tmp 159), none, [], false⟩,
      ⟨(some 161), .mov (.tmp 19), none, [], false⟩,
      ⟨(some 162), .indexArr 16 1 (.tmp 9) (.tmp 161), none, [], false⟩,
      ⟨(some 163), .load none (.tmp 162), none, [], false⟩,
      ⟨(some 164), .mov (.tmp 19), none, [], false⟩,
      ⟨(some 165), .bin .add (so (.binOp .add 3 (.tmp 164) (.const (.int .i64 8)) 3) 3) (.tmp 164) (.const (.int .i64 8)), none, [], false⟩,
      ⟨(some 166), .indexArr 16 1 (.tmp 9) (.tmp 165), none, [], false⟩,
      ⟨(some 167), .load none (.tmp 166), none, [], false⟩,
      ⟨(some 168), .bin .xor (so (.binOp .xor 119 (.tmp 163) (.tmp 167) 119) 119) (.tmp 163) (.tmp 167), none, [], false⟩,
      ⟨(some 169), .bin .xor (so (.binOp .xor 119 (.tmp 160) (.tmp 168) 119) 119) (.tmp 160) (.tmp 168), none, [], false⟩,
      ⟨(some 170), .nilCheck (.tmp 156), none, [], false⟩,
      ⟨(some 171), .indexArr 8 1 (.tmp 170) (.tmp 157), none, [], true⟩,
      ⟨none, .store 1 (.tmp 171) (.tmp 169), none, [], true⟩]))) (.region [
      ⟨(some 172), .bin .add (so (.binOp .add 3 (.tmp 153) (.const (.int .i64 1)) 3) 3) (.tmp 153) (.const (.int .i64 1)), none, [], false⟩,
      ⟨(some 153), .mov (.tmp 172), none, [], false⟩]))))
noncomputable def blake_words_block_c : ACode :=
  (.seq (.region [
      ⟨(some 8), .alloc 136 [(.int .u32 0), (.int .u32 0), (.int .u32 0), (.int .u32 0), (.int .u32 0), (.int .u32 0), (.int .u32 0), (.int .u32 0), (.int .u32 0), (.int .u32 0), (.int .u32 0), (.int .u32 0), (.int .u32 0), (.int .u32 0), (.int .u32 0), (.int .u32 0)], none, [], false⟩,
      ⟨(some 9), .alloc 136 [(.int .u32 0), (.int .u32 0), (.int .u32 0), (.int .u32 0), (.int .u32 0), (.int .u32 0), (.int .u32 0), (.int .u32 0), (.int .u32 0), (.int .u32 0), (.int .u32 0), (.int .u32 0), (.int .u32 0), (.int .u32 0), (.int .u32 0), (.int .u32 0)], none, [], false⟩]) (.seq (.seq (.region [
      ⟨(some 20), .mov (.const (.int .i64 0)), none, [], false⟩]) (.block 0 (.loop blake_words_block_l1))) (.seq (.region [
      ⟨(some 48), .callV (.func 55) [], none, [], false⟩,
      ⟨(some 13), .alloc 121 [(.int .u32 0), (.int .u32 0), (.int .u32 0), (.int .u32 0), (.int .u32 0), (.int .u32 0), (.int .u32 0), (.int .u32 0)], none, [], false⟩,
      ⟨none, .store 8 (.tmp 13) (.tmp 48), none, [], false⟩]) (.seq (.regionD [
      ⟨(some 49), .sliceArr 16 1 (.tmp 9) none (some (.const (.int .i64 8))), none, [], false⟩,
      ⟨(some 50), .mov (.tmp 0), none, [], false⟩,
      ⟨(some 51), .nilCheck (.tmp 50), none, [], false⟩,
      ⟨(some 52), .sliceArr 8 1 (.tmp 51) none none, none, [], false⟩,
      ⟨(some 53), .copy 1 (.tmp 49) (.tmp 52), none, [], true⟩]) (.seq (.regionD [
      ⟨(some 54), .sliceArr 16 1 (.tmp 9) (some (.const (.int .i64 8))) none, none, [], false⟩,
      ⟨(some 55), .sliceArr 8 1 (.tmp 13) none none, none, [], false⟩,
      ⟨(some 56), .copy 1 (.tmp 54) (.tmp 55), none, [], true⟩]) (.seq (.region [
      ⟨(some 57), .indexArr 16 1 (.tmp 9) (.const (.int .i64 12)), none, [], false⟩,
      ⟨(some 58), .load none (.tmp 57), none, [], false⟩,
      ⟨(some 59), .mov (.tmp 2), none, [], false⟩,
      ⟨(some 60), .conv .u32 (so (.convert 3 119 (.tmp 59)) 119) (.tmp 59), none, [], false⟩,
      ⟨(some 61), .bin .xor (so (.binOp .xor 119 (.tmp 58) (.tmp 60) 119) 119) (.tmp 58) (.tmp 60), none, [], false⟩,
      ⟨(some 62), .indexArr 16 1 (.tmp 9) (.const (.int .i64 12)), none, [], false⟩,
      ⟨none, .store 1 (.tmp 62) (.tmp 61), none, [], false⟩]) (.seq (.region [
      ⟨(some 63), .indexArr 16 1 (.tmp 9) (.const (.int .i64 13)), none, [], false⟩,
      ⟨(some 64), .load none (.tmp 63), none, [], false⟩,
      ⟨(some 65), .mov (.tmp 2), none, [], false⟩,
      ⟨(some 66), .conv .u64 (so (.convert 3 85 (.tmp 65)) 85) (.tmp 65), none, [], false⟩,
      ⟨(some 67), .bin .shr (so (.binOp .shr 85 (.tmp 66) (.const (.int .u64 32)) 134) 85) (.tmp 66) (.const (.int .u64 32)), none, [], false⟩,
      ⟨(some 68), .conv .u32 (so (.convert 85 119 (.tmp 67)) 119) (.tmp 67), none, [], false⟩,
      ⟨(some 69), .bin .xor (so (.binOp .xor 119 (.tmp 64) (.tmp 68) 119) 119) (.tmp 64) (.tmp 68), none, [], false⟩,
      ⟨(some 70), .indexArr 16 1 (.tmp 9) (.const (.int .i64 13)), none, [], false⟩,
      ⟨none, .store 1 (.tmp 70) (.tmp 69), none, [], false⟩]) (.seq (.seq (.region [
      ⟨(some 71), .mov (.tmp 3), none, [], false⟩]) (.cond (.tmp 71)
    (.region [
      ⟨(some 72), .indexArr 16 1 (.tmp 9) (.const (.int .i64 14)), none, [], false⟩,
      ⟨(some 73), .load none (.tmp 72), none, [], false⟩,
      ⟨(some 74), .raw (so (.unOp .xor 119 (.tmp 73)) 119), none, [], false⟩,
      ⟨(some 75), .indexArr 16 1 (.tmp 9) (.const (.int .i64 14)), none, [], false⟩,
      ⟨none, .store 1 (.tmp 75) (.tmp 74), none, [], false⟩])
    .skip)) (.seq (.region [
      ⟨(some 14), .mov (.const (.slice none 0 0)), none, [], false⟩]) (.seq (.seq (.region [
      ⟨(some 76), .rangeStr (.const (.string ⟨⟨[48, 49, 50, 51, 52, 53, 54, 55, 56, 57, 97, 98, 99, 100, 101, 102, 101, 97, 52, 56, 57, 102, 100, 54, 49, 99, 48, 50, 98, 55, 53, 51, 98, 56, 99, 48, 53, 50, 102, 100, 97, 101, 51, 54, 55, 49, 57, 52, 55, 57, 51, 49, 100, 99, 98, 101, 50, 54, 53, 97, 52, 48, 102, 56, 57, 48, 53, 55, 50, 52, 97, 102, 101, 49, 98, 99, 54, 56, 51, 100, 50, 99, 54, 97, 48, 98, 56, 51, 52, 100, 55, 53, 102, 101, 49, 57, 99, 53, 49, 102, 101, 100, 52, 97, 48, 55, 54, 51, 57, 50, 56, 98, 100, 98, 55, 101, 99, 49, 51, 57, 53, 48, 102, 52, 56, 54, 50, 97, 54, 102, 101, 57, 98, 51, 48, 56, 99, 50, 100, 55, 49, 52, 97, 53, 97, 50, 56, 52, 55, 54, 49, 53, 102, 98, 57, 101, 51, 99, 100, 48]⟩⟩)), none, [], false⟩]) (.block 4 (.loop blake_words_block_l4))) (.seq (.region [
      ⟨(some 153), .mov (.const (.int .i64 0)), none, [], false⟩]) (.block 10 (.loop blake_words_block_l5)))))))))))))
noncomputable def blake_words_block : AFunc := ⟨173, [], blake_words_block_c, none⟩
theorem blake_words_block_t0 : tableOf Try.prog 58 = some blake_words_block := by kernel_rfl
theorem blake_words_block_t : T0 58 = some blake_words_block := withKept_t rfl (withTrue_t rfl blake_words_block_t0)


/-! 59 (*landfall/blake.State).Len -/
abbrev fn_blake_State_Len : FuncId := 59
noncomputable def blake_State_Len_c : ACode :=
  (.seq (.region [
      ⟨(some 2), .mov (.const (.int .i64 0)), none, [], false⟩]) (.seq (.seq (.region [
      ⟨(some 3), .mov (.tmp 0), none, [], false⟩,
      ⟨(some 4), .callV (.func 56) [(.tmp 3)], none, [], false⟩]) (.cond (.tmp 4)
    (.seq (.region [
      ⟨(some 2), .mov (.const (.int .i64 0)), none, [], false⟩]) .ret)
    .skip)) (.seq (.regionD [
      ⟨(some 5), .mov (.tmp 0), none, [], false⟩,
      ⟨(some 6), .nilCheck (.tmp 5), none, [], false⟩,
      ⟨(some 7), .fieldAddr 0 (.tmp 6), none, [], false⟩,
      ⟨(some 8), .load none (.tmp 7), none, [], false⟩,
      ⟨(some 10), .mov (.tmp 0), none, [], false⟩,
      ⟨(some 11), .nilCheck (.tmp 10), none, [], false⟩,
      ⟨(some 12), .fieldAddr 9 (.tmp 11), none, [], false⟩,
      ⟨(some 13), .load none (.tmp 12), none, [], false⟩,
      ⟨(some 14), .lenSl (.tmp 13), none, [], false⟩,
      ⟨(some 9), .callV (.func 67) [(.tmp 8)], none, [((some 14), .lenSl (.tmp 13), none), ((some 13), .load none (.tmp 12), none), ((some 12), .fieldAddr 9 (.tmp 11), none), ((some 11), .nilCheck (.tmp 10), none), ((some 10), .mov (.tmp 0), none)], false⟩,
      ⟨(some 15), .bin .add (so (.binOp .add 3 (.tmp 9) (.tmp 14) 3) 3) (.tmp 9) (.tmp 14), none, [], true⟩,
      ⟨(some 2), .mov (.tmp 15), none, [], true⟩]) .ret)))
noncomputable def blake_State_Len : AFunc := ⟨16, [(2, none)], blake_State_Len_c, none⟩
theorem blake_State_Len_t0 : tableOf Try.prog 59 = some blake_State_Len := by kernel_rfl
theorem blake_State_Len_t : T0 59 = some blake_State_Len := withKept_t rfl (withTrue_t rfl blake_State_Len_t0)


/-! 60 landfall/header.rules$1 -/
abbrev fn_header_rules_1 : FuncId := 60
noncomputable def header_rules_1_c : ACode :=
  (.seq (.region [
      ⟨(some 1), .box 25 (.tmp 0), none, [], false⟩,
      ⟨(some 2), .mov (.const (.bool false)), none, [], false⟩]) (.seq (.region [
      ⟨(some 3), .fieldAddr 0 (.tmp 1), none, [], false⟩,
      ⟨(some 4), .load none (.tmp 3), none, [], false⟩,
      ⟨(some 5), .callV (.func 61) [(.tmp 4)], none, [], false⟩,
      ⟨(some 2), .mov (.tmp 5), none, [], false⟩]) .ret))
noncomputable def header_rules_1 : AFunc := ⟨6, [(2, none)], header_rules_1_c, none⟩
theorem header_rules_1_t0 : tableOf Try.prog 60 = some header_rules_1 := by kernel_rfl
theorem header_rules_1_t : T0 60 = some header_rules_1 := withKept_t rfl (withTrue_t rfl header_rules_1_t0)


/-! 61 landfall/header.Name -/
abbrev fn_header_Name : FuncId := 61
noncomputable def header_Name_c : ACode :=
  (.seq (.region [
      ⟨(some 2), .mov (.const (.bool false)), none, [], false⟩]) (.seq (.region [
      ⟨(some 3), .mov (.tmp 0), none, [], false⟩,
      ⟨(some 4), .lenStr (.tmp 3), none, [], false⟩,
      ⟨(some 5), .bin .geq (so (.binOp .geq 3 (.tmp 4) (.const (.int .i64 1)) 3) 4) (.tmp 4) (.const (.int .i64 1)), none, [], false⟩,
      ⟨(some 6), .mov (.tmp 5), none, [], false⟩,
      ⟨(some 7), .mov (.tmp 0), (some (6, true)), [], false⟩,
      ⟨(some 8), .lenStr (.tmp 7), (some (6, true)), [], false⟩,
      ⟨(some 9), .bin .leq (so (.binOp .leq 3 (.tmp 8) (.const (.int .i64 32)) 3) 4) (.tmp 8) (.const (.int .i64 32)), (some (6, true)), [], false⟩,
      ⟨(some 10), .pick (.tmp 6) (.tmp 9) (.const (.bool false)), none, [], false⟩,
      ⟨(some 11), .mov (.tmp 10), none, [], false⟩,
      ⟨(some 12), .mov (.tmp 0), (some (11, true)), [], false⟩,
      ⟨(some 13), .callV (.func 68) [(.tmp 12), (.func 69)], (some (11, true)), [], false⟩,
      ⟨(some 14), .pick (.tmp 11) (.tmp 13) (.const (.bool false)), none, [], false⟩,
      ⟨(some 2), .mov (.tmp 14), none, [], false⟩]) .ret))
noncomputable def header_Name : AFunc := ⟨15, [(2, none)], header_Name_c, none⟩
theorem header_Name_t0 : tableOf Try.prog 61 = some header_Name := by kernel_rfl
theorem header_Name_t : T0 61 = some header_Name := withKept_t rfl (withTrue_t rfl header_Name_t0)


/-! 62 landfall/header.rules$2 -/
abbrev fn_header_rules_2 : FuncId := 62
noncomputable def header_rules_2_c : ACode :=
  (.seq (.region [
      ⟨(some 1), .box 25 (.tmp 0), none, [], false⟩,
      ⟨(some 2), .mov (.const (.bool false)), none, [], false⟩]) (.seq (.region [
      ⟨(some 3), .fieldAddr 1 (.tmp 1), none, [], false⟩,
      ⟨(some 4), .load none (.tmp 3), none, [], false⟩,
      ⟨(some 5), .bin .geq (so (.binOp .geq 3 (.tmp 4) (.const (.int .i64 1)) 3) 4) (.tmp 4) (.const (.int .i64 1)), none, [], false⟩,
      ⟨(some 6), .mov (.tmp 5), none, [], false⟩,
      ⟨(some 7), .fieldAddr 1 (.tmp 1), (some (6, true)), [], false⟩,
      ⟨(some 8), .load none (.tmp 7), (some (6, true)), [], false⟩,
      ⟨(some 9), .bin .leq (so (.binOp .leq 3 (.tmp 8) (.const (.int .i64 1073741824)) 3) 4) (.tmp 8) (.const (.int .i64 1073741824)), (some (6, true)), [], false⟩,
      ⟨(some 10), .pick (.tmp 6) (.tmp 9) (.const (.bool false)), none, [], false⟩,
      ⟨(some 2), .mov (.tmp 10), none, [], false⟩]) .ret))
noncomputable def header_rules_2 : AFunc := ⟨11, [(2, none)], header_rules_2_c, none⟩
theorem header_rules_2_t0 : tableOf Try.prog 62 = some header_rules_2 := by kernel_rfl
theorem header_rules_2_t : T0 62 = some header_rules_2 := withKept_t rfl (withTrue_t rfl header_rules_2_t0)


/-! 63 landfall/header.rules$3 -/
abbrev fn_header_rules_3 : FuncId := 63
noncomputable def header_rules_3_c : ACode :=
  (.seq (.region [
      ⟨(some 1), .box 25 (.tmp 0), none, [], false⟩,
      ⟨(some 2), .mov (.const (.bool false)), none, [], false⟩]) (.seq (.region [
      ⟨(some 3), .fieldAddr 2 (.tmp 1), none, [], false⟩,
      ⟨(some 4), .load none (.tmp 3), none, [], false⟩,
      ⟨(some 5), .bin .geq (so (.binOp .geq 3 (.tmp 4) (.const (.int .i64 0)) 3) 4) (.tmp 4) (.const (.int .i64 0)), none, [], false⟩,
      ⟨(some 6), .mov (.tmp 5), none, [], false⟩,
      ⟨(some 7), .fieldAddr 2 (.tmp 1), (some (6, true)), [], false⟩,
      ⟨(some 8), .load none (.tmp 7), (some (6, true)), [], false⟩,
      ⟨(some 9), .bin .leq (so (.binOp .leq 3 (.tmp 8) (.const (.int .i64 1099511627776)) 3) 4) (.tmp 8) (.const (.int .i64 1099511627776)), (some (6, true)), [], false⟩,
      ⟨(some 10), .pick (.tmp 6) (.tmp 9) (.const (.bool false)), none, [], false⟩,
      ⟨(some 2), .mov (.tmp 10), none, [], false⟩]) .ret))
noncomputable def header_rules_3 : AFunc := ⟨11, [(2, none)], header_rules_3_c, none⟩
theorem header_rules_3_t0 : tableOf Try.prog 63 = some header_rules_3 := by kernel_rfl
theorem header_rules_3_t : T0 63 = some header_rules_3 := withKept_t rfl (withTrue_t rfl header_rules_3_t0)


/-! 64 slices.Concat[[]byte,byte] -/
abbrev fn_slices_Concat___byte_byte_ : FuncId := 64
noncomputable def slices_Concat___byte_byte__l0 : ACode :=
  (.seq (.region [
      ⟨(some 12), .bin .lss (so (.binOp .lss 3 (.tmp 11) (.tmp 10) 3) 0) (.tmp 11) (.tmp 10), none, [], false⟩]) (.seq (.cond (.tmp 12)
    .skip
    (.exit 0)) (.seq (.block 1 (.seq (.region [
      ⟨(some 13), .indexSl 1 (.tmp 9) (.tmp 11), none, [], false⟩,
      ⟨(some 14), .load none (.tmp 13), none, [], false⟩,
      ⟨(some 5), .mov (.tmp 14), none, [], false⟩]) (.seq (.region [
      ⟨(some 15), .mov (.tmp 3), none, [], false⟩,
      ⟨(some 16), .mov (.tmp 5), none, [], false⟩,
      ⟨(some 17), .lenSl (.tmp 16), none, [], false⟩,
      ⟨(some 18), .bin .add (so (.binOp .add 3 (.tmp 15) (.tmp 17) 3) 3) (.tmp 15) (.tmp 17), none, [], false⟩,
      ⟨(some 3), .mov (.tmp 18), none, [], false⟩]) (.seq (.region [
      ⟨(some 19), .mov (.tmp 3), none, [], false⟩,
      ⟨(some 20), .bin .lss (so (.binOp .lss 3 (.tmp 19) (.const (.int .i64 0)) 3) 4) (.tmp 19) (.const (.int .i64 0)), none, [], false⟩]) (.cond (.tmp 20)
    (.region [
      ⟨(some 21), .mkIface 9 (.const (.string ⟨⟨[108, 101, 110, 32, 111, 117, 116, 32, 111, 102, 32, 114, 97, 110, 103, 101]⟩⟩)), none, [], false⟩,
      ⟨none, .panic (.tmp 21), none, [], false⟩])
    .skip))))) (.region [
      ⟨(some 22), .bin .add (so (.binOp .add 3 (.tmp 11) (.const (.int .i64 1)) 3) 3) (.tmp 11) (.const (.int .i64 1)), none, [], false⟩,
      ⟨(some 11), .mov (.tmp 22), none, [], false⟩]))))
noncomputable def slices_Concat___byte_byte__l1 : ACode :=
  (.seq (.region [
      ⟨(some 28), .bin .lss (so (.binOp .lss 3 (.tmp 27) (.tmp 26) 3) 0) (.tmp 27) (.tmp 26), none, [], false⟩]) (.seq (.cond (.tmp 28)
    .skip
    (.exit 2)) (.seq (.block 3 (.seq (.region [
      ⟨(some 29), .indexSl 1 (.tmp 25) (.tmp 27), none, [], false⟩,
      ⟨(some 30), .load none (.tmp 29), none, [], false⟩,
      ⟨(some 8), .mov (.tmp 30), none, [], false⟩]) (.region [
      ⟨(some 31), .mov (.tmp 6), none, [], false⟩,
      ⟨(some 32), .mov (.tmp 8), none, [], false⟩,
      ⟨(some 33), .append 5 1 1 [(.int .u8 0)] false (.tmp 31) (.tmp 32), none, [], false⟩,
      ⟨(some 6), .mov (.tmp 33), none, [], false⟩]))) (.region [
      ⟨(some 34), .bin .add (so (.binOp .add 3 (.tmp 27) (.const (.int .i64 1)) 3) 3) (.tmp 27) (.const (.int .i64 1)), none, [], false⟩,
      ⟨(some 27), .mov (.tmp 34), none, [], false⟩]))))
noncomputable def slices_Concat___byte_byte__c : ACode :=
  (.seq (.region [
      ⟨(some 2), .mov (.const (.slice none 0 0)), none, [], false⟩]) (.seq (.region [
      ⟨(some 3), .mov (.const (.int .i64 0)), none, [], false⟩]) (.seq (.seq (.region [
      ⟨(some 9), .mov (.tmp 0), none, [], false⟩,
      ⟨(some 10), .lenSl (.tmp 9), none, [], false⟩,
      ⟨(some 11), .mov (.const (.int .i64 0)), none, [], false⟩]) (.block 0 (.loop slices_Concat___byte_byte__l0))) (.seq (.region [
      ⟨(some 23), .mov (.tmp 3), none, [], false⟩,
      ⟨(some 24), .callV (.func 70) [(.const (.slice none 0 0)), (.tmp 23)], none, [], false⟩,
      ⟨(some 6), .mov (.tmp 24), none, [], false⟩]) (.seq (.seq (.region [
      ⟨(some 25), .mov (.tmp 0), none, [], false⟩,
      ⟨(some 26), .lenSl (.tmp 25), none, [], false⟩,
      ⟨(some 27), .mov (.const (.int .i64 0)), none, [], false⟩]) (.block 2 (.loop slices_Concat___byte_byte__l1))) (.seq (.region [
      ⟨(some 35), .mov (.tmp 6), none, [], false⟩,
      ⟨(some 2), .mov (.tmp 35), none, [], false⟩]) .ret))))))
noncomputable def slices_Concat___byte_byte_ : AFunc := ⟨36, [(2, none)], slices_Concat___byte_byte__c, none⟩
theorem slices_Concat___byte_byte__t0 : tableOf Try.prog 64 = some slices_Concat___byte_byte_ := by kernel_rfl
theorem slices_Concat___byte_byte__t : T0 64 = some slices_Concat___byte_byte_ := withKept_t rfl (withTrue_t rfl slices_Concat___byte_byte__t0)


/-! 65 strings.IndexRune -/
abbrev fn_strings_IndexRune : FuncId := 65
noncomputable def strings_IndexRune_l0 : ACode :=
  (.seq (.region [
      ⟨(some 176), .nextStr (.tmp 175), none, [], false⟩,
      ⟨(some 177), .extract 0 (.tmp 176), none, [], false⟩]) (.seq (.cond (.tmp 177)
    .skip
    (.exit 9)) (.block 10 (.seq (.region [
      ⟨(some 178), .extract 1 (.tmp 176), none, [], false⟩,
      ⟨(some 179), .extract 2 (.tmp 176), none, [], false⟩,
      ⟨(some 5), .mov (.tmp 178), none, [], false⟩,
      ⟨(some 6), .mov (.tmp 179), none, [], false⟩]) (.seq (.region [
      ⟨(some 180), .mov (.tmp 6), none, [], false⟩,
      ⟨(some 181), .bin .eql (so (.binOp .eql 21 (.tmp 180) (.const (.int .i32 65533)) 21) 4) (.tmp 180) (.const (.int .i32 65533)), none, [], false⟩]) (.cond (.tmp 181)
    (.seq (.region [
      ⟨(some 182), .mov (.tmp 5), none, [], false⟩,
      ⟨(some 4), .mov (.tmp 182), none, [], false⟩]) .ret)
    .skip))))))
noncomputable def strings_IndexRune_l1 : ACode :=
  (.seq (.seq (.region [
      ⟨(some 48), .mov (.tmp 12), none, [], false⟩,
      ⟨(some 49), .mov (.tmp 7), none, [], false⟩,
      ⟨(some 50), .lenStr (.tmp 49), none, [], false⟩,
      ⟨(some 51), .bin .lss (so (.binOp .lss 3 (.tmp 48) (.tmp 50) 3) 4) (.tmp 48) (.tmp 50), none, [], false⟩]) (.cond (.tmp 51)
    .skip
    (.exit 3))) (.seq (.block 4 (.seq (.regionD [
      ⟨(some 54), .mov (.tmp 0), none, [], false⟩,
      ⟨(some 55), .mov (.tmp 9), none, [], false⟩,
      ⟨(some 56), .mov (.tmp 12), none, [], false⟩,
      ⟨(some 57), .bin .sub (so (.binOp .sub 3 (.tmp 55) (.tmp 56) 3) 3) (.tmp 55) (.tmp 56), none, [], false⟩,
      ⟨(some 58), .raw (so (.index 9 (.tmp 54) (.tmp 57)) 5), none, [], false⟩,
      ⟨(some 59), .mov (.tmp 7), none, [], false⟩,
      ⟨(some 60), .mov (.tmp 8), none, [], false⟩,
      ⟨(some 61), .mov (.tmp 12), none, [], false⟩,
      ⟨(some 62), .bin .sub (so (.binOp .sub 3 (.tmp 60) (.tmp 61) 3) 3) (.tmp 60) (.tmp 61), none, [], false⟩,
      ⟨(some 63), .raw (so (.index 9 (.tmp 59) (.tmp 62)) 5), none, [], false⟩,
      ⟨(some 64), .bin .neq (so (.binOp .neq 5 (.tmp 58) (.tmp 63) 5) 4) (.tmp 58) (.tmp 63), none, [], true⟩]) (.cond (.tmp 64)
    .stuck
    .skip))) (.region [
      ⟨(some 52), .mov (.tmp 12), none, [], false⟩,
      ⟨(some 53), .bin .add (so (.binOp .add 3 (.tmp 52) (.const (.int .i64 1)) 3) 3) (.tmp 52) (.const (.int .i64 1)), none, [], false⟩,
      ⟨(some 12), .mov (.tmp 53), none, [], false⟩])))
noncomputable def strings_IndexRune_l2 : ACode :=
  (.seq (.seq (.region [
      ⟨(some 23), .mov (.tmp 9), none, [], false⟩,
      ⟨(some 24), .mov (.tmp 0), none, [], false⟩,
      ⟨(some 25), .lenStr (.tmp 24), none, [], false⟩,
      ⟨(some 26), .bin .lss (so (.binOp .lss 3 (.tmp 23) (.tmp 25) 3) 4) (.tmp 23) (.tmp 25), none, [], false⟩]) (.cond (.tmp 26)
    .skip
    (.exit 1))) (.block 2 (.scope (.seq (.seq (.regionD [
      ⟨(some 27), .mov (.tmp 0), none, [], false⟩,
      ⟨(some 28), .mov (.tmp 9), none, [], false⟩,
      ⟨(some 29), .raw (so (.index 9 (.tmp 27) (.tmp 28)) 5), none, [], false⟩,
      ⟨(some 30), .mov (.tmp 7), none, [], false⟩,
      ⟨(some 31), .mov (.tmp 8), none, [], false⟩,
      ⟨(some 32), .raw (so (.index 9 (.tmp 30) (.tmp 31)) 5), none, [], false⟩,
      ⟨(some 33), .bin .neq (so (.binOp .neq 5 (.tmp 29) (.tmp 32) 5) 4) (.tmp 29) (.tmp 32), none, [], true⟩]) (.cond (.tmp 33)
    (.seq (.regionD [
      ⟨(some 34), .mov (.tmp 0), none, [], false⟩,
      ⟨(some 35), .mov (.tmp 9), none, [], false⟩,
      ⟨(some 36), .bin .add (so (.binOp .add 3 (.tmp 35) (.const (.int .i64 1)) 3) 3) (.tmp 35) (.const (.int .i64 1)), none, [], false⟩,
      ⟨(some 37), .sliceStr (.tmp 34) (some (.tmp 36)) none, none, [], false⟩,
      ⟨(some 38), .mov (.tmp 7), none, [], false⟩,
      ⟨(some 39), .mov (.tmp 8), none, [], false⟩,
      ⟨(some 40), .raw (so (.index 9 (.tmp 38) (.tmp 39)) 5), none, [], false⟩,
      ⟨(some 41), .callV (.func 71) [(.tmp 37), (.tmp 40)], none, [], true⟩,
      ⟨(some 11), .mov (.tmp 41), none, [], true⟩]) (.seq (.seq (.region [
      ⟨(some 42), .mov (.tmp 11), none, [], false⟩,
      ⟨(some 43), .bin .lss (so (.binOp .lss 3 (.tmp 42) (.const (.int .i64 0)) 3) 4) (.tmp 42) (.const (.int .i64 0)), none, [], false⟩]) (.cond (.tmp 43)
    (.seq (.region [
      ⟨(some 4), .mov (.const (.int .i64 (-1))), none, [], false⟩]) .ret)
    .skip)) (.region [
      ⟨(some 44), .mov (.tmp 9), none, [], false⟩,
      ⟨(some 45), .mov (.tmp 11), none, [], false⟩,
      ⟨(some 46), .bin .add (so (.binOp .add 3 (.tmp 45) (.const (.int .i64 1)) 3) 3) (.tmp 45) (.const (.int .i64 1)), none, [], false⟩,
      ⟨(some 47), .bin .add (so (.binOp .add 3 (.tmp 44) (.tmp 46) 3) 3) (.tmp 44) (.tmp 46), none, [], false⟩,
      ⟨(some 9), .mov (.tmp 47), none, [], false⟩])))
    .skip)) (.seq (.seq (.region [
      ⟨(some 12), .mov (.const (.int .i64 1)), none, [], false⟩]) (.block 3 (.loop strings_IndexRune_l1))) (.seq (.seq (.region [
      ⟨(some 65), .mov (.tmp 9), none, [], false⟩,
      ⟨(some 66), .mov (.tmp 8), none, [], false⟩,
      ⟨(some 67), .bin .sub (so (.binOp .sub 3 (.tmp 65) (.tmp 66) 3) 3) (.tmp 65) (.tmp 66), none, [], false⟩,
      ⟨(some 4), .mov (.tmp 67), none, [], false⟩]) .ret) (.seq .skip (.seq (.region [
      ⟨(some 68), .mov (.tmp 10), none, [], false⟩,
      ⟨(some 69), .bin .add (so (.binOp .add 3 (.tmp 68) (.const (.int .i64 1)) 3) 3) (.tmp 68) (.const (.int .i64 1)), none, [], false⟩,
      ⟨(some 10), .mov (.tmp 69), none, [], false⟩]) (.seq (.region [
      ⟨(some 70), .mov (.tmp 9), none, [], false⟩,
      ⟨(some 71), .bin .add (so (.binOp .add 3 (.tmp 70) (.const (.int .i64 1)) 3) 3) (.tmp 70) (.const (.int .i64 1)), none, [], false⟩,
      ⟨(some 9), .mov (.tmp 71), none, [], false⟩]) (.seq (.region [
      ⟨(some 72), .mov (.const (.bool true)), none, [], false⟩,
      ⟨(some 73), .mov (.tmp 10), (some (72, true)), [], false⟩,
      ⟨(some 74), .mov (.tmp 9), (some (72, true)), [], false⟩,
      ⟨(some 75), .callV (.func 73) [(.tmp 74)], (some (72, true)), [], false⟩,
      ⟨(some 76), .bin .gtr (so (.binOp .gtr 3 (.tmp 73) (.tmp 75) 3) 4) (.tmp 73) (.tmp 75), (some (72, true)), [], false⟩,
      ⟨(some 77), .pick (.tmp 72) (.tmp 76) (.const (.bool false)), none, [], false⟩,
      ⟨(some 78), .mov (.tmp 77), none, [], false⟩,
      ⟨(some 79), .mov (.tmp 9), (some (78, true)), [], false⟩,
      ⟨(some 80), .mov (.tmp 0), (some (78, true)), [], false⟩,
      ⟨(some 81), .lenStr (.tmp 80), (some (78, true)), [], false⟩,
      ⟨(some 82), .bin .lss (so (.binOp .lss 3 (.tmp 79) (.tmp 81) 3) 4) (.tmp 79) (.tmp 81), (some (78, true)), [], false⟩,
      ⟨(some 83), .pick (.tmp 78) (.tmp 82) (.const (.bool false)), none, [], false⟩,
      ⟨(some 84), .mov (.tmp 83), none, [], false⟩,
      ⟨(some 85), .mov (.const (.bool false)), (some (84, false)), [], false⟩,
      ⟨(some 86), .mov (.tmp 10), (some (85, true)), [], false⟩,
      ⟨(some 87), .mov (.tmp 9), (some (85, true)), [], false⟩,
      ⟨(some 88), .bin .shr (so (.binOp .shr 3 (.tmp 87) (.const (.int .u64 4)) 134) 3) (.tmp 87) (.const (.int .u64 4)), (some (85, true)), [], false⟩,
      ⟨(some 89), .bin .add (so (.binOp .add 3 (.const (.int .i64 4)) (.tmp 88) 3) 3) (.const (.int .i64 4)) (.tmp 88), (some (85, true)), [], false⟩,
      ⟨(some 90), .bin .geq (so (.binOp .geq 3 (.tmp 86) (.tmp 89) 3) 4) (.tmp 86) (.tmp 89), (some (85, true)), [], false⟩,
      ⟨(some 91), .pick (.tmp 85) (.tmp 90) (.const (.bool false)), (some (84, false)), [], false⟩,
      ⟨(some 92), .mov (.tmp 91), (some (84, false)), [], false⟩,
      ⟨(some 93), .mov (.tmp 9), (some (92, true)), [], false⟩,
      ⟨(some 94), .mov (.tmp 0), (some (92, true)), [], false⟩,
      ⟨(some 95), .lenStr (.tmp 94), (some (92, true)), [], false⟩,
      ⟨(some 96), .bin .lss (so (.binOp .lss 3 (.tmp 93) (.tmp 95) 3) 4) (.tmp 93) (.tmp 95), (some (92, true)), [], false⟩,
      ⟨(some 97), .pick (.tmp 92) (.tmp 96) (.const (.bool false)), (some (84, false)), [], false⟩,
      ⟨(some 98), .pick (.tmp 84) (.const (.bool true)) (.tmp 97), none, [], false⟩]) (.cond (.tmp 98)
    .stuck
    .skip)))))))))))
noncomputable def strings_IndexRune_l3 : ACode :=
  (.seq (.seq (.region [
      ⟨(some 140), .mov (.tmp 16), none, [], false⟩,
      ⟨(some 141), .mov (.tmp 7), none, [], false⟩,
      ⟨(some 142), .lenStr (.tmp 141), none, [], false⟩,
      ⟨(some 143), .bin .lss (so (.binOp .lss 3 (.tmp 140) (.tmp 142) 3) 4) (.tmp 140) (.tmp 142), none, [], false⟩]) (.cond (.tmp 143)
    .skip
    (.exit 7))) (.seq (.block 8 (.seq (.regionD [
      ⟨(some 146), .mov (.tmp 0), none, [], false⟩,
      ⟨(some 147), .mov (.tmp 9), none, [], false⟩,
      ⟨(some 148), .mov (.tmp 16), none, [], false⟩,
      ⟨(some 149), .bin .sub (so (.binOp .sub 3 (.tmp 147) (.tmp 148) 3) 3) (.tmp 147) (.tmp 148), none, [], false⟩,
      ⟨(some 150), .raw (so (.index 9 (.tmp 146) (.tmp 149)) 5), none, [], false⟩,
      ⟨(some 151), .mov (.tmp 7), none, [], false⟩,
      ⟨(some 152), .mov (.tmp 8), none, [], false⟩,
      ⟨(some 153), .mov (.tmp 16), none, [], false⟩,
      ⟨(some 154), .bin .sub (so (.binOp .sub 3 (.tmp 152) (.tmp 153) 3) 3) (.tmp 152) (.tmp 153), none, [], false⟩,
      ⟨(some 155), .raw (so (.index 9 (.tmp 151) (.tmp 154)) 5), none, [], false⟩,
      ⟨(some 156), .bin .neq (so (.binOp .neq 5 (.tmp 150) (.tmp 155) 5) 4) (.tmp 150) (.tmp 155), none, [], true⟩]) (.cond (.tmp 156)
    (.exit 6)
    .skip))) (.region [
      ⟨(some 144), .mov (.tmp 16), none, [], false⟩,
      ⟨(some 145), .bin .add (so (.binOp .add 3 (.tmp 144) (.const (.int .i64 1)) 3) 3) (.tmp 144) (.const (.int .i64 1)), none, [], false⟩,
      ⟨(some 16), .mov (.tmp 145), none, [], false⟩])))
noncomputable def strings_IndexRune_l4 : ACode :=
  (.seq (.seq (.region [
      ⟨(some 121), .mov (.tmp 9), none, [], false⟩,
      ⟨(some 122), .mov (.tmp 0), none, [], false⟩,
      ⟨(some 123), .lenStr (.tmp 122), none, [], false⟩,
      ⟨(some 124), .bin .lss (so (.binOp .lss 3 (.tmp 121) (.tmp 123) 3) 4) (.tmp 121) (.tmp 123), none, [], false⟩]) (.cond (.tmp 124)
    .skip
    (.exit 5))) (.seq (.block 6 (.seq (.region [
      ⟨(some 127), .mov (.tmp 0), none, [], false⟩,
      ⟨(some 128), .mov (.tmp 9), none, [], false⟩,
      ⟨(some 129), .raw (so (.index 9 (.tmp 127) (.tmp 128)) 5), none, [], false⟩,
      ⟨(some 130), .mov (.tmp 14), none, [], false⟩,
      ⟨(some 131), .bin .eql (so (.binOp .eql 5 (.tmp 129) (.tmp 130) 5) 4) (.tmp 129) (.tmp 130), none, [], false⟩,
      ⟨(some 132), .mov (.tmp 131), none, [], false⟩,
      ⟨(some 133), .mov (.tmp 0), (some (132, true)), [], false⟩,
      ⟨(some 134), .mov (.tmp 9), (some (132, true)), [], false⟩,
      ⟨(some 135), .bin .sub (so (.binOp .sub 3 (.tmp 134) (.const (.int .i64 1)) 3) 3) (.tmp 134) (.const (.int .i64 1)), (some (132, true)), [], false⟩,
      ⟨(some 136), .raw (so (.index 9 (.tmp 133) (.tmp 135)) 5), (some (132, true)), [], false⟩,
      ⟨(some 137), .mov (.tmp 15), (some (132, true)), [], false⟩,
      ⟨(some 138), .bin .eql (so (.binOp .eql 5 (.tmp 136) (.tmp 137) 5) 4) (.tmp 136) (.tmp 137), (some (132, true)), [], false⟩,
      ⟨(some 139), .pick (.tmp 132) (.tmp 138) (.const (.bool false)), none, [], false⟩]) (.cond (.tmp 139)
    (.seq (.seq (.region [
      ⟨(some 16), .mov (.const (.int .i64 2)), none, [], false⟩]) (.block 7 (.loop strings_IndexRune_l3))) (.seq (.region [
      ⟨(some 157), .mov (.tmp 9), none, [], false⟩,
      ⟨(some 158), .mov (.tmp 8), none, [], false⟩,
      ⟨(some 159), .bin .sub (so (.binOp .sub 3 (.tmp 157) (.tmp 158) 3) 3) (.tmp 157) (.tmp 158), none, [], false⟩,
      ⟨(some 4), .mov (.tmp 159), none, [], false⟩]) .ret))
    .skip))) (.region [
      ⟨(some 125), .mov (.tmp 9), none, [], false⟩,
      ⟨(some 126), .bin .add (so (.binOp .add 3 (.tmp 125) (.const (.int .i64 1)) 3) 3) (.tmp 125) (.const (.int .i64 1)), none, [], false⟩,
      ⟨(some 9), .mov (.tmp 126), none, [], false⟩])))
noncomputable def strings_IndexRune_c : ACode :=
  (.seq (.region [
      ⟨(some 4), .mov (.const (.int .i64 0)), none, [], false⟩]) (.block 0 (.seq (.region [
      ⟨(some 161), .mov (.tmp 1), none, [], false⟩,
      ⟨(some 162), .bin .leq (so (.binOp .leq 21 (.const (.int .i32 0)) (.tmp 161) 21) 4) (.const (.int .i32 0)) (.tmp 161), none, [], false⟩,
      ⟨(some 163), .mov (.tmp 162), none, [], false⟩,
      ⟨(some 164), .mov (.tmp 1), (some (163, true)), [], false⟩,
      ⟨(some 165), .bin .lss (so (.binOp .lss 21 (.tmp 164) (.const (.int .i32 128)) 21) 4) (.tmp 164) (.const (.int .i32 128)), (some (163, true)), [], false⟩,
      ⟨(some 166), .pick (.tmp 163) (.tmp 165) (.const (.bool false)), none, [], false⟩,
      ⟨(some 160), .mov (.tmp 166), none, [], false⟩]) (.cond (.tmp 160)
    (.seq (.region [
      ⟨(some 167), .mov (.tmp 0), none, [], false⟩,
      ⟨(some 168), .mov (.tmp 1), none, [], false⟩,
      ⟨(some 169), .conv .u8 (so (.convert 21 5 (.tmp 168)) 5) (.tmp 168), none, [], false⟩,
      ⟨(some 170), .callV (.func 71) [(.tmp 167), (.tmp 169)], none, [], false⟩,
      ⟨(some 4), .mov (.tmp 170), none, [], false⟩]) .ret)
    (.seq (.region [
      ⟨(some 172), .mov (.tmp 1), none, [], false⟩,
      ⟨(some 173), .bin .eql (so (.binOp .eql 21 (.tmp 172) (.const (.int .i32 65533)) 21) 4) (.tmp 172) (.const (.int .i32 65533)), none, [], false⟩,
      ⟨(some 171), .mov (.tmp 173), none, [], false⟩]) (.cond (.tmp 171)
    (.seq (.seq (.region [
      ⟨(some 174), .mov (.tmp 0), none, [], false⟩,
      ⟨(some 175), .rangeStr (.tmp 174), none, [], false⟩]) (.block 9 (.loop strings_IndexRune_l0))) (.seq (.region [
      ⟨(some 4), .mov (.const (.int .i64 (-1))), none, [], false⟩]) .ret))
    (.seq (.region [
      ⟨(some 184), .mov (.tmp 1), none, [], false⟩,
      ⟨(some 185), .callV (.func 72) [(.tmp 184)], none, [], false⟩,
      ⟨(some 186), .raw (so (.unOp .not 4 (.tmp 185)) 4), none, [], false⟩,
      ⟨(some 183), .mov (.tmp 186), none, [], false⟩]) (.cond (.tmp 183)
    (.seq (.region [
      ⟨(some 4), .mov (.const (.int .i64 (-1))), none, [], false⟩]) .ret)
    (.scope (.seq (.region [
      ⟨(some 17), .mov (.tmp 1), none, [], false⟩,
      ⟨(some 18), .raw (so (.convert 21 9 (.tmp 17)) 9), none, [], false⟩,
      ⟨(some 7), .mov (.tmp 18), none, [], false⟩]) (.seq (.region [
      ⟨(some 19), .mov (.tmp 7), none, [], false⟩,
      ⟨(some 20), .lenStr (.tmp 19), none, [], false⟩,
      ⟨(some 21), .bin .sub (so (.binOp .sub 3 (.tmp 20) (.const (.int .i64 1)) 3) 3) (.tmp 20) (.const (.int .i64 1)), none, [], false⟩,
      ⟨(some 8), .mov (.tmp 21), none, [], false⟩]) (.seq (.region [
      ⟨(some 22), .mov (.tmp 8), none, [], false⟩,
      ⟨(some 9), .mov (.tmp 22), none, [], false⟩]) (.seq (.region [
      ⟨(some 10), .mov (.const (.int .i64 0)), none, [], false⟩]) (.seq (.block 1 (.loop strings_IndexRune_l2)) (.seq (.seq (.region [
      ⟨(some 4), .mov (.const (.int .i64 (-1))), none, [], false⟩]) .ret) (.seq .skip (.seq (.cond (.const (.bool true))
    (.seq (.region [
      ⟨(some 99), .mov (.tmp 0), none, [], false⟩,
      ⟨(some 100), .mov (.tmp 9), none, [], false⟩,
      ⟨(some 101), .mov (.tmp 8), none, [], false⟩,
      ⟨(some 102), .bin .sub (so (.binOp .sub 3 (.tmp 100) (.tmp 101) 3) 3) (.tmp 100) (.tmp 101), none, [], false⟩,
      ⟨(some 103), .sliceStr (.tmp 99) (some (.tmp 102)) none, none, [], false⟩,
      ⟨(some 104), .mov (.tmp 1), none, [], false⟩,
      ⟨(some 105), .raw (so (.convert 21 9 (.tmp 104)) 9), none, [], false⟩,
      ⟨(some 106), .callV (.func 74) [(.tmp 103), (.tmp 105)], none, [], false⟩,
      ⟨(some 13), .mov (.tmp 106), none, [], false⟩]) (.seq (.region [
      ⟨(some 107), .mov (.tmp 13), none, [], false⟩,
      ⟨(some 108), .bin .geq (so (.binOp .geq 3 (.tmp 107) (.const (.int .i64 0)) 3) 4) (.tmp 107) (.const (.int .i64 0)), none, [], false⟩]) (.cond (.tmp 108)
    (.seq (.region [
      ⟨(some 109), .mov (.tmp 9), none, [], false⟩,
      ⟨(some 110), .mov (.tmp 13), none, [], false⟩,
      ⟨(some 111), .bin .add (so (.binOp .add 3 (.tmp 109) (.tmp 110) 3) 3) (.tmp 109) (.tmp 110), none, [], false⟩,
      ⟨(some 112), .mov (.tmp 8), none, [], false⟩,
      ⟨(some 113), .bin .sub (so (.binOp .sub 3 (.tmp 111) (.tmp 112) 3) 3) (.tmp 111) (.tmp 112), none, [], false⟩,
      ⟨(some 4), .mov (.tmp 113), none, [], false⟩]) .ret)
    .skip)))
    (.scope (.seq (.region [
      ⟨(some 114), .mov (.tmp 7), none, [], false⟩,
      ⟨(some 115), .mov (.tmp 8), none, [], false⟩,
      ⟨(some 116), .raw (so (.index 9 (.tmp 114) (.tmp 115)) 5), none, [], false⟩,
      ⟨(some 14), .mov (.tmp 116), none, [], false⟩]) (.seq (.region [
      ⟨(some 117), .mov (.tmp 7), none, [], false⟩,
      ⟨(some 118), .mov (.tmp 8), none, [], false⟩,
      ⟨(some 119), .bin .sub (so (.binOp .sub 3 (.tmp 118) (.const (.int .i64 1)) 3) 3) (.tmp 118) (.const (.int .i64 1)), none, [], false⟩,
      ⟨(some 120), .raw (so (.index 9 (.tmp 117) (.tmp 119)) 5), none, [], false⟩,
      ⟨(some 15), .mov (.tmp 120), none, [], false⟩]) (.seq .skip (.block 5 (.loop strings_IndexRune_l4))))))) (.seq (.region [
      ⟨(some 4), .mov (.const (.int .i64 (-1))), none, [], false⟩]) .ret))))))))))))))))))
noncomputable def strings_IndexRune : AFunc := ⟨187, [(4, none)], strings_IndexRune_c, none⟩
theorem strings_IndexRune_t0 : tableOf Try.prog 65 = some strings_IndexRune := by kernel_rfl
theorem strings_IndexRune_t : T0 65 = some strings_IndexRune := withKept_t rfl (withTrue_t rfl strings_IndexRune_t0)


/-! 66 landfall/blake.mix -/
abbrev fn_blake_mix : FuncId := 66
noncomputable def blake_mix_c : ACode :=
  (.seq (.region [
      ⟨(some 3), .box 142 (.tmp 0), none, [], false⟩]) (.seq (.regionD [
      ⟨(some 10), .indexArr 4 1 (.tmp 3) (.const (.int .i64 0)), none, [], false⟩,
      ⟨(some 11), .load none (.tmp 10), none, [], false⟩,
      ⟨(some 12), .indexArr 4 1 (.tmp 3) (.const (.int .i64 1)), none, [], false⟩,
      ⟨(some 13), .load none (.tmp 12), none, [], false⟩,
      ⟨(some 14), .indexArr 4 1 (.tmp 3) (.const (.int .i64 2)), none, [], false⟩,
      ⟨(some 15), .load none (.tmp 14), none, [], false⟩,
      ⟨(some 16), .indexArr 4 1 (.tmp 3) (.const (.int .i64 3)), none, [], false⟩,
      ⟨(some 17), .load none (.tmp 16), none, [], false⟩,
      ⟨(some 6), .mov (.tmp 11), none, [], false⟩,
      ⟨(some 7), .mov (.tmp 13), none, [], false⟩,
      ⟨(some 8), .mov (.tmp 15), none, [], false⟩,
      ⟨(some 9), .mov (.tmp 17), none, [], true⟩]) (.seq (.regionD [
      ⟨(some 18), .mov (.tmp 6), none, [], false⟩,
      ⟨(some 19), .nilCheck (.tmp 18), none, [], false⟩,
      ⟨(some 20), .load none (.tmp 19), none, [], false⟩,
      ⟨(some 21), .mov (.tmp 7), none, [], false⟩,
      ⟨(some 22), .nilCheck (.tmp 21), none, [], false⟩,
      ⟨(some 23), .load none (.tmp 22), none, [], false⟩,
      ⟨(some 24), .mov (.tmp 1), none, [], false⟩,
      ⟨(some 25), .bin .add (so (.binOp .add 119 (.tmp 23) (.tmp 24) 119) 119) (.tmp 23) (.tmp 24), none, [], false⟩,
      ⟨(some 26), .bin .add (so (.binOp .add 119 (.tmp 20) (.tmp 25) 119) 119) (.tmp 20) (.tmp 25), none, [], true⟩,
      ⟨(some 27), .nilCheck (.tmp 18), none, [], true⟩,
      ⟨none, .store 1 (.tmp 27) (.tmp 26), none, [], true⟩]) (.seq (.regionD [
      ⟨(some 28), .mov (.tmp 9), none, [], false⟩,
      ⟨(some 29), .mov (.tmp 9), none, [], false⟩,
      ⟨(some 30), .nilCheck (.tmp 29), none, [], false⟩,
      ⟨(some 31), .load none (.tmp 30), none, [], false⟩,
      ⟨(some 32), .mov (.tmp 6), none, [], false⟩,
      ⟨(some 33), .nilCheck (.tmp 32), none, [], false⟩,
      ⟨(some 34), .load none (.tmp 33), none, [], false⟩,
      ⟨(some 35), .bin .xor (so (.binOp .xor 119 (.tmp 31) (.tmp 34) 119) 119) (.tmp 31) (.tmp 34), none, [], false⟩,
      ⟨(some 36), .callV (.func 75) [(.tmp 35), (.const (.int .i64 (-16)))], none, [((some 28), .mov (.tmp 9), none)], false⟩,
      ⟨(some 37), .nilCheck (.tmp 28), none, [], true⟩,
      ⟨none, .store 1 (.tmp 37) (.tmp 36), none, [], true⟩]) (.seq (.regionD [
      ⟨(some 38), .mov (.tmp 8), none, [], false⟩,
      ⟨(some 39), .nilCheck (.tmp 38), none, [], false⟩,
      ⟨(some 40), .load none (.tmp 39), none, [], false⟩,
      ⟨(some 41), .mov (.tmp 9), none, [], false⟩,
      ⟨(some 42), .nilCheck (.tmp 41), none, [], false⟩,
      ⟨(some 43), .load none (.tmp 42), none, [], false⟩,
      ⟨(some 44), .bin .add (so (.binOp .add 119 (.tmp 40) (.tmp 43) 119) 119) (.tmp 40) (.tmp 43), none, [], true⟩,
      ⟨(some 45), .nilCheck (.tmp 38), none, [], true⟩,
      ⟨none, .store 1 (.tmp 45) (.tmp 44), none, [], true⟩]) (.seq (.regionD [
      ⟨(some 46), .mov (.tmp 7), none, [], false⟩,
      ⟨(some 47), .mov (.tmp 7), none, [], false⟩,
      ⟨(some 48), .nilCheck (.tmp 47), none, [], false⟩,
      ⟨(some 49), .load none (.tmp 48), none, [], false⟩,
      ⟨(some 50), .mov (.tmp 8), none, [], false⟩,
      ⟨(some 51), .nilCheck (.tmp 50), none, [], false⟩,
      ⟨(some 52), .load none (.tmp 51), none, [], false⟩,
      ⟨(some 53), .bin .xor (so (.binOp .xor 119 (.tmp 49) (.tmp 52) 119) 119) (.tmp 49) (.tmp 52), none, [], false⟩,
      ⟨(some 54), .callV (.func 75) [(.tmp 53), (.const (.int .i64 (-12)))], none, [((some 46), .mov (.tmp 7), none)], false⟩,
      ⟨(some 55), .nilCheck (.tmp 46), none, [], true⟩,
      ⟨none, .store 1 (.tmp 55) (.tmp 54), none, [], true⟩]) (.seq (.regionD [
      ⟨(some 56), .mov (.tmp 6), none, [], false⟩,
      ⟨(some 57), .nilCheck (.tmp 56), none, [], false⟩,
      ⟨(some 58), .load none (.tmp 57), none, [], false⟩,
      ⟨(some 59), .mov (.tmp 7), none, [], false⟩,
      ⟨(some 60), .nilCheck (.tmp 59), none, [], false⟩,
      ⟨(some 61), .load none (.tmp 60), none, [], false⟩,
      ⟨(some 62), .mov (.tmp 2), none, [], false⟩,
      ⟨(some 63), .bin .add (so (.binOp .add 119 (.tmp 61) (.tmp 62) 119) 119) (.tmp 61) (.tmp 62), none, [], false⟩,
      ⟨(some 64), .bin .add (so (.binOp .add 119 (.tmp 58) (.tmp 63) 119) 119) (.tmp 58) (.tmp 63), none, [], true⟩,
      ⟨(some 65), .nilCheck (.tmp 56), none, [], true⟩,
      ⟨none, .store 1 (.tmp 65) (.tmp 64), none, [], true⟩]) (.seq (.regionD [
      ⟨(some 66), .mov (.tmp 9), none, [], false⟩,
      ⟨(some 67), .mov (.tmp 9), none, [], false⟩,
      ⟨(some 68), .nilCheck (.tmp 67), none, [], false⟩,
      ⟨(some 69), .load none (.tmp 68), none, [], false⟩,
      ⟨(some 70), .mov (.tmp 6), none, [], false⟩,
      ⟨(some 71), .nilCheck (.tmp 70), none, [], false⟩,
      ⟨(some 72), .load none (.tmp 71), none, [], false⟩,
      ⟨(some 73), .bin .xor (so (.binOp .xor 119 (.tmp 69) (.tmp 72) 119) 119) (.tmp 69) (.tmp 72), none, [], false⟩,
      ⟨(some 74), .callV (.func 75) [(.tmp 73), (.const (.int .i64 (-8)))], none, [((some 66), .mov (.tmp 9), none)], false⟩,
      ⟨(some 75), .nilCheck (.tmp 66), none, [], true⟩,
      ⟨none, .store 1 (.tmp 75) (.tmp 74), none, [], true⟩]) (.seq (.regionD [
      ⟨(some 76), .mov (.tmp 8), none, [], false⟩,
      ⟨(some 77), .nilCheck (.tmp 76), none, [], false⟩,
      ⟨(some 78), .load none (.tmp 77), none, [], false⟩,
      ⟨(some 79), .mov (.tmp 9), none, [], false⟩,
      ⟨(some 80), .nilCheck (.tmp 79), none, [], false⟩,
      ⟨(some 81), .load none (.tmp 80), none, [], false⟩,
      ⟨(some 82), .bin .add (so (.binOp .add 119 (.tmp 78) (.tmp 81) 119) 119) (.tmp 78) (.tmp 81), none, [], true⟩,
      ⟨(some 83), .nilCheck (.tmp 76), none, [], true⟩,
      ⟨none, .store 1 (.tmp 83) (.tmp 82), none, [], true⟩]) (.regionD [
      ⟨(some 84), .mov (.tmp 7), none, [], false⟩,
      ⟨(some 85), .mov (.tmp 7), none, [], false⟩,
      ⟨(some 86), .nilCheck (.tmp 85), none, [], false⟩,
      ⟨(some 87), .load none (.tmp 86), none, [], false⟩,
      ⟨(some 88), .mov (.tmp 8), none, [], false⟩,
      ⟨(some 89), .nilCheck (.tmp 88), none, [], false⟩,
      ⟨(some 90), .load none (.tmp 89), none, [], false⟩,
      ⟨(some 91), .bin .xor (so (.binOp .xor 119 (.tmp 87) (.tmp 90) 119) 119) (.tmp 87) (.tmp 90), none, [], false⟩,
      ⟨(some 92), .callV (.func 75) [(.tmp 91), (.const (.int .i64 (-7)))], none, [((some 84), .mov (.tmp 7), none)], false⟩,
      ⟨(some 93), .nilCheck (.tmp 84), none, [], true⟩,
      ⟨none, .store 1 (.tmp 93) (.tmp 92), none, [], true⟩]))))))))))
noncomputable def blake_mix : AFunc := ⟨94, [], blake_mix_c, none⟩
theorem blake_mix_t0 : tableOf Try.prog 66 = some blake_mix := by kernel_rfl
theorem blake_mix_t : T0 66 = some blake_mix := withKept_t rfl (withTrue_t rfl blake_mix_t0)


/-! 67 (*landfall/blake.counter).Len -/
abbrev fn_blake_counter_Len : FuncId := 67
noncomputable def blake_counter_Len_c : ACode :=
  (.seq (.region [
      ⟨(some 2), .mov (.const (.int .i64 0)), none, [], false⟩]) (.seq (.seq (.region [
      ⟨(some 3), .mov (.tmp 0), none, [], false⟩,
      ⟨(some 4), .eq .ptr false (so (.binOp .eql 123 (.tmp 3) (.const (.pointer none)) 123) 4) (.tmp 3) (.const (.pointer none)), none, [], false⟩]) (.cond (.tmp 4)
    (.seq (.region [
      ⟨(some 2), .mov (.const (.int .i64 0)), none, [], false⟩]) .ret)
    .skip)) (.seq (.region [
      ⟨(some 5), .mov (.tmp 0), none, [], false⟩,
      ⟨(some 6), .nilCheck (.tmp 5), none, [], false⟩,
      ⟨(some 7), .fieldAddr 0 (.tmp 6), none, [], false⟩,
      ⟨(some 8), .load none (.tmp 7), none, [], false⟩,
      ⟨(some 2), .mov (.tmp 8), none, [], false⟩]) .ret)))
noncomputable def blake_counter_Len : AFunc := ⟨9, [(2, none)], blake_counter_Len_c, none⟩
theorem blake_counter_Len_t0 : tableOf Try.prog 67 = some blake_counter_Len := by kernel_rfl
theorem blake_counter_Len_t : T0 67 = some blake_counter_Len := withKept_t rfl (withTrue_t rfl blake_counter_Len_t0)


/-! 68 landfall/header.each -/
abbrev fn_header_each : FuncId := 68
noncomputable def header_each_l0 : ACode :=
  (.seq (.region [
      ⟨(some 9), .nextStr (.tmp 8), none, [], false⟩,
      ⟨(some 10), .extract 0 (.tmp 9), none, [], false⟩]) (.seq (.cond (.tmp 10)
    .skip
    (.exit 0)) (.block 1 (.seq (.region [
      ⟨(some 11), .extract 2 (.tmp 9), none, [], false⟩,
      ⟨(some 6), .mov (.tmp 11), none, [], false⟩]) (.seq (.region [
      ⟨(some 12), .mov (.tmp 1), none, [], false⟩,
      ⟨(some 13), .mov (.tmp 6), none, [], false⟩,
      ⟨(some 14), .callV (.tmp 12) [(.tmp 13)], none, [], false⟩,
      ⟨(some 15), .raw (so (.unOp .not 4 (.tmp 14)) 4), none, [], false⟩]) (.cond (.tmp 15)
    (.seq (.region [
      ⟨(some 4), .mov (.const (.bool false)), none, [], false⟩]) .ret)
    .skip))))))
noncomputable def header_each_c : ACode :=
  (.seq (.region [
      ⟨(some 4), .mov (.const (.bool false)), none, [], false⟩]) (.seq (.seq (.region [
      ⟨(some 7), .mov (.tmp 0), none, [], false⟩,
      ⟨(some 8), .rangeStr (.tmp 7), none, [], false⟩]) (.block 0 (.loop header_each_l0))) (.seq (.region [
      ⟨(some 4), .mov (.const (.bool true)), none, [], false⟩]) .ret)))
noncomputable def header_each : AFunc := ⟨16, [(4, none)], header_each_c, none⟩
theorem header_each_t0 : tableOf Try.prog 68 = some header_each := by kernel_rfl
theorem header_each_t : T0 68 = some header_each := withKept_t rfl (withTrue_t rfl header_each_t0)


/-! 69 landfall/header.plain -/
abbrev fn_header_plain : FuncId := 69
noncomputable def header_plain_c : ACode :=
  (.seq (.region [
      ⟨(some 2), .mov (.const (.bool false)), none, [], false⟩]) (.seq (.region [
      ⟨(some 3), .mov (.tmp 0), none, [], false⟩,
      ⟨(some 4), .bin .geq (so (.binOp .geq 21 (.tmp 3) (.const (.int .i32 97)) 21) 4) (.tmp 3) (.const (.int .i32 97)), none, [], false⟩,
      ⟨(some 5), .mov (.tmp 4), none, [], false⟩,
      ⟨(some 6), .mov (.tmp 0), (some (5, true)), [], false⟩,
      ⟨(some 7), .bin .leq (so (.binOp .leq 21 (.tmp 6) (.const (.int .i32 122)) 21) 4) (.tmp 6) (.const (.int .i32 122)), (some (5, true)), [], false⟩,
      ⟨(some 8), .pick (.tmp 5) (.tmp 7) (.const (.bool false)), none, [], false⟩,
      ⟨(some 9), .mov (.tmp 8), none, [], false⟩,
      ⟨(some 10), .mov (.tmp 0), (some (9, false)), [], false⟩,
      ⟨(some 11), .bin .geq (so (.binOp .geq 21 (.tmp 10) (.const (.int .i32 48)) 21) 4) (.tmp 10) (.const (.int .i32 48)), (some (9, false)), [], false⟩,
      ⟨(some 12), .mov (.tmp 11), (some (9, false)), [], false⟩,
      ⟨(some 13), .mov (.tmp 0), (some (12, true)), [], false⟩,
      ⟨(some 14), .bin .leq (so (.binOp .leq 21 (.tmp 13) (.const (.int .i32 57)) 21) 4) (.tmp 13) (.const (.int .i32 57)), (some (12, true)), [], false⟩,
      ⟨(some 15), .pick (.tmp 12) (.tmp 14) (.const (.bool false)), (some (9, false)), [], false⟩,
      ⟨(some 16), .pick (.tmp 9) (.const (.bool true)) (.tmp 15), none, [], false⟩,
      ⟨(some 17), .mov (.tmp 16), none, [], false⟩,
      ⟨(some 18), .mov (.tmp 0), (some (17, false)), [], false⟩,
      ⟨(some 19), .bin .eql (so (.binOp .eql 21 (.tmp 18) (.const (.int .i32 45)) 21) 4) (.tmp 18) (.const (.int .i32 45)), (some (17, false)), [], false⟩,
      ⟨(some 20), .pick (.tmp 17) (.const (.bool true)) (.tmp 19), none, [], false⟩,
      ⟨(some 2), .mov (.tmp 20), none, [], false⟩]) .ret))
noncomputable def header_plain : AFunc := ⟨21, [(2, none)], header_plain_c, none⟩
theorem header_plain_t0 : tableOf Try.prog 69 = some header_plain := by kernel_rfl
theorem header_plain_t : T0 69 = some header_plain := withKept_t rfl (withTrue_t rfl header_plain_t0)


/-! 70 slices.Grow[[]byte,byte] -/
abbrev fn_slices_Grow___byte_byte_ : FuncId := 70
noncomputable def slices_Grow___byte_byte__c : ACode :=
  (.seq (.region [
      ⟨(some 4), .mov (.const (.slice none 0 0)), none, [], false⟩]) (.seq (.seq (.region [
      ⟨(some 5), .mov (.tmp 1), none, [], false⟩,
      ⟨(some 6), .bin .lss (so (.binOp .lss 3 (.tmp 5) (.const (.int .i64 0)) 3) 4) (.tmp 5) (.const (.int .i64 0)), none, [], false⟩]) (.cond (.tmp 6)
    (.region [
      ⟨(some 7), .mkIface 9 (.const (.string ⟨⟨[99, 97, 110, 110, 111, 116, 32, 98, 101, 32, 110, 101, 103, 97, 116, 105, 118, 101]⟩⟩)), none, [], false⟩,
      ⟨none, .panic (.tmp 7), none, [], false⟩])
    .skip)) (.seq (.seq (.region [
      ⟨(some 8), .mov (.tmp 1), none, [], false⟩,
      ⟨(some 9), .mov (.tmp 0), none, [], false⟩,
      ⟨(some 10), .cap (.tmp 9), none, [], false⟩,
      ⟨(some 11), .mov (.tmp 0), none, [], false⟩,
      ⟨(some 12), .lenSl (.tmp 11), none, [], false⟩,
      ⟨(some 13), .bin .sub (so (.binOp .sub 3 (.tmp 10) (.tmp 12) 3) 3) (.tmp 10) (.tmp 12), none, [], false⟩,
      ⟨(some 14), .bin .sub (so (.binOp .sub 3 (.tmp 8) (.tmp 13) 3) 3) (.tmp 8) (.tmp 13), none, [], false⟩,
      ⟨(some 1), .mov (.tmp 14), none, [], false⟩]) (.seq (.region [
      ⟨(some 15), .mov (.tmp 1), none, [], false⟩,
      ⟨(some 16), .bin .gtr (so (.binOp .gtr 3 (.tmp 15) (.const (.int .i64 0)) 3) 4) (.tmp 15) (.const (.int .i64 0)), none, [], false⟩]) (.cond (.tmp 16)
    (.region [
      ⟨(some 17), .mov (.tmp 0), none, [], false⟩,
      ⟨(some 18), .mov (.tmp 0), none, [], false⟩,
      ⟨(some 19), .cap (.tmp 18), none, [], false⟩,
      ⟨(some 20), .sliceSl 1 (.tmp 17) none (some (.tmp 19)) none, none, [], false⟩,
      ⟨(some 21), .mov (.tmp 1), none, [], false⟩,
      ⟨(some 22), .append 5 1 1 [(.int .u8 0)] true (.tmp 20) (.tmp 21), none, [], false⟩,
      ⟨(some 23), .mov (.tmp 0), none, [], false⟩,
      ⟨(some 24), .lenSl (.tmp 23), none, [], false⟩,
      ⟨(some 25), .sliceSl 1 (.tmp 22) none (some (.tmp 24)) none, none, [], false⟩,
      ⟨(some 0), .mov (.tmp 25), none, [], false⟩])
    .skip))) (.seq (.region [
      ⟨(some 26), .mov (.tmp 0), none, [], false⟩,
      ⟨(some 4), .mov (.tmp 26), none, [], false⟩]) .ret))))
noncomputable def slices_Grow___byte_byte_ : AFunc := ⟨27, [(4, none)], slices_Grow___byte_byte__c, none⟩
theorem slices_Grow___byte_byte__t0 : tableOf Try.prog 70 = some slices_Grow___byte_byte_ := by kernel_rfl
theorem slices_Grow___byte_byte__t : T0 70 = some slices_Grow___byte_byte_ := withKept_t rfl (withTrue_t rfl slices_Grow___byte_byte__t0)


/-! 71 strings.IndexByte -/
abbrev fn_strings_IndexByte : FuncId := 71
noncomputable def strings_IndexByte_c : ACode :=
  (.seq (.region [
      ⟨(some 4), .mov (.const (.int .i64 0)), none, [], false⟩]) (.seq (.region [
      ⟨(some 5), .mov (.tmp 0), none, [], false⟩,
      ⟨(some 6), .mov (.tmp 1), none, [], false⟩,
      ⟨(some 7), .callV (.func 76) [(.tmp 5), (.tmp 6)], none, [], false⟩,
      ⟨(some 4), .mov (.tmp 7), none, [], false⟩]) .ret))
noncomputable def strings_IndexByte : AFunc := ⟨8, [(4, none)], strings_IndexByte_c, none⟩
theorem strings_IndexByte_t0 : tableOf Try.prog 71 = some strings_IndexByte := by kernel_rfl
theorem strings_IndexByte_t : T0 71 = some strings_IndexByte := withKept_t rfl (withTrue_t rfl strings_IndexByte_t0)


/-! 72 unicode/utf8.ValidRune -/
abbrev fn_unicode_utf8_ValidRune : FuncId := 72
noncomputable def unicode_utf8_ValidRune_c : ACode :=
  (.seq (.region [
      ⟨(some 2), .mov (.const (.bool false)), none, [], false⟩]) (.seq (.block 0 (.seq (.region [
      ⟨(some 4), .mov (.tmp 0), none, [], false⟩,
      ⟨(some 5), .bin .leq (so (.binOp .leq 21 (.const (.int .i32 0)) (.tmp 4) 21) 4) (.const (.int .i32 0)) (.tmp 4), none, [], false⟩,
      ⟨(some 6), .mov (.tmp 5), none, [], false⟩,
      ⟨(some 7), .mov (.tmp 0), (some (6, true)), [], false⟩,
      ⟨(some 8), .bin .lss (so (.binOp .lss 21 (.tmp 7) (.const (.int .i32 55296)) 21) 4) (.tmp 7) (.const (.int .i32 55296)), (some (6, true)), [], false⟩,
      ⟨(some 9), .pick (.tmp 6) (.tmp 8) (.const (.bool false)), none, [], false⟩,
      ⟨(some 3), .mov (.tmp 9), none, [], false⟩]) (.cond (.tmp 3)
    (.seq (.region [
      ⟨(some 2), .mov (.const (.bool true)), none, [], false⟩]) .ret)
    (.seq (.region [
      ⟨(some 11), .mov (.tmp 0), none, [], false⟩,
      ⟨(some 12), .bin .lss (so (.binOp .lss 21 (.const (.int .i32 57343)) (.tmp 11) 21) 4) (.const (.int .i32 57343)) (.tmp 11), none, [], false⟩,
      ⟨(some 13), .mov (.tmp 12), none, [], false⟩,
      ⟨(some 14), .mov (.tmp 0), (some (13, true)), [], false⟩,
      ⟨(some 15), .bin .leq (so (.binOp .leq 21 (.tmp 14) (.const (.int .i32 1114111)) 21) 4) (.tmp 14) (.const (.int .i32 1114111)), (some (13, true)), [], false⟩,
      ⟨(some 16), .pick (.tmp 13) (.tmp 15) (.const (.bool false)), none, [], false⟩,
      ⟨(some 10), .mov (.tmp 16), none, [], false⟩]) (.cond (.tmp 10)
    (.seq (.region [
      ⟨(some 2), .mov (.const (.bool true)), none, [], false⟩]) .ret)
    .skip))))) (.seq (.region [
      ⟨(some 2), .mov (.const (.bool false)), none, [], false⟩]) .ret)))
noncomputable def unicode_utf8_ValidRune : AFunc := ⟨17, [(2, none)], unicode_utf8_ValidRune_c, none⟩
theorem unicode_utf8_ValidRune_t0 : tableOf Try.prog 72 = some unicode_utf8_ValidRune := by kernel_rfl
theorem unicode_utf8_ValidRune_t : T0 72 = some unicode_utf8_ValidRune := withKept_t rfl (withTrue_t rfl unicode_utf8_ValidRune_t0)


/-! 73 internal/bytealg.Cutover -/
abbrev fn_internal_bytealg_Cutover : FuncId := 73
noncomputable def internal_bytealg_Cutover_c : ACode :=
  (.seq (.region [
      ⟨(some 2), .mov (.const (.int .i64 0)), none, [], false⟩]) (.seq (.region [
      ⟨(some 3), .mov (.tmp 0), none, [], false⟩,
      ⟨(some 4), .bin .add (so (.binOp .add 3 (.tmp 3) (.const (.int .i64 16)) 3) 3) (.tmp 3) (.const (.int .i64 16)), none, [], false⟩,
      ⟨(some 5), .bin .quo (so (.binOp .quo 3 (.tmp 4) (.const (.int .i64 8)) 3) 3) (.tmp 4) (.const (.int .i64 8)), none, [], false⟩,
      ⟨(some 2), .mov (.tmp 5), none, [], false⟩]) .ret))
noncomputable def internal_bytealg_Cutover : AFunc := ⟨6, [(2, none)], internal_bytealg_Cutover_c, none⟩
theorem internal_bytealg_Cutover_t0 : tableOf Try.prog 73 = some internal_bytealg_Cutover := by kernel_rfl
theorem internal_bytealg_Cutover_t : T0 73 = some internal_bytealg_Cutover := withKept_t rfl (withTrue_t rfl internal_bytealg_Cutover_t0)


/-! 75 math/bits.RotateLeft32 -/
abbrev fn_math_bits_RotateLeft32 : FuncId := 75
noncomputable def math_bits_RotateLeft32_c : ACode :=
  (.seq (.region [
      ⟨(some 4), .mov (.const (.int .u32 0)), none, [], false⟩]) (.seq (.region [
      ⟨(some 6), .mov (.tmp 1), none, [], false⟩,
      ⟨(some 7), .conv .u64 (so (.convert 3 134 (.tmp 6)) 134) (.tmp 6), none, [], false⟩,
      ⟨(some 8), .bin .and (so (.binOp .and 134 (.tmp 7) (.const (.int .u64 31)) 134) 134) (.tmp 7) (.const (.int .u64 31)), none, [], false⟩,
      ⟨(some 5), .mov (.tmp 8), none, [], false⟩]) (.seq (.region [
      ⟨(some 9), .mov (.tmp 0), none, [], false⟩,
      ⟨(some 10), .mov (.tmp 5), none, [], false⟩,
      ⟨(some 11), .bin .shl (so (.binOp .shl 119 (.tmp 9) (.tmp 10) 134) 119) (.tmp 9) (.tmp 10), none, [], false⟩,
      ⟨(some 12), .mov (.tmp 0), none, [], false⟩,
      ⟨(some 13), .mov (.tmp 5), none, [], false⟩,
      ⟨(some 14), .bin .sub (so (.binOp .sub 134 (.const (.int .u64 32)) (.tmp 13) 134) 134) (.const (.int .u64 32)) (.tmp 13), none, [], false⟩,
      ⟨(some 15), .bin .shr (so (.binOp .shr 119 (.tmp 12) (.tmp 14) 134) 119) (.tmp 12) (.tmp 14), none, [], false⟩,
      ⟨(some 16), .bin .or (so (.binOp .or 119 (.tmp 11) (.tmp 15) 119) 119) (.tmp 11) (.tmp 15), none, [], false⟩,
      ⟨(some 4), .mov (.tmp 16), none, [], false⟩]) .ret)))
noncomputable def math_bits_RotateLeft32 : AFunc := ⟨17, [(4, none)], math_bits_RotateLeft32_c, none⟩
theorem math_bits_RotateLeft32_t0 : tableOf Try.prog 75 = some math_bits_RotateLeft32 := by kernel_rfl
theorem math_bits_RotateLeft32_t : T0 75 = some math_bits_RotateLeft32 := withKept_t rfl (withTrue_t rfl math_bits_RotateLeft32_t0)


/-! 76 internal/stringslite.IndexByte -/
abbrev fn_internal_stringslite_IndexByte : FuncId := 76
noncomputable def internal_stringslite_IndexByte_c : ACode :=
  (.seq (.region [
      ⟨(some 4), .mov (.const (.int .i64 0)), none, [], false⟩]) (.seq (.region [
      ⟨(some 5), .mov (.tmp 0), none, [], false⟩,
      ⟨(some 6), .mov (.tmp 1), none, [], false⟩,
      ⟨(some 7), .ext .indexByte (.func 77) [(.tmp 5), (.tmp 6)], none, [], false⟩,
      ⟨(some 4), .mov (.tmp 7), none, [], false⟩]) .ret))
noncomputable def internal_stringslite_IndexByte : AFunc := ⟨8, [(4, none)], internal_stringslite_IndexByte_c, none⟩
theorem internal_stringslite_IndexByte_t0 : tableOf Try.prog 76 = some internal_stringslite_IndexByte := by kernel_rfl
theorem internal_stringslite_IndexByte_t : T0 76 = some internal_stringslite_IndexByte := withKept_t rfl (withTrue_t rfl internal_stringslite_IndexByte_t0)


noncomputable def table : TT :=
  (.node (.node (.node (.node (.node (.node .nil 7 landfalllaw25_awake .nil) 9 cross_Cross_Say (.node .nil 10 cross_Cross_Leave .nil)) 11 cross_Cross_Result (.node (.node .nil 13 cross_Cross_All .nil) 15 landfalllaw25_first (.node .nil 16 landfalllaw25_at .nil))) 17 cross_New (.node (.node (.node .nil 18 block_Hash .nil) 23 landfallkit_SameInts (.node .nil 24 cross_Cross_all .nil)) 25 cross_own (.node (.node .nil 26 cross_Cross_may .nil) 27 cross_Cross_off .nil))) 28 cross_one_cross_witness_ (.node (.node (.node (.node .nil 29 cross_are .nil) 32 header_Hash (.node .nil 33 cross_Cross_all_1 .nil)) 34 slices_Clone___api_Vote_api_Vote_ (.node (.node .nil 35 slices_Clone___api_Validator_api_Validator_ .nil) 36 cross_are_1 (.node .nil 38 header_Encode .nil))) 39 blake_Sum (.node (.node (.node .nil 40 header_Check .nil) 41 wire_NewWriter (.node .nil 42 wire_Writer_Text .nil)) 43 wire_Writer_Num (.node (.node .nil 44 header_hashes .nil) 45 wire_Writer_Hash .nil)))) 46 wire_Writer_Done (.node (.node (.node (.node (.node .nil 47 blake_New .nil) 48 blake_State_Write (.node .nil 49 blake_State_Sum .nil)) 50 header_rules (.node (.node .nil 51 wire_Writer_Bytes .nil) 52 wire_Writer_put (.node .nil 53 wire_number .nil))) 54 slices_Clone___byte_byte_ (.node (.node (.node .nil 55 blake_begin .nil) 56 blake_State_none (.node .nil 57 blake_counter_take .nil)) 58 blake_words_block (.node (.node .nil 59 blake_State_Len .nil) 60 header_rules_1 .nil))) 61 header_Name (.node (.node (.node (.node .nil 62 header_rules_2 .nil) 63 header_rules_3 (.node .nil 64 slices_Concat___byte_byte_ .nil)) 65 strings_IndexRune (.node (.node .nil 66 blake_mix .nil) 67 blake_counter_Len (.node .nil 68 header_each .nil))) 69 header_plain (.node (.node (.node .nil 70 slices_Grow___byte_byte_ .nil) 71 strings_IndexByte (.node .nil 72 unicode_utf8_ValidRune .nil)) 73 internal_bytealg_Cutover (.node (.node .nil 75 math_bits_RotateLeft32 .nil) 76 internal_stringslite_IndexByte .nil)))))
theorem table_all : table.All Try.prog := ⟨wire_Writer_Done_t0, ⟨cross_one_cross_witness__t0, ⟨cross_New_t0, ⟨cross_Cross_Result_t0, ⟨cross_Cross_Say_t0, ⟨landfalllaw25_awake_t0, trivial, trivial⟩, ⟨cross_Cross_Leave_t0, trivial, trivial⟩⟩, ⟨landfalllaw25_first_t0, ⟨cross_Cross_All_t0, trivial, trivial⟩, ⟨landfalllaw25_at_t0, trivial, trivial⟩⟩⟩, ⟨cross_own_t0, ⟨landfallkit_SameInts_t0, ⟨block_Hash_t0, trivial, trivial⟩, ⟨cross_Cross_all_t0, trivial, trivial⟩⟩, ⟨cross_Cross_off_t0, ⟨cross_Cross_may_t0, trivial, trivial⟩, trivial⟩⟩⟩, ⟨blake_Sum_t0, ⟨slices_Clone___api_Vote_api_Vote__t0, ⟨header_Hash_t0, ⟨cross_are_t0, trivial, trivial⟩, ⟨cross_Cross_all_1_t0, trivial, trivial⟩⟩, ⟨cross_are_1_t0, ⟨slices_Clone___api_Validator_api_Validator__t0, trivial, trivial⟩, ⟨header_Encode_t0, trivial, trivial⟩⟩⟩, ⟨wire_Writer_Num_t0, ⟨wire_NewWriter_t0, ⟨header_Check_t0, trivial, trivial⟩, ⟨wire_Writer_Text_t0, trivial, trivial⟩⟩, ⟨wire_Writer_Hash_t0, ⟨header_hashes_t0, trivial, trivial⟩, trivial⟩⟩⟩⟩, ⟨header_Name_t0, ⟨slices_Clone___byte_byte__t0, ⟨header_rules_t0, ⟨blake_State_Write_t0, ⟨blake_New_t0, trivial, trivial⟩, ⟨blake_State_Sum_t0, trivial, trivial⟩⟩, ⟨wire_Writer_put_t0, ⟨wire_Writer_Bytes_t0, trivial, trivial⟩, ⟨wire_number_t0, trivial, trivial⟩⟩⟩, ⟨blake_words_block_t0, ⟨blake_State_none_t0, ⟨blake_begin_t0, trivial, trivial⟩, ⟨blake_counter_take_t0, trivial, trivial⟩⟩, ⟨header_rules_1_t0, ⟨blake_State_Len_t0, trivial, trivial⟩, trivial⟩⟩⟩, ⟨header_plain_t0, ⟨strings_IndexRune_t0, ⟨header_rules_3_t0, ⟨header_rules_2_t0, trivial, trivial⟩, ⟨slices_Concat___byte_byte__t0, trivial, trivial⟩⟩, ⟨blake_counter_Len_t0, ⟨blake_mix_t0, trivial, trivial⟩, ⟨header_each_t0, trivial, trivial⟩⟩⟩, ⟨internal_bytealg_Cutover_t0, ⟨strings_IndexByte_t0, ⟨slices_Grow___byte_byte__t0, trivial, trivial⟩, ⟨unicode_utf8_ValidRune_t0, trivial, trivial⟩⟩, ⟨internal_stringslite_IndexByte_t0, ⟨math_bits_RotateLeft32_t0, trivial, trivial⟩, trivial⟩⟩⟩⟩⟩
end Go.Proofs.Ytlckmpioipiihaa.R
