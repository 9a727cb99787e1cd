/- Functions of the program, as the machine has them: written by a program of mine (GenVm.lean), each held against the given program by the kernel. -/
import Derived.Test.YtninaabbojcdpaaGreatRows
import Derived.Test.YtninaabbojcdpaaGreatVm42
set_option maxRecDepth 100000
set_option linter.unusedVariables false
namespace Go.Proofs.YtninaabbojcdpaaGreat.A
open Go Go.Vm

abbrev ty_internal_abi_BoundsErrorCode : TypeId := 6
abbrev ty_runtime_boundsError : TypeId := 8
abbrev ty_runtime_errorString : TypeId := 10
abbrev ty_runtime_plainError : TypeId := 11
abbrev ty_runtime_errorAddressString : TypeId := 14
abbrev ty_internal_runtime_maps_unhashableTypeError : TypeId := 19
abbrev ty_api_Ask : TypeId := 26
abbrev ty_api_Hash : TypeId := 28
abbrev ty_api_Header : TypeId := 30
abbrev ty_api_Commit : TypeId := 33
abbrev ty_api_Block : TypeId := 36
abbrev ty_api_Answer : TypeId := 38
abbrev ty_api_Msg : TypeId := 40
abbrev ty_api_Errno : TypeId := 41
abbrev ty_api_Fault : TypeId := 43
abbrev ty_msg_wrong : TypeId := 66
abbrev ty_msg_reader : TypeId := 72
abbrev ty_landfallref04_Reader : TypeId := 82
abbrev ty_iter_Seq_api_Errno_ : TypeId := 99
abbrev ty_wire_Reader : TypeId := 111
abbrev ty_api_Key : TypeId := 130
abbrev ty_api_Validator : TypeId := 132
abbrev ty_api_Vote : TypeId := 134
abbrev ty_msg_told : TypeId := 136
abbrev ty_landfallref04_Writer : TypeId := 140
abbrev ty_wire_Writer : TypeId := 149
abbrev ty_wire_wrong : TypeId := 162
abbrev ty_msg_ask : TypeId := 168
abbrev ty_msg_answer : TypeId := 169
abbrev ty_header_rule : TypeId := 175
abbrev ty_vals_look : TypeId := 177
abbrev ty_runtime_TypeAssertionError : TypeId := 207
abbrev ty_runtime_PanicNilError : TypeId := 210
abbrev ty_internal_abi_TFlag : TypeId := 212
abbrev ty_internal_abi_Kind : TypeId := 213
abbrev ty_internal_abi_NameOff : TypeId := 216
abbrev ty_internal_abi_TypeOff : TypeId := 217
abbrev ty_internal_abi_Type : TypeId := 219
instance : IsIface Tryz.prog 20 := ⟨by kernel_rfl⟩
instance : IsIface Tryz.prog 135 := ⟨by kernel_rfl⟩
instance : IsIface Tryz.prog 136 := ⟨by kernel_rfl⟩
/-- functions that are known to come to true -/
abbrev prims : List FuncId := []
noncomputable def T0 : Table := withTrue Tryz.prog prims
instance : IsBoolT Tryz.prog 4 := ⟨by kernel_rfl⟩
instance : TLeaves Tryz.prog 7 (.i .i64 :: (.i .i64 :: (.b :: (.i .u8 :: [])))) := ⟨by kernel_rfl, by kernel_rfl, by kernel_rfl⟩
instance : TLeaves Tryz.prog 8 (.i .i64 :: (.i .i64 :: (.b :: (.i .u8 :: [])))) := ⟨by kernel_rfl, by kernel_rfl, by kernel_rfl⟩
instance : TLeaves Tryz.prog 25 (.i .i64 :: (.i .i64 :: [])) := ⟨by kernel_rfl, by kernel_rfl, by kernel_rfl⟩
instance : TLeaves Tryz.prog 26 (.i .i64 :: (.i .i64 :: [])) := ⟨by kernel_rfl, by kernel_rfl, by kernel_rfl⟩
instance : TLeaves Tryz.prog 27 (u8s 32) := ⟨by kernel_rfl, by kernel_rfl, by kernel_rfl⟩
instance : TLeaves Tryz.prog 28 (u8s 32) := ⟨by kernel_rfl, by kernel_rfl, by kernel_rfl⟩
instance : TLeaves Tryz.prog 29 (.s :: (.i .i64 :: (.i .i64 :: (u8s 32 ++ (u8s 32 ++ (u8s 32 ++ (u8s 32))))))) := ⟨by kernel_rfl, by kernel_rfl, by kernel_rfl⟩
instance : TLeaves Tryz.prog 30 (.s :: (.i .i64 :: (.i .i64 :: (u8s 32 ++ (u8s 32 ++ (u8s 32 ++ (u8s 32))))))) := ⟨by kernel_rfl, by kernel_rfl, by kernel_rfl⟩
instance : TLeaves Tryz.prog 42 (.i .i64 :: (.i .i64 :: [])) := ⟨by kernel_rfl, by kernel_rfl, by kernel_rfl⟩
instance : TLeaves Tryz.prog 43 (.i .i64 :: (.i .i64 :: [])) := ⟨by kernel_rfl, by kernel_rfl, by kernel_rfl⟩
instance : TLeaves Tryz.prog 65 (.i .i64 :: (.i .i64 :: [])) := ⟨by kernel_rfl, by kernel_rfl, by kernel_rfl⟩
instance : TLeaves Tryz.prog 66 (.i .i64 :: (.i .i64 :: [])) := ⟨by kernel_rfl, by kernel_rfl, by kernel_rfl⟩
instance : TLeaves Tryz.prog 129 (u8s 4) := ⟨by kernel_rfl, by kernel_rfl, by kernel_rfl⟩
instance : TLeaves Tryz.prog 130 (u8s 4) := ⟨by kernel_rfl, by kernel_rfl, by kernel_rfl⟩
instance : TLeaves Tryz.prog 131 (u8s 4 ++ (.i .i64 :: [])) := ⟨by kernel_rfl, by kernel_rfl, by kernel_rfl⟩
instance : TLeaves Tryz.prog 132 (u8s 4 ++ (.i .i64 :: [])) := ⟨by kernel_rfl, by kernel_rfl, by kernel_rfl⟩
instance : TLeaves Tryz.prog 133 (.i .i64 :: (.i .u64 :: [])) := ⟨by kernel_rfl, by kernel_rfl, by kernel_rfl⟩
instance : TLeaves Tryz.prog 134 (.i .i64 :: (.i .u64 :: [])) := ⟨by kernel_rfl, by kernel_rfl, by kernel_rfl⟩
instance : TLeaves Tryz.prog 161 (.i .i64 :: (.i .i64 :: [])) := ⟨by kernel_rfl, by kernel_rfl, by kernel_rfl⟩
instance : TLeaves Tryz.prog 162 (.i .i64 :: (.i .i64 :: [])) := ⟨by kernel_rfl, by kernel_rfl, by kernel_rfl⟩
instance : TLeaves Tryz.prog 168 (.i .i64 :: (.i .i64 :: [])) := ⟨by kernel_rfl, by kernel_rfl, by kernel_rfl⟩
instance : TLeaves Tryz.prog 176 (u8s 4 ++ (.b :: (.i .i64 :: (.i .i64 :: [])))) := ⟨by kernel_rfl, by kernel_rfl, by kernel_rfl⟩
instance : TLeaves Tryz.prog 177 (u8s 4 ++ (.b :: (.i .i64 :: (.i .i64 :: [])))) := ⟨by kernel_rfl, by kernel_rfl, by kernel_rfl⟩
instance : TLeaves Tryz.prog 181 (u8s 4 ++ (u8s 4)) := ⟨by kernel_rfl, by kernel_rfl, by kernel_rfl⟩
instance : TLeaves Tryz.prog 185 (u8s 4 ++ (u8s 4 ++ (.i .u8 :: []))) := ⟨by kernel_rfl, by kernel_rfl, by kernel_rfl⟩

/-! 5 landfall/landfalllaw14.MsgKnown -/
abbrev fn_landfalllaw14_MsgKnown : FuncId := 5
noncomputable def landfalllaw14_MsgKnown_c : ACode :=
  (.seq (.region [
      ⟨(some 0), .mov (.const (.bool false)), none, [], false⟩]) (.seq (.region [
      ⟨(some 2), .buildSlice 5 [(.int .u8 0), (.int .u8 0), (.int .u8 0), (.int .u8 0), (.int .u8 0), (.int .u8 0), (.int .u8 0)] 7 [(0, 1, (.const (.int .u8 1))), (1, 1, (.const (.int .u8 1))), (2, 1, (.const (.int .u8 2))), (3, 1, (.const (.int .u8 1))), (4, 1, (.const (.int .u8 44))), (5, 1, (.const (.int .u8 1))), (6, 1, (.const (.int .u8 1)))], none, [], false⟩,
      ⟨(some 3), .callV (.func 17) [(.const (.int .i64 300)), (.const (.int .i64 1)), (.tmp 2), (.const (.int .i64 0))], none, [], false⟩,
      ⟨(some 4), .mov (.tmp 3), none, [], false⟩,
      ⟨(some 5), .callV (.func 17) [(.const (.int .i64 0)), (.const (.int .i64 1)), (.const (.slice none 0 0)), (.const (.int .i64 3))], (some (4, true)), [], false⟩,
      ⟨(some 6), .pick (.tmp 4) (.tmp 5) (.const (.bool false)), none, [], false⟩,
      ⟨(some 7), .mov (.tmp 6), none, [], false⟩,
      ⟨(some 8), .callV (.func 17) [(.const (.int .i64 1)), (.const (.int .i64 0)), (.const (.slice none 0 0)), (.const (.int .i64 3))], (some (7, true)), [], false⟩,
      ⟨(some 9), .pick (.tmp 7) (.tmp 8) (.const (.bool false)), none, [], false⟩,
      ⟨(some 1), .mov (.tmp 9), none, [], false⟩]) (.seq (.region [
      ⟨(some 10), .callV (.func 9) [], none, [], false⟩,
      ⟨(some 11), .mov (.tmp 10), none, [], false⟩,
      ⟨(some 12), .mov (.tmp 1), (some (11, true)), [], false⟩,
      ⟨(some 13), .pick (.tmp 11) (.tmp 12) (.const (.bool false)), none, [], false⟩,
      ⟨(some 14), .mov (.tmp 13), none, [], false⟩,
      ⟨(some 15), .buildSlice 5 [(.int .u8 0), (.int .u8 0), (.int .u8 0), (.int .u8 0), (.int .u8 0)] 5 [(0, 1, (.const (.int .u8 1))), (1, 1, (.const (.int .u8 1))), (2, 1, (.const (.int .u8 0))), (3, 1, (.const (.int .u8 1))), (4, 1, (.const (.int .u8 1)))], (some (14, true)), [], false⟩,
      ⟨(some 16), .callV (.func 18) [(.const (.int .i64 3)), (.const (.int .i64 2)), (.tmp 15)], (some (14, true)), [], false⟩,
      ⟨(some 17), .pick (.tmp 14) (.tmp 16) (.const (.bool false)), none, [], false⟩,
      ⟨(some 18), .mov (.tmp 17), none, [], false⟩,
      ⟨(some 19), .buildSlice 5 [(.int .u8 0), (.int .u8 0), (.int .u8 0), (.int .u8 0), (.int .u8 0)] 5 [(0, 1, (.const (.int .u8 1))), (1, 1, (.const (.int .u8 1))), (2, 1, (.const (.int .u8 1))), (3, 1, (.const (.int .u8 1))), (4, 1, (.const (.int .u8 0)))], (some (18, true)), [], false⟩,
      ⟨(some 20), .callV (.func 18) [(.const (.int .i64 3)), (.const (.int .i64 4)), (.tmp 19)], (some (18, true)), [], false⟩,
      ⟨(some 21), .pick (.tmp 18) (.tmp 20) (.const (.bool false)), none, [], false⟩,
      ⟨(some 22), .mov (.tmp 21), none, [], false⟩,
      ⟨(some 23), .buildSlice 5 [(.int .u8 0), (.int .u8 0), (.int .u8 0), (.int .u8 0), (.int .u8 0), (.int .u8 0), (.int .u8 0)] 7 [(0, 1, (.const (.int .u8 1))), (1, 1, (.const (.int .u8 2))), (2, 1, (.const (.int .u8 1))), (3, 1, (.const (.int .u8 1))), (4, 1, (.const (.int .u8 1))), (5, 1, (.const (.int .u8 1))), (6, 1, (.const (.int .u8 0)))], (some (22, true)), [], false⟩,
      ⟨(some 24), .callV (.func 18) [(.const (.int .i64 5)), (.const (.int .i64 4)), (.tmp 23)], (some (22, true)), [], false⟩,
      ⟨(some 25), .pick (.tmp 22) (.tmp 24) (.const (.bool false)), none, [], false⟩,
      ⟨(some 26), .mov (.tmp 25), none, [], false⟩,
      ⟨(some 27), .buildSlice 5 [(.int .u8 0), (.int .u8 0), (.int .u8 0), (.int .u8 0), (.int .u8 0), (.int .u8 0), (.int .u8 0)] 7 [(0, 1, (.const (.int .u8 1))), (1, 1, (.const (.int .u8 1))), (2, 1, (.const (.int .u8 1))), (3, 1, (.const (.int .u8 1))), (4, 1, (.const (.int .u8 1))), (5, 1, (.const (.int .u8 2))), (6, 1, (.const (.int .u8 0)))], (some (26, true)), [], false⟩,
      ⟨(some 28), .callV (.func 18) [(.const (.int .i64 4)), (.const (.int .i64 6)), (.tmp 27)], (some (26, true)), [], false⟩,
      ⟨(some 29), .pick (.tmp 26) (.tmp 28) (.const (.bool false)), none, [], false⟩,
      ⟨(some 0), .mov (.tmp 29), none, [], false⟩]) .ret)))
noncomputable def landfalllaw14_MsgKnown : AFunc := ⟨30, [(0, none)], landfalllaw14_MsgKnown_c, none⟩
theorem landfalllaw14_MsgKnown_t0 : tableOf Tryz.prog 5 = some landfalllaw14_MsgKnown := by kernel_rfl
theorem landfalllaw14_MsgKnown_t : T0 5 = some landfalllaw14_MsgKnown := withTrue_t rfl landfalllaw14_MsgKnown_t0


/-! 9 landfall/landfalllaw14.awake -/
abbrev fn_landfalllaw14_awake : FuncId := 9
noncomputable def landfalllaw14_awake_c : ACode :=
  (.seq (.region [
      ⟨(some 0), .mov (.const (.bool false)), none, [], false⟩]) (.seq (.region [
      ⟨(some 4), .buildSlice 5 [(.int .u8 0), (.int .u8 0), (.int .u8 0), (.int .u8 0), (.int .u8 0), (.int .u8 0)] 6 [(0, 1, (.const (.int .u8 1))), (1, 1, (.const (.int .u8 1))), (2, 1, (.const (.int .u8 1))), (3, 1, (.const (.int .u8 1))), (4, 1, (.const (.int .u8 1))), (5, 1, (.const (.int .u8 2)))], none, [], false⟩,
      ⟨(some 5), .callV (.func 11) [(.tmp 4)], none, [], false⟩,
      ⟨(some 3), .mov (.tmp 5), none, [], false⟩,
      ⟨(some 6), .extract 0 (.tmp 3), none, [], false⟩,
      ⟨(some 7), .extract 1 (.tmp 3), none, [], false⟩,
      ⟨(some 1), .alloc 40 ((.int .i64 0) :: ((.int .i64 0) :: ((.int .i64 0) :: ((.int .i64 0) :: ((.string ⟨⟨[]⟩⟩) :: ((.int .i64 0) :: ((.int .i64 0) :: (z32 ++ (z32 ++ (z32 ++ (z32 ++ ((.int .i64 0) :: (z32 ++ [(.slice none 0 0), (.slice none 0 0)]))))))))))))), none, [], false⟩,
      ⟨(some 2), .alloc 43 [(.int .i64 0), (.int .i64 0)], none, [], false⟩,
      ⟨none, .store 170 (.tmp 1) (.tmp 6), none, [], false⟩,
      ⟨none, .store 2 (.tmp 2) (.tmp 7), none, [], false⟩]) (.seq (.region [
      ⟨(some 8), .buildSlice 5 [(.int .u8 0), (.int .u8 0), (.int .u8 0), (.int .u8 0), (.int .u8 0), (.int .u8 0)] 6 [(0, 1, (.const (.int .u8 1))), (1, 1, (.const (.int .u8 1))), (2, 1, (.const (.int .u8 1))), (3, 1, (.const (.int .u8 1))), (4, 1, (.const (.int .u8 1))), (5, 1, (.const (.int .u8 2)))], none, [], false⟩,
      ⟨(some 9), .callV (.func 17) [(.const (.int .i64 1)), (.const (.int .i64 2)), (.tmp 8), (.const (.int .i64 0))], none, [], false⟩,
      ⟨(some 10), .mov (.tmp 9), none, [], false⟩,
      ⟨(some 11), .load (some 170) (.tmp 1), (some (10, true)), [], false⟩,
      ⟨(some 12), .build [(.int .i64 0), (.int .i64 0)] [(0, 1, (.const (.int .i64 1))), (1, 1, (.const (.int .i64 2)))], (some (10, true)), [], false⟩,
      ⟨(some 13), .build ((.int .i64 0) :: ((.int .i64 0) :: ((.int .i64 0) :: ((.int .i64 0) :: ((.string ⟨⟨[]⟩⟩) :: ((.int .i64 0) :: ((.int .i64 0) :: (z32 ++ (z32 ++ (z32 ++ (z32 ++ ((.int .i64 0) :: (z32 ++ [(.slice none 0 0), (.slice none 0 0)]))))))))))))) [(0, 1, (.const (.int .i64 1))), (1, 2, (.tmp 12))], (some (10, true)), [], false⟩,
      ⟨(some 14), .callV (.func 13) [(.tmp 11), (.tmp 13)], (some (10, true)), [], false⟩,
      ⟨(some 15), .pick (.tmp 10) (.tmp 14) (.const (.bool false)), none, [], false⟩,
      ⟨(some 16), .mov (.tmp 15), none, [], false⟩,
      ⟨(some 17), .load (some 2) (.tmp 2), (some (16, true)), [], false⟩,
      ⟨(some 18), .build [(.int .i64 0), (.int .i64 0)] [], (some (16, true)), [], false⟩,
      ⟨(some 19), .bin .eql (so (.binOp .eql 43 (.tmp 17) (.tmp 18) 43) 4) (.tmp 17) (.tmp 18), (some (16, true)), [], false⟩,
      ⟨(some 20), .pick (.tmp 16) (.tmp 19) (.const (.bool false)), none, [], false⟩,
      ⟨(some 21), .mov (.tmp 20), none, [], false⟩,
      ⟨(some 22), .buildSlice 5 [(.int .u8 0), (.int .u8 0)] 2 [(0, 1, (.const (.int .u8 1))), (1, 1, (.const (.int .u8 3)))], (some (21, true)), [], false⟩,
      ⟨(some 23), .callV (.func 18) [(.const (.int .i64 5)), (.const (.int .i64 0)), (.tmp 22)], (some (21, true)), [], false⟩,
      ⟨(some 24), .pick (.tmp 21) (.tmp 23) (.const (.bool false)), none, [], false⟩,
      ⟨(some 0), .mov (.tmp 24), none, [], false⟩]) .ret)))
noncomputable def landfalllaw14_awake : AFunc := ⟨25, [(0, none)], landfalllaw14_awake_c, none⟩
theorem landfalllaw14_awake_t0 : tableOf Tryz.prog 9 = some landfalllaw14_awake := by kernel_rfl
theorem landfalllaw14_awake_t : T0 9 = some landfalllaw14_awake := withTrue_t rfl landfalllaw14_awake_t0


/-! 11 landfall/msg.Decode -/
abbrev fn_msg_Decode : FuncId := 11
noncomputable def msg_Decode_c : ACode :=
  (.seq (.region [
      ⟨(some 2), .alloc 40 ((.int .i64 0) :: ((.int .i64 0) :: ((.int .i64 0) :: ((.int .i64 0) :: ((.string ⟨⟨[]⟩⟩) :: ((.int .i64 0) :: ((.int .i64 0) :: (z32 ++ (z32 ++ (z32 ++ (z32 ++ ((.int .i64 0) :: (z32 ++ [(.slice none 0 0), (.slice none 0 0)]))))))))))))), none, [], false⟩,
      ⟨(some 3), .alloc 43 [(.int .i64 0), (.int .i64 0)], none, [], false⟩]) (.seq (.region [
      ⟨(some 10), .mkFunc (.func 30) [] [(.tmp 2), (.tmp 3)], none, [], false⟩,
      ⟨none, .defer (.tmp 10) [], none, [], false⟩]) (.seq (.region [
      ⟨(some 11), .mov (.tmp 0), none, [], false⟩,
      ⟨(some 12), .lenSl (.tmp 11), none, [], false⟩,
      ⟨(some 13), .bin .leq (so (.binOp .leq 3 (.tmp 12) (.const (.int .i64 65536)) 3) 4) (.tmp 12) (.const (.int .i64 65536)), none, [], false⟩,
      ⟨(some 14), .callV (.func 31) [(.tmp 13), (.const (.int .i64 4)), (.const (.int .i64 65536))], none, [], false⟩]) (.seq (.region [
      ⟨(some 15), .mov (.tmp 0), none, [], false⟩,
      ⟨(some 16), .callV (.func 32) [(.tmp 15)], none, [], false⟩,
      ⟨(some 17), .mov (.tmp 0), none, [], false⟩,
      ⟨(some 18), .lenSl (.tmp 17), none, [], false⟩,
      ⟨(some 19), .build [(.pointer none), (.int .i64 0)] [(0, 1, (.tmp 16)), (1, 1, (.tmp 18))], none, [], false⟩,
      ⟨(some 4), .alloc 72 [(.pointer none), (.int .i64 0)], none, [], false⟩,
      ⟨none, .store 2 (.tmp 4) (.tmp 19), none, [], false⟩]) (.seq (.region [
      ⟨(some 20), .fieldAddr 0 (.tmp 4), none, [], false⟩,
      ⟨(some 21), .load none (.tmp 20), none, [], false⟩,
      ⟨(some 22), .callV (.func 33) [(.tmp 21)], none, [], false⟩,
      ⟨(some 23), .fieldAddr 0 (.tmp 2), none, [], false⟩,
      ⟨none, .store 1 (.tmp 23) (.tmp 22), none, [], false⟩]) (.seq (.region [
      ⟨(some 24), .load (some 2) (.tmp 4), none, [], false⟩,
      ⟨(some 25), .callV (.func 34) [(.tmp 24)], none, [], false⟩]) (.seq (.region [
      ⟨(some 26), .fieldAddr 0 (.tmp 2), none, [], false⟩,
      ⟨(some 27), .load none (.tmp 26), none, [], false⟩,
      ⟨(some 28), .bin .eql (so (.binOp .eql 3 (.tmp 27) (.const (.int .i64 1)) 3) 4) (.tmp 27) (.const (.int .i64 1)), none, [], false⟩,
      ⟨(some 29), .mov (.tmp 28), none, [], false⟩,
      ⟨(some 30), .fieldAddr 0 (.tmp 2), (some (29, false)), [], false⟩,
      ⟨(some 31), .load none (.tmp 30), (some (29, false)), [], false⟩,
      ⟨(some 32), .bin .eql (so (.binOp .eql 3 (.tmp 31) (.const (.int .i64 2)) 3) 4) (.tmp 31) (.const (.int .i64 2)), (some (29, false)), [], false⟩,
      ⟨(some 33), .pick (.tmp 29) (.const (.bool true)) (.tmp 32), none, [], false⟩,
      ⟨(some 34), .callV (.func 31) [(.tmp 33), (.const (.int .i64 5)), (.const (.int .i64 0))], none, [], false⟩]) (.seq (.region [
      ⟨(some 35), .load (some 2) (.tmp 4), none, [], false⟩,
      ⟨(some 36), .callV (.func 35) [(.tmp 35), (.func 36)], none, [], false⟩,
      ⟨(some 5), .mov (.tmp 36), none, [], false⟩]) (.seq (.seq (.region [
      ⟨(some 37), .fieldAddr 0 (.tmp 2), none, [], false⟩,
      ⟨(some 38), .load none (.tmp 37), none, [], false⟩,
      ⟨(some 39), .bin .eql (so (.binOp .eql 3 (.tmp 38) (.const (.int .i64 1)) 3) 4) (.tmp 38) (.const (.int .i64 1)), none, [], false⟩]) (.cond (.tmp 39)
    (.region [
      ⟨(some 40), .mov (.tmp 5), none, [], false⟩,
      ⟨(some 41), .load (some 2) (.tmp 4), none, [], false⟩,
      ⟨(some 42), .callV (.func 35) [(.tmp 41), (.func 37)], none, [], false⟩,
      ⟨(some 43), .build [(.int .i64 0), (.int .i64 0)] [(0, 1, (.tmp 40)), (1, 1, (.tmp 42))], none, [], false⟩,
      ⟨(some 44), .fieldAddr 1 (.tmp 2), none, [], false⟩,
      ⟨none, .store 2 (.tmp 44) (.tmp 43), none, [], false⟩])
    (.seq (.region [
      ⟨(some 45), .load (some 2) (.tmp 4), none, [], false⟩,
      ⟨(some 46), .callV (.func 38) [(.tmp 45)], none, [], false⟩,
      ⟨(some 6), .mov (.tmp 46), none, [], false⟩]) (.seq (.region [
      ⟨(some 47), .fieldAddr 0 (.tmp 4), none, [], false⟩,
      ⟨(some 48), .load none (.tmp 47), none, [], false⟩,
      ⟨(some 49), .callV (.func 39) [(.tmp 48), (.const (.int .i64 65536))], none, [], false⟩,
      ⟨(some 7), .mov (.tmp 49), none, [], false⟩]) (.seq (.region [
      ⟨(some 50), .load (some 2) (.tmp 4), none, [], false⟩,
      ⟨(some 51), .callV (.func 34) [(.tmp 50)], none, [], false⟩]) (.seq (.region [
      ⟨(some 53), .mov (.tmp 7), none, [], false⟩,
      ⟨(some 54), .callV (.func 40) [(.tmp 53)], none, [], false⟩,
      ⟨(some 52), .mov (.tmp 54), none, [], false⟩,
      ⟨(some 55), .extract 0 (.tmp 52), none, [], false⟩,
      ⟨(some 56), .extract 1 (.tmp 52), none, [], false⟩,
      ⟨(some 8), .alloc 36 ((.string ⟨⟨[]⟩⟩) :: ((.int .i64 0) :: ((.int .i64 0) :: (z32 ++ (z32 ++ (z32 ++ (z32 ++ ((.int .i64 0) :: (z32 ++ [(.slice none 0 0), (.slice none 0 0)]))))))))), none, [], false⟩,
      ⟨(some 9), .alloc 43 [(.int .i64 0), (.int .i64 0)], none, [], false⟩,
      ⟨none, .store 166 (.tmp 8) (.tmp 55), none, [], false⟩,
      ⟨none, .store 2 (.tmp 9) (.tmp 56), none, [], false⟩]) (.seq (.region [
      ⟨(some 57), .load (some 2) (.tmp 9), none, [], false⟩,
      ⟨(some 58), .build [(.int .i64 0), (.int .i64 0)] [], none, [], false⟩,
      ⟨(some 59), .bin .eql (so (.binOp .eql 43 (.tmp 57) (.tmp 58) 43) 4) (.tmp 57) (.tmp 58), none, [], false⟩,
      ⟨(some 60), .mov (.tmp 6), none, [], false⟩,
      ⟨(some 61), .callV (.func 31) [(.tmp 59), (.const (.int .i64 5)), (.tmp 60)], none, [], false⟩]) (.region [
      ⟨(some 62), .mov (.tmp 5), none, [], false⟩,
      ⟨(some 63), .load (some 166) (.tmp 8), none, [], false⟩,
      ⟨(some 64), .build ((.int .i64 0) :: ((.string ⟨⟨[]⟩⟩) :: ((.int .i64 0) :: ((.int .i64 0) :: (z32 ++ (z32 ++ (z32 ++ (z32 ++ ((.int .i64 0) :: (z32 ++ [(.slice none 0 0), (.slice none 0 0)])))))))))) [(0, 1, (.tmp 62)), (1, 166, (.tmp 63))], none, [], false⟩,
      ⟨(some 65), .fieldAddr 3 (.tmp 2), none, [], false⟩,
      ⟨none, .store 167 (.tmp 65) (.tmp 64), none, [], false⟩])))))))) (.seq (.region [
      ⟨(some 66), .fieldAddr 0 (.tmp 4), none, [], false⟩,
      ⟨(some 67), .load none (.tmp 66), none, [], false⟩,
      ⟨(some 68), .callV (.func 41) [(.tmp 67)], none, [], false⟩,
      ⟨none, .store 2 (.tmp 3) (.tmp 68), none, [], false⟩]) (.seq (.regionD [
      ⟨(some 69), .load (some 2) (.tmp 3), none, [], false⟩,
      ⟨(some 70), .build [(.int .i64 0), (.int .i64 0)] [], none, [], false⟩,
      ⟨(some 71), .bin .eql (so (.binOp .eql 43 (.tmp 69) (.tmp 70) 43) 4) (.tmp 69) (.tmp 70), none, [], false⟩,
      ⟨(some 72), .fieldAddr 0 (.tmp 3), none, [], false⟩,
      ⟨(some 73), .load none (.tmp 72), none, [], false⟩,
      ⟨(some 74), .fieldAddr 1 (.tmp 3), none, [], false⟩,
      ⟨(some 75), .load none (.tmp 74), none, [], false⟩,
      ⟨(some 76), .callV (.func 31) [(.tmp 71), (.tmp 73), (.tmp 75)], none, [], true⟩]) (.seq (.regionD [
      ⟨(some 77), .load (some 170) (.tmp 2), none, [], false⟩,
      ⟨(some 78), .load (some 2) (.tmp 3), none, [], false⟩,
      ⟨none, .store 170 (.tmp 2) (.tmp 77), none, [((some 78), .load (some 2) (.tmp 3), none)], false⟩,
      ⟨none, .store 2 (.tmp 3) (.tmp 78), none, [], true⟩]) .ret))))))))))))
noncomputable def msg_Decode : AFunc := ⟨79, [(2, some (some 170)), (3, some (some 2))], msg_Decode_c, none⟩
theorem msg_Decode_t0 : tableOf Tryz.prog 11 = some msg_Decode := by kernel_rfl
theorem msg_Decode_t : T0 11 = some msg_Decode := withTrue_t rfl msg_Decode_t0


/-! 13 landfall/landfallkit.SameMsg -/
abbrev fn_landfallkit_SameMsg : FuncId := 13
noncomputable def landfallkit_SameMsg_c : ACode :=
  (.seq (.region [
      ⟨(some 2), .box 40 (.tmp 0), none, [], false⟩,
      ⟨(some 3), .box 40 (.tmp 1), none, [], false⟩,
      ⟨(some 4), .mov (.const (.bool false)), none, [], false⟩]) (.seq (.region [
      ⟨(some 5), .fieldAddr 0 (.tmp 2), none, [], false⟩,
      ⟨(some 6), .load none (.tmp 5), none, [], false⟩,
      ⟨(some 7), .fieldAddr 0 (.tmp 3), none, [], false⟩,
      ⟨(some 8), .load none (.tmp 7), none, [], false⟩,
      ⟨(some 9), .bin .eql (so (.binOp .eql 3 (.tmp 6) (.tmp 8) 3) 4) (.tmp 6) (.tmp 8), none, [], false⟩,
      ⟨(some 10), .mov (.tmp 9), none, [], false⟩,
      ⟨(some 11), .fieldAddr 1 (.tmp 2), (some (10, true)), [], false⟩,
      ⟨(some 12), .load (some 2) (.tmp 11), (some (10, true)), [], false⟩,
      ⟨(some 13), .fieldAddr 1 (.tmp 3), (some (10, true)), [], false⟩,
      ⟨(some 14), .load (some 2) (.tmp 13), (some (10, true)), [], false⟩,
      ⟨(some 15), .bin .eql (so (.binOp .eql 26 (.tmp 12) (.tmp 14) 26) 4) (.tmp 12) (.tmp 14), (some (10, true)), [], false⟩,
      ⟨(some 16), .pick (.tmp 10) (.tmp 15) (.const (.bool false)), none, [], false⟩,
      ⟨(some 17), .mov (.tmp 16), none, [], false⟩,
      ⟨(some 18), .fieldAddr 3 (.tmp 2), (some (17, true)), [], false⟩,
      ⟨(some 19), .fieldAddr 0 (.tmp 18), (some (17, true)), [], false⟩,
      ⟨(some 20), .load none (.tmp 19), (some (17, true)), [], false⟩,
      ⟨(some 21), .fieldAddr 3 (.tmp 3), (some (17, true)), [], false⟩,
      ⟨(some 22), .fieldAddr 0 (.tmp 21), (some (17, true)), [], false⟩,
      ⟨(some 23), .load none (.tmp 22), (some (17, true)), [], false⟩,
      ⟨(some 24), .bin .eql (so (.binOp .eql 3 (.tmp 20) (.tmp 23) 3) 4) (.tmp 20) (.tmp 23), (some (17, true)), [], false⟩,
      ⟨(some 25), .pick (.tmp 17) (.tmp 24) (.const (.bool false)), none, [], false⟩,
      ⟨(some 26), .mov (.tmp 25), none, [], false⟩,
      ⟨(some 27), .fieldAddr 3 (.tmp 2), (some (26, true)), [], false⟩,
      ⟨(some 28), .fieldAddr 1 (.tmp 27), (some (26, true)), [], false⟩,
      ⟨(some 29), .load (some 166) (.tmp 28), (some (26, true)), [], false⟩,
      ⟨(some 30), .fieldAddr 3 (.tmp 3), (some (26, true)), [], false⟩,
      ⟨(some 31), .fieldAddr 1 (.tmp 30), (some (26, true)), [], false⟩,
      ⟨(some 32), .load (some 166) (.tmp 31), (some (26, true)), [], false⟩,
      ⟨(some 33), .callV (.func 26) [(.tmp 29), (.tmp 32)], (some (26, true)), [], false⟩,
      ⟨(some 34), .pick (.tmp 26) (.tmp 33) (.const (.bool false)), none, [], false⟩,
      ⟨(some 4), .mov (.tmp 34), none, [], false⟩]) .ret))
noncomputable def landfallkit_SameMsg : AFunc := ⟨35, [(4, none)], landfallkit_SameMsg_c, none⟩
theorem landfallkit_SameMsg_t0 : tableOf Tryz.prog 13 = some landfallkit_SameMsg := by kernel_rfl
theorem landfallkit_SameMsg_t : T0 13 = some landfallkit_SameMsg := withTrue_t rfl landfallkit_SameMsg_t0


/-! 17 landfall/landfalllaw14.asks -/
abbrev fn_landfalllaw14_asks : FuncId := 17
noncomputable def landfalllaw14_asks_c : ACode :=
  (.seq (.region [
      ⟨(some 8), .mov (.const (.bool false)), none, [], false⟩]) (.seq (.region [
      ⟨(some 12), .mov (.tmp 0), none, [], false⟩,
      ⟨(some 13), .mov (.tmp 1), none, [], false⟩,
      ⟨(some 14), .build [(.int .i64 0), (.int .i64 0)] [(0, 1, (.tmp 12)), (1, 1, (.tmp 13))], none, [], false⟩,
      ⟨(some 15), .callV (.func 21) [(.tmp 14)], none, [], false⟩,
      ⟨(some 11), .mov (.tmp 15), none, [], false⟩,
      ⟨(some 16), .extract 0 (.tmp 11), none, [], false⟩,
      ⟨(some 17), .extract 1 (.tmp 11), none, [], false⟩,
      ⟨(some 9), .mov (.tmp 16), none, [], false⟩,
      ⟨(some 10), .mov (.tmp 17), none, [], false⟩]) (.seq (.region [
      ⟨(some 18), .mov (.tmp 9), none, [], false⟩,
      ⟨(some 19), .mov (.tmp 2), none, [], false⟩,
      ⟨(some 20), .callV (.func 25) [(.tmp 18), (.tmp 19)], none, [], false⟩,
      ⟨(some 21), .mov (.tmp 20), none, [], false⟩,
      ⟨(some 22), .mov (.tmp 10), (some (21, true)), [], false⟩,
      ⟨(some 23), .mov (.tmp 3), (some (21, true)), [], false⟩,
      ⟨(some 24), .bin .eql (so (.binOp .eql 41 (.tmp 22) (.tmp 23) 41) 4) (.tmp 22) (.tmp 23), (some (21, true)), [], false⟩,
      ⟨(some 25), .pick (.tmp 21) (.tmp 24) (.const (.bool false)), none, [], false⟩,
      ⟨(some 8), .mov (.tmp 25), none, [], false⟩]) .ret)))
noncomputable def landfalllaw14_asks : AFunc := ⟨26, [(8, none)], landfalllaw14_asks_c, none⟩
theorem landfalllaw14_asks_t0 : tableOf Tryz.prog 17 = some landfalllaw14_asks := by kernel_rfl
theorem landfalllaw14_asks_t : T0 17 = some landfalllaw14_asks := withTrue_t rfl landfalllaw14_asks_t0


/-! 18 landfall/landfalllaw14.fails -/
abbrev fn_landfalllaw14_fails : FuncId := 18
noncomputable def landfalllaw14_fails_c : ACode :=
  (.seq (.region [
      ⟨(some 6), .mov (.const (.bool false)), none, [], false⟩]) (.seq (.region [
      ⟨(some 10), .mov (.tmp 2), none, [], false⟩,
      ⟨(some 11), .callV (.func 11) [(.tmp 10)], none, [], false⟩,
      ⟨(some 9), .mov (.tmp 11), none, [], false⟩,
      ⟨(some 12), .extract 0 (.tmp 9), none, [], false⟩,
      ⟨(some 13), .extract 1 (.tmp 9), none, [], false⟩,
      ⟨(some 7), .alloc 40 ((.int .i64 0) :: ((.int .i64 0) :: ((.int .i64 0) :: ((.int .i64 0) :: ((.string ⟨⟨[]⟩⟩) :: ((.int .i64 0) :: ((.int .i64 0) :: (z32 ++ (z32 ++ (z32 ++ (z32 ++ ((.int .i64 0) :: (z32 ++ [(.slice none 0 0), (.slice none 0 0)]))))))))))))), none, [], false⟩,
      ⟨(some 8), .alloc 43 [(.int .i64 0), (.int .i64 0)], none, [], false⟩,
      ⟨none, .store 170 (.tmp 7) (.tmp 12), none, [], false⟩,
      ⟨none, .store 2 (.tmp 8) (.tmp 13), none, [], false⟩]) (.seq (.region [
      ⟨(some 14), .load (some 170) (.tmp 7), none, [], false⟩,
      ⟨(some 15), .build ((.int .i64 0) :: ((.int .i64 0) :: ((.int .i64 0) :: ((.int .i64 0) :: ((.string ⟨⟨[]⟩⟩) :: ((.int .i64 0) :: ((.int .i64 0) :: (z32 ++ (z32 ++ (z32 ++ (z32 ++ ((.int .i64 0) :: (z32 ++ [(.slice none 0 0), (.slice none 0 0)]))))))))))))) [], none, [], false⟩,
      ⟨(some 16), .callV (.func 13) [(.tmp 14), (.tmp 15)], none, [], false⟩,
      ⟨(some 17), .mov (.tmp 16), none, [], false⟩,
      ⟨(some 18), .load (some 2) (.tmp 8), (some (17, true)), [], false⟩,
      ⟨(some 19), .mov (.tmp 0), (some (17, true)), [], false⟩,
      ⟨(some 20), .mov (.tmp 1), (some (17, true)), [], false⟩,
      ⟨(some 21), .build [(.int .i64 0), (.int .i64 0)] [(0, 1, (.tmp 19)), (1, 1, (.tmp 20))], (some (17, true)), [], false⟩,
      ⟨(some 22), .bin .eql (so (.binOp .eql 43 (.tmp 18) (.tmp 21) 43) 4) (.tmp 18) (.tmp 21), (some (17, true)), [], false⟩,
      ⟨(some 23), .pick (.tmp 17) (.tmp 22) (.const (.bool false)), none, [], false⟩,
      ⟨(some 6), .mov (.tmp 23), none, [], false⟩]) .ret)))
noncomputable def landfalllaw14_fails : AFunc := ⟨24, [(6, none)], landfalllaw14_fails_c, none⟩
theorem landfalllaw14_fails_t0 : tableOf Tryz.prog 18 = some landfalllaw14_fails := by kernel_rfl
theorem landfalllaw14_fails_t : T0 18 = some landfalllaw14_fails := withTrue_t rfl landfalllaw14_fails_t0


/-! 21 landfall/msg.Ask -/
abbrev fn_msg_Ask : FuncId := 21
noncomputable def msg_Ask_c : ACode :=
  (.seq (.region [
      ⟨(some 1), .box 26 (.tmp 0), none, [], false⟩,
      ⟨(some 2), .mov (.const (.slice none 0 0)), none, [], false⟩,
      ⟨(some 3), .mov (.const (.int .i64 0)), none, [], false⟩]) (.seq (.region [
      ⟨(some 4), .load (some 2) (.tmp 1), none, [], false⟩,
      ⟨(some 5), .mkIface 26 (.tmp 4), none, [], false⟩,
      ⟨(some 6), .callV (.func 54) [(.tmp 5)], none, [], false⟩,
      ⟨(some 7), .extract 0 (.tmp 6), none, [], false⟩,
      ⟨(some 8), .extract 1 (.tmp 6), none, [], false⟩,
      ⟨(some 2), .mov (.tmp 7), none, [], false⟩,
      ⟨(some 3), .mov (.tmp 8), none, [], false⟩]) .ret))
noncomputable def msg_Ask : AFunc := ⟨9, [(2, none), (3, none)], msg_Ask_c, none⟩
theorem msg_Ask_t0 : tableOf Tryz.prog 21 = some msg_Ask := by kernel_rfl
theorem msg_Ask_t : T0 21 = some msg_Ask := withTrue_t rfl msg_Ask_t0


/-! 25 landfall/landfallkit.SameBytes -/
abbrev fn_landfallkit_SameBytes : FuncId := 25
noncomputable def landfallkit_SameBytes_c : ACode :=
  (.seq (.region [
      ⟨(some 4), .mov (.const (.bool false)), none, [], false⟩]) (.seq (.region [
      ⟨(some 5), .mov (.tmp 0), none, [], false⟩,
      ⟨(some 6), .bytesToStr (.tmp 5), none, [], false⟩,
      ⟨(some 7), .mov (.tmp 1), none, [], false⟩,
      ⟨(some 8), .bytesToStr (.tmp 7), none, [], false⟩,
      ⟨(some 9), .bin .eql (so (.binOp .eql 9 (.tmp 6) (.tmp 8) 9) 4) (.tmp 6) (.tmp 8), none, [], false⟩,
      ⟨(some 4), .mov (.tmp 9), none, [], false⟩]) .ret))
noncomputable def landfallkit_SameBytes : AFunc := ⟨10, [(4, none)], landfallkit_SameBytes_c, none⟩
theorem landfallkit_SameBytes_t0 : tableOf Tryz.prog 25 = some landfallkit_SameBytes := by kernel_rfl
theorem landfallkit_SameBytes_t : T0 25 = some landfallkit_SameBytes := withTrue_t rfl landfallkit_SameBytes_t0


/-! 26 landfall/landfallkit.SameBlock -/
abbrev fn_landfallkit_SameBlock : FuncId := 26
noncomputable def landfallkit_SameBlock_c : ACode :=
  (.seq (.region [
      ⟨(some 2), .box 36 (.tmp 0), none, [], false⟩,
      ⟨(some 3), .box 36 (.tmp 1), none, [], false⟩,
      ⟨(some 4), .mov (.const (.bool false)), none, [], false⟩]) (.seq (.region [
      ⟨(some 5), .fieldAddr 0 (.tmp 2), none, [], false⟩,
      ⟨(some 6), .load (some 131) (.tmp 5), none, [], false⟩,
      ⟨(some 7), .fieldAddr 0 (.tmp 3), none, [], false⟩,
      ⟨(some 8), .load (some 131) (.tmp 7), none, [], false⟩,
      ⟨(some 9), .bin .eql (so (.binOp .eql 30 (.tmp 6) (.tmp 8) 30) 4) (.tmp 6) (.tmp 8), none, [], false⟩,
      ⟨(some 10), .mov (.tmp 9), none, [], false⟩,
      ⟨(some 11), .fieldAddr 131 (.tmp 2), (some (10, true)), [], false⟩,
      ⟨(some 12), .load (some 34) (.tmp 11), (some (10, true)), [], false⟩,
      ⟨(some 13), .fieldAddr 131 (.tmp 3), (some (10, true)), [], false⟩,
      ⟨(some 14), .load (some 34) (.tmp 13), (some (10, true)), [], false⟩,
      ⟨(some 15), .callV (.func 60) [(.tmp 12), (.tmp 14)], (some (10, true)), [], false⟩,
      ⟨(some 16), .pick (.tmp 10) (.tmp 15) (.const (.bool false)), none, [], false⟩,
      ⟨(some 17), .mov (.tmp 16), none, [], false⟩,
      ⟨(some 18), .fieldAddr 165 (.tmp 2), (some (17, true)), [], false⟩,
      ⟨(some 19), .load none (.tmp 18), (some (17, true)), [], false⟩,
      ⟨(some 20), .fieldAddr 165 (.tmp 3), (some (17, true)), [], false⟩,
      ⟨(some 21), .load none (.tmp 20), (some (17, true)), [], false⟩,
      ⟨(some 22), .callV (.func 61) [(.tmp 19), (.tmp 21)], (some (17, true)), [], false⟩,
      ⟨(some 23), .pick (.tmp 17) (.tmp 22) (.const (.bool false)), none, [], false⟩,
      ⟨(some 4), .mov (.tmp 23), none, [], false⟩]) .ret))
noncomputable def landfallkit_SameBlock : AFunc := ⟨24, [(4, none)], landfallkit_SameBlock_c, none⟩
theorem landfallkit_SameBlock_t0 : tableOf Tryz.prog 26 = some landfallkit_SameBlock := by kernel_rfl
theorem landfallkit_SameBlock_t : T0 26 = some landfallkit_SameBlock := withTrue_t rfl landfallkit_SameBlock_t0


/-! 28 landfall/block.Encode -/
abbrev fn_block_Encode : FuncId := 28
noncomputable def block_Encode_l0 : ACode :=
  (.seq (.region [
      ⟨(some 49), .bin .lss (so (.binOp .lss 3 (.tmp 48) (.const (.int .i64 3)) 3) 0) (.tmp 48) (.const (.int .i64 3)), none, [], false⟩]) (.seq (.cond (.tmp 49)
    .skip
    (.exit 0)) (.seq (.block 1 (.seq (.region [
      ⟨(some 50), .index 3 1 none (.tmp 47) (.tmp 48), none, [], false⟩,
      ⟨(some 14), .mov (.tmp 50), none, [], false⟩]) (.region [
      ⟨(some 51), .mov (.tmp 5), none, [], false⟩,
      ⟨(some 52), .mov (.tmp 14), none, [], false⟩,
      ⟨(some 53), .callV (.func 69) [(.tmp 51), (.tmp 52)], none, [], false⟩]))) (.region [
      ⟨(some 54), .bin .add (so (.binOp .add 3 (.tmp 48) (.const (.int .i64 1)) 3) 3) (.tmp 48) (.const (.int .i64 1)), none, [], false⟩,
      ⟨(some 48), .mov (.tmp 54), none, [], false⟩]))))
noncomputable def block_Encode_c : ACode :=
  (.seq (.region [
      ⟨(some 1), .box 36 (.tmp 0), none, [], false⟩,
      ⟨(some 2), .mov (.const (.slice none 0 0)), none, [], false⟩,
      ⟨(some 3), .mov (.const (.int .i64 0)), none, [], false⟩]) (.seq (.seq (.region [
      ⟨(some 15), .load (some 166) (.tmp 1), none, [], false⟩,
      ⟨(some 16), .callV (.func 64) [(.tmp 15)], none, [], false⟩,
      ⟨(some 17), .callV (.func 63) [(.tmp 16)], none, [], false⟩,
      ⟨(some 18), .callV (.func 62) [(.tmp 17)], none, [], false⟩,
      ⟨(some 4), .mov (.tmp 18), none, [], false⟩]) (.seq (.region [
      ⟨(some 19), .mov (.tmp 4), none, [], false⟩,
      ⟨(some 20), .bin .neq (so (.binOp .neq 41 (.tmp 19) (.const (.int .i64 0)) 41) 4) (.tmp 19) (.const (.int .i64 0)), none, [], false⟩]) (.cond (.tmp 20)
    (.seq (.region [
      ⟨(some 21), .mov (.tmp 4), none, [], false⟩,
      ⟨(some 2), .mov (.const (.slice none 0 0)), none, [], false⟩,
      ⟨(some 3), .mov (.tmp 21), none, [], false⟩]) .ret)
    .skip))) (.seq (.region [
      ⟨(some 23), .callV (.func 65) [(.const (.int .i64 65536))], none, [], false⟩,
      ⟨(some 22), .mov (.tmp 23), none, [], false⟩,
      ⟨(some 24), .extract 0 (.tmp 22), none, [], false⟩,
      ⟨(some 25), .extract 1 (.tmp 22), none, [], false⟩,
      ⟨(some 5), .mov (.tmp 24), none, [], false⟩,
      ⟨(some 6), .mov (.tmp 25), none, [], false⟩]) (.seq (.region [
      ⟨(some 27), .fieldAddr 0 (.tmp 1), none, [], false⟩,
      ⟨(some 28), .load (some 131) (.tmp 27), none, [], false⟩,
      ⟨(some 29), .callV (.func 66) [(.tmp 28)], none, [], false⟩,
      ⟨(some 26), .mov (.tmp 29), none, [], false⟩,
      ⟨(some 30), .extract 0 (.tmp 26), none, [], false⟩,
      ⟨(some 31), .extract 1 (.tmp 26), none, [], false⟩,
      ⟨(some 7), .mov (.tmp 30), none, [], false⟩,
      ⟨(some 8), .mov (.tmp 31), none, [], false⟩]) (.seq (.region [
      ⟨(some 33), .fieldAddr 131 (.tmp 1), none, [], false⟩,
      ⟨(some 34), .load (some 34) (.tmp 33), none, [], false⟩,
      ⟨(some 35), .callV (.func 67) [(.tmp 34)], none, [], false⟩,
      ⟨(some 32), .mov (.tmp 35), none, [], false⟩,
      ⟨(some 36), .extract 0 (.tmp 32), none, [], false⟩,
      ⟨(some 37), .extract 1 (.tmp 32), none, [], false⟩,
      ⟨(some 9), .mov (.tmp 36), none, [], false⟩,
      ⟨(some 10), .mov (.tmp 37), none, [], false⟩]) (.seq (.region [
      ⟨(some 39), .fieldAddr 165 (.tmp 1), none, [], false⟩,
      ⟨(some 40), .load none (.tmp 39), none, [], false⟩,
      ⟨(some 41), .callV (.func 68) [(.tmp 40)], none, [], false⟩,
      ⟨(some 38), .mov (.tmp 41), none, [], false⟩,
      ⟨(some 42), .extract 0 (.tmp 38), none, [], false⟩,
      ⟨(some 43), .extract 1 (.tmp 38), none, [], false⟩,
      ⟨(some 11), .mov (.tmp 42), none, [], false⟩,
      ⟨(some 12), .mov (.tmp 43), none, [], false⟩]) (.seq (.seq (.region [
      ⟨(some 44), .mov (.tmp 7), none, [], false⟩,
      ⟨(some 45), .mov (.tmp 9), none, [], false⟩,
      ⟨(some 46), .mov (.tmp 11), none, [], false⟩,
      ⟨(some 47), .build [(.slice none 0 0), (.slice none 0 0), (.slice none 0 0)] [(0, 1, (.tmp 44)), (1, 1, (.tmp 45)), (2, 1, (.tmp 46))], none, [], false⟩,
      ⟨(some 48), .mov (.const (.int .i64 0)), none, [], false⟩]) (.block 0 (.loop block_Encode_l0))) (.seq (.region [
      ⟨(some 55), .mov (.tmp 5), none, [], false⟩,
      ⟨(some 56), .callV (.func 70) [(.tmp 55)], none, [], false⟩,
      ⟨(some 57), .extract 0 (.tmp 56), none, [], false⟩,
      ⟨(some 58), .extract 1 (.tmp 56), none, [], false⟩,
      ⟨(some 2), .mov (.tmp 57), none, [], false⟩,
      ⟨(some 3), .mov (.tmp 58), none, [], false⟩]) .ret))))))))
noncomputable def block_Encode : AFunc := ⟨59, [(2, none), (3, none)], block_Encode_c, none⟩
theorem block_Encode_t0 : tableOf Tryz.prog 28 = some block_Encode := by kernel_rfl
theorem block_Encode_t : T0 28 = some block_Encode := withTrue_t rfl block_Encode_t0


/-! 30 landfall/msg.Decode$1 -/
abbrev fn_msg_Decode_1 : FuncId := 30
noncomputable def msg_Decode_1_c : ACode :=
  (.seq (.region [
      ⟨(some 5), .recover, none, [], false⟩,
      ⟨(some 2), .mov (.tmp 5), none, [], false⟩]) (.seq (.region [
      ⟨(some 6), .mov (.tmp 2), none, [], false⟩,
      ⟨(some 7), .eq .iface true (so (.binOp .neq 20 (.tmp 6) (.const .nilIface) 20) 4) (.tmp 6) (.const .nilIface), none, [], false⟩]) (.cond (.tmp 7)
    (.seq (.region [
      ⟨(some 9), .mov (.tmp 2), none, [], false⟩,
      ⟨(some 10), .assertTo 66 (.agg ⟨[(.int .i64 0), (.int .i64 0)]⟩) true (.tmp 9), none, [], false⟩,
      ⟨(some 8), .mov (.tmp 10), none, [], false⟩,
      ⟨(some 11), .extract 0 (.tmp 8), none, [], false⟩,
      ⟨(some 12), .extract 1 (.tmp 8), none, [], false⟩,
      ⟨(some 3), .alloc 66 [(.int .i64 0), (.int .i64 0)], none, [], false⟩,
      ⟨none, .store 2 (.tmp 3) (.tmp 11), none, [], false⟩,
      ⟨(some 4), .mov (.tmp 12), none, [], false⟩]) (.seq (.seq (.region [
      ⟨(some 13), .mov (.tmp 4), none, [], false⟩,
      ⟨(some 14), .raw (so (.unOp .not 4 (.tmp 13)) 4), none, [], false⟩]) (.cond (.tmp 14)
    (.region [
      ⟨(some 15), .mov (.tmp 2), none, [], false⟩,
      ⟨none, .panic (.tmp 15), none, [], false⟩])
    .skip)) (.regionD [
      ⟨(some 16), .build ((.int .i64 0) :: ((.int .i64 0) :: ((.int .i64 0) :: ((.int .i64 0) :: ((.string ⟨⟨[]⟩⟩) :: ((.int .i64 0) :: ((.int .i64 0) :: (z32 ++ (z32 ++ (z32 ++ (z32 ++ ((.int .i64 0) :: (z32 ++ [(.slice none 0 0), (.slice none 0 0)]))))))))))))) [], none, [], false⟩,
      ⟨(some 17), .fieldAddr 0 (.tmp 3), none, [], false⟩,
      ⟨(some 18), .load (some 2) (.tmp 17), none, [], false⟩,
      ⟨none, .store 170 (.tmp 0) (.tmp 16), none, [((some 18), .load (some 2) (.tmp 17), none), ((some 17), .fieldAddr 0 (.tmp 3), none)], false⟩,
      ⟨none, .store 2 (.tmp 1) (.tmp 18), none, [], true⟩])))
    .skip)))
noncomputable def msg_Decode_1 : AFunc := ⟨19, [], msg_Decode_1_c, none⟩
theorem msg_Decode_1_t0 : tableOf Tryz.prog 30 = some msg_Decode_1 := by kernel_rfl
theorem msg_Decode_1_t : T0 30 = some msg_Decode_1 := withTrue_t rfl msg_Decode_1_t0


/-! 31 landfall/msg.must -/
abbrev fn_msg_must : FuncId := 31
noncomputable def msg_must_c : ACode :=
  (.seq (.region [
      ⟨(some 6), .mov (.tmp 0), none, [], false⟩,
      ⟨(some 7), .raw (so (.unOp .not 4 (.tmp 6)) 4), none, [], false⟩]) (.cond (.tmp 7)
    (.region [
      ⟨(some 8), .mov (.tmp 1), none, [], false⟩,
      ⟨(some 9), .mov (.tmp 2), none, [], false⟩,
      ⟨(some 10), .build [(.int .i64 0), (.int .i64 0)] [(0, 1, (.tmp 8)), (1, 1, (.tmp 9))], none, [], false⟩,
      ⟨(some 11), .build [(.int .i64 0), (.int .i64 0)] [(0, 2, (.tmp 10))], none, [], false⟩,
      ⟨(some 12), .mkIface 66 (.tmp 11), none, [], false⟩,
      ⟨none, .panic (.tmp 12), none, [], false⟩])
    .skip))
noncomputable def msg_must : AFunc := ⟨13, [], msg_must_c, none⟩
theorem msg_must_t0 : tableOf Tryz.prog 31 = some msg_must := by kernel_rfl
theorem msg_must_t : T0 31 = some msg_must := withTrue_t rfl msg_must_t0


/-! 32 landfall/wire.NewReader -/
abbrev fn_wire_NewReader : FuncId := 32
noncomputable def wire_NewReader_c : ACode :=
  (.seq (.region [
      ⟨(some 2), .mov (.const (.pointer none)), none, [], false⟩]) (.seq (.region [
      ⟨(some 3), .mov (.tmp 0), none, [], false⟩,
      ⟨(some 4), .callV (.func 72) [(.tmp 3)], none, [], false⟩,
      ⟨(some 5), .build [(.slice none 0 0), (.int .i64 0), (.int .i64 0), (.int .i64 0), (.bool false)] [(0, 1, (.tmp 4)), (4, 1, (.const (.bool true)))], none, [], false⟩,
      ⟨(some 6), .box 111 (.tmp 5), none, [], false⟩,
      ⟨(some 2), .mov (.tmp 6), none, [], false⟩]) .ret))
noncomputable def wire_NewReader : AFunc := ⟨7, [(2, none)], wire_NewReader_c, none⟩
theorem wire_NewReader_t0 : tableOf Tryz.prog 32 = some wire_NewReader := by kernel_rfl
theorem wire_NewReader_t : T0 32 = some wire_NewReader := withTrue_t rfl wire_NewReader_t0


/-! 33 (*landfall/wire.Reader).Num -/
abbrev fn_wire_Reader_Num : FuncId := 33
noncomputable def wire_Reader_Num_c : ACode :=
  (.seq (.region [
      ⟨(some 2), .mov (.const (.int .i64 0)), none, [], false⟩]) (.seq (.region [
      ⟨(some 3), .mov (.tmp 0), none, [], false⟩,
      ⟨(some 4), .mov (.tmp 0), none, [], false⟩,
      ⟨(some 5), .mkFunc (.func 74) [(.tmp 4)] [], none, [], false⟩,
      ⟨(some 6), .callV (.func 73) [(.tmp 3), (.tmp 5)], none, [], false⟩,
      ⟨(some 2), .mov (.tmp 6), none, [], false⟩]) .ret))
noncomputable def wire_Reader_Num : AFunc := ⟨7, [(2, none)], wire_Reader_Num_c, none⟩
theorem wire_Reader_Num_t0 : tableOf Tryz.prog 33 = some wire_Reader_Num := by kernel_rfl
theorem wire_Reader_Num_t : T0 33 = some wire_Reader_Num := withTrue_t rfl wire_Reader_Num_t0


/-! 34 (landfall/msg.reader).fine -/
abbrev fn_msg_reader_fine : FuncId := 34
noncomputable def msg_reader_fine_c : ACode :=
  (.seq (.region [
      ⟨(some 1), .box 72 (.tmp 0), none, [], false⟩]) (.seq (.region [
      ⟨(some 3), .fieldAddr 0 (.tmp 1), none, [], false⟩,
      ⟨(some 4), .load none (.tmp 3), none, [], false⟩,
      ⟨(some 5), .callV (.func 41) [(.tmp 4)], none, [], false⟩,
      ⟨(some 2), .alloc 43 [(.int .i64 0), (.int .i64 0)], none, [], false⟩,
      ⟨none, .store 2 (.tmp 2) (.tmp 5), none, [], false⟩]) (.regionD [
      ⟨(some 6), .fieldAddr 0 (.tmp 2), none, [], false⟩,
      ⟨(some 7), .load none (.tmp 6), none, [], false⟩,
      ⟨(some 8), .bin .eql (so (.binOp .eql 41 (.tmp 7) (.const (.int .i64 0)) 41) 4) (.tmp 7) (.const (.int .i64 0)), none, [], false⟩,
      ⟨(some 9), .mov (.tmp 8), none, [], false⟩,
      ⟨(some 10), .fieldAddr 0 (.tmp 1), (some (9, false)), [], false⟩,
      ⟨(some 11), .load none (.tmp 10), (some (9, false)), [], false⟩,
      ⟨(some 15), .fieldAddr 0 (.tmp 2), none, [], false⟩,
      ⟨(some 16), .load none (.tmp 15), none, [], false⟩,
      ⟨(some 17), .fieldAddr 1 (.tmp 2), none, [], false⟩,
      ⟨(some 18), .load none (.tmp 17), none, [], false⟩,
      ⟨(some 12), .callV (.func 75) [(.tmp 11)], (some (9, false)), [((some 18), .load none (.tmp 17), none), ((some 17), .fieldAddr 1 (.tmp 2), none), ((some 16), .load none (.tmp 15), none), ((some 15), .fieldAddr 0 (.tmp 2), none)], false⟩,
      ⟨(some 13), .bin .gtr (so (.binOp .gtr 3 (.tmp 12) (.const (.int .i64 0)) 3) 4) (.tmp 12) (.const (.int .i64 0)), (some (9, false)), [], false⟩,
      ⟨(some 14), .pick (.tmp 9) (.const (.bool true)) (.tmp 13), none, [], false⟩,
      ⟨(some 19), .callV (.func 31) [(.tmp 14), (.tmp 16), (.tmp 18)], none, [], true⟩])))
noncomputable def msg_reader_fine : AFunc := ⟨20, [], msg_reader_fine_c, none⟩
theorem msg_reader_fine_t0 : tableOf Tryz.prog 34 = some msg_reader_fine := by kernel_rfl
theorem msg_reader_fine_t : T0 34 = some msg_reader_fine := withTrue_t rfl msg_reader_fine_t0


/-! 35 (landfall/msg.reader).num -/
abbrev fn_msg_reader_num : FuncId := 35
noncomputable def msg_reader_num_c : ACode :=
  (.seq (.region [
      ⟨(some 2), .box 72 (.tmp 0), none, [], false⟩,
      ⟨(some 4), .mov (.const (.int .i64 0)), none, [], false⟩]) (.seq (.region [
      ⟨(some 7), .load (some 2) (.tmp 2), none, [], false⟩,
      ⟨(some 8), .callV (.func 38) [(.tmp 7)], none, [], false⟩,
      ⟨(some 5), .mov (.tmp 8), none, [], false⟩]) (.seq (.region [
      ⟨(some 9), .fieldAddr 0 (.tmp 2), none, [], false⟩,
      ⟨(some 10), .load none (.tmp 9), none, [], false⟩,
      ⟨(some 11), .callV (.func 33) [(.tmp 10)], none, [], false⟩,
      ⟨(some 6), .mov (.tmp 11), none, [], false⟩]) (.seq (.region [
      ⟨(some 12), .load (some 2) (.tmp 2), none, [], false⟩,
      ⟨(some 13), .callV (.func 34) [(.tmp 12)], none, [], false⟩]) (.seq (.region [
      ⟨(some 14), .mov (.tmp 1), none, [], false⟩,
      ⟨(some 15), .mov (.tmp 6), none, [], false⟩,
      ⟨(some 16), .callV (.tmp 14) [(.tmp 15)], none, [], false⟩,
      ⟨(some 17), .mov (.tmp 5), none, [], false⟩,
      ⟨(some 18), .callV (.func 31) [(.tmp 16), (.const (.int .i64 3)), (.tmp 17)], none, [], false⟩]) (.seq (.region [
      ⟨(some 19), .mov (.tmp 6), none, [], false⟩,
      ⟨(some 4), .mov (.tmp 19), none, [], false⟩]) .ret))))))
noncomputable def msg_reader_num : AFunc := ⟨20, [(4, none)], msg_reader_num_c, none⟩
theorem msg_reader_num_t0 : tableOf Tryz.prog 35 = some msg_reader_num := by kernel_rfl
theorem msg_reader_num_t : T0 35 = some msg_reader_num := withTrue_t rfl msg_reader_num_t0


/-! 36 landfall/msg.number -/
abbrev fn_msg_number : FuncId := 36
noncomputable def msg_number_c : ACode :=
  (.seq (.region [
      ⟨(some 2), .mov (.const (.bool false)), none, [], false⟩]) (.seq (.region [
      ⟨(some 3), .mov (.tmp 0), none, [], false⟩,
      ⟨(some 4), .bin .geq (so (.binOp .geq 3 (.tmp 3) (.const (.int .i64 1)) 3) 4) (.tmp 3) (.const (.int .i64 1)), none, [], false⟩,
      ⟨(some 5), .mov (.tmp 4), none, [], false⟩,
      ⟨(some 6), .mov (.tmp 0), (some (5, true)), [], false⟩,
      ⟨(some 7), .bin .leq (so (.binOp .leq 3 (.tmp 6) (.const (.int .i64 1099511627776)) 3) 4) (.tmp 6) (.const (.int .i64 1099511627776)), (some (5, true)), [], false⟩,
      ⟨(some 8), .pick (.tmp 5) (.tmp 7) (.const (.bool false)), none, [], false⟩,
      ⟨(some 2), .mov (.tmp 8), none, [], false⟩]) .ret))
noncomputable def msg_number : AFunc := ⟨9, [(2, none)], msg_number_c, none⟩
theorem msg_number_t0 : tableOf Tryz.prog 36 = some msg_number := by kernel_rfl
theorem msg_number_t : T0 36 = some msg_number := withTrue_t rfl msg_number_t0


/-! 37 landfall/msg.height -/
abbrev fn_msg_height : FuncId := 37
noncomputable def msg_height_c : ACode :=
  (.seq (.region [
      ⟨(some 2), .mov (.const (.bool false)), none, [], false⟩]) (.seq (.region [
      ⟨(some 3), .mov (.tmp 0), none, [], false⟩,
      ⟨(some 4), .bin .geq (so (.binOp .geq 3 (.tmp 3) (.const (.int .i64 1)) 3) 4) (.tmp 3) (.const (.int .i64 1)), none, [], false⟩,
      ⟨(some 5), .mov (.tmp 4), none, [], false⟩,
      ⟨(some 6), .mov (.tmp 0), (some (5, true)), [], false⟩,
      ⟨(some 7), .bin .leq (so (.binOp .leq 3 (.tmp 6) (.const (.int .i64 1073741824)) 3) 4) (.tmp 6) (.const (.int .i64 1073741824)), (some (5, true)), [], false⟩,
      ⟨(some 8), .pick (.tmp 5) (.tmp 7) (.const (.bool false)), none, [], false⟩,
      ⟨(some 2), .mov (.tmp 8), none, [], false⟩]) .ret))
noncomputable def msg_height : AFunc := ⟨9, [(2, none)], msg_height_c, none⟩
theorem msg_height_t0 : tableOf Tryz.prog 37 = some msg_height := by kernel_rfl
theorem msg_height_t : T0 37 = some msg_height := withTrue_t rfl msg_height_t0


/-! 38 (landfall/msg.reader).at -/
abbrev fn_msg_reader_at : FuncId := 38
noncomputable def msg_reader_at_c : ACode :=
  (.seq (.region [
      ⟨(some 1), .box 72 (.tmp 0), none, [], false⟩,
      ⟨(some 2), .mov (.const (.int .i64 0)), none, [], false⟩]) (.seq (.regionD [
      ⟨(some 3), .fieldAddr 1 (.tmp 1), none, [], false⟩,
      ⟨(some 4), .load none (.tmp 3), none, [], false⟩,
      ⟨(some 5), .fieldAddr 0 (.tmp 1), none, [], false⟩,
      ⟨(some 6), .load none (.tmp 5), none, [], false⟩,
      ⟨(some 7), .callV (.func 75) [(.tmp 6)], none, [((some 4), .load none (.tmp 3), none), ((some 3), .fieldAddr 1 (.tmp 1), none)], false⟩,
      ⟨(some 8), .bin .sub (so (.binOp .sub 3 (.tmp 4) (.tmp 7) 3) 3) (.tmp 4) (.tmp 7), none, [], true⟩,
      ⟨(some 2), .mov (.tmp 8), none, [], true⟩]) .ret))
noncomputable def msg_reader_at : AFunc := ⟨9, [(2, none)], msg_reader_at_c, none⟩
theorem msg_reader_at_t0 : tableOf Tryz.prog 38 = some msg_reader_at := by kernel_rfl
theorem msg_reader_at_t : T0 38 = some msg_reader_at := withTrue_t rfl msg_reader_at_t0


/-! 39 (*landfall/wire.Reader).Bytes -/
abbrev fn_wire_Reader_Bytes : FuncId := 39
noncomputable def wire_Reader_Bytes_c : ACode :=
  (.seq (.region [
      ⟨(some 2), .box 69 (.tmp 0), none, [], false⟩,
      ⟨(some 3), .box 3 (.tmp 1), none, [], false⟩,
      ⟨(some 4), .mov (.const (.slice none 0 0)), none, [], false⟩]) (.seq (.region [
      ⟨(some 5), .load none (.tmp 2), none, [], false⟩,
      ⟨(some 6), .mkFunc (.func 77) [] [(.tmp 2), (.tmp 3)], none, [], false⟩,
      ⟨(some 7), .callV (.func 76) [(.tmp 5), (.tmp 6)], none, [], false⟩,
      ⟨(some 4), .mov (.tmp 7), none, [], false⟩]) .ret))
noncomputable def wire_Reader_Bytes : AFunc := ⟨8, [(4, none)], wire_Reader_Bytes_c, none⟩
theorem wire_Reader_Bytes_t0 : tableOf Tryz.prog 39 = some wire_Reader_Bytes := by kernel_rfl
theorem wire_Reader_Bytes_t : T0 39 = some wire_Reader_Bytes := withTrue_t rfl wire_Reader_Bytes_t0


/-! 40 landfall/block.Decode -/
abbrev fn_block_Decode : FuncId := 40
noncomputable def block_Decode_c : ACode :=
  (.seq (.region [
      ⟨(some 2), .alloc 36 ((.string ⟨⟨[]⟩⟩) :: ((.int .i64 0) :: ((.int .i64 0) :: (z32 ++ (z32 ++ (z32 ++ (z32 ++ ((.int .i64 0) :: (z32 ++ [(.slice none 0 0), (.slice none 0 0)]))))))))), none, [], false⟩,
      ⟨(some 3), .alloc 43 [(.int .i64 0), (.int .i64 0)], none, [], false⟩]) (.seq (.region [
      ⟨(some 7), .mov (.tmp 0), none, [], false⟩,
      ⟨(some 8), .callV (.func 32) [(.tmp 7)], none, [], false⟩,
      ⟨(some 4), .mov (.tmp 8), none, [], false⟩]) (.seq (.region [
      ⟨(some 5), .alloc 43 [(.int .i64 0), (.int .i64 0)], none, [], false⟩]) (.seq (.region [
      ⟨(some 9), .mov (.tmp 4), none, [], false⟩,
      ⟨(some 10), .mov (.tmp 0), none, [], false⟩,
      ⟨(some 11), .lenSl (.tmp 10), none, [], false⟩,
      ⟨(some 12), .callV (.func 80) [(.tmp 9), (.tmp 11), (.tmp 5), (.func 81)], none, [], false⟩,
      ⟨(some 13), .build ((.string ⟨⟨[]⟩⟩) :: ((.int .i64 0) :: ((.int .i64 0) :: (z32 ++ (z32 ++ (z32 ++ (z32 ++ ((.int .i64 0) :: (z32 ++ [(.slice none 0 0), (.slice none 0 0)]))))))))) [(0, 131, (.tmp 12))], none, [], false⟩,
      ⟨(some 6), .alloc 36 ((.string ⟨⟨[]⟩⟩) :: ((.int .i64 0) :: ((.int .i64 0) :: (z32 ++ (z32 ++ (z32 ++ (z32 ++ ((.int .i64 0) :: (z32 ++ [(.slice none 0 0), (.slice none 0 0)]))))))))), none, [], false⟩,
      ⟨none, .store 166 (.tmp 6) (.tmp 13), none, [], false⟩]) (.seq (.region [
      ⟨(some 14), .mov (.tmp 4), none, [], false⟩,
      ⟨(some 15), .mov (.tmp 0), none, [], false⟩,
      ⟨(some 16), .lenSl (.tmp 15), none, [], false⟩,
      ⟨(some 17), .callV (.func 82) [(.tmp 14), (.tmp 16), (.tmp 5), (.func 83)], none, [], false⟩,
      ⟨(some 18), .fieldAddr 131 (.tmp 6), none, [], false⟩,
      ⟨none, .store 34 (.tmp 18) (.tmp 17), none, [], false⟩]) (.seq (.region [
      ⟨(some 19), .mov (.tmp 4), none, [], false⟩,
      ⟨(some 20), .mov (.tmp 0), none, [], false⟩,
      ⟨(some 21), .lenSl (.tmp 20), none, [], false⟩,
      ⟨(some 22), .callV (.func 84) [(.tmp 19), (.tmp 21), (.tmp 5), (.func 85)], none, [], false⟩,
      ⟨(some 23), .fieldAddr 165 (.tmp 6), none, [], false⟩,
      ⟨none, .store 1 (.tmp 23) (.tmp 22), none, [], false⟩]) (.seq (.seq (.region [
      ⟨(some 24), .load (some 2) (.tmp 5), none, [], false⟩,
      ⟨(some 25), .build [(.int .i64 0), (.int .i64 0)] [], none, [], false⟩,
      ⟨(some 26), .bin .eql (so (.binOp .eql 43 (.tmp 24) (.tmp 25) 43) 4) (.tmp 24) (.tmp 25), none, [], false⟩]) (.cond (.tmp 26)
    (.region [
      ⟨(some 27), .mov (.tmp 4), none, [], false⟩,
      ⟨(some 28), .callV (.func 41) [(.tmp 27)], none, [], false⟩,
      ⟨none, .store 2 (.tmp 5) (.tmp 28), none, [], false⟩])
    .skip)) (.seq (.seq (.region [
      ⟨(some 29), .load (some 2) (.tmp 5), none, [], false⟩,
      ⟨(some 30), .build [(.int .i64 0), (.int .i64 0)] [], none, [], false⟩,
      ⟨(some 31), .bin .neq (so (.binOp .neq 43 (.tmp 29) (.tmp 30) 43) 4) (.tmp 29) (.tmp 30), none, [], false⟩]) (.cond (.tmp 31)
    (.seq (.regionD [
      ⟨(some 32), .build ((.string ⟨⟨[]⟩⟩) :: ((.int .i64 0) :: ((.int .i64 0) :: (z32 ++ (z32 ++ (z32 ++ (z32 ++ ((.int .i64 0) :: (z32 ++ [(.slice none 0 0), (.slice none 0 0)]))))))))) [], none, [], false⟩,
      ⟨(some 33), .load (some 2) (.tmp 5), none, [], false⟩,
      ⟨none, .store 166 (.tmp 2) (.tmp 32), none, [((some 33), .load (some 2) (.tmp 5), none)], false⟩,
      ⟨none, .store 2 (.tmp 3) (.tmp 33), none, [], true⟩]) .ret)
    .skip)) (.seq (.regionD [
      ⟨(some 34), .load (some 166) (.tmp 6), none, [], false⟩,
      ⟨(some 35), .load (some 2) (.tmp 5), none, [], false⟩,
      ⟨none, .store 166 (.tmp 2) (.tmp 34), none, [((some 35), .load (some 2) (.tmp 5), none)], false⟩,
      ⟨none, .store 2 (.tmp 3) (.tmp 35), none, [], true⟩]) .ret)))))))))
noncomputable def block_Decode : AFunc := ⟨36, [(2, some (some 166)), (3, some (some 2))], block_Decode_c, none⟩
theorem block_Decode_t0 : tableOf Tryz.prog 40 = some block_Decode := by kernel_rfl
theorem block_Decode_t : T0 40 = some block_Decode := withTrue_t rfl block_Decode_t0


/-! 41 (*landfall/wire.Reader).End -/
abbrev fn_wire_Reader_End : FuncId := 41
noncomputable def wire_Reader_End_c : ACode :=
  (.seq (.region [
      ⟨(some 2), .alloc 43 [(.int .i64 0), (.int .i64 0)], none, [], false⟩]) (.seq (.block 0 (.seq (.region [
      ⟨(some 4), .mov (.tmp 0), none, [], false⟩,
      ⟨(some 5), .eq .ptr false (so (.binOp .eql 69 (.tmp 4) (.const (.pointer none)) 69) 4) (.tmp 4) (.const (.pointer none)), none, [], false⟩,
      ⟨(some 6), .mov (.tmp 5), none, [], false⟩,
      ⟨(some 7), .mov (.tmp 0), (some (6, false)), [], false⟩,
      ⟨(some 8), .nilCheck (.tmp 7), (some (6, false)), [], false⟩,
      ⟨(some 9), .fieldAddr 4 (.tmp 8), (some (6, false)), [], false⟩,
      ⟨(some 10), .load none (.tmp 9), (some (6, false)), [], false⟩,
      ⟨(some 11), .raw (so (.unOp .not 4 (.tmp 10)) 4), (some (6, false)), [], false⟩,
      ⟨(some 12), .pick (.tmp 6) (.const (.bool true)) (.tmp 11), none, [], false⟩,
      ⟨(some 3), .mov (.tmp 12), none, [], false⟩]) (.cond (.tmp 3)
    (.seq (.region [
      ⟨(some 13), .build [(.int .i64 0), (.int .i64 0)] [(0, 1, (.const (.int .i64 1)))], none, [], false⟩,
      ⟨none, .store 2 (.tmp 2) (.tmp 13), none, [], false⟩]) .ret)
    (.seq (.regionD [
      ⟨(some 15), .mov (.tmp 0), none, [], true⟩,
      ⟨(some 16), .nilCheck (.tmp 15), none, [], true⟩,
      ⟨(some 17), .fieldAddr 2 (.tmp 16), none, [], true⟩,
      ⟨(some 18), .fieldAddr 0 (.tmp 17), none, [], true⟩,
      ⟨(some 19), .load none (.tmp 18), none, [], true⟩,
      ⟨(some 20), .bin .eql (so (.binOp .eql 41 (.tmp 19) (.const (.int .i64 0)) 41) 4) (.tmp 19) (.const (.int .i64 0)), none, [], true⟩,
      ⟨(some 21), .mov (.tmp 20), none, [], true⟩,
      ⟨(some 22), .mov (.tmp 0), (some (21, true)), [], false⟩,
      ⟨(some 23), .nilCheck (.tmp 22), (some (21, true)), [], false⟩,
      ⟨(some 24), .fieldAddr 1 (.tmp 23), (some (21, true)), [], false⟩,
      ⟨(some 25), .load none (.tmp 24), (some (21, true)), [], false⟩,
      ⟨(some 26), .mov (.tmp 0), (some (21, true)), [], false⟩,
      ⟨(some 27), .nilCheck (.tmp 26), (some (21, true)), [], false⟩,
      ⟨(some 28), .fieldAddr 0 (.tmp 27), (some (21, true)), [], false⟩,
      ⟨(some 29), .load none (.tmp 28), (some (21, true)), [], false⟩,
      ⟨(some 30), .lenSl (.tmp 29), (some (21, true)), [], false⟩,
      ⟨(some 31), .bin .lss (so (.binOp .lss 3 (.tmp 25) (.tmp 30) 3) 4) (.tmp 25) (.tmp 30), (some (21, true)), [], true⟩,
      ⟨(some 32), .pick (.tmp 21) (.tmp 31) (.const (.bool false)), none, [], true⟩,
      ⟨(some 14), .mov (.tmp 32), none, [], true⟩]) (.cond (.tmp 14)
    (.seq (.region [
      ⟨(some 33), .mov (.tmp 0), none, [], false⟩,
      ⟨(some 34), .nilCheck (.tmp 33), none, [], false⟩,
      ⟨(some 35), .fieldAddr 1 (.tmp 34), none, [], false⟩,
      ⟨(some 36), .load none (.tmp 35), none, [], false⟩,
      ⟨(some 37), .build [(.int .i64 0), (.int .i64 0)] [(0, 1, (.const (.int .i64 4))), (1, 1, (.tmp 36))], none, [], false⟩,
      ⟨none, .store 2 (.tmp 2) (.tmp 37), none, [], false⟩]) .ret)
    .skip))))) (.seq (.region [
      ⟨(some 38), .mov (.tmp 0), none, [], false⟩,
      ⟨(some 39), .nilCheck (.tmp 38), none, [], false⟩,
      ⟨(some 40), .fieldAddr 2 (.tmp 39), none, [], false⟩,
      ⟨(some 41), .load (some 2) (.tmp 40), none, [], false⟩,
      ⟨none, .store 2 (.tmp 2) (.tmp 41), none, [], false⟩]) .ret)))
noncomputable def wire_Reader_End : AFunc := ⟨42, [(2, some (some 2))], wire_Reader_End_c, none⟩
theorem wire_Reader_End_t0 : tableOf Tryz.prog 41 = some wire_Reader_End := by kernel_rfl
theorem wire_Reader_End_t : T0 41 = some wire_Reader_End := withTrue_t rfl wire_Reader_End_t0


/-! 54 landfall/msg.bytes -/
abbrev fn_msg_bytes : FuncId := 54
noncomputable def msg_bytes_c : ACode :=
  (.seq (.region [
      ⟨(some 2), .mov (.const (.slice none 0 0)), none, [], false⟩,
      ⟨(some 3), .mov (.const (.int .i64 0)), none, [], false⟩]) (.seq (.region [
      ⟨(some 8), .callV (.func 65) [(.const (.int .i64 65536))], none, [], false⟩,
      ⟨(some 7), .mov (.tmp 8), none, [], false⟩,
      ⟨(some 9), .extract 0 (.tmp 7), none, [], false⟩,
      ⟨(some 10), .extract 1 (.tmp 7), none, [], false⟩,
      ⟨(some 4), .mov (.tmp 9), none, [], false⟩,
      ⟨(some 5), .mov (.tmp 10), none, [], false⟩]) (.seq (.seq (.region [
      ⟨(some 11), .mov (.tmp 0), none, [], false⟩,
      ⟨(some 12), .callV (.func 90) [(.tmp 11)], none, [], false⟩,
      ⟨(some 13), .mov (.tmp 4), none, [], false⟩,
      ⟨(some 14), .invoke (.tmp 12) "landfall/msg.write" [(.tmp 13)], none, [], false⟩,
      ⟨(some 6), .mov (.tmp 14), none, [], false⟩]) (.seq (.region [
      ⟨(some 15), .mov (.tmp 6), none, [], false⟩,
      ⟨(some 16), .bin .neq (so (.binOp .neq 41 (.tmp 15) (.const (.int .i64 0)) 41) 4) (.tmp 15) (.const (.int .i64 0)), none, [], false⟩]) (.cond (.tmp 16)
    (.seq (.region [
      ⟨(some 17), .mov (.tmp 6), none, [], false⟩,
      ⟨(some 2), .mov (.const (.slice none 0 0)), none, [], false⟩,
      ⟨(some 3), .mov (.tmp 17), none, [], false⟩]) .ret)
    .skip))) (.seq (.region [
      ⟨(some 18), .mov (.tmp 4), none, [], false⟩,
      ⟨(some 19), .callV (.func 70) [(.tmp 18)], none, [], false⟩,
      ⟨(some 20), .extract 0 (.tmp 19), none, [], false⟩,
      ⟨(some 21), .extract 1 (.tmp 19), none, [], false⟩,
      ⟨(some 2), .mov (.tmp 20), none, [], false⟩,
      ⟨(some 3), .mov (.tmp 21), none, [], false⟩]) .ret))))
noncomputable def msg_bytes : AFunc := ⟨22, [(2, none), (3, none)], msg_bytes_c, none⟩
theorem msg_bytes_t0 : tableOf Tryz.prog 54 = some msg_bytes := by kernel_rfl
theorem msg_bytes_t : T0 54 = some msg_bytes := withTrue_t rfl msg_bytes_t0


/-! 60 landfall/landfallkit.SameCommit -/
abbrev fn_landfallkit_SameCommit : FuncId := 60
noncomputable def landfallkit_SameCommit_c : ACode :=
  (.seq (.region [
      ⟨(some 2), .box 33 (.tmp 0), none, [], false⟩,
      ⟨(some 3), .box 33 (.tmp 1), none, [], false⟩,
      ⟨(some 4), .mov (.const (.bool false)), none, [], false⟩]) (.seq (.region [
      ⟨(some 5), .fieldAddr 0 (.tmp 2), none, [], false⟩,
      ⟨(some 6), .load none (.tmp 5), none, [], false⟩,
      ⟨(some 7), .fieldAddr 0 (.tmp 3), none, [], false⟩,
      ⟨(some 8), .load none (.tmp 7), none, [], false⟩,
      ⟨(some 9), .bin .eql (so (.binOp .eql 3 (.tmp 6) (.tmp 8) 3) 4) (.tmp 6) (.tmp 8), none, [], false⟩,
      ⟨(some 10), .mov (.tmp 9), none, [], false⟩,
      ⟨(some 11), .fieldAddr 1 (.tmp 2), (some (10, true)), [], false⟩,
      ⟨(some 12), .load (some 32) (.tmp 11), (some (10, true)), [], false⟩,
      ⟨(some 13), .fieldAddr 1 (.tmp 3), (some (10, true)), [], false⟩,
      ⟨(some 14), .load (some 32) (.tmp 13), (some (10, true)), [], false⟩,
      ⟨(some 15), .bin .eql (so (.binOp .eql 28 (.tmp 12) (.tmp 14) 28) 4) (.tmp 12) (.tmp 14), (some (10, true)), [], false⟩,
      ⟨(some 16), .pick (.tmp 10) (.tmp 15) (.const (.bool false)), none, [], false⟩,
      ⟨(some 17), .mov (.tmp 16), none, [], false⟩,
      ⟨(some 18), .fieldAddr 33 (.tmp 2), (some (17, true)), [], false⟩,
      ⟨(some 19), .load none (.tmp 18), (some (17, true)), [], false⟩,
      ⟨(some 20), .fieldAddr 33 (.tmp 3), (some (17, true)), [], false⟩,
      ⟨(some 21), .load none (.tmp 20), (some (17, true)), [], false⟩,
      ⟨(some 22), .callV (.func 98) [(.tmp 19), (.tmp 21)], (some (17, true)), [], false⟩,
      ⟨(some 23), .pick (.tmp 17) (.tmp 22) (.const (.bool false)), none, [], false⟩,
      ⟨(some 4), .mov (.tmp 23), none, [], false⟩]) .ret))
noncomputable def landfallkit_SameCommit : AFunc := ⟨24, [(4, none)], landfallkit_SameCommit_c, none⟩
theorem landfallkit_SameCommit_t0 : tableOf Tryz.prog 60 = some landfallkit_SameCommit := by kernel_rfl
theorem landfallkit_SameCommit_t : T0 60 = some landfallkit_SameCommit := withTrue_t rfl landfallkit_SameCommit_t0


/-! 61 landfall/landfallkit.SameVals -/
abbrev fn_landfallkit_SameVals : FuncId := 61
noncomputable def landfallkit_SameVals_l0 : ACode :=
  (.seq (.seq (.region [
      ⟨(some 12), .mov (.tmp 5), none, [], false⟩,
      ⟨(some 13), .mov (.tmp 12), none, [], false⟩,
      ⟨(some 14), .mov (.tmp 6), (some (13, true)), [], false⟩,
      ⟨(some 15), .mov (.tmp 0), (some (13, true)), [], false⟩,
      ⟨(some 16), .lenSl (.tmp 15), (some (13, true)), [], false⟩,
      ⟨(some 17), .bin .lss (so (.binOp .lss 3 (.tmp 14) (.tmp 16) 3) 4) (.tmp 14) (.tmp 16), (some (13, true)), [], false⟩,
      ⟨(some 18), .pick (.tmp 13) (.tmp 17) (.const (.bool false)), none, [], false⟩]) (.cond (.tmp 18)
    .skip
    (.exit 0))) (.seq (.block 1 (.regionD [
      ⟨(some 21), .mov (.tmp 0), none, [], false⟩,
      ⟨(some 22), .mov (.tmp 6), none, [], false⟩,
      ⟨(some 23), .indexSl 5 (.tmp 21) (.tmp 22), none, [], false⟩,
      ⟨(some 24), .load (some 5) (.tmp 23), none, [], false⟩,
      ⟨(some 25), .mov (.tmp 1), none, [], false⟩,
      ⟨(some 26), .mov (.tmp 6), none, [], false⟩,
      ⟨(some 27), .indexSl 5 (.tmp 25) (.tmp 26), none, [], false⟩,
      ⟨(some 28), .load (some 5) (.tmp 27), none, [], false⟩,
      ⟨(some 29), .bin .eql (so (.binOp .eql 132 (.tmp 24) (.tmp 28) 132) 4) (.tmp 24) (.tmp 28), none, [], true⟩,
      ⟨(some 5), .mov (.tmp 29), none, [], true⟩])) (.region [
      ⟨(some 19), .mov (.tmp 6), none, [], false⟩,
      ⟨(some 20), .bin .add (so (.binOp .add 3 (.tmp 19) (.const (.int .i64 1)) 3) 3) (.tmp 19) (.const (.int .i64 1)), none, [], false⟩,
      ⟨(some 6), .mov (.tmp 20), none, [], false⟩])))
noncomputable def landfallkit_SameVals_c : ACode :=
  (.seq (.region [
      ⟨(some 4), .mov (.const (.bool false)), none, [], false⟩]) (.seq (.region [
      ⟨(some 7), .mov (.tmp 0), none, [], false⟩,
      ⟨(some 8), .lenSl (.tmp 7), none, [], false⟩,
      ⟨(some 9), .mov (.tmp 1), none, [], false⟩,
      ⟨(some 10), .lenSl (.tmp 9), none, [], false⟩,
      ⟨(some 11), .bin .eql (so (.binOp .eql 3 (.tmp 8) (.tmp 10) 3) 4) (.tmp 8) (.tmp 10), none, [], false⟩,
      ⟨(some 5), .mov (.tmp 11), none, [], false⟩]) (.seq (.seq (.region [
      ⟨(some 6), .mov (.const (.int .i64 0)), none, [], false⟩]) (.block 0 (.loop landfallkit_SameVals_l0))) (.seq (.region [
      ⟨(some 30), .mov (.tmp 5), none, [], false⟩,
      ⟨(some 4), .mov (.tmp 30), none, [], false⟩]) .ret))))
noncomputable def landfallkit_SameVals : AFunc := ⟨31, [(4, none)], landfallkit_SameVals_c, none⟩
theorem landfallkit_SameVals_t0 : tableOf Tryz.prog 61 = some landfallkit_SameVals := by kernel_rfl
theorem landfallkit_SameVals_t : T0 61 = some landfallkit_SameVals := withTrue_t rfl landfallkit_SameVals_t0


/-! 62 landfall/block.first -/
abbrev fn_block_first : FuncId := 62
noncomputable def block_first_ra0 : Code := (rangeParts (subCode ((Tryz.prog.funcs[62]?).bind (·.body)) [true, false, true, false])).1
noncomputable def block_first_rb0 : Code := (rangeParts (subCode ((Tryz.prog.funcs[62]?).bind (·.body)) [true, false, true, false])).2
noncomputable def block_first_a0 : ACode :=
  (.region [
      ⟨(some 3), .mov (.tmp 5), none, [], false⟩])
noncomputable def block_first_b0 : ACode :=
  (.block 1 (.seq (.region [
      ⟨(some 6), .mov (.tmp 3), none, [], false⟩,
      ⟨(some 7), .bin .neq (so (.binOp .neq 41 (.tmp 6) (.const (.int .i64 0)) 41) 4) (.tmp 6) (.const (.int .i64 0)), none, [], false⟩]) (.cond (.tmp 7)
    (.seq (.region [
      ⟨(some 8), .mov (.tmp 3), none, [], false⟩,
      ⟨none, .store 1 (.tmp 2) (.tmp 8), none, [], false⟩]) .ret)
    .skip)))
theorem block_first_ca0 : comp Tryz.prog block_first_ra0 = some block_first_a0 := by kernel_rfl
theorem block_first_cb0 : comp Tryz.prog block_first_rb0 = some block_first_b0 := by kernel_rfl
theorem block_first_na0 : noDefer block_first_ra0 = true := by kernel_rfl
theorem block_first_nb0 : noDefer block_first_rb0 = true := by kernel_rfl
noncomputable def block_first_c : ACode :=
  (.seq (.region [
      ⟨(some 2), .alloc 41 [(.int .i64 0)], none, [], false⟩]) (.seq (.seq (.region [
      ⟨(some 4), .mov (.tmp 0), none, [], false⟩]) (.block 0 (.rangeFunc (.tmp 4) [5] block_first_ra0 block_first_rb0))) (.seq (.region [
      ⟨none, .store 1 (.tmp 2) (.const (.int .i64 0)), none, [], false⟩]) .ret)))
noncomputable def block_first : AFunc := ⟨9, [(2, some none)], block_first_c, none⟩
theorem block_first_t0 : tableOf Tryz.prog 62 = some block_first := by kernel_rfl
theorem block_first_t : T0 62 = some block_first := withTrue_t rfl block_first_t0


/-! 63 landfall/block.errors -/
abbrev fn_block_errors : FuncId := 63
noncomputable def block_errors_c : ACode :=
  (.seq (.region [
      ⟨(some 1), .box 101 (.tmp 0), none, [], false⟩,
      ⟨(some 2), .mov (.const .nilFunc), none, [], false⟩]) (.seq (.region [
      ⟨(some 3), .mkFunc (.func 99) [] [(.tmp 1)], none, [], false⟩,
      ⟨(some 2), .mov (.tmp 3), none, [], false⟩]) .ret))
noncomputable def block_errors : AFunc := ⟨4, [(2, none)], block_errors_c, none⟩
theorem block_errors_t0 : tableOf Tryz.prog 63 = some block_errors := by kernel_rfl
theorem block_errors_t : T0 63 = some block_errors := withTrue_t rfl block_errors_t0


/-! 64 landfall/block.parts -/
abbrev fn_block_parts : FuncId := 64
noncomputable def block_parts_c : ACode :=
  (.seq (.region [
      ⟨(some 1), .box 36 (.tmp 0), none, [], false⟩,
      ⟨(some 2), .mov (.const (.slice none 0 0)), none, [], false⟩]) (.seq (.region [
      ⟨(some 3), .mkFunc (.func 100) [] [(.tmp 1)], none, [], false⟩,
      ⟨(some 4), .mkFunc (.func 102) [] [(.tmp 1)], none, [], false⟩,
      ⟨(some 5), .mkFunc (.func 104) [] [(.tmp 1)], none, [], false⟩,
      ⟨(some 6), .buildSlice 144 [.nilFunc, .nilFunc, .nilFunc] 3 [(0, 1, (.tmp 3)), (1, 1, (.tmp 4)), (2, 1, (.tmp 5))], none, [], false⟩,
      ⟨(some 2), .mov (.tmp 6), none, [], false⟩]) .ret))
noncomputable def block_parts : AFunc := ⟨7, [(2, none)], block_parts_c, none⟩
theorem block_parts_t0 : tableOf Tryz.prog 64 = some block_parts := by kernel_rfl
theorem block_parts_t : T0 64 = some block_parts := withTrue_t rfl block_parts_t0


/-! 65 landfall/wire.NewWriter -/
abbrev fn_wire_NewWriter : FuncId := 65
noncomputable def wire_NewWriter_c : ACode :=
  (.seq (.region [
      ⟨(some 2), .mov (.const (.pointer none)), none, [], false⟩,
      ⟨(some 3), .mov (.const (.int .i64 0)), none, [], false⟩]) (.seq (.seq (.region [
      ⟨(some 4), .mov (.tmp 0), none, [], false⟩,
      ⟨(some 5), .bin .lss (so (.binOp .lss 3 (.tmp 4) (.const (.int .i64 0)) 3) 4) (.tmp 4) (.const (.int .i64 0)), none, [], false⟩,
      ⟨(some 6), .mov (.tmp 5), none, [], false⟩,
      ⟨(some 7), .mov (.tmp 0), (some (6, false)), [], false⟩,
      ⟨(some 8), .bin .gtr (so (.binOp .gtr 3 (.tmp 7) (.const (.int .i64 1048576)) 3) 4) (.tmp 7) (.const (.int .i64 1048576)), (some (6, false)), [], false⟩,
      ⟨(some 9), .pick (.tmp 6) (.const (.bool true)) (.tmp 8), none, [], false⟩]) (.cond (.tmp 9)
    (.seq (.region [
      ⟨(some 2), .mov (.const (.pointer none)), none, [], false⟩,
      ⟨(some 3), .mov (.const (.int .i64 3)), none, [], false⟩]) .ret)
    .skip)) (.seq (.region [
      ⟨(some 10), .mov (.tmp 0), none, [], false⟩,
      ⟨(some 11), .build [(.int .i64 0), (.slice none 0 0), (.int .i64 0), (.bool false)] [(0, 1, (.tmp 10)), (3, 1, (.const (.bool true)))], none, [], false⟩,
      ⟨(some 12), .box 149 (.tmp 11), none, [], false⟩,
      ⟨(some 2), .mov (.tmp 12), none, [], false⟩,
      ⟨(some 3), .mov (.const (.int .i64 0)), none, [], false⟩]) .ret)))
noncomputable def wire_NewWriter : AFunc := ⟨13, [(2, none), (3, none)], wire_NewWriter_c, none⟩
theorem wire_NewWriter_t0 : tableOf Tryz.prog 65 = some wire_NewWriter := by kernel_rfl
theorem wire_NewWriter_t : T0 65 = some wire_NewWriter := withTrue_t rfl wire_NewWriter_t0


/-! 66 landfall/header.Encode -/
abbrev fn_header_Encode : FuncId := 66
noncomputable def header_Encode_l0 : ACode :=
  (.seq (.region [
      ⟨(some 32), .bin .lss (so (.binOp .lss 3 (.tmp 31) (.const (.int .i64 4)) 3) 0) (.tmp 31) (.const (.int .i64 4)), none, [], false⟩]) (.seq (.cond (.tmp 32)
    .skip
    (.exit 0)) (.seq (.block 1 (.seq (.region [
      ⟨(some 33), .index 4 1 none (.tmp 30) (.tmp 31), none, [], false⟩,
      ⟨(some 8), .mov (.tmp 33), none, [], false⟩]) (.region [
      ⟨(some 34), .mov (.tmp 5), none, [], false⟩,
      ⟨(some 35), .mov (.tmp 8), none, [], false⟩,
      ⟨(some 36), .nilCheck (.tmp 35), none, [], false⟩,
      ⟨(some 37), .load (some 32) (.tmp 36), none, [], false⟩,
      ⟨(some 38), .callV (.func 109) [(.tmp 34), (.tmp 37)], none, [], false⟩]))) (.region [
      ⟨(some 39), .bin .add (so (.binOp .add 3 (.tmp 31) (.const (.int .i64 1)) 3) 3) (.tmp 31) (.const (.int .i64 1)), none, [], false⟩,
      ⟨(some 31), .mov (.tmp 39), none, [], false⟩]))))
noncomputable def header_Encode_c : ACode :=
  (.seq (.region [
      ⟨(some 1), .box 30 (.tmp 0), none, [], false⟩,
      ⟨(some 2), .mov (.const (.slice none 0 0)), none, [], false⟩,
      ⟨(some 3), .mov (.const (.int .i64 0)), none, [], false⟩]) (.seq (.seq (.region [
      ⟨(some 9), .load (some 131) (.tmp 1), none, [], false⟩,
      ⟨(some 10), .callV (.func 101) [(.tmp 9)], none, [], false⟩,
      ⟨(some 4), .mov (.tmp 10), none, [], false⟩]) (.seq (.region [
      ⟨(some 11), .mov (.tmp 4), none, [], false⟩,
      ⟨(some 12), .bin .neq (so (.binOp .neq 41 (.tmp 11) (.const (.int .i64 0)) 41) 4) (.tmp 11) (.const (.int .i64 0)), none, [], false⟩]) (.cond (.tmp 12)
    (.seq (.region [
      ⟨(some 13), .mov (.tmp 4), none, [], false⟩,
      ⟨(some 2), .mov (.const (.slice none 0 0)), none, [], false⟩,
      ⟨(some 3), .mov (.tmp 13), none, [], false⟩]) .ret)
    .skip))) (.seq (.region [
      ⟨(some 15), .callV (.func 65) [(.const (.int .i64 65536))], none, [], false⟩,
      ⟨(some 14), .mov (.tmp 15), none, [], false⟩,
      ⟨(some 16), .extract 0 (.tmp 14), none, [], false⟩,
      ⟨(some 17), .extract 1 (.tmp 14), none, [], false⟩,
      ⟨(some 5), .mov (.tmp 16), none, [], false⟩,
      ⟨(some 6), .mov (.tmp 17), none, [], false⟩]) (.seq (.region [
      ⟨(some 18), .mov (.tmp 5), none, [], false⟩,
      ⟨(some 19), .fieldAddr 0 (.tmp 1), none, [], false⟩,
      ⟨(some 20), .load none (.tmp 19), none, [], false⟩,
      ⟨(some 21), .callV (.func 106) [(.tmp 18), (.tmp 20)], none, [], false⟩]) (.seq (.region [
      ⟨(some 22), .mov (.tmp 5), none, [], false⟩,
      ⟨(some 23), .fieldAddr 1 (.tmp 1), none, [], false⟩,
      ⟨(some 24), .load none (.tmp 23), none, [], false⟩,
      ⟨(some 25), .callV (.func 107) [(.tmp 22), (.tmp 24)], none, [], false⟩]) (.seq (.region [
      ⟨(some 26), .mov (.tmp 5), none, [], false⟩,
      ⟨(some 27), .fieldAddr 2 (.tmp 1), none, [], false⟩,
      ⟨(some 28), .load none (.tmp 27), none, [], false⟩,
      ⟨(some 29), .callV (.func 107) [(.tmp 26), (.tmp 28)], none, [], false⟩]) (.seq (.seq (.region [
      ⟨(some 30), .callV (.func 108) [(.tmp 1)], none, [], false⟩,
      ⟨(some 31), .mov (.const (.int .i64 0)), none, [], false⟩]) (.block 0 (.loop header_Encode_l0))) (.seq (.region [
      ⟨(some 40), .mov (.tmp 5), none, [], false⟩,
      ⟨(some 41), .callV (.func 70) [(.tmp 40)], none, [], false⟩,
      ⟨(some 42), .extract 0 (.tmp 41), none, [], false⟩,
      ⟨(some 43), .extract 1 (.tmp 41), none, [], false⟩,
      ⟨(some 2), .mov (.tmp 42), none, [], false⟩,
      ⟨(some 3), .mov (.tmp 43), none, [], false⟩]) .ret))))))))
noncomputable def header_Encode : AFunc := ⟨44, [(2, none), (3, none)], header_Encode_c, none⟩
theorem header_Encode_t0 : tableOf Tryz.prog 66 = some header_Encode := by kernel_rfl
theorem header_Encode_t : T0 66 = some header_Encode := withTrue_t rfl header_Encode_t0


/-! 67 landfall/commit.Encode -/
abbrev fn_commit_Encode : FuncId := 67
noncomputable def commit_Encode_l0 : ACode :=
  (.seq (.region [
      ⟨(some 35), .bin .lss (so (.binOp .lss 3 (.tmp 34) (.tmp 33) 3) 0) (.tmp 34) (.tmp 33), none, [], false⟩]) (.seq (.cond (.tmp 35)
    .skip
    (.exit 0)) (.seq (.block 1 (.seq (.region [
      ⟨(some 36), .indexSl 2 (.tmp 32) (.tmp 34), none, [], false⟩,
      ⟨(some 37), .load (some 2) (.tmp 36), none, [], false⟩,
      ⟨(some 8), .alloc 134 [(.int .i64 0), (.int .u64 0)], none, [], false⟩,
      ⟨none, .store 2 (.tmp 8) (.tmp 37), none, [], false⟩]) (.seq (.region [
      ⟨(some 38), .mov (.tmp 5), none, [], false⟩,
      ⟨(some 39), .fieldAddr 0 (.tmp 8), none, [], false⟩,
      ⟨(some 40), .load none (.tmp 39), none, [], false⟩,
      ⟨(some 41), .callV (.func 107) [(.tmp 38), (.tmp 40)], none, [], false⟩]) (.region [
      ⟨(some 42), .mov (.tmp 5), none, [], false⟩,
      ⟨(some 43), .fieldAddr 1 (.tmp 8), none, [], false⟩,
      ⟨(some 44), .load none (.tmp 43), none, [], false⟩,
      ⟨(some 45), .callV (.func 110) [(.tmp 42), (.tmp 44)], none, [], false⟩])))) (.region [
      ⟨(some 46), .bin .add (so (.binOp .add 3 (.tmp 34) (.const (.int .i64 1)) 3) 3) (.tmp 34) (.const (.int .i64 1)), none, [], false⟩,
      ⟨(some 34), .mov (.tmp 46), none, [], false⟩]))))
noncomputable def commit_Encode_c : ACode :=
  (.seq (.region [
      ⟨(some 1), .box 33 (.tmp 0), none, [], false⟩,
      ⟨(some 2), .mov (.const (.slice none 0 0)), none, [], false⟩,
      ⟨(some 3), .mov (.const (.int .i64 0)), none, [], false⟩]) (.seq (.seq (.region [
      ⟨(some 9), .load (some 34) (.tmp 1), none, [], false⟩,
      ⟨(some 10), .callV (.func 105) [(.tmp 9)], none, [], false⟩,
      ⟨(some 4), .mov (.tmp 10), none, [], false⟩]) (.seq (.region [
      ⟨(some 11), .mov (.tmp 4), none, [], false⟩,
      ⟨(some 12), .bin .neq (so (.binOp .neq 41 (.tmp 11) (.const (.int .i64 0)) 41) 4) (.tmp 11) (.const (.int .i64 0)), none, [], false⟩]) (.cond (.tmp 12)
    (.seq (.region [
      ⟨(some 13), .mov (.tmp 4), none, [], false⟩,
      ⟨(some 2), .mov (.const (.slice none 0 0)), none, [], false⟩,
      ⟨(some 3), .mov (.tmp 13), none, [], false⟩]) .ret)
    .skip))) (.seq (.region [
      ⟨(some 15), .callV (.func 65) [(.const (.int .i64 1048576))], none, [], false⟩,
      ⟨(some 14), .mov (.tmp 15), none, [], false⟩,
      ⟨(some 16), .extract 0 (.tmp 14), none, [], false⟩,
      ⟨(some 17), .extract 1 (.tmp 14), none, [], false⟩,
      ⟨(some 5), .mov (.tmp 16), none, [], false⟩,
      ⟨(some 6), .mov (.tmp 17), none, [], false⟩]) (.seq (.region [
      ⟨(some 18), .mov (.tmp 5), none, [], false⟩,
      ⟨(some 19), .fieldAddr 0 (.tmp 1), none, [], false⟩,
      ⟨(some 20), .load none (.tmp 19), none, [], false⟩,
      ⟨(some 21), .callV (.func 107) [(.tmp 18), (.tmp 20)], none, [], false⟩]) (.seq (.region [
      ⟨(some 22), .mov (.tmp 5), none, [], false⟩,
      ⟨(some 23), .fieldAddr 1 (.tmp 1), none, [], false⟩,
      ⟨(some 24), .load (some 32) (.tmp 23), none, [], false⟩,
      ⟨(some 25), .callV (.func 109) [(.tmp 22), (.tmp 24)], none, [], false⟩]) (.seq (.region [
      ⟨(some 26), .mov (.tmp 5), none, [], false⟩,
      ⟨(some 27), .fieldAddr 33 (.tmp 1), none, [], false⟩,
      ⟨(some 28), .load none (.tmp 27), none, [], false⟩,
      ⟨(some 29), .lenSl (.tmp 28), none, [], false⟩,
      ⟨(some 30), .callV (.func 107) [(.tmp 26), (.tmp 29)], none, [], false⟩]) (.seq (.seq (.region [
      ⟨(some 31), .fieldAddr 33 (.tmp 1), none, [], false⟩,
      ⟨(some 32), .load none (.tmp 31), none, [], false⟩,
      ⟨(some 33), .lenSl (.tmp 32), none, [], false⟩,
      ⟨(some 34), .mov (.const (.int .i64 0)), none, [], false⟩]) (.block 0 (.loop commit_Encode_l0))) (.seq (.region [
      ⟨(some 47), .mov (.tmp 5), none, [], false⟩,
      ⟨(some 48), .callV (.func 70) [(.tmp 47)], none, [], false⟩,
      ⟨(some 49), .extract 0 (.tmp 48), none, [], false⟩,
      ⟨(some 50), .extract 1 (.tmp 48), none, [], false⟩,
      ⟨(some 2), .mov (.tmp 49), none, [], false⟩,
      ⟨(some 3), .mov (.tmp 50), none, [], false⟩]) .ret))))))))
noncomputable def commit_Encode : AFunc := ⟨51, [(2, none), (3, none)], commit_Encode_c, none⟩
theorem commit_Encode_t0 : tableOf Tryz.prog 67 = some commit_Encode := by kernel_rfl
theorem commit_Encode_t : T0 67 = some commit_Encode := withTrue_t rfl commit_Encode_t0


/-! 68 landfall/vals.Encode -/
abbrev fn_vals_Encode : FuncId := 68
noncomputable def vals_Encode_l0 : ACode :=
  (.seq (.region [
      ⟨(some 25), .bin .lss (so (.binOp .lss 3 (.tmp 24) (.tmp 23) 3) 0) (.tmp 24) (.tmp 23), none, [], false⟩]) (.seq (.cond (.tmp 25)
    .skip
    (.exit 0)) (.seq (.block 1 (.seq (.region [
      ⟨(some 26), .indexSl 5 (.tmp 22) (.tmp 24), none, [], false⟩,
      ⟨(some 27), .load (some 5) (.tmp 26), none, [], false⟩,
      ⟨(some 8), .alloc 132 [(.int .u8 0), (.int .u8 0), (.int .u8 0), (.int .u8 0), (.int .i64 0)], none, [], false⟩,
      ⟨none, .store 5 (.tmp 8) (.tmp 27), none, [], false⟩]) (.seq (.region [
      ⟨(some 28), .mov (.tmp 5), none, [], false⟩,
      ⟨(some 29), .fieldAddr 0 (.tmp 8), none, [], false⟩,
      ⟨(some 30), .load (some 4) (.tmp 29), none, [], false⟩,
      ⟨(some 31), .callV (.func 111) [(.tmp 28), (.tmp 30)], none, [], false⟩]) (.region [
      ⟨(some 32), .mov (.tmp 5), none, [], false⟩,
      ⟨(some 33), .fieldAddr 4 (.tmp 8), none, [], false⟩,
      ⟨(some 34), .load none (.tmp 33), none, [], false⟩,
      ⟨(some 35), .callV (.func 107) [(.tmp 32), (.tmp 34)], none, [], false⟩])))) (.region [
      ⟨(some 36), .bin .add (so (.binOp .add 3 (.tmp 24) (.const (.int .i64 1)) 3) 3) (.tmp 24) (.const (.int .i64 1)), none, [], false⟩,
      ⟨(some 24), .mov (.tmp 36), none, [], false⟩]))))
noncomputable def vals_Encode_c : ACode :=
  (.seq (.region [
      ⟨(some 2), .mov (.const (.slice none 0 0)), none, [], false⟩,
      ⟨(some 3), .mov (.const (.int .i64 0)), none, [], false⟩]) (.seq (.seq (.region [
      ⟨(some 9), .mov (.tmp 0), none, [], false⟩,
      ⟨(some 10), .callV (.func 103) [(.tmp 9)], none, [], false⟩,
      ⟨(some 4), .mov (.tmp 10), none, [], false⟩]) (.seq (.region [
      ⟨(some 11), .mov (.tmp 4), none, [], false⟩,
      ⟨(some 12), .bin .neq (so (.binOp .neq 41 (.tmp 11) (.const (.int .i64 0)) 41) 4) (.tmp 11) (.const (.int .i64 0)), none, [], false⟩]) (.cond (.tmp 12)
    (.seq (.region [
      ⟨(some 13), .mov (.tmp 4), none, [], false⟩,
      ⟨(some 2), .mov (.const (.slice none 0 0)), none, [], false⟩,
      ⟨(some 3), .mov (.tmp 13), none, [], false⟩]) .ret)
    .skip))) (.seq (.region [
      ⟨(some 15), .callV (.func 65) [(.const (.int .i64 1048576))], none, [], false⟩,
      ⟨(some 14), .mov (.tmp 15), none, [], false⟩,
      ⟨(some 16), .extract 0 (.tmp 14), none, [], false⟩,
      ⟨(some 17), .extract 1 (.tmp 14), none, [], false⟩,
      ⟨(some 5), .mov (.tmp 16), none, [], false⟩,
      ⟨(some 6), .mov (.tmp 17), none, [], false⟩]) (.seq (.region [
      ⟨(some 18), .mov (.tmp 5), none, [], false⟩,
      ⟨(some 19), .mov (.tmp 0), none, [], false⟩,
      ⟨(some 20), .lenSl (.tmp 19), none, [], false⟩,
      ⟨(some 21), .callV (.func 107) [(.tmp 18), (.tmp 20)], none, [], false⟩]) (.seq (.seq (.region [
      ⟨(some 22), .mov (.tmp 0), none, [], false⟩,
      ⟨(some 23), .lenSl (.tmp 22), none, [], false⟩,
      ⟨(some 24), .mov (.const (.int .i64 0)), none, [], false⟩]) (.block 0 (.loop vals_Encode_l0))) (.seq (.region [
      ⟨(some 37), .mov (.tmp 5), none, [], false⟩,
      ⟨(some 38), .callV (.func 70) [(.tmp 37)], none, [], false⟩,
      ⟨(some 39), .extract 0 (.tmp 38), none, [], false⟩,
      ⟨(some 40), .extract 1 (.tmp 38), none, [], false⟩,
      ⟨(some 2), .mov (.tmp 39), none, [], false⟩,
      ⟨(some 3), .mov (.tmp 40), none, [], false⟩]) .ret))))))
noncomputable def vals_Encode : AFunc := ⟨41, [(2, none), (3, none)], vals_Encode_c, none⟩
theorem vals_Encode_t0 : tableOf Tryz.prog 68 = some vals_Encode := by kernel_rfl
theorem vals_Encode_t : T0 68 = some vals_Encode := withTrue_t rfl vals_Encode_t0


/-! 69 (*landfall/wire.Writer).Bytes -/
abbrev fn_wire_Writer_Bytes : FuncId := 69
noncomputable def wire_Writer_Bytes_c : ACode :=
  (.seq (.region [
      ⟨(some 4), .mov (.const (.int .i64 0)), none, [], false⟩]) (.seq (.region [
      ⟨(some 5), .mov (.tmp 0), none, [], false⟩,
      ⟨(some 6), .mov (.tmp 1), none, [], false⟩,
      ⟨(some 7), .lenSl (.tmp 6), none, [], false⟩,
      ⟨(some 8), .callV (.func 113) [(.tmp 7)], none, [], false⟩,
      ⟨(some 9), .mov (.tmp 1), none, [], false⟩,
      ⟨(some 10), .buildSlice 22 [(.slice none 0 0), (.slice none 0 0)] 2 [(0, 1, (.tmp 8)), (1, 1, (.tmp 9))], none, [], false⟩,
      ⟨(some 11), .callV (.func 112) [(.tmp 5), (.const (.bool true)), (.tmp 10)], none, [], false⟩,
      ⟨(some 4), .mov (.tmp 11), none, [], false⟩]) .ret))
noncomputable def wire_Writer_Bytes : AFunc := ⟨12, [(4, none)], wire_Writer_Bytes_c, none⟩
theorem wire_Writer_Bytes_t0 : tableOf Tryz.prog 69 = some wire_Writer_Bytes := by kernel_rfl
theorem wire_Writer_Bytes_t : T0 69 = some wire_Writer_Bytes := withTrue_t rfl wire_Writer_Bytes_t0


/-! 70 (*landfall/wire.Writer).Done -/
abbrev fn_wire_Writer_Done : FuncId := 70
noncomputable def wire_Writer_Done_c : ACode :=
  (.seq (.region [
      ⟨(some 2), .mov (.const (.slice none 0 0)), none, [], false⟩,
      ⟨(some 3), .mov (.const (.int .i64 0)), none, [], false⟩]) (.seq (.block 0 (.seq (.region [
      ⟨(some 5), .mov (.tmp 0), none, [], false⟩,
      ⟨(some 6), .eq .ptr false (so (.binOp .eql 103 (.tmp 5) (.const (.pointer none)) 103) 4) (.tmp 5) (.const (.pointer none)), none, [], false⟩,
      ⟨(some 7), .mov (.tmp 6), none, [], false⟩,
      ⟨(some 8), .mov (.tmp 0), (some (7, false)), [], false⟩,
      ⟨(some 9), .nilCheck (.tmp 8), (some (7, false)), [], false⟩,
      ⟨(some 10), .fieldAddr 3 (.tmp 9), (some (7, false)), [], false⟩,
      ⟨(some 11), .load none (.tmp 10), (some (7, false)), [], false⟩,
      ⟨(some 12), .raw (so (.unOp .not 4 (.tmp 11)) 4), (some (7, false)), [], false⟩,
      ⟨(some 13), .pick (.tmp 7) (.const (.bool true)) (.tmp 12), none, [], false⟩,
      ⟨(some 4), .mov (.tmp 13), none, [], false⟩]) (.cond (.tmp 4)
    (.seq (.region [
      ⟨(some 2), .mov (.const (.slice none 0 0)), none, [], false⟩,
      ⟨(some 3), .mov (.const (.int .i64 1)), none, [], false⟩]) .ret)
    (.seq (.region [
      ⟨(some 15), .mov (.tmp 0), none, [], false⟩,
      ⟨(some 16), .nilCheck (.tmp 15), none, [], false⟩,
      ⟨(some 17), .fieldAddr 2 (.tmp 16), none, [], false⟩,
      ⟨(some 18), .load none (.tmp 17), none, [], false⟩,
      ⟨(some 19), .bin .neq (so (.binOp .neq 41 (.tmp 18) (.const (.int .i64 0)) 41) 4) (.tmp 18) (.const (.int .i64 0)), none, [], false⟩,
      ⟨(some 14), .mov (.tmp 19), none, [], false⟩]) (.cond (.tmp 14)
    (.seq (.regionD [
      ⟨(some 20), .mov (.tmp 0), none, [], false⟩,
      ⟨(some 21), .nilCheck (.tmp 20), none, [], false⟩,
      ⟨(some 22), .fieldAddr 2 (.tmp 21), none, [], false⟩,
      ⟨(some 23), .load none (.tmp 22), none, [], false⟩,
      ⟨(some 2), .mov (.const (.slice none 0 0)), none, [], false⟩,
      ⟨(some 3), .mov (.tmp 23), none, [], true⟩]) .ret)
    .skip))))) (.seq (.region [
      ⟨(some 24), .mov (.tmp 0), none, [], false⟩,
      ⟨(some 25), .nilCheck (.tmp 24), none, [], false⟩,
      ⟨(some 26), .fieldAddr 1 (.tmp 25), none, [], false⟩,
      ⟨(some 27), .load none (.tmp 26), none, [], false⟩,
      ⟨(some 28), .callV (.func 72) [(.tmp 27)], none, [], false⟩,
      ⟨(some 2), .mov (.tmp 28), none, [], false⟩,
      ⟨(some 3), .mov (.const (.int .i64 0)), none, [], false⟩]) .ret)))
noncomputable def wire_Writer_Done : AFunc := ⟨29, [(2, none), (3, none)], wire_Writer_Done_c, none⟩
theorem wire_Writer_Done_t0 : tableOf Tryz.prog 70 = some wire_Writer_Done := by kernel_rfl
theorem wire_Writer_Done_t : T0 70 = some wire_Writer_Done := withTrue_t rfl wire_Writer_Done_t0


/-! 72 slices.Clone[[]byte,byte] -/
abbrev fn_slices_Clone___byte_byte_ : FuncId := 72
noncomputable def slices_Clone___byte_byte__c : ACode :=
  (.seq (.region [
      ⟨(some 2), .mov (.const (.slice none 0 0)), none, [], false⟩]) (.seq (.seq (.region [
      ⟨(some 3), .mov (.tmp 0), none, [], false⟩,
      ⟨(some 4), .eq .slice false (so (.binOp .eql 22 (.tmp 3) (.const (.slice none 0 0)) 22) 4) (.tmp 3) (.const (.slice none 0 0)), none, [], false⟩]) (.cond (.tmp 4)
    (.seq (.region [
      ⟨(some 2), .mov (.const (.slice none 0 0)), none, [], false⟩]) .ret)
    .skip)) (.seq (.region [
      ⟨(some 5), .buildSlice 5 [] 0 [], none, [], false⟩,
      ⟨(some 6), .mov (.tmp 0), none, [], false⟩,
      ⟨(some 7), .append 5 1 1 [(.int .u8 0)] false (.tmp 5) (.tmp 6), none, [], false⟩,
      ⟨(some 2), .mov (.tmp 7), none, [], false⟩]) .ret)))
noncomputable def slices_Clone___byte_byte_ : AFunc := ⟨8, [(2, none)], slices_Clone___byte_byte__c, none⟩
theorem slices_Clone___byte_byte__t0 : tableOf Tryz.prog 72 = some slices_Clone___byte_byte_ := by kernel_rfl
theorem slices_Clone___byte_byte__t : T0 72 = some slices_Clone___byte_byte_ := withTrue_t rfl slices_Clone___byte_byte__t0


/-! 73 landfall/wire.reads[int] -/
abbrev fn_wire_reads_int_ : FuncId := 73
noncomputable def wire_reads_int__c : ACode :=
  (.seq (.region [
      ⟨(some 4), .mov (.const (.int .i64 0)), none, [], false⟩]) (.seq (.seq (.region [
      ⟨(some 5), .mov (.tmp 0), none, [], false⟩,
      ⟨(some 6), .eq .ptr false (so (.binOp .eql 69 (.tmp 5) (.const (.pointer none)) 69) 4) (.tmp 5) (.const (.pointer none)), none, [], false⟩,
      ⟨(some 7), .mov (.tmp 6), none, [], false⟩,
      ⟨(some 8), .mov (.tmp 0), (some (7, false)), [], false⟩,
      ⟨(some 9), .nilCheck (.tmp 8), (some (7, false)), [], false⟩,
      ⟨(some 10), .fieldAddr 4 (.tmp 9), (some (7, false)), [], false⟩,
      ⟨(some 11), .load none (.tmp 10), (some (7, false)), [], false⟩,
      ⟨(some 12), .raw (so (.unOp .not 4 (.tmp 11)) 4), (some (7, false)), [], false⟩,
      ⟨(some 13), .pick (.tmp 7) (.const (.bool true)) (.tmp 12), none, [], false⟩,
      ⟨(some 14), .mov (.tmp 13), none, [], false⟩,
      ⟨(some 15), .mov (.tmp 0), (some (14, false)), [], false⟩,
      ⟨(some 16), .nilCheck (.tmp 15), (some (14, false)), [], false⟩,
      ⟨(some 17), .fieldAddr 2 (.tmp 16), (some (14, false)), [], false⟩,
      ⟨(some 18), .fieldAddr 0 (.tmp 17), (some (14, false)), [], false⟩,
      ⟨(some 19), .load none (.tmp 18), (some (14, false)), [], false⟩,
      ⟨(some 20), .bin .neq (so (.binOp .neq 41 (.tmp 19) (.const (.int .i64 0)) 41) 4) (.tmp 19) (.const (.int .i64 0)), (some (14, false)), [], false⟩,
      ⟨(some 21), .pick (.tmp 14) (.const (.bool true)) (.tmp 20), none, [], false⟩]) (.cond (.tmp 21)
    (.seq (.region [
      ⟨(some 22), .mov (.tmp 4), none, [], false⟩,
      ⟨(some 4), .mov (.tmp 22), none, [], false⟩]) .ret)
    .skip)) (.seq (.region [
      ⟨(some 23), .mov (.tmp 0), none, [], false⟩,
      ⟨none, .defer (.func 114) [(.tmp 23)], none, [], false⟩]) (.seq (.region [
      ⟨(some 24), .mov (.tmp 1), none, [], false⟩,
      ⟨(some 25), .mov (.tmp 0), none, [], false⟩,
      ⟨(some 26), .nilCheck (.tmp 25), none, [], false⟩,
      ⟨(some 27), .fieldAddr 1 (.tmp 26), none, [], false⟩,
      ⟨(some 28), .load none (.tmp 27), none, [], false⟩,
      ⟨(some 29), .callV (.tmp 24) [(.tmp 28)], none, [], false⟩,
      ⟨(some 4), .mov (.tmp 29), none, [], false⟩]) .ret))))
noncomputable def wire_reads_int_ : AFunc := ⟨30, [(4, none)], wire_reads_int__c, none⟩
theorem wire_reads_int__t0 : tableOf Tryz.prog 73 = some wire_reads_int_ := by kernel_rfl
theorem wire_reads_int__t : T0 73 = some wire_reads_int_ := withTrue_t rfl wire_reads_int__t0


/-! 74 (*landfall/wire.Reader).num -/
abbrev fn_wire_Reader_num : FuncId := 74
noncomputable def wire_Reader_num_c : ACode :=
  (.seq (.region [
      ⟨(some 4), .mov (.const (.int .i64 0)), none, [], false⟩]) (.seq (.region [
      ⟨(some 8), .mov (.tmp 0), none, [], false⟩,
      ⟨(some 9), .mov (.tmp 1), none, [], false⟩,
      ⟨(some 10), .callV (.func 115) [(.tmp 8), (.const (.int .i64 1)), (.tmp 9), (.func 116)], none, [], false⟩,
      ⟨(some 11), .conv .i64 (so (.convert 124 3 (.tmp 10)) 3) (.tmp 10), none, [], false⟩,
      ⟨(some 5), .alloc 3 [(.int .i64 0)], none, [], false⟩,
      ⟨none, .store 1 (.tmp 5) (.tmp 11), none, [], false⟩]) (.seq (.region [
      ⟨(some 12), .load none (.tmp 5), none, [], false⟩,
      ⟨(some 13), .bin .leq (so (.binOp .leq 3 (.tmp 12) (.const (.int .i64 8)) 3) 4) (.tmp 12) (.const (.int .i64 8)), none, [], false⟩,
      ⟨(some 14), .mov (.tmp 1), none, [], false⟩,
      ⟨(some 15), .callV (.func 78) [(.tmp 13), (.const (.int .i64 5)), (.tmp 14)], none, [], false⟩]) (.seq (.region [
      ⟨(some 6), .alloc 5 [(.int .u8 0)], none, [], false⟩,
      ⟨none, .store 1 (.tmp 6) (.const (.int .u8 1)), none, [], false⟩]) (.seq (.region [
      ⟨(some 16), .mov (.tmp 0), none, [], false⟩,
      ⟨(some 17), .load none (.tmp 5), none, [], false⟩,
      ⟨(some 18), .mov (.tmp 1), none, [], false⟩,
      ⟨(some 19), .mkFunc (.func 117) [] [(.tmp 5), (.tmp 6)], none, [], false⟩,
      ⟨(some 20), .callV (.func 115) [(.tmp 16), (.tmp 17), (.tmp 18), (.tmp 19)], none, [], false⟩,
      ⟨(some 7), .mov (.tmp 20), none, [], false⟩]) (.seq (.region [
      ⟨(some 21), .load none (.tmp 6), none, [], false⟩,
      ⟨(some 22), .bin .neq (so (.binOp .neq 5 (.tmp 21) (.const (.int .u8 0)) 5) 4) (.tmp 21) (.const (.int .u8 0)), none, [], false⟩,
      ⟨(some 23), .mov (.tmp 22), none, [], false⟩,
      ⟨(some 24), .mov (.tmp 7), (some (23, true)), [], false⟩,
      ⟨(some 25), .bin .leq (so (.binOp .leq 124 (.tmp 24) (.const (.int .u64 9223372036854775807)) 124) 4) (.tmp 24) (.const (.int .u64 9223372036854775807)), (some (23, true)), [], false⟩,
      ⟨(some 26), .pick (.tmp 23) (.tmp 25) (.const (.bool false)), none, [], false⟩,
      ⟨(some 27), .mov (.tmp 1), none, [], false⟩,
      ⟨(some 28), .callV (.func 78) [(.tmp 26), (.const (.int .i64 5)), (.tmp 27)], none, [], false⟩]) (.seq (.region [
      ⟨(some 29), .mov (.tmp 7), none, [], false⟩,
      ⟨(some 30), .conv .i64 (so (.convert 124 3 (.tmp 29)) 3) (.tmp 29), none, [], false⟩,
      ⟨(some 4), .mov (.tmp 30), none, [], false⟩]) .ret)))))))
noncomputable def wire_Reader_num : AFunc := ⟨31, [(4, none)], wire_Reader_num_c, none⟩
theorem wire_Reader_num_t0 : tableOf Tryz.prog 74 = some wire_Reader_num := by kernel_rfl
theorem wire_Reader_num_t : T0 74 = some wire_Reader_num := withTrue_t rfl wire_Reader_num_t0


/-! 75 (*landfall/wire.Reader).Rest -/
abbrev fn_wire_Reader_Rest : FuncId := 75
noncomputable def wire_Reader_Rest_c : ACode :=
  (.seq (.region [
      ⟨(some 2), .mov (.const (.int .i64 0)), none, [], false⟩]) (.seq (.seq (.region [
      ⟨(some 3), .mov (.tmp 0), none, [], false⟩,
      ⟨(some 4), .eq .ptr false (so (.binOp .eql 69 (.tmp 3) (.const (.pointer none)) 69) 4) (.tmp 3) (.const (.pointer none)), none, [], false⟩,
      ⟨(some 5), .mov (.tmp 4), none, [], false⟩,
      ⟨(some 6), .mov (.tmp 0), (some (5, false)), [], false⟩,
      ⟨(some 7), .nilCheck (.tmp 6), (some (5, false)), [], false⟩,
      ⟨(some 8), .fieldAddr 4 (.tmp 7), (some (5, false)), [], false⟩,
      ⟨(some 9), .load none (.tmp 8), (some (5, false)), [], false⟩,
      ⟨(some 10), .raw (so (.unOp .not 4 (.tmp 9)) 4), (some (5, false)), [], false⟩,
      ⟨(some 11), .pick (.tmp 5) (.const (.bool true)) (.tmp 10), none, [], false⟩,
      ⟨(some 12), .mov (.tmp 11), none, [], false⟩,
      ⟨(some 13), .mov (.tmp 0), (some (12, false)), [], false⟩,
      ⟨(some 14), .nilCheck (.tmp 13), (some (12, false)), [], false⟩,
      ⟨(some 15), .fieldAddr 2 (.tmp 14), (some (12, false)), [], false⟩,
      ⟨(some 16), .fieldAddr 0 (.tmp 15), (some (12, false)), [], false⟩,
      ⟨(some 17), .load none (.tmp 16), (some (12, false)), [], false⟩,
      ⟨(some 18), .bin .neq (so (.binOp .neq 41 (.tmp 17) (.const (.int .i64 0)) 41) 4) (.tmp 17) (.const (.int .i64 0)), (some (12, false)), [], false⟩,
      ⟨(some 19), .pick (.tmp 12) (.const (.bool true)) (.tmp 18), none, [], false⟩]) (.cond (.tmp 19)
    (.seq (.region [
      ⟨(some 2), .mov (.const (.int .i64 0)), none, [], false⟩]) .ret)
    .skip)) (.seq (.regionD [
      ⟨(some 20), .mov (.tmp 0), none, [], false⟩,
      ⟨(some 21), .nilCheck (.tmp 20), none, [], false⟩,
      ⟨(some 22), .fieldAddr 0 (.tmp 21), none, [], false⟩,
      ⟨(some 23), .load none (.tmp 22), none, [], false⟩,
      ⟨(some 24), .lenSl (.tmp 23), none, [], false⟩,
      ⟨(some 25), .mov (.tmp 0), none, [], false⟩,
      ⟨(some 26), .nilCheck (.tmp 25), none, [], false⟩,
      ⟨(some 27), .fieldAddr 1 (.tmp 26), none, [], false⟩,
      ⟨(some 28), .load none (.tmp 27), none, [], false⟩,
      ⟨(some 29), .bin .sub (so (.binOp .sub 3 (.tmp 24) (.tmp 28) 3) 3) (.tmp 24) (.tmp 28), none, [], true⟩,
      ⟨(some 2), .mov (.tmp 29), none, [], true⟩]) .ret)))
noncomputable def wire_Reader_Rest : AFunc := ⟨30, [(2, none)], wire_Reader_Rest_c, none⟩
theorem wire_Reader_Rest_t0 : tableOf Tryz.prog 75 = some wire_Reader_Rest := by kernel_rfl
theorem wire_Reader_Rest_t : T0 75 = some wire_Reader_Rest := withTrue_t rfl wire_Reader_Rest_t0


/-! 76 landfall/wire.reads[[]byte] -/
abbrev fn_wire_reads___byte_ : FuncId := 76
noncomputable def wire_reads___byte__c : ACode :=
  (.seq (.region [
      ⟨(some 4), .mov (.const (.slice none 0 0)), none, [], false⟩]) (.seq (.seq (.region [
      ⟨(some 5), .mov (.tmp 0), none, [], false⟩,
      ⟨(some 6), .eq .ptr false (so (.binOp .eql 69 (.tmp 5) (.const (.pointer none)) 69) 4) (.tmp 5) (.const (.pointer none)), none, [], false⟩,
      ⟨(some 7), .mov (.tmp 6), none, [], false⟩,
      ⟨(some 8), .mov (.tmp 0), (some (7, false)), [], false⟩,
      ⟨(some 9), .nilCheck (.tmp 8), (some (7, false)), [], false⟩,
      ⟨(some 10), .fieldAddr 4 (.tmp 9), (some (7, false)), [], false⟩,
      ⟨(some 11), .load none (.tmp 10), (some (7, false)), [], false⟩,
      ⟨(some 12), .raw (so (.unOp .not 4 (.tmp 11)) 4), (some (7, false)), [], false⟩,
      ⟨(some 13), .pick (.tmp 7) (.const (.bool true)) (.tmp 12), none, [], false⟩,
      ⟨(some 14), .mov (.tmp 13), none, [], false⟩,
      ⟨(some 15), .mov (.tmp 0), (some (14, false)), [], false⟩,
      ⟨(some 16), .nilCheck (.tmp 15), (some (14, false)), [], false⟩,
      ⟨(some 17), .fieldAddr 2 (.tmp 16), (some (14, false)), [], false⟩,
      ⟨(some 18), .fieldAddr 0 (.tmp 17), (some (14, false)), [], false⟩,
      ⟨(some 19), .load none (.tmp 18), (some (14, false)), [], false⟩,
      ⟨(some 20), .bin .neq (so (.binOp .neq 41 (.tmp 19) (.const (.int .i64 0)) 41) 4) (.tmp 19) (.const (.int .i64 0)), (some (14, false)), [], false⟩,
      ⟨(some 21), .pick (.tmp 14) (.const (.bool true)) (.tmp 20), none, [], false⟩]) (.cond (.tmp 21)
    (.seq (.region [
      ⟨(some 22), .mov (.tmp 4), none, [], false⟩,
      ⟨(some 4), .mov (.tmp 22), none, [], false⟩]) .ret)
    .skip)) (.seq (.region [
      ⟨(some 23), .mov (.tmp 0), none, [], false⟩,
      ⟨none, .defer (.func 114) [(.tmp 23)], none, [], false⟩]) (.seq (.region [
      ⟨(some 24), .mov (.tmp 1), none, [], false⟩,
      ⟨(some 25), .mov (.tmp 0), none, [], false⟩,
      ⟨(some 26), .nilCheck (.tmp 25), none, [], false⟩,
      ⟨(some 27), .fieldAddr 1 (.tmp 26), none, [], false⟩,
      ⟨(some 28), .load none (.tmp 27), none, [], false⟩,
      ⟨(some 29), .callV (.tmp 24) [(.tmp 28)], none, [], false⟩,
      ⟨(some 4), .mov (.tmp 29), none, [], false⟩]) .ret))))
noncomputable def wire_reads___byte_ : AFunc := ⟨30, [(4, none)], wire_reads___byte__c, none⟩
theorem wire_reads___byte__t0 : tableOf Tryz.prog 76 = some wire_reads___byte_ := by kernel_rfl
theorem wire_reads___byte__t : T0 76 = some wire_reads___byte_ := withTrue_t rfl wire_reads___byte__t0


/-! 77 (*landfall/wire.Reader).Bytes$1 -/
abbrev fn_wire_Reader_Bytes_1 : FuncId := 77
noncomputable def wire_Reader_Bytes_1_c : ACode :=
  (.seq (.region [
      ⟨(some 4), .mov (.const (.slice none 0 0)), none, [], false⟩]) (.seq (.region [
      ⟨(some 6), .load none (.tmp 1), none, [], false⟩,
      ⟨(some 7), .mov (.tmp 0), none, [], false⟩,
      ⟨(some 8), .callV (.func 74) [(.tmp 6), (.tmp 7)], none, [], false⟩,
      ⟨(some 5), .mov (.tmp 8), none, [], false⟩]) (.seq (.region [
      ⟨(some 9), .mov (.tmp 5), none, [], false⟩,
      ⟨(some 10), .load none (.tmp 2), none, [], false⟩,
      ⟨(some 11), .raw (so (.call ⟨.builtin .max, #[(.tmp 10), (.const (.int .i64 0))], #[3, 3]⟩) 3), none, [], false⟩,
      ⟨(some 12), .bin .leq (so (.binOp .leq 3 (.tmp 9) (.tmp 11) 3) 4) (.tmp 9) (.tmp 11), none, [], false⟩,
      ⟨(some 13), .mov (.tmp 0), none, [], false⟩,
      ⟨(some 14), .callV (.func 78) [(.tmp 12), (.const (.int .i64 4)), (.tmp 13)], none, [], false⟩]) (.seq (.region [
      ⟨(some 15), .load none (.tmp 1), none, [], false⟩,
      ⟨(some 16), .mov (.tmp 5), none, [], false⟩,
      ⟨(some 17), .mov (.tmp 0), none, [], false⟩,
      ⟨(some 18), .callV (.func 79) [(.tmp 15), (.tmp 16), (.tmp 17), (.func 72)], none, [], false⟩,
      ⟨(some 4), .mov (.tmp 18), none, [], false⟩]) .ret))))
noncomputable def wire_Reader_Bytes_1 : AFunc := ⟨19, [(4, none)], wire_Reader_Bytes_1_c, none⟩
theorem wire_Reader_Bytes_1_t0 : tableOf Tryz.prog 77 = some wire_Reader_Bytes_1 := by kernel_rfl
theorem wire_Reader_Bytes_1_t : T0 77 = some wire_Reader_Bytes_1 := withTrue_t rfl wire_Reader_Bytes_1_t0


/-! 78 landfall/wire.must -/
abbrev fn_wire_must : FuncId := 78
noncomputable def wire_must_c : ACode :=
  (.seq (.region [
      ⟨(some 6), .mov (.tmp 0), none, [], false⟩,
      ⟨(some 7), .raw (so (.unOp .not 4 (.tmp 6)) 4), none, [], false⟩]) (.cond (.tmp 7)
    (.region [
      ⟨(some 8), .mov (.tmp 1), none, [], false⟩,
      ⟨(some 9), .mov (.tmp 2), none, [], false⟩,
      ⟨(some 10), .build [(.int .i64 0), (.int .i64 0)] [(0, 1, (.tmp 8)), (1, 1, (.tmp 9))], none, [], false⟩,
      ⟨(some 11), .build [(.int .i64 0), (.int .i64 0)] [(0, 2, (.tmp 10))], none, [], false⟩,
      ⟨(some 12), .mkIface 162 (.tmp 11), none, [], false⟩,
      ⟨none, .panic (.tmp 12), none, [], false⟩])
    .skip))
noncomputable def wire_must : AFunc := ⟨13, [], wire_must_c, none⟩
theorem wire_must_t0 : tableOf Tryz.prog 78 = some wire_must := by kernel_rfl
theorem wire_must_t : T0 78 = some wire_must := withTrue_t rfl wire_must_t0


/-! 79 landfall/wire.take[[]byte] -/
abbrev fn_wire_take___byte_ : FuncId := 79
noncomputable def wire_take___byte__c : ACode :=
  (.seq (.region [
      ⟨(some 8), .mov (.const (.slice none 0 0)), none, [], false⟩]) (.seq (.regionD [
      ⟨(some 9), .mov (.tmp 1), none, [], false⟩,
      ⟨(some 10), .mov (.tmp 0), none, [], false⟩,
      ⟨(some 11), .nilCheck (.tmp 10), none, [], false⟩,
      ⟨(some 12), .fieldAddr 0 (.tmp 11), none, [], false⟩,
      ⟨(some 13), .load none (.tmp 12), none, [], false⟩,
      ⟨(some 14), .lenSl (.tmp 13), none, [], false⟩,
      ⟨(some 15), .mov (.tmp 0), none, [], false⟩,
      ⟨(some 16), .nilCheck (.tmp 15), none, [], false⟩,
      ⟨(some 17), .fieldAddr 1 (.tmp 16), none, [], false⟩,
      ⟨(some 18), .load none (.tmp 17), none, [], false⟩,
      ⟨(some 19), .bin .sub (so (.binOp .sub 3 (.tmp 14) (.tmp 18) 3) 3) (.tmp 14) (.tmp 18), none, [], false⟩,
      ⟨(some 20), .bin .leq (so (.binOp .leq 3 (.tmp 9) (.tmp 19) 3) 4) (.tmp 9) (.tmp 19), none, [], false⟩,
      ⟨(some 21), .mov (.tmp 2), none, [], false⟩,
      ⟨(some 22), .callV (.func 78) [(.tmp 20), (.const (.int .i64 6)), (.tmp 21)], none, [], true⟩]) (.seq (.region [
      ⟨(some 23), .mov (.tmp 0), none, [], false⟩,
      ⟨(some 24), .nilCheck (.tmp 23), none, [], false⟩,
      ⟨(some 25), .fieldAddr 1 (.tmp 24), none, [], false⟩,
      ⟨(some 26), .load none (.tmp 25), none, [], false⟩,
      ⟨(some 27), .mov (.tmp 1), none, [], false⟩,
      ⟨(some 28), .bin .add (so (.binOp .add 3 (.tmp 26) (.tmp 27) 3) 3) (.tmp 26) (.tmp 27), none, [], false⟩,
      ⟨(some 29), .nilCheck (.tmp 23), none, [], false⟩,
      ⟨(some 30), .fieldAddr 1 (.tmp 29), none, [], false⟩,
      ⟨none, .store 1 (.tmp 30) (.tmp 28), none, [], false⟩]) (.seq (.regionD [
      ⟨(some 31), .mov (.tmp 3), none, [], false⟩,
      ⟨(some 32), .mov (.tmp 0), none, [], false⟩,
      ⟨(some 33), .nilCheck (.tmp 32), none, [], false⟩,
      ⟨(some 34), .fieldAddr 0 (.tmp 33), none, [], false⟩,
      ⟨(some 35), .load none (.tmp 34), none, [], false⟩,
      ⟨(some 36), .mov (.tmp 0), none, [], false⟩,
      ⟨(some 37), .nilCheck (.tmp 36), none, [], false⟩,
      ⟨(some 38), .fieldAddr 1 (.tmp 37), none, [], false⟩,
      ⟨(some 39), .load none (.tmp 38), none, [], false⟩,
      ⟨(some 40), .mov (.tmp 1), none, [], false⟩,
      ⟨(some 41), .bin .sub (so (.binOp .sub 3 (.tmp 39) (.tmp 40) 3) 3) (.tmp 39) (.tmp 40), none, [], false⟩,
      ⟨(some 42), .mov (.tmp 0), none, [], false⟩,
      ⟨(some 43), .nilCheck (.tmp 42), none, [], false⟩,
      ⟨(some 44), .fieldAddr 1 (.tmp 43), none, [], false⟩,
      ⟨(some 45), .load none (.tmp 44), none, [], false⟩,
      ⟨(some 46), .sliceSl 1 (.tmp 35) (some (.tmp 41)) (some (.tmp 45)) none, none, [], false⟩,
      ⟨(some 47), .callV (.tmp 31) [(.tmp 46)], none, [], true⟩,
      ⟨(some 8), .mov (.tmp 47), none, [], true⟩]) .ret))))
noncomputable def wire_take___byte_ : AFunc := ⟨48, [(8, none)], wire_take___byte__c, none⟩
theorem wire_take___byte__t0 : tableOf Tryz.prog 79 = some wire_take___byte_ := by kernel_rfl
theorem wire_take___byte__t : T0 79 = some wire_take___byte_ := withTrue_t rfl wire_take___byte__t0


/-! 80 landfall/block.part[landfall/api.Header] -/
abbrev fn_block_part_api_Header_ : FuncId := 80
noncomputable def block_part_api_Header__c : ACode :=
  (.seq (.region [
      ⟨(some 8), .alloc 30 ((.string ⟨⟨[]⟩⟩) :: ((.int .i64 0) :: ((.int .i64 0) :: (z32 ++ (z32 ++ (z32 ++ z32)))))), none, [], false⟩]) (.seq (.seq (.region [
      ⟨(some 13), .mov (.tmp 2), none, [], false⟩,
      ⟨(some 14), .nilCheck (.tmp 13), none, [], false⟩,
      ⟨(some 15), .load (some 2) (.tmp 14), none, [], false⟩,
      ⟨(some 16), .build [(.int .i64 0), (.int .i64 0)] [], none, [], false⟩,
      ⟨(some 17), .bin .neq (so (.binOp .neq 43 (.tmp 15) (.tmp 16) 43) 4) (.tmp 15) (.tmp 16), none, [], false⟩]) (.cond (.tmp 17)
    (.seq (.region [
      ⟨(some 18), .load (some 131) (.tmp 8), none, [], false⟩,
      ⟨none, .store 131 (.tmp 8) (.tmp 18), none, [], false⟩]) .ret)
    .skip)) (.seq (.region [
      ⟨(some 19), .mov (.tmp 1), none, [], false⟩,
      ⟨(some 20), .mov (.tmp 0), none, [], false⟩,
      ⟨(some 21), .callV (.func 75) [(.tmp 20)], none, [], false⟩,
      ⟨(some 22), .bin .sub (so (.binOp .sub 3 (.tmp 19) (.tmp 21) 3) 3) (.tmp 19) (.tmp 21), none, [], false⟩,
      ⟨(some 9), .mov (.tmp 22), none, [], false⟩]) (.seq (.region [
      ⟨(some 23), .mov (.tmp 0), none, [], false⟩,
      ⟨(some 24), .callV (.func 39) [(.tmp 23), (.const (.int .i64 65536))], none, [], false⟩,
      ⟨(some 10), .mov (.tmp 24), none, [], false⟩]) (.seq (.seq (.region [
      ⟨(some 25), .mov (.tmp 0), none, [], false⟩,
      ⟨(some 26), .callV (.func 75) [(.tmp 25)], none, [], false⟩,
      ⟨(some 27), .bin .eql (so (.binOp .eql 3 (.tmp 26) (.const (.int .i64 0)) 3) 4) (.tmp 26) (.const (.int .i64 0)), none, [], false⟩,
      ⟨(some 28), .mov (.tmp 27), none, [], false⟩,
      ⟨(some 29), .mov (.tmp 0), (some (28, true)), [], false⟩,
      ⟨(some 30), .callV (.func 41) [(.tmp 29)], (some (28, true)), [], false⟩,
      ⟨(some 31), .build [(.int .i64 0), (.int .i64 0)] [], (some (28, true)), [], false⟩,
      ⟨(some 32), .bin .neq (so (.binOp .neq 43 (.tmp 30) (.tmp 31) 43) 4) (.tmp 30) (.tmp 31), (some (28, true)), [], false⟩,
      ⟨(some 33), .pick (.tmp 28) (.tmp 32) (.const (.bool false)), none, [], false⟩]) (.cond (.tmp 33)
    (.seq (.region [
      ⟨(some 34), .mov (.tmp 2), none, [], false⟩,
      ⟨(some 35), .mov (.tmp 0), none, [], false⟩,
      ⟨(some 36), .callV (.func 41) [(.tmp 35)], none, [], false⟩,
      ⟨(some 37), .nilCheck (.tmp 34), none, [], false⟩,
      ⟨none, .store 2 (.tmp 37) (.tmp 36), none, [], false⟩]) (.seq (.region [
      ⟨(some 38), .load (some 131) (.tmp 8), none, [], false⟩,
      ⟨none, .store 131 (.tmp 8) (.tmp 38), none, [], false⟩]) .ret))
    .skip)) (.seq (.region [
      ⟨(some 40), .mov (.tmp 3), none, [], false⟩,
      ⟨(some 41), .mov (.tmp 10), none, [], false⟩,
      ⟨(some 42), .callV (.tmp 40) [(.tmp 41)], none, [], false⟩,
      ⟨(some 39), .mov (.tmp 42), none, [], false⟩,
      ⟨(some 43), .extract 0 (.tmp 39), none, [], false⟩,
      ⟨(some 44), .extract 1 (.tmp 39), none, [], false⟩,
      ⟨(some 11), .alloc 30 ((.string ⟨⟨[]⟩⟩) :: ((.int .i64 0) :: ((.int .i64 0) :: (z32 ++ (z32 ++ (z32 ++ z32)))))), none, [], false⟩,
      ⟨(some 12), .alloc 43 [(.int .i64 0), (.int .i64 0)], none, [], false⟩,
      ⟨none, .store 131 (.tmp 11) (.tmp 43), none, [], false⟩,
      ⟨none, .store 2 (.tmp 12) (.tmp 44), none, [], false⟩]) (.seq (.seq (.region [
      ⟨(some 45), .load (some 2) (.tmp 12), none, [], false⟩,
      ⟨(some 46), .build [(.int .i64 0), (.int .i64 0)] [], none, [], false⟩,
      ⟨(some 47), .bin .neq (so (.binOp .neq 43 (.tmp 45) (.tmp 46) 43) 4) (.tmp 45) (.tmp 46), none, [], false⟩]) (.cond (.tmp 47)
    (.seq (.region [
      ⟨(some 48), .mov (.tmp 2), none, [], false⟩,
      ⟨(some 49), .mov (.tmp 9), none, [], false⟩,
      ⟨(some 50), .build [(.int .i64 0), (.int .i64 0)] [(0, 1, (.const (.int .i64 5))), (1, 1, (.tmp 49))], none, [], false⟩,
      ⟨(some 51), .nilCheck (.tmp 48), none, [], false⟩,
      ⟨none, .store 2 (.tmp 51) (.tmp 50), none, [], false⟩]) (.seq (.region [
      ⟨(some 52), .load (some 131) (.tmp 8), none, [], false⟩,
      ⟨none, .store 131 (.tmp 8) (.tmp 52), none, [], false⟩]) .ret))
    .skip)) (.seq (.region [
      ⟨(some 53), .load (some 131) (.tmp 11), none, [], false⟩,
      ⟨none, .store 131 (.tmp 8) (.tmp 53), none, [], false⟩]) .ret))))))))
noncomputable def block_part_api_Header_ : AFunc := ⟨54, [(8, some (some 131))], block_part_api_Header__c, none⟩
theorem block_part_api_Header__t0 : tableOf Tryz.prog 80 = some block_part_api_Header_ := by kernel_rfl
theorem block_part_api_Header__t : T0 80 = some block_part_api_Header_ := withTrue_t rfl block_part_api_Header__t0


/-! 81 landfall/header.Decode -/
abbrev fn_header_Decode : FuncId := 81
noncomputable def header_Decode_l0 : ACode :=
  (.seq (.region [
      ⟨(some 20), .bin .lss (so (.binOp .lss 3 (.tmp 19) (.const (.int .i64 4)) 3) 0) (.tmp 19) (.const (.int .i64 4)), none, [], false⟩]) (.seq (.cond (.tmp 20)
    .skip
    (.exit 0)) (.seq (.block 1 (.seq (.region [
      ⟨(some 21), .index 4 1 none (.tmp 18) (.tmp 19), none, [], false⟩,
      ⟨(some 7), .mov (.tmp 21), none, [], false⟩]) (.region [
      ⟨(some 22), .mov (.tmp 7), none, [], false⟩,
      ⟨(some 23), .mov (.tmp 4), none, [], false⟩,
      ⟨(some 24), .callV (.func 119) [(.tmp 23)], none, [], false⟩,
      ⟨(some 25), .nilCheck (.tmp 22), none, [], false⟩,
      ⟨none, .store 32 (.tmp 25) (.tmp 24), none, [], false⟩]))) (.region [
      ⟨(some 26), .bin .add (so (.binOp .add 3 (.tmp 19) (.const (.int .i64 1)) 3) 3) (.tmp 19) (.const (.int .i64 1)), none, [], false⟩,
      ⟨(some 19), .mov (.tmp 26), none, [], false⟩]))))
noncomputable def header_Decode_c : ACode :=
  (.seq (.region [
      ⟨(some 2), .alloc 30 ((.string ⟨⟨[]⟩⟩) :: ((.int .i64 0) :: ((.int .i64 0) :: (z32 ++ (z32 ++ (z32 ++ z32)))))), none, [], false⟩,
      ⟨(some 3), .alloc 43 [(.int .i64 0), (.int .i64 0)], none, [], false⟩]) (.seq (.region [
      ⟨(some 9), .mov (.tmp 0), none, [], false⟩,
      ⟨(some 10), .callV (.func 32) [(.tmp 9)], none, [], false⟩,
      ⟨(some 4), .mov (.tmp 10), none, [], false⟩]) (.seq (.region [
      ⟨(some 11), .mov (.tmp 4), none, [], false⟩,
      ⟨(some 12), .callV (.func 118) [(.tmp 11), (.const (.int .i64 32))], none, [], false⟩,
      ⟨(some 13), .mov (.tmp 4), none, [], false⟩,
      ⟨(some 14), .callV (.func 33) [(.tmp 13)], none, [], false⟩,
      ⟨(some 15), .mov (.tmp 4), none, [], false⟩,
      ⟨(some 16), .callV (.func 33) [(.tmp 15)], none, [], false⟩,
      ⟨(some 17), .build ((.string ⟨⟨[]⟩⟩) :: ((.int .i64 0) :: ((.int .i64 0) :: (z32 ++ (z32 ++ (z32 ++ z32)))))) [(0, 1, (.tmp 12)), (1, 1, (.tmp 14)), (2, 1, (.tmp 16))], none, [], false⟩,
      ⟨(some 5), .alloc 30 ((.string ⟨⟨[]⟩⟩) :: ((.int .i64 0) :: ((.int .i64 0) :: (z32 ++ (z32 ++ (z32 ++ z32)))))), none, [], false⟩,
      ⟨none, .store 131 (.tmp 5) (.tmp 17), none, [], false⟩]) (.seq (.seq (.region [
      ⟨(some 18), .callV (.func 108) [(.tmp 5)], none, [], false⟩,
      ⟨(some 19), .mov (.const (.int .i64 0)), none, [], false⟩]) (.block 0 (.loop header_Decode_l0))) (.seq (.region [
      ⟨(some 27), .mov (.tmp 4), none, [], false⟩,
      ⟨(some 28), .callV (.func 41) [(.tmp 27)], none, [], false⟩,
      ⟨(some 8), .alloc 43 [(.int .i64 0), (.int .i64 0)], none, [], false⟩,
      ⟨none, .store 2 (.tmp 8) (.tmp 28), none, [], false⟩]) (.seq (.seq (.region [
      ⟨(some 29), .load (some 2) (.tmp 8), none, [], false⟩,
      ⟨(some 30), .build [(.int .i64 0), (.int .i64 0)] [], none, [], false⟩,
      ⟨(some 31), .bin .eql (so (.binOp .eql 43 (.tmp 29) (.tmp 30) 43) 4) (.tmp 29) (.tmp 30), none, [], false⟩]) (.cond (.tmp 31)
    (.region [
      ⟨(some 32), .load (some 131) (.tmp 5), none, [], false⟩,
      ⟨(some 33), .callV (.func 101) [(.tmp 32)], none, [], false⟩,
      ⟨(some 34), .fieldAddr 0 (.tmp 8), none, [], false⟩,
      ⟨none, .store 1 (.tmp 34) (.tmp 33), none, [], false⟩])
    .skip)) (.seq (.seq (.region [
      ⟨(some 35), .load (some 2) (.tmp 8), none, [], false⟩,
      ⟨(some 36), .build [(.int .i64 0), (.int .i64 0)] [], none, [], false⟩,
      ⟨(some 37), .bin .neq (so (.binOp .neq 43 (.tmp 35) (.tmp 36) 43) 4) (.tmp 35) (.tmp 36), none, [], false⟩]) (.cond (.tmp 37)
    (.seq (.regionD [
      ⟨(some 38), .build ((.string ⟨⟨[]⟩⟩) :: ((.int .i64 0) :: ((.int .i64 0) :: (z32 ++ (z32 ++ (z32 ++ z32)))))) [], none, [], false⟩,
      ⟨(some 39), .load (some 2) (.tmp 8), none, [], false⟩,
      ⟨none, .store 131 (.tmp 2) (.tmp 38), none, [((some 39), .load (some 2) (.tmp 8), none)], false⟩,
      ⟨none, .store 2 (.tmp 3) (.tmp 39), none, [], true⟩]) .ret)
    .skip)) (.seq (.regionD [
      ⟨(some 40), .load (some 131) (.tmp 5), none, [], false⟩,
      ⟨(some 41), .load (some 2) (.tmp 8), none, [], false⟩,
      ⟨none, .store 131 (.tmp 2) (.tmp 40), none, [((some 41), .load (some 2) (.tmp 8), none)], false⟩,
      ⟨none, .store 2 (.tmp 3) (.tmp 41), none, [], true⟩]) .ret))))))))
noncomputable def header_Decode : AFunc := ⟨42, [(2, some (some 131)), (3, some (some 2))], header_Decode_c, none⟩
theorem header_Decode_t0 : tableOf Tryz.prog 81 = some header_Decode := by kernel_rfl
theorem header_Decode_t : T0 81 = some header_Decode := withTrue_t rfl header_Decode_t0


/-! 82 landfall/block.part[landfall/api.Commit] -/
abbrev fn_block_part_api_Commit_ : FuncId := 82
noncomputable def block_part_api_Commit__c : ACode :=
  (.seq (.region [
      ⟨(some 8), .alloc 33 ((.int .i64 0) :: (z32 ++ [(.slice none 0 0)])), none, [], false⟩]) (.seq (.seq (.region [
      ⟨(some 13), .mov (.tmp 2), none, [], false⟩,
      ⟨(some 14), .nilCheck (.tmp 13), none, [], false⟩,
      ⟨(some 15), .load (some 2) (.tmp 14), none, [], false⟩,
      ⟨(some 16), .build [(.int .i64 0), (.int .i64 0)] [], none, [], false⟩,
      ⟨(some 17), .bin .neq (so (.binOp .neq 43 (.tmp 15) (.tmp 16) 43) 4) (.tmp 15) (.tmp 16), none, [], false⟩]) (.cond (.tmp 17)
    (.seq (.region [
      ⟨(some 18), .load (some 34) (.tmp 8), none, [], false⟩,
      ⟨none, .store 34 (.tmp 8) (.tmp 18), none, [], false⟩]) .ret)
    .skip)) (.seq (.region [
      ⟨(some 19), .mov (.tmp 1), none, [], false⟩,
      ⟨(some 20), .mov (.tmp 0), none, [], false⟩,
      ⟨(some 21), .callV (.func 75) [(.tmp 20)], none, [], false⟩,
      ⟨(some 22), .bin .sub (so (.binOp .sub 3 (.tmp 19) (.tmp 21) 3) 3) (.tmp 19) (.tmp 21), none, [], false⟩,
      ⟨(some 9), .mov (.tmp 22), none, [], false⟩]) (.seq (.region [
      ⟨(some 23), .mov (.tmp 0), none, [], false⟩,
      ⟨(some 24), .callV (.func 39) [(.tmp 23), (.const (.int .i64 65536))], none, [], false⟩,
      ⟨(some 10), .mov (.tmp 24), none, [], false⟩]) (.seq (.seq (.region [
      ⟨(some 25), .mov (.tmp 0), none, [], false⟩,
      ⟨(some 26), .callV (.func 75) [(.tmp 25)], none, [], false⟩,
      ⟨(some 27), .bin .eql (so (.binOp .eql 3 (.tmp 26) (.const (.int .i64 0)) 3) 4) (.tmp 26) (.const (.int .i64 0)), none, [], false⟩,
      ⟨(some 28), .mov (.tmp 27), none, [], false⟩,
      ⟨(some 29), .mov (.tmp 0), (some (28, true)), [], false⟩,
      ⟨(some 30), .callV (.func 41) [(.tmp 29)], (some (28, true)), [], false⟩,
      ⟨(some 31), .build [(.int .i64 0), (.int .i64 0)] [], (some (28, true)), [], false⟩,
      ⟨(some 32), .bin .neq (so (.binOp .neq 43 (.tmp 30) (.tmp 31) 43) 4) (.tmp 30) (.tmp 31), (some (28, true)), [], false⟩,
      ⟨(some 33), .pick (.tmp 28) (.tmp 32) (.const (.bool false)), none, [], false⟩]) (.cond (.tmp 33)
    (.seq (.region [
      ⟨(some 34), .mov (.tmp 2), none, [], false⟩,
      ⟨(some 35), .mov (.tmp 0), none, [], false⟩,
      ⟨(some 36), .callV (.func 41) [(.tmp 35)], none, [], false⟩,
      ⟨(some 37), .nilCheck (.tmp 34), none, [], false⟩,
      ⟨none, .store 2 (.tmp 37) (.tmp 36), none, [], false⟩]) (.seq (.region [
      ⟨(some 38), .load (some 34) (.tmp 8), none, [], false⟩,
      ⟨none, .store 34 (.tmp 8) (.tmp 38), none, [], false⟩]) .ret))
    .skip)) (.seq (.region [
      ⟨(some 40), .mov (.tmp 3), none, [], false⟩,
      ⟨(some 41), .mov (.tmp 10), none, [], false⟩,
      ⟨(some 42), .callV (.tmp 40) [(.tmp 41)], none, [], false⟩,
      ⟨(some 39), .mov (.tmp 42), none, [], false⟩,
      ⟨(some 43), .extract 0 (.tmp 39), none, [], false⟩,
      ⟨(some 44), .extract 1 (.tmp 39), none, [], false⟩,
      ⟨(some 11), .alloc 33 ((.int .i64 0) :: (z32 ++ [(.slice none 0 0)])), none, [], false⟩,
      ⟨(some 12), .alloc 43 [(.int .i64 0), (.int .i64 0)], none, [], false⟩,
      ⟨none, .store 34 (.tmp 11) (.tmp 43), none, [], false⟩,
      ⟨none, .store 2 (.tmp 12) (.tmp 44), none, [], false⟩]) (.seq (.seq (.region [
      ⟨(some 45), .load (some 2) (.tmp 12), none, [], false⟩,
      ⟨(some 46), .build [(.int .i64 0), (.int .i64 0)] [], none, [], false⟩,
      ⟨(some 47), .bin .neq (so (.binOp .neq 43 (.tmp 45) (.tmp 46) 43) 4) (.tmp 45) (.tmp 46), none, [], false⟩]) (.cond (.tmp 47)
    (.seq (.region [
      ⟨(some 48), .mov (.tmp 2), none, [], false⟩,
      ⟨(some 49), .mov (.tmp 9), none, [], false⟩,
      ⟨(some 50), .build [(.int .i64 0), (.int .i64 0)] [(0, 1, (.const (.int .i64 5))), (1, 1, (.tmp 49))], none, [], false⟩,
      ⟨(some 51), .nilCheck (.tmp 48), none, [], false⟩,
      ⟨none, .store 2 (.tmp 51) (.tmp 50), none, [], false⟩]) (.seq (.region [
      ⟨(some 52), .load (some 34) (.tmp 8), none, [], false⟩,
      ⟨none, .store 34 (.tmp 8) (.tmp 52), none, [], false⟩]) .ret))
    .skip)) (.seq (.region [
      ⟨(some 53), .load (some 34) (.tmp 11), none, [], false⟩,
      ⟨none, .store 34 (.tmp 8) (.tmp 53), none, [], false⟩]) .ret))))))))
noncomputable def block_part_api_Commit_ : AFunc := ⟨54, [(8, some (some 34))], block_part_api_Commit__c, none⟩
theorem block_part_api_Commit__t0 : tableOf Tryz.prog 82 = some block_part_api_Commit_ := by kernel_rfl
theorem block_part_api_Commit__t : T0 82 = some block_part_api_Commit_ := withTrue_t rfl block_part_api_Commit__t0


/-! 83 landfall/commit.Decode -/
abbrev fn_commit_Decode : FuncId := 83
noncomputable def commit_Decode_l0 : ACode :=
  (.seq (.region [
      ⟨(some 30), .bin .lss (so (.binOp .lss 3 (.tmp 29) (.tmp 28) 3) 4) (.tmp 29) (.tmp 28), none, [], false⟩]) (.seq (.cond (.tmp 30)
    .skip
    (.exit 0)) (.seq (.block 1 (.seq (.region [
      ⟨(some 31), .mov (.tmp 4), none, [], false⟩,
      ⟨(some 32), .callV (.func 33) [(.tmp 31)], none, [], false⟩,
      ⟨(some 33), .build [(.int .i64 0), (.int .u64 0)] [(0, 1, (.tmp 32))], none, [], false⟩,
      ⟨(some 7), .alloc 134 [(.int .i64 0), (.int .u64 0)], none, [], false⟩,
      ⟨none, .store 2 (.tmp 7) (.tmp 33), none, [], false⟩]) (.seq (.region [
      ⟨(some 34), .mov (.tmp 4), none, [], false⟩,
      ⟨(some 35), .callV (.func 120) [(.tmp 34)], none, [], false⟩,
      ⟨(some 36), .fieldAddr 1 (.tmp 7), none, [], false⟩,
      ⟨none, .store 1 (.tmp 36) (.tmp 35), none, [], false⟩]) (.region [
      ⟨(some 37), .fieldAddr 33 (.tmp 2), none, [], false⟩,
      ⟨(some 38), .load none (.tmp 37), none, [], false⟩,
      ⟨(some 39), .load (some 2) (.tmp 7), none, [], false⟩,
      ⟨(some 40), .buildSlice 134 [(.int .i64 0), (.int .u64 0)] 1 [(0, 2, (.tmp 39))], none, [], false⟩,
      ⟨(some 41), .append 134 2 16 [(.int .i64 0), (.int .u64 0)] false (.tmp 38) (.tmp 40), none, [], false⟩,
      ⟨(some 42), .fieldAddr 33 (.tmp 2), none, [], false⟩,
      ⟨none, .store 1 (.tmp 42) (.tmp 41), none, [], false⟩])))) (.region [
      ⟨(some 43), .bin .add (so (.binOp .add 3 (.tmp 29) (.const (.int .i64 1)) 3) 3) (.tmp 29) (.const (.int .i64 1)), none, [], false⟩,
      ⟨(some 29), .mov (.tmp 43), none, [], false⟩]))))
noncomputable def commit_Decode_c : ACode :=
  (.seq (.region [
      ⟨(some 2), .alloc 33 ((.int .i64 0) :: (z32 ++ [(.slice none 0 0)])), none, [], false⟩,
      ⟨(some 3), .alloc 43 [(.int .i64 0), (.int .i64 0)], none, [], false⟩]) (.seq (.region [
      ⟨(some 8), .mov (.tmp 0), none, [], false⟩,
      ⟨(some 9), .callV (.func 32) [(.tmp 8)], none, [], false⟩,
      ⟨(some 4), .mov (.tmp 9), none, [], false⟩]) (.seq (.region [
      ⟨(some 10), .mov (.tmp 4), none, [], false⟩,
      ⟨(some 11), .callV (.func 33) [(.tmp 10)], none, [], false⟩,
      ⟨(some 12), .fieldAddr 0 (.tmp 2), none, [], false⟩,
      ⟨none, .store 1 (.tmp 12) (.tmp 11), none, [], false⟩]) (.seq (.region [
      ⟨(some 13), .mov (.tmp 4), none, [], false⟩,
      ⟨(some 14), .callV (.func 119) [(.tmp 13)], none, [], false⟩,
      ⟨(some 15), .fieldAddr 1 (.tmp 2), none, [], false⟩,
      ⟨none, .store 32 (.tmp 15) (.tmp 14), none, [], false⟩]) (.seq (.region [
      ⟨(some 16), .mov (.tmp 0), none, [], false⟩,
      ⟨(some 17), .lenSl (.tmp 16), none, [], false⟩,
      ⟨(some 18), .mov (.tmp 4), none, [], false⟩,
      ⟨(some 19), .callV (.func 75) [(.tmp 18)], none, [], false⟩,
      ⟨(some 20), .bin .sub (so (.binOp .sub 3 (.tmp 17) (.tmp 19) 3) 3) (.tmp 17) (.tmp 19), none, [], false⟩,
      ⟨(some 5), .mov (.tmp 20), none, [], false⟩]) (.seq (.region [
      ⟨(some 21), .mov (.tmp 4), none, [], false⟩,
      ⟨(some 22), .callV (.func 33) [(.tmp 21)], none, [], false⟩,
      ⟨(some 6), .mov (.tmp 22), none, [], false⟩]) (.seq (.seq (.region [
      ⟨(some 23), .mov (.tmp 6), none, [], false⟩,
      ⟨(some 24), .bin .gtr (so (.binOp .gtr 3 (.tmp 23) (.const (.int .i64 64)) 3) 4) (.tmp 23) (.const (.int .i64 64)), none, [], false⟩]) (.cond (.tmp 24)
    (.seq (.region [
      ⟨(some 25), .build ((.int .i64 0) :: (z32 ++ [(.slice none 0 0)])) [], none, [], false⟩,
      ⟨(some 26), .mov (.tmp 5), none, [], false⟩,
      ⟨(some 27), .build [(.int .i64 0), (.int .i64 0)] [(0, 1, (.const (.int .i64 4))), (1, 1, (.tmp 26))], none, [], false⟩,
      ⟨none, .store 34 (.tmp 2) (.tmp 25), none, [], false⟩,
      ⟨none, .store 2 (.tmp 3) (.tmp 27), none, [], false⟩]) .ret)
    .skip)) (.seq (.seq (.region [
      ⟨(some 28), .mov (.tmp 6), none, [], false⟩,
      ⟨(some 29), .mov (.const (.int .i64 0)), none, [], false⟩]) (.block 0 (.loop commit_Decode_l0))) (.seq (.seq (.region [
      ⟨(some 44), .mov (.tmp 4), none, [], false⟩,
      ⟨(some 45), .callV (.func 41) [(.tmp 44)], none, [], false⟩,
      ⟨none, .store 2 (.tmp 3) (.tmp 45), none, [], false⟩]) (.seq (.region [
      ⟨(some 46), .load (some 2) (.tmp 3), none, [], false⟩,
      ⟨(some 47), .build [(.int .i64 0), (.int .i64 0)] [], none, [], false⟩,
      ⟨(some 48), .bin .eql (so (.binOp .eql 43 (.tmp 46) (.tmp 47) 43) 4) (.tmp 46) (.tmp 47), none, [], false⟩]) (.cond (.tmp 48)
    (.region [
      ⟨(some 49), .load (some 34) (.tmp 2), none, [], false⟩,
      ⟨(some 50), .callV (.func 105) [(.tmp 49)], none, [], false⟩,
      ⟨(some 51), .fieldAddr 0 (.tmp 3), none, [], false⟩,
      ⟨none, .store 1 (.tmp 51) (.tmp 50), none, [], false⟩])
    .skip))) (.seq (.seq (.region [
      ⟨(some 52), .load (some 2) (.tmp 3), none, [], false⟩,
      ⟨(some 53), .build [(.int .i64 0), (.int .i64 0)] [], none, [], false⟩,
      ⟨(some 54), .bin .neq (so (.binOp .neq 43 (.tmp 52) (.tmp 53) 43) 4) (.tmp 52) (.tmp 53), none, [], false⟩]) (.cond (.tmp 54)
    (.seq (.regionD [
      ⟨(some 55), .build ((.int .i64 0) :: (z32 ++ [(.slice none 0 0)])) [], none, [], false⟩,
      ⟨(some 56), .load (some 2) (.tmp 3), none, [], false⟩,
      ⟨none, .store 34 (.tmp 2) (.tmp 55), none, [((some 56), .load (some 2) (.tmp 3), none)], false⟩,
      ⟨none, .store 2 (.tmp 3) (.tmp 56), none, [], true⟩]) .ret)
    .skip)) (.seq (.regionD [
      ⟨(some 57), .load (some 34) (.tmp 2), none, [], false⟩,
      ⟨(some 58), .load (some 2) (.tmp 3), none, [], false⟩,
      ⟨none, .store 34 (.tmp 2) (.tmp 57), none, [((some 58), .load (some 2) (.tmp 3), none)], false⟩,
      ⟨none, .store 2 (.tmp 3) (.tmp 58), none, [], true⟩]) .ret)))))))))))
noncomputable def commit_Decode : AFunc := ⟨59, [(2, some (some 34)), (3, some (some 2))], commit_Decode_c, none⟩
theorem commit_Decode_t0 : tableOf Tryz.prog 83 = some commit_Decode := by kernel_rfl
theorem commit_Decode_t : T0 83 = some commit_Decode := withTrue_t rfl commit_Decode_t0


/-! 84 landfall/block.part[[]landfall/api.Validator] -/
abbrev fn_block_part___api_Validator_ : FuncId := 84
noncomputable def block_part___api_Validator__c : ACode :=
  (.seq (.region [
      ⟨(some 8), .mov (.const (.slice none 0 0)), none, [], false⟩]) (.seq (.seq (.region [
      ⟨(some 13), .mov (.tmp 2), none, [], false⟩,
      ⟨(some 14), .nilCheck (.tmp 13), none, [], false⟩,
      ⟨(some 15), .load (some 2) (.tmp 14), none, [], false⟩,
      ⟨(some 16), .build [(.int .i64 0), (.int .i64 0)] [], none, [], false⟩,
      ⟨(some 17), .bin .neq (so (.binOp .neq 43 (.tmp 15) (.tmp 16) 43) 4) (.tmp 15) (.tmp 16), none, [], false⟩]) (.cond (.tmp 17)
    (.seq (.region [
      ⟨(some 18), .mov (.tmp 8), none, [], false⟩,
      ⟨(some 8), .mov (.tmp 18), none, [], false⟩]) .ret)
    .skip)) (.seq (.region [
      ⟨(some 19), .mov (.tmp 1), none, [], false⟩,
      ⟨(some 20), .mov (.tmp 0), none, [], false⟩,
      ⟨(some 21), .callV (.func 75) [(.tmp 20)], none, [], false⟩,
      ⟨(some 22), .bin .sub (so (.binOp .sub 3 (.tmp 19) (.tmp 21) 3) 3) (.tmp 19) (.tmp 21), none, [], false⟩,
      ⟨(some 9), .mov (.tmp 22), none, [], false⟩]) (.seq (.region [
      ⟨(some 23), .mov (.tmp 0), none, [], false⟩,
      ⟨(some 24), .callV (.func 39) [(.tmp 23), (.const (.int .i64 65536))], none, [], false⟩,
      ⟨(some 10), .mov (.tmp 24), none, [], false⟩]) (.seq (.seq (.region [
      ⟨(some 25), .mov (.tmp 0), none, [], false⟩,
      ⟨(some 26), .callV (.func 75) [(.tmp 25)], none, [], false⟩,
      ⟨(some 27), .bin .eql (so (.binOp .eql 3 (.tmp 26) (.const (.int .i64 0)) 3) 4) (.tmp 26) (.const (.int .i64 0)), none, [], false⟩,
      ⟨(some 28), .mov (.tmp 27), none, [], false⟩,
      ⟨(some 29), .mov (.tmp 0), (some (28, true)), [], false⟩,
      ⟨(some 30), .callV (.func 41) [(.tmp 29)], (some (28, true)), [], false⟩,
      ⟨(some 31), .build [(.int .i64 0), (.int .i64 0)] [], (some (28, true)), [], false⟩,
      ⟨(some 32), .bin .neq (so (.binOp .neq 43 (.tmp 30) (.tmp 31) 43) 4) (.tmp 30) (.tmp 31), (some (28, true)), [], false⟩,
      ⟨(some 33), .pick (.tmp 28) (.tmp 32) (.const (.bool false)), none, [], false⟩]) (.cond (.tmp 33)
    (.seq (.region [
      ⟨(some 34), .mov (.tmp 2), none, [], false⟩,
      ⟨(some 35), .mov (.tmp 0), none, [], false⟩,
      ⟨(some 36), .callV (.func 41) [(.tmp 35)], none, [], false⟩,
      ⟨(some 37), .nilCheck (.tmp 34), none, [], false⟩,
      ⟨none, .store 2 (.tmp 37) (.tmp 36), none, [], false⟩]) (.seq (.region [
      ⟨(some 38), .mov (.tmp 8), none, [], false⟩,
      ⟨(some 8), .mov (.tmp 38), none, [], false⟩]) .ret))
    .skip)) (.seq (.region [
      ⟨(some 40), .mov (.tmp 3), none, [], false⟩,
      ⟨(some 41), .mov (.tmp 10), none, [], false⟩,
      ⟨(some 42), .callV (.tmp 40) [(.tmp 41)], none, [], false⟩,
      ⟨(some 39), .mov (.tmp 42), none, [], false⟩,
      ⟨(some 43), .extract 0 (.tmp 39), none, [], false⟩,
      ⟨(some 44), .extract 1 (.tmp 39), none, [], false⟩,
      ⟨(some 12), .alloc 43 [(.int .i64 0), (.int .i64 0)], none, [], false⟩,
      ⟨(some 11), .mov (.tmp 43), none, [], false⟩,
      ⟨none, .store 2 (.tmp 12) (.tmp 44), none, [], false⟩]) (.seq (.seq (.region [
      ⟨(some 45), .load (some 2) (.tmp 12), none, [], false⟩,
      ⟨(some 46), .build [(.int .i64 0), (.int .i64 0)] [], none, [], false⟩,
      ⟨(some 47), .bin .neq (so (.binOp .neq 43 (.tmp 45) (.tmp 46) 43) 4) (.tmp 45) (.tmp 46), none, [], false⟩]) (.cond (.tmp 47)
    (.seq (.region [
      ⟨(some 48), .mov (.tmp 2), none, [], false⟩,
      ⟨(some 49), .mov (.tmp 9), none, [], false⟩,
      ⟨(some 50), .build [(.int .i64 0), (.int .i64 0)] [(0, 1, (.const (.int .i64 5))), (1, 1, (.tmp 49))], none, [], false⟩,
      ⟨(some 51), .nilCheck (.tmp 48), none, [], false⟩,
      ⟨none, .store 2 (.tmp 51) (.tmp 50), none, [], false⟩]) (.seq (.region [
      ⟨(some 52), .mov (.tmp 8), none, [], false⟩,
      ⟨(some 8), .mov (.tmp 52), none, [], false⟩]) .ret))
    .skip)) (.seq (.region [
      ⟨(some 53), .mov (.tmp 11), none, [], false⟩,
      ⟨(some 8), .mov (.tmp 53), none, [], false⟩]) .ret))))))))
noncomputable def block_part___api_Validator_ : AFunc := ⟨54, [(8, none)], block_part___api_Validator__c, none⟩
theorem block_part___api_Validator__t0 : tableOf Tryz.prog 84 = some block_part___api_Validator_ := by kernel_rfl
theorem block_part___api_Validator__t : T0 84 = some block_part___api_Validator_ := withTrue_t rfl block_part___api_Validator__t0


/-! 85 landfall/vals.Decode -/
abbrev fn_vals_Decode : FuncId := 85
noncomputable def vals_Decode_l0 : ACode :=
  (.seq (.region [
      ⟨(some 16), .bin .lss (so (.binOp .lss 3 (.tmp 15) (.tmp 14) 3) 4) (.tmp 15) (.tmp 14), none, [], false⟩]) (.seq (.cond (.tmp 16)
    .skip
    (.exit 0)) (.seq (.block 1 (.seq (.region [
      ⟨(some 17), .mov (.tmp 4), none, [], false⟩,
      ⟨(some 18), .callV (.func 121) [(.tmp 17)], none, [], false⟩,
      ⟨(some 19), .build [(.int .u8 0), (.int .u8 0), (.int .u8 0), (.int .u8 0), (.int .i64 0)] [(0, 4, (.tmp 18))], none, [], false⟩,
      ⟨(some 6), .alloc 132 [(.int .u8 0), (.int .u8 0), (.int .u8 0), (.int .u8 0), (.int .i64 0)], none, [], false⟩,
      ⟨none, .store 5 (.tmp 6) (.tmp 19), none, [], false⟩]) (.seq (.region [
      ⟨(some 20), .mov (.tmp 4), none, [], false⟩,
      ⟨(some 21), .callV (.func 33) [(.tmp 20)], none, [], false⟩,
      ⟨(some 22), .fieldAddr 4 (.tmp 6), none, [], false⟩,
      ⟨none, .store 1 (.tmp 22) (.tmp 21), none, [], false⟩]) (.region [
      ⟨(some 23), .mov (.tmp 2), none, [], false⟩,
      ⟨(some 24), .load (some 5) (.tmp 6), none, [], false⟩,
      ⟨(some 25), .buildSlice 132 [(.int .u8 0), (.int .u8 0), (.int .u8 0), (.int .u8 0), (.int .i64 0)] 1 [(0, 5, (.tmp 24))], none, [], false⟩,
      ⟨(some 26), .append 132 5 16 [(.int .u8 0), (.int .u8 0), (.int .u8 0), (.int .u8 0), (.int .i64 0)] false (.tmp 23) (.tmp 25), none, [], false⟩,
      ⟨(some 2), .mov (.tmp 26), none, [], false⟩])))) (.region [
      ⟨(some 27), .bin .add (so (.binOp .add 3 (.tmp 15) (.const (.int .i64 1)) 3) 3) (.tmp 15) (.const (.int .i64 1)), none, [], false⟩,
      ⟨(some 15), .mov (.tmp 27), none, [], false⟩]))))
noncomputable def vals_Decode_c : ACode :=
  (.seq (.region [
      ⟨(some 2), .mov (.const (.slice none 0 0)), none, [], false⟩,
      ⟨(some 3), .alloc 43 [(.int .i64 0), (.int .i64 0)], none, [], false⟩]) (.seq (.region [
      ⟨(some 7), .mov (.tmp 0), none, [], false⟩,
      ⟨(some 8), .callV (.func 32) [(.tmp 7)], none, [], false⟩,
      ⟨(some 4), .mov (.tmp 8), none, [], false⟩]) (.seq (.region [
      ⟨(some 9), .mov (.tmp 4), none, [], false⟩,
      ⟨(some 10), .callV (.func 33) [(.tmp 9)], none, [], false⟩,
      ⟨(some 5), .mov (.tmp 10), none, [], false⟩]) (.seq (.seq (.region [
      ⟨(some 11), .mov (.tmp 5), none, [], false⟩,
      ⟨(some 12), .bin .gtr (so (.binOp .gtr 3 (.tmp 11) (.const (.int .i64 64)) 3) 4) (.tmp 11) (.const (.int .i64 64)), none, [], false⟩]) (.cond (.tmp 12)
    (.seq (.region [
      ⟨(some 13), .build [(.int .i64 0), (.int .i64 0)] [(0, 1, (.const (.int .i64 4)))], none, [], false⟩,
      ⟨(some 2), .mov (.const (.slice none 0 0)), none, [], false⟩,
      ⟨none, .store 2 (.tmp 3) (.tmp 13), none, [], false⟩]) .ret)
    .skip)) (.seq (.seq (.region [
      ⟨(some 14), .mov (.tmp 5), none, [], false⟩,
      ⟨(some 15), .mov (.const (.int .i64 0)), none, [], false⟩]) (.block 0 (.loop vals_Decode_l0))) (.seq (.seq (.region [
      ⟨(some 28), .mov (.tmp 4), none, [], false⟩,
      ⟨(some 29), .callV (.func 41) [(.tmp 28)], none, [], false⟩,
      ⟨none, .store 2 (.tmp 3) (.tmp 29), none, [], false⟩]) (.seq (.region [
      ⟨(some 30), .load (some 2) (.tmp 3), none, [], false⟩,
      ⟨(some 31), .build [(.int .i64 0), (.int .i64 0)] [], none, [], false⟩,
      ⟨(some 32), .bin .eql (so (.binOp .eql 43 (.tmp 30) (.tmp 31) 43) 4) (.tmp 30) (.tmp 31), none, [], false⟩]) (.cond (.tmp 32)
    (.region [
      ⟨(some 33), .mov (.tmp 2), none, [], false⟩,
      ⟨(some 34), .callV (.func 103) [(.tmp 33)], none, [], false⟩,
      ⟨(some 35), .fieldAddr 0 (.tmp 3), none, [], false⟩,
      ⟨none, .store 1 (.tmp 35) (.tmp 34), none, [], false⟩])
    .skip))) (.seq (.seq (.region [
      ⟨(some 36), .load (some 2) (.tmp 3), none, [], false⟩,
      ⟨(some 37), .build [(.int .i64 0), (.int .i64 0)] [], none, [], false⟩,
      ⟨(some 38), .bin .neq (so (.binOp .neq 43 (.tmp 36) (.tmp 37) 43) 4) (.tmp 36) (.tmp 37), none, [], false⟩]) (.cond (.tmp 38)
    (.seq (.regionD [
      ⟨(some 39), .load (some 2) (.tmp 3), none, [], false⟩,
      ⟨(some 2), .mov (.const (.slice none 0 0)), none, [], false⟩,
      ⟨none, .store 2 (.tmp 3) (.tmp 39), none, [], true⟩]) .ret)
    .skip)) (.seq (.regionD [
      ⟨(some 40), .mov (.tmp 2), none, [], false⟩,
      ⟨(some 41), .load (some 2) (.tmp 3), none, [], false⟩,
      ⟨(some 2), .mov (.tmp 40), none, [((some 41), .load (some 2) (.tmp 3), none)], false⟩,
      ⟨none, .store 2 (.tmp 3) (.tmp 41), none, [], true⟩]) .ret))))))))
noncomputable def vals_Decode : AFunc := ⟨42, [(2, none), (3, some (some 2))], vals_Decode_c, none⟩
theorem vals_Decode_t0 : tableOf Tryz.prog 85 = some vals_Decode := by kernel_rfl
theorem vals_Decode_t : T0 85 = some vals_Decode := withTrue_t rfl vals_Decode_t0


/-! 90 landfall/msg.of -/
abbrev fn_msg_of : FuncId := 90
noncomputable def msg_of_c : ACode :=
  (.seq (.region [
      ⟨(some 2), .mov (.const .nilIface), none, [], false⟩]) (.seq (.seq (.region [
      ⟨(some 5), .mov (.tmp 0), none, [], false⟩]) (.block 0 (.seq (.region [
      ⟨(some 6), .assertTo 26 (.agg ⟨[(.int .i64 0), (.int .i64 0)]⟩) true (.tmp 5), none, [], false⟩,
      ⟨(some 7), .extract 1 (.tmp 6), none, [], false⟩,
      ⟨(some 8), .extract 0 (.tmp 6), none, [], false⟩]) (.cond (.tmp 7)
    (.seq (.region [
      ⟨(some 3), .alloc 26 [(.int .i64 0), (.int .i64 0)], none, [], false⟩,
      ⟨none, .store 2 (.tmp 3) (.tmp 8), none, [], false⟩]) (.seq (.region [
      ⟨(some 9), .load (some 2) (.tmp 3), none, [], false⟩,
      ⟨(some 10), .mkIface 168 (.tmp 9), none, [], false⟩,
      ⟨(some 2), .mov (.tmp 10), none, [], false⟩]) .ret))
    (.seq (.region [
      ⟨(some 11), .assertTo 38 (.agg ⟨((.int .i64 0) :: ((.string ⟨⟨[]⟩⟩) :: ((.int .i64 0) :: ((.int .i64 0) :: (z32 ++ (z32 ++ (z32 ++ (z32 ++ ((.int .i64 0) :: (z32 ++ [(.slice none 0 0), (.slice none 0 0)]))))))))))⟩) true (.tmp 5), none, [], false⟩,
      ⟨(some 12), .extract 1 (.tmp 11), none, [], false⟩,
      ⟨(some 13), .extract 0 (.tmp 11), none, [], false⟩]) (.cond (.tmp 12)
    (.seq (.region [
      ⟨(some 4), .alloc 38 ((.int .i64 0) :: ((.string ⟨⟨[]⟩⟩) :: ((.int .i64 0) :: ((.int .i64 0) :: (z32 ++ (z32 ++ (z32 ++ (z32 ++ ((.int .i64 0) :: (z32 ++ [(.slice none 0 0), (.slice none 0 0)])))))))))), none, [], false⟩,
      ⟨none, .store 167 (.tmp 4) (.tmp 13), none, [], false⟩]) (.seq (.region [
      ⟨(some 14), .load (some 167) (.tmp 4), none, [], false⟩,
      ⟨(some 15), .mkIface 169 (.tmp 14), none, [], false⟩,
      ⟨(some 2), .mov (.tmp 15), none, [], false⟩]) .ret))
    .skip)))))) (.seq (.region [
      ⟨(some 2), .mov (.const .nilIface), none, [], false⟩]) .ret)))
noncomputable def msg_of : AFunc := ⟨16, [(2, none)], msg_of_c, none⟩
theorem msg_of_t0 : tableOf Tryz.prog 90 = some msg_of := by kernel_rfl
theorem msg_of_t : T0 90 = some msg_of := withTrue_t rfl msg_of_t0


/-! 98 landfall/landfallkit.SameVotes -/
abbrev fn_landfallkit_SameVotes : FuncId := 98
noncomputable def landfallkit_SameVotes_l0 : ACode :=
  (.seq (.seq (.region [
      ⟨(some 12), .mov (.tmp 5), none, [], false⟩,
      ⟨(some 13), .mov (.tmp 12), none, [], false⟩,
      ⟨(some 14), .mov (.tmp 6), (some (13, true)), [], false⟩,
      ⟨(some 15), .mov (.tmp 0), (some (13, true)), [], false⟩,
      ⟨(some 16), .lenSl (.tmp 15), (some (13, true)), [], false⟩,
      ⟨(some 17), .bin .lss (so (.binOp .lss 3 (.tmp 14) (.tmp 16) 3) 4) (.tmp 14) (.tmp 16), (some (13, true)), [], false⟩,
      ⟨(some 18), .pick (.tmp 13) (.tmp 17) (.const (.bool false)), none, [], false⟩]) (.cond (.tmp 18)
    .skip
    (.exit 0))) (.seq (.block 1 (.regionD [
      ⟨(some 21), .mov (.tmp 0), none, [], false⟩,
      ⟨(some 22), .mov (.tmp 6), none, [], false⟩,
      ⟨(some 23), .indexSl 2 (.tmp 21) (.tmp 22), none, [], false⟩,
      ⟨(some 24), .load (some 2) (.tmp 23), none, [], false⟩,
      ⟨(some 25), .mov (.tmp 1), none, [], false⟩,
      ⟨(some 26), .mov (.tmp 6), none, [], false⟩,
      ⟨(some 27), .indexSl 2 (.tmp 25) (.tmp 26), none, [], false⟩,
      ⟨(some 28), .load (some 2) (.tmp 27), none, [], false⟩,
      ⟨(some 29), .bin .eql (so (.binOp .eql 134 (.tmp 24) (.tmp 28) 134) 4) (.tmp 24) (.tmp 28), none, [], true⟩,
      ⟨(some 5), .mov (.tmp 29), none, [], true⟩])) (.region [
      ⟨(some 19), .mov (.tmp 6), none, [], false⟩,
      ⟨(some 20), .bin .add (so (.binOp .add 3 (.tmp 19) (.const (.int .i64 1)) 3) 3) (.tmp 19) (.const (.int .i64 1)), none, [], false⟩,
      ⟨(some 6), .mov (.tmp 20), none, [], false⟩])))
noncomputable def landfallkit_SameVotes_c : ACode :=
  (.seq (.region [
      ⟨(some 4), .mov (.const (.bool false)), none, [], false⟩]) (.seq (.region [
      ⟨(some 7), .mov (.tmp 0), none, [], false⟩,
      ⟨(some 8), .lenSl (.tmp 7), none, [], false⟩,
      ⟨(some 9), .mov (.tmp 1), none, [], false⟩,
      ⟨(some 10), .lenSl (.tmp 9), none, [], false⟩,
      ⟨(some 11), .bin .eql (so (.binOp .eql 3 (.tmp 8) (.tmp 10) 3) 4) (.tmp 8) (.tmp 10), none, [], false⟩,
      ⟨(some 5), .mov (.tmp 11), none, [], false⟩]) (.seq (.seq (.region [
      ⟨(some 6), .mov (.const (.int .i64 0)), none, [], false⟩]) (.block 0 (.loop landfallkit_SameVotes_l0))) (.seq (.region [
      ⟨(some 30), .mov (.tmp 5), none, [], false⟩,
      ⟨(some 4), .mov (.tmp 30), none, [], false⟩]) .ret))))
noncomputable def landfallkit_SameVotes : AFunc := ⟨31, [(4, none)], landfallkit_SameVotes_c, none⟩
theorem landfallkit_SameVotes_t0 : tableOf Tryz.prog 98 = some landfallkit_SameVotes := by kernel_rfl
theorem landfallkit_SameVotes_t : T0 98 = some landfallkit_SameVotes := withTrue_t rfl landfallkit_SameVotes_t0


/-! 99 landfall/block.errors$1 -/
abbrev fn_block_errors_1 : FuncId := 99
noncomputable def block_errors_1_l0 : ACode :=
  (.seq (.region [
      ⟨(some 8), .bin .lss (so (.binOp .lss 3 (.tmp 7) (.tmp 6) 3) 0) (.tmp 7) (.tmp 6), none, [], false⟩]) (.seq (.cond (.tmp 8)
    .skip
    (.exit 0)) (.seq (.block 1 (.seq (.region [
      ⟨(some 9), .indexSl 1 (.tmp 5) (.tmp 7), none, [], false⟩,
      ⟨(some 10), .load none (.tmp 9), none, [], false⟩,
      ⟨(some 4), .mov (.tmp 10), none, [], false⟩]) (.seq (.region [
      ⟨(some 11), .mov (.tmp 0), none, [], false⟩,
      ⟨(some 12), .mov (.tmp 4), none, [], false⟩,
      ⟨(some 13), .callV (.tmp 12) [], none, [], false⟩,
      ⟨(some 14), .callV (.tmp 11) [(.tmp 13)], none, [], false⟩,
      ⟨(some 15), .raw (so (.unOp .not 4 (.tmp 14)) 4), none, [], false⟩]) (.cond (.tmp 15)
    .ret
    .skip)))) (.region [
      ⟨(some 16), .bin .add (so (.binOp .add 3 (.tmp 7) (.const (.int .i64 1)) 3) 3) (.tmp 7) (.const (.int .i64 1)), none, [], false⟩,
      ⟨(some 7), .mov (.tmp 16), none, [], false⟩]))))
noncomputable def block_errors_1_c : ACode :=
  (.seq (.region [
      ⟨(some 5), .load none (.tmp 1), none, [], false⟩,
      ⟨(some 6), .lenSl (.tmp 5), none, [], false⟩,
      ⟨(some 7), .mov (.const (.int .i64 0)), none, [], false⟩]) (.block 0 (.loop block_errors_1_l0)))
noncomputable def block_errors_1 : AFunc := ⟨17, [], block_errors_1_c, none⟩
theorem block_errors_1_t0 : tableOf Tryz.prog 99 = some block_errors_1 := by kernel_rfl
theorem block_errors_1_t : T0 99 = some block_errors_1 := withTrue_t rfl block_errors_1_t0


/-! 100 landfall/block.parts$1 -/
abbrev fn_block_parts_1 : FuncId := 100
noncomputable def block_parts_1_c : ACode :=
  (.seq (.region [
      ⟨(some 1), .mov (.const (.int .i64 0)), none, [], false⟩]) (.seq (.region [
      ⟨(some 2), .fieldAddr 0 (.tmp 0), none, [], false⟩,
      ⟨(some 3), .load (some 131) (.tmp 2), none, [], false⟩,
      ⟨(some 4), .callV (.func 101) [(.tmp 3)], none, [], false⟩,
      ⟨(some 1), .mov (.tmp 4), none, [], false⟩]) .ret))
noncomputable def block_parts_1 : AFunc := ⟨5, [(1, none)], block_parts_1_c, none⟩
theorem block_parts_1_t0 : tableOf Tryz.prog 100 = some block_parts_1 := by kernel_rfl
theorem block_parts_1_t : T0 100 = some block_parts_1 := withTrue_t rfl block_parts_1_t0


/-! 101 landfall/header.Check -/
abbrev fn_header_Check : FuncId := 101
noncomputable def header_Check_l0 : ACode :=
  (.seq (.region [
      ⟨(some 8), .bin .lss (so (.binOp .lss 3 (.tmp 7) (.tmp 6) 3) 0) (.tmp 7) (.tmp 6), none, [], false⟩]) (.seq (.cond (.tmp 8)
    .skip
    (.exit 0)) (.seq (.block 1 (.seq (.region [
      ⟨(some 9), .indexSl 2 (.tmp 5) (.tmp 7), none, [], false⟩,
      ⟨(some 10), .load (some 2) (.tmp 9), none, [], false⟩,
      ⟨(some 4), .alloc 175 [.nilFunc, (.int .i64 0)], none, [], false⟩,
      ⟨none, .store 2 (.tmp 4) (.tmp 10), none, [], false⟩]) (.seq (.region [
      ⟨(some 11), .fieldAddr 0 (.tmp 4), none, [], false⟩,
      ⟨(some 12), .load none (.tmp 11), none, [], false⟩,
      ⟨(some 13), .load (some 131) (.tmp 1), none, [], false⟩,
      ⟨(some 14), .callV (.tmp 12) [(.tmp 13)], none, [], false⟩,
      ⟨(some 15), .raw (so (.unOp .not 4 (.tmp 14)) 4), none, [], false⟩]) (.cond (.tmp 15)
    (.seq (.region [
      ⟨(some 16), .fieldAddr 1 (.tmp 4), none, [], false⟩,
      ⟨(some 17), .load none (.tmp 16), none, [], false⟩,
      ⟨(some 2), .mov (.tmp 17), none, [], false⟩]) .ret)
    .skip)))) (.region [
      ⟨(some 18), .bin .add (so (.binOp .add 3 (.tmp 7) (.const (.int .i64 1)) 3) 3) (.tmp 7) (.const (.int .i64 1)), none, [], false⟩,
      ⟨(some 7), .mov (.tmp 18), none, [], false⟩]))))
noncomputable def header_Check_c : ACode :=
  (.seq (.region [
      ⟨(some 1), .box 30 (.tmp 0), none, [], false⟩,
      ⟨(some 2), .mov (.const (.int .i64 0)), none, [], false⟩]) (.seq (.seq (.region [
      ⟨(some 5), .callV (.func 134) [], none, [], false⟩,
      ⟨(some 6), .lenSl (.tmp 5), none, [], false⟩,
      ⟨(some 7), .mov (.const (.int .i64 0)), none, [], false⟩]) (.block 0 (.loop header_Check_l0))) (.seq (.region [
      ⟨(some 2), .mov (.const (.int .i64 0)), none, [], false⟩]) .ret)))
noncomputable def header_Check : AFunc := ⟨19, [(2, none)], header_Check_c, none⟩
theorem header_Check_t0 : tableOf Tryz.prog 101 = some header_Check := by kernel_rfl
theorem header_Check_t : T0 101 = some header_Check := withTrue_t rfl header_Check_t0


/-! 102 landfall/block.parts$2 -/
abbrev fn_block_parts_2 : FuncId := 102
noncomputable def block_parts_2_c : ACode :=
  (.seq (.region [
      ⟨(some 1), .mov (.const (.int .i64 0)), none, [], false⟩]) (.seq (.region [
      ⟨(some 2), .fieldAddr 165 (.tmp 0), none, [], false⟩,
      ⟨(some 3), .load none (.tmp 2), none, [], false⟩,
      ⟨(some 4), .callV (.func 103) [(.tmp 3)], none, [], false⟩,
      ⟨(some 1), .mov (.tmp 4), none, [], false⟩]) .ret))
noncomputable def block_parts_2 : AFunc := ⟨5, [(1, none)], block_parts_2_c, none⟩
theorem block_parts_2_t0 : tableOf Tryz.prog 102 = some block_parts_2 := by kernel_rfl
theorem block_parts_2_t : T0 102 = some block_parts_2 := withTrue_t rfl block_parts_2_t0


/-! 103 landfall/vals.Check -/
abbrev fn_vals_Check : FuncId := 103
noncomputable def vals_Check_l0 : ACode :=
  (.seq (.region [
      ⟨(some 19), .bin .lss (so (.binOp .lss 3 (.tmp 18) (.tmp 17) 3) 0) (.tmp 18) (.tmp 17), none, [], false⟩]) (.seq (.cond (.tmp 19)
    .skip
    (.exit 1)) (.seq (.block 2 (.seq (.region [
      ⟨(some 20), .indexSl 5 (.tmp 16) (.tmp 18), none, [], false⟩,
      ⟨(some 21), .load (some 5) (.tmp 20), none, [], false⟩,
      ⟨(some 5), .alloc 132 [(.int .u8 0), (.int .u8 0), (.int .u8 0), (.int .u8 0), (.int .i64 0)], none, [], false⟩,
      ⟨none, .store 5 (.tmp 5) (.tmp 21), none, [], false⟩]) (.seq (.region [
      ⟨(some 22), .load (some 5) (.tmp 5), none, [], false⟩,
      ⟨(some 23), .callV (.func 135) [(.tmp 3), (.tmp 22)], none, [], false⟩,
      ⟨(some 6), .mov (.tmp 23), none, [], false⟩]) (.seq (.region [
      ⟨(some 24), .mov (.tmp 6), none, [], false⟩,
      ⟨(some 25), .bin .neq (so (.binOp .neq 41 (.tmp 24) (.const (.int .i64 0)) 41) 4) (.tmp 24) (.const (.int .i64 0)), none, [], false⟩]) (.cond (.tmp 25)
    (.seq (.region [
      ⟨(some 26), .mov (.tmp 6), none, [], false⟩,
      ⟨(some 2), .mov (.tmp 26), none, [], false⟩]) .ret)
    .skip))))) (.region [
      ⟨(some 27), .bin .add (so (.binOp .add 3 (.tmp 18) (.const (.int .i64 1)) 3) 3) (.tmp 18) (.const (.int .i64 1)), none, [], false⟩,
      ⟨(some 18), .mov (.tmp 27), none, [], false⟩]))))
noncomputable def vals_Check_c : ACode :=
  (.seq (.region [
      ⟨(some 2), .mov (.const (.int .i64 0)), none, [], false⟩]) (.seq (.block 0 (.seq (.region [
      ⟨(some 8), .mov (.tmp 0), none, [], false⟩,
      ⟨(some 9), .lenSl (.tmp 8), none, [], false⟩,
      ⟨(some 10), .bin .eql (so (.binOp .eql 3 (.tmp 9) (.const (.int .i64 0)) 3) 4) (.tmp 9) (.const (.int .i64 0)), none, [], false⟩,
      ⟨(some 7), .mov (.tmp 10), none, [], false⟩]) (.cond (.tmp 7)
    (.seq (.region [
      ⟨(some 2), .mov (.const (.int .i64 6)), none, [], false⟩]) .ret)
    (.seq (.region [
      ⟨(some 12), .mov (.tmp 0), none, [], false⟩,
      ⟨(some 13), .lenSl (.tmp 12), none, [], false⟩,
      ⟨(some 14), .bin .gtr (so (.binOp .gtr 3 (.tmp 13) (.const (.int .i64 64)) 3) 4) (.tmp 13) (.const (.int .i64 64)), none, [], false⟩,
      ⟨(some 11), .mov (.tmp 14), none, [], false⟩]) (.cond (.tmp 11)
    (.seq (.region [
      ⟨(some 2), .mov (.const (.int .i64 4)), none, [], false⟩]) .ret)
    .skip))))) (.seq (.region [
      ⟨(some 15), .build [(.int .u8 0), (.int .u8 0), (.int .u8 0), (.int .u8 0), (.bool false), (.int .i64 0), (.int .i64 0)] [(5, 1, (.const (.int .i64 1))), (6, 1, (.const (.int .i64 4611686018427387904)))], none, [], false⟩,
      ⟨(some 3), .alloc 177 [(.int .u8 0), (.int .u8 0), (.int .u8 0), (.int .u8 0), (.bool false), (.int .i64 0), (.int .i64 0)], none, [], false⟩,
      ⟨none, .store 7 (.tmp 3) (.tmp 15), none, [], false⟩]) (.seq (.seq (.region [
      ⟨(some 16), .mov (.tmp 0), none, [], false⟩,
      ⟨(some 17), .lenSl (.tmp 16), none, [], false⟩,
      ⟨(some 18), .mov (.const (.int .i64 0)), none, [], false⟩]) (.block 1 (.loop vals_Check_l0))) (.seq (.region [
      ⟨(some 2), .mov (.const (.int .i64 0)), none, [], false⟩]) .ret)))))
noncomputable def vals_Check : AFunc := ⟨28, [(2, none)], vals_Check_c, none⟩
theorem vals_Check_t0 : tableOf Tryz.prog 103 = some vals_Check := by kernel_rfl
theorem vals_Check_t : T0 103 = some vals_Check := withTrue_t rfl vals_Check_t0


/-! 104 landfall/block.parts$3 -/
abbrev fn_block_parts_3 : FuncId := 104
noncomputable def block_parts_3_c : ACode :=
  (.seq (.region [
      ⟨(some 1), .mov (.const (.int .i64 0)), none, [], false⟩]) (.seq (.region [
      ⟨(some 2), .fieldAddr 131 (.tmp 0), none, [], false⟩,
      ⟨(some 3), .load (some 34) (.tmp 2), none, [], false⟩,
      ⟨(some 4), .callV (.func 105) [(.tmp 3)], none, [], false⟩,
      ⟨(some 1), .mov (.tmp 4), none, [], false⟩]) .ret))
noncomputable def block_parts_3 : AFunc := ⟨5, [(1, none)], block_parts_3_c, none⟩
theorem block_parts_3_t0 : tableOf Tryz.prog 104 = some block_parts_3 := by kernel_rfl
theorem block_parts_3_t : T0 104 = some block_parts_3 := withTrue_t rfl block_parts_3_t0


/-! 105 landfall/commit.Check -/
abbrev fn_commit_Check : FuncId := 105
noncomputable def commit_Check_l0 : ACode :=
  (.seq (.region [
      ⟨(some 26), .bin .lss (so (.binOp .lss 3 (.tmp 25) (.tmp 24) 3) 0) (.tmp 25) (.tmp 24), none, [], false⟩]) (.seq (.cond (.tmp 26)
    .skip
    (.exit 1)) (.seq (.block 2 (.seq (.region [
      ⟨(some 27), .indexSl 2 (.tmp 23) (.tmp 25), none, [], false⟩,
      ⟨(some 28), .load (some 2) (.tmp 27), none, [], false⟩,
      ⟨(some 5), .alloc 134 [(.int .i64 0), (.int .u64 0)], none, [], false⟩,
      ⟨none, .store 2 (.tmp 5) (.tmp 28), none, [], false⟩]) (.seq (.region [
      ⟨(some 29), .mov (.tmp 3), none, [], false⟩,
      ⟨(some 30), .load (some 2) (.tmp 5), none, [], false⟩,
      ⟨(some 31), .callV (.tmp 29) [(.tmp 30)], none, [], false⟩,
      ⟨(some 6), .mov (.tmp 31), none, [], false⟩]) (.seq (.region [
      ⟨(some 32), .mov (.tmp 6), none, [], false⟩,
      ⟨(some 33), .bin .neq (so (.binOp .neq 41 (.tmp 32) (.const (.int .i64 0)) 41) 4) (.tmp 32) (.const (.int .i64 0)), none, [], false⟩]) (.cond (.tmp 33)
    (.seq (.region [
      ⟨(some 34), .mov (.tmp 6), none, [], false⟩,
      ⟨(some 2), .mov (.tmp 34), none, [], false⟩]) .ret)
    .skip))))) (.region [
      ⟨(some 35), .bin .add (so (.binOp .add 3 (.tmp 25) (.const (.int .i64 1)) 3) 3) (.tmp 25) (.const (.int .i64 1)), none, [], false⟩,
      ⟨(some 25), .mov (.tmp 35), none, [], false⟩]))))
noncomputable def commit_Check_c : ACode :=
  (.seq (.region [
      ⟨(some 1), .box 33 (.tmp 0), none, [], false⟩,
      ⟨(some 2), .mov (.const (.int .i64 0)), none, [], false⟩]) (.seq (.block 0 (.seq (.region [
      ⟨(some 8), .fieldAddr 0 (.tmp 1), none, [], false⟩,
      ⟨(some 9), .load none (.tmp 8), none, [], false⟩,
      ⟨(some 10), .bin .lss (so (.binOp .lss 3 (.tmp 9) (.const (.int .i64 1)) 3) 4) (.tmp 9) (.const (.int .i64 1)), none, [], false⟩,
      ⟨(some 11), .mov (.tmp 10), none, [], false⟩,
      ⟨(some 12), .fieldAddr 0 (.tmp 1), (some (11, false)), [], false⟩,
      ⟨(some 13), .load none (.tmp 12), (some (11, false)), [], false⟩,
      ⟨(some 14), .bin .gtr (so (.binOp .gtr 3 (.tmp 13) (.const (.int .i64 1073741824)) 3) 4) (.tmp 13) (.const (.int .i64 1073741824)), (some (11, false)), [], false⟩,
      ⟨(some 15), .pick (.tmp 11) (.const (.bool true)) (.tmp 14), none, [], false⟩,
      ⟨(some 7), .mov (.tmp 15), none, [], false⟩]) (.cond (.tmp 7)
    (.seq (.region [
      ⟨(some 2), .mov (.const (.int .i64 3)), none, [], false⟩]) .ret)
    (.seq (.region [
      ⟨(some 17), .fieldAddr 33 (.tmp 1), none, [], false⟩,
      ⟨(some 18), .load none (.tmp 17), none, [], false⟩,
      ⟨(some 19), .lenSl (.tmp 18), none, [], false⟩,
      ⟨(some 20), .bin .gtr (so (.binOp .gtr 3 (.tmp 19) (.const (.int .i64 64)) 3) 4) (.tmp 19) (.const (.int .i64 64)), none, [], false⟩,
      ⟨(some 16), .mov (.tmp 20), none, [], false⟩]) (.cond (.tmp 16)
    (.seq (.region [
      ⟨(some 2), .mov (.const (.int .i64 4)), none, [], false⟩]) .ret)
    .skip))))) (.seq (.region [
      ⟨(some 21), .callV (.func 136) [], none, [], false⟩,
      ⟨(some 3), .mov (.tmp 21), none, [], false⟩]) (.seq (.seq (.region [
      ⟨(some 22), .fieldAddr 33 (.tmp 1), none, [], false⟩,
      ⟨(some 23), .load none (.tmp 22), none, [], false⟩,
      ⟨(some 24), .lenSl (.tmp 23), none, [], false⟩,
      ⟨(some 25), .mov (.const (.int .i64 0)), none, [], false⟩]) (.block 1 (.loop commit_Check_l0))) (.seq (.region [
      ⟨(some 2), .mov (.const (.int .i64 0)), none, [], false⟩]) .ret)))))
noncomputable def commit_Check : AFunc := ⟨36, [(2, none)], commit_Check_c, none⟩
theorem commit_Check_t0 : tableOf Tryz.prog 105 = some commit_Check := by kernel_rfl
theorem commit_Check_t : T0 105 = some commit_Check := withTrue_t rfl commit_Check_t0


/-! 106 (*landfall/wire.Writer).Text -/
abbrev fn_wire_Writer_Text : FuncId := 106
noncomputable def wire_Writer_Text_c : ACode :=
  (.seq (.region [
      ⟨(some 4), .mov (.const (.int .i64 0)), none, [], false⟩]) (.seq (.region [
      ⟨(some 5), .mov (.tmp 0), none, [], false⟩,
      ⟨(some 6), .mov (.tmp 1), none, [], false⟩,
      ⟨(some 7), .strToBytes 5 (.tmp 6), none, [], false⟩,
      ⟨(some 8), .callV (.func 69) [(.tmp 5), (.tmp 7)], none, [], false⟩,
      ⟨(some 4), .mov (.tmp 8), none, [], false⟩]) .ret))
noncomputable def wire_Writer_Text : AFunc := ⟨9, [(4, none)], wire_Writer_Text_c, none⟩
theorem wire_Writer_Text_t0 : tableOf Tryz.prog 106 = some wire_Writer_Text := by kernel_rfl
theorem wire_Writer_Text_t : T0 106 = some wire_Writer_Text := withTrue_t rfl wire_Writer_Text_t0


/-! 107 (*landfall/wire.Writer).Num -/
abbrev fn_wire_Writer_Num : FuncId := 107
noncomputable def wire_Writer_Num_c : ACode :=
  (.seq (.region [
      ⟨(some 4), .mov (.const (.int .i64 0)), none, [], false⟩]) (.seq (.region [
      ⟨(some 5), .mov (.tmp 0), none, [], false⟩,
      ⟨(some 6), .mov (.tmp 1), none, [], false⟩,
      ⟨(some 7), .bin .geq (so (.binOp .geq 3 (.tmp 6) (.const (.int .i64 0)) 3) 4) (.tmp 6) (.const (.int .i64 0)), none, [], false⟩,
      ⟨(some 8), .mov (.tmp 1), none, [], false⟩,
      ⟨(some 9), .raw (so (.call ⟨.builtin .max, #[(.tmp 8), (.const (.int .i64 0))], #[3, 3]⟩) 3), none, [], false⟩,
      ⟨(some 10), .callV (.func 113) [(.tmp 9)], none, [], false⟩,
      ⟨(some 11), .buildSlice 22 [(.slice none 0 0)] 1 [(0, 1, (.tmp 10))], none, [], false⟩,
      ⟨(some 12), .callV (.func 112) [(.tmp 5), (.tmp 7), (.tmp 11)], none, [], false⟩,
      ⟨(some 4), .mov (.tmp 12), none, [], false⟩]) .ret))
noncomputable def wire_Writer_Num : AFunc := ⟨13, [(4, none)], wire_Writer_Num_c, none⟩
theorem wire_Writer_Num_t0 : tableOf Tryz.prog 107 = some wire_Writer_Num := by kernel_rfl
theorem wire_Writer_Num_t : T0 107 = some wire_Writer_Num := withTrue_t rfl wire_Writer_Num_t0


/-! 108 landfall/header.hashes -/
abbrev fn_header_hashes : FuncId := 108
noncomputable def header_hashes_c : ACode :=
  (.seq (.region [
      ⟨(some 2), .alloc 152 [(.pointer none), (.pointer none), (.pointer none), (.pointer none)], none, [], false⟩]) (.seq (.regionD [
      ⟨(some 3), .mov (.tmp 0), none, [], false⟩,
      ⟨(some 4), .nilCheck (.tmp 3), none, [], false⟩,
      ⟨(some 5), .fieldAddr 3 (.tmp 4), none, [], false⟩,
      ⟨(some 6), .mov (.tmp 0), none, [], false⟩,
      ⟨(some 7), .nilCheck (.tmp 6), none, [], false⟩,
      ⟨(some 8), .fieldAddr 35 (.tmp 7), none, [], false⟩,
      ⟨(some 9), .mov (.tmp 0), none, [], false⟩,
      ⟨(some 10), .nilCheck (.tmp 9), none, [], false⟩,
      ⟨(some 11), .fieldAddr 67 (.tmp 10), none, [], false⟩,
      ⟨(some 12), .mov (.tmp 0), none, [], false⟩,
      ⟨(some 13), .nilCheck (.tmp 12), none, [], false⟩,
      ⟨(some 14), .fieldAddr 99 (.tmp 13), none, [], false⟩,
      ⟨(some 15), .build [(.pointer none), (.pointer none), (.pointer none), (.pointer none)] [(0, 1, (.tmp 5)), (1, 1, (.tmp 8)), (2, 1, (.tmp 11)), (3, 1, (.tmp 14))], none, [], true⟩,
      ⟨none, .store 4 (.tmp 2) (.tmp 15), none, [], true⟩]) .ret))
noncomputable def header_hashes : AFunc := ⟨16, [(2, some (some 4))], header_hashes_c, none⟩
theorem header_hashes_t0 : tableOf Tryz.prog 108 = some header_hashes := by kernel_rfl
theorem header_hashes_t : T0 108 = some header_hashes := withTrue_t rfl header_hashes_t0


/-! 109 (*landfall/wire.Writer).Hash -/
abbrev fn_wire_Writer_Hash : FuncId := 109
noncomputable def wire_Writer_Hash_c : ACode :=
  (.seq (.region [
      ⟨(some 3), .box 28 (.tmp 1), none, [], false⟩,
      ⟨(some 4), .mov (.const (.int .i64 0)), none, [], false⟩]) (.seq (.region [
      ⟨(some 5), .mov (.tmp 0), none, [], false⟩,
      ⟨(some 6), .sliceArr 32 1 (.tmp 3) none none, none, [], false⟩,
      ⟨(some 7), .buildSlice 22 [(.slice none 0 0)] 1 [(0, 1, (.tmp 6))], none, [], false⟩,
      ⟨(some 8), .callV (.func 112) [(.tmp 5), (.const (.bool true)), (.tmp 7)], none, [], false⟩,
      ⟨(some 4), .mov (.tmp 8), none, [], false⟩]) .ret))
noncomputable def wire_Writer_Hash : AFunc := ⟨9, [(4, none)], wire_Writer_Hash_c, none⟩
theorem wire_Writer_Hash_t0 : tableOf Tryz.prog 109 = some wire_Writer_Hash := by kernel_rfl
theorem wire_Writer_Hash_t : T0 109 = some wire_Writer_Hash := withTrue_t rfl wire_Writer_Hash_t0


/-! 110 (*landfall/wire.Writer).Word -/
abbrev fn_wire_Writer_Word : FuncId := 110
noncomputable def wire_Writer_Word_c : ACode :=
  (.seq (.region [
      ⟨(some 4), .mov (.const (.int .i64 0)), none, [], false⟩]) (.seq (.region [
      ⟨(some 6), .mov (.tmp 1), none, [], false⟩,
      ⟨(some 7), .callV (.func 137) [(.tmp 6)], none, [], false⟩,
      ⟨(some 5), .alloc 181 [(.int .u8 0), (.int .u8 0), (.int .u8 0), (.int .u8 0), (.int .u8 0), (.int .u8 0), (.int .u8 0), (.int .u8 0)], none, [], false⟩,
      ⟨none, .store 8 (.tmp 5) (.tmp 7), none, [], false⟩]) (.seq (.region [
      ⟨(some 8), .mov (.tmp 0), none, [], false⟩,
      ⟨(some 9), .sliceArr 8 1 (.tmp 5) none none, none, [], false⟩,
      ⟨(some 10), .buildSlice 22 [(.slice none 0 0)] 1 [(0, 1, (.tmp 9))], none, [], false⟩,
      ⟨(some 11), .callV (.func 112) [(.tmp 8), (.const (.bool true)), (.tmp 10)], none, [], false⟩,
      ⟨(some 4), .mov (.tmp 11), none, [], false⟩]) .ret)))
noncomputable def wire_Writer_Word : AFunc := ⟨12, [(4, none)], wire_Writer_Word_c, none⟩
theorem wire_Writer_Word_t0 : tableOf Tryz.prog 110 = some wire_Writer_Word := by kernel_rfl
theorem wire_Writer_Word_t : T0 110 = some wire_Writer_Word := withTrue_t rfl wire_Writer_Word_t0


/-! 111 (*landfall/wire.Writer).Key -/
abbrev fn_wire_Writer_Key : FuncId := 111
noncomputable def wire_Writer_Key_c : ACode :=
  (.seq (.region [
      ⟨(some 3), .box 130 (.tmp 1), none, [], false⟩,
      ⟨(some 4), .mov (.const (.int .i64 0)), none, [], false⟩]) (.seq (.region [
      ⟨(some 5), .mov (.tmp 0), none, [], false⟩,
      ⟨(some 6), .sliceArr 4 1 (.tmp 3) none none, none, [], false⟩,
      ⟨(some 7), .buildSlice 22 [(.slice none 0 0)] 1 [(0, 1, (.tmp 6))], none, [], false⟩,
      ⟨(some 8), .callV (.func 112) [(.tmp 5), (.const (.bool true)), (.tmp 7)], none, [], false⟩,
      ⟨(some 4), .mov (.tmp 8), none, [], false⟩]) .ret))
noncomputable def wire_Writer_Key : AFunc := ⟨9, [(4, none)], wire_Writer_Key_c, none⟩
theorem wire_Writer_Key_t0 : tableOf Tryz.prog 111 = some wire_Writer_Key := by kernel_rfl
theorem wire_Writer_Key_t : T0 111 = some wire_Writer_Key := withTrue_t rfl wire_Writer_Key_t0


/-! 112 (*landfall/wire.Writer).put -/
abbrev fn_wire_Writer_put : FuncId := 112
noncomputable def wire_Writer_put_c : ACode :=
  (.seq (.region [
      ⟨(some 6), .mov (.const (.int .i64 0)), none, [], false⟩]) (.seq (.seq (.region [
      ⟨(some 8), .mov (.tmp 0), none, [], false⟩,
      ⟨(some 9), .eq .ptr false (so (.binOp .eql 103 (.tmp 8) (.const (.pointer none)) 103) 4) (.tmp 8) (.const (.pointer none)), none, [], false⟩,
      ⟨(some 10), .mov (.tmp 9), none, [], false⟩,
      ⟨(some 11), .mov (.tmp 0), (some (10, false)), [], false⟩,
      ⟨(some 12), .nilCheck (.tmp 11), (some (10, false)), [], false⟩,
      ⟨(some 13), .fieldAddr 3 (.tmp 12), (some (10, false)), [], false⟩,
      ⟨(some 14), .load none (.tmp 13), (some (10, false)), [], false⟩,
      ⟨(some 15), .raw (so (.unOp .not 4 (.tmp 14)) 4), (some (10, false)), [], false⟩,
      ⟨(some 16), .pick (.tmp 10) (.const (.bool true)) (.tmp 15), none, [], false⟩]) (.cond (.tmp 16)
    (.seq (.region [
      ⟨(some 6), .mov (.const (.int .i64 1)), none, [], false⟩]) .ret)
    .skip)) (.seq (.region [
      ⟨(some 17), .mov (.tmp 2), none, [], false⟩,
      ⟨(some 18), .callV (.func 138) [(.tmp 17)], none, [], false⟩,
      ⟨(some 7), .mov (.tmp 18), none, [], false⟩]) (.seq (.block 0 (.seq (.region [
      ⟨(some 29), .mov (.tmp 0), none, [], false⟩,
      ⟨(some 30), .nilCheck (.tmp 29), none, [], false⟩,
      ⟨(some 31), .fieldAddr 2 (.tmp 30), none, [], false⟩,
      ⟨(some 32), .load none (.tmp 31), none, [], false⟩,
      ⟨(some 33), .bin .neq (so (.binOp .neq 41 (.tmp 32) (.const (.int .i64 0)) 41) 4) (.tmp 32) (.const (.int .i64 0)), none, [], false⟩,
      ⟨(some 28), .mov (.tmp 33), none, [], false⟩]) (.cond (.tmp 28)
    .skip
    (.seq (.region [
      ⟨(some 35), .mov (.tmp 1), none, [], false⟩,
      ⟨(some 36), .raw (so (.unOp .not 4 (.tmp 35)) 4), none, [], false⟩,
      ⟨(some 34), .mov (.tmp 36), none, [], false⟩]) (.cond (.tmp 34)
    (.region [
      ⟨(some 37), .mov (.tmp 0), none, [], false⟩,
      ⟨(some 38), .nilCheck (.tmp 37), none, [], false⟩,
      ⟨(some 39), .fieldAddr 2 (.tmp 38), none, [], false⟩,
      ⟨none, .store 1 (.tmp 39) (.const (.int .i64 3)), none, [], false⟩])
    (.seq (.regionD [
      ⟨(some 41), .mov (.tmp 0), none, [], false⟩,
      ⟨(some 42), .nilCheck (.tmp 41), none, [], false⟩,
      ⟨(some 43), .fieldAddr 1 (.tmp 42), none, [], false⟩,
      ⟨(some 44), .load none (.tmp 43), none, [], false⟩,
      ⟨(some 45), .lenSl (.tmp 44), none, [], false⟩,
      ⟨(some 46), .mov (.tmp 7), none, [], false⟩,
      ⟨(some 47), .lenSl (.tmp 46), none, [], false⟩,
      ⟨(some 48), .bin .add (so (.binOp .add 3 (.tmp 45) (.tmp 47) 3) 3) (.tmp 45) (.tmp 47), none, [], false⟩,
      ⟨(some 49), .mov (.tmp 0), none, [], false⟩,
      ⟨(some 50), .nilCheck (.tmp 49), none, [], false⟩,
      ⟨(some 51), .fieldAddr 0 (.tmp 50), none, [], false⟩,
      ⟨(some 52), .load none (.tmp 51), none, [], false⟩,
      ⟨(some 53), .bin .gtr (so (.binOp .gtr 3 (.tmp 48) (.tmp 52) 3) 4) (.tmp 48) (.tmp 52), none, [], true⟩,
      ⟨(some 40), .mov (.tmp 53), none, [], true⟩]) (.cond (.tmp 40)
    (.region [
      ⟨(some 54), .mov (.tmp 0), none, [], false⟩,
      ⟨(some 55), .nilCheck (.tmp 54), none, [], false⟩,
      ⟨(some 56), .fieldAddr 2 (.tmp 55), none, [], false⟩,
      ⟨none, .store 1 (.tmp 56) (.const (.int .i64 4)), none, [], false⟩])
    (.region [
      ⟨(some 19), .mov (.tmp 0), none, [], false⟩,
      ⟨(some 20), .mov (.tmp 0), none, [], false⟩,
      ⟨(some 21), .nilCheck (.tmp 20), none, [], false⟩,
      ⟨(some 22), .fieldAddr 1 (.tmp 21), none, [], false⟩,
      ⟨(some 23), .load none (.tmp 22), none, [], false⟩,
      ⟨(some 24), .mov (.tmp 7), none, [], false⟩,
      ⟨(some 25), .append 5 1 1 [(.int .u8 0)] false (.tmp 23) (.tmp 24), none, [], false⟩,
      ⟨(some 26), .nilCheck (.tmp 19), none, [], false⟩,
      ⟨(some 27), .fieldAddr 1 (.tmp 26), none, [], false⟩,
      ⟨none, .store 1 (.tmp 27) (.tmp 25), none, [], false⟩])))))))) (.seq (.region [
      ⟨(some 57), .mov (.tmp 0), none, [], false⟩,
      ⟨(some 58), .nilCheck (.tmp 57), none, [], false⟩,
      ⟨(some 59), .fieldAddr 2 (.tmp 58), none, [], false⟩,
      ⟨(some 60), .load none (.tmp 59), none, [], false⟩,
      ⟨(some 6), .mov (.tmp 60), none, [], false⟩]) .ret)))))
noncomputable def wire_Writer_put : AFunc := ⟨61, [(6, none)], wire_Writer_put_c, none⟩
theorem wire_Writer_put_t0 : tableOf Tryz.prog 112 = some wire_Writer_put := by kernel_rfl
theorem wire_Writer_put_t : T0 112 = some wire_Writer_put := withTrue_t rfl wire_Writer_put_t0


/-! 113 landfall/wire.number -/
abbrev fn_wire_number : FuncId := 113
noncomputable def wire_number_l0 : ACode :=
  (.seq (.seq (.region [
      ⟨(some 5), .mov (.tmp 0), none, [], false⟩,
      ⟨(some 6), .bin .gtr (so (.binOp .gtr 3 (.tmp 5) (.const (.int .i64 0)) 3) 4) (.tmp 5) (.const (.int .i64 0)), none, [], false⟩]) (.cond (.tmp 6)
    .skip
    (.exit 0))) (.seq (.block 1 (.seq (.region [
      ⟨(some 9), .mov (.tmp 4), none, [], false⟩,
      ⟨(some 10), .bin .sub (so (.binOp .sub 3 (.const (.int .i64 8)) (.tmp 9) 3) 3) (.const (.int .i64 8)) (.tmp 9), none, [], false⟩,
      ⟨(some 11), .mov (.tmp 0), none, [], false⟩,
      ⟨(some 12), .conv .u8 (so (.convert 3 5 (.tmp 11)) 5) (.tmp 11), none, [], false⟩,
      ⟨(some 13), .indexArr 9 1 (.tmp 3) (.tmp 10), none, [], false⟩,
      ⟨none, .store 1 (.tmp 13) (.tmp 12), none, [], false⟩]) (.region [
      ⟨(some 14), .mov (.tmp 4), none, [], false⟩,
      ⟨(some 15), .bin .add (so (.binOp .add 3 (.tmp 14) (.const (.int .i64 1)) 3) 3) (.tmp 14) (.const (.int .i64 1)), none, [], false⟩,
      ⟨(some 4), .mov (.tmp 15), none, [], false⟩]))) (.region [
      ⟨(some 7), .mov (.tmp 0), none, [], false⟩,
      ⟨(some 8), .bin .shr (so (.binOp .shr 3 (.tmp 7) (.const (.int .u64 8)) 125) 3) (.tmp 7) (.const (.int .u64 8)), none, [], false⟩,
      ⟨(some 0), .mov (.tmp 8), none, [], false⟩])))
noncomputable def wire_number_c : ACode :=
  (.seq (.region [
      ⟨(some 2), .mov (.const (.slice none 0 0)), none, [], false⟩]) (.seq (.region [
      ⟨(some 3), .alloc 185 [(.int .u8 0), (.int .u8 0), (.int .u8 0), (.int .u8 0), (.int .u8 0), (.int .u8 0), (.int .u8 0), (.int .u8 0), (.int .u8 0)], none, [], false⟩]) (.seq (.region [
      ⟨(some 4), .mov (.const (.int .i64 0)), none, [], false⟩]) (.seq (.block 0 (.loop wire_number_l0)) (.seq (.region [
      ⟨(some 16), .mov (.tmp 4), none, [], false⟩,
      ⟨(some 17), .bin .sub (so (.binOp .sub 3 (.const (.int .i64 8)) (.tmp 16) 3) 3) (.const (.int .i64 8)) (.tmp 16), none, [], false⟩,
      ⟨(some 18), .mov (.tmp 4), none, [], false⟩,
      ⟨(some 19), .conv .u8 (so (.convert 3 5 (.tmp 18)) 5) (.tmp 18), none, [], false⟩,
      ⟨(some 20), .indexArr 9 1 (.tmp 3) (.tmp 17), none, [], false⟩,
      ⟨none, .store 1 (.tmp 20) (.tmp 19), none, [], false⟩]) (.seq (.region [
      ⟨(some 21), .mov (.tmp 4), none, [], false⟩,
      ⟨(some 22), .bin .sub (so (.binOp .sub 3 (.const (.int .i64 8)) (.tmp 21) 3) 3) (.const (.int .i64 8)) (.tmp 21), none, [], false⟩,
      ⟨(some 23), .sliceArr 9 1 (.tmp 3) (some (.tmp 22)) none, none, [], false⟩,
      ⟨(some 2), .mov (.tmp 23), none, [], false⟩]) .ret))))))
noncomputable def wire_number : AFunc := ⟨24, [(2, none)], wire_number_c, none⟩
theorem wire_number_t0 : tableOf Tryz.prog 113 = some wire_number := by kernel_rfl
theorem wire_number_t : T0 113 = some wire_number := withTrue_t rfl wire_number_t0


/-! 114 (*landfall/wire.Reader).caught -/
abbrev fn_wire_Reader_caught : FuncId := 114
noncomputable def wire_Reader_caught_c : ACode :=
  (.seq (.region [
      ⟨(some 5), .recover, none, [], false⟩,
      ⟨(some 2), .mov (.tmp 5), none, [], false⟩]) (.seq (.region [
      ⟨(some 6), .mov (.tmp 2), none, [], false⟩,
      ⟨(some 7), .eq .iface true (so (.binOp .neq 20 (.tmp 6) (.const .nilIface) 20) 4) (.tmp 6) (.const .nilIface), none, [], false⟩]) (.cond (.tmp 7)
    (.seq (.region [
      ⟨(some 9), .mov (.tmp 2), none, [], false⟩,
      ⟨(some 10), .assertTo 162 (.agg ⟨[(.int .i64 0), (.int .i64 0)]⟩) true (.tmp 9), none, [], false⟩,
      ⟨(some 8), .mov (.tmp 10), none, [], false⟩,
      ⟨(some 11), .extract 0 (.tmp 8), none, [], false⟩,
      ⟨(some 12), .extract 1 (.tmp 8), none, [], false⟩,
      ⟨(some 3), .alloc 162 [(.int .i64 0), (.int .i64 0)], none, [], false⟩,
      ⟨none, .store 2 (.tmp 3) (.tmp 11), none, [], false⟩,
      ⟨(some 4), .mov (.tmp 12), none, [], false⟩]) (.seq (.seq (.region [
      ⟨(some 13), .mov (.tmp 4), none, [], false⟩,
      ⟨(some 14), .raw (so (.unOp .not 4 (.tmp 13)) 4), none, [], false⟩]) (.cond (.tmp 14)
    (.region [
      ⟨(some 15), .mov (.tmp 2), none, [], false⟩,
      ⟨none, .panic (.tmp 15), none, [], false⟩])
    .skip)) (.region [
      ⟨(some 16), .mov (.tmp 0), none, [], false⟩,
      ⟨(some 17), .fieldAddr 0 (.tmp 3), none, [], false⟩,
      ⟨(some 18), .load (some 2) (.tmp 17), none, [], false⟩,
      ⟨(some 19), .nilCheck (.tmp 16), none, [], false⟩,
      ⟨(some 20), .fieldAddr 2 (.tmp 19), none, [], false⟩,
      ⟨none, .store 2 (.tmp 20) (.tmp 18), none, [], false⟩])))
    .skip)))
noncomputable def wire_Reader_caught : AFunc := ⟨21, [], wire_Reader_caught_c, none⟩
theorem wire_Reader_caught_t0 : tableOf Tryz.prog 114 = some wire_Reader_caught := by kernel_rfl
theorem wire_Reader_caught_t : T0 114 = some wire_Reader_caught := withTrue_t rfl wire_Reader_caught_t0


/-! 115 landfall/wire.take[uint64] -/
abbrev fn_wire_take_uint64_ : FuncId := 115
noncomputable def wire_take_uint64__c : ACode :=
  (.seq (.region [
      ⟨(some 8), .mov (.const (.int .u64 0)), none, [], false⟩]) (.seq (.regionD [
      ⟨(some 9), .mov (.tmp 1), none, [], false⟩,
      ⟨(some 10), .mov (.tmp 0), none, [], false⟩,
      ⟨(some 11), .nilCheck (.tmp 10), none, [], false⟩,
      ⟨(some 12), .fieldAddr 0 (.tmp 11), none, [], false⟩,
      ⟨(some 13), .load none (.tmp 12), none, [], false⟩,
      ⟨(some 14), .lenSl (.tmp 13), none, [], false⟩,
      ⟨(some 15), .mov (.tmp 0), none, [], false⟩,
      ⟨(some 16), .nilCheck (.tmp 15), none, [], false⟩,
      ⟨(some 17), .fieldAddr 1 (.tmp 16), none, [], false⟩,
      ⟨(some 18), .load none (.tmp 17), none, [], false⟩,
      ⟨(some 19), .bin .sub (so (.binOp .sub 3 (.tmp 14) (.tmp 18) 3) 3) (.tmp 14) (.tmp 18), none, [], false⟩,
      ⟨(some 20), .bin .leq (so (.binOp .leq 3 (.tmp 9) (.tmp 19) 3) 4) (.tmp 9) (.tmp 19), none, [], false⟩,
      ⟨(some 21), .mov (.tmp 2), none, [], false⟩,
      ⟨(some 22), .callV (.func 78) [(.tmp 20), (.const (.int .i64 6)), (.tmp 21)], none, [], true⟩]) (.seq (.region [
      ⟨(some 23), .mov (.tmp 0), none, [], false⟩,
      ⟨(some 24), .nilCheck (.tmp 23), none, [], false⟩,
      ⟨(some 25), .fieldAddr 1 (.tmp 24), none, [], false⟩,
      ⟨(some 26), .load none (.tmp 25), none, [], false⟩,
      ⟨(some 27), .mov (.tmp 1), none, [], false⟩,
      ⟨(some 28), .bin .add (so (.binOp .add 3 (.tmp 26) (.tmp 27) 3) 3) (.tmp 26) (.tmp 27), none, [], false⟩,
      ⟨(some 29), .nilCheck (.tmp 23), none, [], false⟩,
      ⟨(some 30), .fieldAddr 1 (.tmp 29), none, [], false⟩,
      ⟨none, .store 1 (.tmp 30) (.tmp 28), none, [], false⟩]) (.seq (.regionD [
      ⟨(some 31), .mov (.tmp 3), none, [], false⟩,
      ⟨(some 32), .mov (.tmp 0), none, [], false⟩,
      ⟨(some 33), .nilCheck (.tmp 32), none, [], false⟩,
      ⟨(some 34), .fieldAddr 0 (.tmp 33), none, [], false⟩,
      ⟨(some 35), .load none (.tmp 34), none, [], false⟩,
      ⟨(some 36), .mov (.tmp 0), none, [], false⟩,
      ⟨(some 37), .nilCheck (.tmp 36), none, [], false⟩,
      ⟨(some 38), .fieldAddr 1 (.tmp 37), none, [], false⟩,
      ⟨(some 39), .load none (.tmp 38), none, [], false⟩,
      ⟨(some 40), .mov (.tmp 1), none, [], false⟩,
      ⟨(some 41), .bin .sub (so (.binOp .sub 3 (.tmp 39) (.tmp 40) 3) 3) (.tmp 39) (.tmp 40), none, [], false⟩,
      ⟨(some 42), .mov (.tmp 0), none, [], false⟩,
      ⟨(some 43), .nilCheck (.tmp 42), none, [], false⟩,
      ⟨(some 44), .fieldAddr 1 (.tmp 43), none, [], false⟩,
      ⟨(some 45), .load none (.tmp 44), none, [], false⟩,
      ⟨(some 46), .sliceSl 1 (.tmp 35) (some (.tmp 41)) (some (.tmp 45)) none, none, [], false⟩,
      ⟨(some 47), .callV (.tmp 31) [(.tmp 46)], none, [], true⟩,
      ⟨(some 8), .mov (.tmp 47), none, [], true⟩]) .ret))))
noncomputable def wire_take_uint64_ : AFunc := ⟨48, [(8, none)], wire_take_uint64__c, none⟩
theorem wire_take_uint64__t0 : tableOf Tryz.prog 115 = some wire_take_uint64_ := by kernel_rfl
theorem wire_take_uint64__t : T0 115 = some wire_take_uint64_ := withTrue_t rfl wire_take_uint64__t0


/-! 116 landfall/wire.big -/
abbrev fn_wire_big : FuncId := 116
noncomputable def wire_big_l0 : ACode :=
  (.seq (.region [
      ⟨(some 8), .bin .lss (so (.binOp .lss 3 (.tmp 7) (.tmp 6) 3) 0) (.tmp 7) (.tmp 6), none, [], false⟩]) (.seq (.cond (.tmp 8)
    .skip
    (.exit 0)) (.seq (.block 1 (.seq (.region [
      ⟨(some 9), .indexSl 1 (.tmp 5) (.tmp 7), none, [], false⟩,
      ⟨(some 10), .load none (.tmp 9), none, [], false⟩,
      ⟨(some 4), .mov (.tmp 10), none, [], false⟩]) (.region [
      ⟨(some 11), .mov (.tmp 2), none, [], false⟩,
      ⟨(some 12), .bin .shl (so (.binOp .shl 124 (.tmp 11) (.const (.int .u64 8)) 125) 124) (.tmp 11) (.const (.int .u64 8)), none, [], false⟩,
      ⟨(some 13), .mov (.tmp 4), none, [], false⟩,
      ⟨(some 14), .conv .u64 (so (.convert 5 124 (.tmp 13)) 124) (.tmp 13), none, [], false⟩,
      ⟨(some 15), .bin .or (so (.binOp .or 124 (.tmp 12) (.tmp 14) 124) 124) (.tmp 12) (.tmp 14), none, [], false⟩,
      ⟨(some 2), .mov (.tmp 15), none, [], false⟩]))) (.region [
      ⟨(some 16), .bin .add (so (.binOp .add 3 (.tmp 7) (.const (.int .i64 1)) 3) 3) (.tmp 7) (.const (.int .i64 1)), none, [], false⟩,
      ⟨(some 7), .mov (.tmp 16), none, [], false⟩]))))
noncomputable def wire_big_c : ACode :=
  (.seq (.region [
      ⟨(some 2), .mov (.const (.int .u64 0)), none, [], false⟩]) (.seq (.seq (.region [
      ⟨(some 5), .mov (.tmp 0), none, [], false⟩,
      ⟨(some 6), .lenSl (.tmp 5), none, [], false⟩,
      ⟨(some 7), .mov (.const (.int .i64 0)), none, [], false⟩]) (.block 0 (.loop wire_big_l0))) (.seq (.region [
      ⟨(some 17), .mov (.tmp 2), none, [], false⟩,
      ⟨(some 2), .mov (.tmp 17), none, [], false⟩]) .ret)))
noncomputable def wire_big : AFunc := ⟨18, [(2, none)], wire_big_c, none⟩
theorem wire_big_t0 : tableOf Tryz.prog 116 = some wire_big := by kernel_rfl
theorem wire_big_t : T0 116 = some wire_big := withTrue_t rfl wire_big_t0


/-! 117 (*landfall/wire.Reader).num$1 -/
abbrev fn_wire_Reader_num_1 : FuncId := 117
noncomputable def wire_Reader_num_1_c : ACode :=
  (.seq (.region [
      ⟨(some 4), .mov (.const (.int .u64 0)), none, [], false⟩]) (.seq (.seq (.region [
      ⟨(some 5), .load none (.tmp 1), none, [], false⟩,
      ⟨(some 6), .bin .gtr (so (.binOp .gtr 3 (.tmp 5) (.const (.int .i64 0)) 3) 4) (.tmp 5) (.const (.int .i64 0)), none, [], false⟩]) (.cond (.tmp 6)
    (.region [
      ⟨(some 7), .mov (.tmp 0), none, [], false⟩,
      ⟨(some 8), .indexSl 1 (.tmp 7) (.const (.int .i64 0)), none, [], false⟩,
      ⟨(some 9), .load none (.tmp 8), none, [], false⟩,
      ⟨none, .store 1 (.tmp 2) (.tmp 9), none, [], false⟩])
    .skip)) (.seq (.region [
      ⟨(some 10), .mov (.tmp 0), none, [], false⟩,
      ⟨(some 11), .callV (.func 116) [(.tmp 10)], none, [], false⟩,
      ⟨(some 4), .mov (.tmp 11), none, [], false⟩]) .ret)))
noncomputable def wire_Reader_num_1 : AFunc := ⟨12, [(4, none)], wire_Reader_num_1_c, none⟩
theorem wire_Reader_num_1_t0 : tableOf Tryz.prog 117 = some wire_Reader_num_1 := by kernel_rfl
theorem wire_Reader_num_1_t : T0 117 = some wire_Reader_num_1 := withTrue_t rfl wire_Reader_num_1_t0


/-! 118 (*landfall/wire.Reader).Text -/
abbrev fn_wire_Reader_Text : FuncId := 118
noncomputable def wire_Reader_Text_c : ACode :=
  (.seq (.region [
      ⟨(some 4), .mov (.const (.string ⟨⟨[]⟩⟩)), none, [], false⟩]) (.seq (.region [
      ⟨(some 5), .mov (.tmp 0), none, [], false⟩,
      ⟨(some 6), .mov (.tmp 1), none, [], false⟩,
      ⟨(some 7), .callV (.func 39) [(.tmp 5), (.tmp 6)], none, [], false⟩,
      ⟨(some 8), .bytesToStr (.tmp 7), none, [], false⟩,
      ⟨(some 4), .mov (.tmp 8), none, [], false⟩]) .ret))
noncomputable def wire_Reader_Text : AFunc := ⟨9, [(4, none)], wire_Reader_Text_c, none⟩
theorem wire_Reader_Text_t0 : tableOf Tryz.prog 118 = some wire_Reader_Text := by kernel_rfl
theorem wire_Reader_Text_t : T0 118 = some wire_Reader_Text := withTrue_t rfl wire_Reader_Text_t0


/-! 119 (*landfall/wire.Reader).Hash -/
abbrev fn_wire_Reader_Hash : FuncId := 119
noncomputable def wire_Reader_Hash_c : ACode :=
  (.seq (.region [
      ⟨(some 1), .box 69 (.tmp 0), none, [], false⟩,
      ⟨(some 2), .alloc 28 z32, none, [], false⟩]) (.seq (.region [
      ⟨(some 3), .load none (.tmp 1), none, [], false⟩,
      ⟨(some 4), .mkFunc (.func 140) [] [(.tmp 1)], none, [], false⟩,
      ⟨(some 5), .callV (.func 139) [(.tmp 3), (.tmp 4)], none, [], false⟩,
      ⟨none, .store 32 (.tmp 2) (.tmp 5), none, [], false⟩]) .ret))
noncomputable def wire_Reader_Hash : AFunc := ⟨6, [(2, some (some 32))], wire_Reader_Hash_c, none⟩
theorem wire_Reader_Hash_t0 : tableOf Tryz.prog 119 = some wire_Reader_Hash := by kernel_rfl
theorem wire_Reader_Hash_t : T0 119 = some wire_Reader_Hash := withTrue_t rfl wire_Reader_Hash_t0


/-! 120 (*landfall/wire.Reader).Word -/
abbrev fn_wire_Reader_Word : FuncId := 120
noncomputable def wire_Reader_Word_c : ACode :=
  (.seq (.region [
      ⟨(some 1), .box 69 (.tmp 0), none, [], false⟩,
      ⟨(some 2), .mov (.const (.int .u64 0)), none, [], false⟩]) (.seq (.region [
      ⟨(some 3), .load none (.tmp 1), none, [], false⟩,
      ⟨(some 4), .mkFunc (.func 144) [] [(.tmp 1)], none, [], false⟩,
      ⟨(some 5), .callV (.func 143) [(.tmp 3), (.tmp 4)], none, [], false⟩,
      ⟨(some 2), .mov (.tmp 5), none, [], false⟩]) .ret))
noncomputable def wire_Reader_Word : AFunc := ⟨6, [(2, none)], wire_Reader_Word_c, none⟩
theorem wire_Reader_Word_t0 : tableOf Tryz.prog 120 = some wire_Reader_Word := by kernel_rfl
theorem wire_Reader_Word_t : T0 120 = some wire_Reader_Word := withTrue_t rfl wire_Reader_Word_t0


/-! 121 (*landfall/wire.Reader).Key -/
abbrev fn_wire_Reader_Key : FuncId := 121
noncomputable def wire_Reader_Key_c : ACode :=
  (.seq (.region [
      ⟨(some 1), .box 69 (.tmp 0), none, [], false⟩,
      ⟨(some 2), .alloc 130 [(.int .u8 0), (.int .u8 0), (.int .u8 0), (.int .u8 0)], none, [], false⟩]) (.seq (.region [
      ⟨(some 3), .load none (.tmp 1), none, [], false⟩,
      ⟨(some 4), .mkFunc (.func 146) [] [(.tmp 1)], none, [], false⟩,
      ⟨(some 5), .callV (.func 145) [(.tmp 3), (.tmp 4)], none, [], false⟩,
      ⟨none, .store 4 (.tmp 2) (.tmp 5), none, [], false⟩]) .ret))
noncomputable def wire_Reader_Key : AFunc := ⟨6, [(2, some (some 4))], wire_Reader_Key_c, none⟩
theorem wire_Reader_Key_t0 : tableOf Tryz.prog 121 = some wire_Reader_Key := by kernel_rfl
theorem wire_Reader_Key_t : T0 121 = some wire_Reader_Key := withTrue_t rfl wire_Reader_Key_t0


/-! 134 landfall/header.rules -/
abbrev fn_header_rules : FuncId := 134
noncomputable def header_rules_c : ACode :=
  (.seq (.region [
      ⟨(some 0), .mov (.const (.slice none 0 0)), none, [], false⟩]) (.seq (.region [
      ⟨(some 1), .build [.nilFunc, (.int .i64 0)] [(0, 1, (.func 154)), (1, 1, (.const (.int .i64 5)))], none, [], false⟩,
      ⟨(some 2), .build [.nilFunc, (.int .i64 0)] [(0, 1, (.func 156)), (1, 1, (.const (.int .i64 3)))], none, [], false⟩,
      ⟨(some 3), .build [.nilFunc, (.int .i64 0)] [(0, 1, (.func 157)), (1, 1, (.const (.int .i64 3)))], none, [], false⟩,
      ⟨(some 4), .buildSlice 175 [.nilFunc, (.int .i64 0), .nilFunc, (.int .i64 0), .nilFunc, (.int .i64 0)] 3 [(0, 2, (.tmp 1)), (2, 2, (.tmp 2)), (4, 2, (.tmp 3))], none, [], false⟩,
      ⟨(some 0), .mov (.tmp 4), none, [], false⟩]) .ret))
noncomputable def header_rules : AFunc := ⟨5, [(0, none)], header_rules_c, none⟩
theorem header_rules_t0 : tableOf Tryz.prog 134 = some header_rules := by kernel_rfl
theorem header_rules_t : T0 134 = some header_rules := withTrue_t rfl header_rules_t0


/-! 135 (*landfall/vals.look).at -/
abbrev fn_vals_look_at : FuncId := 135
noncomputable def vals_look_at_c : ACode :=
  (.seq (.region [
      ⟨(some 3), .box 132 (.tmp 1), none, [], false⟩,
      ⟨(some 4), .mov (.const (.int .i64 0)), none, [], false⟩]) (.seq (.regionD [
      ⟨(some 6), .mov (.tmp 0), none, [], true⟩,
      ⟨(some 7), .nilCheck (.tmp 6), none, [], true⟩,
      ⟨(some 8), .fieldAddr 4 (.tmp 7), none, [], true⟩,
      ⟨(some 9), .load none (.tmp 8), none, [], true⟩,
      ⟨(some 10), .mov (.tmp 9), none, [], true⟩,
      ⟨(some 11), .mov (.tmp 0), (some (10, true)), [], false⟩,
      ⟨(some 12), .nilCheck (.tmp 11), (some (10, true)), [], false⟩,
      ⟨(some 13), .fieldAddr 0 (.tmp 12), (some (10, true)), [], false⟩,
      ⟨(some 14), .sliceArr 4 1 (.tmp 13) none none, (some (10, true)), [], false⟩,
      ⟨(some 15), .fieldAddr 0 (.tmp 3), (some (10, true)), [], false⟩,
      ⟨(some 16), .sliceArr 4 1 (.tmp 15) none none, (some (10, true)), [], false⟩,
      ⟨(some 17), .callV (.func 158) [(.tmp 14), (.tmp 16)], (some (10, true)), [], true⟩,
      ⟨(some 18), .bin .geq (so (.binOp .geq 3 (.tmp 17) (.const (.int .i64 0)) 3) 4) (.tmp 17) (.const (.int .i64 0)), (some (10, true)), [], true⟩,
      ⟨(some 19), .pick (.tmp 10) (.tmp 18) (.const (.bool false)), none, [], true⟩,
      ⟨(some 5), .mov (.tmp 19), none, [], true⟩]) (.seq (.region [
      ⟨(some 20), .mov (.tmp 0), none, [], false⟩,
      ⟨(some 21), .mov (.tmp 0), none, [], false⟩,
      ⟨(some 22), .fieldAddr 0 (.tmp 3), none, [], false⟩,
      ⟨(some 23), .load (some 4) (.tmp 22), none, [], false⟩,
      ⟨(some 24), .nilCheck (.tmp 20), none, [], false⟩,
      ⟨(some 25), .fieldAddr 0 (.tmp 24), none, [], false⟩,
      ⟨none, .store 4 (.tmp 25) (.tmp 23), none, [], false⟩,
      ⟨(some 26), .nilCheck (.tmp 21), none, [], false⟩,
      ⟨(some 27), .fieldAddr 4 (.tmp 26), none, [], false⟩,
      ⟨none, .store 1 (.tmp 27) (.const (.bool true)), none, [], false⟩]) (.seq (.block 0 (.seq (.region [
      ⟨(some 29), .mov (.tmp 5), none, [], false⟩,
      ⟨(some 28), .mov (.tmp 29), none, [], false⟩]) (.cond (.tmp 28)
    (.seq (.region [
      ⟨(some 4), .mov (.const (.int .i64 9)), none, [], false⟩]) .ret)
    (.seq (.regionD [
      ⟨(some 31), .fieldAddr 4 (.tmp 3), none, [], false⟩,
      ⟨(some 32), .load none (.tmp 31), none, [], false⟩,
      ⟨(some 33), .mov (.tmp 0), none, [], false⟩,
      ⟨(some 34), .nilCheck (.tmp 33), none, [], false⟩,
      ⟨(some 35), .fieldAddr 5 (.tmp 34), none, [], false⟩,
      ⟨(some 36), .load none (.tmp 35), none, [], false⟩,
      ⟨(some 37), .bin .lss (so (.binOp .lss 3 (.tmp 32) (.tmp 36) 3) 4) (.tmp 32) (.tmp 36), none, [], true⟩,
      ⟨(some 38), .mov (.tmp 37), none, [], true⟩,
      ⟨(some 39), .fieldAddr 4 (.tmp 3), (some (38, false)), [], false⟩,
      ⟨(some 40), .load none (.tmp 39), (some (38, false)), [], false⟩,
      ⟨(some 41), .mov (.tmp 0), (some (38, false)), [], false⟩,
      ⟨(some 42), .nilCheck (.tmp 41), (some (38, false)), [], false⟩,
      ⟨(some 43), .fieldAddr 6 (.tmp 42), (some (38, false)), [], false⟩,
      ⟨(some 44), .load none (.tmp 43), (some (38, false)), [], false⟩,
      ⟨(some 45), .bin .gtr (so (.binOp .gtr 3 (.tmp 40) (.tmp 44) 3) 4) (.tmp 40) (.tmp 44), (some (38, false)), [], true⟩,
      ⟨(some 46), .pick (.tmp 38) (.const (.bool true)) (.tmp 45), none, [], true⟩,
      ⟨(some 30), .mov (.tmp 46), none, [], true⟩]) (.cond (.tmp 30)
    (.seq (.region [
      ⟨(some 4), .mov (.const (.int .i64 3)), none, [], false⟩]) .ret)
    .skip))))) (.seq (.region [
      ⟨(some 4), .mov (.const (.int .i64 0)), none, [], false⟩]) .ret)))))
noncomputable def vals_look_at : AFunc := ⟨47, [(4, none)], vals_look_at_c, none⟩
theorem vals_look_at_t0 : tableOf Tryz.prog 135 = some vals_look_at := by kernel_rfl
theorem vals_look_at_t : T0 135 = some vals_look_at := withTrue_t rfl vals_look_at_t0


/-! 136 landfall/commit.rises -/
abbrev fn_commit_rises : FuncId := 136
noncomputable def commit_rises_c : ACode :=
  (.seq (.region [
      ⟨(some 0), .mov (.const .nilFunc), none, [], false⟩]) (.seq (.region [
      ⟨(some 1), .alloc 3 [(.int .i64 0)], none, [], false⟩,
      ⟨none, .store 1 (.tmp 1) (.const (.int .i64 (-1))), none, [], false⟩]) (.seq (.region [
      ⟨(some 2), .mkFunc (.func 159) [] [(.tmp 1)], none, [], false⟩,
      ⟨(some 0), .mov (.tmp 2), none, [], false⟩]) .ret)))
noncomputable def commit_rises : AFunc := ⟨3, [(0, none)], commit_rises_c, none⟩
theorem commit_rises_t0 : tableOf Tryz.prog 136 = some commit_rises := by kernel_rfl
theorem commit_rises_t : T0 136 = some commit_rises := withTrue_t rfl commit_rises_t0


/-! 137 landfall/wire.word -/
abbrev fn_wire_word : FuncId := 137
noncomputable def wire_word_l0 : ACode :=
  (.seq (.region [
      ⟨(some 6), .bin .lss (so (.binOp .lss 3 (.tmp 5) (.const (.int .i64 8)) 3) 4) (.tmp 5) (.const (.int .i64 8)), none, [], false⟩]) (.seq (.cond (.tmp 6)
    .skip
    (.exit 0)) (.seq (.block 1 (.seq (.region [
      ⟨(some 7), .mov (.tmp 5), none, [], false⟩,
      ⟨(some 4), .mov (.tmp 7), none, [], false⟩]) (.region [
      ⟨(some 8), .mov (.tmp 4), none, [], false⟩,
      ⟨(some 9), .bin .sub (so (.binOp .sub 3 (.const (.int .i64 7)) (.tmp 8) 3) 3) (.const (.int .i64 7)) (.tmp 8), none, [], false⟩,
      ⟨(some 10), .mov (.tmp 0), none, [], false⟩,
      ⟨(some 11), .mov (.tmp 4), none, [], false⟩,
      ⟨(some 12), .bin .mul (so (.binOp .mul 3 (.const (.int .i64 8)) (.tmp 11) 3) 3) (.const (.int .i64 8)) (.tmp 11), none, [], false⟩,
      ⟨(some 13), .bin .shr (so (.binOp .shr 124 (.tmp 10) (.tmp 12) 3) 124) (.tmp 10) (.tmp 12), none, [], false⟩,
      ⟨(some 14), .conv .u8 (so (.convert 124 5 (.tmp 13)) 5) (.tmp 13), none, [], false⟩,
      ⟨(some 15), .indexArr 8 1 (.tmp 3) (.tmp 9), none, [], false⟩,
      ⟨none, .store 1 (.tmp 15) (.tmp 14), none, [], false⟩]))) (.region [
      ⟨(some 16), .bin .add (so (.binOp .add 3 (.tmp 5) (.const (.int .i64 1)) 3) 3) (.tmp 5) (.const (.int .i64 1)), none, [], false⟩,
      ⟨(some 5), .mov (.tmp 16), none, [], false⟩]))))
noncomputable def wire_word_c : ACode :=
  (.seq (.region [
      ⟨(some 2), .alloc 181 [(.int .u8 0), (.int .u8 0), (.int .u8 0), (.int .u8 0), (.int .u8 0), (.int .u8 0), (.int .u8 0), (.int .u8 0)], none, [], false⟩]) (.seq (.region [
      ⟨(some 3), .alloc 181 [(.int .u8 0), (.int .u8 0), (.int .u8 0), (.int .u8 0), (.int .u8 0), (.int .u8 0), (.int .u8 0), (.int .u8 0)], none, [], false⟩]) (.seq (.seq (.region [
      ⟨(some 5), .mov (.const (.int .i64 0)), none, [], false⟩]) (.block 0 (.loop wire_word_l0))) (.seq (.region [
      ⟨(some 17), .load (some 8) (.tmp 3), none, [], false⟩,
      ⟨none, .store 8 (.tmp 2) (.tmp 17), none, [], false⟩]) .ret))))
noncomputable def wire_word : AFunc := ⟨18, [(2, some (some 8))], wire_word_c, none⟩
theorem wire_word_t0 : tableOf Tryz.prog 137 = some wire_word := by kernel_rfl
theorem wire_word_t : T0 137 = some wire_word := withTrue_t rfl wire_word_t0


/-! 138 slices.Concat[[]byte,byte] -/
abbrev fn_slices_Concat___byte_byte_ : FuncId := 138
noncomputable def slices_Concat___byte_byte__l0 : ACode :=
  (.seq (.region [
      ⟨(some 12), .bin .lss (so (.binOp .lss 3 (.tmp 11) (.tmp 10) 3) 0) (.tmp 11) (.tmp 10), none, [], false⟩]) (.seq (.cond (.tmp 12)
    .skip
    (.exit 0)) (.seq (.block 1 (.seq (.region [
      ⟨(some 13), .indexSl 1 (.tmp 9) (.tmp 11), none, [], false⟩,
      ⟨(some 14), .load none (.tmp 13), none, [], false⟩,
      ⟨(some 5), .mov (.tmp 14), none, [], false⟩]) (.seq (.region [
      ⟨(some 15), .mov (.tmp 3), none, [], false⟩,
      ⟨(some 16), .mov (.tmp 5), none, [], false⟩,
      ⟨(some 17), .lenSl (.tmp 16), none, [], false⟩,
      ⟨(some 18), .bin .add (so (.binOp .add 3 (.tmp 15) (.tmp 17) 3) 3) (.tmp 15) (.tmp 17), none, [], false⟩,
      ⟨(some 3), .mov (.tmp 18), none, [], false⟩]) (.seq (.region [
      ⟨(some 19), .mov (.tmp 3), none, [], false⟩,
      ⟨(some 20), .bin .lss (so (.binOp .lss 3 (.tmp 19) (.const (.int .i64 0)) 3) 4) (.tmp 19) (.const (.int .i64 0)), none, [], false⟩]) (.cond (.tmp 20)
    (.region [
      ⟨(some 21), .mkIface 9 (.const (.string ⟨⟨[108, 101, 110, 32, 111, 117, 116, 32, 111, 102, 32, 114, 97, 110, 103, 101]⟩⟩)), none, [], false⟩,
      ⟨none, .panic (.tmp 21), none, [], false⟩])
    .skip))))) (.region [
      ⟨(some 22), .bin .add (so (.binOp .add 3 (.tmp 11) (.const (.int .i64 1)) 3) 3) (.tmp 11) (.const (.int .i64 1)), none, [], false⟩,
      ⟨(some 11), .mov (.tmp 22), none, [], false⟩]))))
noncomputable def slices_Concat___byte_byte__l1 : ACode :=
  (.seq (.region [
      ⟨(some 28), .bin .lss (so (.binOp .lss 3 (.tmp 27) (.tmp 26) 3) 0) (.tmp 27) (.tmp 26), none, [], false⟩]) (.seq (.cond (.tmp 28)
    .skip
    (.exit 2)) (.seq (.block 3 (.seq (.region [
      ⟨(some 29), .indexSl 1 (.tmp 25) (.tmp 27), none, [], false⟩,
      ⟨(some 30), .load none (.tmp 29), none, [], false⟩,
      ⟨(some 8), .mov (.tmp 30), none, [], false⟩]) (.region [
      ⟨(some 31), .mov (.tmp 6), none, [], false⟩,
      ⟨(some 32), .mov (.tmp 8), none, [], false⟩,
      ⟨(some 33), .append 5 1 1 [(.int .u8 0)] false (.tmp 31) (.tmp 32), none, [], false⟩,
      ⟨(some 6), .mov (.tmp 33), none, [], false⟩]))) (.region [
      ⟨(some 34), .bin .add (so (.binOp .add 3 (.tmp 27) (.const (.int .i64 1)) 3) 3) (.tmp 27) (.const (.int .i64 1)), none, [], false⟩,
      ⟨(some 27), .mov (.tmp 34), none, [], false⟩]))))
noncomputable def slices_Concat___byte_byte__c : ACode :=
  (.seq (.region [
      ⟨(some 2), .mov (.const (.slice none 0 0)), none, [], false⟩]) (.seq (.region [
      ⟨(some 3), .mov (.const (.int .i64 0)), none, [], false⟩]) (.seq (.seq (.region [
      ⟨(some 9), .mov (.tmp 0), none, [], false⟩,
      ⟨(some 10), .lenSl (.tmp 9), none, [], false⟩,
      ⟨(some 11), .mov (.const (.int .i64 0)), none, [], false⟩]) (.block 0 (.loop slices_Concat___byte_byte__l0))) (.seq (.region [
      ⟨(some 23), .mov (.tmp 3), none, [], false⟩,
      ⟨(some 24), .callV (.func 160) [(.const (.slice none 0 0)), (.tmp 23)], none, [], false⟩,
      ⟨(some 6), .mov (.tmp 24), none, [], false⟩]) (.seq (.seq (.region [
      ⟨(some 25), .mov (.tmp 0), none, [], false⟩,
      ⟨(some 26), .lenSl (.tmp 25), none, [], false⟩,
      ⟨(some 27), .mov (.const (.int .i64 0)), none, [], false⟩]) (.block 2 (.loop slices_Concat___byte_byte__l1))) (.seq (.region [
      ⟨(some 35), .mov (.tmp 6), none, [], false⟩,
      ⟨(some 2), .mov (.tmp 35), none, [], false⟩]) .ret))))))
noncomputable def slices_Concat___byte_byte_ : AFunc := ⟨36, [(2, none)], slices_Concat___byte_byte__c, none⟩
theorem slices_Concat___byte_byte__t0 : tableOf Tryz.prog 138 = some slices_Concat___byte_byte_ := by kernel_rfl
theorem slices_Concat___byte_byte__t : T0 138 = some slices_Concat___byte_byte_ := withTrue_t rfl slices_Concat___byte_byte__t0


/-! 139 landfall/wire.reads[landfall/api.Hash] -/
abbrev fn_wire_reads_api_Hash_ : FuncId := 139
noncomputable def wire_reads_api_Hash__c : ACode :=
  (.seq (.region [
      ⟨(some 4), .alloc 28 z32, none, [], false⟩]) (.seq (.seq (.region [
      ⟨(some 5), .mov (.tmp 0), none, [], false⟩,
      ⟨(some 6), .eq .ptr false (so (.binOp .eql 69 (.tmp 5) (.const (.pointer none)) 69) 4) (.tmp 5) (.const (.pointer none)), none, [], false⟩,
      ⟨(some 7), .mov (.tmp 6), none, [], false⟩,
      ⟨(some 8), .mov (.tmp 0), (some (7, false)), [], false⟩,
      ⟨(some 9), .nilCheck (.tmp 8), (some (7, false)), [], false⟩,
      ⟨(some 10), .fieldAddr 4 (.tmp 9), (some (7, false)), [], false⟩,
      ⟨(some 11), .load none (.tmp 10), (some (7, false)), [], false⟩,
      ⟨(some 12), .raw (so (.unOp .not 4 (.tmp 11)) 4), (some (7, false)), [], false⟩,
      ⟨(some 13), .pick (.tmp 7) (.const (.bool true)) (.tmp 12), none, [], false⟩,
      ⟨(some 14), .mov (.tmp 13), none, [], false⟩,
      ⟨(some 15), .mov (.tmp 0), (some (14, false)), [], false⟩,
      ⟨(some 16), .nilCheck (.tmp 15), (some (14, false)), [], false⟩,
      ⟨(some 17), .fieldAddr 2 (.tmp 16), (some (14, false)), [], false⟩,
      ⟨(some 18), .fieldAddr 0 (.tmp 17), (some (14, false)), [], false⟩,
      ⟨(some 19), .load none (.tmp 18), (some (14, false)), [], false⟩,
      ⟨(some 20), .bin .neq (so (.binOp .neq 41 (.tmp 19) (.const (.int .i64 0)) 41) 4) (.tmp 19) (.const (.int .i64 0)), (some (14, false)), [], false⟩,
      ⟨(some 21), .pick (.tmp 14) (.const (.bool true)) (.tmp 20), none, [], false⟩]) (.cond (.tmp 21)
    (.seq (.region [
      ⟨(some 22), .load (some 32) (.tmp 4), none, [], false⟩,
      ⟨none, .store 32 (.tmp 4) (.tmp 22), none, [], false⟩]) .ret)
    .skip)) (.seq (.region [
      ⟨(some 23), .mov (.tmp 0), none, [], false⟩,
      ⟨none, .defer (.func 114) [(.tmp 23)], none, [], false⟩]) (.seq (.region [
      ⟨(some 24), .mov (.tmp 1), none, [], false⟩,
      ⟨(some 25), .mov (.tmp 0), none, [], false⟩,
      ⟨(some 26), .nilCheck (.tmp 25), none, [], false⟩,
      ⟨(some 27), .fieldAddr 1 (.tmp 26), none, [], false⟩,
      ⟨(some 28), .load none (.tmp 27), none, [], false⟩,
      ⟨(some 29), .callV (.tmp 24) [(.tmp 28)], none, [], false⟩,
      ⟨none, .store 32 (.tmp 4) (.tmp 29), none, [], false⟩]) .ret))))
noncomputable def wire_reads_api_Hash_ : AFunc := ⟨30, [(4, some (some 32))], wire_reads_api_Hash__c, none⟩
theorem wire_reads_api_Hash__t0 : tableOf Tryz.prog 139 = some wire_reads_api_Hash_ := by kernel_rfl
theorem wire_reads_api_Hash__t : T0 139 = some wire_reads_api_Hash_ := withTrue_t rfl wire_reads_api_Hash__t0


/-! 140 (*landfall/wire.Reader).Hash$1 -/
abbrev fn_wire_Reader_Hash_1 : FuncId := 140
noncomputable def wire_Reader_Hash_1_c : ACode :=
  (.seq (.region [
      ⟨(some 3), .alloc 28 z32, none, [], false⟩]) (.seq (.region [
      ⟨(some 4), .load none (.tmp 1), none, [], false⟩,
      ⟨(some 5), .mov (.tmp 0), none, [], false⟩,
      ⟨(some 6), .callV (.func 141) [(.tmp 4), (.const (.int .i64 32)), (.tmp 5), (.func 142)], none, [], false⟩,
      ⟨none, .store 32 (.tmp 3) (.tmp 6), none, [], false⟩]) .ret))
noncomputable def wire_Reader_Hash_1 : AFunc := ⟨7, [(3, some (some 32))], wire_Reader_Hash_1_c, none⟩
theorem wire_Reader_Hash_1_t0 : tableOf Tryz.prog 140 = some wire_Reader_Hash_1 := by kernel_rfl
theorem wire_Reader_Hash_1_t : T0 140 = some wire_Reader_Hash_1 := withTrue_t rfl wire_Reader_Hash_1_t0


/-! 141 landfall/wire.take[landfall/api.Hash] -/
abbrev fn_wire_take_api_Hash_ : FuncId := 141
noncomputable def wire_take_api_Hash__c : ACode :=
  (.seq (.region [
      ⟨(some 8), .alloc 28 z32, none, [], false⟩]) (.seq (.regionD [
      ⟨(some 9), .mov (.tmp 1), none, [], false⟩,
      ⟨(some 10), .mov (.tmp 0), none, [], false⟩,
      ⟨(some 11), .nilCheck (.tmp 10), none, [], false⟩,
      ⟨(some 12), .fieldAddr 0 (.tmp 11), none, [], false⟩,
      ⟨(some 13), .load none (.tmp 12), none, [], false⟩,
      ⟨(some 14), .lenSl (.tmp 13), none, [], false⟩,
      ⟨(some 15), .mov (.tmp 0), none, [], false⟩,
      ⟨(some 16), .nilCheck (.tmp 15), none, [], false⟩,
      ⟨(some 17), .fieldAddr 1 (.tmp 16), none, [], false⟩,
      ⟨(some 18), .load none (.tmp 17), none, [], false⟩,
      ⟨(some 19), .bin .sub (so (.binOp .sub 3 (.tmp 14) (.tmp 18) 3) 3) (.tmp 14) (.tmp 18), none, [], false⟩,
      ⟨(some 20), .bin .leq (so (.binOp .leq 3 (.tmp 9) (.tmp 19) 3) 4) (.tmp 9) (.tmp 19), none, [], false⟩,
      ⟨(some 21), .mov (.tmp 2), none, [], false⟩,
      ⟨(some 22), .callV (.func 78) [(.tmp 20), (.const (.int .i64 6)), (.tmp 21)], none, [], true⟩]) (.seq (.region [
      ⟨(some 23), .mov (.tmp 0), none, [], false⟩,
      ⟨(some 24), .nilCheck (.tmp 23), none, [], false⟩,
      ⟨(some 25), .fieldAddr 1 (.tmp 24), none, [], false⟩,
      ⟨(some 26), .load none (.tmp 25), none, [], false⟩,
      ⟨(some 27), .mov (.tmp 1), none, [], false⟩,
      ⟨(some 28), .bin .add (so (.binOp .add 3 (.tmp 26) (.tmp 27) 3) 3) (.tmp 26) (.tmp 27), none, [], false⟩,
      ⟨(some 29), .nilCheck (.tmp 23), none, [], false⟩,
      ⟨(some 30), .fieldAddr 1 (.tmp 29), none, [], false⟩,
      ⟨none, .store 1 (.tmp 30) (.tmp 28), none, [], false⟩]) (.seq (.regionD [
      ⟨(some 31), .mov (.tmp 3), none, [], false⟩,
      ⟨(some 32), .mov (.tmp 0), none, [], false⟩,
      ⟨(some 33), .nilCheck (.tmp 32), none, [], false⟩,
      ⟨(some 34), .fieldAddr 0 (.tmp 33), none, [], false⟩,
      ⟨(some 35), .load none (.tmp 34), none, [], false⟩,
      ⟨(some 36), .mov (.tmp 0), none, [], false⟩,
      ⟨(some 37), .nilCheck (.tmp 36), none, [], false⟩,
      ⟨(some 38), .fieldAddr 1 (.tmp 37), none, [], false⟩,
      ⟨(some 39), .load none (.tmp 38), none, [], false⟩,
      ⟨(some 40), .mov (.tmp 1), none, [], false⟩,
      ⟨(some 41), .bin .sub (so (.binOp .sub 3 (.tmp 39) (.tmp 40) 3) 3) (.tmp 39) (.tmp 40), none, [], false⟩,
      ⟨(some 42), .mov (.tmp 0), none, [], false⟩,
      ⟨(some 43), .nilCheck (.tmp 42), none, [], false⟩,
      ⟨(some 44), .fieldAddr 1 (.tmp 43), none, [], false⟩,
      ⟨(some 45), .load none (.tmp 44), none, [], false⟩,
      ⟨(some 46), .sliceSl 1 (.tmp 35) (some (.tmp 41)) (some (.tmp 45)) none, none, [], false⟩,
      ⟨(some 47), .callV (.tmp 31) [(.tmp 46)], none, [], true⟩,
      ⟨none, .store 32 (.tmp 8) (.tmp 47), none, [], true⟩]) .ret))))
noncomputable def wire_take_api_Hash_ : AFunc := ⟨48, [(8, some (some 32))], wire_take_api_Hash__c, none⟩
theorem wire_take_api_Hash__t0 : tableOf Tryz.prog 141 = some wire_take_api_Hash_ := by kernel_rfl
theorem wire_take_api_Hash__t : T0 141 = some wire_take_api_Hash_ := withTrue_t rfl wire_take_api_Hash__t0


/-! 142 (*landfall/wire.Reader).Hash$1$1 -/
abbrev fn_wire_Reader_Hash_1_1 : FuncId := 142
noncomputable def wire_Reader_Hash_1_1_c : ACode :=
  (.seq (.region [
      ⟨(some 2), .alloc 28 z32, none, [], false⟩]) (.seq (.region [
      ⟨(some 3), .mov (.tmp 0), none, [], false⟩,
      ⟨(some 4), .arrayAt 32 (.tmp 3), none, [], false⟩,
      ⟨(some 5), .load (some 32) (.tmp 4), none, [], false⟩,
      ⟨none, .store 32 (.tmp 2) (.tmp 5), none, [], false⟩]) .ret))
noncomputable def wire_Reader_Hash_1_1 : AFunc := ⟨6, [(2, some (some 32))], wire_Reader_Hash_1_1_c, none⟩
theorem wire_Reader_Hash_1_1_t0 : tableOf Tryz.prog 142 = some wire_Reader_Hash_1_1 := by kernel_rfl
theorem wire_Reader_Hash_1_1_t : T0 142 = some wire_Reader_Hash_1_1 := withTrue_t rfl wire_Reader_Hash_1_1_t0


/-! 143 landfall/wire.reads[uint64] -/
abbrev fn_wire_reads_uint64_ : FuncId := 143
noncomputable def wire_reads_uint64__c : ACode :=
  (.seq (.region [
      ⟨(some 4), .mov (.const (.int .u64 0)), none, [], false⟩]) (.seq (.seq (.region [
      ⟨(some 5), .mov (.tmp 0), none, [], false⟩,
      ⟨(some 6), .eq .ptr false (so (.binOp .eql 69 (.tmp 5) (.const (.pointer none)) 69) 4) (.tmp 5) (.const (.pointer none)), none, [], false⟩,
      ⟨(some 7), .mov (.tmp 6), none, [], false⟩,
      ⟨(some 8), .mov (.tmp 0), (some (7, false)), [], false⟩,
      ⟨(some 9), .nilCheck (.tmp 8), (some (7, false)), [], false⟩,
      ⟨(some 10), .fieldAddr 4 (.tmp 9), (some (7, false)), [], false⟩,
      ⟨(some 11), .load none (.tmp 10), (some (7, false)), [], false⟩,
      ⟨(some 12), .raw (so (.unOp .not 4 (.tmp 11)) 4), (some (7, false)), [], false⟩,
      ⟨(some 13), .pick (.tmp 7) (.const (.bool true)) (.tmp 12), none, [], false⟩,
      ⟨(some 14), .mov (.tmp 13), none, [], false⟩,
      ⟨(some 15), .mov (.tmp 0), (some (14, false)), [], false⟩,
      ⟨(some 16), .nilCheck (.tmp 15), (some (14, false)), [], false⟩,
      ⟨(some 17), .fieldAddr 2 (.tmp 16), (some (14, false)), [], false⟩,
      ⟨(some 18), .fieldAddr 0 (.tmp 17), (some (14, false)), [], false⟩,
      ⟨(some 19), .load none (.tmp 18), (some (14, false)), [], false⟩,
      ⟨(some 20), .bin .neq (so (.binOp .neq 41 (.tmp 19) (.const (.int .i64 0)) 41) 4) (.tmp 19) (.const (.int .i64 0)), (some (14, false)), [], false⟩,
      ⟨(some 21), .pick (.tmp 14) (.const (.bool true)) (.tmp 20), none, [], false⟩]) (.cond (.tmp 21)
    (.seq (.region [
      ⟨(some 22), .mov (.tmp 4), none, [], false⟩,
      ⟨(some 4), .mov (.tmp 22), none, [], false⟩]) .ret)
    .skip)) (.seq (.region [
      ⟨(some 23), .mov (.tmp 0), none, [], false⟩,
      ⟨none, .defer (.func 114) [(.tmp 23)], none, [], false⟩]) (.seq (.region [
      ⟨(some 24), .mov (.tmp 1), none, [], false⟩,
      ⟨(some 25), .mov (.tmp 0), none, [], false⟩,
      ⟨(some 26), .nilCheck (.tmp 25), none, [], false⟩,
      ⟨(some 27), .fieldAddr 1 (.tmp 26), none, [], false⟩,
      ⟨(some 28), .load none (.tmp 27), none, [], false⟩,
      ⟨(some 29), .callV (.tmp 24) [(.tmp 28)], none, [], false⟩,
      ⟨(some 4), .mov (.tmp 29), none, [], false⟩]) .ret))))
noncomputable def wire_reads_uint64_ : AFunc := ⟨30, [(4, none)], wire_reads_uint64__c, none⟩
theorem wire_reads_uint64__t0 : tableOf Tryz.prog 143 = some wire_reads_uint64_ := by kernel_rfl
theorem wire_reads_uint64__t : T0 143 = some wire_reads_uint64_ := withTrue_t rfl wire_reads_uint64__t0


/-! 144 (*landfall/wire.Reader).Word$1 -/
abbrev fn_wire_Reader_Word_1 : FuncId := 144
noncomputable def wire_Reader_Word_1_c : ACode :=
  (.seq (.region [
      ⟨(some 3), .mov (.const (.int .u64 0)), none, [], false⟩]) (.seq (.region [
      ⟨(some 4), .load none (.tmp 1), none, [], false⟩,
      ⟨(some 5), .mov (.tmp 0), none, [], false⟩,
      ⟨(some 6), .callV (.func 115) [(.tmp 4), (.const (.int .i64 8)), (.tmp 5), (.func 116)], none, [], false⟩,
      ⟨(some 3), .mov (.tmp 6), none, [], false⟩]) .ret))
noncomputable def wire_Reader_Word_1 : AFunc := ⟨7, [(3, none)], wire_Reader_Word_1_c, none⟩
theorem wire_Reader_Word_1_t0 : tableOf Tryz.prog 144 = some wire_Reader_Word_1 := by kernel_rfl
theorem wire_Reader_Word_1_t : T0 144 = some wire_Reader_Word_1 := withTrue_t rfl wire_Reader_Word_1_t0


/-! 145 landfall/wire.reads[landfall/api.Key] -/
abbrev fn_wire_reads_api_Key_ : FuncId := 145
noncomputable def wire_reads_api_Key__c : ACode :=
  (.seq (.region [
      ⟨(some 4), .alloc 130 [(.int .u8 0), (.int .u8 0), (.int .u8 0), (.int .u8 0)], none, [], false⟩]) (.seq (.seq (.region [
      ⟨(some 5), .mov (.tmp 0), none, [], false⟩,
      ⟨(some 6), .eq .ptr false (so (.binOp .eql 69 (.tmp 5) (.const (.pointer none)) 69) 4) (.tmp 5) (.const (.pointer none)), none, [], false⟩,
      ⟨(some 7), .mov (.tmp 6), none, [], false⟩,
      ⟨(some 8), .mov (.tmp 0), (some (7, false)), [], false⟩,
      ⟨(some 9), .nilCheck (.tmp 8), (some (7, false)), [], false⟩,
      ⟨(some 10), .fieldAddr 4 (.tmp 9), (some (7, false)), [], false⟩,
      ⟨(some 11), .load none (.tmp 10), (some (7, false)), [], false⟩,
      ⟨(some 12), .raw (so (.unOp .not 4 (.tmp 11)) 4), (some (7, false)), [], false⟩,
      ⟨(some 13), .pick (.tmp 7) (.const (.bool true)) (.tmp 12), none, [], false⟩,
      ⟨(some 14), .mov (.tmp 13), none, [], false⟩,
      ⟨(some 15), .mov (.tmp 0), (some (14, false)), [], false⟩,
      ⟨(some 16), .nilCheck (.tmp 15), (some (14, false)), [], false⟩,
      ⟨(some 17), .fieldAddr 2 (.tmp 16), (some (14, false)), [], false⟩,
      ⟨(some 18), .fieldAddr 0 (.tmp 17), (some (14, false)), [], false⟩,
      ⟨(some 19), .load none (.tmp 18), (some (14, false)), [], false⟩,
      ⟨(some 20), .bin .neq (so (.binOp .neq 41 (.tmp 19) (.const (.int .i64 0)) 41) 4) (.tmp 19) (.const (.int .i64 0)), (some (14, false)), [], false⟩,
      ⟨(some 21), .pick (.tmp 14) (.const (.bool true)) (.tmp 20), none, [], false⟩]) (.cond (.tmp 21)
    (.seq (.region [
      ⟨(some 22), .load (some 4) (.tmp 4), none, [], false⟩,
      ⟨none, .store 4 (.tmp 4) (.tmp 22), none, [], false⟩]) .ret)
    .skip)) (.seq (.region [
      ⟨(some 23), .mov (.tmp 0), none, [], false⟩,
      ⟨none, .defer (.func 114) [(.tmp 23)], none, [], false⟩]) (.seq (.region [
      ⟨(some 24), .mov (.tmp 1), none, [], false⟩,
      ⟨(some 25), .mov (.tmp 0), none, [], false⟩,
      ⟨(some 26), .nilCheck (.tmp 25), none, [], false⟩,
      ⟨(some 27), .fieldAddr 1 (.tmp 26), none, [], false⟩,
      ⟨(some 28), .load none (.tmp 27), none, [], false⟩,
      ⟨(some 29), .callV (.tmp 24) [(.tmp 28)], none, [], false⟩,
      ⟨none, .store 4 (.tmp 4) (.tmp 29), none, [], false⟩]) .ret))))
noncomputable def wire_reads_api_Key_ : AFunc := ⟨30, [(4, some (some 4))], wire_reads_api_Key__c, none⟩
theorem wire_reads_api_Key__t0 : tableOf Tryz.prog 145 = some wire_reads_api_Key_ := by kernel_rfl
theorem wire_reads_api_Key__t : T0 145 = some wire_reads_api_Key_ := withTrue_t rfl wire_reads_api_Key__t0


/-! 146 (*landfall/wire.Reader).Key$1 -/
abbrev fn_wire_Reader_Key_1 : FuncId := 146
noncomputable def wire_Reader_Key_1_c : ACode :=
  (.seq (.region [
      ⟨(some 3), .alloc 130 [(.int .u8 0), (.int .u8 0), (.int .u8 0), (.int .u8 0)], none, [], false⟩]) (.seq (.region [
      ⟨(some 4), .load none (.tmp 1), none, [], false⟩,
      ⟨(some 5), .mov (.tmp 0), none, [], false⟩,
      ⟨(some 6), .callV (.func 147) [(.tmp 4), (.const (.int .i64 4)), (.tmp 5), (.func 148)], none, [], false⟩,
      ⟨none, .store 4 (.tmp 3) (.tmp 6), none, [], false⟩]) .ret))
noncomputable def wire_Reader_Key_1 : AFunc := ⟨7, [(3, some (some 4))], wire_Reader_Key_1_c, none⟩
theorem wire_Reader_Key_1_t0 : tableOf Tryz.prog 146 = some wire_Reader_Key_1 := by kernel_rfl
theorem wire_Reader_Key_1_t : T0 146 = some wire_Reader_Key_1 := withTrue_t rfl wire_Reader_Key_1_t0


/-! 147 landfall/wire.take[landfall/api.Key] -/
abbrev fn_wire_take_api_Key_ : FuncId := 147
noncomputable def wire_take_api_Key__c : ACode :=
  (.seq (.region [
      ⟨(some 8), .alloc 130 [(.int .u8 0), (.int .u8 0), (.int .u8 0), (.int .u8 0)], none, [], false⟩]) (.seq (.regionD [
      ⟨(some 9), .mov (.tmp 1), none, [], false⟩,
      ⟨(some 10), .mov (.tmp 0), none, [], false⟩,
      ⟨(some 11), .nilCheck (.tmp 10), none, [], false⟩,
      ⟨(some 12), .fieldAddr 0 (.tmp 11), none, [], false⟩,
      ⟨(some 13), .load none (.tmp 12), none, [], false⟩,
      ⟨(some 14), .lenSl (.tmp 13), none, [], false⟩,
      ⟨(some 15), .mov (.tmp 0), none, [], false⟩,
      ⟨(some 16), .nilCheck (.tmp 15), none, [], false⟩,
      ⟨(some 17), .fieldAddr 1 (.tmp 16), none, [], false⟩,
      ⟨(some 18), .load none (.tmp 17), none, [], false⟩,
      ⟨(some 19), .bin .sub (so (.binOp .sub 3 (.tmp 14) (.tmp 18) 3) 3) (.tmp 14) (.tmp 18), none, [], false⟩,
      ⟨(some 20), .bin .leq (so (.binOp .leq 3 (.tmp 9) (.tmp 19) 3) 4) (.tmp 9) (.tmp 19), none, [], false⟩,
      ⟨(some 21), .mov (.tmp 2), none, [], false⟩,
      ⟨(some 22), .callV (.func 78) [(.tmp 20), (.const (.int .i64 6)), (.tmp 21)], none, [], true⟩]) (.seq (.region [
      ⟨(some 23), .mov (.tmp 0), none, [], false⟩,
      ⟨(some 24), .nilCheck (.tmp 23), none, [], false⟩,
      ⟨(some 25), .fieldAddr 1 (.tmp 24), none, [], false⟩,
      ⟨(some 26), .load none (.tmp 25), none, [], false⟩,
      ⟨(some 27), .mov (.tmp 1), none, [], false⟩,
      ⟨(some 28), .bin .add (so (.binOp .add 3 (.tmp 26) (.tmp 27) 3) 3) (.tmp 26) (.tmp 27), none, [], false⟩,
      ⟨(some 29), .nilCheck (.tmp 23), none, [], false⟩,
      ⟨(some 30), .fieldAddr 1 (.tmp 29), none, [], false⟩,
      ⟨none, .store 1 (.tmp 30) (.tmp 28), none, [], false⟩]) (.seq (.regionD [
      ⟨(some 31), .mov (.tmp 3), none, [], false⟩,
      ⟨(some 32), .mov (.tmp 0), none, [], false⟩,
      ⟨(some 33), .nilCheck (.tmp 32), none, [], false⟩,
      ⟨(some 34), .fieldAddr 0 (.tmp 33), none, [], false⟩,
      ⟨(some 35), .load none (.tmp 34), none, [], false⟩,
      ⟨(some 36), .mov (.tmp 0), none, [], false⟩,
      ⟨(some 37), .nilCheck (.tmp 36), none, [], false⟩,
      ⟨(some 38), .fieldAddr 1 (.tmp 37), none, [], false⟩,
      ⟨(some 39), .load none (.tmp 38), none, [], false⟩,
      ⟨(some 40), .mov (.tmp 1), none, [], false⟩,
      ⟨(some 41), .bin .sub (so (.binOp .sub 3 (.tmp 39) (.tmp 40) 3) 3) (.tmp 39) (.tmp 40), none, [], false⟩,
      ⟨(some 42), .mov (.tmp 0), none, [], false⟩,
      ⟨(some 43), .nilCheck (.tmp 42), none, [], false⟩,
      ⟨(some 44), .fieldAddr 1 (.tmp 43), none, [], false⟩,
      ⟨(some 45), .load none (.tmp 44), none, [], false⟩,
      ⟨(some 46), .sliceSl 1 (.tmp 35) (some (.tmp 41)) (some (.tmp 45)) none, none, [], false⟩,
      ⟨(some 47), .callV (.tmp 31) [(.tmp 46)], none, [], true⟩,
      ⟨none, .store 4 (.tmp 8) (.tmp 47), none, [], true⟩]) .ret))))
noncomputable def wire_take_api_Key_ : AFunc := ⟨48, [(8, some (some 4))], wire_take_api_Key__c, none⟩
theorem wire_take_api_Key__t0 : tableOf Tryz.prog 147 = some wire_take_api_Key_ := by kernel_rfl
theorem wire_take_api_Key__t : T0 147 = some wire_take_api_Key_ := withTrue_t rfl wire_take_api_Key__t0


/-! 148 (*landfall/wire.Reader).Key$1$1 -/
abbrev fn_wire_Reader_Key_1_1 : FuncId := 148
noncomputable def wire_Reader_Key_1_1_c : ACode :=
  (.seq (.region [
      ⟨(some 2), .alloc 130 [(.int .u8 0), (.int .u8 0), (.int .u8 0), (.int .u8 0)], none, [], false⟩]) (.seq (.region [
      ⟨(some 3), .mov (.tmp 0), none, [], false⟩,
      ⟨(some 4), .arrayAt 4 (.tmp 3), none, [], false⟩,
      ⟨(some 5), .load (some 4) (.tmp 4), none, [], false⟩,
      ⟨none, .store 4 (.tmp 2) (.tmp 5), none, [], false⟩]) .ret))
noncomputable def wire_Reader_Key_1_1 : AFunc := ⟨6, [(2, some (some 4))], wire_Reader_Key_1_1_c, none⟩
theorem wire_Reader_Key_1_1_t0 : tableOf Tryz.prog 148 = some wire_Reader_Key_1_1 := by kernel_rfl
theorem wire_Reader_Key_1_1_t : T0 148 = some wire_Reader_Key_1_1 := withTrue_t rfl wire_Reader_Key_1_1_t0


/-! 154 landfall/header.rules$1 -/
abbrev fn_header_rules_1 : FuncId := 154
noncomputable def header_rules_1_c : ACode :=
  (.seq (.region [
      ⟨(some 1), .box 30 (.tmp 0), none, [], false⟩,
      ⟨(some 2), .mov (.const (.bool false)), none, [], false⟩]) (.seq (.region [
      ⟨(some 3), .fieldAddr 0 (.tmp 1), none, [], false⟩,
      ⟨(some 4), .load none (.tmp 3), none, [], false⟩,
      ⟨(some 5), .callV (.func 155) [(.tmp 4)], none, [], false⟩,
      ⟨(some 2), .mov (.tmp 5), none, [], false⟩]) .ret))
noncomputable def header_rules_1 : AFunc := ⟨6, [(2, none)], header_rules_1_c, none⟩
theorem header_rules_1_t0 : tableOf Tryz.prog 154 = some header_rules_1 := by kernel_rfl
theorem header_rules_1_t : T0 154 = some header_rules_1 := withTrue_t rfl header_rules_1_t0


/-! 155 landfall/header.Name -/
abbrev fn_header_Name : FuncId := 155
noncomputable def header_Name_c : ACode :=
  (.seq (.region [
      ⟨(some 2), .mov (.const (.bool false)), none, [], false⟩]) (.seq (.region [
      ⟨(some 3), .mov (.tmp 0), none, [], false⟩,
      ⟨(some 4), .lenStr (.tmp 3), none, [], false⟩,
      ⟨(some 5), .bin .geq (so (.binOp .geq 3 (.tmp 4) (.const (.int .i64 1)) 3) 4) (.tmp 4) (.const (.int .i64 1)), none, [], false⟩,
      ⟨(some 6), .mov (.tmp 5), none, [], false⟩,
      ⟨(some 7), .mov (.tmp 0), (some (6, true)), [], false⟩,
      ⟨(some 8), .lenStr (.tmp 7), (some (6, true)), [], false⟩,
      ⟨(some 9), .bin .leq (so (.binOp .leq 3 (.tmp 8) (.const (.int .i64 32)) 3) 4) (.tmp 8) (.const (.int .i64 32)), (some (6, true)), [], false⟩,
      ⟨(some 10), .pick (.tmp 6) (.tmp 9) (.const (.bool false)), none, [], false⟩,
      ⟨(some 11), .mov (.tmp 10), none, [], false⟩,
      ⟨(some 12), .mov (.tmp 0), (some (11, true)), [], false⟩,
      ⟨(some 13), .callV (.func 161) [(.tmp 12), (.func 162)], (some (11, true)), [], false⟩,
      ⟨(some 14), .pick (.tmp 11) (.tmp 13) (.const (.bool false)), none, [], false⟩,
      ⟨(some 2), .mov (.tmp 14), none, [], false⟩]) .ret))
noncomputable def header_Name : AFunc := ⟨15, [(2, none)], header_Name_c, none⟩
theorem header_Name_t0 : tableOf Tryz.prog 155 = some header_Name := by kernel_rfl
theorem header_Name_t : T0 155 = some header_Name := withTrue_t rfl header_Name_t0


/-! 156 landfall/header.rules$2 -/
abbrev fn_header_rules_2 : FuncId := 156
noncomputable def header_rules_2_c : ACode :=
  (.seq (.region [
      ⟨(some 1), .box 30 (.tmp 0), none, [], false⟩,
      ⟨(some 2), .mov (.const (.bool false)), none, [], false⟩]) (.seq (.region [
      ⟨(some 3), .fieldAddr 1 (.tmp 1), none, [], false⟩,
      ⟨(some 4), .load none (.tmp 3), none, [], false⟩,
      ⟨(some 5), .bin .geq (so (.binOp .geq 3 (.tmp 4) (.const (.int .i64 1)) 3) 4) (.tmp 4) (.const (.int .i64 1)), none, [], false⟩,
      ⟨(some 6), .mov (.tmp 5), none, [], false⟩,
      ⟨(some 7), .fieldAddr 1 (.tmp 1), (some (6, true)), [], false⟩,
      ⟨(some 8), .load none (.tmp 7), (some (6, true)), [], false⟩,
      ⟨(some 9), .bin .leq (so (.binOp .leq 3 (.tmp 8) (.const (.int .i64 1073741824)) 3) 4) (.tmp 8) (.const (.int .i64 1073741824)), (some (6, true)), [], false⟩,
      ⟨(some 10), .pick (.tmp 6) (.tmp 9) (.const (.bool false)), none, [], false⟩,
      ⟨(some 2), .mov (.tmp 10), none, [], false⟩]) .ret))
noncomputable def header_rules_2 : AFunc := ⟨11, [(2, none)], header_rules_2_c, none⟩
theorem header_rules_2_t0 : tableOf Tryz.prog 156 = some header_rules_2 := by kernel_rfl
theorem header_rules_2_t : T0 156 = some header_rules_2 := withTrue_t rfl header_rules_2_t0


/-! 157 landfall/header.rules$3 -/
abbrev fn_header_rules_3 : FuncId := 157
noncomputable def header_rules_3_c : ACode :=
  (.seq (.region [
      ⟨(some 1), .box 30 (.tmp 0), none, [], false⟩,
      ⟨(some 2), .mov (.const (.bool false)), none, [], false⟩]) (.seq (.region [
      ⟨(some 3), .fieldAddr 2 (.tmp 1), none, [], false⟩,
      ⟨(some 4), .load none (.tmp 3), none, [], false⟩,
      ⟨(some 5), .bin .geq (so (.binOp .geq 3 (.tmp 4) (.const (.int .i64 0)) 3) 4) (.tmp 4) (.const (.int .i64 0)), none, [], false⟩,
      ⟨(some 6), .mov (.tmp 5), none, [], false⟩,
      ⟨(some 7), .fieldAddr 2 (.tmp 1), (some (6, true)), [], false⟩,
      ⟨(some 8), .load none (.tmp 7), (some (6, true)), [], false⟩,
      ⟨(some 9), .bin .leq (so (.binOp .leq 3 (.tmp 8) (.const (.int .i64 1099511627776)) 3) 4) (.tmp 8) (.const (.int .i64 1099511627776)), (some (6, true)), [], false⟩,
      ⟨(some 10), .pick (.tmp 6) (.tmp 9) (.const (.bool false)), none, [], false⟩,
      ⟨(some 2), .mov (.tmp 10), none, [], false⟩]) .ret))
noncomputable def header_rules_3 : AFunc := ⟨11, [(2, none)], header_rules_3_c, none⟩
theorem header_rules_3_t0 : tableOf Tryz.prog 157 = some header_rules_3 := by kernel_rfl
theorem header_rules_3_t : T0 157 = some header_rules_3 := withTrue_t rfl header_rules_3_t0


/-! 158 bytes.Compare -/
abbrev fn_bytes_Compare : FuncId := 158
noncomputable def bytes_Compare_c : ACode :=
  (.seq (.region [
      ⟨(some 4), .mov (.const (.int .i64 0)), none, [], false⟩]) (.seq (.region [
      ⟨(some 5), .mov (.tmp 0), none, [], false⟩,
      ⟨(some 6), .mov (.tmp 1), none, [], false⟩,
      ⟨(some 7), .ext .compare (.func 163) [(.tmp 5), (.tmp 6)], none, [], false⟩,
      ⟨(some 4), .mov (.tmp 7), none, [], false⟩]) .ret))
noncomputable def bytes_Compare : AFunc := ⟨8, [(4, none)], bytes_Compare_c, none⟩
theorem bytes_Compare_t0 : tableOf Tryz.prog 158 = some bytes_Compare := by kernel_rfl
theorem bytes_Compare_t : T0 158 = some bytes_Compare := withTrue_t rfl bytes_Compare_t0


/-! 159 landfall/commit.rises$1 -/
abbrev fn_commit_rises_1 : FuncId := 159
noncomputable def commit_rises_1_c : ACode :=
  (.seq (.region [
      ⟨(some 2), .box 134 (.tmp 0), none, [], false⟩,
      ⟨(some 3), .mov (.const (.int .i64 0)), none, [], false⟩]) (.seq (.block 0 (.seq (.region [
      ⟨(some 5), .fieldAddr 0 (.tmp 2), none, [], false⟩,
      ⟨(some 6), .load none (.tmp 5), none, [], false⟩,
      ⟨(some 7), .bin .lss (so (.binOp .lss 3 (.tmp 6) (.const (.int .i64 0)) 3) 4) (.tmp 6) (.const (.int .i64 0)), none, [], false⟩,
      ⟨(some 8), .mov (.tmp 7), none, [], false⟩,
      ⟨(some 9), .fieldAddr 0 (.tmp 2), (some (8, false)), [], false⟩,
      ⟨(some 10), .load none (.tmp 9), (some (8, false)), [], false⟩,
      ⟨(some 11), .bin .geq (so (.binOp .geq 3 (.tmp 10) (.const (.int .i64 64)) 3) 4) (.tmp 10) (.const (.int .i64 64)), (some (8, false)), [], false⟩,
      ⟨(some 12), .pick (.tmp 8) (.const (.bool true)) (.tmp 11), none, [], false⟩,
      ⟨(some 4), .mov (.tmp 12), none, [], false⟩]) (.cond (.tmp 4)
    (.seq (.region [
      ⟨(some 3), .mov (.const (.int .i64 3)), none, [], false⟩]) .ret)
    (.seq (.region [
      ⟨(some 14), .fieldAddr 0 (.tmp 2), none, [], false⟩,
      ⟨(some 15), .load none (.tmp 14), none, [], false⟩,
      ⟨(some 16), .load none (.tmp 1), none, [], false⟩,
      ⟨(some 17), .bin .leq (so (.binOp .leq 3 (.tmp 15) (.tmp 16) 3) 4) (.tmp 15) (.tmp 16), none, [], false⟩,
      ⟨(some 13), .mov (.tmp 17), none, [], false⟩]) (.cond (.tmp 13)
    (.seq (.region [
      ⟨(some 3), .mov (.const (.int .i64 9)), none, [], false⟩]) .ret)
    .skip))))) (.seq (.region [
      ⟨(some 18), .fieldAddr 0 (.tmp 2), none, [], false⟩,
      ⟨(some 19), .load none (.tmp 18), none, [], false⟩,
      ⟨none, .store 1 (.tmp 1) (.tmp 19), none, [], false⟩]) (.seq (.region [
      ⟨(some 3), .mov (.const (.int .i64 0)), none, [], false⟩]) .ret))))
noncomputable def commit_rises_1 : AFunc := ⟨20, [(3, none)], commit_rises_1_c, none⟩
theorem commit_rises_1_t0 : tableOf Tryz.prog 159 = some commit_rises_1 := by kernel_rfl
theorem commit_rises_1_t : T0 159 = some commit_rises_1 := withTrue_t rfl commit_rises_1_t0


/-! 160 slices.Grow[[]byte,byte] -/
abbrev fn_slices_Grow___byte_byte_ : FuncId := 160
noncomputable def slices_Grow___byte_byte__c : ACode :=
  (.seq (.region [
      ⟨(some 4), .mov (.const (.slice none 0 0)), none, [], false⟩]) (.seq (.seq (.region [
      ⟨(some 5), .mov (.tmp 1), none, [], false⟩,
      ⟨(some 6), .bin .lss (so (.binOp .lss 3 (.tmp 5) (.const (.int .i64 0)) 3) 4) (.tmp 5) (.const (.int .i64 0)), none, [], false⟩]) (.cond (.tmp 6)
    (.region [
      ⟨(some 7), .mkIface 9 (.const (.string ⟨⟨[99, 97, 110, 110, 111, 116, 32, 98, 101, 32, 110, 101, 103, 97, 116, 105, 118, 101]⟩⟩)), none, [], false⟩,
      ⟨none, .panic (.tmp 7), none, [], false⟩])
    .skip)) (.seq (.seq (.region [
      ⟨(some 8), .mov (.tmp 1), none, [], false⟩,
      ⟨(some 9), .mov (.tmp 0), none, [], false⟩,
      ⟨(some 10), .cap (.tmp 9), none, [], false⟩,
      ⟨(some 11), .mov (.tmp 0), none, [], false⟩,
      ⟨(some 12), .lenSl (.tmp 11), none, [], false⟩,
      ⟨(some 13), .bin .sub (so (.binOp .sub 3 (.tmp 10) (.tmp 12) 3) 3) (.tmp 10) (.tmp 12), none, [], false⟩,
      ⟨(some 14), .bin .sub (so (.binOp .sub 3 (.tmp 8) (.tmp 13) 3) 3) (.tmp 8) (.tmp 13), none, [], false⟩,
      ⟨(some 1), .mov (.tmp 14), none, [], false⟩]) (.seq (.region [
      ⟨(some 15), .mov (.tmp 1), none, [], false⟩,
      ⟨(some 16), .bin .gtr (so (.binOp .gtr 3 (.tmp 15) (.const (.int .i64 0)) 3) 4) (.tmp 15) (.const (.int .i64 0)), none, [], false⟩]) (.cond (.tmp 16)
    (.region [
      ⟨(some 17), .mov (.tmp 0), none, [], false⟩,
      ⟨(some 18), .mov (.tmp 0), none, [], false⟩,
      ⟨(some 19), .cap (.tmp 18), none, [], false⟩,
      ⟨(some 20), .sliceSl 1 (.tmp 17) none (some (.tmp 19)) none, none, [], false⟩,
      ⟨(some 21), .mov (.tmp 1), none, [], false⟩,
      ⟨(some 22), .append 5 1 1 [(.int .u8 0)] true (.tmp 20) (.tmp 21), none, [], false⟩,
      ⟨(some 23), .mov (.tmp 0), none, [], false⟩,
      ⟨(some 24), .lenSl (.tmp 23), none, [], false⟩,
      ⟨(some 25), .sliceSl 1 (.tmp 22) none (some (.tmp 24)) none, none, [], false⟩,
      ⟨(some 0), .mov (.tmp 25), none, [], false⟩])
    .skip))) (.seq (.region [
      ⟨(some 26), .mov (.tmp 0), none, [], false⟩,
      ⟨(some 4), .mov (.tmp 26), none, [], false⟩]) .ret))))
noncomputable def slices_Grow___byte_byte_ : AFunc := ⟨27, [(4, none)], slices_Grow___byte_byte__c, none⟩
theorem slices_Grow___byte_byte__t0 : tableOf Tryz.prog 160 = some slices_Grow___byte_byte_ := by kernel_rfl
theorem slices_Grow___byte_byte__t : T0 160 = some slices_Grow___byte_byte_ := withTrue_t rfl slices_Grow___byte_byte__t0


/-! 161 landfall/header.each -/
abbrev fn_header_each : FuncId := 161
noncomputable def header_each_l0 : ACode :=
  (.seq (.region [
      ⟨(some 9), .nextStr (.tmp 8), none, [], false⟩,
      ⟨(some 10), .extract 0 (.tmp 9), none, [], false⟩]) (.seq (.cond (.tmp 10)
    .skip
    (.exit 0)) (.block 1 (.seq (.region [
      ⟨(some 11), .extract 2 (.tmp 9), none, [], false⟩,
      ⟨(some 6), .mov (.tmp 11), none, [], false⟩]) (.seq (.region [
      ⟨(some 12), .mov (.tmp 1), none, [], false⟩,
      ⟨(some 13), .mov (.tmp 6), none, [], false⟩,
      ⟨(some 14), .callV (.tmp 12) [(.tmp 13)], none, [], false⟩,
      ⟨(some 15), .raw (so (.unOp .not 4 (.tmp 14)) 4), none, [], false⟩]) (.cond (.tmp 15)
    (.seq (.region [
      ⟨(some 4), .mov (.const (.bool false)), none, [], false⟩]) .ret)
    .skip))))))
noncomputable def header_each_c : ACode :=
  (.seq (.region [
      ⟨(some 4), .mov (.const (.bool false)), none, [], false⟩]) (.seq (.seq (.region [
      ⟨(some 7), .mov (.tmp 0), none, [], false⟩,
      ⟨(some 8), .rangeStr (.tmp 7), none, [], false⟩]) (.block 0 (.loop header_each_l0))) (.seq (.region [
      ⟨(some 4), .mov (.const (.bool true)), none, [], false⟩]) .ret)))
noncomputable def header_each : AFunc := ⟨16, [(4, none)], header_each_c, none⟩
theorem header_each_t0 : tableOf Tryz.prog 161 = some header_each := by kernel_rfl
theorem header_each_t : T0 161 = some header_each := withTrue_t rfl header_each_t0


/-! 162 landfall/header.plain -/
abbrev fn_header_plain : FuncId := 162
noncomputable def header_plain_c : ACode :=
  (.seq (.region [
      ⟨(some 2), .mov (.const (.bool false)), none, [], false⟩]) (.seq (.region [
      ⟨(some 3), .mov (.tmp 0), none, [], false⟩,
      ⟨(some 4), .bin .geq (so (.binOp .geq 21 (.tmp 3) (.const (.int .i32 97)) 21) 4) (.tmp 3) (.const (.int .i32 97)), none, [], false⟩,
      ⟨(some 5), .mov (.tmp 4), none, [], false⟩,
      ⟨(some 6), .mov (.tmp 0), (some (5, true)), [], false⟩,
      ⟨(some 7), .bin .leq (so (.binOp .leq 21 (.tmp 6) (.const (.int .i32 122)) 21) 4) (.tmp 6) (.const (.int .i32 122)), (some (5, true)), [], false⟩,
      ⟨(some 8), .pick (.tmp 5) (.tmp 7) (.const (.bool false)), none, [], false⟩,
      ⟨(some 9), .mov (.tmp 8), none, [], false⟩,
      ⟨(some 10), .mov (.tmp 0), (some (9, false)), [], false⟩,
      ⟨(some 11), .bin .geq (so (.binOp .geq 21 (.tmp 10) (.const (.int .i32 48)) 21) 4) (.tmp 10) (.const (.int .i32 48)), (some (9, false)), [], false⟩,
      ⟨(some 12), .mov (.tmp 11), (some (9, false)), [], false⟩,
      ⟨(some 13), .mov (.tmp 0), (some (12, true)), [], false⟩,
      ⟨(some 14), .bin .leq (so (.binOp .leq 21 (.tmp 13) (.const (.int .i32 57)) 21) 4) (.tmp 13) (.const (.int .i32 57)), (some (12, true)), [], false⟩,
      ⟨(some 15), .pick (.tmp 12) (.tmp 14) (.const (.bool false)), (some (9, false)), [], false⟩,
      ⟨(some 16), .pick (.tmp 9) (.const (.bool true)) (.tmp 15), none, [], false⟩,
      ⟨(some 17), .mov (.tmp 16), none, [], false⟩,
      ⟨(some 18), .mov (.tmp 0), (some (17, false)), [], false⟩,
      ⟨(some 19), .bin .eql (so (.binOp .eql 21 (.tmp 18) (.const (.int .i32 45)) 21) 4) (.tmp 18) (.const (.int .i32 45)), (some (17, false)), [], false⟩,
      ⟨(some 20), .pick (.tmp 17) (.const (.bool true)) (.tmp 19), none, [], false⟩,
      ⟨(some 2), .mov (.tmp 20), none, [], false⟩]) .ret))
noncomputable def header_plain : AFunc := ⟨21, [(2, none)], header_plain_c, none⟩
theorem header_plain_t0 : tableOf Tryz.prog 162 = some header_plain := by kernel_rfl
theorem header_plain_t : T0 162 = some header_plain := withTrue_t rfl header_plain_t0


/-! 183 (landfall/msg.ask).write -/
abbrev fn_msg_ask_write : FuncId := 183
noncomputable def msg_ask_write_c : ACode :=
  (.seq (.region [
      ⟨(some 2), .box 168 (.tmp 0), none, [], false⟩,
      ⟨(some 4), .mov (.const (.int .i64 0)), none, [], false⟩]) (.seq (.seq (.region [
      ⟨(some 5), .fieldAddr 0 (.tmp 2), none, [], false⟩,
      ⟨(some 6), .load none (.tmp 5), none, [], false⟩,
      ⟨(some 7), .callV (.func 36) [(.tmp 6)], none, [], false⟩,
      ⟨(some 8), .raw (so (.unOp .not 4 (.tmp 7)) 4), none, [], false⟩,
      ⟨(some 9), .mov (.tmp 8), none, [], false⟩,
      ⟨(some 10), .fieldAddr 1 (.tmp 2), (some (9, false)), [], false⟩,
      ⟨(some 11), .load none (.tmp 10), (some (9, false)), [], false⟩,
      ⟨(some 12), .callV (.func 37) [(.tmp 11)], (some (9, false)), [], false⟩,
      ⟨(some 13), .raw (so (.unOp .not 4 (.tmp 12)) 4), (some (9, false)), [], false⟩,
      ⟨(some 14), .pick (.tmp 9) (.const (.bool true)) (.tmp 13), none, [], false⟩]) (.cond (.tmp 14)
    (.seq (.region [
      ⟨(some 4), .mov (.const (.int .i64 3)), none, [], false⟩]) .ret)
    .skip)) (.seq (.region [
      ⟨(some 15), .mov (.tmp 1), none, [], false⟩,
      ⟨(some 16), .callV (.func 107) [(.tmp 15), (.const (.int .i64 1))], none, [], false⟩]) (.seq (.region [
      ⟨(some 17), .mov (.tmp 1), none, [], false⟩,
      ⟨(some 18), .fieldAddr 0 (.tmp 2), none, [], false⟩,
      ⟨(some 19), .load none (.tmp 18), none, [], false⟩,
      ⟨(some 20), .callV (.func 107) [(.tmp 17), (.tmp 19)], none, [], false⟩]) (.seq (.region [
      ⟨(some 21), .mov (.tmp 1), none, [], false⟩,
      ⟨(some 22), .fieldAddr 1 (.tmp 2), none, [], false⟩,
      ⟨(some 23), .load none (.tmp 22), none, [], false⟩,
      ⟨(some 24), .callV (.func 107) [(.tmp 21), (.tmp 23)], none, [], false⟩,
      ⟨(some 4), .mov (.tmp 24), none, [], false⟩]) .ret)))))
noncomputable def msg_ask_write : AFunc := ⟨25, [(4, none)], msg_ask_write_c, none⟩
theorem msg_ask_write_t0 : tableOf Tryz.prog 183 = some msg_ask_write := by kernel_rfl
theorem msg_ask_write_t : T0 183 = some msg_ask_write := withTrue_t rfl msg_ask_write_t0


/-! 184 (landfall/msg.answer).write -/
abbrev fn_msg_answer_write : FuncId := 184
noncomputable def msg_answer_write_c : ACode :=
  (.seq (.region [
      ⟨(some 2), .box 169 (.tmp 0), none, [], false⟩,
      ⟨(some 4), .mov (.const (.int .i64 0)), none, [], false⟩]) (.seq (.seq (.region [
      ⟨(some 7), .fieldAddr 0 (.tmp 2), none, [], false⟩,
      ⟨(some 8), .load none (.tmp 7), none, [], false⟩,
      ⟨(some 9), .callV (.func 36) [(.tmp 8)], none, [], false⟩,
      ⟨(some 10), .raw (so (.unOp .not 4 (.tmp 9)) 4), none, [], false⟩]) (.cond (.tmp 10)
    (.seq (.region [
      ⟨(some 4), .mov (.const (.int .i64 3)), none, [], false⟩]) .ret)
    .skip)) (.seq (.region [
      ⟨(some 12), .fieldAddr 1 (.tmp 2), none, [], false⟩,
      ⟨(some 13), .load (some 166) (.tmp 12), none, [], false⟩,
      ⟨(some 14), .callV (.func 28) [(.tmp 13)], none, [], false⟩,
      ⟨(some 11), .mov (.tmp 14), none, [], false⟩,
      ⟨(some 15), .extract 0 (.tmp 11), none, [], false⟩,
      ⟨(some 16), .extract 1 (.tmp 11), none, [], false⟩,
      ⟨(some 5), .mov (.tmp 15), none, [], false⟩,
      ⟨(some 6), .mov (.tmp 16), none, [], false⟩]) (.seq (.seq (.region [
      ⟨(some 17), .mov (.tmp 6), none, [], false⟩,
      ⟨(some 18), .bin .neq (so (.binOp .neq 41 (.tmp 17) (.const (.int .i64 0)) 41) 4) (.tmp 17) (.const (.int .i64 0)), none, [], false⟩]) (.cond (.tmp 18)
    (.seq (.region [
      ⟨(some 19), .mov (.tmp 6), none, [], false⟩,
      ⟨(some 4), .mov (.tmp 19), none, [], false⟩]) .ret)
    .skip)) (.seq (.region [
      ⟨(some 20), .mov (.tmp 1), none, [], false⟩,
      ⟨(some 21), .callV (.func 107) [(.tmp 20), (.const (.int .i64 2))], none, [], false⟩]) (.seq (.region [
      ⟨(some 22), .mov (.tmp 1), none, [], false⟩,
      ⟨(some 23), .fieldAddr 0 (.tmp 2), none, [], false⟩,
      ⟨(some 24), .load none (.tmp 23), none, [], false⟩,
      ⟨(some 25), .callV (.func 107) [(.tmp 22), (.tmp 24)], none, [], false⟩]) (.seq (.region [
      ⟨(some 26), .mov (.tmp 1), none, [], false⟩,
      ⟨(some 27), .mov (.tmp 5), none, [], false⟩,
      ⟨(some 28), .callV (.func 69) [(.tmp 26), (.tmp 27)], none, [], false⟩,
      ⟨(some 4), .mov (.tmp 28), none, [], false⟩]) .ret)))))))
noncomputable def msg_answer_write : AFunc := ⟨29, [(4, none)], msg_answer_write_c, none⟩
theorem msg_answer_write_t0 : tableOf Tryz.prog 184 = some msg_answer_write := by kernel_rfl
theorem msg_answer_write_t : T0 184 = some msg_answer_write := withTrue_t rfl msg_answer_write_t0


noncomputable def table : TT :=
  (.node (.node (.node (.node (.node (.node (.node .nil 5 landfalllaw14_MsgKnown .nil) 9 landfalllaw14_awake (.node .nil 11 msg_Decode .nil)) 13 landfallkit_SameMsg (.node (.node .nil 17 landfalllaw14_asks .nil) 18 landfalllaw14_fails .nil)) 21 msg_Ask (.node (.node (.node .nil 25 landfallkit_SameBytes .nil) 26 landfallkit_SameBlock .nil) 28 block_Encode (.node (.node .nil 30 msg_Decode_1 .nil) 31 msg_must .nil))) 32 wire_NewReader (.node (.node (.node (.node .nil 33 wire_Reader_Num .nil) 34 msg_reader_fine .nil) 35 msg_reader_num (.node (.node .nil 36 msg_number .nil) 37 msg_height .nil)) 38 msg_reader_at (.node (.node (.node .nil 39 wire_Reader_Bytes .nil) 40 block_Decode .nil) 41 wire_Reader_End (.node (.node .nil 54 msg_bytes .nil) 60 landfallkit_SameCommit .nil)))) 61 landfallkit_SameVals (.node (.node (.node (.node (.node .nil 62 block_first .nil) 63 block_errors (.node .nil 64 block_parts .nil)) 65 wire_NewWriter (.node (.node .nil 66 header_Encode .nil) 67 commit_Encode .nil)) 68 vals_Encode (.node (.node (.node .nil 69 wire_Writer_Bytes .nil) 70 wire_Writer_Done .nil) 72 slices_Clone___byte_byte_ (.node (.node .nil 73 wire_reads_int_ .nil) 74 wire_Reader_num .nil))) 75 wire_Reader_Rest (.node (.node (.node (.node .nil 76 wire_reads___byte_ .nil) 77 wire_Reader_Bytes_1 .nil) 78 wire_must (.node (.node .nil 79 wire_take___byte_ .nil) 80 block_part_api_Header_ .nil)) 81 header_Decode (.node (.node (.node .nil 82 block_part_api_Commit_ .nil) 83 commit_Decode .nil) 84 block_part___api_Validator_ (.node (.node .nil 85 vals_Decode .nil) 90 msg_of .nil))))) 98 landfallkit_SameVotes (.node (.node (.node (.node (.node (.node .nil 99 block_errors_1 .nil) 100 block_parts_1 (.node .nil 101 header_Check .nil)) 102 block_parts_2 (.node (.node .nil 103 vals_Check .nil) 104 block_parts_3 .nil)) 105 commit_Check (.node (.node (.node .nil 106 wire_Writer_Text .nil) 107 wire_Writer_Num .nil) 108 header_hashes (.node (.node .nil 109 wire_Writer_Hash .nil) 110 wire_Writer_Word .nil))) 111 wire_Writer_Key (.node (.node (.node (.node .nil 112 wire_Writer_put .nil) 113 wire_number .nil) 114 wire_Reader_caught (.node (.node .nil 115 wire_take_uint64_ .nil) 116 wire_big .nil)) 117 wire_Reader_num_1 (.node (.node (.node .nil 118 wire_Reader_Text .nil) 119 wire_Reader_Hash .nil) 120 wire_Reader_Word (.node (.node .nil 121 wire_Reader_Key .nil) 134 header_rules .nil)))) 135 vals_look_at (.node (.node (.node (.node (.node .nil 136 commit_rises .nil) 137 wire_word (.node .nil 138 slices_Concat___byte_byte_ .nil)) 139 wire_reads_api_Hash_ (.node (.node .nil 140 wire_Reader_Hash_1 .nil) 141 wire_take_api_Hash_ .nil)) 142 wire_Reader_Hash_1_1 (.node (.node (.node .nil 143 wire_reads_uint64_ .nil) 144 wire_Reader_Word_1 .nil) 145 wire_reads_api_Key_ (.node (.node .nil 146 wire_Reader_Key_1 .nil) 147 wire_take_api_Key_ .nil))) 148 wire_Reader_Key_1_1 (.node (.node (.node (.node .nil 154 header_rules_1 .nil) 155 header_Name .nil) 156 header_rules_2 (.node (.node .nil 157 header_rules_3 .nil) 158 bytes_Compare .nil)) 159 commit_rises_1 (.node (.node (.node .nil 160 slices_Grow___byte_byte_ .nil) 161 header_each .nil) 162 header_plain (.node (.node .nil 183 msg_ask_write .nil) 184 msg_answer_write .nil))))))
theorem table_all : table.All Tryz.prog := ⟨landfallkit_SameVotes_t0, ⟨landfallkit_SameVals_t0, ⟨wire_NewReader_t0, ⟨msg_Ask_t0, ⟨landfallkit_SameMsg_t0, ⟨landfalllaw14_awake_t0, ⟨landfalllaw14_MsgKnown_t0, trivial, trivial⟩, ⟨msg_Decode_t0, trivial, trivial⟩⟩, ⟨landfalllaw14_fails_t0, ⟨landfalllaw14_asks_t0, trivial, trivial⟩, trivial⟩⟩, ⟨block_Encode_t0, ⟨landfallkit_SameBlock_t0, ⟨landfallkit_SameBytes_t0, trivial, trivial⟩, trivial⟩, ⟨msg_must_t0, ⟨msg_Decode_1_t0, trivial, trivial⟩, trivial⟩⟩⟩, ⟨msg_reader_at_t0, ⟨msg_reader_num_t0, ⟨msg_reader_fine_t0, ⟨wire_Reader_Num_t0, trivial, trivial⟩, trivial⟩, ⟨msg_height_t0, ⟨msg_number_t0, trivial, trivial⟩, trivial⟩⟩, ⟨wire_Reader_End_t0, ⟨block_Decode_t0, ⟨wire_Reader_Bytes_t0, trivial, trivial⟩, trivial⟩, ⟨landfallkit_SameCommit_t0, ⟨msg_bytes_t0, trivial, trivial⟩, trivial⟩⟩⟩⟩, ⟨wire_Reader_Rest_t0, ⟨vals_Encode_t0, ⟨wire_NewWriter_t0, ⟨block_errors_t0, ⟨block_first_t0, trivial, trivial⟩, ⟨block_parts_t0, trivial, trivial⟩⟩, ⟨commit_Encode_t0, ⟨header_Encode_t0, trivial, trivial⟩, trivial⟩⟩, ⟨slices_Clone___byte_byte__t0, ⟨wire_Writer_Done_t0, ⟨wire_Writer_Bytes_t0, trivial, trivial⟩, trivial⟩, ⟨wire_Reader_num_t0, ⟨wire_reads_int__t0, trivial, trivial⟩, trivial⟩⟩⟩, ⟨header_Decode_t0, ⟨wire_must_t0, ⟨wire_Reader_Bytes_1_t0, ⟨wire_reads___byte__t0, trivial, trivial⟩, trivial⟩, ⟨block_part_api_Header__t0, ⟨wire_take___byte__t0, trivial, trivial⟩, trivial⟩⟩, ⟨block_part___api_Validator__t0, ⟨commit_Decode_t0, ⟨block_part_api_Commit__t0, trivial, trivial⟩, trivial⟩, ⟨msg_of_t0, ⟨vals_Decode_t0, trivial, trivial⟩, trivial⟩⟩⟩⟩⟩, ⟨vals_look_at_t0, ⟨wire_Writer_Key_t0, ⟨commit_Check_t0, ⟨block_parts_2_t0, ⟨block_parts_1_t0, ⟨block_errors_1_t0, trivial, trivial⟩, ⟨header_Check_t0, trivial, trivial⟩⟩, ⟨block_parts_3_t0, ⟨vals_Check_t0, trivial, trivial⟩, trivial⟩⟩, ⟨header_hashes_t0, ⟨wire_Writer_Num_t0, ⟨wire_Writer_Text_t0, trivial, trivial⟩, trivial⟩, ⟨wire_Writer_Word_t0, ⟨wire_Writer_Hash_t0, trivial, trivial⟩, trivial⟩⟩⟩, ⟨wire_Reader_num_1_t0, ⟨wire_Reader_caught_t0, ⟨wire_number_t0, ⟨wire_Writer_put_t0, trivial, trivial⟩, trivial⟩, ⟨wire_big_t0, ⟨wire_take_uint64__t0, trivial, trivial⟩, trivial⟩⟩, ⟨wire_Reader_Word_t0, ⟨wire_Reader_Hash_t0, ⟨wire_Reader_Text_t0, trivial, trivial⟩, trivial⟩, ⟨header_rules_t0, ⟨wire_Reader_Key_t0, trivial, trivial⟩, trivial⟩⟩⟩⟩, ⟨wire_Reader_Key_1_1_t0, ⟨wire_Reader_Hash_1_1_t0, ⟨wire_reads_api_Hash__t0, ⟨wire_word_t0, ⟨commit_rises_t0, trivial, trivial⟩, ⟨slices_Concat___byte_byte__t0, trivial, trivial⟩⟩, ⟨wire_take_api_Hash__t0, ⟨wire_Reader_Hash_1_t0, trivial, trivial⟩, trivial⟩⟩, ⟨wire_reads_api_Key__t0, ⟨wire_Reader_Word_1_t0, ⟨wire_reads_uint64__t0, trivial, trivial⟩, trivial⟩, ⟨wire_take_api_Key__t0, ⟨wire_Reader_Key_1_t0, trivial, trivial⟩, trivial⟩⟩⟩, ⟨commit_rises_1_t0, ⟨header_rules_2_t0, ⟨header_Name_t0, ⟨header_rules_1_t0, trivial, trivial⟩, trivial⟩, ⟨bytes_Compare_t0, ⟨header_rules_3_t0, trivial, trivial⟩, trivial⟩⟩, ⟨header_plain_t0, ⟨header_each_t0, ⟨slices_Grow___byte_byte__t0, trivial, trivial⟩, trivial⟩, ⟨msg_answer_write_t0, ⟨msg_ask_write_t0, trivial, trivial⟩, trivial⟩⟩⟩⟩⟩⟩
end Go.Proofs.YtninaabbojcdpaaGreat.A
