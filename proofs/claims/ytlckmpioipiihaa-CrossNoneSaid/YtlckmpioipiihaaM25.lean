/- Functions of the program, as the machine has them: written by a program of mine (GenVm.lean), each held against the given program by the kernel. -/
import Derived.Test.YtlckmpioipiihaaRows
import Derived.Test.YtlckmpioipiihaaVJ
set_option maxRecDepth 100000
set_option linter.unusedVariables false
namespace Go.Proofs.Ytlckmpioipiihaa.A
open Go Go.Vm

abbrev ty_internal_abi_BoundsErrorCode : TypeId := 6
abbrev ty_runtime_boundsError : TypeId := 8
abbrev ty_runtime_errorString : TypeId := 10
abbrev ty_runtime_plainError : TypeId := 11
abbrev ty_runtime_errorAddressString : TypeId := 14
abbrev ty_internal_runtime_maps_unhashableTypeError : TypeId := 19
abbrev ty_api_Hash : TypeId := 23
abbrev ty_api_Header : TypeId := 25
abbrev ty_api_Commit : TypeId := 28
abbrev ty_api_Block : TypeId := 31
abbrev ty_cross_state : TypeId := 35
abbrev ty_cross_witness : TypeId := 37
abbrev ty_cross_Cross : TypeId := 40
abbrev ty_api_Errno : TypeId := 44
abbrev ty_landfalllaw25_Act : TypeId := 64
abbrev ty_iter_Seq2_int__cross_witness_ : TypeId := 70
abbrev ty_api_Key : TypeId := 79
abbrev ty_api_Validator : TypeId := 81
abbrev ty_api_Vote : TypeId := 87
abbrev ty_header_rule : TypeId := 113
abbrev ty_wire_Writer : TypeId := 115
abbrev ty_blake_words : TypeId := 121
abbrev ty_blake_counter : TypeId := 125
abbrev ty_blake_State : TypeId := 127
abbrev ty_blake_four : TypeId := 142
abbrev ty_runtime_TypeAssertionError : TypeId := 151
abbrev ty_runtime_PanicNilError : TypeId := 154
abbrev ty_internal_abi_TFlag : TypeId := 155
abbrev ty_internal_abi_Kind : TypeId := 156
abbrev ty_internal_abi_NameOff : TypeId := 159
abbrev ty_internal_abi_TypeOff : TypeId := 160
abbrev ty_internal_abi_Type : TypeId := 162
instance : IsIface Try.prog 20 := ⟨by kernel_rfl⟩
/-- functions that are known to come to true -/
abbrev prims : List FuncId := [7]
abbrev kepts : List FuncId := []
noncomputable def T0 : Table := withKept (withTrue Try.prog prims) kepts
abbrev fn_landfalllaw25_awake : FuncId := 7
theorem landfalllaw25_awake_known {h : Heap} : Runs Try.prog T0 (.fn 7) [] h (fun r h' => r = .bool true ∧ h' = h) (fun _ _ => False) := known_runs rfl
instance : IsBoolT Try.prog 4 := ⟨by kernel_rfl⟩
instance : TLeaves Try.prog 7 (.i .i64 :: (.i .i64 :: (.b :: (.i .u8 :: [])))) := ⟨by kernel_rfl, by kernel_rfl, by kernel_rfl⟩
instance : TLeaves Try.prog 8 (.i .i64 :: (.i .i64 :: (.b :: (.i .u8 :: [])))) := ⟨by kernel_rfl, by kernel_rfl, by kernel_rfl⟩
instance : TLeaves Try.prog 22 (u8s 32) := ⟨by kernel_rfl, by kernel_rfl, by kernel_rfl⟩
instance : TLeaves Try.prog 23 (u8s 32) := ⟨by kernel_rfl, by kernel_rfl, by kernel_rfl⟩
instance : TLeaves Try.prog 24 (.s :: (.i .i64 :: (.i .i64 :: (u8s 32 ++ (u8s 32 ++ (u8s 32 ++ (u8s 32))))))) := ⟨by kernel_rfl, by kernel_rfl, by kernel_rfl⟩
instance : TLeaves Try.prog 25 (.s :: (.i .i64 :: (.i .i64 :: (u8s 32 ++ (u8s 32 ++ (u8s 32 ++ (u8s 32))))))) := ⟨by kernel_rfl, by kernel_rfl, by kernel_rfl⟩
instance : TLeaves Try.prog 78 (u8s 4) := ⟨by kernel_rfl, by kernel_rfl, by kernel_rfl⟩
instance : TLeaves Try.prog 79 (u8s 4) := ⟨by kernel_rfl, by kernel_rfl, by kernel_rfl⟩
instance : TLeaves Try.prog 80 (u8s 4 ++ (.i .i64 :: [])) := ⟨by kernel_rfl, by kernel_rfl, by kernel_rfl⟩
instance : TLeaves Try.prog 81 (u8s 4 ++ (.i .i64 :: [])) := ⟨by kernel_rfl, by kernel_rfl, by kernel_rfl⟩
instance : TLeaves Try.prog 86 (.i .i64 :: (.i .u64 :: [])) := ⟨by kernel_rfl, by kernel_rfl, by kernel_rfl⟩
instance : TLeaves Try.prog 87 (.i .i64 :: (.i .u64 :: [])) := ⟨by kernel_rfl, by kernel_rfl, by kernel_rfl⟩
instance : TLeaves Try.prog 120 (.i .u32 :: (.i .u32 :: (.i .u32 :: (.i .u32 :: (.i .u32 :: (.i .u32 :: (.i .u32 :: (.i .u32 :: [])))))))) := ⟨by kernel_rfl, by kernel_rfl, by kernel_rfl⟩
instance : TLeaves Try.prog 121 (.i .u32 :: (.i .u32 :: (.i .u32 :: (.i .u32 :: (.i .u32 :: (.i .u32 :: (.i .u32 :: (.i .u32 :: [])))))))) := ⟨by kernel_rfl, by kernel_rfl, by kernel_rfl⟩
instance : TLeaves Try.prog 124 (.i .i64 :: []) := ⟨by kernel_rfl, by kernel_rfl, by kernel_rfl⟩
instance : TLeaves Try.prog 125 (.i .i64 :: []) := ⟨by kernel_rfl, by kernel_rfl, by kernel_rfl⟩
instance : TLeaves Try.prog 133 (u8s 4 ++ (u8s 4 ++ (.i .u8 :: []))) := ⟨by kernel_rfl, by kernel_rfl, by kernel_rfl⟩
instance : TLeaves Try.prog 136 (.i .u32 :: (.i .u32 :: (.i .u32 :: (.i .u32 :: (.i .u32 :: (.i .u32 :: (.i .u32 :: (.i .u32 :: (.i .u32 :: (.i .u32 :: (.i .u32 :: (.i .u32 :: (.i .u32 :: (.i .u32 :: (.i .u32 :: (.i .u32 :: [])))))))))))))))) := ⟨by kernel_rfl, by kernel_rfl, by kernel_rfl⟩

/-! 3 landfall/landfalllaw25.CrossNone -/
abbrev fn_landfalllaw25_CrossNone : FuncId := 3
noncomputable def landfalllaw25_CrossNone_l0 : ACode :=
  (.seq (.seq (.region [
      ⟨(some 17), .mov (.tmp 6), none, [], false⟩,
      ⟨(some 18), .mov (.tmp 5), none, [], false⟩,
      ⟨(some 19), .lenSl (.tmp 18), none, [], false⟩,
      ⟨(some 20), .bin .lss (so (.binOp .lss 3 (.tmp 17) (.tmp 19) 3) 4) (.tmp 17) (.tmp 19), none, [], false⟩]) (.cond (.tmp 20)
    .skip
    (.exit 0))) (.seq (.block 1 (.seq (.region [
      ⟨(some 23), .mov (.tmp 5), none, [], false⟩,
      ⟨(some 24), .mov (.tmp 6), none, [], false⟩,
      ⟨(some 25), .indexSl 1 (.tmp 23) (.tmp 24), none, [], false⟩,
      ⟨(some 26), .load none (.tmp 25), none, [], false⟩,
      ⟨(some 7), .mov (.tmp 26), none, [], false⟩]) (.seq (.region [
      ⟨(some 28), .mov (.tmp 7), none, [], false⟩,
      ⟨(some 29), .callV (.func 8) [(.tmp 28)], none, [], false⟩,
      ⟨(some 27), .mov (.tmp 29), none, [], false⟩,
      ⟨(some 30), .extract 0 (.tmp 27), none, [], false⟩,
      ⟨(some 31), .extract 1 (.tmp 27), none, [], false⟩,
      ⟨(some 32), .extract 2 (.tmp 27), none, [], false⟩,
      ⟨(some 9), .alloc 31 ((.string ⟨⟨[]⟩⟩) :: ((.int .i64 0) :: ((.int .i64 0) :: (z32 ++ (z32 ++ (z32 ++ (z32 ++ ((.int .i64 0) :: (z32 ++ [(.slice none 0 0), (.slice none 0 0)]))))))))), none, [], false⟩,
      ⟨(some 8), .mov (.tmp 30), none, [], false⟩,
      ⟨none, .store 166 (.tmp 9) (.tmp 31), none, [], false⟩,
      ⟨(some 10), .mov (.tmp 32), none, [], false⟩]) (.seq (.region [
      ⟨(some 33), .mov (.tmp 7), none, [], false⟩,
      ⟨(some 34), .mov (.tmp 0), none, [], false⟩,
      ⟨(some 35), .load (some 166) (.tmp 3), none, [], false⟩,
      ⟨(some 36), .callV (.func 9) [(.tmp 33), (.tmp 34), (.tmp 35)], none, [], false⟩,
      ⟨(some 37), .bin .neq (so (.binOp .neq 44 (.tmp 36) (.const (.int .i64 1)) 44) 4) (.tmp 36) (.const (.int .i64 1)), none, [], false⟩,
      ⟨(some 38), .mov (.tmp 37), none, [], false⟩,
      ⟨(some 39), .mov (.tmp 7), (some (38, false)), [], false⟩,
      ⟨(some 40), .mov (.tmp 0), (some (38, false)), [], false⟩,
      ⟨(some 41), .callV (.func 10) [(.tmp 39), (.tmp 40)], (some (38, false)), [], false⟩,
      ⟨(some 42), .bin .neq (so (.binOp .neq 44 (.tmp 41) (.const (.int .i64 1)) 44) 4) (.tmp 41) (.const (.int .i64 1)), (some (38, false)), [], false⟩,
      ⟨(some 43), .pick (.tmp 38) (.const (.bool true)) (.tmp 42), none, [], false⟩,
      ⟨(some 44), .mov (.tmp 43), none, [], false⟩,
      ⟨(some 45), .mov (.tmp 7), (some (44, false)), [], false⟩,
      ⟨(some 46), .callV (.func 11) [(.tmp 45)], (some (44, false)), [], false⟩,
      ⟨(some 47), .bin .neq (so (.binOp .neq 3 (.tmp 46) (.const (.int .i64 0)) 3) 4) (.tmp 46) (.const (.int .i64 0)), (some (44, false)), [], false⟩,
      ⟨(some 48), .pick (.tmp 44) (.const (.bool true)) (.tmp 47), none, [], false⟩,
      ⟨(some 49), .mov (.tmp 48), none, [], false⟩,
      ⟨(some 50), .mov (.tmp 7), (some (49, false)), [], false⟩,
      ⟨(some 51), .mov (.tmp 0), (some (49, false)), [], false⟩,
      ⟨(some 52), .callV (.func 12) [(.tmp 50), (.tmp 51)], (some (49, false)), [], false⟩,
      ⟨(some 53), .bin .neq (so (.binOp .neq 3 (.tmp 52) (.const (.int .i64 0)) 3) 4) (.tmp 52) (.const (.int .i64 0)), (some (49, false)), [], false⟩,
      ⟨(some 54), .pick (.tmp 49) (.const (.bool true)) (.tmp 53), none, [], false⟩,
      ⟨(some 55), .mov (.tmp 54), none, [], false⟩,
      ⟨(some 56), .mov (.tmp 7), (some (55, false)), [], false⟩,
      ⟨(some 57), .mov (.tmp 0), (some (55, false)), [], false⟩,
      ⟨(some 58), .callV (.func 13) [(.tmp 56), (.tmp 57)], (some (55, false)), [], false⟩,
      ⟨(some 59), .lenSl (.tmp 58), (some (55, false)), [], false⟩,
      ⟨(some 60), .bin .neq (so (.binOp .neq 3 (.tmp 59) (.const (.int .i64 0)) 3) 4) (.tmp 59) (.const (.int .i64 0)), (some (55, false)), [], false⟩,
      ⟨(some 61), .pick (.tmp 55) (.const (.bool true)) (.tmp 60), none, [], false⟩,
      ⟨(some 62), .mov (.tmp 61), none, [], false⟩,
      ⟨(some 63), .mov (.tmp 8), (some (62, false)), [], false⟩,
      ⟨(some 64), .bin .neq (so (.binOp .neq 3 (.tmp 63) (.const (.int .i64 (-1))) 3) 4) (.tmp 63) (.const (.int .i64 (-1))), (some (62, false)), [], false⟩,
      ⟨(some 65), .pick (.tmp 62) (.const (.bool true)) (.tmp 64), none, [], false⟩,
      ⟨(some 66), .mov (.tmp 65), none, [], false⟩,
      ⟨(some 67), .mov (.tmp 10), (some (66, false)), [], false⟩,
      ⟨(some 68), .pick (.tmp 66) (.const (.bool true)) (.tmp 67), none, [], false⟩,
      ⟨(some 69), .mov (.tmp 68), none, [], false⟩,
      ⟨(some 70), .load (some 166) (.tmp 9), (some (69, false)), [], false⟩,
      ⟨(some 71), .build ((.string ⟨⟨[]⟩⟩) :: ((.int .i64 0) :: ((.int .i64 0) :: (z32 ++ (z32 ++ (z32 ++ (z32 ++ ((.int .i64 0) :: (z32 ++ [(.slice none 0 0), (.slice none 0 0)]))))))))) [], (some (69, false)), [], false⟩,
      ⟨(some 72), .callV (.func 14) [(.tmp 70), (.tmp 71)], (some (69, false)), [], false⟩,
      ⟨(some 73), .raw (so (.unOp .not 4 (.tmp 72)) 4), (some (69, false)), [], false⟩,
      ⟨(some 74), .pick (.tmp 69) (.const (.bool true)) (.tmp 73), none, [], false⟩]) (.cond (.tmp 74)
    (.seq (.region [
      ⟨(some 4), .mov (.const (.bool false)), none, [], false⟩]) .ret)
    .skip))))) (.region [
      ⟨(some 21), .mov (.tmp 6), none, [], false⟩,
      ⟨(some 22), .bin .add (so (.binOp .add 3 (.tmp 21) (.const (.int .i64 1)) 3) 3) (.tmp 21) (.const (.int .i64 1)), none, [], false⟩,
      ⟨(some 6), .mov (.tmp 22), none, [], false⟩])))
noncomputable def landfalllaw25_CrossNone_c : ACode :=
  (.seq (.region [
      ⟨(some 3), .box 31 (.tmp 1), none, [], false⟩,
      ⟨(some 4), .mov (.const (.bool false)), none, [], false⟩]) (.seq (.seq (.region [
      ⟨(some 11), .load (some 166) (.tmp 3), none, [], false⟩,
      ⟨(some 12), .callV (.func 6) [(.tmp 11)], none, [], false⟩]) (.cond (.tmp 12)
    (.seq (.region [
      ⟨(some 13), .callV (.func 7) [], none, [], false⟩,
      ⟨(some 4), .mov (.tmp 13), none, [], false⟩]) .ret)
    .skip)) (.seq (.region [
      ⟨(some 14), .build (z32 ++ ((.int .i64 0) :: ((.string ⟨⟨[]⟩⟩) :: ((.int .i64 0) :: ((.int .i64 0) :: (z32 ++ (z32 ++ (z32 ++ (z32 ++ ((.int .i64 0) :: (z32 ++ ((.slice none 0 0) :: ((.slice none 0 0) :: ((.int .i64 0) :: ((.string ⟨⟨[]⟩⟩) :: ((.int .i64 0) :: ((.int .i64 0) :: (z32 ++ (z32 ++ (z32 ++ (z32 ++ ((.int .i64 0) :: (z32 ++ ((.slice none 0 0) :: ((.slice none 0 0) :: ((.int .i64 0) :: ((.string ⟨⟨[]⟩⟩) :: ((.int .i64 0) :: ((.int .i64 0) :: (z32 ++ (z32 ++ (z32 ++ (z32 ++ ((.int .i64 0) :: (z32 ++ ((.slice none 0 0) :: ((.slice none 0 0) :: ((.int .i64 0) :: ((.string ⟨⟨[]⟩⟩) :: ((.int .i64 0) :: ((.int .i64 0) :: (z32 ++ (z32 ++ (z32 ++ (z32 ++ ((.int .i64 0) :: (z32 ++ ((.slice none 0 0) :: ((.slice none 0 0) :: ((.int .i64 0) :: ((.string ⟨⟨[]⟩⟩) :: ((.int .i64 0) :: ((.int .i64 0) :: (z32 ++ (z32 ++ (z32 ++ (z32 ++ ((.int .i64 0) :: (z32 ++ ((.slice none 0 0) :: ((.slice none 0 0) :: ((.int .i64 0) :: ((.string ⟨⟨[]⟩⟩) :: ((.int .i64 0) :: ((.int .i64 0) :: (z32 ++ (z32 ++ (z32 ++ (z32 ++ ((.int .i64 0) :: (z32 ++ ((.slice none 0 0) :: ((.slice none 0 0) :: ((.int .i64 0) :: ((.string ⟨⟨[]⟩⟩) :: ((.int .i64 0) :: ((.int .i64 0) :: (z32 ++ (z32 ++ (z32 ++ (z32 ++ ((.int .i64 0) :: (z32 ++ ((.slice none 0 0) :: ((.slice none 0 0) :: ((.int .i64 0) :: ((.string ⟨⟨[]⟩⟩) :: ((.int .i64 0) :: ((.int .i64 0) :: (z32 ++ (z32 ++ (z32 ++ (z32 ++ ((.int .i64 0) :: (z32 ++ ((.slice none 0 0) :: ((.slice none 0 0) :: ((.int .i64 0) :: ((.string ⟨⟨[]⟩⟩) :: ((.int .i64 0) :: ((.int .i64 0) :: (z32 ++ (z32 ++ (z32 ++ (z32 ++ ((.int .i64 0) :: (z32 ++ ((.slice none 0 0) :: ((.slice none 0 0) :: ((.int .i64 0) :: ((.string ⟨⟨[]⟩⟩) :: ((.int .i64 0) :: ((.int .i64 0) :: (z32 ++ (z32 ++ (z32 ++ (z32 ++ ((.int .i64 0) :: (z32 ++ ((.slice none 0 0) :: ((.slice none 0 0) :: ((.int .i64 0) :: ((.string ⟨⟨[]⟩⟩) :: ((.int .i64 0) :: ((.int .i64 0) :: (z32 ++ (z32 ++ (z32 ++ (z32 ++ ((.int .i64 0) :: (z32 ++ ((.slice none 0 0) :: ((.slice none 0 0) :: ((.int .i64 0) :: ((.string ⟨⟨[]⟩⟩) :: ((.int .i64 0) :: ((.int .i64 0) :: (z32 ++ (z32 ++ (z32 ++ (z32 ++ ((.int .i64 0) :: (z32 ++ ((.slice none 0 0) :: ((.slice none 0 0) :: ((.int .i64 0) :: ((.string ⟨⟨[]⟩⟩) :: ((.int .i64 0) :: ((.int .i64 0) :: (z32 ++ (z32 ++ (z32 ++ (z32 ++ ((.int .i64 0) :: (z32 ++ ((.slice none 0 0) :: ((.slice none 0 0) :: ((.int .i64 0) :: ((.string ⟨⟨[]⟩⟩) :: ((.int .i64 0) :: ((.int .i64 0) :: (z32 ++ (z32 ++ (z32 ++ (z32 ++ ((.int .i64 0) :: (z32 ++ ((.slice none 0 0) :: ((.slice none 0 0) :: ((.int .i64 0) :: ((.string ⟨⟨[]⟩⟩) :: ((.int .i64 0) :: ((.int .i64 0) :: (z32 ++ (z32 ++ (z32 ++ (z32 ++ ((.int .i64 0) :: (z32 ++ ((.slice none 0 0) :: ((.slice none 0 0) :: ((.int .i64 0) :: ((.string ⟨⟨[]⟩⟩) :: ((.int .i64 0) :: ((.int .i64 0) :: (z32 ++ (z32 ++ (z32 ++ (z32 ++ ((.int .i64 0) :: (z32 ++ [(.slice none 0 0), (.slice none 0 0), (.bool false)]))))))))))))))))))))))))))))))))))))))))))))))))))))))))))))))))))))))))))))))))))))))))))))))))))))))))))))))))))))))))))))))))))))))))))))))))))))))))))))))))))))))))))))))))))))))))))))))) [], none, [], false⟩,
      ⟨(some 15), .box 40 (.tmp 14), none, [], false⟩,
      ⟨(some 16), .buildSlice 34 [(.pointer none), (.pointer none)] 2 [(0, 1, (.const (.pointer none))), (1, 1, (.tmp 15))], none, [], false⟩,
      ⟨(some 5), .mov (.tmp 16), none, [], false⟩]) (.seq (.seq (.region [
      ⟨(some 6), .mov (.const (.int .i64 0)), none, [], false⟩]) (.block 0 (.loop landfalllaw25_CrossNone_l0))) (.seq (.region [
      ⟨(some 75), .callV (.func 7) [], none, [], false⟩,
      ⟨(some 4), .mov (.tmp 75), none, [], false⟩]) .ret)))))
noncomputable def landfalllaw25_CrossNone : AFunc := ⟨76, [(4, none)], landfalllaw25_CrossNone_c, none⟩
theorem landfalllaw25_CrossNone_t0 : tableOf Try.prog 3 = some landfalllaw25_CrossNone := by kernel_rfl
theorem landfalllaw25_CrossNone_t : T0 3 = some landfalllaw25_CrossNone := withKept_t rfl (withTrue_t rfl landfalllaw25_CrossNone_t0)
theorem landfalllaw25_CrossNone_runs {v0 v1 : Value} {h : Heap} {R : RP} {X : XP} (k : RunC Try.prog T0 landfalllaw25_CrossNone_c ⟨[v0, v1, undef, undef, undef, undef, undef, undef, undef, undef, undef, undef, undef, undef, undef, undef, undef, undef, undef, undef, undef, undef, undef, undef, undef, undef, undef, undef, undef, undef, undef, undef, undef, undef, undef, undef, undef, undef, undef, undef, undef, undef, undef, undef, undef, undef, undef, undef, undef, undef, undef, undef, undef, undef, undef, undef, undef, undef, undef, undef, undef, undef, undef, undef, undef, undef, undef, undef, undef, undef, undef, undef, undef, undef, undef, undef], [], h, none⟩ (bodyQ Try.prog T0 [(4, none)] R X)) :
    Runs Try.prog T0 (.fn 3) [v0, v1] h R X := Runs.fn landfalllaw25_CrossNone_t rfl k
/-- the slots that turn in the loop: v6 -/
noncomputable def landfalllaw25_CrossNone_l0_J (f0 f1 f2 f3 f5 f11 f12 f13 f14 f15 f16 f75 : Value) (ds : List Deferred) (rd : Option Nat) (I : Nat → Value → Heap → Prop) (m : Nat) (s : St) : Prop := ∃ (v6 : Value), ∃ h : Heap, ∃ (x4 x7 x8 x9 x10 x17 x18 x19 x20 x21 x22 x23 x24 x25 x26 x27 x28 x29 x30 x31 x32 x33 x34 x35 x36 x37 x38 x39 x40 x41 x42 x43 x44 x45 x46 x47 x48 x49 x50 x51 x52 x53 x54 x55 x56 x57 x58 x59 x60 x61 x62 x63 x64 x65 x66 x67 x68 x69 x70 x71 x72 x73 x74 : Value), s = ⟨[f0, f1, f2, f3, x4, f5, v6, x7, x8, x9, x10, f11, f12, f13, f14, f15, f16, x17, x18, x19, x20, x21, x22, x23, x24, x25, x26, x27, x28, x29, x30, x31, x32, x33, x34, x35, x36, x37, x38, x39, x40, x41, x42, x43, x44, x45, x46, x47, x48, x49, x50, x51, x52, x53, x54, x55, x56, x57, x58, x59, x60, x61, x62, x63, x64, x65, x66, x67, x68, x69, x70, x71, x72, x73, x74, f75], ds, h, rd⟩ ∧ I m v6 h
theorem landfalllaw25_CrossNone_l0_rule {f0 f1 f2 f3 f5 f11 f12 f13 f14 f15 f16 f75 : Value} {ds : List Deferred} {rd : Option Nat} {Q : QP} (I : Nat → Value → Heap → Prop) (hb : ∀ (m : Nat) (v6 : Value) (h : Heap) (x4 x7 x8 x9 x10 x17 x18 x19 x20 x21 x22 x23 x24 x25 x26 x27 x28 x29 x30 x31 x32 x33 x34 x35 x36 x37 x38 x39 x40 x41 x42 x43 x44 x45 x46 x47 x48 x49 x50 x51 x52 x53 x54 x55 x56 x57 x58 x59 x60 x61 x62 x63 x64 x65 x66 x67 x68 x69 x70 x71 x72 x73 x74 : Value) , I m v6 h → RunC Try.prog T0 landfalllaw25_CrossNone_l0 ⟨[f0, f1, f2, f3, x4, f5, v6, x7, x8, x9, x10, f11, f12, f13, f14, f15, f16, x17, x18, x19, x20, x21, x22, x23, x24, x25, x26, x27, x28, x29, x30, x31, x32, x33, x34, x35, x36, x37, x38, x39, x40, x41, x42, x43, x44, x45, x46, x47, x48, x49, x50, x51, x52, x53, x54, x55, x56, x57, x58, x59, x60, x61, x62, x63, x64, x65, x66, x67, x68, x69, x70, x71, x72, x73, x74, f75], ds, h, rd⟩ (loopQ (landfalllaw25_CrossNone_l0_J f0 f1 f2 f3 f5 f11 f12 f13 f14 f15 f16 f75 ds rd I) m Q))
    (m : Nat) {v6 : Value} {h : Heap} {x4 x7 x8 x9 x10 x17 x18 x19 x20 x21 x22 x23 x24 x25 x26 x27 x28 x29 x30 x31 x32 x33 x34 x35 x36 x37 x38 x39 x40 x41 x42 x43 x44 x45 x46 x47 x48 x49 x50 x51 x52 x53 x54 x55 x56 x57 x58 x59 x60 x61 x62 x63 x64 x65 x66 x67 x68 x69 x70 x71 x72 x73 x74 : Value} (hi : I m v6 h) : RunC Try.prog T0 (.loop landfalllaw25_CrossNone_l0) ⟨[f0, f1, f2, f3, x4, f5, v6, x7, x8, x9, x10, f11, f12, f13, f14, f15, f16, x17, x18, x19, x20, x21, x22, x23, x24, x25, x26, x27, x28, x29, x30, x31, x32, x33, x34, x35, x36, x37, x38, x39, x40, x41, x42, x43, x44, x45, x46, x47, x48, x49, x50, x51, x52, x53, x54, x55, x56, x57, x58, x59, x60, x61, x62, x63, x64, x65, x66, x67, x68, x69, x70, x71, x72, x73, x74, f75], ds, h, rd⟩ Q :=
  RunC.loopJ (landfalllaw25_CrossNone_l0_J f0 f1 f2 f3 f5 f11 f12 f13 f14 f15 f16 f75 ds rd I) (fun m s hj => by obtain ⟨v6, h, x4, x7, x8, x9, x10, x17, x18, x19, x20, x21, x22, x23, x24, x25, x26, x27, x28, x29, x30, x31, x32, x33, x34, x35, x36, x37, x38, x39, x40, x41, x42, x43, x44, x45, x46, x47, x48, x49, x50, x51, x52, x53, x54, x55, x56, x57, x58, x59, x60, x61, x62, x63, x64, x65, x66, x67, x68, x69, x70, x71, x72, x73, x74, rfl, hi⟩ := hj; exact hb m v6 h x4 x7 x8 x9 x10 x17 x18 x19 x20 x21 x22 x23 x24 x25 x26 x27 x28 x29 x30 x31 x32 x33 x34 x35 x36 x37 x38 x39 x40 x41 x42 x43 x44 x45 x46 x47 x48 x49 x50 x51 x52 x53 x54 x55 x56 x57 x58 x59 x60 x61 x62 x63 x64 x65 x66 x67 x68 x69 x70 x71 x72 x73 x74 hi) m _ ⟨_, h, _, _, _, _, _, _, _, _, _, _, _, _, _, _, _, _, _, _, _, _, _, _, _, _, _, _, _, _, _, _, _, _, _, _, _, _, _, _, _, _, _, _, _, _, _, _, _, _, _, _, _, _, _, _, _, _, _, _, _, _, _, _, _, rfl, hi⟩
theorem landfalllaw25_CrossNone_l0_again {f0 f1 f2 f3 f5 f11 f12 f13 f14 f15 f16 f75 : Value} {ds : List Deferred} {rd : Option Nat} {Q : QP} {I : Nat → Value → Heap → Prop} {m : Nat} (m' : Nat) {v6 : Value} {h : Heap} {x4 x7 x8 x9 x10 x17 x18 x19 x20 x21 x22 x23 x24 x25 x26 x27 x28 x29 x30 x31 x32 x33 x34 x35 x36 x37 x38 x39 x40 x41 x42 x43 x44 x45 x46 x47 x48 x49 x50 x51 x52 x53 x54 x55 x56 x57 x58 x59 x60 x61 x62 x63 x64 x65 x66 x67 x68 x69 x70 x71 x72 x73 x74 : Value} (hm : m' < m) (hi : I m' v6 h) : loopQ (landfalllaw25_CrossNone_l0_J f0 f1 f2 f3 f5 f11 f12 f13 f14 f15 f16 f75 ds rd I) m Q .normal ⟨[f0, f1, f2, f3, x4, f5, v6, x7, x8, x9, x10, f11, f12, f13, f14, f15, f16, x17, x18, x19, x20, x21, x22, x23, x24, x25, x26, x27, x28, x29, x30, x31, x32, x33, x34, x35, x36, x37, x38, x39, x40, x41, x42, x43, x44, x45, x46, x47, x48, x49, x50, x51, x52, x53, x54, x55, x56, x57, x58, x59, x60, x61, x62, x63, x64, x65, x66, x67, x68, x69, x70, x71, x72, x73, x74, f75], ds, h, rd⟩ :=
  loopQ.again m' hm ⟨_, h, _, _, _, _, _, _, _, _, _, _, _, _, _, _, _, _, _, _, _, _, _, _, _, _, _, _, _, _, _, _, _, _, _, _, _, _, _, _, _, _, _, _, _, _, _, _, _, _, _, _, _, _, _, _, _, _, _, _, _, _, _, _, _, rfl, hi⟩

/-! 6 landfall/landfallkit.LongBlock -/
abbrev fn_landfallkit_LongBlock : FuncId := 6
noncomputable def landfallkit_LongBlock_c : ACode :=
  (.seq (.region [
      ⟨(some 1), .box 31 (.tmp 0), none, [], false⟩,
      ⟨(some 2), .mov (.const (.bool false)), none, [], false⟩]) (.seq (.region [
      ⟨(some 3), .fieldAddr 165 (.tmp 1), none, [], false⟩,
      ⟨(some 4), .load none (.tmp 3), none, [], false⟩,
      ⟨(some 5), .lenSl (.tmp 4), none, [], false⟩,
      ⟨(some 6), .bin .gtr (so (.binOp .gtr 3 (.tmp 5) (.const (.int .i64 70)) 3) 4) (.tmp 5) (.const (.int .i64 70)), none, [], false⟩,
      ⟨(some 7), .mov (.tmp 6), none, [], false⟩,
      ⟨(some 8), .fieldAddr 131 (.tmp 1), (some (7, false)), [], false⟩,
      ⟨(some 9), .fieldAddr 33 (.tmp 8), (some (7, false)), [], false⟩,
      ⟨(some 10), .load none (.tmp 9), (some (7, false)), [], false⟩,
      ⟨(some 11), .lenSl (.tmp 10), (some (7, false)), [], false⟩,
      ⟨(some 12), .bin .gtr (so (.binOp .gtr 3 (.tmp 11) (.const (.int .i64 70)) 3) 4) (.tmp 11) (.const (.int .i64 70)), (some (7, false)), [], false⟩,
      ⟨(some 13), .pick (.tmp 7) (.const (.bool true)) (.tmp 12), none, [], false⟩,
      ⟨(some 14), .mov (.tmp 13), none, [], false⟩,
      ⟨(some 15), .fieldAddr 0 (.tmp 1), (some (14, false)), [], false⟩,
      ⟨(some 16), .fieldAddr 0 (.tmp 15), (some (14, false)), [], false⟩,
      ⟨(some 17), .load none (.tmp 16), (some (14, false)), [], false⟩,
      ⟨(some 18), .lenStr (.tmp 17), (some (14, false)), [], false⟩,
      ⟨(some 19), .bin .gtr (so (.binOp .gtr 3 (.tmp 18) (.const (.int .i64 60)) 3) 4) (.tmp 18) (.const (.int .i64 60)), (some (14, false)), [], false⟩,
      ⟨(some 20), .pick (.tmp 14) (.const (.bool true)) (.tmp 19), none, [], false⟩,
      ⟨(some 2), .mov (.tmp 20), none, [], false⟩]) .ret))
noncomputable def landfallkit_LongBlock : AFunc := ⟨21, [(2, none)], landfallkit_LongBlock_c, none⟩
theorem landfallkit_LongBlock_t0 : tableOf Try.prog 6 = some landfallkit_LongBlock := by kernel_rfl
theorem landfallkit_LongBlock_t : T0 6 = some landfallkit_LongBlock := withKept_t rfl (withTrue_t rfl landfallkit_LongBlock_t0)
theorem landfallkit_LongBlock_runs {v0 : Value} {h : Heap} {R : RP} {X : XP} (k : RunC Try.prog T0 landfallkit_LongBlock_c ⟨[v0, undef, undef, undef, undef, undef, undef, undef, undef, undef, undef, undef, undef, undef, undef, undef, undef, undef, undef, undef, undef], [], h, none⟩ (bodyQ Try.prog T0 [(2, none)] R X)) :
    Runs Try.prog T0 (.fn 6) [v0] h R X := Runs.fn landfallkit_LongBlock_t rfl k


/-! 8 (*landfall/cross.Cross).Evidence -/
abbrev fn_cross_Cross_Evidence : FuncId := 8
noncomputable def cross_Cross_Evidence_ra0 : Code := (rangeParts (subCode ((Try.prog.funcs[8]?).bind (·.body)) [true, false, true, false])).1
noncomputable def cross_Cross_Evidence_rb0 : Code := (rangeParts (subCode ((Try.prog.funcs[8]?).bind (·.body)) [true, false, true, false])).2
noncomputable def cross_Cross_Evidence_a0 : ACode :=
  (.seq (.region [
      ⟨(some 5), .mov (.tmp 9), none, [], false⟩]) (.region [
      ⟨(some 6), .alloc 37 ((.int .i64 0) :: ((.string ⟨⟨[]⟩⟩) :: ((.int .i64 0) :: ((.int .i64 0) :: (z32 ++ (z32 ++ (z32 ++ (z32 ++ ((.int .i64 0) :: (z32 ++ [(.slice none 0 0), (.slice none 0 0)])))))))))), none, [], false⟩,
      ⟨none, .store 167 (.tmp 6) (.tmp 10), none, [], false⟩]))
noncomputable def cross_Cross_Evidence_b0 : ACode :=
  (.block 1 (.seq (.region [
      ⟨(some 11), .fieldAddr 0 (.tmp 6), none, [], false⟩,
      ⟨(some 12), .load none (.tmp 11), none, [], false⟩,
      ⟨(some 13), .bin .eql (so (.binOp .eql 35 (.tmp 12) (.const (.int .i64 4)) 35) 4) (.tmp 12) (.const (.int .i64 4)), none, [], false⟩]) (.cond (.tmp 13)
    (.seq (.region [
      ⟨(some 14), .mov (.tmp 5), none, [], false⟩,
      ⟨(some 15), .fieldAddr 1 (.tmp 6), none, [], false⟩,
      ⟨(some 16), .load (some 166) (.tmp 15), none, [], false⟩,
      ⟨(some 17), .callV (.func 25) [(.tmp 16)], none, [], false⟩,
      ⟨none, .store 1 (.tmp 2) (.tmp 14), none, [], false⟩,
      ⟨none, .store 166 (.tmp 3) (.tmp 17), none, [], false⟩,
      ⟨none, .store 1 (.tmp 4) (.const (.bool true)), none, [], false⟩]) .ret)
    .skip)))
theorem cross_Cross_Evidence_ca0 : comp Try.prog cross_Cross_Evidence_ra0 = some cross_Cross_Evidence_a0 := by kernel_rfl
theorem cross_Cross_Evidence_cb0 : comp Try.prog cross_Cross_Evidence_rb0 = some cross_Cross_Evidence_b0 := by kernel_rfl
theorem cross_Cross_Evidence_na0 : noDefer cross_Cross_Evidence_ra0 = true := by kernel_rfl
theorem cross_Cross_Evidence_nb0 : noDefer cross_Cross_Evidence_rb0 = true := by kernel_rfl
noncomputable def cross_Cross_Evidence_c : ACode :=
  (.seq (.region [
      ⟨(some 2), .alloc 3 [(.int .i64 0)], none, [], false⟩,
      ⟨(some 3), .alloc 31 ((.string ⟨⟨[]⟩⟩) :: ((.int .i64 0) :: ((.int .i64 0) :: (z32 ++ (z32 ++ (z32 ++ (z32 ++ ((.int .i64 0) :: (z32 ++ [(.slice none 0 0), (.slice none 0 0)]))))))))), none, [], false⟩,
      ⟨(some 4), .alloc 4 [(.bool false)], none, [], false⟩]) (.seq (.seq (.region [
      ⟨(some 7), .mov (.tmp 0), none, [], false⟩,
      ⟨(some 8), .callV (.func 24) [(.tmp 7)], none, [], false⟩]) (.block 0 (.rangeFunc (.tmp 8) [9, 10] cross_Cross_Evidence_ra0 cross_Cross_Evidence_rb0))) (.seq (.region [
      ⟨(some 18), .build ((.string ⟨⟨[]⟩⟩) :: ((.int .i64 0) :: ((.int .i64 0) :: (z32 ++ (z32 ++ (z32 ++ (z32 ++ ((.int .i64 0) :: (z32 ++ [(.slice none 0 0), (.slice none 0 0)]))))))))) [], none, [], false⟩,
      ⟨none, .store 1 (.tmp 2) (.const (.int .i64 (-1))), none, [], false⟩,
      ⟨none, .store 166 (.tmp 3) (.tmp 18), none, [], false⟩,
      ⟨none, .store 1 (.tmp 4) (.const (.bool false)), none, [], false⟩]) .ret)))
noncomputable def cross_Cross_Evidence : AFunc := ⟨19, [(2, some none), (3, some (some 166)), (4, some none)], cross_Cross_Evidence_c, none⟩
theorem cross_Cross_Evidence_t0 : tableOf Try.prog 8 = some cross_Cross_Evidence := by kernel_rfl
theorem cross_Cross_Evidence_t : T0 8 = some cross_Cross_Evidence := withKept_t rfl (withTrue_t rfl cross_Cross_Evidence_t0)
theorem cross_Cross_Evidence_runs {v0 : Value} {h : Heap} {R : RP} {X : XP} (k : RunC Try.prog T0 cross_Cross_Evidence_c ⟨[v0, undef, undef, undef, undef, undef, undef, undef, undef, undef, undef, undef, undef, undef, undef, undef, undef, undef, undef], [], h, none⟩ (bodyQ Try.prog T0 [(2, some none), (3, some (some 166)), (4, some none)] R X)) :
    Runs Try.prog T0 (.fn 8) [v0] h R X := Runs.fn cross_Cross_Evidence_t rfl k


/-! 9 (*landfall/cross.Cross).Say -/
abbrev fn_cross_Cross_Say : FuncId := 9
noncomputable def cross_Cross_Say_c : ACode :=
  (.seq (.region [
      ⟨(some 5), .box 31 (.tmp 2), none, [], false⟩,
      ⟨(some 6), .mov (.const (.int .i64 0)), none, [], false⟩]) (.seq (.seq (.region [
      ⟨(some 10), .mov (.tmp 0), none, [], false⟩,
      ⟨(some 11), .mov (.tmp 1), none, [], false⟩,
      ⟨(some 12), .callV (.func 26) [(.tmp 10), (.tmp 11)], none, [], false⟩,
      ⟨(some 7), .mov (.tmp 12), none, [], false⟩]) (.seq (.region [
      ⟨(some 13), .mov (.tmp 7), none, [], false⟩,
      ⟨(some 14), .bin .neq (so (.binOp .neq 44 (.tmp 13) (.const (.int .i64 0)) 44) 4) (.tmp 13) (.const (.int .i64 0)), none, [], false⟩]) (.cond (.tmp 14)
    (.seq (.region [
      ⟨(some 15), .mov (.tmp 7), none, [], false⟩,
      ⟨(some 6), .mov (.tmp 15), none, [], false⟩]) .ret)
    .skip))) (.seq (.region [
      ⟨(some 17), .load (some 166) (.tmp 5), none, [], false⟩,
      ⟨(some 18), .callV (.func 18) [(.tmp 17)], none, [], false⟩,
      ⟨(some 16), .mov (.tmp 18), none, [], false⟩,
      ⟨(some 19), .extract 0 (.tmp 16), none, [], false⟩,
      ⟨(some 20), .extract 1 (.tmp 16), none, [], false⟩,
      ⟨(some 8), .alloc 23 z32, none, [], false⟩,
      ⟨none, .store 32 (.tmp 8) (.tmp 19), none, [], false⟩,
      ⟨(some 9), .mov (.tmp 20), none, [], false⟩]) (.seq (.seq (.region [
      ⟨(some 21), .mov (.tmp 9), none, [], false⟩,
      ⟨(some 22), .bin .neq (so (.binOp .neq 44 (.tmp 21) (.const (.int .i64 0)) 44) 4) (.tmp 21) (.const (.int .i64 0)), none, [], false⟩]) (.cond (.tmp 22)
    (.seq (.region [
      ⟨(some 23), .mov (.tmp 9), none, [], false⟩,
      ⟨(some 6), .mov (.tmp 23), none, [], false⟩]) .ret)
    .skip)) (.seq (.seq (.regionD [
      ⟨(some 24), .load (some 32) (.tmp 8), none, [], false⟩,
      ⟨(some 25), .mov (.tmp 0), none, [], false⟩,
      ⟨(some 26), .nilCheck (.tmp 25), none, [], false⟩,
      ⟨(some 27), .fieldAddr 0 (.tmp 26), none, [], false⟩,
      ⟨(some 28), .load (some 32) (.tmp 27), none, [], false⟩,
      ⟨(some 29), .bin .eql (so (.binOp .eql 23 (.tmp 24) (.tmp 28) 23) 4) (.tmp 24) (.tmp 28), none, [], true⟩]) (.cond (.tmp 29)
    (.region [
      ⟨(some 30), .mov (.tmp 0), none, [], false⟩,
      ⟨(some 31), .mov (.tmp 1), none, [], false⟩,
      ⟨(some 32), .nilCheck (.tmp 30), none, [], false⟩,
      ⟨(some 33), .fieldAddr 32 (.tmp 32), none, [], false⟩,
      ⟨(some 34), .indexArr 16 167 (.tmp 33) (.tmp 31), none, [], false⟩,
      ⟨(some 35), .fieldAddr 0 (.tmp 34), none, [], false⟩,
      ⟨none, .store 1 (.tmp 35) (.const (.int .i64 2)), none, [], false⟩])
    (.regionD [
      ⟨(some 36), .mov (.tmp 0), none, [], false⟩,
      ⟨(some 37), .mov (.tmp 1), none, [], false⟩,
      ⟨(some 38), .load (some 166) (.tmp 5), none, [], false⟩,
      ⟨(some 41), .nilCheck (.tmp 36), none, [], false⟩,
      ⟨(some 42), .fieldAddr 32 (.tmp 41), none, [], false⟩,
      ⟨(some 39), .callV (.func 25) [(.tmp 38)], none, [((some 42), .fieldAddr 32 (.tmp 41), none), ((some 41), .nilCheck (.tmp 36), none), ((some 37), .mov (.tmp 1), none), ((some 36), .mov (.tmp 0), none)], false⟩,
      ⟨(some 40), .build ((.int .i64 0) :: ((.string ⟨⟨[]⟩⟩) :: ((.int .i64 0) :: ((.int .i64 0) :: (z32 ++ (z32 ++ (z32 ++ (z32 ++ ((.int .i64 0) :: (z32 ++ [(.slice none 0 0), (.slice none 0 0)])))))))))) [(0, 1, (.const (.int .i64 4))), (1, 166, (.tmp 39))], none, [], false⟩,
      ⟨(some 43), .indexArr 16 167 (.tmp 42) (.tmp 37), none, [], true⟩,
      ⟨none, .store 167 (.tmp 43) (.tmp 40), none, [], true⟩]))) (.seq (.region [
      ⟨(some 6), .mov (.const (.int .i64 0)), none, [], false⟩]) .ret))))))
noncomputable def cross_Cross_Say : AFunc := ⟨44, [(6, none)], cross_Cross_Say_c, none⟩
theorem cross_Cross_Say_t0 : tableOf Try.prog 9 = some cross_Cross_Say := by kernel_rfl
theorem cross_Cross_Say_t : T0 9 = some cross_Cross_Say := withKept_t rfl (withTrue_t rfl cross_Cross_Say_t0)
theorem cross_Cross_Say_runs {v0 v1 v2 : Value} {h : Heap} {R : RP} {X : XP} (k : RunC Try.prog T0 cross_Cross_Say_c ⟨[v0, v1, v2, undef, undef, undef, undef, undef, undef, undef, undef, undef, undef, undef, undef, undef, undef, undef, undef, undef, undef, undef, undef, undef, undef, undef, undef, undef, undef, undef, undef, undef, undef, undef, undef, undef, undef, undef, undef, undef, undef, undef, undef, undef], [], h, none⟩ (bodyQ Try.prog T0 [(6, none)] R X)) :
    Runs Try.prog T0 (.fn 9) [v0, v1, v2] h R X := Runs.fn cross_Cross_Say_t rfl k


/-! 10 (*landfall/cross.Cross).Leave -/
abbrev fn_cross_Cross_Leave : FuncId := 10
noncomputable def cross_Cross_Leave_c : ACode :=
  (.seq (.region [
      ⟨(some 4), .mov (.const (.int .i64 0)), none, [], false⟩]) (.seq (.region [
      ⟨(some 6), .mov (.tmp 0), none, [], false⟩,
      ⟨(some 7), .mov (.tmp 1), none, [], false⟩,
      ⟨(some 8), .callV (.func 26) [(.tmp 6), (.tmp 7)], none, [], false⟩,
      ⟨(some 5), .mov (.tmp 8), none, [], false⟩]) (.seq (.seq (.region [
      ⟨(some 9), .mov (.tmp 5), none, [], false⟩,
      ⟨(some 10), .bin .eql (so (.binOp .eql 44 (.tmp 9) (.const (.int .i64 0)) 44) 4) (.tmp 9) (.const (.int .i64 0)), none, [], false⟩]) (.cond (.tmp 10)
    (.region [
      ⟨(some 11), .mov (.tmp 0), none, [], false⟩,
      ⟨(some 12), .mov (.tmp 1), none, [], false⟩,
      ⟨(some 13), .nilCheck (.tmp 11), none, [], false⟩,
      ⟨(some 14), .fieldAddr 32 (.tmp 13), none, [], false⟩,
      ⟨(some 15), .indexArr 16 167 (.tmp 14) (.tmp 12), none, [], false⟩,
      ⟨(some 16), .fieldAddr 0 (.tmp 15), none, [], false⟩,
      ⟨none, .store 1 (.tmp 16) (.const (.int .i64 3)), none, [], false⟩])
    .skip)) (.seq (.region [
      ⟨(some 17), .mov (.tmp 5), none, [], false⟩,
      ⟨(some 4), .mov (.tmp 17), none, [], false⟩]) .ret))))
noncomputable def cross_Cross_Leave : AFunc := ⟨18, [(4, none)], cross_Cross_Leave_c, none⟩
theorem cross_Cross_Leave_t0 : tableOf Try.prog 10 = some cross_Cross_Leave := by kernel_rfl
theorem cross_Cross_Leave_t : T0 10 = some cross_Cross_Leave := withKept_t rfl (withTrue_t rfl cross_Cross_Leave_t0)
theorem cross_Cross_Leave_runs {v0 v1 : Value} {h : Heap} {R : RP} {X : XP} (k : RunC Try.prog T0 cross_Cross_Leave_c ⟨[v0, v1, undef, undef, undef, undef, undef, undef, undef, undef, undef, undef, undef, undef, undef, undef, undef, undef], [], h, none⟩ (bodyQ Try.prog T0 [(4, none)] R X)) :
    Runs Try.prog T0 (.fn 10) [v0, v1] h R X := Runs.fn cross_Cross_Leave_t rfl k


/-! 11 (*landfall/cross.Cross).Result -/
abbrev fn_cross_Cross_Result : FuncId := 11
noncomputable def cross_Cross_Result_c : ACode :=
  (.seq (.region [
      ⟨(some 2), .mov (.const (.int .i64 0)), none, [], false⟩]) (.seq (.block 0 (.seq (.region [
      ⟨(some 4), .mov (.tmp 0), none, [], false⟩,
      ⟨(some 5), .callV (.func 27) [(.tmp 4)], none, [], false⟩,
      ⟨(some 6), .mov (.tmp 5), none, [], false⟩,
      ⟨(some 7), .mov (.tmp 0), (some (6, false)), [], false⟩,
      ⟨(some 8), .callV (.func 24) [(.tmp 7)], (some (6, false)), [], false⟩,
      ⟨(some 9), .callV (.func 29) [(.const (.int .i64 4))], (some (6, false)), [], false⟩,
      ⟨(some 10), .callV (.func 28) [(.tmp 8), (.tmp 9)], (some (6, false)), [], false⟩,
      ⟨(some 11), .raw (so (.unOp .not 4 (.tmp 10)) 4), (some (6, false)), [], false⟩,
      ⟨(some 12), .mov (.tmp 11), (some (6, false)), [], false⟩,
      ⟨(some 13), .mov (.tmp 0), (some (12, true)), [], false⟩,
      ⟨(some 14), .callV (.func 24) [(.tmp 13)], (some (12, true)), [], false⟩,
      ⟨(some 15), .callV (.func 29) [(.const (.int .i64 1))], (some (12, true)), [], false⟩,
      ⟨(some 16), .callV (.func 28) [(.tmp 14), (.tmp 15)], (some (12, true)), [], false⟩,
      ⟨(some 17), .pick (.tmp 12) (.tmp 16) (.const (.bool false)), (some (6, false)), [], false⟩,
      ⟨(some 18), .pick (.tmp 6) (.const (.bool true)) (.tmp 17), none, [], false⟩,
      ⟨(some 3), .mov (.tmp 18), none, [], false⟩]) (.cond (.tmp 3)
    (.seq (.region [
      ⟨(some 2), .mov (.const (.int .i64 0)), none, [], false⟩]) .ret)
    (.seq (.region [
      ⟨(some 20), .mov (.tmp 0), none, [], false⟩,
      ⟨(some 21), .callV (.func 24) [(.tmp 20)], none, [], false⟩,
      ⟨(some 22), .callV (.func 29) [(.const (.int .i64 4))], none, [], false⟩,
      ⟨(some 23), .callV (.func 28) [(.tmp 21), (.tmp 22)], none, [], false⟩,
      ⟨(some 19), .mov (.tmp 23), none, [], false⟩]) (.cond (.tmp 19)
    (.seq (.region [
      ⟨(some 2), .mov (.const (.int .i64 3)), none, [], false⟩]) .ret)
    (.seq (.region [
      ⟨(some 25), .mov (.tmp 0), none, [], false⟩,
      ⟨(some 26), .callV (.func 24) [(.tmp 25)], none, [], false⟩,
      ⟨(some 27), .callV (.func 29) [(.const (.int .i64 2))], none, [], false⟩,
      ⟨(some 28), .callV (.func 28) [(.tmp 26), (.tmp 27)], none, [], false⟩,
      ⟨(some 24), .mov (.tmp 28), none, [], false⟩]) (.cond (.tmp 24)
    (.seq (.region [
      ⟨(some 2), .mov (.const (.int .i64 1)), none, [], false⟩]) .ret)
    .skip))))))) (.seq (.region [
      ⟨(some 2), .mov (.const (.int .i64 2)), none, [], false⟩]) .ret)))
noncomputable def cross_Cross_Result : AFunc := ⟨29, [(2, none)], cross_Cross_Result_c, none⟩
theorem cross_Cross_Result_t0 : tableOf Try.prog 11 = some cross_Cross_Result := by kernel_rfl
theorem cross_Cross_Result_t : T0 11 = some cross_Cross_Result := withKept_t rfl (withTrue_t rfl cross_Cross_Result_t0)
theorem cross_Cross_Result_runs {v0 : Value} {h : Heap} {R : RP} {X : XP} (k : RunC Try.prog T0 cross_Cross_Result_c ⟨[v0, undef, undef, undef, undef, undef, undef, undef, undef, undef, undef, undef, undef, undef, undef, undef, undef, undef, undef, undef, undef, undef, undef, undef, undef, undef, undef, undef, undef], [], h, none⟩ (bodyQ Try.prog T0 [(2, none)] R X)) :
    Runs Try.prog T0 (.fn 11) [v0] h R X := Runs.fn cross_Cross_Result_t rfl k


/-! 12 (*landfall/cross.Cross).State -/
abbrev fn_cross_Cross_State : FuncId := 12
noncomputable def cross_Cross_State_c : ACode :=
  (.seq (.region [
      ⟨(some 4), .mov (.const (.int .i64 0)), none, [], false⟩]) (.seq (.seq (.region [
      ⟨(some 5), .mov (.tmp 0), none, [], false⟩,
      ⟨(some 6), .callV (.func 27) [(.tmp 5)], none, [], false⟩,
      ⟨(some 7), .mov (.tmp 6), none, [], false⟩,
      ⟨(some 8), .mov (.tmp 1), (some (7, false)), [], false⟩,
      ⟨(some 9), .bin .lss (so (.binOp .lss 3 (.tmp 8) (.const (.int .i64 0)) 3) 4) (.tmp 8) (.const (.int .i64 0)), (some (7, false)), [], false⟩,
      ⟨(some 10), .pick (.tmp 7) (.const (.bool true)) (.tmp 9), none, [], false⟩,
      ⟨(some 11), .mov (.tmp 10), none, [], false⟩,
      ⟨(some 12), .mov (.tmp 1), (some (11, false)), [], false⟩,
      ⟨(some 13), .bin .geq (so (.binOp .geq 3 (.tmp 12) (.const (.int .i64 16)) 3) 4) (.tmp 12) (.const (.int .i64 16)), (some (11, false)), [], false⟩,
      ⟨(some 14), .pick (.tmp 11) (.const (.bool true)) (.tmp 13), none, [], false⟩]) (.cond (.tmp 14)
    (.seq (.region [
      ⟨(some 4), .mov (.const (.int .i64 0)), none, [], false⟩]) .ret)
    .skip)) (.seq (.region [
      ⟨(some 15), .mov (.tmp 0), none, [], false⟩,
      ⟨(some 16), .mov (.tmp 1), none, [], false⟩,
      ⟨(some 17), .nilCheck (.tmp 15), none, [], false⟩,
      ⟨(some 18), .fieldAddr 32 (.tmp 17), none, [], false⟩,
      ⟨(some 19), .indexArr 16 167 (.tmp 18) (.tmp 16), none, [], false⟩,
      ⟨(some 20), .fieldAddr 0 (.tmp 19), none, [], false⟩,
      ⟨(some 21), .load none (.tmp 20), none, [], false⟩,
      ⟨(some 4), .mov (.tmp 21), none, [], false⟩]) .ret)))
noncomputable def cross_Cross_State : AFunc := ⟨22, [(4, none)], cross_Cross_State_c, none⟩
theorem cross_Cross_State_t0 : tableOf Try.prog 12 = some cross_Cross_State := by kernel_rfl
theorem cross_Cross_State_t : T0 12 = some cross_Cross_State := withKept_t rfl (withTrue_t rfl cross_Cross_State_t0)
theorem cross_Cross_State_runs {v0 v1 : Value} {h : Heap} {R : RP} {X : XP} (k : RunC Try.prog T0 cross_Cross_State_c ⟨[v0, v1, undef, undef, undef, undef, undef, undef, undef, undef, undef, undef, undef, undef, undef, undef, undef, undef, undef, undef, undef, undef], [], h, none⟩ (bodyQ Try.prog T0 [(4, none)] R X)) :
    Runs Try.prog T0 (.fn 12) [v0, v1] h R X := Runs.fn cross_Cross_State_t rfl k


/-! 13 (*landfall/cross.Cross).All -/
abbrev fn_cross_Cross_All : FuncId := 13
noncomputable def cross_Cross_All_ra0 : Code := (rangeParts (subCode ((Try.prog.funcs[13]?).bind (·.body)) [true, false, true, false])).1
noncomputable def cross_Cross_All_rb0 : Code := (rangeParts (subCode ((Try.prog.funcs[13]?).bind (·.body)) [true, false, true, false])).2
noncomputable def cross_Cross_All_a0 : ACode :=
  (.seq (.region [
      ⟨(some 5), .mov (.tmp 9), none, [], false⟩]) (.region [
      ⟨(some 6), .alloc 37 ((.int .i64 0) :: ((.string ⟨⟨[]⟩⟩) :: ((.int .i64 0) :: ((.int .i64 0) :: (z32 ++ (z32 ++ (z32 ++ (z32 ++ ((.int .i64 0) :: (z32 ++ [(.slice none 0 0), (.slice none 0 0)])))))))))), none, [], false⟩,
      ⟨none, .store 167 (.tmp 6) (.tmp 10), none, [], false⟩]))
noncomputable def cross_Cross_All_b0 : ACode :=
  (.block 1 (.seq (.region [
      ⟨(some 11), .fieldAddr 0 (.tmp 6), none, [], false⟩,
      ⟨(some 12), .load none (.tmp 11), none, [], false⟩,
      ⟨(some 13), .load none (.tmp 3), none, [], false⟩,
      ⟨(some 14), .bin .eql (so (.binOp .eql 3 (.tmp 12) (.tmp 13) 3) 4) (.tmp 12) (.tmp 13), none, [], false⟩]) (.cond (.tmp 14)
    (.region [
      ⟨(some 15), .load none (.tmp 4), none, [], false⟩,
      ⟨(some 16), .mov (.tmp 5), none, [], false⟩,
      ⟨(some 17), .buildSlice 3 [(.int .i64 0)] 1 [(0, 1, (.tmp 16))], none, [], false⟩,
      ⟨(some 18), .append 3 1 8 [(.int .i64 0)] false (.tmp 15) (.tmp 17), none, [], false⟩,
      ⟨none, .store 1 (.tmp 4) (.tmp 18), none, [], false⟩])
    .skip)))
theorem cross_Cross_All_ca0 : comp Try.prog cross_Cross_All_ra0 = some cross_Cross_All_a0 := by kernel_rfl
theorem cross_Cross_All_cb0 : comp Try.prog cross_Cross_All_rb0 = some cross_Cross_All_b0 := by kernel_rfl
theorem cross_Cross_All_na0 : noDefer cross_Cross_All_ra0 = true := by kernel_rfl
theorem cross_Cross_All_nb0 : noDefer cross_Cross_All_rb0 = true := by kernel_rfl
noncomputable def cross_Cross_All_c : ACode :=
  (.seq (.region [
      ⟨(some 3), .box 3 (.tmp 1), none, [], false⟩,
      ⟨(some 4), .alloc 49 [(.slice none 0 0)], none, [], false⟩]) (.seq (.seq (.region [
      ⟨(some 7), .mov (.tmp 0), none, [], false⟩,
      ⟨(some 8), .callV (.func 24) [(.tmp 7)], none, [], false⟩]) (.block 0 (.rangeFunc (.tmp 8) [9, 10] cross_Cross_All_ra0 cross_Cross_All_rb0))) (.seq (.region [
      ⟨(some 19), .load none (.tmp 4), none, [], false⟩,
      ⟨none, .store 1 (.tmp 4) (.tmp 19), none, [], false⟩]) .ret)))
noncomputable def cross_Cross_All : AFunc := ⟨20, [(4, some none)], cross_Cross_All_c, none⟩
theorem cross_Cross_All_t0 : tableOf Try.prog 13 = some cross_Cross_All := by kernel_rfl
theorem cross_Cross_All_t : T0 13 = some cross_Cross_All := withKept_t rfl (withTrue_t rfl cross_Cross_All_t0)
theorem cross_Cross_All_runs {v0 v1 : Value} {h : Heap} {R : RP} {X : XP} (k : RunC Try.prog T0 cross_Cross_All_c ⟨[v0, v1, undef, undef, undef, undef, undef, undef, undef, undef, undef, undef, undef, undef, undef, undef, undef, undef, undef, undef], [], h, none⟩ (bodyQ Try.prog T0 [(4, some none)] R X)) :
    Runs Try.prog T0 (.fn 13) [v0, v1] h R X := Runs.fn cross_Cross_All_t rfl k


/-! 14 landfall/landfallkit.SameBlock -/
abbrev fn_landfallkit_SameBlock : FuncId := 14
noncomputable def landfallkit_SameBlock_c : ACode :=
  (.seq (.region [
      ⟨(some 2), .box 31 (.tmp 0), none, [], false⟩,
      ⟨(some 3), .box 31 (.tmp 1), none, [], false⟩,
      ⟨(some 4), .mov (.const (.bool false)), none, [], false⟩]) (.seq (.region [
      ⟨(some 5), .fieldAddr 0 (.tmp 2), none, [], false⟩,
      ⟨(some 6), .load (some 131) (.tmp 5), none, [], false⟩,
      ⟨(some 7), .fieldAddr 0 (.tmp 3), none, [], false⟩,
      ⟨(some 8), .load (some 131) (.tmp 7), none, [], false⟩,
      ⟨(some 9), .bin .eql (so (.binOp .eql 25 (.tmp 6) (.tmp 8) 25) 4) (.tmp 6) (.tmp 8), none, [], false⟩,
      ⟨(some 10), .mov (.tmp 9), none, [], false⟩,
      ⟨(some 11), .fieldAddr 131 (.tmp 2), (some (10, true)), [], false⟩,
      ⟨(some 12), .load (some 34) (.tmp 11), (some (10, true)), [], false⟩,
      ⟨(some 13), .fieldAddr 131 (.tmp 3), (some (10, true)), [], false⟩,
      ⟨(some 14), .load (some 34) (.tmp 13), (some (10, true)), [], false⟩,
      ⟨(some 15), .callV (.func 30) [(.tmp 12), (.tmp 14)], (some (10, true)), [], false⟩,
      ⟨(some 16), .pick (.tmp 10) (.tmp 15) (.const (.bool false)), none, [], false⟩,
      ⟨(some 17), .mov (.tmp 16), none, [], false⟩,
      ⟨(some 18), .fieldAddr 165 (.tmp 2), (some (17, true)), [], false⟩,
      ⟨(some 19), .load none (.tmp 18), (some (17, true)), [], false⟩,
      ⟨(some 20), .fieldAddr 165 (.tmp 3), (some (17, true)), [], false⟩,
      ⟨(some 21), .load none (.tmp 20), (some (17, true)), [], false⟩,
      ⟨(some 22), .callV (.func 31) [(.tmp 19), (.tmp 21)], (some (17, true)), [], false⟩,
      ⟨(some 23), .pick (.tmp 17) (.tmp 22) (.const (.bool false)), none, [], false⟩,
      ⟨(some 4), .mov (.tmp 23), none, [], false⟩]) .ret))
noncomputable def landfallkit_SameBlock : AFunc := ⟨24, [(4, none)], landfallkit_SameBlock_c, none⟩
theorem landfallkit_SameBlock_t0 : tableOf Try.prog 14 = some landfallkit_SameBlock := by kernel_rfl
theorem landfallkit_SameBlock_t : T0 14 = some landfallkit_SameBlock := withKept_t rfl (withTrue_t rfl landfallkit_SameBlock_t0)
theorem landfallkit_SameBlock_runs {v0 v1 : Value} {h : Heap} {R : RP} {X : XP} (k : RunC Try.prog T0 landfallkit_SameBlock_c ⟨[v0, v1, undef, undef, undef, undef, undef, undef, undef, undef, undef, undef, undef, undef, undef, undef, undef, undef, undef, undef, undef, undef, undef, undef], [], h, none⟩ (bodyQ Try.prog T0 [(4, none)] R X)) :
    Runs Try.prog T0 (.fn 14) [v0, v1] h R X := Runs.fn landfallkit_SameBlock_t rfl k


/-! 24 (*landfall/cross.Cross).all -/
abbrev fn_cross_Cross_all : FuncId := 24
noncomputable def cross_Cross_all_c : ACode :=
  (.seq (.region [
      ⟨(some 1), .box 34 (.tmp 0), none, [], false⟩,
      ⟨(some 2), .mov (.const .nilFunc), none, [], false⟩]) (.seq (.region [
      ⟨(some 3), .mkFunc (.func 33) [] [(.tmp 1)], none, [], false⟩,
      ⟨(some 2), .mov (.tmp 3), none, [], false⟩]) .ret))
noncomputable def cross_Cross_all : AFunc := ⟨4, [(2, none)], cross_Cross_all_c, none⟩
theorem cross_Cross_all_t0 : tableOf Try.prog 24 = some cross_Cross_all := by kernel_rfl
theorem cross_Cross_all_t : T0 24 = some cross_Cross_all := withKept_t rfl (withTrue_t rfl cross_Cross_all_t0)
theorem cross_Cross_all_runs {v0 : Value} {h : Heap} {R : RP} {X : XP} (k : RunC Try.prog T0 cross_Cross_all_c ⟨[v0, undef, undef, undef], [], h, none⟩ (bodyQ Try.prog T0 [(2, none)] R X)) :
    Runs Try.prog T0 (.fn 24) [v0] h R X := Runs.fn cross_Cross_all_t rfl k


/-! 26 (*landfall/cross.Cross).may -/
abbrev fn_cross_Cross_may : FuncId := 26
noncomputable def cross_Cross_may_c : ACode :=
  (.seq (.region [
      ⟨(some 4), .mov (.const (.int .i64 0)), none, [], false⟩]) (.seq (.block 0 (.seq (.region [
      ⟨(some 6), .mov (.tmp 0), none, [], false⟩,
      ⟨(some 7), .callV (.func 27) [(.tmp 6)], none, [], false⟩,
      ⟨(some 5), .mov (.tmp 7), none, [], false⟩]) (.cond (.tmp 5)
    (.seq (.region [
      ⟨(some 4), .mov (.const (.int .i64 1)), none, [], false⟩]) .ret)
    (.seq (.region [
      ⟨(some 9), .mov (.tmp 0), none, [], false⟩,
      ⟨(some 10), .callV (.func 24) [(.tmp 9)], none, [], false⟩,
      ⟨(some 11), .callV (.func 29) [(.const (.int .i64 4))], none, [], false⟩,
      ⟨(some 12), .callV (.func 28) [(.tmp 10), (.tmp 11)], none, [], false⟩,
      ⟨(some 8), .mov (.tmp 12), none, [], false⟩]) (.cond (.tmp 8)
    (.seq (.region [
      ⟨(some 4), .mov (.const (.int .i64 11)), none, [], false⟩]) .ret)
    (.seq (.region [
      ⟨(some 14), .mov (.tmp 1), none, [], false⟩,
      ⟨(some 15), .bin .lss (so (.binOp .lss 3 (.tmp 14) (.const (.int .i64 0)) 3) 4) (.tmp 14) (.const (.int .i64 0)), none, [], false⟩,
      ⟨(some 16), .mov (.tmp 15), none, [], false⟩,
      ⟨(some 17), .mov (.tmp 1), (some (16, false)), [], false⟩,
      ⟨(some 18), .bin .geq (so (.binOp .geq 3 (.tmp 17) (.const (.int .i64 16)) 3) 4) (.tmp 17) (.const (.int .i64 16)), (some (16, false)), [], false⟩,
      ⟨(some 19), .pick (.tmp 16) (.const (.bool true)) (.tmp 18), none, [], false⟩,
      ⟨(some 20), .mov (.tmp 19), none, [], false⟩,
      ⟨(some 21), .mov (.tmp 0), (some (20, false)), [], false⟩,
      ⟨(some 22), .mov (.tmp 1), (some (20, false)), [], false⟩,
      ⟨(some 23), .nilCheck (.tmp 21), (some (20, false)), [], false⟩,
      ⟨(some 24), .fieldAddr 32 (.tmp 23), (some (20, false)), [], false⟩,
      ⟨(some 25), .indexArr 16 167 (.tmp 24) (.tmp 22), (some (20, false)), [], false⟩,
      ⟨(some 26), .fieldAddr 0 (.tmp 25), (some (20, false)), [], false⟩,
      ⟨(some 27), .load none (.tmp 26), (some (20, false)), [], false⟩,
      ⟨(some 28), .bin .eql (so (.binOp .eql 35 (.tmp 27) (.const (.int .i64 0)) 35) 4) (.tmp 27) (.const (.int .i64 0)), (some (20, false)), [], false⟩,
      ⟨(some 29), .pick (.tmp 20) (.const (.bool true)) (.tmp 28), none, [], false⟩,
      ⟨(some 13), .mov (.tmp 29), none, [], false⟩]) (.cond (.tmp 13)
    (.seq (.region [
      ⟨(some 4), .mov (.const (.int .i64 10)), none, [], false⟩]) .ret)
    (.seq (.region [
      ⟨(some 31), .mov (.tmp 0), none, [], false⟩,
      ⟨(some 32), .mov (.tmp 1), none, [], false⟩,
      ⟨(some 33), .nilCheck (.tmp 31), none, [], false⟩,
      ⟨(some 34), .fieldAddr 32 (.tmp 33), none, [], false⟩,
      ⟨(some 35), .indexArr 16 167 (.tmp 34) (.tmp 32), none, [], false⟩,
      ⟨(some 36), .fieldAddr 0 (.tmp 35), none, [], false⟩,
      ⟨(some 37), .load none (.tmp 36), none, [], false⟩,
      ⟨(some 38), .bin .neq (so (.binOp .neq 35 (.tmp 37) (.const (.int .i64 1)) 35) 4) (.tmp 37) (.const (.int .i64 1)), none, [], false⟩,
      ⟨(some 30), .mov (.tmp 38), none, [], false⟩]) (.cond (.tmp 30)
    (.seq (.region [
      ⟨(some 4), .mov (.const (.int .i64 8)), none, [], false⟩]) .ret)
    .skip))))))))) (.seq (.region [
      ⟨(some 4), .mov (.const (.int .i64 0)), none, [], false⟩]) .ret)))
noncomputable def cross_Cross_may : AFunc := ⟨39, [(4, none)], cross_Cross_may_c, none⟩
theorem cross_Cross_may_t0 : tableOf Try.prog 26 = some cross_Cross_may := by kernel_rfl
theorem cross_Cross_may_t : T0 26 = some cross_Cross_may := withKept_t rfl (withTrue_t rfl cross_Cross_may_t0)
theorem cross_Cross_may_runs {v0 v1 : Value} {h : Heap} {R : RP} {X : XP} (k : RunC Try.prog T0 cross_Cross_may_c ⟨[v0, v1, undef, undef, undef, undef, undef, undef, undef, undef, undef, undef, undef, undef, undef, undef, undef, undef, undef, undef, undef, undef, undef, undef, undef, undef, undef, undef, undef, undef, undef, undef, undef, undef, undef, undef, undef, undef, undef], [], h, none⟩ (bodyQ Try.prog T0 [(4, none)] R X)) :
    Runs Try.prog T0 (.fn 26) [v0, v1] h R X := Runs.fn cross_Cross_may_t rfl k


/-! 27 (*landfall/cross.Cross).off -/
abbrev fn_cross_Cross_off : FuncId := 27
noncomputable def cross_Cross_off_c : ACode :=
  (.seq (.region [
      ⟨(some 2), .mov (.const (.bool false)), none, [], false⟩]) (.seq (.region [
      ⟨(some 3), .mov (.tmp 0), none, [], false⟩,
      ⟨(some 4), .eq .ptr false (so (.binOp .eql 34 (.tmp 3) (.const (.pointer none)) 34) 4) (.tmp 3) (.const (.pointer none)), none, [], false⟩,
      ⟨(some 5), .mov (.tmp 4), none, [], false⟩,
      ⟨(some 6), .mov (.tmp 0), (some (5, false)), [], false⟩,
      ⟨(some 7), .nilCheck (.tmp 6), (some (5, false)), [], false⟩,
      ⟨(some 8), .fieldAddr 2704 (.tmp 7), (some (5, false)), [], false⟩,
      ⟨(some 9), .load none (.tmp 8), (some (5, false)), [], false⟩,
      ⟨(some 10), .raw (so (.unOp .not 4 (.tmp 9)) 4), (some (5, false)), [], false⟩,
      ⟨(some 11), .pick (.tmp 5) (.const (.bool true)) (.tmp 10), none, [], false⟩,
      ⟨(some 2), .mov (.tmp 11), none, [], false⟩]) .ret))
noncomputable def cross_Cross_off : AFunc := ⟨12, [(2, none)], cross_Cross_off_c, none⟩
theorem cross_Cross_off_t0 : tableOf Try.prog 27 = some cross_Cross_off := by kernel_rfl
theorem cross_Cross_off_t : T0 27 = some cross_Cross_off := withKept_t rfl (withTrue_t rfl cross_Cross_off_t0)
theorem cross_Cross_off_runs {v0 : Value} {h : Heap} {R : RP} {X : XP} (k : RunC Try.prog T0 cross_Cross_off_c ⟨[v0, undef, undef, undef, undef, undef, undef, undef, undef, undef, undef, undef], [], h, none⟩ (bodyQ Try.prog T0 [(2, none)] R X)) :
    Runs Try.prog T0 (.fn 27) [v0] h R X := Runs.fn cross_Cross_off_t rfl k


/-! 30 landfall/landfallkit.SameCommit -/
abbrev fn_landfallkit_SameCommit : FuncId := 30
noncomputable def landfallkit_SameCommit_c : ACode :=
  (.seq (.region [
      ⟨(some 2), .box 28 (.tmp 0), none, [], false⟩,
      ⟨(some 3), .box 28 (.tmp 1), none, [], false⟩,
      ⟨(some 4), .mov (.const (.bool false)), none, [], false⟩]) (.seq (.region [
      ⟨(some 5), .fieldAddr 0 (.tmp 2), none, [], false⟩,
      ⟨(some 6), .load none (.tmp 5), none, [], false⟩,
      ⟨(some 7), .fieldAddr 0 (.tmp 3), none, [], false⟩,
      ⟨(some 8), .load none (.tmp 7), none, [], false⟩,
      ⟨(some 9), .bin .eql (so (.binOp .eql 3 (.tmp 6) (.tmp 8) 3) 4) (.tmp 6) (.tmp 8), none, [], false⟩,
      ⟨(some 10), .mov (.tmp 9), none, [], false⟩,
      ⟨(some 11), .fieldAddr 1 (.tmp 2), (some (10, true)), [], false⟩,
      ⟨(some 12), .load (some 32) (.tmp 11), (some (10, true)), [], false⟩,
      ⟨(some 13), .fieldAddr 1 (.tmp 3), (some (10, true)), [], false⟩,
      ⟨(some 14), .load (some 32) (.tmp 13), (some (10, true)), [], false⟩,
      ⟨(some 15), .bin .eql (so (.binOp .eql 23 (.tmp 12) (.tmp 14) 23) 4) (.tmp 12) (.tmp 14), (some (10, true)), [], false⟩,
      ⟨(some 16), .pick (.tmp 10) (.tmp 15) (.const (.bool false)), none, [], false⟩,
      ⟨(some 17), .mov (.tmp 16), none, [], false⟩,
      ⟨(some 18), .fieldAddr 33 (.tmp 2), (some (17, true)), [], false⟩,
      ⟨(some 19), .load none (.tmp 18), (some (17, true)), [], false⟩,
      ⟨(some 20), .fieldAddr 33 (.tmp 3), (some (17, true)), [], false⟩,
      ⟨(some 21), .load none (.tmp 20), (some (17, true)), [], false⟩,
      ⟨(some 22), .callV (.func 37) [(.tmp 19), (.tmp 21)], (some (17, true)), [], false⟩,
      ⟨(some 23), .pick (.tmp 17) (.tmp 22) (.const (.bool false)), none, [], false⟩,
      ⟨(some 4), .mov (.tmp 23), none, [], false⟩]) .ret))
noncomputable def landfallkit_SameCommit : AFunc := ⟨24, [(4, none)], landfallkit_SameCommit_c, none⟩
theorem landfallkit_SameCommit_t0 : tableOf Try.prog 30 = some landfallkit_SameCommit := by kernel_rfl
theorem landfallkit_SameCommit_t : T0 30 = some landfallkit_SameCommit := withKept_t rfl (withTrue_t rfl landfallkit_SameCommit_t0)
theorem landfallkit_SameCommit_runs {v0 v1 : Value} {h : Heap} {R : RP} {X : XP} (k : RunC Try.prog T0 landfallkit_SameCommit_c ⟨[v0, v1, undef, undef, undef, undef, undef, undef, undef, undef, undef, undef, undef, undef, undef, undef, undef, undef, undef, undef, undef, undef, undef, undef], [], h, none⟩ (bodyQ Try.prog T0 [(4, none)] R X)) :
    Runs Try.prog T0 (.fn 30) [v0, v1] h R X := Runs.fn landfallkit_SameCommit_t rfl k


/-! 31 landfall/landfallkit.SameVals -/
abbrev fn_landfallkit_SameVals : FuncId := 31
noncomputable def landfallkit_SameVals_l0 : ACode :=
  (.seq (.seq (.region [
      ⟨(some 12), .mov (.tmp 5), none, [], false⟩,
      ⟨(some 13), .mov (.tmp 12), none, [], false⟩,
      ⟨(some 14), .mov (.tmp 6), (some (13, true)), [], false⟩,
      ⟨(some 15), .mov (.tmp 0), (some (13, true)), [], false⟩,
      ⟨(some 16), .lenSl (.tmp 15), (some (13, true)), [], false⟩,
      ⟨(some 17), .bin .lss (so (.binOp .lss 3 (.tmp 14) (.tmp 16) 3) 4) (.tmp 14) (.tmp 16), (some (13, true)), [], false⟩,
      ⟨(some 18), .pick (.tmp 13) (.tmp 17) (.const (.bool false)), none, [], false⟩]) (.cond (.tmp 18)
    .skip
    (.exit 0))) (.seq (.block 1 (.regionD [
      ⟨(some 21), .mov (.tmp 0), none, [], false⟩,
      ⟨(some 22), .mov (.tmp 6), none, [], false⟩,
      ⟨(some 23), .indexSl 5 (.tmp 21) (.tmp 22), none, [], false⟩,
      ⟨(some 24), .load (some 5) (.tmp 23), none, [], false⟩,
      ⟨(some 25), .mov (.tmp 1), none, [], false⟩,
      ⟨(some 26), .mov (.tmp 6), none, [], false⟩,
      ⟨(some 27), .indexSl 5 (.tmp 25) (.tmp 26), none, [], false⟩,
      ⟨(some 28), .load (some 5) (.tmp 27), none, [], false⟩,
      ⟨(some 29), .bin .eql (so (.binOp .eql 81 (.tmp 24) (.tmp 28) 81) 4) (.tmp 24) (.tmp 28), none, [], true⟩,
      ⟨(some 5), .mov (.tmp 29), none, [], true⟩])) (.region [
      ⟨(some 19), .mov (.tmp 6), none, [], false⟩,
      ⟨(some 20), .bin .add (so (.binOp .add 3 (.tmp 19) (.const (.int .i64 1)) 3) 3) (.tmp 19) (.const (.int .i64 1)), none, [], false⟩,
      ⟨(some 6), .mov (.tmp 20), none, [], false⟩])))
noncomputable def landfallkit_SameVals_c : ACode :=
  (.seq (.region [
      ⟨(some 4), .mov (.const (.bool false)), none, [], false⟩]) (.seq (.region [
      ⟨(some 7), .mov (.tmp 0), none, [], false⟩,
      ⟨(some 8), .lenSl (.tmp 7), none, [], false⟩,
      ⟨(some 9), .mov (.tmp 1), none, [], false⟩,
      ⟨(some 10), .lenSl (.tmp 9), none, [], false⟩,
      ⟨(some 11), .bin .eql (so (.binOp .eql 3 (.tmp 8) (.tmp 10) 3) 4) (.tmp 8) (.tmp 10), none, [], false⟩,
      ⟨(some 5), .mov (.tmp 11), none, [], false⟩]) (.seq (.seq (.region [
      ⟨(some 6), .mov (.const (.int .i64 0)), none, [], false⟩]) (.block 0 (.loop landfallkit_SameVals_l0))) (.seq (.region [
      ⟨(some 30), .mov (.tmp 5), none, [], false⟩,
      ⟨(some 4), .mov (.tmp 30), none, [], false⟩]) .ret))))
noncomputable def landfallkit_SameVals : AFunc := ⟨31, [(4, none)], landfallkit_SameVals_c, none⟩
theorem landfallkit_SameVals_t0 : tableOf Try.prog 31 = some landfallkit_SameVals := by kernel_rfl
theorem landfallkit_SameVals_t : T0 31 = some landfallkit_SameVals := withKept_t rfl (withTrue_t rfl landfallkit_SameVals_t0)
theorem landfallkit_SameVals_runs {v0 v1 : Value} {h : Heap} {R : RP} {X : XP} (k : RunC Try.prog T0 landfallkit_SameVals_c ⟨[v0, v1, undef, undef, undef, undef, undef, undef, undef, undef, undef, undef, undef, undef, undef, undef, undef, undef, undef, undef, undef, undef, undef, undef, undef, undef, undef, undef, undef, undef, undef], [], h, none⟩ (bodyQ Try.prog T0 [(4, none)] R X)) :
    Runs Try.prog T0 (.fn 31) [v0, v1] h R X := Runs.fn landfallkit_SameVals_t rfl k
/-- the slots that turn in the loop: v5 v6 -/
noncomputable def landfallkit_SameVals_l0_J (f0 f1 f2 f3 f4 f7 f8 f9 f10 f11 f30 : Value) (ds : List Deferred) (rd : Option Nat) (I : Nat → Value → Value → Heap → Prop) (m : Nat) (s : St) : Prop := ∃ (v5 v6 : Value), ∃ h : Heap, ∃ (x12 x13 x14 x15 x16 x17 x18 x19 x20 x21 x22 x23 x24 x25 x26 x27 x28 x29 : Value), s = ⟨[f0, f1, f2, f3, f4, v5, v6, f7, f8, f9, f10, f11, x12, x13, x14, x15, x16, x17, x18, x19, x20, x21, x22, x23, x24, x25, x26, x27, x28, x29, f30], ds, h, rd⟩ ∧ I m v5 v6 h
theorem landfallkit_SameVals_l0_rule {f0 f1 f2 f3 f4 f7 f8 f9 f10 f11 f30 : Value} {ds : List Deferred} {rd : Option Nat} {Q : QP} (I : Nat → Value → Value → Heap → Prop) (hb : ∀ (m : Nat) (v5 v6 : Value) (h : Heap) (x12 x13 x14 x15 x16 x17 x18 x19 x20 x21 x22 x23 x24 x25 x26 x27 x28 x29 : Value) , I m v5 v6 h → RunC Try.prog T0 landfallkit_SameVals_l0 ⟨[f0, f1, f2, f3, f4, v5, v6, f7, f8, f9, f10, f11, x12, x13, x14, x15, x16, x17, x18, x19, x20, x21, x22, x23, x24, x25, x26, x27, x28, x29, f30], ds, h, rd⟩ (loopQ (landfallkit_SameVals_l0_J f0 f1 f2 f3 f4 f7 f8 f9 f10 f11 f30 ds rd I) m Q))
    (m : Nat) {v5 v6 : Value} {h : Heap} {x12 x13 x14 x15 x16 x17 x18 x19 x20 x21 x22 x23 x24 x25 x26 x27 x28 x29 : Value} (hi : I m v5 v6 h) : RunC Try.prog T0 (.loop landfallkit_SameVals_l0) ⟨[f0, f1, f2, f3, f4, v5, v6, f7, f8, f9, f10, f11, x12, x13, x14, x15, x16, x17, x18, x19, x20, x21, x22, x23, x24, x25, x26, x27, x28, x29, f30], ds, h, rd⟩ Q :=
  RunC.loopJ (landfallkit_SameVals_l0_J f0 f1 f2 f3 f4 f7 f8 f9 f10 f11 f30 ds rd I) (fun m s hj => by obtain ⟨v5, v6, h, x12, x13, x14, x15, x16, x17, x18, x19, x20, x21, x22, x23, x24, x25, x26, x27, x28, x29, rfl, hi⟩ := hj; exact hb m v5 v6 h x12 x13 x14 x15 x16 x17 x18 x19 x20 x21 x22 x23 x24 x25 x26 x27 x28 x29 hi) m _ ⟨_, _, h, _, _, _, _, _, _, _, _, _, _, _, _, _, _, _, _, _, _, rfl, hi⟩
theorem landfallkit_SameVals_l0_again {f0 f1 f2 f3 f4 f7 f8 f9 f10 f11 f30 : Value} {ds : List Deferred} {rd : Option Nat} {Q : QP} {I : Nat → Value → Value → Heap → Prop} {m : Nat} (m' : Nat) {v5 v6 : Value} {h : Heap} {x12 x13 x14 x15 x16 x17 x18 x19 x20 x21 x22 x23 x24 x25 x26 x27 x28 x29 : Value} (hm : m' < m) (hi : I m' v5 v6 h) : loopQ (landfallkit_SameVals_l0_J f0 f1 f2 f3 f4 f7 f8 f9 f10 f11 f30 ds rd I) m Q .normal ⟨[f0, f1, f2, f3, f4, v5, v6, f7, f8, f9, f10, f11, x12, x13, x14, x15, x16, x17, x18, x19, x20, x21, x22, x23, x24, x25, x26, x27, x28, x29, f30], ds, h, rd⟩ :=
  loopQ.again m' hm ⟨_, _, h, _, _, _, _, _, _, _, _, _, _, _, _, _, _, _, _, _, _, rfl, hi⟩

/-! 33 (*landfall/cross.Cross).all$1 -/
abbrev fn_cross_Cross_all_1 : FuncId := 33
noncomputable def cross_Cross_all_1_l0 : ACode :=
  (.seq (.region [
      ⟨(some 12), .bin .lss (so (.binOp .lss 3 (.tmp 11) (.const (.int .i64 16)) 3) 0) (.tmp 11) (.const (.int .i64 16)), none, [], false⟩]) (.seq (.cond (.tmp 12)
    .skip
    (.exit 0)) (.seq (.block 1 (.seq (.region [
      ⟨(some 13), .mov (.tmp 11), none, [], false⟩,
      ⟨(some 14), .index 16 167 (some 167) (.tmp 10) (.tmp 11), none, [], false⟩,
      ⟨(some 4), .alloc 37 ((.int .i64 0) :: ((.string ⟨⟨[]⟩⟩) :: ((.int .i64 0) :: ((.int .i64 0) :: (z32 ++ (z32 ++ (z32 ++ (z32 ++ ((.int .i64 0) :: (z32 ++ [(.slice none 0 0), (.slice none 0 0)])))))))))), none, [], false⟩,
      ⟨(some 3), .mov (.tmp 13), none, [], false⟩,
      ⟨none, .store 167 (.tmp 4) (.tmp 14), none, [], false⟩]) (.seq (.region [
      ⟨(some 15), .fieldAddr 0 (.tmp 4), none, [], false⟩,
      ⟨(some 16), .load none (.tmp 15), none, [], false⟩,
      ⟨(some 17), .bin .neq (so (.binOp .neq 35 (.tmp 16) (.const (.int .i64 0)) 35) 4) (.tmp 16) (.const (.int .i64 0)), none, [], false⟩,
      ⟨(some 18), .mov (.tmp 17), none, [], false⟩,
      ⟨(some 19), .mov (.tmp 0), (some (18, true)), [], false⟩,
      ⟨(some 20), .mov (.tmp 3), (some (18, true)), [], false⟩,
      ⟨(some 21), .load (some 167) (.tmp 4), (some (18, true)), [], false⟩,
      ⟨(some 22), .callV (.tmp 19) [(.tmp 20), (.tmp 21)], (some (18, true)), [], false⟩,
      ⟨(some 23), .raw (so (.unOp .not 4 (.tmp 22)) 4), (some (18, true)), [], false⟩,
      ⟨(some 24), .pick (.tmp 18) (.tmp 23) (.const (.bool false)), none, [], false⟩]) (.cond (.tmp 24)
    .ret
    .skip)))) (.region [
      ⟨(some 25), .bin .add (so (.binOp .add 3 (.tmp 11) (.const (.int .i64 1)) 3) 3) (.tmp 11) (.const (.int .i64 1)), none, [], false⟩,
      ⟨(some 11), .mov (.tmp 25), none, [], false⟩]))))
noncomputable def cross_Cross_all_1_c : ACode :=
  (.seq (.seq (.region [
      ⟨(some 5), .load none (.tmp 1), none, [], false⟩,
      ⟨(some 6), .callV (.func 27) [(.tmp 5)], none, [], false⟩]) (.cond (.tmp 6)
    .ret
    .skip)) (.seq (.region [
      ⟨(some 7), .load none (.tmp 1), none, [], false⟩,
      ⟨(some 8), .nilCheck (.tmp 7), none, [], false⟩,
      ⟨(some 9), .fieldAddr 32 (.tmp 8), none, [], false⟩,
      ⟨(some 10), .load (some 2672) (.tmp 9), none, [], false⟩,
      ⟨(some 11), .mov (.const (.int .i64 0)), none, [], false⟩]) (.block 0 (.loop cross_Cross_all_1_l0))))
noncomputable def cross_Cross_all_1 : AFunc := ⟨26, [], cross_Cross_all_1_c, none⟩
theorem cross_Cross_all_1_t0 : tableOf Try.prog 33 = some cross_Cross_all_1 := by kernel_rfl
theorem cross_Cross_all_1_t : T0 33 = some cross_Cross_all_1 := withKept_t rfl (withTrue_t rfl cross_Cross_all_1_t0)
theorem cross_Cross_all_1_runs {v0 v1 : Value} {h : Heap} {R : RP} {X : XP} (k : RunC Try.prog T0 cross_Cross_all_1_c ⟨[v0, v1, undef, undef, undef, undef, undef, undef, undef, undef, undef, undef, undef, undef, undef, undef, undef, undef, undef, undef, undef, undef, undef, undef, undef, undef], [], h, none⟩ (bodyQ Try.prog T0 [] R X)) :
    Runs Try.prog T0 (.fn 33) [v0, v1] h R X := Runs.fn cross_Cross_all_1_t rfl k
/-- the slots that turn in the loop: v11 -/
noncomputable def cross_Cross_all_1_l0_J (f0 f1 f2 f5 f6 f7 f8 f9 f10 : Value) (ds : List Deferred) (rd : Option Nat) (I : Nat → Value → Heap → Prop) (m : Nat) (s : St) : Prop := ∃ (v11 : Value), ∃ h : Heap, ∃ (x3 x4 x12 x13 x14 x15 x16 x17 x18 x19 x20 x21 x22 x23 x24 x25 : Value), s = ⟨[f0, f1, f2, x3, x4, f5, f6, f7, f8, f9, f10, v11, x12, x13, x14, x15, x16, x17, x18, x19, x20, x21, x22, x23, x24, x25], ds, h, rd⟩ ∧ I m v11 h
theorem cross_Cross_all_1_l0_rule {f0 f1 f2 f5 f6 f7 f8 f9 f10 : Value} {ds : List Deferred} {rd : Option Nat} {Q : QP} (I : Nat → Value → Heap → Prop) (hb : ∀ (m : Nat) (v11 : Value) (h : Heap) (x3 x4 x12 x13 x14 x15 x16 x17 x18 x19 x20 x21 x22 x23 x24 x25 : Value) , I m v11 h → RunC Try.prog T0 cross_Cross_all_1_l0 ⟨[f0, f1, f2, x3, x4, f5, f6, f7, f8, f9, f10, v11, x12, x13, x14, x15, x16, x17, x18, x19, x20, x21, x22, x23, x24, x25], ds, h, rd⟩ (loopQ (cross_Cross_all_1_l0_J f0 f1 f2 f5 f6 f7 f8 f9 f10 ds rd I) m Q))
    (m : Nat) {v11 : Value} {h : Heap} {x3 x4 x12 x13 x14 x15 x16 x17 x18 x19 x20 x21 x22 x23 x24 x25 : Value} (hi : I m v11 h) : RunC Try.prog T0 (.loop cross_Cross_all_1_l0) ⟨[f0, f1, f2, x3, x4, f5, f6, f7, f8, f9, f10, v11, x12, x13, x14, x15, x16, x17, x18, x19, x20, x21, x22, x23, x24, x25], ds, h, rd⟩ Q :=
  RunC.loopJ (cross_Cross_all_1_l0_J f0 f1 f2 f5 f6 f7 f8 f9 f10 ds rd I) (fun m s hj => by obtain ⟨v11, h, x3, x4, x12, x13, x14, x15, x16, x17, x18, x19, x20, x21, x22, x23, x24, x25, rfl, hi⟩ := hj; exact hb m v11 h x3 x4 x12 x13 x14 x15 x16 x17 x18 x19 x20 x21 x22 x23 x24 x25 hi) m _ ⟨_, h, _, _, _, _, _, _, _, _, _, _, _, _, _, _, _, _, rfl, hi⟩
theorem cross_Cross_all_1_l0_again {f0 f1 f2 f5 f6 f7 f8 f9 f10 : Value} {ds : List Deferred} {rd : Option Nat} {Q : QP} {I : Nat → Value → Heap → Prop} {m : Nat} (m' : Nat) {v11 : Value} {h : Heap} {x3 x4 x12 x13 x14 x15 x16 x17 x18 x19 x20 x21 x22 x23 x24 x25 : Value} (hm : m' < m) (hi : I m' v11 h) : loopQ (cross_Cross_all_1_l0_J f0 f1 f2 f5 f6 f7 f8 f9 f10 ds rd I) m Q .normal ⟨[f0, f1, f2, x3, x4, f5, f6, f7, f8, f9, f10, v11, x12, x13, x14, x15, x16, x17, x18, x19, x20, x21, x22, x23, x24, x25], ds, h, rd⟩ :=
  loopQ.again m' hm ⟨_, h, _, _, _, _, _, _, _, _, _, _, _, _, _, _, _, _, rfl, hi⟩

/-! 37 landfall/landfallkit.SameVotes -/
abbrev fn_landfallkit_SameVotes : FuncId := 37
noncomputable def landfallkit_SameVotes_l0 : ACode :=
  (.seq (.seq (.region [
      ⟨(some 12), .mov (.tmp 5), none, [], false⟩,
      ⟨(some 13), .mov (.tmp 12), none, [], false⟩,
      ⟨(some 14), .mov (.tmp 6), (some (13, true)), [], false⟩,
      ⟨(some 15), .mov (.tmp 0), (some (13, true)), [], false⟩,
      ⟨(some 16), .lenSl (.tmp 15), (some (13, true)), [], false⟩,
      ⟨(some 17), .bin .lss (so (.binOp .lss 3 (.tmp 14) (.tmp 16) 3) 4) (.tmp 14) (.tmp 16), (some (13, true)), [], false⟩,
      ⟨(some 18), .pick (.tmp 13) (.tmp 17) (.const (.bool false)), none, [], false⟩]) (.cond (.tmp 18)
    .skip
    (.exit 0))) (.seq (.block 1 (.regionD [
      ⟨(some 21), .mov (.tmp 0), none, [], false⟩,
      ⟨(some 22), .mov (.tmp 6), none, [], false⟩,
      ⟨(some 23), .indexSl 2 (.tmp 21) (.tmp 22), none, [], false⟩,
      ⟨(some 24), .load (some 2) (.tmp 23), none, [], false⟩,
      ⟨(some 25), .mov (.tmp 1), none, [], false⟩,
      ⟨(some 26), .mov (.tmp 6), none, [], false⟩,
      ⟨(some 27), .indexSl 2 (.tmp 25) (.tmp 26), none, [], false⟩,
      ⟨(some 28), .load (some 2) (.tmp 27), none, [], false⟩,
      ⟨(some 29), .bin .eql (so (.binOp .eql 87 (.tmp 24) (.tmp 28) 87) 4) (.tmp 24) (.tmp 28), none, [], true⟩,
      ⟨(some 5), .mov (.tmp 29), none, [], true⟩])) (.region [
      ⟨(some 19), .mov (.tmp 6), none, [], false⟩,
      ⟨(some 20), .bin .add (so (.binOp .add 3 (.tmp 19) (.const (.int .i64 1)) 3) 3) (.tmp 19) (.const (.int .i64 1)), none, [], false⟩,
      ⟨(some 6), .mov (.tmp 20), none, [], false⟩])))
noncomputable def landfallkit_SameVotes_c : ACode :=
  (.seq (.region [
      ⟨(some 4), .mov (.const (.bool false)), none, [], false⟩]) (.seq (.region [
      ⟨(some 7), .mov (.tmp 0), none, [], false⟩,
      ⟨(some 8), .lenSl (.tmp 7), none, [], false⟩,
      ⟨(some 9), .mov (.tmp 1), none, [], false⟩,
      ⟨(some 10), .lenSl (.tmp 9), none, [], false⟩,
      ⟨(some 11), .bin .eql (so (.binOp .eql 3 (.tmp 8) (.tmp 10) 3) 4) (.tmp 8) (.tmp 10), none, [], false⟩,
      ⟨(some 5), .mov (.tmp 11), none, [], false⟩]) (.seq (.seq (.region [
      ⟨(some 6), .mov (.const (.int .i64 0)), none, [], false⟩]) (.block 0 (.loop landfallkit_SameVotes_l0))) (.seq (.region [
      ⟨(some 30), .mov (.tmp 5), none, [], false⟩,
      ⟨(some 4), .mov (.tmp 30), none, [], false⟩]) .ret))))
noncomputable def landfallkit_SameVotes : AFunc := ⟨31, [(4, none)], landfallkit_SameVotes_c, none⟩
theorem landfallkit_SameVotes_t0 : tableOf Try.prog 37 = some landfallkit_SameVotes := by kernel_rfl
theorem landfallkit_SameVotes_t : T0 37 = some landfallkit_SameVotes := withKept_t rfl (withTrue_t rfl landfallkit_SameVotes_t0)
theorem landfallkit_SameVotes_runs {v0 v1 : Value} {h : Heap} {R : RP} {X : XP} (k : RunC Try.prog T0 landfallkit_SameVotes_c ⟨[v0, v1, undef, undef, undef, undef, undef, undef, undef, undef, undef, undef, undef, undef, undef, undef, undef, undef, undef, undef, undef, undef, undef, undef, undef, undef, undef, undef, undef, undef, undef], [], h, none⟩ (bodyQ Try.prog T0 [(4, none)] R X)) :
    Runs Try.prog T0 (.fn 37) [v0, v1] h R X := Runs.fn landfallkit_SameVotes_t rfl k
/-- the slots that turn in the loop: v5 v6 -/
noncomputable def landfallkit_SameVotes_l0_J (f0 f1 f2 f3 f4 f7 f8 f9 f10 f11 f30 : Value) (ds : List Deferred) (rd : Option Nat) (I : Nat → Value → Value → Heap → Prop) (m : Nat) (s : St) : Prop := ∃ (v5 v6 : Value), ∃ h : Heap, ∃ (x12 x13 x14 x15 x16 x17 x18 x19 x20 x21 x22 x23 x24 x25 x26 x27 x28 x29 : Value), s = ⟨[f0, f1, f2, f3, f4, v5, v6, f7, f8, f9, f10, f11, x12, x13, x14, x15, x16, x17, x18, x19, x20, x21, x22, x23, x24, x25, x26, x27, x28, x29, f30], ds, h, rd⟩ ∧ I m v5 v6 h
theorem landfallkit_SameVotes_l0_rule {f0 f1 f2 f3 f4 f7 f8 f9 f10 f11 f30 : Value} {ds : List Deferred} {rd : Option Nat} {Q : QP} (I : Nat → Value → Value → Heap → Prop) (hb : ∀ (m : Nat) (v5 v6 : Value) (h : Heap) (x12 x13 x14 x15 x16 x17 x18 x19 x20 x21 x22 x23 x24 x25 x26 x27 x28 x29 : Value) , I m v5 v6 h → RunC Try.prog T0 landfallkit_SameVotes_l0 ⟨[f0, f1, f2, f3, f4, v5, v6, f7, f8, f9, f10, f11, x12, x13, x14, x15, x16, x17, x18, x19, x20, x21, x22, x23, x24, x25, x26, x27, x28, x29, f30], ds, h, rd⟩ (loopQ (landfallkit_SameVotes_l0_J f0 f1 f2 f3 f4 f7 f8 f9 f10 f11 f30 ds rd I) m Q))
    (m : Nat) {v5 v6 : Value} {h : Heap} {x12 x13 x14 x15 x16 x17 x18 x19 x20 x21 x22 x23 x24 x25 x26 x27 x28 x29 : Value} (hi : I m v5 v6 h) : RunC Try.prog T0 (.loop landfallkit_SameVotes_l0) ⟨[f0, f1, f2, f3, f4, v5, v6, f7, f8, f9, f10, f11, x12, x13, x14, x15, x16, x17, x18, x19, x20, x21, x22, x23, x24, x25, x26, x27, x28, x29, f30], ds, h, rd⟩ Q :=
  RunC.loopJ (landfallkit_SameVotes_l0_J f0 f1 f2 f3 f4 f7 f8 f9 f10 f11 f30 ds rd I) (fun m s hj => by obtain ⟨v5, v6, h, x12, x13, x14, x15, x16, x17, x18, x19, x20, x21, x22, x23, x24, x25, x26, x27, x28, x29, rfl, hi⟩ := hj; exact hb m v5 v6 h x12 x13 x14 x15 x16 x17 x18 x19 x20 x21 x22 x23 x24 x25 x26 x27 x28 x29 hi) m _ ⟨_, _, h, _, _, _, _, _, _, _, _, _, _, _, _, _, _, _, _, _, _, rfl, hi⟩
theorem landfallkit_SameVotes_l0_again {f0 f1 f2 f3 f4 f7 f8 f9 f10 f11 f30 : Value} {ds : List Deferred} {rd : Option Nat} {Q : QP} {I : Nat → Value → Value → Heap → Prop} {m : Nat} (m' : Nat) {v5 v6 : Value} {h : Heap} {x12 x13 x14 x15 x16 x17 x18 x19 x20 x21 x22 x23 x24 x25 x26 x27 x28 x29 : Value} (hm : m' < m) (hi : I m' v5 v6 h) : loopQ (landfallkit_SameVotes_l0_J f0 f1 f2 f3 f4 f7 f8 f9 f10 f11 f30 ds rd I) m Q .normal ⟨[f0, f1, f2, f3, f4, v5, v6, f7, f8, f9, f10, f11, x12, x13, x14, x15, x16, x17, x18, x19, x20, x21, x22, x23, x24, x25, x26, x27, x28, x29, f30], ds, h, rd⟩ :=
  loopQ.again m' hm ⟨_, _, h, _, _, _, _, _, _, _, _, _, _, _, _, _, _, _, _, _, _, rfl, hi⟩


end Go.Proofs.Ytlckmpioipiihaa.A
