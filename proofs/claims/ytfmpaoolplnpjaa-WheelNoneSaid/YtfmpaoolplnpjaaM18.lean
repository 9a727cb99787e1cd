/- Functions of the program, as the machine has them: written by a program of mine (GenVm.lean), each held against the given program by the kernel. -/
import Derived.Test.YtfmpaoolplnpjaaRows
import Derived.Test.YtfmpaoolplnpjaaVJ
set_option maxRecDepth 100000
set_option linter.unusedVariables false
namespace Go.Proofs.Ytfmpaoolplnpjaa.A
open Go Go.Vm

abbrev ty_internal_abi_BoundsErrorCode : TypeId := 6
abbrev ty_runtime_boundsError : TypeId := 8
abbrev ty_runtime_errorString : TypeId := 10
abbrev ty_runtime_plainError : TypeId := 11
abbrev ty_runtime_errorAddressString : TypeId := 14
abbrev ty_internal_runtime_maps_unhashableTypeError : TypeId := 19
abbrev ty_api_Errno : TypeId := 24
abbrev ty_api_Timer : TypeId := 33
abbrev ty_landfalllaw18_Act : TypeId := 50
abbrev ty_landfallref18_Wheel : TypeId := 54
abbrev ty_wheel_slot : TypeId := 58
abbrev ty_wheel_Wheel : TypeId := 62
abbrev ty_iter_Seq__api_Timer_ : TypeId := 79
abbrev ty_container_heap_Interface : TypeId := 82
abbrev ty_slices_sortedHint : TypeId := 97
abbrev ty_slices_xorshift : TypeId := 107
abbrev ty_runtime_TypeAssertionError : TypeId := 118
abbrev ty_runtime_PanicNilError : TypeId := 121
abbrev ty_internal_abi_TFlag : TypeId := 122
abbrev ty_internal_abi_Kind : TypeId := 123
abbrev ty_internal_abi_NameOff : TypeId := 126
abbrev ty_internal_abi_TypeOff : TypeId := 127
abbrev ty_internal_abi_Type : TypeId := 129
instance : IsIface Try.prog 20 := ⟨by kernel_rfl⟩
instance : IsIface Try.prog 81 := ⟨by kernel_rfl⟩
instance : IsIface Try.prog 82 := ⟨by kernel_rfl⟩
/-- functions that are known to come to true -/
abbrev prims : List FuncId := [17]
abbrev kepts : List FuncId := []
noncomputable def T0 : Table := withKept (withTrue Try.prog prims) kepts
abbrev fn_landfalllaw18_awake : FuncId := 17
theorem landfalllaw18_awake_known {h : Heap} : Runs Try.prog T0 (.fn 17) [] h (fun r h' => r = .bool true ∧ h' = h) (fun _ _ => False) := known_runs rfl
instance : IsBoolT Try.prog 4 := ⟨by kernel_rfl⟩
instance : TLeaves Try.prog 7 (.i .i64 :: (.i .i64 :: (.b :: (.i .u8 :: [])))) := ⟨by kernel_rfl, by kernel_rfl, by kernel_rfl⟩
instance : TLeaves Try.prog 8 (.i .i64 :: (.i .i64 :: (.b :: (.i .u8 :: [])))) := ⟨by kernel_rfl, by kernel_rfl, by kernel_rfl⟩
instance : TLeaves Try.prog 32 (.i .i64 :: (.i .i64 :: [])) := ⟨by kernel_rfl, by kernel_rfl, by kernel_rfl⟩
instance : TLeaves Try.prog 33 (.i .i64 :: (.i .i64 :: [])) := ⟨by kernel_rfl, by kernel_rfl, by kernel_rfl⟩
instance : TLeaves Try.prog 49 (.i .i64 :: (.i .i64 :: (.i .i64 :: []))) := ⟨by kernel_rfl, by kernel_rfl, by kernel_rfl⟩
instance : TLeaves Try.prog 50 (.i .i64 :: (.i .i64 :: (.i .i64 :: []))) := ⟨by kernel_rfl, by kernel_rfl, by kernel_rfl⟩

/-! 6 landfall/landfalllaw18.WheelNone -/
abbrev fn_landfalllaw18_WheelNone : FuncId := 6
noncomputable def landfalllaw18_WheelNone_l0 : ACode :=
  (.seq (.seq (.region [
      ⟨(some 15), .mov (.tmp 6), none, [], false⟩,
      ⟨(some 16), .mov (.tmp 5), none, [], false⟩,
      ⟨(some 17), .lenSl (.tmp 16), none, [], false⟩,
      ⟨(some 18), .bin .lss (so (.binOp .lss 3 (.tmp 15) (.tmp 17) 3) 4) (.tmp 15) (.tmp 17), none, [], false⟩]) (.cond (.tmp 18)
    .skip
    (.exit 0))) (.seq (.block 1 (.seq (.region [
      ⟨(some 21), .mov (.tmp 5), none, [], false⟩,
      ⟨(some 22), .mov (.tmp 6), none, [], false⟩,
      ⟨(some 23), .indexSl 1 (.tmp 21) (.tmp 22), none, [], false⟩,
      ⟨(some 24), .load none (.tmp 23), none, [], false⟩,
      ⟨(some 7), .mov (.tmp 24), none, [], false⟩]) (.seq (.region [
      ⟨(some 26), .mov (.tmp 7), none, [], false⟩,
      ⟨(some 27), .mov (.tmp 0), none, [], false⟩,
      ⟨(some 28), .callV (.func 16) [(.tmp 26), (.tmp 27)], none, [], false⟩,
      ⟨(some 25), .mov (.tmp 28), none, [], false⟩,
      ⟨(some 29), .extract 0 (.tmp 25), none, [], false⟩,
      ⟨(some 30), .extract 1 (.tmp 25), none, [], false⟩,
      ⟨(some 8), .mov (.tmp 29), none, [], false⟩,
      ⟨(some 9), .mov (.tmp 30), none, [], false⟩]) (.seq (.region [
      ⟨(some 32), .mov (.tmp 7), none, [], false⟩,
      ⟨(some 33), .callV (.func 10) [(.tmp 32)], none, [], false⟩,
      ⟨(some 31), .mov (.tmp 33), none, [], false⟩,
      ⟨(some 34), .extract 0 (.tmp 31), none, [], false⟩,
      ⟨(some 35), .extract 1 (.tmp 31), none, [], false⟩,
      ⟨(some 10), .mov (.tmp 34), none, [], false⟩,
      ⟨(some 11), .mov (.tmp 35), none, [], false⟩]) (.seq (.region [
      ⟨(some 36), .mov (.tmp 7), none, [], false⟩,
      ⟨(some 37), .mov (.tmp 0), none, [], false⟩,
      ⟨(some 38), .mov (.tmp 1), none, [], false⟩,
      ⟨(some 39), .callV (.func 14) [(.tmp 36), (.tmp 37), (.tmp 38)], none, [], false⟩,
      ⟨(some 40), .bin .neq (so (.binOp .neq 24 (.tmp 39) (.const (.int .i64 1)) 24) 4) (.tmp 39) (.const (.int .i64 1)), none, [], false⟩,
      ⟨(some 41), .mov (.tmp 40), none, [], false⟩,
      ⟨(some 42), .mov (.tmp 7), (some (41, false)), [], false⟩,
      ⟨(some 43), .mov (.tmp 0), (some (41, false)), [], false⟩,
      ⟨(some 44), .callV (.func 15) [(.tmp 42), (.tmp 43)], (some (41, false)), [], false⟩,
      ⟨(some 45), .pick (.tmp 41) (.const (.bool true)) (.tmp 44), none, [], false⟩,
      ⟨(some 46), .mov (.tmp 45), none, [], false⟩,
      ⟨(some 47), .mov (.tmp 8), (some (46, false)), [], false⟩,
      ⟨(some 48), .bin .neq (so (.binOp .neq 3 (.tmp 47) (.const (.int .i64 0)) 3) 4) (.tmp 47) (.const (.int .i64 0)), (some (46, false)), [], false⟩,
      ⟨(some 49), .pick (.tmp 46) (.const (.bool true)) (.tmp 48), none, [], false⟩,
      ⟨(some 50), .mov (.tmp 49), none, [], false⟩,
      ⟨(some 51), .mov (.tmp 9), (some (50, false)), [], false⟩,
      ⟨(some 52), .pick (.tmp 50) (.const (.bool true)) (.tmp 51), none, [], false⟩,
      ⟨(some 53), .mov (.tmp 52), none, [], false⟩,
      ⟨(some 54), .mov (.tmp 10), (some (53, false)), [], false⟩,
      ⟨(some 55), .bin .neq (so (.binOp .neq 3 (.tmp 54) (.const (.int .i64 0)) 3) 4) (.tmp 54) (.const (.int .i64 0)), (some (53, false)), [], false⟩,
      ⟨(some 56), .pick (.tmp 53) (.const (.bool true)) (.tmp 55), none, [], false⟩,
      ⟨(some 57), .mov (.tmp 56), none, [], false⟩,
      ⟨(some 58), .mov (.tmp 11), (some (57, false)), [], false⟩,
      ⟨(some 59), .pick (.tmp 57) (.const (.bool true)) (.tmp 58), none, [], false⟩,
      ⟨(some 60), .mov (.tmp 59), none, [], false⟩,
      ⟨(some 61), .mov (.tmp 7), (some (60, false)), [], false⟩,
      ⟨(some 62), .mov (.tmp 1), (some (60, false)), [], false⟩,
      ⟨(some 63), .callV (.func 13) [(.tmp 61), (.tmp 62)], (some (60, false)), [], false⟩,
      ⟨(some 64), .lenSl (.tmp 63), (some (60, false)), [], false⟩,
      ⟨(some 65), .bin .gtr (so (.binOp .gtr 3 (.tmp 64) (.const (.int .i64 0)) 3) 4) (.tmp 64) (.const (.int .i64 0)), (some (60, false)), [], false⟩,
      ⟨(some 66), .pick (.tmp 60) (.const (.bool true)) (.tmp 65), none, [], false⟩,
      ⟨(some 67), .mov (.tmp 66), none, [], false⟩,
      ⟨(some 68), .mov (.tmp 7), (some (67, false)), [], false⟩,
      ⟨(some 69), .callV (.func 21) [(.tmp 68)], (some (67, false)), [], false⟩,
      ⟨(some 70), .bin .neq (so (.binOp .neq 3 (.tmp 69) (.const (.int .i64 0)) 3) 4) (.tmp 69) (.const (.int .i64 0)), (some (67, false)), [], false⟩,
      ⟨(some 71), .pick (.tmp 67) (.const (.bool true)) (.tmp 70), none, [], false⟩,
      ⟨(some 72), .mov (.tmp 71), none, [], false⟩,
      ⟨(some 73), .mov (.tmp 7), (some (72, false)), [], false⟩,
      ⟨(some 74), .callV (.func 29) [(.tmp 73)], (some (72, false)), [], false⟩,
      ⟨(some 75), .lenSl (.tmp 74), (some (72, false)), [], false⟩,
      ⟨(some 76), .bin .gtr (so (.binOp .gtr 3 (.tmp 75) (.const (.int .i64 0)) 3) 4) (.tmp 75) (.const (.int .i64 0)), (some (72, false)), [], false⟩,
      ⟨(some 77), .pick (.tmp 72) (.const (.bool true)) (.tmp 76), none, [], false⟩,
      ⟨(some 78), .mov (.tmp 77), none, [], false⟩,
      ⟨(some 79), .mov (.tmp 7), (some (78, false)), [], false⟩,
      ⟨(some 80), .mov (.tmp 1), (some (78, false)), [], false⟩,
      ⟨(some 81), .callV (.func 12) [(.tmp 79), (.tmp 80)], (some (78, false)), [], false⟩,
      ⟨(some 82), .lenSl (.tmp 81), (some (78, false)), [], false⟩,
      ⟨(some 83), .bin .gtr (so (.binOp .gtr 3 (.tmp 82) (.const (.int .i64 0)) 3) 4) (.tmp 82) (.const (.int .i64 0)), (some (78, false)), [], false⟩,
      ⟨(some 84), .pick (.tmp 78) (.const (.bool true)) (.tmp 83), none, [], false⟩]) (.cond (.tmp 84)
    (.seq (.region [
      ⟨(some 4), .mov (.const (.bool false)), none, [], false⟩]) .ret)
    .skip)))))) (.region [
      ⟨(some 19), .mov (.tmp 6), none, [], false⟩,
      ⟨(some 20), .bin .add (so (.binOp .add 3 (.tmp 19) (.const (.int .i64 1)) 3) 3) (.tmp 19) (.const (.int .i64 1)), none, [], false⟩,
      ⟨(some 6), .mov (.tmp 20), none, [], false⟩])))
noncomputable def landfalllaw18_WheelNone_c : ACode :=
  (.seq (.region [
      ⟨(some 4), .mov (.const (.bool false)), none, [], false⟩]) (.seq (.region [
      ⟨(some 12), .build [(.int .i64 0), (.slice none 0 0), (.slice none 0 0), (.slice none 0 0), (.slice none 0 0), (.slice none 0 0), (.slice none 0 0), (.slice none 0 0), (.slice none 0 0), (.slice none 0 0), (.slice none 0 0), (.slice none 0 0), (.slice none 0 0), (.slice none 0 0), (.slice none 0 0), (.slice none 0 0), (.slice none 0 0), (.slice none 0 0), (.slice none 0 0), (.slice none 0 0), (.slice none 0 0), (.slice none 0 0), (.slice none 0 0), (.slice none 0 0), (.slice none 0 0), (.slice none 0 0), (.slice none 0 0), (.slice none 0 0), (.slice none 0 0), (.slice none 0 0), (.slice none 0 0), (.slice none 0 0), (.slice none 0 0), (.slice none 0 0), (.slice none 0 0), (.slice none 0 0), (.slice none 0 0), (.slice none 0 0), (.slice none 0 0), (.slice none 0 0), (.slice none 0 0), (.slice none 0 0), (.slice none 0 0), (.slice none 0 0), (.slice none 0 0), (.slice none 0 0), (.slice none 0 0), (.slice none 0 0), (.slice none 0 0), (.slice none 0 0), (.slice none 0 0), (.slice none 0 0), (.slice none 0 0), (.slice none 0 0), (.slice none 0 0), (.slice none 0 0), (.slice none 0 0), (.slice none 0 0), (.slice none 0 0), (.slice none 0 0), (.slice none 0 0), (.slice none 0 0), (.slice none 0 0), (.slice none 0 0), (.slice none 0 0), (.slice none 0 0), (.slice none 0 0), (.slice none 0 0), (.slice none 0 0), (.slice none 0 0), (.slice none 0 0), (.slice none 0 0), (.slice none 0 0), (.slice none 0 0), (.slice none 0 0), (.slice none 0 0), (.slice none 0 0), (.slice none 0 0), (.slice none 0 0), (.slice none 0 0), (.slice none 0 0), (.slice none 0 0), (.slice none 0 0), (.slice none 0 0), (.slice none 0 0), (.slice none 0 0), (.slice none 0 0), (.slice none 0 0), (.slice none 0 0), (.slice none 0 0), (.slice none 0 0), (.slice none 0 0), (.slice none 0 0), (.slice none 0 0), (.slice none 0 0), (.slice none 0 0), (.slice none 0 0), (.slice none 0 0), (.slice none 0 0), (.slice none 0 0), (.slice none 0 0), (.slice none 0 0), (.slice none 0 0), (.slice none 0 0), (.slice none 0 0), (.slice none 0 0), (.slice none 0 0), (.slice none 0 0), (.slice none 0 0), (.slice none 0 0), (.slice none 0 0), (.slice none 0 0), (.slice none 0 0), (.slice none 0 0), (.slice none 0 0), (.slice none 0 0), (.slice none 0 0), (.slice none 0 0), (.slice none 0 0), (.slice none 0 0), (.slice none 0 0), (.slice none 0 0), (.slice none 0 0), (.slice none 0 0), (.slice none 0 0), (.slice none 0 0), (.slice none 0 0), (.slice none 0 0), (.slice none 0 0), (.slice none 0 0), (.slice none 0 0), (.slice none 0 0), (.slice none 0 0), (.slice none 0 0), (.slice none 0 0), (.slice none 0 0), (.slice none 0 0), (.slice none 0 0), (.slice none 0 0), (.slice none 0 0), (.slice none 0 0), (.slice none 0 0), (.slice none 0 0), (.slice none 0 0), (.slice none 0 0), (.slice none 0 0), (.slice none 0 0), (.slice none 0 0), (.slice none 0 0), (.slice none 0 0), (.slice none 0 0), (.slice none 0 0), (.slice none 0 0), (.slice none 0 0), (.slice none 0 0), (.slice none 0 0), (.slice none 0 0), (.slice none 0 0), (.slice none 0 0), (.slice none 0 0), (.slice none 0 0), (.slice none 0 0), (.slice none 0 0), (.slice none 0 0), (.slice none 0 0), (.slice none 0 0), (.slice none 0 0), (.slice none 0 0), (.slice none 0 0), (.slice none 0 0), (.slice none 0 0), (.slice none 0 0), (.slice none 0 0), (.slice none 0 0), (.slice none 0 0), (.slice none 0 0), (.slice none 0 0), (.slice none 0 0), (.slice none 0 0), (.slice none 0 0), (.slice none 0 0), (.slice none 0 0), (.slice none 0 0), (.slice none 0 0), (.slice none 0 0), (.slice none 0 0), (.slice none 0 0), (.slice none 0 0), (.slice none 0 0), (.slice none 0 0), (.slice none 0 0), (.slice none 0 0), (.slice none 0 0), (.slice none 0 0), (.slice none 0 0), (.slice none 0 0), (.slice none 0 0), (.slice none 0 0), (.slice none 0 0), (.slice none 0 0), (.slice none 0 0), (.slice none 0 0), (.slice none 0 0), (.slice none 0 0), (.slice none 0 0), (.slice none 0 0), (.slice none 0 0), (.slice none 0 0), (.slice none 0 0), (.slice none 0 0), (.slice none 0 0), (.slice none 0 0), (.slice none 0 0), (.slice none 0 0), (.slice none 0 0), (.slice none 0 0), (.slice none 0 0), (.slice none 0 0), (.slice none 0 0), (.slice none 0 0), (.slice none 0 0), (.slice none 0 0), (.slice none 0 0), (.slice none 0 0), (.slice none 0 0), (.slice none 0 0), (.slice none 0 0), (.slice none 0 0), (.slice none 0 0), (.slice none 0 0), (.slice none 0 0), (.slice none 0 0), (.slice none 0 0), (.slice none 0 0), (.slice none 0 0), (.slice none 0 0), (.slice none 0 0), (.slice none 0 0), (.slice none 0 0), (.slice none 0 0), (.slice none 0 0), (.slice none 0 0), (.slice none 0 0), (.slice none 0 0), (.slice none 0 0), (.slice none 0 0), (.slice none 0 0), (.slice none 0 0), (.slice none 0 0), (.slice none 0 0), (.slice none 0 0), (.slice none 0 0), (.slice none 0 0), (.slice none 0 0), (.slice none 0 0), (.slice none 0 0), (.slice none 0 0), (.map none)] [], none, [], false⟩,
      ⟨(some 13), .box 62 (.tmp 12), none, [], false⟩,
      ⟨(some 14), .buildSlice 22 [(.pointer none), (.pointer none)] 2 [(0, 1, (.const (.pointer none))), (1, 1, (.tmp 13))], none, [], false⟩,
      ⟨(some 5), .mov (.tmp 14), none, [], false⟩]) (.seq (.seq (.region [
      ⟨(some 6), .mov (.const (.int .i64 0)), none, [], false⟩]) (.block 0 (.loop landfalllaw18_WheelNone_l0))) (.seq (.region [
      ⟨(some 85), .callV (.func 17) [], none, [], false⟩,
      ⟨(some 4), .mov (.tmp 85), none, [], false⟩]) .ret))))
noncomputable def landfalllaw18_WheelNone : AFunc := ⟨86, [(4, none)], landfalllaw18_WheelNone_c, none⟩
theorem landfalllaw18_WheelNone_t0 : tableOf Try.prog 6 = some landfalllaw18_WheelNone := by kernel_rfl
theorem landfalllaw18_WheelNone_t : T0 6 = some landfalllaw18_WheelNone := withKept_t rfl (withTrue_t rfl landfalllaw18_WheelNone_t0)
theorem landfalllaw18_WheelNone_runs {v0 v1 : Value} {h : Heap} {R : RP} {X : XP} (k : RunC Try.prog T0 landfalllaw18_WheelNone_c ⟨[v0, v1, undef, undef, undef, undef, undef, undef, undef, undef, undef, undef, undef, undef, undef, undef, undef, undef, undef, undef, undef, undef, undef, undef, undef, undef, undef, undef, undef, undef, undef, undef, undef, undef, undef, undef, undef, undef, undef, undef, undef, undef, undef, undef, undef, undef, undef, undef, undef, undef, undef, undef, undef, undef, undef, undef, undef, undef, undef, undef, undef, undef, undef, undef, undef, undef, undef, undef, undef, undef, undef, undef, undef, undef, undef, undef, undef, undef, undef, undef, undef, undef, undef, undef, undef, undef], [], h, none⟩ (bodyQ Try.prog T0 [(4, none)] R X)) :
    Runs Try.prog T0 (.fn 6) [v0, v1] h R X := Runs.fn landfalllaw18_WheelNone_t rfl k
/-- the slots that turn in the loop: v6 -/
noncomputable def landfalllaw18_WheelNone_l0_J (f0 f1 f2 f3 f5 f12 f13 f14 f85 : Value) (ds : List Deferred) (rd : Option Nat) (I : Nat → Value → Heap → Prop) (m : Nat) (s : St) : Prop := ∃ (v6 : Value), ∃ h : Heap, ∃ (x4 x7 x8 x9 x10 x11 x15 x16 x17 x18 x19 x20 x21 x22 x23 x24 x25 x26 x27 x28 x29 x30 x31 x32 x33 x34 x35 x36 x37 x38 x39 x40 x41 x42 x43 x44 x45 x46 x47 x48 x49 x50 x51 x52 x53 x54 x55 x56 x57 x58 x59 x60 x61 x62 x63 x64 x65 x66 x67 x68 x69 x70 x71 x72 x73 x74 x75 x76 x77 x78 x79 x80 x81 x82 x83 x84 : Value), s = ⟨[f0, f1, f2, f3, x4, f5, v6, x7, x8, x9, x10, x11, f12, f13, f14, x15, x16, x17, x18, x19, x20, x21, x22, x23, x24, x25, x26, x27, x28, x29, x30, x31, x32, x33, x34, x35, x36, x37, x38, x39, x40, x41, x42, x43, x44, x45, x46, x47, x48, x49, x50, x51, x52, x53, x54, x55, x56, x57, x58, x59, x60, x61, x62, x63, x64, x65, x66, x67, x68, x69, x70, x71, x72, x73, x74, x75, x76, x77, x78, x79, x80, x81, x82, x83, x84, f85], ds, h, rd⟩ ∧ I m v6 h
theorem landfalllaw18_WheelNone_l0_rule {f0 f1 f2 f3 f5 f12 f13 f14 f85 : Value} {ds : List Deferred} {rd : Option Nat} {Q : QP} (I : Nat → Value → Heap → Prop) (hb : ∀ (m : Nat) (v6 : Value) (h : Heap) (x4 x7 x8 x9 x10 x11 x15 x16 x17 x18 x19 x20 x21 x22 x23 x24 x25 x26 x27 x28 x29 x30 x31 x32 x33 x34 x35 x36 x37 x38 x39 x40 x41 x42 x43 x44 x45 x46 x47 x48 x49 x50 x51 x52 x53 x54 x55 x56 x57 x58 x59 x60 x61 x62 x63 x64 x65 x66 x67 x68 x69 x70 x71 x72 x73 x74 x75 x76 x77 x78 x79 x80 x81 x82 x83 x84 : Value) , I m v6 h → RunC Try.prog T0 landfalllaw18_WheelNone_l0 ⟨[f0, f1, f2, f3, x4, f5, v6, x7, x8, x9, x10, x11, f12, f13, f14, x15, x16, x17, x18, x19, x20, x21, x22, x23, x24, x25, x26, x27, x28, x29, x30, x31, x32, x33, x34, x35, x36, x37, x38, x39, x40, x41, x42, x43, x44, x45, x46, x47, x48, x49, x50, x51, x52, x53, x54, x55, x56, x57, x58, x59, x60, x61, x62, x63, x64, x65, x66, x67, x68, x69, x70, x71, x72, x73, x74, x75, x76, x77, x78, x79, x80, x81, x82, x83, x84, f85], ds, h, rd⟩ (loopQ (landfalllaw18_WheelNone_l0_J f0 f1 f2 f3 f5 f12 f13 f14 f85 ds rd I) m Q))
    (m : Nat) {v6 : Value} {h : Heap} {x4 x7 x8 x9 x10 x11 x15 x16 x17 x18 x19 x20 x21 x22 x23 x24 x25 x26 x27 x28 x29 x30 x31 x32 x33 x34 x35 x36 x37 x38 x39 x40 x41 x42 x43 x44 x45 x46 x47 x48 x49 x50 x51 x52 x53 x54 x55 x56 x57 x58 x59 x60 x61 x62 x63 x64 x65 x66 x67 x68 x69 x70 x71 x72 x73 x74 x75 x76 x77 x78 x79 x80 x81 x82 x83 x84 : Value} (hi : I m v6 h) : RunC Try.prog T0 (.loop landfalllaw18_WheelNone_l0) ⟨[f0, f1, f2, f3, x4, f5, v6, x7, x8, x9, x10, x11, f12, f13, f14, x15, x16, x17, x18, x19, x20, x21, x22, x23, x24, x25, x26, x27, x28, x29, x30, x31, x32, x33, x34, x35, x36, x37, x38, x39, x40, x41, x42, x43, x44, x45, x46, x47, x48, x49, x50, x51, x52, x53, x54, x55, x56, x57, x58, x59, x60, x61, x62, x63, x64, x65, x66, x67, x68, x69, x70, x71, x72, x73, x74, x75, x76, x77, x78, x79, x80, x81, x82, x83, x84, f85], ds, h, rd⟩ Q :=
  RunC.loopJ (landfalllaw18_WheelNone_l0_J f0 f1 f2 f3 f5 f12 f13 f14 f85 ds rd I) (fun m s hj => by obtain ⟨v6, h, x4, x7, x8, x9, x10, x11, x15, x16, x17, x18, x19, x20, x21, x22, x23, x24, x25, x26, x27, x28, x29, x30, x31, x32, x33, x34, x35, x36, x37, x38, x39, x40, x41, x42, x43, x44, x45, x46, x47, x48, x49, x50, x51, x52, x53, x54, x55, x56, x57, x58, x59, x60, x61, x62, x63, x64, x65, x66, x67, x68, x69, x70, x71, x72, x73, x74, x75, x76, x77, x78, x79, x80, x81, x82, x83, x84, rfl, hi⟩ := hj; exact hb m v6 h x4 x7 x8 x9 x10 x11 x15 x16 x17 x18 x19 x20 x21 x22 x23 x24 x25 x26 x27 x28 x29 x30 x31 x32 x33 x34 x35 x36 x37 x38 x39 x40 x41 x42 x43 x44 x45 x46 x47 x48 x49 x50 x51 x52 x53 x54 x55 x56 x57 x58 x59 x60 x61 x62 x63 x64 x65 x66 x67 x68 x69 x70 x71 x72 x73 x74 x75 x76 x77 x78 x79 x80 x81 x82 x83 x84 hi) m _ ⟨_, h, _, _, _, _, _, _, _, _, _, _, _, _, _, _, _, _, _, _, _, _, _, _, _, _, _, _, _, _, _, _, _, _, _, _, _, _, _, _, _, _, _, _, _, _, _, _, _, _, _, _, _, _, _, _, _, _, _, _, _, _, _, _, _, _, _, _, _, _, _, _, _, _, _, _, _, _, rfl, hi⟩
theorem landfalllaw18_WheelNone_l0_again {f0 f1 f2 f3 f5 f12 f13 f14 f85 : Value} {ds : List Deferred} {rd : Option Nat} {Q : QP} {I : Nat → Value → Heap → Prop} {m : Nat} (m' : Nat) {v6 : Value} {h : Heap} {x4 x7 x8 x9 x10 x11 x15 x16 x17 x18 x19 x20 x21 x22 x23 x24 x25 x26 x27 x28 x29 x30 x31 x32 x33 x34 x35 x36 x37 x38 x39 x40 x41 x42 x43 x44 x45 x46 x47 x48 x49 x50 x51 x52 x53 x54 x55 x56 x57 x58 x59 x60 x61 x62 x63 x64 x65 x66 x67 x68 x69 x70 x71 x72 x73 x74 x75 x76 x77 x78 x79 x80 x81 x82 x83 x84 : Value} (hm : m' < m) (hi : I m' v6 h) : loopQ (landfalllaw18_WheelNone_l0_J f0 f1 f2 f3 f5 f12 f13 f14 f85 ds rd I) m Q .normal ⟨[f0, f1, f2, f3, x4, f5, v6, x7, x8, x9, x10, x11, f12, f13, f14, x15, x16, x17, x18, x19, x20, x21, x22, x23, x24, x25, x26, x27, x28, x29, x30, x31, x32, x33, x34, x35, x36, x37, x38, x39, x40, x41, x42, x43, x44, x45, x46, x47, x48, x49, x50, x51, x52, x53, x54, x55, x56, x57, x58, x59, x60, x61, x62, x63, x64, x65, x66, x67, x68, x69, x70, x71, x72, x73, x74, x75, x76, x77, x78, x79, x80, x81, x82, x83, x84, f85], ds, h, rd⟩ :=
  loopQ.again m' hm ⟨_, h, _, _, _, _, _, _, _, _, _, _, _, _, _, _, _, _, _, _, _, _, _, _, _, _, _, _, _, _, _, _, _, _, _, _, _, _, _, _, _, _, _, _, _, _, _, _, _, _, _, _, _, _, _, _, _, _, _, _, _, _, _, _, _, _, _, _, _, _, _, _, _, _, _, _, _, _, rfl, hi⟩

/-! 10 (*landfall/wheel.Wheel).Next -/
abbrev fn_wheel_Wheel_Next : FuncId := 10
noncomputable def wheel_Wheel_Next_c : ACode :=
  (.seq (.region [
      ⟨(some 2), .mov (.const (.int .i64 0)), none, [], false⟩,
      ⟨(some 3), .mov (.const (.bool false)), none, [], false⟩]) (.seq (.seq (.region [
      ⟨(some 4), .mov (.tmp 0), none, [], false⟩,
      ⟨(some 5), .callV (.func 32) [(.tmp 4)], none, [], false⟩,
      ⟨(some 6), .mov (.tmp 5), none, [], false⟩,
      ⟨(some 7), .mov (.tmp 0), (some (6, false)), [], false⟩,
      ⟨(some 8), .nilCheck (.tmp 7), (some (6, false)), [], false⟩,
      ⟨(some 9), .fieldAddr 257 (.tmp 8), (some (6, false)), [], false⟩,
      ⟨(some 10), .load none (.tmp 9), (some (6, false)), [], false⟩,
      ⟨(some 11), .lenMap (.tmp 10), (some (6, false)), [], false⟩,
      ⟨(some 12), .bin .eql (so (.binOp .eql 3 (.tmp 11) (.const (.int .i64 0)) 3) 4) (.tmp 11) (.const (.int .i64 0)), (some (6, false)), [], false⟩,
      ⟨(some 13), .pick (.tmp 6) (.const (.bool true)) (.tmp 12), none, [], false⟩]) (.cond (.tmp 13)
    (.seq (.region [
      ⟨(some 2), .mov (.const (.int .i64 0)), none, [], false⟩,
      ⟨(some 3), .mov (.const (.bool false)), none, [], false⟩]) .ret)
    .skip)) (.seq (.region [
      ⟨(some 14), .mov (.tmp 0), none, [], false⟩,
      ⟨(some 15), .callV (.func 33) [(.tmp 14)], none, [], false⟩,
      ⟨(some 16), .nilCheck (.tmp 15), none, [], false⟩,
      ⟨(some 17), .fieldAddr 1 (.tmp 16), none, [], false⟩,
      ⟨(some 18), .load none (.tmp 17), none, [], false⟩,
      ⟨(some 2), .mov (.tmp 18), none, [], false⟩,
      ⟨(some 3), .mov (.const (.bool true)), none, [], false⟩]) .ret)))
noncomputable def wheel_Wheel_Next : AFunc := ⟨19, [(2, none), (3, none)], wheel_Wheel_Next_c, none⟩
theorem wheel_Wheel_Next_t0 : tableOf Try.prog 10 = some wheel_Wheel_Next := by kernel_rfl
theorem wheel_Wheel_Next_t : T0 10 = some wheel_Wheel_Next := withKept_t rfl (withTrue_t rfl wheel_Wheel_Next_t0)
theorem wheel_Wheel_Next_runs {v0 : Value} {h : Heap} {R : RP} {X : XP} (k : RunC Try.prog T0 wheel_Wheel_Next_c ⟨[v0, undef, undef, undef, undef, undef, undef, undef, undef, undef, undef, undef, undef, undef, undef, undef, undef, undef, undef], [], h, none⟩ (bodyQ Try.prog T0 [(2, none), (3, none)] R X)) :
    Runs Try.prog T0 (.fn 10) [v0] h R X := Runs.fn wheel_Wheel_Next_t rfl k


/-! 12 (*landfall/wheel.Wheel).Slot -/
abbrev fn_wheel_Wheel_Slot : FuncId := 12
noncomputable def wheel_Wheel_Slot_c : ACode :=
  (.seq (.region [
      ⟨(some 4), .mov (.const (.slice none 0 0)), none, [], false⟩]) (.seq (.seq (.region [
      ⟨(some 5), .mov (.tmp 0), none, [], false⟩,
      ⟨(some 6), .callV (.func 32) [(.tmp 5)], none, [], false⟩,
      ⟨(some 7), .mov (.tmp 6), none, [], false⟩,
      ⟨(some 8), .mov (.tmp 1), (some (7, false)), [], false⟩,
      ⟨(some 9), .bin .lss (so (.binOp .lss 3 (.tmp 8) (.const (.int .i64 0)) 3) 4) (.tmp 8) (.const (.int .i64 0)), (some (7, false)), [], false⟩,
      ⟨(some 10), .pick (.tmp 7) (.const (.bool true)) (.tmp 9), none, [], false⟩,
      ⟨(some 11), .mov (.tmp 10), none, [], false⟩,
      ⟨(some 12), .mov (.tmp 1), (some (11, false)), [], false⟩,
      ⟨(some 13), .mov (.tmp 0), (some (11, false)), [], false⟩,
      ⟨(some 14), .nilCheck (.tmp 13), (some (11, false)), [], false⟩,
      ⟨(some 15), .fieldAddr 0 (.tmp 14), (some (11, false)), [], false⟩,
      ⟨(some 16), .load none (.tmp 15), (some (11, false)), [], false⟩,
      ⟨(some 17), .bin .geq (so (.binOp .geq 3 (.tmp 12) (.tmp 16) 3) 4) (.tmp 12) (.tmp 16), (some (11, false)), [], false⟩,
      ⟨(some 18), .pick (.tmp 11) (.const (.bool true)) (.tmp 17), none, [], false⟩]) (.cond (.tmp 18)
    (.seq (.region [
      ⟨(some 4), .mov (.const (.slice none 0 0)), none, [], false⟩]) .ret)
    .skip)) (.seq (.region [
      ⟨(some 19), .mov (.tmp 0), none, [], false⟩,
      ⟨(some 20), .mov (.tmp 1), none, [], false⟩,
      ⟨(some 21), .nilCheck (.tmp 19), none, [], false⟩,
      ⟨(some 22), .fieldAddr 1 (.tmp 21), none, [], false⟩,
      ⟨(some 23), .indexArr 256 1 (.tmp 22) (.tmp 20), none, [], false⟩,
      ⟨(some 24), .load none (.tmp 23), none, [], false⟩,
      ⟨(some 25), .callV (.func 34) [(.tmp 24)], none, [], false⟩,
      ⟨(some 4), .mov (.tmp 25), none, [], false⟩]) .ret)))
noncomputable def wheel_Wheel_Slot : AFunc := ⟨26, [(4, none)], wheel_Wheel_Slot_c, none⟩
theorem wheel_Wheel_Slot_t0 : tableOf Try.prog 12 = some wheel_Wheel_Slot := by kernel_rfl
theorem wheel_Wheel_Slot_t : T0 12 = some wheel_Wheel_Slot := withKept_t rfl (withTrue_t rfl wheel_Wheel_Slot_t0)
theorem wheel_Wheel_Slot_runs {v0 v1 : Value} {h : Heap} {R : RP} {X : XP} (k : RunC Try.prog T0 wheel_Wheel_Slot_c ⟨[v0, v1, undef, undef, undef, undef, undef, undef, undef, undef, undef, undef, undef, undef, undef, undef, undef, undef, undef, undef, undef, undef, undef, undef, undef, undef], [], h, none⟩ (bodyQ Try.prog T0 [(4, none)] R X)) :
    Runs Try.prog T0 (.fn 12) [v0, v1] h R X := Runs.fn wheel_Wheel_Slot_t rfl k


/-! 13 (*landfall/wheel.Wheel).Fire -/
abbrev fn_wheel_Wheel_Fire : FuncId := 13
noncomputable def wheel_Wheel_Fire_l0 : ACode :=
  (.seq (.seq (.region [
      ⟨(some 10), .mov (.tmp 5), none, [], false⟩,
      ⟨(some 11), .eq .ptr true (so (.binOp .neq 66 (.tmp 10) (.const (.pointer none)) 66) 4) (.tmp 10) (.const (.pointer none)), none, [], false⟩,
      ⟨(some 12), .mov (.tmp 11), none, [], false⟩,
      ⟨(some 13), .mov (.tmp 5), (some (12, true)), [], false⟩,
      ⟨(some 14), .nilCheck (.tmp 13), (some (12, true)), [], false⟩,
      ⟨(some 15), .fieldAddr 1 (.tmp 14), (some (12, true)), [], false⟩,
      ⟨(some 16), .load none (.tmp 15), (some (12, true)), [], false⟩,
      ⟨(some 17), .mov (.tmp 1), (some (12, true)), [], false⟩,
      ⟨(some 18), .bin .leq (so (.binOp .leq 3 (.tmp 16) (.tmp 17) 3) 4) (.tmp 16) (.tmp 17), (some (12, true)), [], false⟩,
      ⟨(some 19), .pick (.tmp 12) (.tmp 18) (.const (.bool false)), none, [], false⟩]) (.cond (.tmp 19)
    .skip
    (.exit 0))) (.seq (.block 1 (.seq (.region [
      ⟨(some 22), .mov (.tmp 4), none, [], false⟩,
      ⟨(some 23), .mov (.tmp 5), none, [], false⟩,
      ⟨(some 24), .nilCheck (.tmp 23), none, [], false⟩,
      ⟨(some 25), .fieldAddr 0 (.tmp 24), none, [], false⟩,
      ⟨(some 26), .load none (.tmp 25), none, [], false⟩,
      ⟨(some 27), .buildSlice 3 [(.int .i64 0)] 1 [(0, 1, (.tmp 26))], none, [], false⟩,
      ⟨(some 28), .append 3 1 8 [(.int .i64 0)] false (.tmp 22) (.tmp 27), none, [], false⟩,
      ⟨(some 4), .mov (.tmp 28), none, [], false⟩]) (.region [
      ⟨(some 29), .mov (.tmp 0), none, [], false⟩,
      ⟨(some 30), .mov (.tmp 5), none, [], false⟩,
      ⟨(some 31), .nilCheck (.tmp 30), none, [], false⟩,
      ⟨(some 32), .fieldAddr 0 (.tmp 31), none, [], false⟩,
      ⟨(some 33), .load none (.tmp 32), none, [], false⟩,
      ⟨(some 34), .callV (.func 15) [(.tmp 29), (.tmp 33)], none, [], false⟩]))) (.region [
      ⟨(some 20), .mov (.tmp 0), none, [], false⟩,
      ⟨(some 21), .callV (.func 33) [(.tmp 20)], none, [], false⟩,
      ⟨(some 5), .mov (.tmp 21), none, [], false⟩])))
noncomputable def wheel_Wheel_Fire_c : ACode :=
  (.seq (.region [
      ⟨(some 4), .mov (.const (.slice none 0 0)), none, [], false⟩]) (.seq (.seq (.region [
      ⟨(some 6), .mov (.tmp 0), none, [], false⟩,
      ⟨(some 7), .callV (.func 32) [(.tmp 6)], none, [], false⟩]) (.cond (.tmp 7)
    (.seq (.region [
      ⟨(some 4), .mov (.const (.slice none 0 0)), none, [], false⟩]) .ret)
    .skip)) (.seq (.seq (.region [
      ⟨(some 8), .mov (.tmp 0), none, [], false⟩,
      ⟨(some 9), .callV (.func 33) [(.tmp 8)], none, [], false⟩,
      ⟨(some 5), .mov (.tmp 9), none, [], false⟩]) (.block 0 (.loop wheel_Wheel_Fire_l0))) (.seq (.region [
      ⟨(some 35), .mov (.tmp 4), none, [], false⟩,
      ⟨(some 4), .mov (.tmp 35), none, [], false⟩]) .ret))))
noncomputable def wheel_Wheel_Fire : AFunc := ⟨36, [(4, none)], wheel_Wheel_Fire_c, none⟩
theorem wheel_Wheel_Fire_t0 : tableOf Try.prog 13 = some wheel_Wheel_Fire := by kernel_rfl
theorem wheel_Wheel_Fire_t : T0 13 = some wheel_Wheel_Fire := withKept_t rfl (withTrue_t rfl wheel_Wheel_Fire_t0)
theorem wheel_Wheel_Fire_runs {v0 v1 : Value} {h : Heap} {R : RP} {X : XP} (k : RunC Try.prog T0 wheel_Wheel_Fire_c ⟨[v0, v1, undef, undef, undef, undef, undef, undef, undef, undef, undef, undef, undef, undef, undef, undef, undef, undef, undef, undef, undef, undef, undef, undef, undef, undef, undef, undef, undef, undef, undef, undef, undef, undef, undef, undef], [], h, none⟩ (bodyQ Try.prog T0 [(4, none)] R X)) :
    Runs Try.prog T0 (.fn 13) [v0, v1] h R X := Runs.fn wheel_Wheel_Fire_t rfl k
/-- the slots that turn in the loop: v4 v5 -/
noncomputable def wheel_Wheel_Fire_l0_J (f0 f1 f2 f3 f6 f7 f8 f9 f35 : Value) (ds : List Deferred) (rd : Option Nat) (I : Nat → Value → Value → Heap → Prop) (m : Nat) (s : St) : Prop := ∃ (v4 v5 : Value), ∃ h : Heap, ∃ (x10 x11 x12 x13 x14 x15 x16 x17 x18 x19 x20 x21 x22 x23 x24 x25 x26 x27 x28 x29 x30 x31 x32 x33 x34 : Value), s = ⟨[f0, f1, f2, f3, v4, v5, f6, f7, f8, f9, x10, x11, x12, x13, x14, x15, x16, x17, x18, x19, x20, x21, x22, x23, x24, x25, x26, x27, x28, x29, x30, x31, x32, x33, x34, f35], ds, h, rd⟩ ∧ I m v4 v5 h
theorem wheel_Wheel_Fire_l0_rule {f0 f1 f2 f3 f6 f7 f8 f9 f35 : Value} {ds : List Deferred} {rd : Option Nat} {Q : QP} (I : Nat → Value → Value → Heap → Prop) (hb : ∀ (m : Nat) (v4 v5 : Value) (h : Heap) (x10 x11 x12 x13 x14 x15 x16 x17 x18 x19 x20 x21 x22 x23 x24 x25 x26 x27 x28 x29 x30 x31 x32 x33 x34 : Value) , I m v4 v5 h → RunC Try.prog T0 wheel_Wheel_Fire_l0 ⟨[f0, f1, f2, f3, v4, v5, f6, f7, f8, f9, x10, x11, x12, x13, x14, x15, x16, x17, x18, x19, x20, x21, x22, x23, x24, x25, x26, x27, x28, x29, x30, x31, x32, x33, x34, f35], ds, h, rd⟩ (loopQ (wheel_Wheel_Fire_l0_J f0 f1 f2 f3 f6 f7 f8 f9 f35 ds rd I) m Q))
    (m : Nat) {v4 v5 : Value} {h : Heap} {x10 x11 x12 x13 x14 x15 x16 x17 x18 x19 x20 x21 x22 x23 x24 x25 x26 x27 x28 x29 x30 x31 x32 x33 x34 : Value} (hi : I m v4 v5 h) : RunC Try.prog T0 (.loop wheel_Wheel_Fire_l0) ⟨[f0, f1, f2, f3, v4, v5, f6, f7, f8, f9, x10, x11, x12, x13, x14, x15, x16, x17, x18, x19, x20, x21, x22, x23, x24, x25, x26, x27, x28, x29, x30, x31, x32, x33, x34, f35], ds, h, rd⟩ Q :=
  RunC.loopJ (wheel_Wheel_Fire_l0_J f0 f1 f2 f3 f6 f7 f8 f9 f35 ds rd I) (fun m s hj => by obtain ⟨v4, v5, h, x10, x11, x12, x13, x14, x15, x16, x17, x18, x19, x20, x21, x22, x23, x24, x25, x26, x27, x28, x29, x30, x31, x32, x33, x34, rfl, hi⟩ := hj; exact hb m v4 v5 h x10 x11 x12 x13 x14 x15 x16 x17 x18 x19 x20 x21 x22 x23 x24 x25 x26 x27 x28 x29 x30 x31 x32 x33 x34 hi) m _ ⟨_, _, h, _, _, _, _, _, _, _, _, _, _, _, _, _, _, _, _, _, _, _, _, _, _, _, _, _, rfl, hi⟩
theorem wheel_Wheel_Fire_l0_again {f0 f1 f2 f3 f6 f7 f8 f9 f35 : Value} {ds : List Deferred} {rd : Option Nat} {Q : QP} {I : Nat → Value → Value → Heap → Prop} {m : Nat} (m' : Nat) {v4 v5 : Value} {h : Heap} {x10 x11 x12 x13 x14 x15 x16 x17 x18 x19 x20 x21 x22 x23 x24 x25 x26 x27 x28 x29 x30 x31 x32 x33 x34 : Value} (hm : m' < m) (hi : I m' v4 v5 h) : loopQ (wheel_Wheel_Fire_l0_J f0 f1 f2 f3 f6 f7 f8 f9 f35 ds rd I) m Q .normal ⟨[f0, f1, f2, f3, v4, v5, f6, f7, f8, f9, x10, x11, x12, x13, x14, x15, x16, x17, x18, x19, x20, x21, x22, x23, x24, x25, x26, x27, x28, x29, x30, x31, x32, x33, x34, f35], ds, h, rd⟩ :=
  loopQ.again m' hm ⟨_, _, h, _, _, _, _, _, _, _, _, _, _, _, _, _, _, _, _, _, _, _, _, _, _, _, _, _, rfl, hi⟩

/-! 14 (*landfall/wheel.Wheel).Set -/
abbrev fn_wheel_Wheel_Set : FuncId := 14
noncomputable def wheel_Wheel_Set_c : ACode :=
  (.seq (.region [
      ⟨(some 6), .mov (.const (.int .i64 0)), none, [], false⟩]) (.seq (.block 0 (.seq (.region [
      ⟨(some 11), .mov (.tmp 0), none, [], false⟩,
      ⟨(some 12), .callV (.func 32) [(.tmp 11)], none, [], false⟩,
      ⟨(some 10), .mov (.tmp 12), none, [], false⟩]) (.cond (.tmp 10)
    (.seq (.region [
      ⟨(some 6), .mov (.const (.int .i64 1)), none, [], false⟩]) .ret)
    (.seq (.region [
      ⟨(some 14), .mov (.tmp 2), none, [], false⟩,
      ⟨(some 15), .bin .lss (so (.binOp .lss 3 (.tmp 14) (.const (.int .i64 0)) 3) 4) (.tmp 14) (.const (.int .i64 0)), none, [], false⟩,
      ⟨(some 16), .mov (.tmp 15), none, [], false⟩,
      ⟨(some 17), .mov (.tmp 2), (some (16, false)), [], false⟩,
      ⟨(some 18), .bin .gtr (so (.binOp .gtr 3 (.tmp 17) (.const (.int .i64 1099511627776)) 3) 4) (.tmp 17) (.const (.int .i64 1099511627776)), (some (16, false)), [], false⟩,
      ⟨(some 19), .pick (.tmp 16) (.const (.bool true)) (.tmp 18), none, [], false⟩,
      ⟨(some 13), .mov (.tmp 19), none, [], false⟩]) (.cond (.tmp 13)
    (.seq (.region [
      ⟨(some 6), .mov (.const (.int .i64 3)), none, [], false⟩]) .ret)
    .skip))))) (.seq (.seq (.region [
      ⟨(some 21), .mov (.tmp 0), none, [], false⟩,
      ⟨(some 22), .nilCheck (.tmp 21), none, [], false⟩,
      ⟨(some 23), .fieldAddr 257 (.tmp 22), none, [], false⟩,
      ⟨(some 24), .load none (.tmp 23), none, [], false⟩,
      ⟨(some 25), .mov (.tmp 1), none, [], false⟩,
      ⟨(some 26), .lookup (.int .i64) (.pointer none) true (.tmp 24) (.tmp 25), none, [], false⟩,
      ⟨(some 20), .mov (.tmp 26), none, [], false⟩,
      ⟨(some 27), .extract 0 (.tmp 20), none, [], false⟩,
      ⟨(some 28), .extract 1 (.tmp 20), none, [], false⟩,
      ⟨(some 7), .mov (.tmp 27), none, [], false⟩,
      ⟨(some 8), .mov (.tmp 28), none, [], false⟩]) (.seq (.region [
      ⟨(some 29), .mov (.tmp 8), none, [], false⟩]) (.cond (.tmp 29)
    (.seq (.region [
      ⟨(some 6), .mov (.const (.int .i64 8)), none, [], false⟩]) .ret)
    .skip))) (.seq (.region [
      ⟨(some 30), .mov (.tmp 1), none, [], false⟩,
      ⟨(some 31), .mov (.tmp 2), none, [], false⟩,
      ⟨(some 32), .build [(.int .i64 0), (.int .i64 0)] [(0, 1, (.tmp 30)), (1, 1, (.tmp 31))], none, [], false⟩,
      ⟨(some 33), .box 33 (.tmp 32), none, [], false⟩,
      ⟨(some 9), .mov (.tmp 33), none, [], false⟩]) (.seq (.region [
      ⟨(some 34), .mov (.tmp 0), none, [], false⟩,
      ⟨(some 35), .nilCheck (.tmp 34), none, [], false⟩,
      ⟨(some 36), .fieldAddr 257 (.tmp 35), none, [], false⟩,
      ⟨(some 37), .load none (.tmp 36), none, [], false⟩,
      ⟨(some 38), .mov (.tmp 1), none, [], false⟩,
      ⟨(some 39), .mov (.tmp 9), none, [], false⟩,
      ⟨none, .mapUpdate (.int .i64) (.tmp 37) (.tmp 38) (.tmp 39), none, [], false⟩]) (.seq (.region [
      ⟨(some 40), .mov (.tmp 0), none, [], false⟩,
      ⟨(some 41), .mov (.tmp 2), none, [], false⟩,
      ⟨(some 42), .callV (.func 36) [(.tmp 40), (.tmp 41)], none, [], false⟩,
      ⟨(some 43), .mkIface 71 (.tmp 42), none, [], false⟩,
      ⟨(some 44), .mov (.tmp 9), none, [], false⟩,
      ⟨(some 45), .mkIface 66 (.tmp 44), none, [], false⟩,
      ⟨(some 46), .callV (.func 35) [(.tmp 43), (.tmp 45)], none, [], false⟩]) (.seq (.region [
      ⟨(some 6), .mov (.const (.int .i64 0)), none, [], false⟩]) .ret)))))))
noncomputable def wheel_Wheel_Set : AFunc := ⟨47, [(6, none)], wheel_Wheel_Set_c, none⟩
theorem wheel_Wheel_Set_t0 : tableOf Try.prog 14 = some wheel_Wheel_Set := by kernel_rfl
theorem wheel_Wheel_Set_t : T0 14 = some wheel_Wheel_Set := withKept_t rfl (withTrue_t rfl wheel_Wheel_Set_t0)
theorem wheel_Wheel_Set_runs {v0 v1 v2 : Value} {h : Heap} {R : RP} {X : XP} (k : RunC Try.prog T0 wheel_Wheel_Set_c ⟨[v0, v1, v2, undef, undef, undef, undef, undef, undef, undef, undef, undef, undef, undef, undef, undef, undef, undef, undef, undef, undef, undef, undef, undef, undef, undef, undef, undef, undef, undef, undef, undef, undef, undef, undef, undef, undef, undef, undef, undef, undef, undef, undef, undef, undef, undef, undef], [], h, none⟩ (bodyQ Try.prog T0 [(6, none)] R X)) :
    Runs Try.prog T0 (.fn 14) [v0, v1, v2] h R X := Runs.fn wheel_Wheel_Set_t rfl k


/-! 15 (*landfall/wheel.Wheel).Stop -/
abbrev fn_wheel_Wheel_Stop : FuncId := 15
noncomputable def wheel_Wheel_Stop_c : ACode :=
  (.seq (.region [
      ⟨(some 4), .mov (.const (.bool false)), none, [], false⟩]) (.seq (.seq (.region [
      ⟨(some 8), .mov (.tmp 0), none, [], false⟩,
      ⟨(some 9), .callV (.func 32) [(.tmp 8)], none, [], false⟩]) (.cond (.tmp 9)
    (.seq (.region [
      ⟨(some 4), .mov (.const (.bool false)), none, [], false⟩]) .ret)
    .skip)) (.seq (.region [
      ⟨(some 11), .mov (.tmp 0), none, [], false⟩,
      ⟨(some 12), .nilCheck (.tmp 11), none, [], false⟩,
      ⟨(some 13), .fieldAddr 257 (.tmp 12), none, [], false⟩,
      ⟨(some 14), .load none (.tmp 13), none, [], false⟩,
      ⟨(some 15), .mov (.tmp 1), none, [], false⟩,
      ⟨(some 16), .lookup (.int .i64) (.pointer none) true (.tmp 14) (.tmp 15), none, [], false⟩,
      ⟨(some 10), .mov (.tmp 16), none, [], false⟩,
      ⟨(some 17), .extract 0 (.tmp 10), none, [], false⟩,
      ⟨(some 18), .extract 1 (.tmp 10), none, [], false⟩,
      ⟨(some 5), .mov (.tmp 17), none, [], false⟩,
      ⟨(some 6), .mov (.tmp 18), none, [], false⟩]) (.seq (.seq (.region [
      ⟨(some 19), .mov (.tmp 6), none, [], false⟩]) (.cond (.tmp 19)
    (.seq (.region [
      ⟨(some 20), .mov (.tmp 0), none, [], false⟩,
      ⟨(some 21), .mov (.tmp 5), none, [], false⟩,
      ⟨(some 22), .nilCheck (.tmp 21), none, [], false⟩,
      ⟨(some 23), .fieldAddr 1 (.tmp 22), none, [], false⟩,
      ⟨(some 24), .load none (.tmp 23), none, [], false⟩,
      ⟨(some 25), .callV (.func 36) [(.tmp 20), (.tmp 24)], none, [], false⟩,
      ⟨(some 7), .mov (.tmp 25), none, [], false⟩]) (.seq (.region [
      ⟨(some 26), .mov (.tmp 7), none, [], false⟩,
      ⟨(some 27), .mkIface 71 (.tmp 26), none, [], false⟩,
      ⟨(some 28), .mov (.tmp 7), none, [], false⟩,
      ⟨(some 29), .nilCheck (.tmp 28), none, [], false⟩,
      ⟨(some 30), .load none (.tmp 29), none, [], false⟩,
      ⟨(some 31), .mov (.tmp 5), none, [], false⟩,
      ⟨(some 32), .callV (.func 38) [(.tmp 30), (.tmp 31)], none, [], false⟩,
      ⟨(some 33), .callV (.func 37) [(.tmp 27), (.tmp 32)], none, [], false⟩]) (.region [
      ⟨(some 34), .mov (.tmp 0), none, [], false⟩,
      ⟨(some 35), .nilCheck (.tmp 34), none, [], false⟩,
      ⟨(some 36), .fieldAddr 257 (.tmp 35), none, [], false⟩,
      ⟨(some 37), .load none (.tmp 36), none, [], false⟩,
      ⟨(some 38), .mov (.tmp 1), none, [], false⟩,
      ⟨none, .delete (.int .i64) (.tmp 37) (.tmp 38), none, [], false⟩])))
    .skip)) (.seq (.region [
      ⟨(some 39), .mov (.tmp 6), none, [], false⟩,
      ⟨(some 4), .mov (.tmp 39), none, [], false⟩]) .ret)))))
noncomputable def wheel_Wheel_Stop : AFunc := ⟨40, [(4, none)], wheel_Wheel_Stop_c, none⟩
theorem wheel_Wheel_Stop_t0 : tableOf Try.prog 15 = some wheel_Wheel_Stop := by kernel_rfl
theorem wheel_Wheel_Stop_t : T0 15 = some wheel_Wheel_Stop := withKept_t rfl (withTrue_t rfl wheel_Wheel_Stop_t0)
theorem wheel_Wheel_Stop_runs {v0 v1 : Value} {h : Heap} {R : RP} {X : XP} (k : RunC Try.prog T0 wheel_Wheel_Stop_c ⟨[v0, v1, undef, undef, undef, undef, undef, undef, undef, undef, undef, undef, undef, undef, undef, undef, undef, undef, undef, undef, undef, undef, undef, undef, undef, undef, undef, undef, undef, undef, undef, undef, undef, undef, undef, undef, undef, undef, undef, undef], [], h, none⟩ (bodyQ Try.prog T0 [(4, none)] R X)) :
    Runs Try.prog T0 (.fn 15) [v0, v1] h R X := Runs.fn wheel_Wheel_Stop_t rfl k


/-! 16 (*landfall/wheel.Wheel).When -/
abbrev fn_wheel_Wheel_When : FuncId := 16
noncomputable def wheel_Wheel_When_c : ACode :=
  (.seq (.region [
      ⟨(some 4), .mov (.const (.int .i64 0)), none, [], false⟩,
      ⟨(some 5), .mov (.const (.bool false)), none, [], false⟩]) (.seq (.seq (.region [
      ⟨(some 8), .mov (.tmp 0), none, [], false⟩,
      ⟨(some 9), .callV (.func 32) [(.tmp 8)], none, [], false⟩]) (.cond (.tmp 9)
    (.seq (.region [
      ⟨(some 4), .mov (.const (.int .i64 0)), none, [], false⟩,
      ⟨(some 5), .mov (.const (.bool false)), none, [], false⟩]) .ret)
    .skip)) (.seq (.region [
      ⟨(some 11), .mov (.tmp 0), none, [], false⟩,
      ⟨(some 12), .nilCheck (.tmp 11), none, [], false⟩,
      ⟨(some 13), .fieldAddr 257 (.tmp 12), none, [], false⟩,
      ⟨(some 14), .load none (.tmp 13), none, [], false⟩,
      ⟨(some 15), .mov (.tmp 1), none, [], false⟩,
      ⟨(some 16), .lookup (.int .i64) (.pointer none) true (.tmp 14) (.tmp 15), none, [], false⟩,
      ⟨(some 10), .mov (.tmp 16), none, [], false⟩,
      ⟨(some 17), .extract 0 (.tmp 10), none, [], false⟩,
      ⟨(some 18), .extract 1 (.tmp 10), none, [], false⟩,
      ⟨(some 6), .mov (.tmp 17), none, [], false⟩,
      ⟨(some 7), .mov (.tmp 18), none, [], false⟩]) (.seq (.seq (.region [
      ⟨(some 19), .mov (.tmp 7), none, [], false⟩,
      ⟨(some 20), .raw (so (.unOp .not 4 (.tmp 19)) 4), none, [], false⟩]) (.cond (.tmp 20)
    (.seq (.region [
      ⟨(some 4), .mov (.const (.int .i64 0)), none, [], false⟩,
      ⟨(some 5), .mov (.const (.bool false)), none, [], false⟩]) .ret)
    .skip)) (.seq (.region [
      ⟨(some 21), .mov (.tmp 6), none, [], false⟩,
      ⟨(some 22), .nilCheck (.tmp 21), none, [], false⟩,
      ⟨(some 23), .fieldAddr 1 (.tmp 22), none, [], false⟩,
      ⟨(some 24), .load none (.tmp 23), none, [], false⟩,
      ⟨(some 4), .mov (.tmp 24), none, [], false⟩,
      ⟨(some 5), .mov (.const (.bool true)), none, [], false⟩]) .ret)))))
noncomputable def wheel_Wheel_When : AFunc := ⟨25, [(4, none), (5, none)], wheel_Wheel_When_c, none⟩
theorem wheel_Wheel_When_t0 : tableOf Try.prog 16 = some wheel_Wheel_When := by kernel_rfl
theorem wheel_Wheel_When_t : T0 16 = some wheel_Wheel_When := withKept_t rfl (withTrue_t rfl wheel_Wheel_When_t0)
theorem wheel_Wheel_When_runs {v0 v1 : Value} {h : Heap} {R : RP} {X : XP} (k : RunC Try.prog T0 wheel_Wheel_When_c ⟨[v0, v1, undef, undef, undef, undef, undef, undef, undef, undef, undef, undef, undef, undef, undef, undef, undef, undef, undef, undef, undef, undef, undef, undef, undef], [], h, none⟩ (bodyQ Try.prog T0 [(4, none), (5, none)] R X)) :
    Runs Try.prog T0 (.fn 16) [v0, v1] h R X := Runs.fn wheel_Wheel_When_t rfl k


/-! 21 (*landfall/wheel.Wheel).Len -/
abbrev fn_wheel_Wheel_Len : FuncId := 21
noncomputable def wheel_Wheel_Len_c : ACode :=
  (.seq (.region [
      ⟨(some 2), .mov (.const (.int .i64 0)), none, [], false⟩]) (.seq (.seq (.region [
      ⟨(some 3), .mov (.tmp 0), none, [], false⟩,
      ⟨(some 4), .callV (.func 32) [(.tmp 3)], none, [], false⟩]) (.cond (.tmp 4)
    (.seq (.region [
      ⟨(some 2), .mov (.const (.int .i64 0)), none, [], false⟩]) .ret)
    .skip)) (.seq (.region [
      ⟨(some 5), .mov (.tmp 0), none, [], false⟩,
      ⟨(some 6), .nilCheck (.tmp 5), none, [], false⟩,
      ⟨(some 7), .fieldAddr 257 (.tmp 6), none, [], false⟩,
      ⟨(some 8), .load none (.tmp 7), none, [], false⟩,
      ⟨(some 9), .lenMap (.tmp 8), none, [], false⟩,
      ⟨(some 2), .mov (.tmp 9), none, [], false⟩]) .ret)))
noncomputable def wheel_Wheel_Len : AFunc := ⟨10, [(2, none)], wheel_Wheel_Len_c, none⟩
theorem wheel_Wheel_Len_t0 : tableOf Try.prog 21 = some wheel_Wheel_Len := by kernel_rfl
theorem wheel_Wheel_Len_t : T0 21 = some wheel_Wheel_Len := withKept_t rfl (withTrue_t rfl wheel_Wheel_Len_t0)
theorem wheel_Wheel_Len_runs {v0 : Value} {h : Heap} {R : RP} {X : XP} (k : RunC Try.prog T0 wheel_Wheel_Len_c ⟨[v0, undef, undef, undef, undef, undef, undef, undef, undef, undef], [], h, none⟩ (bodyQ Try.prog T0 [(2, none)] R X)) :
    Runs Try.prog T0 (.fn 21) [v0] h R X := Runs.fn wheel_Wheel_Len_t rfl k


/-! 29 (*landfall/wheel.Wheel).List -/
abbrev fn_wheel_Wheel_List : FuncId := 29
noncomputable def wheel_Wheel_List_l0 : ACode :=
  (.seq (.region [
      ⟨(some 8), .bin .lss (so (.binOp .lss 3 (.tmp 7) (.const (.int .i64 256)) 3) 0) (.tmp 7) (.const (.int .i64 256)), none, [], false⟩]) (.seq (.cond (.tmp 8)
    .skip
    (.exit 0)) (.seq (.block 1 (.seq (.region [
      ⟨(some 9), .mov (.tmp 7), none, [], false⟩,
      ⟨(some 4), .mov (.tmp 9), none, [], false⟩]) (.region [
      ⟨(some 10), .mov (.tmp 3), none, [], false⟩,
      ⟨(some 11), .mov (.tmp 0), none, [], false⟩,
      ⟨(some 12), .mov (.tmp 4), none, [], false⟩,
      ⟨(some 13), .nilCheck (.tmp 11), none, [], false⟩,
      ⟨(some 14), .fieldAddr 1 (.tmp 13), none, [], false⟩,
      ⟨(some 15), .indexArr 256 1 (.tmp 14) (.tmp 12), none, [], false⟩,
      ⟨(some 16), .load none (.tmp 15), none, [], false⟩,
      ⟨(some 17), .append 66 1 8 [(.pointer none)] false (.tmp 10) (.tmp 16), none, [], false⟩,
      ⟨(some 3), .mov (.tmp 17), none, [], false⟩]))) (.region [
      ⟨(some 18), .bin .add (so (.binOp .add 3 (.tmp 7) (.const (.int .i64 1)) 3) 3) (.tmp 7) (.const (.int .i64 1)), none, [], false⟩,
      ⟨(some 7), .mov (.tmp 18), none, [], false⟩]))))
noncomputable def wheel_Wheel_List_c : ACode :=
  (.seq (.region [
      ⟨(some 2), .mov (.const (.slice none 0 0)), none, [], false⟩]) (.seq (.seq (.region [
      ⟨(some 5), .mov (.tmp 0), none, [], false⟩,
      ⟨(some 6), .callV (.func 32) [(.tmp 5)], none, [], false⟩]) (.cond (.tmp 6)
    (.seq (.region [
      ⟨(some 2), .mov (.const (.slice none 0 0)), none, [], false⟩]) .ret)
    .skip)) (.seq (.region [
      ⟨(some 3), .mov (.const (.slice none 0 0)), none, [], false⟩]) (.seq (.seq (.region [
      ⟨(some 7), .mov (.const (.int .i64 0)), none, [], false⟩]) (.block 0 (.loop wheel_Wheel_List_l0))) (.seq (.region [
      ⟨(some 19), .mov (.tmp 3), none, [], false⟩,
      ⟨(some 20), .callV (.func 34) [(.tmp 19)], none, [], false⟩,
      ⟨(some 2), .mov (.tmp 20), none, [], false⟩]) .ret)))))
noncomputable def wheel_Wheel_List : AFunc := ⟨21, [(2, none)], wheel_Wheel_List_c, none⟩
theorem wheel_Wheel_List_t0 : tableOf Try.prog 29 = some wheel_Wheel_List := by kernel_rfl
theorem wheel_Wheel_List_t : T0 29 = some wheel_Wheel_List := withKept_t rfl (withTrue_t rfl wheel_Wheel_List_t0)
theorem wheel_Wheel_List_runs {v0 : Value} {h : Heap} {R : RP} {X : XP} (k : RunC Try.prog T0 wheel_Wheel_List_c ⟨[v0, undef, undef, undef, undef, undef, undef, undef, undef, undef, undef, undef, undef, undef, undef, undef, undef, undef, undef, undef, undef], [], h, none⟩ (bodyQ Try.prog T0 [(2, none)] R X)) :
    Runs Try.prog T0 (.fn 29) [v0] h R X := Runs.fn wheel_Wheel_List_t rfl k
/-- the slots that turn in the loop: v3 v7 -/
noncomputable def wheel_Wheel_List_l0_J (f0 f1 f2 f5 f6 f19 f20 : Value) (ds : List Deferred) (rd : Option Nat) (I : Nat → Value → Value → Heap → Prop) (m : Nat) (s : St) : Prop := ∃ (v3 v7 : Value), ∃ h : Heap, ∃ (x4 x8 x9 x10 x11 x12 x13 x14 x15 x16 x17 x18 : Value), s = ⟨[f0, f1, f2, v3, x4, f5, f6, v7, x8, x9, x10, x11, x12, x13, x14, x15, x16, x17, x18, f19, f20], ds, h, rd⟩ ∧ I m v3 v7 h
theorem wheel_Wheel_List_l0_rule {f0 f1 f2 f5 f6 f19 f20 : Value} {ds : List Deferred} {rd : Option Nat} {Q : QP} (I : Nat → Value → Value → Heap → Prop) (hb : ∀ (m : Nat) (v3 v7 : Value) (h : Heap) (x4 x8 x9 x10 x11 x12 x13 x14 x15 x16 x17 x18 : Value) , I m v3 v7 h → RunC Try.prog T0 wheel_Wheel_List_l0 ⟨[f0, f1, f2, v3, x4, f5, f6, v7, x8, x9, x10, x11, x12, x13, x14, x15, x16, x17, x18, f19, f20], ds, h, rd⟩ (loopQ (wheel_Wheel_List_l0_J f0 f1 f2 f5 f6 f19 f20 ds rd I) m Q))
    (m : Nat) {v3 v7 : Value} {h : Heap} {x4 x8 x9 x10 x11 x12 x13 x14 x15 x16 x17 x18 : Value} (hi : I m v3 v7 h) : RunC Try.prog T0 (.loop wheel_Wheel_List_l0) ⟨[f0, f1, f2, v3, x4, f5, f6, v7, x8, x9, x10, x11, x12, x13, x14, x15, x16, x17, x18, f19, f20], ds, h, rd⟩ Q :=
  RunC.loopJ (wheel_Wheel_List_l0_J f0 f1 f2 f5 f6 f19 f20 ds rd I) (fun m s hj => by obtain ⟨v3, v7, h, x4, x8, x9, x10, x11, x12, x13, x14, x15, x16, x17, x18, rfl, hi⟩ := hj; exact hb m v3 v7 h x4 x8 x9 x10 x11 x12 x13 x14 x15 x16 x17 x18 hi) m _ ⟨_, _, h, _, _, _, _, _, _, _, _, _, _, _, _, rfl, hi⟩
theorem wheel_Wheel_List_l0_again {f0 f1 f2 f5 f6 f19 f20 : Value} {ds : List Deferred} {rd : Option Nat} {Q : QP} {I : Nat → Value → Value → Heap → Prop} {m : Nat} (m' : Nat) {v3 v7 : Value} {h : Heap} {x4 x8 x9 x10 x11 x12 x13 x14 x15 x16 x17 x18 : Value} (hm : m' < m) (hi : I m' v3 v7 h) : loopQ (wheel_Wheel_List_l0_J f0 f1 f2 f5 f6 f19 f20 ds rd I) m Q .normal ⟨[f0, f1, f2, v3, x4, f5, f6, v7, x8, x9, x10, x11, x12, x13, x14, x15, x16, x17, x18, f19, f20], ds, h, rd⟩ :=
  loopQ.again m' hm ⟨_, _, h, _, _, _, _, _, _, _, _, _, _, _, _, rfl, hi⟩

/-! 32 (*landfall/wheel.Wheel).none -/
abbrev fn_wheel_Wheel_none : FuncId := 32
noncomputable def wheel_Wheel_none_c : ACode :=
  (.seq (.region [
      ⟨(some 2), .mov (.const (.bool false)), none, [], false⟩]) (.seq (.region [
      ⟨(some 3), .mov (.tmp 0), none, [], false⟩,
      ⟨(some 4), .eq .ptr false (so (.binOp .eql 22 (.tmp 3) (.const (.pointer none)) 22) 4) (.tmp 3) (.const (.pointer none)), none, [], false⟩,
      ⟨(some 5), .mov (.tmp 4), none, [], false⟩,
      ⟨(some 6), .mov (.tmp 0), (some (5, false)), [], false⟩,
      ⟨(some 7), .nilCheck (.tmp 6), (some (5, false)), [], false⟩,
      ⟨(some 8), .fieldAddr 0 (.tmp 7), (some (5, false)), [], false⟩,
      ⟨(some 9), .load none (.tmp 8), (some (5, false)), [], false⟩,
      ⟨(some 10), .bin .eql (so (.binOp .eql 3 (.tmp 9) (.const (.int .i64 0)) 3) 4) (.tmp 9) (.const (.int .i64 0)), (some (5, false)), [], false⟩,
      ⟨(some 11), .pick (.tmp 5) (.const (.bool true)) (.tmp 10), none, [], false⟩,
      ⟨(some 2), .mov (.tmp 11), none, [], false⟩]) .ret))
noncomputable def wheel_Wheel_none : AFunc := ⟨12, [(2, none)], wheel_Wheel_none_c, none⟩
theorem wheel_Wheel_none_t0 : tableOf Try.prog 32 = some wheel_Wheel_none := by kernel_rfl
theorem wheel_Wheel_none_t : T0 32 = some wheel_Wheel_none := withKept_t rfl (withTrue_t rfl wheel_Wheel_none_t0)
theorem wheel_Wheel_none_runs {v0 : Value} {h : Heap} {R : RP} {X : XP} (k : RunC Try.prog T0 wheel_Wheel_none_c ⟨[v0, undef, undef, undef, undef, undef, undef, undef, undef, undef, undef, undef], [], h, none⟩ (bodyQ Try.prog T0 [(2, none)] R X)) :
    Runs Try.prog T0 (.fn 32) [v0] h R X := Runs.fn wheel_Wheel_none_t rfl k



end Go.Proofs.Ytfmpaoolplnpjaa.A
