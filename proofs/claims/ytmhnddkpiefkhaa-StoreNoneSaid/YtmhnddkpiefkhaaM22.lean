/- Functions of the program, as the machine has them: written by a program of mine (GenVm.lean), each held against the given program by the kernel. -/
import Derived.Test.YtmhnddkpiefkhaaRows
import Derived.Test.YtmhnddkpiefkhaaVJ
set_option maxRecDepth 100000
set_option linter.unusedVariables false
namespace Go.Proofs.Ytmhnddkpiefkhaa.A
open Go Go.Vm

abbrev ty_internal_abi_BoundsErrorCode : TypeId := 6
abbrev ty_runtime_boundsError : TypeId := 8
abbrev ty_runtime_errorString : TypeId := 10
abbrev ty_runtime_plainError : TypeId := 11
abbrev ty_runtime_errorAddressString : TypeId := 14
abbrev ty_internal_runtime_maps_unhashableTypeError : TypeId := 19
abbrev ty_api_Errno : TypeId := 24
abbrev ty_api_Hash : TypeId := 28
abbrev ty_api_Header : TypeId := 30
abbrev ty_api_Commit : TypeId := 33
abbrev ty_api_Block : TypeId := 36
abbrev ty_api_Kept : TypeId := 47
abbrev ty_landfalllaw22_Act : TypeId := 53
abbrev ty_landfallref22_Store : TypeId := 69
abbrev ty_store_Store : TypeId := 75
abbrev ty_store_kept : TypeId := 82
abbrev ty_store_heights : TypeId := 101
abbrev ty_iter_Seq_int_ : TypeId := 104
abbrev ty_api_Key : TypeId := 111
abbrev ty_api_Validator : TypeId := 113
abbrev ty_api_Vote : TypeId := 117
abbrev ty_iter_Seq__store_kept_ : TypeId := 119
abbrev ty_container_heap_Interface : TypeId := 126
abbrev ty_runtime_TypeAssertionError : TypeId := 134
abbrev ty_runtime_PanicNilError : TypeId := 137
abbrev ty_internal_abi_TFlag : TypeId := 139
abbrev ty_internal_abi_Kind : TypeId := 140
abbrev ty_internal_abi_NameOff : TypeId := 143
abbrev ty_internal_abi_TypeOff : TypeId := 144
abbrev ty_internal_abi_Type : TypeId := 146
instance : IsIface Try.prog 20 := ⟨by kernel_rfl⟩
instance : IsIface Try.prog 125 := ⟨by kernel_rfl⟩
instance : IsIface Try.prog 126 := ⟨by kernel_rfl⟩
/-- functions that are known to come to true -/
abbrev prims : List FuncId := [15]
abbrev kepts : List FuncId := []
noncomputable def T0 : Table := withKept (withTrue Try.prog prims) kepts
abbrev fn_landfalllaw22_awake : FuncId := 15
theorem landfalllaw22_awake_known {h : Heap} : Runs Try.prog T0 (.fn 15) [] h (fun r h' => r = .bool true ∧ h' = h) (fun _ _ => False) := known_runs rfl
instance : IsBoolT Try.prog 4 := ⟨by kernel_rfl⟩
instance : TLeaves Try.prog 7 (.i .i64 :: (.i .i64 :: (.b :: (.i .u8 :: [])))) := ⟨by kernel_rfl, by kernel_rfl, by kernel_rfl⟩
instance : TLeaves Try.prog 8 (.i .i64 :: (.i .i64 :: (.b :: (.i .u8 :: [])))) := ⟨by kernel_rfl, by kernel_rfl, by kernel_rfl⟩
instance : TLeaves Try.prog 27 (u8s 32) := ⟨by kernel_rfl, by kernel_rfl, by kernel_rfl⟩
instance : TLeaves Try.prog 28 (u8s 32) := ⟨by kernel_rfl, by kernel_rfl, by kernel_rfl⟩
instance : TLeaves Try.prog 29 (.s :: (.i .i64 :: (.i .i64 :: (u8s 32 ++ (u8s 32 ++ (u8s 32 ++ (u8s 32))))))) := ⟨by kernel_rfl, by kernel_rfl, by kernel_rfl⟩
instance : TLeaves Try.prog 30 (.s :: (.i .i64 :: (.i .i64 :: (u8s 32 ++ (u8s 32 ++ (u8s 32 ++ (u8s 32))))))) := ⟨by kernel_rfl, by kernel_rfl, by kernel_rfl⟩
instance : TLeaves Try.prog 46 (.i .i64 :: (.b :: (.b :: []))) := ⟨by kernel_rfl, by kernel_rfl, by kernel_rfl⟩
instance : TLeaves Try.prog 47 (.i .i64 :: (.b :: (.b :: []))) := ⟨by kernel_rfl, by kernel_rfl, by kernel_rfl⟩
instance : TLeaves Try.prog 110 (u8s 4) := ⟨by kernel_rfl, by kernel_rfl, by kernel_rfl⟩
instance : TLeaves Try.prog 111 (u8s 4) := ⟨by kernel_rfl, by kernel_rfl, by kernel_rfl⟩
instance : TLeaves Try.prog 112 (u8s 4 ++ (.i .i64 :: [])) := ⟨by kernel_rfl, by kernel_rfl, by kernel_rfl⟩
instance : TLeaves Try.prog 113 (u8s 4 ++ (.i .i64 :: [])) := ⟨by kernel_rfl, by kernel_rfl, by kernel_rfl⟩
instance : TLeaves Try.prog 116 (.i .i64 :: (.i .u64 :: [])) := ⟨by kernel_rfl, by kernel_rfl, by kernel_rfl⟩
instance : TLeaves Try.prog 117 (.i .i64 :: (.i .u64 :: [])) := ⟨by kernel_rfl, by kernel_rfl, by kernel_rfl⟩

/-! 7 landfall/landfalllaw22.StoreNone -/
abbrev fn_landfalllaw22_StoreNone : FuncId := 7
noncomputable def landfalllaw22_StoreNone_l0 : ACode :=
  (.seq (.seq (.region [
      ⟨(some 20), .mov (.tmp 6), none, [], false⟩,
      ⟨(some 21), .mov (.tmp 5), none, [], false⟩,
      ⟨(some 22), .lenSl (.tmp 21), none, [], false⟩,
      ⟨(some 23), .bin .lss (so (.binOp .lss 3 (.tmp 20) (.tmp 22) 3) 4) (.tmp 20) (.tmp 22), none, [], false⟩]) (.cond (.tmp 23)
    .skip
    (.exit 0))) (.seq (.block 1 (.seq (.region [
      ⟨(some 26), .mov (.tmp 5), none, [], false⟩,
      ⟨(some 27), .mov (.tmp 6), none, [], false⟩,
      ⟨(some 28), .indexSl 1 (.tmp 26) (.tmp 27), none, [], false⟩,
      ⟨(some 29), .load none (.tmp 28), none, [], false⟩,
      ⟨(some 7), .mov (.tmp 29), none, [], false⟩]) (.seq (.region [
      ⟨(some 31), .mov (.tmp 7), none, [], false⟩,
      ⟨(some 32), .load (some 166) (.tmp 2), none, [], false⟩,
      ⟨(some 33), .callV (.func 21) [(.tmp 31), (.tmp 32)], none, [], false⟩,
      ⟨(some 30), .mov (.tmp 33), none, [], false⟩,
      ⟨(some 34), .extract 0 (.tmp 30), none, [], false⟩,
      ⟨(some 35), .extract 1 (.tmp 30), none, [], false⟩,
      ⟨(some 8), .mov (.tmp 34), none, [], false⟩,
      ⟨(some 9), .mov (.tmp 35), none, [], false⟩]) (.seq (.region [
      ⟨(some 37), .mov (.tmp 7), none, [], false⟩,
      ⟨(some 38), .mov (.tmp 1), none, [], false⟩,
      ⟨(some 39), .callV (.func 14) [(.tmp 37), (.tmp 38)], none, [], false⟩,
      ⟨(some 36), .mov (.tmp 39), none, [], false⟩,
      ⟨(some 40), .extract 0 (.tmp 36), none, [], false⟩,
      ⟨(some 41), .extract 1 (.tmp 36), none, [], false⟩,
      ⟨(some 10), .alloc 36 ((.string ⟨⟨[]⟩⟩) :: ((.int .i64 0) :: ((.int .i64 0) :: (z32 ++ (z32 ++ (z32 ++ (z32 ++ ((.int .i64 0) :: (z32 ++ [(.slice none 0 0), (.slice none 0 0)]))))))))), none, [], false⟩,
      ⟨none, .store 166 (.tmp 10) (.tmp 40), none, [], false⟩,
      ⟨(some 11), .mov (.tmp 41), none, [], false⟩]) (.seq (.region [
      ⟨(some 43), .mov (.tmp 7), none, [], false⟩,
      ⟨(some 44), .mov (.tmp 1), none, [], false⟩,
      ⟨(some 45), .callV (.func 10) [(.tmp 43), (.tmp 44)], none, [], false⟩,
      ⟨(some 42), .mov (.tmp 45), none, [], false⟩,
      ⟨(some 46), .extract 0 (.tmp 42), none, [], false⟩,
      ⟨(some 47), .extract 1 (.tmp 42), none, [], false⟩,
      ⟨(some 12), .alloc 36 ((.string ⟨⟨[]⟩⟩) :: ((.int .i64 0) :: ((.int .i64 0) :: (z32 ++ (z32 ++ (z32 ++ (z32 ++ ((.int .i64 0) :: (z32 ++ [(.slice none 0 0), (.slice none 0 0)]))))))))), none, [], false⟩,
      ⟨none, .store 166 (.tmp 12) (.tmp 46), none, [], false⟩,
      ⟨(some 13), .mov (.tmp 47), none, [], false⟩]) (.seq (.region [
      ⟨(some 48), .mov (.tmp 7), none, [], false⟩,
      ⟨(some 49), .mov (.tmp 1), none, [], false⟩,
      ⟨(some 50), .callV (.func 13) [(.tmp 48), (.tmp 49)], none, [], false⟩]) (.seq (.region [
      ⟨(some 51), .mov (.tmp 8), none, [], false⟩,
      ⟨(some 52), .bin .neq (so (.binOp .neq 3 (.tmp 51) (.const (.int .i64 0)) 3) 4) (.tmp 51) (.const (.int .i64 0)), none, [], false⟩,
      ⟨(some 53), .mov (.tmp 52), none, [], false⟩,
      ⟨(some 54), .mov (.tmp 9), (some (53, false)), [], false⟩,
      ⟨(some 55), .bin .neq (so (.binOp .neq 24 (.tmp 54) (.const (.int .i64 1)) 24) 4) (.tmp 54) (.const (.int .i64 1)), (some (53, false)), [], false⟩,
      ⟨(some 56), .pick (.tmp 53) (.const (.bool true)) (.tmp 55), none, [], false⟩,
      ⟨(some 57), .mov (.tmp 56), none, [], false⟩,
      ⟨(some 58), .mov (.tmp 11), (some (57, false)), [], false⟩,
      ⟨(some 59), .pick (.tmp 57) (.const (.bool true)) (.tmp 58), none, [], false⟩,
      ⟨(some 60), .mov (.tmp 59), none, [], false⟩,
      ⟨(some 61), .mov (.tmp 13), (some (60, false)), [], false⟩,
      ⟨(some 62), .pick (.tmp 60) (.const (.bool true)) (.tmp 61), none, [], false⟩,
      ⟨(some 63), .mov (.tmp 62), none, [], false⟩,
      ⟨(some 64), .load (some 166) (.tmp 10), (some (63, false)), [], false⟩,
      ⟨(some 65), .build ((.string ⟨⟨[]⟩⟩) :: ((.int .i64 0) :: ((.int .i64 0) :: (z32 ++ (z32 ++ (z32 ++ (z32 ++ ((.int .i64 0) :: (z32 ++ [(.slice none 0 0), (.slice none 0 0)]))))))))) [], (some (63, false)), [], false⟩,
      ⟨(some 66), .callV (.func 27) [(.tmp 64), (.tmp 65)], (some (63, false)), [], false⟩,
      ⟨(some 67), .raw (so (.unOp .not 4 (.tmp 66)) 4), (some (63, false)), [], false⟩,
      ⟨(some 68), .pick (.tmp 63) (.const (.bool true)) (.tmp 67), none, [], false⟩,
      ⟨(some 69), .mov (.tmp 68), none, [], false⟩,
      ⟨(some 70), .load (some 166) (.tmp 12), (some (69, false)), [], false⟩,
      ⟨(some 71), .build ((.string ⟨⟨[]⟩⟩) :: ((.int .i64 0) :: ((.int .i64 0) :: (z32 ++ (z32 ++ (z32 ++ (z32 ++ ((.int .i64 0) :: (z32 ++ [(.slice none 0 0), (.slice none 0 0)]))))))))) [], (some (69, false)), [], false⟩,
      ⟨(some 72), .callV (.func 27) [(.tmp 70), (.tmp 71)], (some (69, false)), [], false⟩,
      ⟨(some 73), .raw (so (.unOp .not 4 (.tmp 72)) 4), (some (69, false)), [], false⟩,
      ⟨(some 74), .pick (.tmp 69) (.const (.bool true)) (.tmp 73), none, [], false⟩,
      ⟨(some 75), .mov (.tmp 74), none, [], false⟩,
      ⟨(some 76), .mov (.tmp 7), (some (75, false)), [], false⟩,
      ⟨(some 77), .mov (.tmp 1), (some (75, false)), [], false⟩,
      ⟨(some 78), .callV (.func 12) [(.tmp 76), (.tmp 77), (.const (.bool true))], (some (75, false)), [], false⟩,
      ⟨(some 79), .bin .neq (so (.binOp .neq 24 (.tmp 78) (.const (.int .i64 1)) 24) 4) (.tmp 78) (.const (.int .i64 1)), (some (75, false)), [], false⟩,
      ⟨(some 80), .pick (.tmp 75) (.const (.bool true)) (.tmp 79), none, [], false⟩,
      ⟨(some 81), .mov (.tmp 80), none, [], false⟩,
      ⟨(some 82), .mov (.tmp 7), (some (81, false)), [], false⟩,
      ⟨(some 83), .mov (.tmp 1), (some (81, false)), [], false⟩,
      ⟨(some 84), .callV (.func 18) [(.tmp 82), (.tmp 83)], (some (81, false)), [], false⟩,
      ⟨(some 85), .bin .neq (so (.binOp .neq 24 (.tmp 84) (.const (.int .i64 1)) 24) 4) (.tmp 84) (.const (.int .i64 1)), (some (81, false)), [], false⟩,
      ⟨(some 86), .pick (.tmp 81) (.const (.bool true)) (.tmp 85), none, [], false⟩,
      ⟨(some 87), .mov (.tmp 86), none, [], false⟩,
      ⟨(some 88), .mov (.tmp 7), (some (87, false)), [], false⟩,
      ⟨(some 89), .callV (.func 17) [(.tmp 88)], (some (87, false)), [], false⟩,
      ⟨(some 90), .lenSl (.tmp 89), (some (87, false)), [], false⟩,
      ⟨(some 91), .bin .gtr (so (.binOp .gtr 3 (.tmp 90) (.const (.int .i64 0)) 3) 4) (.tmp 90) (.const (.int .i64 0)), (some (87, false)), [], false⟩,
      ⟨(some 92), .pick (.tmp 87) (.const (.bool true)) (.tmp 91), none, [], false⟩,
      ⟨(some 93), .mov (.tmp 92), none, [], false⟩,
      ⟨(some 94), .mov (.tmp 7), (some (93, false)), [], false⟩,
      ⟨(some 95), .callV (.func 34) [(.tmp 94)], (some (93, false)), [], false⟩,
      ⟨(some 96), .bin .neq (so (.binOp .neq 3 (.tmp 95) (.const (.int .i64 0)) 3) 4) (.tmp 95) (.const (.int .i64 0)), (some (93, false)), [], false⟩,
      ⟨(some 97), .pick (.tmp 93) (.const (.bool true)) (.tmp 96), none, [], false⟩]) (.cond (.tmp 97)
    (.seq (.region [
      ⟨(some 4), .mov (.const (.bool false)), none, [], false⟩]) .ret)
    .skip)))))))) (.region [
      ⟨(some 24), .mov (.tmp 6), none, [], false⟩,
      ⟨(some 25), .bin .add (so (.binOp .add 3 (.tmp 24) (.const (.int .i64 1)) 3) 3) (.tmp 24) (.const (.int .i64 1)), none, [], false⟩,
      ⟨(some 6), .mov (.tmp 25), none, [], false⟩])))
noncomputable def landfalllaw22_StoreNone_c : ACode :=
  (.seq (.region [
      ⟨(some 2), .box 36 (.tmp 0), none, [], false⟩,
      ⟨(some 4), .mov (.const (.bool false)), none, [], false⟩]) (.seq (.seq (.region [
      ⟨(some 14), .load (some 166) (.tmp 2), none, [], false⟩,
      ⟨(some 15), .callV (.func 36) [(.tmp 14)], none, [], false⟩]) (.cond (.tmp 15)
    (.seq (.region [
      ⟨(some 16), .callV (.func 15) [], none, [], false⟩,
      ⟨(some 4), .mov (.tmp 16), none, [], false⟩]) .ret)
    .skip)) (.seq (.region [
      ⟨(some 17), .build [(.int .i64 0), (.map none)] [], none, [], false⟩,
      ⟨(some 18), .box 75 (.tmp 17), none, [], false⟩,
      ⟨(some 19), .buildSlice 22 [(.pointer none), (.pointer none)] 2 [(0, 1, (.const (.pointer none))), (1, 1, (.tmp 18))], none, [], false⟩,
      ⟨(some 5), .mov (.tmp 19), none, [], false⟩]) (.seq (.seq (.region [
      ⟨(some 6), .mov (.const (.int .i64 0)), none, [], false⟩]) (.block 0 (.loop landfalllaw22_StoreNone_l0))) (.seq (.region [
      ⟨(some 98), .callV (.func 15) [], none, [], false⟩,
      ⟨(some 4), .mov (.tmp 98), none, [], false⟩]) .ret)))))
noncomputable def landfalllaw22_StoreNone : AFunc := ⟨99, [(4, none)], landfalllaw22_StoreNone_c, none⟩
theorem landfalllaw22_StoreNone_t0 : tableOf Try.prog 7 = some landfalllaw22_StoreNone := by kernel_rfl
theorem landfalllaw22_StoreNone_t : T0 7 = some landfalllaw22_StoreNone := withKept_t rfl (withTrue_t rfl landfalllaw22_StoreNone_t0)
theorem landfalllaw22_StoreNone_runs {v0 v1 : Value} {h : Heap} {R : RP} {X : XP} (k : RunC Try.prog T0 landfalllaw22_StoreNone_c ⟨[v0, v1, undef, undef, undef, undef, undef, undef, undef, undef, undef, undef, undef, undef, undef, undef, undef, undef, undef, undef, undef, undef, undef, undef, undef, undef, undef, undef, undef, undef, undef, undef, undef, undef, undef, undef, undef, undef, undef, undef, undef, undef, undef, undef, undef, undef, undef, undef, undef, undef, undef, undef, undef, undef, undef, undef, undef, undef, undef, undef, undef, undef, undef, undef, undef, undef, undef, undef, undef, undef, undef, undef, undef, undef, undef, undef, undef, undef, undef, undef, undef, undef, undef, undef, undef, undef, undef, undef, undef, undef, undef, undef, undef, undef, undef, undef, undef, undef, undef], [], h, none⟩ (bodyQ Try.prog T0 [(4, none)] R X)) :
    Runs Try.prog T0 (.fn 7) [v0, v1] h R X := Runs.fn landfalllaw22_StoreNone_t rfl k
/-- the slots that turn in the loop: v6 -/
noncomputable def landfalllaw22_StoreNone_l0_J (f0 f1 f2 f3 f5 f14 f15 f16 f17 f18 f19 f98 : Value) (ds : List Deferred) (rd : Option Nat) (I : Nat → Value → Heap → Prop) (m : Nat) (s : St) : Prop := ∃ (v6 : Value), ∃ h : Heap, ∃ (x4 x7 x8 x9 x10 x11 x12 x13 x20 x21 x22 x23 x24 x25 x26 x27 x28 x29 x30 x31 x32 x33 x34 x35 x36 x37 x38 x39 x40 x41 x42 x43 x44 x45 x46 x47 x48 x49 x50 x51 x52 x53 x54 x55 x56 x57 x58 x59 x60 x61 x62 x63 x64 x65 x66 x67 x68 x69 x70 x71 x72 x73 x74 x75 x76 x77 x78 x79 x80 x81 x82 x83 x84 x85 x86 x87 x88 x89 x90 x91 x92 x93 x94 x95 x96 x97 : Value), s = ⟨[f0, f1, f2, f3, x4, f5, v6, x7, x8, x9, x10, x11, x12, x13, f14, f15, f16, f17, f18, f19, x20, x21, x22, x23, x24, x25, x26, x27, x28, x29, x30, x31, x32, x33, x34, x35, x36, x37, x38, x39, x40, x41, x42, x43, x44, x45, x46, x47, x48, x49, x50, x51, x52, x53, x54, x55, x56, x57, x58, x59, x60, x61, x62, x63, x64, x65, x66, x67, x68, x69, x70, x71, x72, x73, x74, x75, x76, x77, x78, x79, x80, x81, x82, x83, x84, x85, x86, x87, x88, x89, x90, x91, x92, x93, x94, x95, x96, x97, f98], ds, h, rd⟩ ∧ I m v6 h
theorem landfalllaw22_StoreNone_l0_rule {f0 f1 f2 f3 f5 f14 f15 f16 f17 f18 f19 f98 : Value} {ds : List Deferred} {rd : Option Nat} {Q : QP} (I : Nat → Value → Heap → Prop) (hb : ∀ (m : Nat) (v6 : Value) (h : Heap) (x4 x7 x8 x9 x10 x11 x12 x13 x20 x21 x22 x23 x24 x25 x26 x27 x28 x29 x30 x31 x32 x33 x34 x35 x36 x37 x38 x39 x40 x41 x42 x43 x44 x45 x46 x47 x48 x49 x50 x51 x52 x53 x54 x55 x56 x57 x58 x59 x60 x61 x62 x63 x64 x65 x66 x67 x68 x69 x70 x71 x72 x73 x74 x75 x76 x77 x78 x79 x80 x81 x82 x83 x84 x85 x86 x87 x88 x89 x90 x91 x92 x93 x94 x95 x96 x97 : Value) , I m v6 h → RunC Try.prog T0 landfalllaw22_StoreNone_l0 ⟨[f0, f1, f2, f3, x4, f5, v6, x7, x8, x9, x10, x11, x12, x13, f14, f15, f16, f17, f18, f19, x20, x21, x22, x23, x24, x25, x26, x27, x28, x29, x30, x31, x32, x33, x34, x35, x36, x37, x38, x39, x40, x41, x42, x43, x44, x45, x46, x47, x48, x49, x50, x51, x52, x53, x54, x55, x56, x57, x58, x59, x60, x61, x62, x63, x64, x65, x66, x67, x68, x69, x70, x71, x72, x73, x74, x75, x76, x77, x78, x79, x80, x81, x82, x83, x84, x85, x86, x87, x88, x89, x90, x91, x92, x93, x94, x95, x96, x97, f98], ds, h, rd⟩ (loopQ (landfalllaw22_StoreNone_l0_J f0 f1 f2 f3 f5 f14 f15 f16 f17 f18 f19 f98 ds rd I) m Q))
    (m : Nat) {v6 : Value} {h : Heap} {x4 x7 x8 x9 x10 x11 x12 x13 x20 x21 x22 x23 x24 x25 x26 x27 x28 x29 x30 x31 x32 x33 x34 x35 x36 x37 x38 x39 x40 x41 x42 x43 x44 x45 x46 x47 x48 x49 x50 x51 x52 x53 x54 x55 x56 x57 x58 x59 x60 x61 x62 x63 x64 x65 x66 x67 x68 x69 x70 x71 x72 x73 x74 x75 x76 x77 x78 x79 x80 x81 x82 x83 x84 x85 x86 x87 x88 x89 x90 x91 x92 x93 x94 x95 x96 x97 : Value} (hi : I m v6 h) : RunC Try.prog T0 (.loop landfalllaw22_StoreNone_l0) ⟨[f0, f1, f2, f3, x4, f5, v6, x7, x8, x9, x10, x11, x12, x13, f14, f15, f16, f17, f18, f19, x20, x21, x22, x23, x24, x25, x26, x27, x28, x29, x30, x31, x32, x33, x34, x35, x36, x37, x38, x39, x40, x41, x42, x43, x44, x45, x46, x47, x48, x49, x50, x51, x52, x53, x54, x55, x56, x57, x58, x59, x60, x61, x62, x63, x64, x65, x66, x67, x68, x69, x70, x71, x72, x73, x74, x75, x76, x77, x78, x79, x80, x81, x82, x83, x84, x85, x86, x87, x88, x89, x90, x91, x92, x93, x94, x95, x96, x97, f98], ds, h, rd⟩ Q :=
  RunC.loopJ (landfalllaw22_StoreNone_l0_J f0 f1 f2 f3 f5 f14 f15 f16 f17 f18 f19 f98 ds rd I) (fun m s hj => by obtain ⟨v6, h, x4, x7, x8, x9, x10, x11, x12, x13, x20, x21, x22, x23, x24, x25, x26, x27, x28, x29, x30, x31, x32, x33, x34, x35, x36, x37, x38, x39, x40, x41, x42, x43, x44, x45, x46, x47, x48, x49, x50, x51, x52, x53, x54, x55, x56, x57, x58, x59, x60, x61, x62, x63, x64, x65, x66, x67, x68, x69, x70, x71, x72, x73, x74, x75, x76, x77, x78, x79, x80, x81, x82, x83, x84, x85, x86, x87, x88, x89, x90, x91, x92, x93, x94, x95, x96, x97, rfl, hi⟩ := hj; exact hb m v6 h x4 x7 x8 x9 x10 x11 x12 x13 x20 x21 x22 x23 x24 x25 x26 x27 x28 x29 x30 x31 x32 x33 x34 x35 x36 x37 x38 x39 x40 x41 x42 x43 x44 x45 x46 x47 x48 x49 x50 x51 x52 x53 x54 x55 x56 x57 x58 x59 x60 x61 x62 x63 x64 x65 x66 x67 x68 x69 x70 x71 x72 x73 x74 x75 x76 x77 x78 x79 x80 x81 x82 x83 x84 x85 x86 x87 x88 x89 x90 x91 x92 x93 x94 x95 x96 x97 hi) m _ ⟨_, h, _, _, _, _, _, _, _, _, _, _, _, _, _, _, _, _, _, _, _, _, _, _, _, _, _, _, _, _, _, _, _, _, _, _, _, _, _, _, _, _, _, _, _, _, _, _, _, _, _, _, _, _, _, _, _, _, _, _, _, _, _, _, _, _, _, _, _, _, _, _, _, _, _, _, _, _, _, _, _, _, _, _, _, _, _, _, rfl, hi⟩
theorem landfalllaw22_StoreNone_l0_again {f0 f1 f2 f3 f5 f14 f15 f16 f17 f18 f19 f98 : Value} {ds : List Deferred} {rd : Option Nat} {Q : QP} {I : Nat → Value → Heap → Prop} {m : Nat} (m' : Nat) {v6 : Value} {h : Heap} {x4 x7 x8 x9 x10 x11 x12 x13 x20 x21 x22 x23 x24 x25 x26 x27 x28 x29 x30 x31 x32 x33 x34 x35 x36 x37 x38 x39 x40 x41 x42 x43 x44 x45 x46 x47 x48 x49 x50 x51 x52 x53 x54 x55 x56 x57 x58 x59 x60 x61 x62 x63 x64 x65 x66 x67 x68 x69 x70 x71 x72 x73 x74 x75 x76 x77 x78 x79 x80 x81 x82 x83 x84 x85 x86 x87 x88 x89 x90 x91 x92 x93 x94 x95 x96 x97 : Value} (hm : m' < m) (hi : I m' v6 h) : loopQ (landfalllaw22_StoreNone_l0_J f0 f1 f2 f3 f5 f14 f15 f16 f17 f18 f19 f98 ds rd I) m Q .normal ⟨[f0, f1, f2, f3, x4, f5, v6, x7, x8, x9, x10, x11, x12, x13, f14, f15, f16, f17, f18, f19, x20, x21, x22, x23, x24, x25, x26, x27, x28, x29, x30, x31, x32, x33, x34, x35, x36, x37, x38, x39, x40, x41, x42, x43, x44, x45, x46, x47, x48, x49, x50, x51, x52, x53, x54, x55, x56, x57, x58, x59, x60, x61, x62, x63, x64, x65, x66, x67, x68, x69, x70, x71, x72, x73, x74, x75, x76, x77, x78, x79, x80, x81, x82, x83, x84, x85, x86, x87, x88, x89, x90, x91, x92, x93, x94, x95, x96, x97, f98], ds, h, rd⟩ :=
  loopQ.again m' hm ⟨_, h, _, _, _, _, _, _, _, _, _, _, _, _, _, _, _, _, _, _, _, _, _, _, _, _, _, _, _, _, _, _, _, _, _, _, _, _, _, _, _, _, _, _, _, _, _, _, _, _, _, _, _, _, _, _, _, _, _, _, _, _, _, _, _, _, _, _, _, _, _, _, _, _, _, _, _, _, _, _, _, _, _, _, _, _, _, _, rfl, hi⟩

/-! 10 (*landfall/store.Store).Below -/
abbrev fn_store_Store_Below : FuncId := 10
noncomputable def store_Store_Below_l0 : ACode :=
  (.seq (.region [
      ⟨(some 16), .bin .lss (so (.binOp .lss 3 (.tmp 15) (.tmp 14) 3) 0) (.tmp 15) (.tmp 14), none, [], false⟩]) (.seq (.cond (.tmp 16)
    .skip
    (.exit 0)) (.seq (.block 1 (.seq (.region [
      ⟨(some 17), .indexSl 1 (.tmp 13) (.tmp 15), none, [], false⟩,
      ⟨(some 18), .load none (.tmp 17), none, [], false⟩,
      ⟨(some 7), .mov (.tmp 18), none, [], false⟩]) (.seq (.region [
      ⟨(some 19), .mov (.tmp 0), none, [], false⟩,
      ⟨(some 20), .nilCheck (.tmp 19), none, [], false⟩,
      ⟨(some 21), .fieldAddr 1 (.tmp 20), none, [], false⟩,
      ⟨(some 22), .load none (.tmp 21), none, [], false⟩,
      ⟨(some 23), .mov (.tmp 7), none, [], false⟩,
      ⟨(some 24), .lookup (.int .i64) (.pointer none) false (.tmp 22) (.tmp 23), none, [], false⟩,
      ⟨(some 8), .mov (.tmp 24), none, [], false⟩]) (.seq (.region [
      ⟨(some 25), .mov (.tmp 7), none, [], false⟩,
      ⟨(some 26), .mov (.tmp 1), none, [], false⟩,
      ⟨(some 27), .bin .lss (so (.binOp .lss 3 (.tmp 25) (.tmp 26) 3) 4) (.tmp 25) (.tmp 26), none, [], false⟩,
      ⟨(some 28), .mov (.tmp 27), none, [], false⟩,
      ⟨(some 29), .mov (.tmp 8), (some (28, true)), [], false⟩,
      ⟨(some 30), .nilCheck (.tmp 29), (some (28, true)), [], false⟩,
      ⟨(some 31), .fieldAddr 166 (.tmp 30), (some (28, true)), [], false⟩,
      ⟨(some 32), .load none (.tmp 31), (some (28, true)), [], false⟩,
      ⟨(some 33), .pick (.tmp 28) (.tmp 32) (.const (.bool false)), none, [], false⟩]) (.cond (.tmp 33)
    (.region [
      ⟨(some 34), .mov (.tmp 8), none, [], false⟩,
      ⟨(some 35), .nilCheck (.tmp 34), none, [], false⟩,
      ⟨(some 36), .fieldAddr 0 (.tmp 35), none, [], false⟩,
      ⟨(some 37), .load (some 166) (.tmp 36), none, [], false⟩,
      ⟨(some 38), .callV (.func 39) [(.tmp 37)], none, [], false⟩,
      ⟨none, .store 166 (.tmp 4) (.tmp 38), none, [], false⟩,
      ⟨(some 5), .mov (.const (.bool true)), none, [], false⟩])
    .skip))))) (.region [
      ⟨(some 39), .bin .add (so (.binOp .add 3 (.tmp 15) (.const (.int .i64 1)) 3) 3) (.tmp 15) (.const (.int .i64 1)), none, [], false⟩,
      ⟨(some 15), .mov (.tmp 39), none, [], false⟩]))))
noncomputable def store_Store_Below_c : ACode :=
  (.seq (.region [
      ⟨(some 4), .alloc 36 ((.string ⟨⟨[]⟩⟩) :: ((.int .i64 0) :: ((.int .i64 0) :: (z32 ++ (z32 ++ (z32 ++ (z32 ++ ((.int .i64 0) :: (z32 ++ [(.slice none 0 0), (.slice none 0 0)]))))))))), none, [], false⟩,
      ⟨(some 5), .mov (.const (.bool false)), none, [], false⟩]) (.seq (.seq (.region [
      ⟨(some 9), .mov (.tmp 0), none, [], false⟩,
      ⟨(some 10), .callV (.func 37) [(.tmp 9)], none, [], false⟩]) (.cond (.tmp 10)
    (.seq (.region [
      ⟨(some 11), .build ((.string ⟨⟨[]⟩⟩) :: ((.int .i64 0) :: ((.int .i64 0) :: (z32 ++ (z32 ++ (z32 ++ (z32 ++ ((.int .i64 0) :: (z32 ++ [(.slice none 0 0), (.slice none 0 0)]))))))))) [], none, [], false⟩,
      ⟨none, .store 166 (.tmp 4) (.tmp 11), none, [], false⟩,
      ⟨(some 5), .mov (.const (.bool false)), none, [], false⟩]) .ret)
    .skip)) (.seq (.seq (.region [
      ⟨(some 12), .mov (.tmp 0), none, [], false⟩,
      ⟨(some 13), .callV (.func 38) [(.tmp 12)], none, [], false⟩,
      ⟨(some 14), .lenSl (.tmp 13), none, [], false⟩,
      ⟨(some 15), .mov (.const (.int .i64 0)), none, [], false⟩]) (.block 0 (.loop store_Store_Below_l0))) (.seq (.region [
      ⟨(some 40), .load (some 166) (.tmp 4), none, [], false⟩,
      ⟨(some 41), .mov (.tmp 5), none, [], false⟩,
      ⟨none, .store 166 (.tmp 4) (.tmp 40), none, [], false⟩,
      ⟨(some 5), .mov (.tmp 41), none, [], false⟩]) .ret))))
noncomputable def store_Store_Below : AFunc := ⟨42, [(4, some (some 166)), (5, none)], store_Store_Below_c, none⟩
theorem store_Store_Below_t0 : tableOf Try.prog 10 = some store_Store_Below := by kernel_rfl
theorem store_Store_Below_t : T0 10 = some store_Store_Below := withKept_t rfl (withTrue_t rfl store_Store_Below_t0)
theorem store_Store_Below_runs {v0 v1 : Value} {h : Heap} {R : RP} {X : XP} (k : RunC Try.prog T0 store_Store_Below_c ⟨[v0, v1, undef, undef, undef, undef, undef, undef, undef, undef, undef, undef, undef, undef, undef, undef, undef, undef, undef, undef, undef, undef, undef, undef, undef, undef, undef, undef, undef, undef, undef, undef, undef, undef, undef, undef, undef, undef, undef, undef, undef, undef], [], h, none⟩ (bodyQ Try.prog T0 [(4, some (some 166)), (5, none)] R X)) :
    Runs Try.prog T0 (.fn 10) [v0, v1] h R X := Runs.fn store_Store_Below_t rfl k
/-- the slots that turn in the loop: v5 v15 -/
noncomputable def store_Store_Below_l0_J (f0 f1 f2 f3 f4 f6 f9 f10 f11 f12 f13 f14 f40 f41 : Value) (ds : List Deferred) (rd : Option Nat) (I : Nat → Value → Value → Heap → Prop) (m : Nat) (s : St) : Prop := ∃ (v5 v15 : Value), ∃ h : Heap, ∃ (x7 x8 x16 x17 x18 x19 x20 x21 x22 x23 x24 x25 x26 x27 x28 x29 x30 x31 x32 x33 x34 x35 x36 x37 x38 x39 : Value), s = ⟨[f0, f1, f2, f3, f4, v5, f6, x7, x8, f9, f10, f11, f12, f13, f14, v15, x16, x17, x18, x19, x20, x21, x22, x23, x24, x25, x26, x27, x28, x29, x30, x31, x32, x33, x34, x35, x36, x37, x38, x39, f40, f41], ds, h, rd⟩ ∧ I m v5 v15 h
theorem store_Store_Below_l0_rule {f0 f1 f2 f3 f4 f6 f9 f10 f11 f12 f13 f14 f40 f41 : Value} {ds : List Deferred} {rd : Option Nat} {Q : QP} (I : Nat → Value → Value → Heap → Prop) (hb : ∀ (m : Nat) (v5 v15 : Value) (h : Heap) (x7 x8 x16 x17 x18 x19 x20 x21 x22 x23 x24 x25 x26 x27 x28 x29 x30 x31 x32 x33 x34 x35 x36 x37 x38 x39 : Value) , I m v5 v15 h → RunC Try.prog T0 store_Store_Below_l0 ⟨[f0, f1, f2, f3, f4, v5, f6, x7, x8, f9, f10, f11, f12, f13, f14, v15, x16, x17, x18, x19, x20, x21, x22, x23, x24, x25, x26, x27, x28, x29, x30, x31, x32, x33, x34, x35, x36, x37, x38, x39, f40, f41], ds, h, rd⟩ (loopQ (store_Store_Below_l0_J f0 f1 f2 f3 f4 f6 f9 f10 f11 f12 f13 f14 f40 f41 ds rd I) m Q))
    (m : Nat) {v5 v15 : Value} {h : Heap} {x7 x8 x16 x17 x18 x19 x20 x21 x22 x23 x24 x25 x26 x27 x28 x29 x30 x31 x32 x33 x34 x35 x36 x37 x38 x39 : Value} (hi : I m v5 v15 h) : RunC Try.prog T0 (.loop store_Store_Below_l0) ⟨[f0, f1, f2, f3, f4, v5, f6, x7, x8, f9, f10, f11, f12, f13, f14, v15, x16, x17, x18, x19, x20, x21, x22, x23, x24, x25, x26, x27, x28, x29, x30, x31, x32, x33, x34, x35, x36, x37, x38, x39, f40, f41], ds, h, rd⟩ Q :=
  RunC.loopJ (store_Store_Below_l0_J f0 f1 f2 f3 f4 f6 f9 f10 f11 f12 f13 f14 f40 f41 ds rd I) (fun m s hj => by obtain ⟨v5, v15, h, x7, x8, x16, x17, x18, x19, x20, x21, x22, x23, x24, x25, x26, x27, x28, x29, x30, x31, x32, x33, x34, x35, x36, x37, x38, x39, rfl, hi⟩ := hj; exact hb m v5 v15 h x7 x8 x16 x17 x18 x19 x20 x21 x22 x23 x24 x25 x26 x27 x28 x29 x30 x31 x32 x33 x34 x35 x36 x37 x38 x39 hi) m _ ⟨_, _, h, _, _, _, _, _, _, _, _, _, _, _, _, _, _, _, _, _, _, _, _, _, _, _, _, _, _, rfl, hi⟩
theorem store_Store_Below_l0_again {f0 f1 f2 f3 f4 f6 f9 f10 f11 f12 f13 f14 f40 f41 : Value} {ds : List Deferred} {rd : Option Nat} {Q : QP} {I : Nat → Value → Value → Heap → Prop} {m : Nat} (m' : Nat) {v5 v15 : Value} {h : Heap} {x7 x8 x16 x17 x18 x19 x20 x21 x22 x23 x24 x25 x26 x27 x28 x29 x30 x31 x32 x33 x34 x35 x36 x37 x38 x39 : Value} (hm : m' < m) (hi : I m' v5 v15 h) : loopQ (store_Store_Below_l0_J f0 f1 f2 f3 f4 f6 f9 f10 f11 f12 f13 f14 f40 f41 ds rd I) m Q .normal ⟨[f0, f1, f2, f3, f4, v5, f6, x7, x8, f9, f10, f11, f12, f13, f14, v15, x16, x17, x18, x19, x20, x21, x22, x23, x24, x25, x26, x27, x28, x29, x30, x31, x32, x33, x34, x35, x36, x37, x38, x39, f40, f41], ds, h, rd⟩ :=
  loopQ.again m' hm ⟨_, _, h, _, _, _, _, _, _, _, _, _, _, _, _, _, _, _, _, _, _, _, _, _, _, _, _, _, _, rfl, hi⟩

/-! 12 (*landfall/store.Store).Pin -/
abbrev fn_store_Store_Pin : FuncId := 12
noncomputable def store_Store_Pin_c : ACode :=
  (.seq (.region [
      ⟨(some 5), .box 4 (.tmp 2), none, [], false⟩,
      ⟨(some 6), .mov (.const (.int .i64 0)), none, [], false⟩]) (.seq (.region [
      ⟨(some 7), .mov (.tmp 0), none, [], false⟩,
      ⟨(some 8), .mov (.tmp 1), none, [], false⟩,
      ⟨(some 9), .mkFunc (.func 42) [] [(.tmp 5)], none, [], false⟩,
      ⟨(some 10), .callV (.func 41) [(.tmp 7), (.tmp 8), (.tmp 9)], none, [], false⟩,
      ⟨(some 6), .mov (.tmp 10), none, [], false⟩]) .ret))
noncomputable def store_Store_Pin : AFunc := ⟨11, [(6, none)], store_Store_Pin_c, none⟩
theorem store_Store_Pin_t0 : tableOf Try.prog 12 = some store_Store_Pin := by kernel_rfl
theorem store_Store_Pin_t : T0 12 = some store_Store_Pin := withKept_t rfl (withTrue_t rfl store_Store_Pin_t0)
theorem store_Store_Pin_runs {v0 v1 v2 : Value} {h : Heap} {R : RP} {X : XP} (k : RunC Try.prog T0 store_Store_Pin_c ⟨[v0, v1, v2, undef, undef, undef, undef, undef, undef, undef, undef], [], h, none⟩ (bodyQ Try.prog T0 [(6, none)] R X)) :
    Runs Try.prog T0 (.fn 12) [v0, v1, v2] h R X := Runs.fn store_Store_Pin_t rfl k


/-! 13 (*landfall/store.Store).Clear -/
abbrev fn_store_Store_Clear : FuncId := 13
noncomputable def store_Store_Clear_c : ACode :=
  (.seq (.region [
      ⟨(some 3), .box 3 (.tmp 1), none, [], false⟩]) (.seq (.region [
      ⟨(some 4), .mov (.tmp 0), none, [], false⟩,
      ⟨(some 5), .callV (.func 37) [(.tmp 4)], none, [], false⟩,
      ⟨(some 6), .raw (so (.unOp .not 4 (.tmp 5)) 4), none, [], false⟩]) (.cond (.tmp 6)
    (.region [
      ⟨(some 7), .mov (.tmp 0), none, [], false⟩,
      ⟨(some 8), .nilCheck (.tmp 7), none, [], false⟩,
      ⟨(some 9), .fieldAddr 1 (.tmp 8), none, [], false⟩,
      ⟨(some 10), .load none (.tmp 9), none, [], false⟩,
      ⟨(some 11), .mkFunc (.func 44) [] [(.tmp 3)], none, [], false⟩,
      ⟨(some 12), .callV (.func 43) [(.tmp 10), (.tmp 11)], none, [], false⟩])
    .skip)))
noncomputable def store_Store_Clear : AFunc := ⟨13, [], store_Store_Clear_c, none⟩
theorem store_Store_Clear_t0 : tableOf Try.prog 13 = some store_Store_Clear := by kernel_rfl
theorem store_Store_Clear_t : T0 13 = some store_Store_Clear := withKept_t rfl (withTrue_t rfl store_Store_Clear_t0)
theorem store_Store_Clear_runs {v0 v1 : Value} {h : Heap} {R : RP} {X : XP} (k : RunC Try.prog T0 store_Store_Clear_c ⟨[v0, v1, undef, undef, undef, undef, undef, undef, undef, undef, undef, undef, undef], [], h, none⟩ (bodyQ Try.prog T0 [] R X)) :
    Runs Try.prog T0 (.fn 13) [v0, v1] h R X := Runs.fn store_Store_Clear_t rfl k


/-! 14 (*landfall/store.Store).Get -/
abbrev fn_store_Store_Get : FuncId := 14
noncomputable def store_Store_Get_c : ACode :=
  (.seq (.region [
      ⟨(some 4), .alloc 36 ((.string ⟨⟨[]⟩⟩) :: ((.int .i64 0) :: ((.int .i64 0) :: (z32 ++ (z32 ++ (z32 ++ (z32 ++ ((.int .i64 0) :: (z32 ++ [(.slice none 0 0), (.slice none 0 0)]))))))))), none, [], false⟩,
      ⟨(some 5), .mov (.const (.bool false)), none, [], false⟩]) (.seq (.seq (.region [
      ⟨(some 8), .mov (.tmp 0), none, [], false⟩,
      ⟨(some 9), .callV (.func 37) [(.tmp 8)], none, [], false⟩]) (.cond (.tmp 9)
    (.seq (.region [
      ⟨(some 10), .build ((.string ⟨⟨[]⟩⟩) :: ((.int .i64 0) :: ((.int .i64 0) :: (z32 ++ (z32 ++ (z32 ++ (z32 ++ ((.int .i64 0) :: (z32 ++ [(.slice none 0 0), (.slice none 0 0)]))))))))) [], none, [], false⟩,
      ⟨none, .store 166 (.tmp 4) (.tmp 10), none, [], false⟩,
      ⟨(some 5), .mov (.const (.bool false)), none, [], false⟩]) .ret)
    .skip)) (.seq (.region [
      ⟨(some 12), .mov (.tmp 0), none, [], false⟩,
      ⟨(some 13), .nilCheck (.tmp 12), none, [], false⟩,
      ⟨(some 14), .fieldAddr 1 (.tmp 13), none, [], false⟩,
      ⟨(some 15), .load none (.tmp 14), none, [], false⟩,
      ⟨(some 16), .mov (.tmp 1), none, [], false⟩,
      ⟨(some 17), .lookup (.int .i64) (.pointer none) true (.tmp 15) (.tmp 16), none, [], false⟩,
      ⟨(some 11), .mov (.tmp 17), none, [], false⟩,
      ⟨(some 18), .extract 0 (.tmp 11), none, [], false⟩,
      ⟨(some 19), .extract 1 (.tmp 11), none, [], false⟩,
      ⟨(some 6), .mov (.tmp 18), none, [], false⟩,
      ⟨(some 7), .mov (.tmp 19), none, [], false⟩]) (.seq (.seq (.region [
      ⟨(some 20), .mov (.tmp 7), none, [], false⟩,
      ⟨(some 21), .raw (so (.unOp .not 4 (.tmp 20)) 4), none, [], false⟩]) (.cond (.tmp 21)
    (.seq (.region [
      ⟨(some 22), .build ((.string ⟨⟨[]⟩⟩) :: ((.int .i64 0) :: ((.int .i64 0) :: (z32 ++ (z32 ++ (z32 ++ (z32 ++ ((.int .i64 0) :: (z32 ++ [(.slice none 0 0), (.slice none 0 0)]))))))))) [], none, [], false⟩,
      ⟨none, .store 166 (.tmp 4) (.tmp 22), none, [], false⟩,
      ⟨(some 5), .mov (.const (.bool false)), none, [], false⟩]) .ret)
    .skip)) (.seq (.region [
      ⟨(some 23), .mov (.tmp 6), none, [], false⟩,
      ⟨(some 24), .nilCheck (.tmp 23), none, [], false⟩,
      ⟨(some 25), .fieldAddr 0 (.tmp 24), none, [], false⟩,
      ⟨(some 26), .load (some 166) (.tmp 25), none, [], false⟩,
      ⟨(some 27), .callV (.func 39) [(.tmp 26)], none, [], false⟩,
      ⟨none, .store 166 (.tmp 4) (.tmp 27), none, [], false⟩,
      ⟨(some 5), .mov (.const (.bool true)), none, [], false⟩]) .ret)))))
noncomputable def store_Store_Get : AFunc := ⟨28, [(4, some (some 166)), (5, none)], store_Store_Get_c, none⟩
theorem store_Store_Get_t0 : tableOf Try.prog 14 = some store_Store_Get := by kernel_rfl
theorem store_Store_Get_t : T0 14 = some store_Store_Get := withKept_t rfl (withTrue_t rfl store_Store_Get_t0)
theorem store_Store_Get_runs {v0 v1 : Value} {h : Heap} {R : RP} {X : XP} (k : RunC Try.prog T0 store_Store_Get_c ⟨[v0, v1, undef, undef, undef, undef, undef, undef, undef, undef, undef, undef, undef, undef, undef, undef, undef, undef, undef, undef, undef, undef, undef, undef, undef, undef, undef, undef], [], h, none⟩ (bodyQ Try.prog T0 [(4, some (some 166)), (5, none)] R X)) :
    Runs Try.prog T0 (.fn 14) [v0, v1] h R X := Runs.fn store_Store_Get_t rfl k


/-! 17 (*landfall/store.Store).List -/
abbrev fn_store_Store_List : FuncId := 17
noncomputable def store_Store_List_l0 : ACode :=
  (.seq (.region [
      ⟨(some 12), .bin .lss (so (.binOp .lss 3 (.tmp 11) (.tmp 10) 3) 0) (.tmp 11) (.tmp 10), none, [], false⟩]) (.seq (.cond (.tmp 12)
    .skip
    (.exit 0)) (.seq (.block 1 (.seq (.region [
      ⟨(some 13), .indexSl 1 (.tmp 9) (.tmp 11), none, [], false⟩,
      ⟨(some 14), .load none (.tmp 13), none, [], false⟩,
      ⟨(some 4), .mov (.tmp 14), none, [], false⟩]) (.seq (.region [
      ⟨(some 15), .mov (.tmp 0), none, [], false⟩,
      ⟨(some 16), .nilCheck (.tmp 15), none, [], false⟩,
      ⟨(some 17), .fieldAddr 1 (.tmp 16), none, [], false⟩,
      ⟨(some 18), .load none (.tmp 17), none, [], false⟩,
      ⟨(some 19), .mov (.tmp 4), none, [], false⟩,
      ⟨(some 20), .lookup (.int .i64) (.pointer none) false (.tmp 18) (.tmp 19), none, [], false⟩,
      ⟨(some 5), .mov (.tmp 20), none, [], false⟩]) (.regionD [
      ⟨(some 21), .mov (.tmp 2), none, [], false⟩,
      ⟨(some 22), .mov (.tmp 4), none, [], false⟩,
      ⟨(some 23), .mov (.tmp 5), none, [], false⟩,
      ⟨(some 24), .nilCheck (.tmp 23), none, [], false⟩,
      ⟨(some 25), .fieldAddr 166 (.tmp 24), none, [], false⟩,
      ⟨(some 26), .load none (.tmp 25), none, [], false⟩,
      ⟨(some 27), .mov (.tmp 5), none, [], false⟩,
      ⟨(some 28), .nilCheck (.tmp 27), none, [], false⟩,
      ⟨(some 29), .fieldAddr 167 (.tmp 28), none, [], false⟩,
      ⟨(some 30), .load none (.tmp 29), none, [], false⟩,
      ⟨(some 31), .build [(.int .i64 0), (.bool false), (.bool false)] [(0, 1, (.tmp 22)), (1, 1, (.tmp 26)), (2, 1, (.tmp 30))], none, [], false⟩,
      ⟨(some 32), .buildSlice 47 [(.int .i64 0), (.bool false), (.bool false)] 1 [(0, 3, (.tmp 31))], none, [((some 21), .mov (.tmp 2), none)], false⟩,
      ⟨(some 33), .append 47 3 16 [(.int .i64 0), (.bool false), (.bool false)] false (.tmp 21) (.tmp 32), none, [], true⟩,
      ⟨(some 2), .mov (.tmp 33), none, [], true⟩])))) (.region [
      ⟨(some 34), .bin .add (so (.binOp .add 3 (.tmp 11) (.const (.int .i64 1)) 3) 3) (.tmp 11) (.const (.int .i64 1)), none, [], false⟩,
      ⟨(some 11), .mov (.tmp 34), none, [], false⟩]))))
noncomputable def store_Store_List_c : ACode :=
  (.seq (.region [
      ⟨(some 2), .mov (.const (.slice none 0 0)), none, [], false⟩]) (.seq (.seq (.region [
      ⟨(some 6), .mov (.tmp 0), none, [], false⟩,
      ⟨(some 7), .callV (.func 37) [(.tmp 6)], none, [], false⟩]) (.cond (.tmp 7)
    (.seq (.region [
      ⟨(some 2), .mov (.const (.slice none 0 0)), none, [], false⟩]) .ret)
    .skip)) (.seq (.seq (.region [
      ⟨(some 8), .mov (.tmp 0), none, [], false⟩,
      ⟨(some 9), .callV (.func 38) [(.tmp 8)], none, [], false⟩,
      ⟨(some 10), .lenSl (.tmp 9), none, [], false⟩,
      ⟨(some 11), .mov (.const (.int .i64 0)), none, [], false⟩]) (.block 0 (.loop store_Store_List_l0))) (.seq (.region [
      ⟨(some 35), .mov (.tmp 2), none, [], false⟩,
      ⟨(some 2), .mov (.tmp 35), none, [], false⟩]) .ret))))
noncomputable def store_Store_List : AFunc := ⟨36, [(2, none)], store_Store_List_c, none⟩
theorem store_Store_List_t0 : tableOf Try.prog 17 = some store_Store_List := by kernel_rfl
theorem store_Store_List_t : T0 17 = some store_Store_List := withKept_t rfl (withTrue_t rfl store_Store_List_t0)
theorem store_Store_List_runs {v0 : Value} {h : Heap} {R : RP} {X : XP} (k : RunC Try.prog T0 store_Store_List_c ⟨[v0, undef, undef, undef, undef, undef, undef, undef, undef, undef, undef, undef, undef, undef, undef, undef, undef, undef, undef, undef, undef, undef, undef, undef, undef, undef, undef, undef, undef, undef, undef, undef, undef, undef, undef, undef], [], h, none⟩ (bodyQ Try.prog T0 [(2, none)] R X)) :
    Runs Try.prog T0 (.fn 17) [v0] h R X := Runs.fn store_Store_List_t rfl k
/-- the slots that turn in the loop: v2 v11 -/
noncomputable def store_Store_List_l0_J (f0 f1 f3 f6 f7 f8 f9 f10 f35 : Value) (ds : List Deferred) (rd : Option Nat) (I : Nat → Value → Value → Heap → Prop) (m : Nat) (s : St) : Prop := ∃ (v2 v11 : Value), ∃ h : Heap, ∃ (x4 x5 x12 x13 x14 x15 x16 x17 x18 x19 x20 x21 x22 x23 x24 x25 x26 x27 x28 x29 x30 x31 x32 x33 x34 : Value), s = ⟨[f0, f1, v2, f3, x4, x5, f6, f7, f8, f9, f10, v11, x12, x13, x14, x15, x16, x17, x18, x19, x20, x21, x22, x23, x24, x25, x26, x27, x28, x29, x30, x31, x32, x33, x34, f35], ds, h, rd⟩ ∧ I m v2 v11 h
theorem store_Store_List_l0_rule {f0 f1 f3 f6 f7 f8 f9 f10 f35 : Value} {ds : List Deferred} {rd : Option Nat} {Q : QP} (I : Nat → Value → Value → Heap → Prop) (hb : ∀ (m : Nat) (v2 v11 : Value) (h : Heap) (x4 x5 x12 x13 x14 x15 x16 x17 x18 x19 x20 x21 x22 x23 x24 x25 x26 x27 x28 x29 x30 x31 x32 x33 x34 : Value) , I m v2 v11 h → RunC Try.prog T0 store_Store_List_l0 ⟨[f0, f1, v2, f3, x4, x5, f6, f7, f8, f9, f10, v11, x12, x13, x14, x15, x16, x17, x18, x19, x20, x21, x22, x23, x24, x25, x26, x27, x28, x29, x30, x31, x32, x33, x34, f35], ds, h, rd⟩ (loopQ (store_Store_List_l0_J f0 f1 f3 f6 f7 f8 f9 f10 f35 ds rd I) m Q))
    (m : Nat) {v2 v11 : Value} {h : Heap} {x4 x5 x12 x13 x14 x15 x16 x17 x18 x19 x20 x21 x22 x23 x24 x25 x26 x27 x28 x29 x30 x31 x32 x33 x34 : Value} (hi : I m v2 v11 h) : RunC Try.prog T0 (.loop store_Store_List_l0) ⟨[f0, f1, v2, f3, x4, x5, f6, f7, f8, f9, f10, v11, x12, x13, x14, x15, x16, x17, x18, x19, x20, x21, x22, x23, x24, x25, x26, x27, x28, x29, x30, x31, x32, x33, x34, f35], ds, h, rd⟩ Q :=
  RunC.loopJ (store_Store_List_l0_J f0 f1 f3 f6 f7 f8 f9 f10 f35 ds rd I) (fun m s hj => by obtain ⟨v2, v11, h, x4, x5, x12, x13, x14, x15, x16, x17, x18, x19, x20, x21, x22, x23, x24, x25, x26, x27, x28, x29, x30, x31, x32, x33, x34, rfl, hi⟩ := hj; exact hb m v2 v11 h x4 x5 x12 x13 x14 x15 x16 x17 x18 x19 x20 x21 x22 x23 x24 x25 x26 x27 x28 x29 x30 x31 x32 x33 x34 hi) m _ ⟨_, _, h, _, _, _, _, _, _, _, _, _, _, _, _, _, _, _, _, _, _, _, _, _, _, _, _, _, rfl, hi⟩
theorem store_Store_List_l0_again {f0 f1 f3 f6 f7 f8 f9 f10 f35 : Value} {ds : List Deferred} {rd : Option Nat} {Q : QP} {I : Nat → Value → Value → Heap → Prop} {m : Nat} (m' : Nat) {v2 v11 : Value} {h : Heap} {x4 x5 x12 x13 x14 x15 x16 x17 x18 x19 x20 x21 x22 x23 x24 x25 x26 x27 x28 x29 x30 x31 x32 x33 x34 : Value} (hm : m' < m) (hi : I m' v2 v11 h) : loopQ (store_Store_List_l0_J f0 f1 f3 f6 f7 f8 f9 f10 f35 ds rd I) m Q .normal ⟨[f0, f1, v2, f3, x4, x5, f6, f7, f8, f9, f10, v11, x12, x13, x14, x15, x16, x17, x18, x19, x20, x21, x22, x23, x24, x25, x26, x27, x28, x29, x30, x31, x32, x33, x34, f35], ds, h, rd⟩ :=
  loopQ.again m' hm ⟨_, _, h, _, _, _, _, _, _, _, _, _, _, _, _, _, _, _, _, _, _, _, _, _, _, _, _, _, rfl, hi⟩

/-! 18 (*landfall/store.Store).Verify -/
abbrev fn_store_Store_Verify : FuncId := 18
noncomputable def store_Store_Verify_c : ACode :=
  (.seq (.region [
      ⟨(some 4), .mov (.const (.int .i64 0)), none, [], false⟩]) (.seq (.region [
      ⟨(some 5), .mov (.tmp 0), none, [], false⟩,
      ⟨(some 6), .mov (.tmp 1), none, [], false⟩,
      ⟨(some 7), .callV (.func 41) [(.tmp 5), (.tmp 6), (.func 45)], none, [], false⟩,
      ⟨(some 4), .mov (.tmp 7), none, [], false⟩]) .ret))
noncomputable def store_Store_Verify : AFunc := ⟨8, [(4, none)], store_Store_Verify_c, none⟩
theorem store_Store_Verify_t0 : tableOf Try.prog 18 = some store_Store_Verify := by kernel_rfl
theorem store_Store_Verify_t : T0 18 = some store_Store_Verify := withKept_t rfl (withTrue_t rfl store_Store_Verify_t0)
theorem store_Store_Verify_runs {v0 v1 : Value} {h : Heap} {R : RP} {X : XP} (k : RunC Try.prog T0 store_Store_Verify_c ⟨[v0, v1, undef, undef, undef, undef, undef, undef], [], h, none⟩ (bodyQ Try.prog T0 [(4, none)] R X)) :
    Runs Try.prog T0 (.fn 18) [v0, v1] h R X := Runs.fn store_Store_Verify_t rfl k


/-! 21 (*landfall/store.Store).Put -/
abbrev fn_store_Store_Put : FuncId := 21
noncomputable def store_Store_Put_c : ACode :=
  (.seq (.region [
      ⟨(some 3), .box 36 (.tmp 1), none, [], false⟩,
      ⟨(some 4), .mov (.const (.int .i64 0)), none, [], false⟩,
      ⟨(some 5), .mov (.const (.int .i64 0)), none, [], false⟩]) (.seq (.seq (.region [
      ⟨(some 10), .mov (.tmp 0), none, [], false⟩,
      ⟨(some 11), .callV (.func 37) [(.tmp 10)], none, [], false⟩]) (.cond (.tmp 11)
    (.seq (.region [
      ⟨(some 4), .mov (.const (.int .i64 0)), none, [], false⟩,
      ⟨(some 5), .mov (.const (.int .i64 1)), none, [], false⟩]) .ret)
    .skip)) (.seq (.regionD [
      ⟨(some 13), .mov (.tmp 0), none, [], false⟩,
      ⟨(some 14), .nilCheck (.tmp 13), none, [], false⟩,
      ⟨(some 15), .fieldAddr 1 (.tmp 14), none, [], false⟩,
      ⟨(some 16), .load none (.tmp 15), none, [], false⟩,
      ⟨(some 17), .fieldAddr 0 (.tmp 3), none, [], false⟩,
      ⟨(some 18), .fieldAddr 1 (.tmp 17), none, [], false⟩,
      ⟨(some 19), .load none (.tmp 18), none, [], false⟩,
      ⟨(some 20), .lookup (.int .i64) (.pointer none) true (.tmp 16) (.tmp 19), none, [], true⟩,
      ⟨(some 12), .mov (.tmp 20), none, [], true⟩,
      ⟨(some 21), .extract 0 (.tmp 12), none, [], false⟩,
      ⟨(some 22), .extract 1 (.tmp 12), none, [], false⟩,
      ⟨(some 6), .mov (.tmp 21), none, [], false⟩,
      ⟨(some 7), .mov (.tmp 22), none, [], true⟩]) (.seq (.block 0 (.seq (.region [
      ⟨(some 24), .fieldAddr 0 (.tmp 3), none, [], false⟩,
      ⟨(some 25), .fieldAddr 1 (.tmp 24), none, [], false⟩,
      ⟨(some 26), .load none (.tmp 25), none, [], false⟩,
      ⟨(some 27), .bin .lss (so (.binOp .lss 3 (.tmp 26) (.const (.int .i64 1)) 3) 4) (.tmp 26) (.const (.int .i64 1)), none, [], false⟩,
      ⟨(some 28), .mov (.tmp 27), none, [], false⟩,
      ⟨(some 29), .fieldAddr 0 (.tmp 3), (some (28, false)), [], false⟩,
      ⟨(some 30), .fieldAddr 1 (.tmp 29), (some (28, false)), [], false⟩,
      ⟨(some 31), .load none (.tmp 30), (some (28, false)), [], false⟩,
      ⟨(some 32), .bin .gtr (so (.binOp .gtr 3 (.tmp 31) (.const (.int .i64 1073741824)) 3) 4) (.tmp 31) (.const (.int .i64 1073741824)), (some (28, false)), [], false⟩,
      ⟨(some 33), .pick (.tmp 28) (.const (.bool true)) (.tmp 32), none, [], false⟩,
      ⟨(some 23), .mov (.tmp 33), none, [], false⟩]) (.cond (.tmp 23)
    (.seq (.region [
      ⟨(some 4), .mov (.const (.int .i64 0)), none, [], false⟩,
      ⟨(some 5), .mov (.const (.int .i64 13)), none, [], false⟩]) .ret)
    (.seq (.region [
      ⟨(some 35), .mov (.tmp 7), none, [], false⟩,
      ⟨(some 34), .mov (.tmp 35), none, [], false⟩]) (.cond (.tmp 34)
    (.seq (.region [
      ⟨(some 4), .mov (.const (.int .i64 0)), none, [], false⟩,
      ⟨(some 5), .mov (.const (.int .i64 8)), none, [], false⟩]) .ret)
    .skip))))) (.seq (.region [
      ⟨(some 8), .mov (.const (.int .i64 0)), none, [], false⟩]) (.seq (.seq (.regionD [
      ⟨(some 36), .mov (.tmp 0), none, [], false⟩,
      ⟨(some 37), .nilCheck (.tmp 36), none, [], false⟩,
      ⟨(some 38), .fieldAddr 1 (.tmp 37), none, [], false⟩,
      ⟨(some 39), .load none (.tmp 38), none, [], false⟩,
      ⟨(some 40), .lenMap (.tmp 39), none, [], false⟩,
      ⟨(some 41), .mov (.tmp 0), none, [], false⟩,
      ⟨(some 42), .nilCheck (.tmp 41), none, [], false⟩,
      ⟨(some 43), .fieldAddr 0 (.tmp 42), none, [], false⟩,
      ⟨(some 44), .load none (.tmp 43), none, [], false⟩,
      ⟨(some 45), .bin .geq (so (.binOp .geq 3 (.tmp 40) (.tmp 44) 3) 4) (.tmp 40) (.tmp 44), none, [], true⟩]) (.cond (.tmp 45)
    (.seq (.region [
      ⟨(some 46), .mov (.tmp 0), none, [], false⟩,
      ⟨(some 47), .callV (.func 46) [(.tmp 46)], none, [], false⟩,
      ⟨(some 9), .mov (.tmp 47), none, [], false⟩]) (.seq (.seq (.region [
      ⟨(some 48), .mov (.tmp 9), none, [], false⟩,
      ⟨(some 49), .lenSl (.tmp 48), none, [], false⟩,
      ⟨(some 50), .bin .eql (so (.binOp .eql 3 (.tmp 49) (.const (.int .i64 0)) 3) 4) (.tmp 49) (.const (.int .i64 0)), none, [], false⟩]) (.cond (.tmp 50)
    (.seq (.region [
      ⟨(some 4), .mov (.const (.int .i64 0)), none, [], false⟩,
      ⟨(some 5), .mov (.const (.int .i64 7)), none, [], false⟩]) .ret)
    .skip)) (.seq (.region [
      ⟨(some 51), .mov (.tmp 9), none, [], false⟩,
      ⟨(some 52), .callV (.func 47) [(.tmp 51), (.func 48)], none, [], false⟩,
      ⟨(some 53), .nilCheck (.tmp 52), none, [], false⟩,
      ⟨(some 54), .fieldAddr 0 (.tmp 53), none, [], false⟩,
      ⟨(some 55), .fieldAddr 0 (.tmp 54), none, [], false⟩,
      ⟨(some 56), .fieldAddr 1 (.tmp 55), none, [], false⟩,
      ⟨(some 57), .load none (.tmp 56), none, [], false⟩,
      ⟨(some 8), .mov (.tmp 57), none, [], false⟩]) (.region [
      ⟨(some 58), .mov (.tmp 0), none, [], false⟩,
      ⟨(some 59), .nilCheck (.tmp 58), none, [], false⟩,
      ⟨(some 60), .fieldAddr 1 (.tmp 59), none, [], false⟩,
      ⟨(some 61), .load none (.tmp 60), none, [], false⟩,
      ⟨(some 62), .mov (.tmp 8), none, [], false⟩,
      ⟨none, .delete (.int .i64) (.tmp 61) (.tmp 62), none, [], false⟩]))))
    .skip)) (.seq (.regionD [
      ⟨(some 63), .mov (.tmp 0), none, [], false⟩,
      ⟨(some 64), .nilCheck (.tmp 63), none, [], false⟩,
      ⟨(some 65), .fieldAddr 1 (.tmp 64), none, [], false⟩,
      ⟨(some 66), .load none (.tmp 65), none, [], false⟩,
      ⟨(some 67), .fieldAddr 0 (.tmp 3), none, [], false⟩,
      ⟨(some 68), .fieldAddr 1 (.tmp 67), none, [], false⟩,
      ⟨(some 69), .load none (.tmp 68), none, [], false⟩,
      ⟨(some 70), .load (some 166) (.tmp 3), none, [], false⟩,
      ⟨(some 71), .callV (.func 39) [(.tmp 70)], none, [((some 69), .load none (.tmp 68), none), ((some 68), .fieldAddr 1 (.tmp 67), none), ((some 67), .fieldAddr 0 (.tmp 3), none), ((some 66), .load none (.tmp 65), none), ((some 65), .fieldAddr 1 (.tmp 64), none), ((some 64), .nilCheck (.tmp 63), none), ((some 63), .mov (.tmp 0), none)], false⟩,
      ⟨(some 72), .build ((.string ⟨⟨[]⟩⟩) :: ((.int .i64 0) :: ((.int .i64 0) :: (z32 ++ (z32 ++ (z32 ++ (z32 ++ ((.int .i64 0) :: (z32 ++ [(.slice none 0 0), (.slice none 0 0), (.bool false), (.bool false)]))))))))) [(0, 166, (.tmp 71))], none, [], false⟩,
      ⟨(some 73), .box 82 (.tmp 72), none, [((some 69), .load none (.tmp 68), none), ((some 68), .fieldAddr 1 (.tmp 67), none), ((some 67), .fieldAddr 0 (.tmp 3), none), ((some 66), .load none (.tmp 65), none), ((some 65), .fieldAddr 1 (.tmp 64), none), ((some 64), .nilCheck (.tmp 63), none), ((some 63), .mov (.tmp 0), none)], false⟩,
      ⟨none, .mapUpdate (.int .i64) (.tmp 66) (.tmp 69) (.tmp 73), none, [], true⟩]) (.seq (.region [
      ⟨(some 74), .mov (.tmp 8), none, [], false⟩,
      ⟨(some 4), .mov (.tmp 74), none, [], false⟩,
      ⟨(some 5), .mov (.const (.int .i64 0)), none, [], false⟩]) .ret))))))))
noncomputable def store_Store_Put : AFunc := ⟨75, [(4, none), (5, none)], store_Store_Put_c, none⟩
theorem store_Store_Put_t0 : tableOf Try.prog 21 = some store_Store_Put := by kernel_rfl
theorem store_Store_Put_t : T0 21 = some store_Store_Put := withKept_t rfl (withTrue_t rfl store_Store_Put_t0)
theorem store_Store_Put_runs {v0 v1 : Value} {h : Heap} {R : RP} {X : XP} (k : RunC Try.prog T0 store_Store_Put_c ⟨[v0, v1, undef, undef, undef, undef, undef, undef, undef, undef, undef, undef, undef, undef, undef, undef, undef, undef, undef, undef, undef, undef, undef, undef, undef, undef, undef, undef, undef, undef, undef, undef, undef, undef, undef, undef, undef, undef, undef, undef, undef, undef, undef, undef, undef, undef, undef, undef, undef, undef, undef, undef, undef, undef, undef, undef, undef, undef, undef, undef, undef, undef, undef, undef, undef, undef, undef, undef, undef, undef, undef, undef, undef, undef, undef], [], h, none⟩ (bodyQ Try.prog T0 [(4, none), (5, none)] R X)) :
    Runs Try.prog T0 (.fn 21) [v0, v1] h R X := Runs.fn store_Store_Put_t rfl k


/-! 27 landfall/landfallkit.SameBlock -/
abbrev fn_landfallkit_SameBlock : FuncId := 27
noncomputable def landfallkit_SameBlock_c : ACode :=
  (.seq (.region [
      ⟨(some 2), .box 36 (.tmp 0), none, [], false⟩,
      ⟨(some 3), .box 36 (.tmp 1), none, [], false⟩,
      ⟨(some 4), .mov (.const (.bool false)), none, [], false⟩]) (.seq (.region [
      ⟨(some 5), .fieldAddr 0 (.tmp 2), none, [], false⟩,
      ⟨(some 6), .load (some 131) (.tmp 5), none, [], false⟩,
      ⟨(some 7), .fieldAddr 0 (.tmp 3), none, [], false⟩,
      ⟨(some 8), .load (some 131) (.tmp 7), none, [], false⟩,
      ⟨(some 9), .bin .eql (so (.binOp .eql 30 (.tmp 6) (.tmp 8) 30) 4) (.tmp 6) (.tmp 8), none, [], false⟩,
      ⟨(some 10), .mov (.tmp 9), none, [], false⟩,
      ⟨(some 11), .fieldAddr 131 (.tmp 2), (some (10, true)), [], false⟩,
      ⟨(some 12), .load (some 34) (.tmp 11), (some (10, true)), [], false⟩,
      ⟨(some 13), .fieldAddr 131 (.tmp 3), (some (10, true)), [], false⟩,
      ⟨(some 14), .load (some 34) (.tmp 13), (some (10, true)), [], false⟩,
      ⟨(some 15), .callV (.func 54) [(.tmp 12), (.tmp 14)], (some (10, true)), [], false⟩,
      ⟨(some 16), .pick (.tmp 10) (.tmp 15) (.const (.bool false)), none, [], false⟩,
      ⟨(some 17), .mov (.tmp 16), none, [], false⟩,
      ⟨(some 18), .fieldAddr 165 (.tmp 2), (some (17, true)), [], false⟩,
      ⟨(some 19), .load none (.tmp 18), (some (17, true)), [], false⟩,
      ⟨(some 20), .fieldAddr 165 (.tmp 3), (some (17, true)), [], false⟩,
      ⟨(some 21), .load none (.tmp 20), (some (17, true)), [], false⟩,
      ⟨(some 22), .callV (.func 55) [(.tmp 19), (.tmp 21)], (some (17, true)), [], false⟩,
      ⟨(some 23), .pick (.tmp 17) (.tmp 22) (.const (.bool false)), none, [], false⟩,
      ⟨(some 4), .mov (.tmp 23), none, [], false⟩]) .ret))
noncomputable def landfallkit_SameBlock : AFunc := ⟨24, [(4, none)], landfallkit_SameBlock_c, none⟩
theorem landfallkit_SameBlock_t0 : tableOf Try.prog 27 = some landfallkit_SameBlock := by kernel_rfl
theorem landfallkit_SameBlock_t : T0 27 = some landfallkit_SameBlock := withKept_t rfl (withTrue_t rfl landfallkit_SameBlock_t0)
theorem landfallkit_SameBlock_runs {v0 v1 : Value} {h : Heap} {R : RP} {X : XP} (k : RunC Try.prog T0 landfallkit_SameBlock_c ⟨[v0, v1, undef, undef, undef, undef, undef, undef, undef, undef, undef, undef, undef, undef, undef, undef, undef, undef, undef, undef, undef, undef, undef, undef], [], h, none⟩ (bodyQ Try.prog T0 [(4, none)] R X)) :
    Runs Try.prog T0 (.fn 27) [v0, v1] h R X := Runs.fn landfallkit_SameBlock_t rfl k


/-! 34 (*landfall/store.Store).Room -/
abbrev fn_store_Store_Room : FuncId := 34
noncomputable def store_Store_Room_c : ACode :=
  (.seq (.region [
      ⟨(some 2), .mov (.const (.int .i64 0)), none, [], false⟩]) (.seq (.seq (.region [
      ⟨(some 3), .mov (.tmp 0), none, [], false⟩,
      ⟨(some 4), .callV (.func 37) [(.tmp 3)], none, [], false⟩]) (.cond (.tmp 4)
    (.seq (.region [
      ⟨(some 2), .mov (.const (.int .i64 0)), none, [], false⟩]) .ret)
    .skip)) (.seq (.region [
      ⟨(some 5), .mov (.tmp 0), none, [], false⟩,
      ⟨(some 6), .nilCheck (.tmp 5), none, [], false⟩,
      ⟨(some 7), .fieldAddr 0 (.tmp 6), none, [], false⟩,
      ⟨(some 8), .load none (.tmp 7), none, [], false⟩,
      ⟨(some 2), .mov (.tmp 8), none, [], false⟩]) .ret)))
noncomputable def store_Store_Room : AFunc := ⟨9, [(2, none)], store_Store_Room_c, none⟩
theorem store_Store_Room_t0 : tableOf Try.prog 34 = some store_Store_Room := by kernel_rfl
theorem store_Store_Room_t : T0 34 = some store_Store_Room := withKept_t rfl (withTrue_t rfl store_Store_Room_t0)
theorem store_Store_Room_runs {v0 : Value} {h : Heap} {R : RP} {X : XP} (k : RunC Try.prog T0 store_Store_Room_c ⟨[v0, undef, undef, undef, undef, undef, undef, undef, undef], [], h, none⟩ (bodyQ Try.prog T0 [(2, none)] R X)) :
    Runs Try.prog T0 (.fn 34) [v0] h R X := Runs.fn store_Store_Room_t rfl k


/-! 36 landfall/landfallkit.LongBlock -/
abbrev fn_landfallkit_LongBlock : FuncId := 36
noncomputable def landfallkit_LongBlock_c : ACode :=
  (.seq (.region [
      ⟨(some 1), .box 36 (.tmp 0), none, [], false⟩,
      ⟨(some 2), .mov (.const (.bool false)), none, [], false⟩]) (.seq (.region [
      ⟨(some 3), .fieldAddr 165 (.tmp 1), none, [], false⟩,
      ⟨(some 4), .load none (.tmp 3), none, [], false⟩,
      ⟨(some 5), .lenSl (.tmp 4), none, [], false⟩,
      ⟨(some 6), .bin .gtr (so (.binOp .gtr 3 (.tmp 5) (.const (.int .i64 70)) 3) 4) (.tmp 5) (.const (.int .i64 70)), none, [], false⟩,
      ⟨(some 7), .mov (.tmp 6), none, [], false⟩,
      ⟨(some 8), .fieldAddr 131 (.tmp 1), (some (7, false)), [], false⟩,
      ⟨(some 9), .fieldAddr 33 (.tmp 8), (some (7, false)), [], false⟩,
      ⟨(some 10), .load none (.tmp 9), (some (7, false)), [], false⟩,
      ⟨(some 11), .lenSl (.tmp 10), (some (7, false)), [], false⟩,
      ⟨(some 12), .bin .gtr (so (.binOp .gtr 3 (.tmp 11) (.const (.int .i64 70)) 3) 4) (.tmp 11) (.const (.int .i64 70)), (some (7, false)), [], false⟩,
      ⟨(some 13), .pick (.tmp 7) (.const (.bool true)) (.tmp 12), none, [], false⟩,
      ⟨(some 14), .mov (.tmp 13), none, [], false⟩,
      ⟨(some 15), .fieldAddr 0 (.tmp 1), (some (14, false)), [], false⟩,
      ⟨(some 16), .fieldAddr 0 (.tmp 15), (some (14, false)), [], false⟩,
      ⟨(some 17), .load none (.tmp 16), (some (14, false)), [], false⟩,
      ⟨(some 18), .lenStr (.tmp 17), (some (14, false)), [], false⟩,
      ⟨(some 19), .bin .gtr (so (.binOp .gtr 3 (.tmp 18) (.const (.int .i64 60)) 3) 4) (.tmp 18) (.const (.int .i64 60)), (some (14, false)), [], false⟩,
      ⟨(some 20), .pick (.tmp 14) (.const (.bool true)) (.tmp 19), none, [], false⟩,
      ⟨(some 2), .mov (.tmp 20), none, [], false⟩]) .ret))
noncomputable def landfallkit_LongBlock : AFunc := ⟨21, [(2, none)], landfallkit_LongBlock_c, none⟩
theorem landfallkit_LongBlock_t0 : tableOf Try.prog 36 = some landfallkit_LongBlock := by kernel_rfl
theorem landfallkit_LongBlock_t : T0 36 = some landfallkit_LongBlock := withKept_t rfl (withTrue_t rfl landfallkit_LongBlock_t0)
theorem landfallkit_LongBlock_runs {v0 : Value} {h : Heap} {R : RP} {X : XP} (k : RunC Try.prog T0 landfallkit_LongBlock_c ⟨[v0, undef, undef, undef, undef, undef, undef, undef, undef, undef, undef, undef, undef, undef, undef, undef, undef, undef, undef, undef, undef], [], h, none⟩ (bodyQ Try.prog T0 [(2, none)] R X)) :
    Runs Try.prog T0 (.fn 36) [v0] h R X := Runs.fn landfallkit_LongBlock_t rfl k


/-! 37 (*landfall/store.Store).none -/
abbrev fn_store_Store_none : FuncId := 37
noncomputable def store_Store_none_c : ACode :=
  (.seq (.region [
      ⟨(some 2), .mov (.const (.bool false)), none, [], false⟩]) (.seq (.region [
      ⟨(some 3), .mov (.tmp 0), none, [], false⟩,
      ⟨(some 4), .eq .ptr false (so (.binOp .eql 22 (.tmp 3) (.const (.pointer none)) 22) 4) (.tmp 3) (.const (.pointer none)), none, [], false⟩,
      ⟨(some 5), .mov (.tmp 4), none, [], false⟩,
      ⟨(some 6), .mov (.tmp 0), (some (5, false)), [], false⟩,
      ⟨(some 7), .nilCheck (.tmp 6), (some (5, false)), [], false⟩,
      ⟨(some 8), .fieldAddr 1 (.tmp 7), (some (5, false)), [], false⟩,
      ⟨(some 9), .load none (.tmp 8), (some (5, false)), [], false⟩,
      ⟨(some 10), .eq .map false (so (.binOp .eql 73 (.tmp 9) (.const (.map none)) 73) 4) (.tmp 9) (.const (.map none)), (some (5, false)), [], false⟩,
      ⟨(some 11), .pick (.tmp 5) (.const (.bool true)) (.tmp 10), none, [], false⟩,
      ⟨(some 2), .mov (.tmp 11), none, [], false⟩]) .ret))
noncomputable def store_Store_none : AFunc := ⟨12, [(2, none)], store_Store_none_c, none⟩
theorem store_Store_none_t0 : tableOf Try.prog 37 = some store_Store_none := by kernel_rfl
theorem store_Store_none_t : T0 37 = some store_Store_none := withKept_t rfl (withTrue_t rfl store_Store_none_t0)
theorem store_Store_none_runs {v0 : Value} {h : Heap} {R : RP} {X : XP} (k : RunC Try.prog T0 store_Store_none_c ⟨[v0, undef, undef, undef, undef, undef, undef, undef, undef, undef, undef, undef], [], h, none⟩ (bodyQ Try.prog T0 [(2, none)] R X)) :
    Runs Try.prog T0 (.fn 37) [v0] h R X := Runs.fn store_Store_none_t rfl k


/-! 41 (*landfall/store.Store).with -/
abbrev fn_store_Store_with : FuncId := 41
noncomputable def store_Store_with_c : ACode :=
  (.seq (.region [
      ⟨(some 6), .mov (.const (.int .i64 0)), none, [], false⟩]) (.seq (.seq (.region [
      ⟨(some 9), .mov (.tmp 0), none, [], false⟩,
      ⟨(some 10), .callV (.func 37) [(.tmp 9)], none, [], false⟩]) (.cond (.tmp 10)
    (.seq (.region [
      ⟨(some 6), .mov (.const (.int .i64 1)), none, [], false⟩]) .ret)
    .skip)) (.seq (.region [
      ⟨(some 12), .mov (.tmp 0), none, [], false⟩,
      ⟨(some 13), .nilCheck (.tmp 12), none, [], false⟩,
      ⟨(some 14), .fieldAddr 1 (.tmp 13), none, [], false⟩,
      ⟨(some 15), .load none (.tmp 14), none, [], false⟩,
      ⟨(some 16), .mov (.tmp 1), none, [], false⟩,
      ⟨(some 17), .lookup (.int .i64) (.pointer none) true (.tmp 15) (.tmp 16), none, [], false⟩,
      ⟨(some 11), .mov (.tmp 17), none, [], false⟩,
      ⟨(some 18), .extract 0 (.tmp 11), none, [], false⟩,
      ⟨(some 19), .extract 1 (.tmp 11), none, [], false⟩,
      ⟨(some 7), .mov (.tmp 18), none, [], false⟩,
      ⟨(some 8), .mov (.tmp 19), none, [], false⟩]) (.seq (.seq (.region [
      ⟨(some 20), .mov (.tmp 8), none, [], false⟩,
      ⟨(some 21), .raw (so (.unOp .not 4 (.tmp 20)) 4), none, [], false⟩]) (.cond (.tmp 21)
    (.seq (.region [
      ⟨(some 6), .mov (.const (.int .i64 10)), none, [], false⟩]) .ret)
    .skip)) (.seq (.region [
      ⟨(some 22), .mov (.tmp 2), none, [], false⟩,
      ⟨(some 23), .mov (.tmp 7), none, [], false⟩,
      ⟨(some 24), .callV (.tmp 22) [(.tmp 23)], none, [], false⟩]) (.seq (.region [
      ⟨(some 6), .mov (.const (.int .i64 0)), none, [], false⟩]) .ret))))))
noncomputable def store_Store_with : AFunc := ⟨25, [(6, none)], store_Store_with_c, none⟩
theorem store_Store_with_t0 : tableOf Try.prog 41 = some store_Store_with := by kernel_rfl
theorem store_Store_with_t : T0 41 = some store_Store_with := withKept_t rfl (withTrue_t rfl store_Store_with_t0)
theorem store_Store_with_runs {v0 v1 v2 : Value} {h : Heap} {R : RP} {X : XP} (k : RunC Try.prog T0 store_Store_with_c ⟨[v0, v1, v2, undef, undef, undef, undef, undef, undef, undef, undef, undef, undef, undef, undef, undef, undef, undef, undef, undef, undef, undef, undef, undef, undef], [], h, none⟩ (bodyQ Try.prog T0 [(6, none)] R X)) :
    Runs Try.prog T0 (.fn 41) [v0, v1, v2] h R X := Runs.fn store_Store_with_t rfl k


/-! 54 landfall/landfallkit.SameCommit -/
abbrev fn_landfallkit_SameCommit : FuncId := 54
noncomputable def landfallkit_SameCommit_c : ACode :=
  (.seq (.region [
      ⟨(some 2), .box 33 (.tmp 0), none, [], false⟩,
      ⟨(some 3), .box 33 (.tmp 1), none, [], false⟩,
      ⟨(some 4), .mov (.const (.bool false)), none, [], false⟩]) (.seq (.region [
      ⟨(some 5), .fieldAddr 0 (.tmp 2), none, [], false⟩,
      ⟨(some 6), .load none (.tmp 5), none, [], false⟩,
      ⟨(some 7), .fieldAddr 0 (.tmp 3), none, [], false⟩,
      ⟨(some 8), .load none (.tmp 7), none, [], false⟩,
      ⟨(some 9), .bin .eql (so (.binOp .eql 3 (.tmp 6) (.tmp 8) 3) 4) (.tmp 6) (.tmp 8), none, [], false⟩,
      ⟨(some 10), .mov (.tmp 9), none, [], false⟩,
      ⟨(some 11), .fieldAddr 1 (.tmp 2), (some (10, true)), [], false⟩,
      ⟨(some 12), .load (some 32) (.tmp 11), (some (10, true)), [], false⟩,
      ⟨(some 13), .fieldAddr 1 (.tmp 3), (some (10, true)), [], false⟩,
      ⟨(some 14), .load (some 32) (.tmp 13), (some (10, true)), [], false⟩,
      ⟨(some 15), .bin .eql (so (.binOp .eql 28 (.tmp 12) (.tmp 14) 28) 4) (.tmp 12) (.tmp 14), (some (10, true)), [], false⟩,
      ⟨(some 16), .pick (.tmp 10) (.tmp 15) (.const (.bool false)), none, [], false⟩,
      ⟨(some 17), .mov (.tmp 16), none, [], false⟩,
      ⟨(some 18), .fieldAddr 33 (.tmp 2), (some (17, true)), [], false⟩,
      ⟨(some 19), .load none (.tmp 18), (some (17, true)), [], false⟩,
      ⟨(some 20), .fieldAddr 33 (.tmp 3), (some (17, true)), [], false⟩,
      ⟨(some 21), .load none (.tmp 20), (some (17, true)), [], false⟩,
      ⟨(some 22), .callV (.func 69) [(.tmp 19), (.tmp 21)], (some (17, true)), [], false⟩,
      ⟨(some 23), .pick (.tmp 17) (.tmp 22) (.const (.bool false)), none, [], false⟩,
      ⟨(some 4), .mov (.tmp 23), none, [], false⟩]) .ret))
noncomputable def landfallkit_SameCommit : AFunc := ⟨24, [(4, none)], landfallkit_SameCommit_c, none⟩
theorem landfallkit_SameCommit_t0 : tableOf Try.prog 54 = some landfallkit_SameCommit := by kernel_rfl
theorem landfallkit_SameCommit_t : T0 54 = some landfallkit_SameCommit := withKept_t rfl (withTrue_t rfl landfallkit_SameCommit_t0)
theorem landfallkit_SameCommit_runs {v0 v1 : Value} {h : Heap} {R : RP} {X : XP} (k : RunC Try.prog T0 landfallkit_SameCommit_c ⟨[v0, v1, undef, undef, undef, undef, undef, undef, undef, undef, undef, undef, undef, undef, undef, undef, undef, undef, undef, undef, undef, undef, undef, undef], [], h, none⟩ (bodyQ Try.prog T0 [(4, none)] R X)) :
    Runs Try.prog T0 (.fn 54) [v0, v1] h R X := Runs.fn landfallkit_SameCommit_t rfl k


/-! 55 landfall/landfallkit.SameVals -/
abbrev fn_landfallkit_SameVals : FuncId := 55
noncomputable def landfallkit_SameVals_l0 : ACode :=
  (.seq (.seq (.region [
      ⟨(some 12), .mov (.tmp 5), none, [], false⟩,
      ⟨(some 13), .mov (.tmp 12), none, [], false⟩,
      ⟨(some 14), .mov (.tmp 6), (some (13, true)), [], false⟩,
      ⟨(some 15), .mov (.tmp 0), (some (13, true)), [], false⟩,
      ⟨(some 16), .lenSl (.tmp 15), (some (13, true)), [], false⟩,
      ⟨(some 17), .bin .lss (so (.binOp .lss 3 (.tmp 14) (.tmp 16) 3) 4) (.tmp 14) (.tmp 16), (some (13, true)), [], false⟩,
      ⟨(some 18), .pick (.tmp 13) (.tmp 17) (.const (.bool false)), none, [], false⟩]) (.cond (.tmp 18)
    .skip
    (.exit 0))) (.seq (.block 1 (.regionD [
      ⟨(some 21), .mov (.tmp 0), none, [], false⟩,
      ⟨(some 22), .mov (.tmp 6), none, [], false⟩,
      ⟨(some 23), .indexSl 5 (.tmp 21) (.tmp 22), none, [], false⟩,
      ⟨(some 24), .load (some 5) (.tmp 23), none, [], false⟩,
      ⟨(some 25), .mov (.tmp 1), none, [], false⟩,
      ⟨(some 26), .mov (.tmp 6), none, [], false⟩,
      ⟨(some 27), .indexSl 5 (.tmp 25) (.tmp 26), none, [], false⟩,
      ⟨(some 28), .load (some 5) (.tmp 27), none, [], false⟩,
      ⟨(some 29), .bin .eql (so (.binOp .eql 113 (.tmp 24) (.tmp 28) 113) 4) (.tmp 24) (.tmp 28), none, [], true⟩,
      ⟨(some 5), .mov (.tmp 29), none, [], true⟩])) (.region [
      ⟨(some 19), .mov (.tmp 6), none, [], false⟩,
      ⟨(some 20), .bin .add (so (.binOp .add 3 (.tmp 19) (.const (.int .i64 1)) 3) 3) (.tmp 19) (.const (.int .i64 1)), none, [], false⟩,
      ⟨(some 6), .mov (.tmp 20), none, [], false⟩])))
noncomputable def landfallkit_SameVals_c : ACode :=
  (.seq (.region [
      ⟨(some 4), .mov (.const (.bool false)), none, [], false⟩]) (.seq (.region [
      ⟨(some 7), .mov (.tmp 0), none, [], false⟩,
      ⟨(some 8), .lenSl (.tmp 7), none, [], false⟩,
      ⟨(some 9), .mov (.tmp 1), none, [], false⟩,
      ⟨(some 10), .lenSl (.tmp 9), none, [], false⟩,
      ⟨(some 11), .bin .eql (so (.binOp .eql 3 (.tmp 8) (.tmp 10) 3) 4) (.tmp 8) (.tmp 10), none, [], false⟩,
      ⟨(some 5), .mov (.tmp 11), none, [], false⟩]) (.seq (.seq (.region [
      ⟨(some 6), .mov (.const (.int .i64 0)), none, [], false⟩]) (.block 0 (.loop landfallkit_SameVals_l0))) (.seq (.region [
      ⟨(some 30), .mov (.tmp 5), none, [], false⟩,
      ⟨(some 4), .mov (.tmp 30), none, [], false⟩]) .ret))))
noncomputable def landfallkit_SameVals : AFunc := ⟨31, [(4, none)], landfallkit_SameVals_c, none⟩
theorem landfallkit_SameVals_t0 : tableOf Try.prog 55 = some landfallkit_SameVals := by kernel_rfl
theorem landfallkit_SameVals_t : T0 55 = some landfallkit_SameVals := withKept_t rfl (withTrue_t rfl landfallkit_SameVals_t0)
theorem landfallkit_SameVals_runs {v0 v1 : Value} {h : Heap} {R : RP} {X : XP} (k : RunC Try.prog T0 landfallkit_SameVals_c ⟨[v0, v1, undef, undef, undef, undef, undef, undef, undef, undef, undef, undef, undef, undef, undef, undef, undef, undef, undef, undef, undef, undef, undef, undef, undef, undef, undef, undef, undef, undef, undef], [], h, none⟩ (bodyQ Try.prog T0 [(4, none)] R X)) :
    Runs Try.prog T0 (.fn 55) [v0, v1] h R X := Runs.fn landfallkit_SameVals_t rfl k
/-- the slots that turn in the loop: v5 v6 -/
noncomputable def landfallkit_SameVals_l0_J (f0 f1 f2 f3 f4 f7 f8 f9 f10 f11 f30 : Value) (ds : List Deferred) (rd : Option Nat) (I : Nat → Value → Value → Heap → Prop) (m : Nat) (s : St) : Prop := ∃ (v5 v6 : Value), ∃ h : Heap, ∃ (x12 x13 x14 x15 x16 x17 x18 x19 x20 x21 x22 x23 x24 x25 x26 x27 x28 x29 : Value), s = ⟨[f0, f1, f2, f3, f4, v5, v6, f7, f8, f9, f10, f11, x12, x13, x14, x15, x16, x17, x18, x19, x20, x21, x22, x23, x24, x25, x26, x27, x28, x29, f30], ds, h, rd⟩ ∧ I m v5 v6 h
theorem landfallkit_SameVals_l0_rule {f0 f1 f2 f3 f4 f7 f8 f9 f10 f11 f30 : Value} {ds : List Deferred} {rd : Option Nat} {Q : QP} (I : Nat → Value → Value → Heap → Prop) (hb : ∀ (m : Nat) (v5 v6 : Value) (h : Heap) (x12 x13 x14 x15 x16 x17 x18 x19 x20 x21 x22 x23 x24 x25 x26 x27 x28 x29 : Value) , I m v5 v6 h → RunC Try.prog T0 landfallkit_SameVals_l0 ⟨[f0, f1, f2, f3, f4, v5, v6, f7, f8, f9, f10, f11, x12, x13, x14, x15, x16, x17, x18, x19, x20, x21, x22, x23, x24, x25, x26, x27, x28, x29, f30], ds, h, rd⟩ (loopQ (landfallkit_SameVals_l0_J f0 f1 f2 f3 f4 f7 f8 f9 f10 f11 f30 ds rd I) m Q))
    (m : Nat) {v5 v6 : Value} {h : Heap} {x12 x13 x14 x15 x16 x17 x18 x19 x20 x21 x22 x23 x24 x25 x26 x27 x28 x29 : Value} (hi : I m v5 v6 h) : RunC Try.prog T0 (.loop landfallkit_SameVals_l0) ⟨[f0, f1, f2, f3, f4, v5, v6, f7, f8, f9, f10, f11, x12, x13, x14, x15, x16, x17, x18, x19, x20, x21, x22, x23, x24, x25, x26, x27, x28, x29, f30], ds, h, rd⟩ Q :=
  RunC.loopJ (landfallkit_SameVals_l0_J f0 f1 f2 f3 f4 f7 f8 f9 f10 f11 f30 ds rd I) (fun m s hj => by obtain ⟨v5, v6, h, x12, x13, x14, x15, x16, x17, x18, x19, x20, x21, x22, x23, x24, x25, x26, x27, x28, x29, rfl, hi⟩ := hj; exact hb m v5 v6 h x12 x13 x14 x15 x16 x17 x18 x19 x20 x21 x22 x23 x24 x25 x26 x27 x28 x29 hi) m _ ⟨_, _, h, _, _, _, _, _, _, _, _, _, _, _, _, _, _, _, _, _, _, rfl, hi⟩
theorem landfallkit_SameVals_l0_again {f0 f1 f2 f3 f4 f7 f8 f9 f10 f11 f30 : Value} {ds : List Deferred} {rd : Option Nat} {Q : QP} {I : Nat → Value → Value → Heap → Prop} {m : Nat} (m' : Nat) {v5 v6 : Value} {h : Heap} {x12 x13 x14 x15 x16 x17 x18 x19 x20 x21 x22 x23 x24 x25 x26 x27 x28 x29 : Value} (hm : m' < m) (hi : I m' v5 v6 h) : loopQ (landfallkit_SameVals_l0_J f0 f1 f2 f3 f4 f7 f8 f9 f10 f11 f30 ds rd I) m Q .normal ⟨[f0, f1, f2, f3, f4, v5, v6, f7, f8, f9, f10, f11, x12, x13, x14, x15, x16, x17, x18, x19, x20, x21, x22, x23, x24, x25, x26, x27, x28, x29, f30], ds, h, rd⟩ :=
  loopQ.again m' hm ⟨_, _, h, _, _, _, _, _, _, _, _, _, _, _, _, _, _, _, _, _, _, rfl, hi⟩

/-! 69 landfall/landfallkit.SameVotes -/
abbrev fn_landfallkit_SameVotes : FuncId := 69
noncomputable def landfallkit_SameVotes_l0 : ACode :=
  (.seq (.seq (.region [
      ⟨(some 12), .mov (.tmp 5), none, [], false⟩,
      ⟨(some 13), .mov (.tmp 12), none, [], false⟩,
      ⟨(some 14), .mov (.tmp 6), (some (13, true)), [], false⟩,
      ⟨(some 15), .mov (.tmp 0), (some (13, true)), [], false⟩,
      ⟨(some 16), .lenSl (.tmp 15), (some (13, true)), [], false⟩,
      ⟨(some 17), .bin .lss (so (.binOp .lss 3 (.tmp 14) (.tmp 16) 3) 4) (.tmp 14) (.tmp 16), (some (13, true)), [], false⟩,
      ⟨(some 18), .pick (.tmp 13) (.tmp 17) (.const (.bool false)), none, [], false⟩]) (.cond (.tmp 18)
    .skip
    (.exit 0))) (.seq (.block 1 (.regionD [
      ⟨(some 21), .mov (.tmp 0), none, [], false⟩,
      ⟨(some 22), .mov (.tmp 6), none, [], false⟩,
      ⟨(some 23), .indexSl 2 (.tmp 21) (.tmp 22), none, [], false⟩,
      ⟨(some 24), .load (some 2) (.tmp 23), none, [], false⟩,
      ⟨(some 25), .mov (.tmp 1), none, [], false⟩,
      ⟨(some 26), .mov (.tmp 6), none, [], false⟩,
      ⟨(some 27), .indexSl 2 (.tmp 25) (.tmp 26), none, [], false⟩,
      ⟨(some 28), .load (some 2) (.tmp 27), none, [], false⟩,
      ⟨(some 29), .bin .eql (so (.binOp .eql 117 (.tmp 24) (.tmp 28) 117) 4) (.tmp 24) (.tmp 28), none, [], true⟩,
      ⟨(some 5), .mov (.tmp 29), none, [], true⟩])) (.region [
      ⟨(some 19), .mov (.tmp 6), none, [], false⟩,
      ⟨(some 20), .bin .add (so (.binOp .add 3 (.tmp 19) (.const (.int .i64 1)) 3) 3) (.tmp 19) (.const (.int .i64 1)), none, [], false⟩,
      ⟨(some 6), .mov (.tmp 20), none, [], false⟩])))
noncomputable def landfallkit_SameVotes_c : ACode :=
  (.seq (.region [
      ⟨(some 4), .mov (.const (.bool false)), none, [], false⟩]) (.seq (.region [
      ⟨(some 7), .mov (.tmp 0), none, [], false⟩,
      ⟨(some 8), .lenSl (.tmp 7), none, [], false⟩,
      ⟨(some 9), .mov (.tmp 1), none, [], false⟩,
      ⟨(some 10), .lenSl (.tmp 9), none, [], false⟩,
      ⟨(some 11), .bin .eql (so (.binOp .eql 3 (.tmp 8) (.tmp 10) 3) 4) (.tmp 8) (.tmp 10), none, [], false⟩,
      ⟨(some 5), .mov (.tmp 11), none, [], false⟩]) (.seq (.seq (.region [
      ⟨(some 6), .mov (.const (.int .i64 0)), none, [], false⟩]) (.block 0 (.loop landfallkit_SameVotes_l0))) (.seq (.region [
      ⟨(some 30), .mov (.tmp 5), none, [], false⟩,
      ⟨(some 4), .mov (.tmp 30), none, [], false⟩]) .ret))))
noncomputable def landfallkit_SameVotes : AFunc := ⟨31, [(4, none)], landfallkit_SameVotes_c, none⟩
theorem landfallkit_SameVotes_t0 : tableOf Try.prog 69 = some landfallkit_SameVotes := by kernel_rfl
theorem landfallkit_SameVotes_t : T0 69 = some landfallkit_SameVotes := withKept_t rfl (withTrue_t rfl landfallkit_SameVotes_t0)
theorem landfallkit_SameVotes_runs {v0 v1 : Value} {h : Heap} {R : RP} {X : XP} (k : RunC Try.prog T0 landfallkit_SameVotes_c ⟨[v0, v1, undef, undef, undef, undef, undef, undef, undef, undef, undef, undef, undef, undef, undef, undef, undef, undef, undef, undef, undef, undef, undef, undef, undef, undef, undef, undef, undef, undef, undef], [], h, none⟩ (bodyQ Try.prog T0 [(4, none)] R X)) :
    Runs Try.prog T0 (.fn 69) [v0, v1] h R X := Runs.fn landfallkit_SameVotes_t rfl k
/-- the slots that turn in the loop: v5 v6 -/
noncomputable def landfallkit_SameVotes_l0_J (f0 f1 f2 f3 f4 f7 f8 f9 f10 f11 f30 : Value) (ds : List Deferred) (rd : Option Nat) (I : Nat → Value → Value → Heap → Prop) (m : Nat) (s : St) : Prop := ∃ (v5 v6 : Value), ∃ h : Heap, ∃ (x12 x13 x14 x15 x16 x17 x18 x19 x20 x21 x22 x23 x24 x25 x26 x27 x28 x29 : Value), s = ⟨[f0, f1, f2, f3, f4, v5, v6, f7, f8, f9, f10, f11, x12, x13, x14, x15, x16, x17, x18, x19, x20, x21, x22, x23, x24, x25, x26, x27, x28, x29, f30], ds, h, rd⟩ ∧ I m v5 v6 h
theorem landfallkit_SameVotes_l0_rule {f0 f1 f2 f3 f4 f7 f8 f9 f10 f11 f30 : Value} {ds : List Deferred} {rd : Option Nat} {Q : QP} (I : Nat → Value → Value → Heap → Prop) (hb : ∀ (m : Nat) (v5 v6 : Value) (h : Heap) (x12 x13 x14 x15 x16 x17 x18 x19 x20 x21 x22 x23 x24 x25 x26 x27 x28 x29 : Value) , I m v5 v6 h → RunC Try.prog T0 landfallkit_SameVotes_l0 ⟨[f0, f1, f2, f3, f4, v5, v6, f7, f8, f9, f10, f11, x12, x13, x14, x15, x16, x17, x18, x19, x20, x21, x22, x23, x24, x25, x26, x27, x28, x29, f30], ds, h, rd⟩ (loopQ (landfallkit_SameVotes_l0_J f0 f1 f2 f3 f4 f7 f8 f9 f10 f11 f30 ds rd I) m Q))
    (m : Nat) {v5 v6 : Value} {h : Heap} {x12 x13 x14 x15 x16 x17 x18 x19 x20 x21 x22 x23 x24 x25 x26 x27 x28 x29 : Value} (hi : I m v5 v6 h) : RunC Try.prog T0 (.loop landfallkit_SameVotes_l0) ⟨[f0, f1, f2, f3, f4, v5, v6, f7, f8, f9, f10, f11, x12, x13, x14, x15, x16, x17, x18, x19, x20, x21, x22, x23, x24, x25, x26, x27, x28, x29, f30], ds, h, rd⟩ Q :=
  RunC.loopJ (landfallkit_SameVotes_l0_J f0 f1 f2 f3 f4 f7 f8 f9 f10 f11 f30 ds rd I) (fun m s hj => by obtain ⟨v5, v6, h, x12, x13, x14, x15, x16, x17, x18, x19, x20, x21, x22, x23, x24, x25, x26, x27, x28, x29, rfl, hi⟩ := hj; exact hb m v5 v6 h x12 x13 x14 x15 x16 x17 x18 x19 x20 x21 x22 x23 x24 x25 x26 x27 x28 x29 hi) m _ ⟨_, _, h, _, _, _, _, _, _, _, _, _, _, _, _, _, _, _, _, _, _, rfl, hi⟩
theorem landfallkit_SameVotes_l0_again {f0 f1 f2 f3 f4 f7 f8 f9 f10 f11 f30 : Value} {ds : List Deferred} {rd : Option Nat} {Q : QP} {I : Nat → Value → Value → Heap → Prop} {m : Nat} (m' : Nat) {v5 v6 : Value} {h : Heap} {x12 x13 x14 x15 x16 x17 x18 x19 x20 x21 x22 x23 x24 x25 x26 x27 x28 x29 : Value} (hm : m' < m) (hi : I m' v5 v6 h) : loopQ (landfallkit_SameVotes_l0_J f0 f1 f2 f3 f4 f7 f8 f9 f10 f11 f30 ds rd I) m Q .normal ⟨[f0, f1, f2, f3, f4, v5, v6, f7, f8, f9, f10, f11, x12, x13, x14, x15, x16, x17, x18, x19, x20, x21, x22, x23, x24, x25, x26, x27, x28, x29, f30], ds, h, rd⟩ :=
  loopQ.again m' hm ⟨_, _, h, _, _, _, _, _, _, _, _, _, _, _, _, _, _, _, _, _, _, rfl, hi⟩


end Go.Proofs.Ytmhnddkpiefkhaa.A
