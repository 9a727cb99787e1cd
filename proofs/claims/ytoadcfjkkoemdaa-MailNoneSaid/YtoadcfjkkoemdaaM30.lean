/- Functions of the program, as the machine has them: written by a program of mine (GenVm.lean), each held against the given program by the kernel. -/
import Derived.Test.YtoadcfjkkoemdaaRows
import Derived.Test.YtoadcfjkkoemdaaVm45
set_option maxRecDepth 100000
set_option linter.unusedVariables false
namespace Go.Proofs.Ytoadcfjkkoemdaa.A
open Go Go.Vm

abbrev ty_internal_abi_BoundsErrorCode : TypeId := 6
abbrev ty_runtime_boundsError : TypeId := 8
abbrev ty_runtime_errorString : TypeId := 10
abbrev ty_runtime_plainError : TypeId := 11
abbrev ty_runtime_errorAddressString : TypeId := 14
abbrev ty_internal_runtime_maps_unhashableTypeError : TypeId := 19
abbrev ty_api_Errno : TypeId := 24
abbrev ty_landfallref30_Mail : TypeId := 45
abbrev ty_landfalllaw30_Act : TypeId := 50
abbrev ty_api_Letter : TypeId := 58
abbrev ty_mail_letters : TypeId := 62
abbrev ty_mail_Mail : TypeId := 65
abbrev ty_iter_Seq__api_Letter_ : TypeId := 79
abbrev ty_container_heap_Interface : TypeId := 96
abbrev ty_slices_sortedHint : TypeId := 107
abbrev ty_slices_xorshift : TypeId := 117
abbrev ty_runtime_TypeAssertionError : TypeId := 128
abbrev ty_runtime_PanicNilError : TypeId := 131
abbrev ty_internal_abi_TFlag : TypeId := 132
abbrev ty_internal_abi_Kind : TypeId := 133
abbrev ty_internal_abi_NameOff : TypeId := 136
abbrev ty_internal_abi_TypeOff : TypeId := 137
abbrev ty_internal_abi_Type : TypeId := 139
instance : IsIface Try.prog 20 := ⟨by kernel_rfl⟩
instance : IsIface Try.prog 95 := ⟨by kernel_rfl⟩
instance : IsIface Try.prog 96 := ⟨by kernel_rfl⟩
/-- functions that are known to come to true -/
abbrev prims : List FuncId := [16]
abbrev kepts : List FuncId := []
noncomputable def T0 : Table := withKept (withTrue Try.prog prims) kepts
abbrev fn_landfalllaw30_awake : FuncId := 16
theorem landfalllaw30_awake_known {h : Heap} : Runs Try.prog T0 (.fn 16) [] h (fun r h' => r = .bool true ∧ h' = h) (fun _ _ => False) := known_runs rfl
instance : IsBoolT Try.prog 4 := ⟨by kernel_rfl⟩
instance : TLeaves Try.prog 7 (.i .i64 :: (.i .i64 :: (.b :: (.i .u8 :: [])))) := ⟨by kernel_rfl, by kernel_rfl, by kernel_rfl⟩
instance : TLeaves Try.prog 8 (.i .i64 :: (.i .i64 :: (.b :: (.i .u8 :: [])))) := ⟨by kernel_rfl, by kernel_rfl, by kernel_rfl⟩

/-! 6 landfall/landfalllaw30.MailNone -/
abbrev fn_landfalllaw30_MailNone : FuncId := 6
noncomputable def landfalllaw30_MailNone_l0 : ACode :=
  (.seq (.seq (.region [
      ⟨(some 25), .mov (.tmp 10), none, [], false⟩,
      ⟨(some 26), .mov (.tmp 9), none, [], false⟩,
      ⟨(some 27), .lenSl (.tmp 26), none, [], false⟩,
      ⟨(some 28), .bin .lss (so (.binOp .lss 3 (.tmp 25) (.tmp 27) 3) 4) (.tmp 25) (.tmp 27), none, [], false⟩]) (.cond (.tmp 28)
    .skip
    (.exit 0))) (.seq (.block 1 (.seq (.region [
      ⟨(some 31), .mov (.tmp 9), none, [], false⟩,
      ⟨(some 32), .mov (.tmp 10), none, [], false⟩,
      ⟨(some 33), .indexSl 1 (.tmp 31) (.tmp 32), none, [], false⟩,
      ⟨(some 34), .load none (.tmp 33), none, [], false⟩,
      ⟨(some 11), .mov (.tmp 34), none, [], false⟩]) (.seq (.region [
      ⟨(some 36), .mov (.tmp 11), none, [], false⟩,
      ⟨(some 37), .mov (.tmp 0), none, [], false⟩,
      ⟨(some 38), .mov (.tmp 1), none, [], false⟩,
      ⟨(some 39), .mov (.tmp 2), none, [], false⟩,
      ⟨(some 40), .mov (.tmp 3), none, [], false⟩,
      ⟨(some 41), .callV (.func 19) [(.tmp 36), (.tmp 37), (.tmp 38), (.tmp 39), (.tmp 40)], none, [], false⟩,
      ⟨(some 35), .mov (.tmp 41), none, [], false⟩,
      ⟨(some 42), .extract 0 (.tmp 35), none, [], false⟩,
      ⟨(some 43), .extract 1 (.tmp 35), none, [], false⟩,
      ⟨(some 12), .mov (.tmp 42), none, [], false⟩,
      ⟨(some 13), .mov (.tmp 43), none, [], false⟩]) (.seq (.region [
      ⟨(some 45), .mov (.tmp 11), none, [], false⟩,
      ⟨(some 46), .mov (.tmp 0), none, [], false⟩,
      ⟨(some 47), .mov (.tmp 2), none, [], false⟩,
      ⟨(some 48), .callV (.func 14) [(.tmp 45), (.tmp 46), (.tmp 47)], none, [], false⟩,
      ⟨(some 44), .mov (.tmp 48), none, [], false⟩,
      ⟨(some 49), .extract 0 (.tmp 44), none, [], false⟩,
      ⟨(some 50), .extract 1 (.tmp 44), none, [], false⟩,
      ⟨(some 14), .mov (.tmp 49), none, [], false⟩,
      ⟨(some 15), .mov (.tmp 50), none, [], false⟩]) (.seq (.region [
      ⟨(some 52), .mov (.tmp 11), none, [], false⟩,
      ⟨(some 53), .callV (.func 15) [(.tmp 52)], none, [], false⟩,
      ⟨(some 51), .mov (.tmp 53), none, [], false⟩,
      ⟨(some 54), .extract 0 (.tmp 51), none, [], false⟩,
      ⟨(some 55), .extract 1 (.tmp 51), none, [], false⟩,
      ⟨(some 16), .mov (.tmp 54), none, [], false⟩,
      ⟨(some 17), .mov (.tmp 55), none, [], false⟩]) (.seq (.region [
      ⟨(some 56), .mov (.tmp 12), none, [], false⟩,
      ⟨(some 57), .mov (.tmp 14), none, [], false⟩,
      ⟨(some 58), .bin .add (so (.binOp .add 3 (.tmp 56) (.tmp 57) 3) 3) (.tmp 56) (.tmp 57), none, [], false⟩,
      ⟨(some 59), .mov (.tmp 16), none, [], false⟩,
      ⟨(some 60), .bin .add (so (.binOp .add 3 (.tmp 58) (.tmp 59) 3) 3) (.tmp 58) (.tmp 59), none, [], false⟩,
      ⟨(some 61), .bin .neq (so (.binOp .neq 3 (.tmp 60) (.const (.int .i64 0)) 3) 4) (.tmp 60) (.const (.int .i64 0)), none, [], false⟩,
      ⟨(some 62), .mov (.tmp 61), none, [], false⟩,
      ⟨(some 63), .mov (.tmp 13), (some (62, false)), [], false⟩,
      ⟨(some 64), .bin .neq (so (.binOp .neq 24 (.tmp 63) (.const (.int .i64 1)) 24) 4) (.tmp 63) (.const (.int .i64 1)), (some (62, false)), [], false⟩,
      ⟨(some 65), .pick (.tmp 62) (.const (.bool true)) (.tmp 64), none, [], false⟩,
      ⟨(some 66), .mov (.tmp 65), none, [], false⟩,
      ⟨(some 67), .mov (.tmp 15), (some (66, false)), [], false⟩,
      ⟨(some 68), .bin .neq (so (.binOp .neq 24 (.tmp 67) (.const (.int .i64 1)) 24) 4) (.tmp 67) (.const (.int .i64 1)), (some (66, false)), [], false⟩,
      ⟨(some 69), .pick (.tmp 66) (.const (.bool true)) (.tmp 68), none, [], false⟩,
      ⟨(some 70), .mov (.tmp 69), none, [], false⟩,
      ⟨(some 71), .mov (.tmp 17), (some (70, false)), [], false⟩,
      ⟨(some 72), .pick (.tmp 70) (.const (.bool true)) (.tmp 71), none, [], false⟩,
      ⟨(some 73), .mov (.tmp 72), none, [], false⟩,
      ⟨(some 74), .mov (.tmp 11), (some (73, false)), [], false⟩,
      ⟨(some 75), .mov (.tmp 2), (some (73, false)), [], false⟩,
      ⟨(some 76), .callV (.func 27) [(.tmp 74), (.tmp 75)], (some (73, false)), [], false⟩,
      ⟨(some 77), .lenSl (.tmp 76), (some (73, false)), [], false⟩,
      ⟨(some 78), .bin .gtr (so (.binOp .gtr 3 (.tmp 77) (.const (.int .i64 0)) 3) 4) (.tmp 77) (.const (.int .i64 0)), (some (73, false)), [], false⟩,
      ⟨(some 79), .pick (.tmp 73) (.const (.bool true)) (.tmp 78), none, [], false⟩,
      ⟨(some 80), .mov (.tmp 79), none, [], false⟩,
      ⟨(some 81), .mov (.tmp 11), (some (80, false)), [], false⟩,
      ⟨(some 82), .mov (.tmp 0), (some (80, false)), [], false⟩,
      ⟨(some 83), .callV (.func 12) [(.tmp 81), (.tmp 82)], (some (80, false)), [], false⟩,
      ⟨(some 84), .bin .neq (so (.binOp .neq 24 (.tmp 83) (.const (.int .i64 1)) 24) 4) (.tmp 83) (.const (.int .i64 1)), (some (80, false)), [], false⟩,
      ⟨(some 85), .pick (.tmp 80) (.const (.bool true)) (.tmp 84), none, [], false⟩,
      ⟨(some 86), .mov (.tmp 85), none, [], false⟩,
      ⟨(some 87), .mov (.tmp 11), (some (86, false)), [], false⟩,
      ⟨(some 88), .mov (.tmp 0), (some (86, false)), [], false⟩,
      ⟨(some 89), .mov (.tmp 2), (some (86, false)), [], false⟩,
      ⟨(some 90), .callV (.func 31) [(.tmp 87), (.tmp 88), (.tmp 89)], (some (86, false)), [], false⟩,
      ⟨(some 91), .bin .neq (so (.binOp .neq 24 (.tmp 90) (.const (.int .i64 1)) 24) 4) (.tmp 90) (.const (.int .i64 1)), (some (86, false)), [], false⟩,
      ⟨(some 92), .pick (.tmp 86) (.const (.bool true)) (.tmp 91), none, [], false⟩,
      ⟨(some 93), .mov (.tmp 92), none, [], false⟩,
      ⟨(some 94), .mov (.tmp 11), (some (93, false)), [], false⟩,
      ⟨(some 95), .mov (.tmp 0), (some (93, false)), [], false⟩,
      ⟨(some 96), .mov (.tmp 1), (some (93, false)), [], false⟩,
      ⟨(some 97), .callV (.func 33) [(.tmp 94), (.tmp 95), (.tmp 96)], (some (93, false)), [], false⟩,
      ⟨(some 98), .bin .neq (so (.binOp .neq 24 (.tmp 97) (.const (.int .i64 1)) 24) 4) (.tmp 97) (.const (.int .i64 1)), (some (93, false)), [], false⟩,
      ⟨(some 99), .pick (.tmp 93) (.const (.bool true)) (.tmp 98), none, [], false⟩,
      ⟨(some 100), .mov (.tmp 99), none, [], false⟩,
      ⟨(some 101), .mov (.tmp 11), (some (100, false)), [], false⟩,
      ⟨(some 102), .callV (.func 36) [(.tmp 101)], (some (100, false)), [], false⟩,
      ⟨(some 103), .bin .neq (so (.binOp .neq 3 (.tmp 102) (.const (.int .i64 0)) 3) 4) (.tmp 102) (.const (.int .i64 0)), (some (100, false)), [], false⟩,
      ⟨(some 104), .pick (.tmp 100) (.const (.bool true)) (.tmp 103), none, [], false⟩,
      ⟨(some 105), .mov (.tmp 104), none, [], false⟩,
      ⟨(some 106), .mov (.tmp 11), (some (105, false)), [], false⟩,
      ⟨(some 107), .callV (.func 22) [(.tmp 106)], (some (105, false)), [], false⟩,
      ⟨(some 108), .lenSl (.tmp 107), (some (105, false)), [], false⟩,
      ⟨(some 109), .bin .gtr (so (.binOp .gtr 3 (.tmp 108) (.const (.int .i64 0)) 3) 4) (.tmp 108) (.const (.int .i64 0)), (some (105, false)), [], false⟩,
      ⟨(some 110), .pick (.tmp 105) (.const (.bool true)) (.tmp 109), none, [], false⟩]) (.cond (.tmp 110)
    (.seq (.region [
      ⟨(some 8), .mov (.const (.bool false)), none, [], false⟩]) .ret)
    .skip))))))) (.region [
      ⟨(some 29), .mov (.tmp 10), none, [], false⟩,
      ⟨(some 30), .bin .add (so (.binOp .add 3 (.tmp 29) (.const (.int .i64 1)) 3) 3) (.tmp 29) (.const (.int .i64 1)), none, [], false⟩,
      ⟨(some 10), .mov (.tmp 30), none, [], false⟩])))
noncomputable def landfalllaw30_MailNone_c : ACode :=
  (.seq (.region [
      ⟨(some 8), .mov (.const (.bool false)), none, [], false⟩]) (.seq (.seq (.region [
      ⟨(some 18), .mov (.tmp 3), none, [], false⟩,
      ⟨(some 19), .lenSl (.tmp 18), none, [], false⟩,
      ⟨(some 20), .bin .gtr (so (.binOp .gtr 3 (.tmp 19) (.const (.int .i64 60)) 3) 4) (.tmp 19) (.const (.int .i64 60)), none, [], false⟩]) (.cond (.tmp 20)
    (.seq (.region [
      ⟨(some 21), .callV (.func 16) [], none, [], false⟩,
      ⟨(some 8), .mov (.tmp 21), none, [], false⟩]) .ret)
    .skip)) (.seq (.region [
      ⟨(some 22), .build [(.int .i64 0), (.int .i64 0), (.int .i64 0), (.slice none 0 0), (.map none)] [], none, [], false⟩,
      ⟨(some 23), .box 65 (.tmp 22), none, [], false⟩,
      ⟨(some 24), .buildSlice 22 [(.pointer none), (.pointer none)] 2 [(0, 1, (.const (.pointer none))), (1, 1, (.tmp 23))], none, [], false⟩,
      ⟨(some 9), .mov (.tmp 24), none, [], false⟩]) (.seq (.seq (.region [
      ⟨(some 10), .mov (.const (.int .i64 0)), none, [], false⟩]) (.block 0 (.loop landfalllaw30_MailNone_l0))) (.seq (.region [
      ⟨(some 111), .callV (.func 16) [], none, [], false⟩,
      ⟨(some 8), .mov (.tmp 111), none, [], false⟩]) .ret)))))
noncomputable def landfalllaw30_MailNone : AFunc := ⟨112, [(8, none)], landfalllaw30_MailNone_c, none⟩
theorem landfalllaw30_MailNone_t0 : tableOf Try.prog 6 = some landfalllaw30_MailNone := by kernel_rfl
theorem landfalllaw30_MailNone_t : T0 6 = some landfalllaw30_MailNone := withKept_t rfl (withTrue_t rfl landfalllaw30_MailNone_t0)
theorem landfalllaw30_MailNone_runs {v0 v1 v2 v3 : Value} {h : Heap} {R : RP} {X : XP} (k : RunC Try.prog T0 landfalllaw30_MailNone_c ⟨[v0, v1, v2, v3, undef, undef, undef, undef, undef, undef, undef, undef, undef, undef, undef, undef, undef, undef, undef, undef, undef, undef, undef, undef, undef, undef, undef, undef, undef, undef, undef, undef, undef, undef, undef, undef, undef, undef, undef, undef, undef, undef, undef, undef, undef, undef, undef, undef, undef, undef, undef, undef, undef, undef, undef, undef, undef, undef, undef, undef, undef, undef, undef, undef, undef, undef, undef, undef, undef, undef, undef, undef, undef, undef, undef, undef, undef, undef, undef, undef, undef, undef, undef, undef, undef, undef, undef, undef, undef, undef, undef, undef, undef, undef, undef, undef, undef, undef, undef, undef, undef, undef, undef, undef, undef, undef, undef, undef, undef, undef, undef, undef], [], h, none⟩ (bodyQ Try.prog T0 [(8, none)] R X)) :
    Runs Try.prog T0 (.fn 6) [v0, v1, v2, v3] h R X := Runs.fn landfalllaw30_MailNone_t rfl k
/-- the slots that turn in the loop: v10 -/
noncomputable def landfalllaw30_MailNone_l0_J (f0 f1 f2 f3 f4 f5 f6 f7 f9 f18 f19 f20 f21 f22 f23 f24 f111 : Value) (ds : List Deferred) (rd : Option Nat) (I : Nat → Value → Heap → Prop) (m : Nat) (s : St) : Prop := ∃ (v10 : Value), ∃ h : Heap, ∃ (x8 x11 x12 x13 x14 x15 x16 x17 x25 x26 x27 x28 x29 x30 x31 x32 x33 x34 x35 x36 x37 x38 x39 x40 x41 x42 x43 x44 x45 x46 x47 x48 x49 x50 x51 x52 x53 x54 x55 x56 x57 x58 x59 x60 x61 x62 x63 x64 x65 x66 x67 x68 x69 x70 x71 x72 x73 x74 x75 x76 x77 x78 x79 x80 x81 x82 x83 x84 x85 x86 x87 x88 x89 x90 x91 x92 x93 x94 x95 x96 x97 x98 x99 x100 x101 x102 x103 x104 x105 x106 x107 x108 x109 x110 : Value), s = ⟨[f0, f1, f2, f3, f4, f5, f6, f7, x8, f9, v10, x11, x12, x13, x14, x15, x16, x17, f18, f19, f20, f21, f22, f23, f24, x25, x26, x27, x28, x29, x30, x31, x32, x33, x34, x35, x36, x37, x38, x39, x40, x41, x42, x43, x44, x45, x46, x47, x48, x49, x50, x51, x52, x53, x54, x55, x56, x57, x58, x59, x60, x61, x62, x63, x64, x65, x66, x67, x68, x69, x70, x71, x72, x73, x74, x75, x76, x77, x78, x79, x80, x81, x82, x83, x84, x85, x86, x87, x88, x89, x90, x91, x92, x93, x94, x95, x96, x97, x98, x99, x100, x101, x102, x103, x104, x105, x106, x107, x108, x109, x110, f111], ds, h, rd⟩ ∧ I m v10 h
theorem landfalllaw30_MailNone_l0_rule {f0 f1 f2 f3 f4 f5 f6 f7 f9 f18 f19 f20 f21 f22 f23 f24 f111 : Value} {ds : List Deferred} {rd : Option Nat} {Q : QP} (I : Nat → Value → Heap → Prop) (hb : ∀ (m : Nat) (v10 : Value) (h : Heap) (x8 x11 x12 x13 x14 x15 x16 x17 x25 x26 x27 x28 x29 x30 x31 x32 x33 x34 x35 x36 x37 x38 x39 x40 x41 x42 x43 x44 x45 x46 x47 x48 x49 x50 x51 x52 x53 x54 x55 x56 x57 x58 x59 x60 x61 x62 x63 x64 x65 x66 x67 x68 x69 x70 x71 x72 x73 x74 x75 x76 x77 x78 x79 x80 x81 x82 x83 x84 x85 x86 x87 x88 x89 x90 x91 x92 x93 x94 x95 x96 x97 x98 x99 x100 x101 x102 x103 x104 x105 x106 x107 x108 x109 x110 : Value) , I m v10 h → RunC Try.prog T0 landfalllaw30_MailNone_l0 ⟨[f0, f1, f2, f3, f4, f5, f6, f7, x8, f9, v10, x11, x12, x13, x14, x15, x16, x17, f18, f19, f20, f21, f22, f23, f24, x25, x26, x27, x28, x29, x30, x31, x32, x33, x34, x35, x36, x37, x38, x39, x40, x41, x42, x43, x44, x45, x46, x47, x48, x49, x50, x51, x52, x53, x54, x55, x56, x57, x58, x59, x60, x61, x62, x63, x64, x65, x66, x67, x68, x69, x70, x71, x72, x73, x74, x75, x76, x77, x78, x79, x80, x81, x82, x83, x84, x85, x86, x87, x88, x89, x90, x91, x92, x93, x94, x95, x96, x97, x98, x99, x100, x101, x102, x103, x104, x105, x106, x107, x108, x109, x110, f111], ds, h, rd⟩ (loopQ (landfalllaw30_MailNone_l0_J f0 f1 f2 f3 f4 f5 f6 f7 f9 f18 f19 f20 f21 f22 f23 f24 f111 ds rd I) m Q))
    (m : Nat) {v10 : Value} {h : Heap} {x8 x11 x12 x13 x14 x15 x16 x17 x25 x26 x27 x28 x29 x30 x31 x32 x33 x34 x35 x36 x37 x38 x39 x40 x41 x42 x43 x44 x45 x46 x47 x48 x49 x50 x51 x52 x53 x54 x55 x56 x57 x58 x59 x60 x61 x62 x63 x64 x65 x66 x67 x68 x69 x70 x71 x72 x73 x74 x75 x76 x77 x78 x79 x80 x81 x82 x83 x84 x85 x86 x87 x88 x89 x90 x91 x92 x93 x94 x95 x96 x97 x98 x99 x100 x101 x102 x103 x104 x105 x106 x107 x108 x109 x110 : Value} (hi : I m v10 h) : RunC Try.prog T0 (.loop landfalllaw30_MailNone_l0) ⟨[f0, f1, f2, f3, f4, f5, f6, f7, x8, f9, v10, x11, x12, x13, x14, x15, x16, x17, f18, f19, f20, f21, f22, f23, f24, x25, x26, x27, x28, x29, x30, x31, x32, x33, x34, x35, x36, x37, x38, x39, x40, x41, x42, x43, x44, x45, x46, x47, x48, x49, x50, x51, x52, x53, x54, x55, x56, x57, x58, x59, x60, x61, x62, x63, x64, x65, x66, x67, x68, x69, x70, x71, x72, x73, x74, x75, x76, x77, x78, x79, x80, x81, x82, x83, x84, x85, x86, x87, x88, x89, x90, x91, x92, x93, x94, x95, x96, x97, x98, x99, x100, x101, x102, x103, x104, x105, x106, x107, x108, x109, x110, f111], ds, h, rd⟩ Q :=
  RunC.loopJ (landfalllaw30_MailNone_l0_J f0 f1 f2 f3 f4 f5 f6 f7 f9 f18 f19 f20 f21 f22 f23 f24 f111 ds rd I) (fun m s hj => by obtain ⟨v10, h, x8, x11, x12, x13, x14, x15, x16, x17, x25, x26, x27, x28, x29, x30, x31, x32, x33, x34, x35, x36, x37, x38, x39, x40, x41, x42, x43, x44, x45, x46, x47, x48, x49, x50, x51, x52, x53, x54, x55, x56, x57, x58, x59, x60, x61, x62, x63, x64, x65, x66, x67, x68, x69, x70, x71, x72, x73, x74, x75, x76, x77, x78, x79, x80, x81, x82, x83, x84, x85, x86, x87, x88, x89, x90, x91, x92, x93, x94, x95, x96, x97, x98, x99, x100, x101, x102, x103, x104, x105, x106, x107, x108, x109, x110, rfl, hi⟩ := hj; exact hb m v10 h x8 x11 x12 x13 x14 x15 x16 x17 x25 x26 x27 x28 x29 x30 x31 x32 x33 x34 x35 x36 x37 x38 x39 x40 x41 x42 x43 x44 x45 x46 x47 x48 x49 x50 x51 x52 x53 x54 x55 x56 x57 x58 x59 x60 x61 x62 x63 x64 x65 x66 x67 x68 x69 x70 x71 x72 x73 x74 x75 x76 x77 x78 x79 x80 x81 x82 x83 x84 x85 x86 x87 x88 x89 x90 x91 x92 x93 x94 x95 x96 x97 x98 x99 x100 x101 x102 x103 x104 x105 x106 x107 x108 x109 x110 hi) m _ ⟨_, h, _, _, _, _, _, _, _, _, _, _, _, _, _, _, _, _, _, _, _, _, _, _, _, _, _, _, _, _, _, _, _, _, _, _, _, _, _, _, _, _, _, _, _, _, _, _, _, _, _, _, _, _, _, _, _, _, _, _, _, _, _, _, _, _, _, _, _, _, _, _, _, _, _, _, _, _, _, _, _, _, _, _, _, _, _, _, _, _, _, _, _, _, _, _, rfl, hi⟩
theorem landfalllaw30_MailNone_l0_again {f0 f1 f2 f3 f4 f5 f6 f7 f9 f18 f19 f20 f21 f22 f23 f24 f111 : Value} {ds : List Deferred} {rd : Option Nat} {Q : QP} {I : Nat → Value → Heap → Prop} {m : Nat} (m' : Nat) {v10 : Value} {h : Heap} {x8 x11 x12 x13 x14 x15 x16 x17 x25 x26 x27 x28 x29 x30 x31 x32 x33 x34 x35 x36 x37 x38 x39 x40 x41 x42 x43 x44 x45 x46 x47 x48 x49 x50 x51 x52 x53 x54 x55 x56 x57 x58 x59 x60 x61 x62 x63 x64 x65 x66 x67 x68 x69 x70 x71 x72 x73 x74 x75 x76 x77 x78 x79 x80 x81 x82 x83 x84 x85 x86 x87 x88 x89 x90 x91 x92 x93 x94 x95 x96 x97 x98 x99 x100 x101 x102 x103 x104 x105 x106 x107 x108 x109 x110 : Value} (hm : m' < m) (hi : I m' v10 h) : loopQ (landfalllaw30_MailNone_l0_J f0 f1 f2 f3 f4 f5 f6 f7 f9 f18 f19 f20 f21 f22 f23 f24 f111 ds rd I) m Q .normal ⟨[f0, f1, f2, f3, f4, f5, f6, f7, x8, f9, v10, x11, x12, x13, x14, x15, x16, x17, f18, f19, f20, f21, f22, f23, f24, x25, x26, x27, x28, x29, x30, x31, x32, x33, x34, x35, x36, x37, x38, x39, x40, x41, x42, x43, x44, x45, x46, x47, x48, x49, x50, x51, x52, x53, x54, x55, x56, x57, x58, x59, x60, x61, x62, x63, x64, x65, x66, x67, x68, x69, x70, x71, x72, x73, x74, x75, x76, x77, x78, x79, x80, x81, x82, x83, x84, x85, x86, x87, x88, x89, x90, x91, x92, x93, x94, x95, x96, x97, x98, x99, x100, x101, x102, x103, x104, x105, x106, x107, x108, x109, x110, f111], ds, h, rd⟩ :=
  loopQ.again m' hm ⟨_, h, _, _, _, _, _, _, _, _, _, _, _, _, _, _, _, _, _, _, _, _, _, _, _, _, _, _, _, _, _, _, _, _, _, _, _, _, _, _, _, _, _, _, _, _, _, _, _, _, _, _, _, _, _, _, _, _, _, _, _, _, _, _, _, _, _, _, _, _, _, _, _, _, _, _, _, _, _, _, _, _, _, _, _, _, _, _, _, _, _, _, _, _, _, _, rfl, hi⟩

/-! 12 (*landfall/mail.Mail).Lose -/
abbrev fn_mail_Mail_Lose : FuncId := 12
noncomputable def mail_Mail_Lose_c : ACode :=
  (.seq (.region [
      ⟨(some 4), .mov (.const (.int .i64 0)), none, [], false⟩]) (.seq (.region [
      ⟨(some 6), .mov (.tmp 0), none, [], false⟩,
      ⟨(some 7), .mov (.tmp 1), none, [], false⟩,
      ⟨(some 8), .mov (.tmp 0), none, [], false⟩,
      ⟨(some 9), .mkFunc (.func 39) [(.tmp 8)] [], none, [], false⟩,
      ⟨(some 10), .callV (.func 38) [(.tmp 6), (.tmp 7), (.tmp 9)], none, [], false⟩,
      ⟨(some 5), .mov (.tmp 10), none, [], false⟩]) (.seq (.seq (.region [
      ⟨(some 11), .mov (.tmp 5), none, [], false⟩,
      ⟨(some 12), .bin .eql (so (.binOp .eql 24 (.tmp 11) (.const (.int .i64 0)) 24) 4) (.tmp 11) (.const (.int .i64 0)), none, [], false⟩]) (.cond (.tmp 12)
    (.region [
      ⟨(some 13), .mov (.tmp 0), none, [], false⟩,
      ⟨(some 14), .nilCheck (.tmp 13), none, [], false⟩,
      ⟨(some 15), .fieldAddr 2 (.tmp 14), none, [], false⟩,
      ⟨(some 16), .load none (.tmp 15), none, [], false⟩,
      ⟨(some 17), .bin .add (so (.binOp .add 3 (.tmp 16) (.const (.int .i64 1)) 3) 3) (.tmp 16) (.const (.int .i64 1)), none, [], false⟩,
      ⟨(some 18), .nilCheck (.tmp 13), none, [], false⟩,
      ⟨(some 19), .fieldAddr 2 (.tmp 18), none, [], false⟩,
      ⟨none, .store 1 (.tmp 19) (.tmp 17), none, [], false⟩])
    .skip)) (.seq (.region [
      ⟨(some 20), .mov (.tmp 5), none, [], false⟩,
      ⟨(some 4), .mov (.tmp 20), none, [], false⟩]) .ret))))
noncomputable def mail_Mail_Lose : AFunc := ⟨21, [(4, none)], mail_Mail_Lose_c, none⟩
theorem mail_Mail_Lose_t0 : tableOf Try.prog 12 = some mail_Mail_Lose := by kernel_rfl
theorem mail_Mail_Lose_t : T0 12 = some mail_Mail_Lose := withKept_t rfl (withTrue_t rfl mail_Mail_Lose_t0)
theorem mail_Mail_Lose_runs {v0 v1 : Value} {h : Heap} {R : RP} {X : XP} (k : RunC Try.prog T0 mail_Mail_Lose_c ⟨[v0, v1, undef, undef, undef, undef, undef, undef, undef, undef, undef, undef, undef, undef, undef, undef, undef, undef, undef, undef, undef], [], h, none⟩ (bodyQ Try.prog T0 [(4, none)] R X)) :
    Runs Try.prog T0 (.fn 12) [v0, v1] h R X := Runs.fn mail_Mail_Lose_t rfl k


/-! 14 (*landfall/mail.Mail).Twice -/
abbrev fn_mail_Mail_Twice : FuncId := 14
noncomputable def mail_Mail_Twice_c : ACode :=
  (.seq (.region [
      ⟨(some 3), .box 22 (.tmp 0), none, [], false⟩,
      ⟨(some 5), .box 3 (.tmp 2), none, [], false⟩,
      ⟨(some 6), .alloc 3 [(.int .i64 0)], none, [], false⟩,
      ⟨(some 7), .mov (.const (.int .i64 0)), none, [], false⟩]) (.seq (.region [
      ⟨(some 8), .load none (.tmp 3), none, [], false⟩,
      ⟨(some 9), .mov (.tmp 1), none, [], false⟩,
      ⟨(some 10), .mkFunc (.func 40) [] [(.tmp 5), (.tmp 3), (.tmp 6)], none, [], false⟩,
      ⟨(some 11), .callV (.func 38) [(.tmp 8), (.tmp 9), (.tmp 10)], none, [], false⟩,
      ⟨(some 7), .mov (.tmp 11), none, [], false⟩]) (.seq (.region [
      ⟨(some 12), .load none (.tmp 6), none, [], false⟩,
      ⟨(some 13), .mov (.tmp 7), none, [], false⟩,
      ⟨none, .store 1 (.tmp 6) (.tmp 12), none, [], false⟩,
      ⟨(some 7), .mov (.tmp 13), none, [], false⟩]) .ret)))
noncomputable def mail_Mail_Twice : AFunc := ⟨14, [(6, some none), (7, none)], mail_Mail_Twice_c, none⟩
theorem mail_Mail_Twice_t0 : tableOf Try.prog 14 = some mail_Mail_Twice := by kernel_rfl
theorem mail_Mail_Twice_t : T0 14 = some mail_Mail_Twice := withKept_t rfl (withTrue_t rfl mail_Mail_Twice_t0)
theorem mail_Mail_Twice_runs {v0 v1 v2 : Value} {h : Heap} {R : RP} {X : XP} (k : RunC Try.prog T0 mail_Mail_Twice_c ⟨[v0, v1, v2, undef, undef, undef, undef, undef, undef, undef, undef, undef, undef, undef], [], h, none⟩ (bodyQ Try.prog T0 [(6, some none), (7, none)] R X)) :
    Runs Try.prog T0 (.fn 14) [v0, v1, v2] h R X := Runs.fn mail_Mail_Twice_t rfl k


/-! 15 (*landfall/mail.Mail).Next -/
abbrev fn_mail_Mail_Next : FuncId := 15
noncomputable def mail_Mail_Next_c : ACode :=
  (.seq (.region [
      ⟨(some 2), .mov (.const (.int .i64 0)), none, [], false⟩,
      ⟨(some 3), .mov (.const (.bool false)), none, [], false⟩]) (.seq (.seq (.region [
      ⟨(some 4), .mov (.tmp 0), none, [], false⟩,
      ⟨(some 5), .callV (.func 43) [(.tmp 4)], none, [], false⟩,
      ⟨(some 6), .mov (.tmp 5), none, [], false⟩,
      ⟨(some 7), .mov (.tmp 0), (some (6, false)), [], false⟩,
      ⟨(some 8), .nilCheck (.tmp 7), (some (6, false)), [], false⟩,
      ⟨(some 9), .fieldAddr 3 (.tmp 8), (some (6, false)), [], false⟩,
      ⟨(some 10), .load none (.tmp 9), (some (6, false)), [], false⟩,
      ⟨(some 11), .lenSl (.tmp 10), (some (6, false)), [], false⟩,
      ⟨(some 12), .bin .eql (so (.binOp .eql 3 (.tmp 11) (.const (.int .i64 0)) 3) 4) (.tmp 11) (.const (.int .i64 0)), (some (6, false)), [], false⟩,
      ⟨(some 13), .pick (.tmp 6) (.const (.bool true)) (.tmp 12), none, [], false⟩]) (.cond (.tmp 13)
    (.seq (.region [
      ⟨(some 2), .mov (.const (.int .i64 0)), none, [], false⟩,
      ⟨(some 3), .mov (.const (.bool false)), none, [], false⟩]) .ret)
    .skip)) (.seq (.region [
      ⟨(some 14), .mov (.tmp 0), none, [], false⟩,
      ⟨(some 15), .nilCheck (.tmp 14), none, [], false⟩,
      ⟨(some 16), .fieldAddr 3 (.tmp 15), none, [], false⟩,
      ⟨(some 17), .load none (.tmp 16), none, [], false⟩,
      ⟨(some 18), .indexSl 1 (.tmp 17) (.const (.int .i64 0)), none, [], false⟩,
      ⟨(some 19), .load none (.tmp 18), none, [], false⟩,
      ⟨(some 20), .nilCheck (.tmp 19), none, [], false⟩,
      ⟨(some 21), .fieldAddr 3 (.tmp 20), none, [], false⟩,
      ⟨(some 22), .load none (.tmp 21), none, [], false⟩,
      ⟨(some 2), .mov (.tmp 22), none, [], false⟩,
      ⟨(some 3), .mov (.const (.bool true)), none, [], false⟩]) .ret)))
noncomputable def mail_Mail_Next : AFunc := ⟨23, [(2, none), (3, none)], mail_Mail_Next_c, none⟩
theorem mail_Mail_Next_t0 : tableOf Try.prog 15 = some mail_Mail_Next := by kernel_rfl
theorem mail_Mail_Next_t : T0 15 = some mail_Mail_Next := withKept_t rfl (withTrue_t rfl mail_Mail_Next_t0)
theorem mail_Mail_Next_runs {v0 : Value} {h : Heap} {R : RP} {X : XP} (k : RunC Try.prog T0 mail_Mail_Next_c ⟨[v0, undef, undef, undef, undef, undef, undef, undef, undef, undef, undef, undef, undef, undef, undef, undef, undef, undef, undef, undef, undef, undef, undef], [], h, none⟩ (bodyQ Try.prog T0 [(2, none), (3, none)] R X)) :
    Runs Try.prog T0 (.fn 15) [v0] h R X := Runs.fn mail_Mail_Next_t rfl k


/-! 19 (*landfall/mail.Mail).Post -/
abbrev fn_mail_Mail_Post : FuncId := 19
noncomputable def mail_Mail_Post_c : ACode :=
  (.seq (.region [
      ⟨(some 10), .mov (.const (.int .i64 0)), none, [], false⟩,
      ⟨(some 11), .mov (.const (.int .i64 0)), none, [], false⟩]) (.seq (.block 0 (.seq (.region [
      ⟨(some 13), .mov (.tmp 0), none, [], false⟩,
      ⟨(some 14), .callV (.func 43) [(.tmp 13)], none, [], false⟩,
      ⟨(some 12), .mov (.tmp 14), none, [], false⟩]) (.cond (.tmp 12)
    (.seq (.region [
      ⟨(some 10), .mov (.const (.int .i64 0)), none, [], false⟩,
      ⟨(some 11), .mov (.const (.int .i64 1)), none, [], false⟩]) .ret)
    (.seq (.region [
      ⟨(some 16), .mov (.tmp 1), none, [], false⟩,
      ⟨(some 17), .callV (.func 44) [(.tmp 16)], none, [], false⟩,
      ⟨(some 18), .raw (so (.unOp .not 4 (.tmp 17)) 4), none, [], false⟩,
      ⟨(some 19), .mov (.tmp 18), none, [], false⟩,
      ⟨(some 20), .mov (.tmp 2), (some (19, false)), [], false⟩,
      ⟨(some 21), .callV (.func 44) [(.tmp 20)], (some (19, false)), [], false⟩,
      ⟨(some 22), .raw (so (.unOp .not 4 (.tmp 21)) 4), (some (19, false)), [], false⟩,
      ⟨(some 23), .pick (.tmp 19) (.const (.bool true)) (.tmp 22), none, [], false⟩,
      ⟨(some 24), .mov (.tmp 23), none, [], false⟩,
      ⟨(some 25), .mov (.tmp 3), (some (24, false)), [], false⟩,
      ⟨(some 26), .callV (.func 41) [(.tmp 25)], (some (24, false)), [], false⟩,
      ⟨(some 27), .raw (so (.unOp .not 4 (.tmp 26)) 4), (some (24, false)), [], false⟩,
      ⟨(some 28), .pick (.tmp 24) (.const (.bool true)) (.tmp 27), none, [], false⟩,
      ⟨(some 15), .mov (.tmp 28), none, [], false⟩]) (.cond (.tmp 15)
    (.seq (.region [
      ⟨(some 10), .mov (.const (.int .i64 0)), none, [], false⟩,
      ⟨(some 11), .mov (.const (.int .i64 3)), none, [], false⟩]) .ret)
    (.seq (.region [
      ⟨(some 30), .mov (.tmp 4), none, [], false⟩,
      ⟨(some 31), .lenSl (.tmp 30), none, [], false⟩,
      ⟨(some 32), .bin .gtr (so (.binOp .gtr 3 (.tmp 31) (.const (.int .i64 65536)) 3) 4) (.tmp 31) (.const (.int .i64 65536)), none, [], false⟩,
      ⟨(some 29), .mov (.tmp 32), none, [], false⟩]) (.cond (.tmp 29)
    (.seq (.region [
      ⟨(some 10), .mov (.const (.int .i64 0)), none, [], false⟩,
      ⟨(some 11), .mov (.const (.int .i64 4)), none, [], false⟩]) .ret)
    (.seq (.regionD [
      ⟨(some 34), .mov (.tmp 0), none, [], false⟩,
      ⟨(some 35), .nilCheck (.tmp 34), none, [], false⟩,
      ⟨(some 36), .fieldAddr 3 (.tmp 35), none, [], false⟩,
      ⟨(some 37), .load none (.tmp 36), none, [], false⟩,
      ⟨(some 38), .lenSl (.tmp 37), none, [], false⟩,
      ⟨(some 39), .mov (.tmp 0), none, [], false⟩,
      ⟨(some 40), .nilCheck (.tmp 39), none, [], false⟩,
      ⟨(some 41), .fieldAddr 0 (.tmp 40), none, [], false⟩,
      ⟨(some 42), .load none (.tmp 41), none, [], false⟩,
      ⟨(some 43), .bin .geq (so (.binOp .geq 3 (.tmp 38) (.tmp 42) 3) 4) (.tmp 38) (.tmp 42), none, [], true⟩,
      ⟨(some 33), .mov (.tmp 43), none, [], true⟩]) (.cond (.tmp 33)
    (.seq (.region [
      ⟨(some 10), .mov (.const (.int .i64 0)), none, [], false⟩,
      ⟨(some 11), .mov (.const (.int .i64 7)), none, [], false⟩]) .ret)
    .skip))))))))) (.seq (.region [
      ⟨(some 44), .mov (.tmp 0), none, [], false⟩,
      ⟨(some 45), .mov (.tmp 1), none, [], false⟩,
      ⟨(some 46), .mov (.tmp 2), none, [], false⟩,
      ⟨(some 47), .mov (.tmp 3), none, [], false⟩,
      ⟨(some 48), .mov (.tmp 4), none, [], false⟩,
      ⟨(some 49), .build [(.int .i64 0), (.int .i64 0), (.int .i64 0), (.int .i64 0), (.slice none 0 0)] [(1, 1, (.tmp 45)), (2, 1, (.tmp 46)), (3, 1, (.tmp 47)), (4, 1, (.tmp 48))], none, [], false⟩,
      ⟨(some 50), .callV (.func 42) [(.tmp 44), (.tmp 49)], none, [], false⟩,
      ⟨(some 10), .mov (.tmp 50), none, [], false⟩,
      ⟨(some 11), .mov (.const (.int .i64 0)), none, [], false⟩]) .ret)))
noncomputable def mail_Mail_Post : AFunc := ⟨51, [(10, none), (11, none)], mail_Mail_Post_c, none⟩
theorem mail_Mail_Post_t0 : tableOf Try.prog 19 = some mail_Mail_Post := by kernel_rfl
theorem mail_Mail_Post_t : T0 19 = some mail_Mail_Post := withKept_t rfl (withTrue_t rfl mail_Mail_Post_t0)
theorem mail_Mail_Post_runs {v0 v1 v2 v3 v4 : Value} {h : Heap} {R : RP} {X : XP} (k : RunC Try.prog T0 mail_Mail_Post_c ⟨[v0, v1, v2, v3, v4, undef, undef, undef, undef, undef, undef, undef, undef, undef, undef, undef, undef, undef, undef, undef, undef, undef, undef, undef, undef, undef, undef, undef, undef, undef, undef, undef, undef, undef, undef, undef, undef, undef, undef, undef, undef, undef, undef, undef, undef, undef, undef, undef, undef, undef, undef], [], h, none⟩ (bodyQ Try.prog T0 [(10, none), (11, none)] R X)) :
    Runs Try.prog T0 (.fn 19) [v0, v1, v2, v3, v4] h R X := Runs.fn mail_Mail_Post_t rfl k


/-! 22 (*landfall/mail.Mail).List -/
abbrev fn_mail_Mail_List : FuncId := 22
noncomputable def mail_Mail_List_l0 : ACode :=
  (.seq (.region [
      ⟨(some 16), .bin .lss (so (.binOp .lss 3 (.tmp 15) (.tmp 14) 3) 0) (.tmp 15) (.tmp 14), none, [], false⟩]) (.seq (.cond (.tmp 16)
    .skip
    (.exit 0)) (.seq (.block 1 (.seq (.region [
      ⟨(some 17), .indexSl 1 (.tmp 13) (.tmp 15), none, [], false⟩,
      ⟨(some 18), .load none (.tmp 17), none, [], false⟩,
      ⟨(some 4), .mov (.tmp 18), none, [], false⟩]) (.seq (.region [
      ⟨(some 19), .mov (.tmp 4), none, [], false⟩,
      ⟨(some 20), .nilCheck (.tmp 19), none, [], false⟩,
      ⟨(some 21), .load (some 5) (.tmp 20), none, [], false⟩,
      ⟨(some 5), .alloc 58 [(.int .i64 0), (.int .i64 0), (.int .i64 0), (.int .i64 0), (.slice none 0 0)], none, [], false⟩,
      ⟨none, .store 5 (.tmp 5) (.tmp 21), none, [], false⟩]) (.seq (.region [
      ⟨(some 22), .mov (.tmp 4), none, [], false⟩,
      ⟨(some 23), .nilCheck (.tmp 22), none, [], false⟩,
      ⟨(some 24), .fieldAddr 4 (.tmp 23), none, [], false⟩,
      ⟨(some 25), .load none (.tmp 24), none, [], false⟩,
      ⟨(some 26), .callV (.func 52) [(.tmp 25)], none, [], false⟩,
      ⟨(some 27), .fieldAddr 4 (.tmp 5), none, [], false⟩,
      ⟨none, .store 1 (.tmp 27) (.tmp 26), none, [], false⟩]) (.region [
      ⟨(some 28), .mov (.tmp 2), none, [], false⟩,
      ⟨(some 29), .load (some 5) (.tmp 5), none, [], false⟩,
      ⟨(some 30), .buildSlice 58 [(.int .i64 0), (.int .i64 0), (.int .i64 0), (.int .i64 0), (.slice none 0 0)] 1 [(0, 5, (.tmp 29))], none, [], false⟩,
      ⟨(some 31), .append 58 5 56 [(.int .i64 0), (.int .i64 0), (.int .i64 0), (.int .i64 0), (.slice none 0 0)] false (.tmp 28) (.tmp 30), none, [], false⟩,
      ⟨(some 2), .mov (.tmp 31), none, [], false⟩]))))) (.region [
      ⟨(some 32), .bin .add (so (.binOp .add 3 (.tmp 15) (.const (.int .i64 1)) 3) 3) (.tmp 15) (.const (.int .i64 1)), none, [], false⟩,
      ⟨(some 15), .mov (.tmp 32), none, [], false⟩]))))
noncomputable def mail_Mail_List_c : ACode :=
  (.seq (.region [
      ⟨(some 2), .mov (.const (.slice none 0 0)), none, [], false⟩]) (.seq (.seq (.region [
      ⟨(some 6), .mov (.tmp 0), none, [], false⟩,
      ⟨(some 7), .callV (.func 43) [(.tmp 6)], none, [], false⟩]) (.cond (.tmp 7)
    (.seq (.region [
      ⟨(some 2), .mov (.const (.slice none 0 0)), none, [], false⟩]) .ret)
    .skip)) (.seq (.seq (.region [
      ⟨(some 8), .mov (.tmp 0), none, [], false⟩,
      ⟨(some 9), .nilCheck (.tmp 8), none, [], false⟩,
      ⟨(some 10), .fieldAddr 3 (.tmp 9), none, [], false⟩,
      ⟨(some 11), .load none (.tmp 10), none, [], false⟩,
      ⟨(some 12), .callV (.func 50) [(.tmp 11)], none, [], false⟩,
      ⟨(some 13), .callV (.func 49) [(.tmp 12), (.func 51)], none, [], false⟩,
      ⟨(some 14), .lenSl (.tmp 13), none, [], false⟩,
      ⟨(some 15), .mov (.const (.int .i64 0)), none, [], false⟩]) (.block 0 (.loop mail_Mail_List_l0))) (.seq (.region [
      ⟨(some 33), .mov (.tmp 2), none, [], false⟩,
      ⟨(some 2), .mov (.tmp 33), none, [], false⟩]) .ret))))
noncomputable def mail_Mail_List : AFunc := ⟨34, [(2, none)], mail_Mail_List_c, none⟩
theorem mail_Mail_List_t0 : tableOf Try.prog 22 = some mail_Mail_List := by kernel_rfl
theorem mail_Mail_List_t : T0 22 = some mail_Mail_List := withKept_t rfl (withTrue_t rfl mail_Mail_List_t0)
theorem mail_Mail_List_runs {v0 : Value} {h : Heap} {R : RP} {X : XP} (k : RunC Try.prog T0 mail_Mail_List_c ⟨[v0, undef, undef, undef, undef, undef, undef, undef, undef, undef, undef, undef, undef, undef, undef, undef, undef, undef, undef, undef, undef, undef, undef, undef, undef, undef, undef, undef, undef, undef, undef, undef, undef, undef], [], h, none⟩ (bodyQ Try.prog T0 [(2, none)] R X)) :
    Runs Try.prog T0 (.fn 22) [v0] h R X := Runs.fn mail_Mail_List_t rfl k
/-- the slots that turn in the loop: v2 v15 -/
noncomputable def mail_Mail_List_l0_J (f0 f1 f3 f6 f7 f8 f9 f10 f11 f12 f13 f14 f33 : Value) (ds : List Deferred) (rd : Option Nat) (I : Nat → Value → Value → Heap → Prop) (m : Nat) (s : St) : Prop := ∃ (v2 v15 : Value), ∃ h : Heap, ∃ (x4 x5 x16 x17 x18 x19 x20 x21 x22 x23 x24 x25 x26 x27 x28 x29 x30 x31 x32 : Value), s = ⟨[f0, f1, v2, f3, x4, x5, f6, f7, f8, f9, f10, f11, f12, f13, f14, v15, x16, x17, x18, x19, x20, x21, x22, x23, x24, x25, x26, x27, x28, x29, x30, x31, x32, f33], ds, h, rd⟩ ∧ I m v2 v15 h
theorem mail_Mail_List_l0_rule {f0 f1 f3 f6 f7 f8 f9 f10 f11 f12 f13 f14 f33 : Value} {ds : List Deferred} {rd : Option Nat} {Q : QP} (I : Nat → Value → Value → Heap → Prop) (hb : ∀ (m : Nat) (v2 v15 : Value) (h : Heap) (x4 x5 x16 x17 x18 x19 x20 x21 x22 x23 x24 x25 x26 x27 x28 x29 x30 x31 x32 : Value) , I m v2 v15 h → RunC Try.prog T0 mail_Mail_List_l0 ⟨[f0, f1, v2, f3, x4, x5, f6, f7, f8, f9, f10, f11, f12, f13, f14, v15, x16, x17, x18, x19, x20, x21, x22, x23, x24, x25, x26, x27, x28, x29, x30, x31, x32, f33], ds, h, rd⟩ (loopQ (mail_Mail_List_l0_J f0 f1 f3 f6 f7 f8 f9 f10 f11 f12 f13 f14 f33 ds rd I) m Q))
    (m : Nat) {v2 v15 : Value} {h : Heap} {x4 x5 x16 x17 x18 x19 x20 x21 x22 x23 x24 x25 x26 x27 x28 x29 x30 x31 x32 : Value} (hi : I m v2 v15 h) : RunC Try.prog T0 (.loop mail_Mail_List_l0) ⟨[f0, f1, v2, f3, x4, x5, f6, f7, f8, f9, f10, f11, f12, f13, f14, v15, x16, x17, x18, x19, x20, x21, x22, x23, x24, x25, x26, x27, x28, x29, x30, x31, x32, f33], ds, h, rd⟩ Q :=
  RunC.loopJ (mail_Mail_List_l0_J f0 f1 f3 f6 f7 f8 f9 f10 f11 f12 f13 f14 f33 ds rd I) (fun m s hj => by obtain ⟨v2, v15, h, x4, x5, x16, x17, x18, x19, x20, x21, x22, x23, x24, x25, x26, x27, x28, x29, x30, x31, x32, rfl, hi⟩ := hj; exact hb m v2 v15 h x4 x5 x16 x17 x18 x19 x20 x21 x22 x23 x24 x25 x26 x27 x28 x29 x30 x31 x32 hi) m _ ⟨_, _, h, _, _, _, _, _, _, _, _, _, _, _, _, _, _, _, _, _, _, _, rfl, hi⟩
theorem mail_Mail_List_l0_again {f0 f1 f3 f6 f7 f8 f9 f10 f11 f12 f13 f14 f33 : Value} {ds : List Deferred} {rd : Option Nat} {Q : QP} {I : Nat → Value → Value → Heap → Prop} {m : Nat} (m' : Nat) {v2 v15 : Value} {h : Heap} {x4 x5 x16 x17 x18 x19 x20 x21 x22 x23 x24 x25 x26 x27 x28 x29 x30 x31 x32 : Value} (hm : m' < m) (hi : I m' v2 v15 h) : loopQ (mail_Mail_List_l0_J f0 f1 f3 f6 f7 f8 f9 f10 f11 f12 f13 f14 f33 ds rd I) m Q .normal ⟨[f0, f1, v2, f3, x4, x5, f6, f7, f8, f9, f10, f11, f12, f13, f14, v15, x16, x17, x18, x19, x20, x21, x22, x23, x24, x25, x26, x27, x28, x29, x30, x31, x32, f33], ds, h, rd⟩ :=
  loopQ.again m' hm ⟨_, _, h, _, _, _, _, _, _, _, _, _, _, _, _, _, _, _, _, _, _, _, rfl, hi⟩

/-! 27 (*landfall/mail.Mail).Come -/
abbrev fn_mail_Mail_Come : FuncId := 27
noncomputable def mail_Mail_Come_l0 : ACode :=
  (.seq (.seq (.region [
      ⟨(some 8), .mov (.tmp 0), none, [], false⟩,
      ⟨(some 9), .nilCheck (.tmp 8), none, [], false⟩,
      ⟨(some 10), .fieldAddr 3 (.tmp 9), none, [], false⟩,
      ⟨(some 11), .load none (.tmp 10), none, [], false⟩,
      ⟨(some 12), .lenSl (.tmp 11), none, [], false⟩,
      ⟨(some 13), .bin .gtr (so (.binOp .gtr 3 (.tmp 12) (.const (.int .i64 0)) 3) 4) (.tmp 12) (.const (.int .i64 0)), none, [], false⟩,
      ⟨(some 14), .mov (.tmp 13), none, [], false⟩,
      ⟨(some 15), .mov (.tmp 0), (some (14, true)), [], false⟩,
      ⟨(some 16), .nilCheck (.tmp 15), (some (14, true)), [], false⟩,
      ⟨(some 17), .fieldAddr 3 (.tmp 16), (some (14, true)), [], false⟩,
      ⟨(some 18), .load none (.tmp 17), (some (14, true)), [], false⟩,
      ⟨(some 19), .indexSl 1 (.tmp 18) (.const (.int .i64 0)), (some (14, true)), [], false⟩,
      ⟨(some 20), .load none (.tmp 19), (some (14, true)), [], false⟩,
      ⟨(some 21), .nilCheck (.tmp 20), (some (14, true)), [], false⟩,
      ⟨(some 22), .fieldAddr 3 (.tmp 21), (some (14, true)), [], false⟩,
      ⟨(some 23), .load none (.tmp 22), (some (14, true)), [], false⟩,
      ⟨(some 24), .mov (.tmp 1), (some (14, true)), [], false⟩,
      ⟨(some 25), .bin .leq (so (.binOp .leq 3 (.tmp 23) (.tmp 24) 3) 4) (.tmp 23) (.tmp 24), (some (14, true)), [], false⟩,
      ⟨(some 26), .pick (.tmp 14) (.tmp 25) (.const (.bool false)), none, [], false⟩]) (.cond (.tmp 26)
    .skip
    (.exit 0))) (.block 1 (.seq (.region [
      ⟨(some 27), .mov (.tmp 0), none, [], false⟩,
      ⟨(some 28), .nilCheck (.tmp 27), none, [], false⟩,
      ⟨(some 29), .fieldAddr 3 (.tmp 28), none, [], false⟩,
      ⟨(some 30), .load none (.tmp 29), none, [], false⟩,
      ⟨(some 31), .indexSl 1 (.tmp 30) (.const (.int .i64 0)), none, [], false⟩,
      ⟨(some 32), .load none (.tmp 31), none, [], false⟩,
      ⟨(some 5), .mov (.tmp 32), none, [], false⟩]) (.seq (.region [
      ⟨(some 33), .mov (.tmp 0), none, [], false⟩,
      ⟨(some 34), .mov (.tmp 5), none, [], false⟩,
      ⟨(some 35), .callV (.func 39) [(.tmp 33), (.tmp 34)], none, [], false⟩]) (.region [
      ⟨(some 36), .mov (.tmp 4), none, [], false⟩,
      ⟨(some 37), .mov (.tmp 5), none, [], false⟩,
      ⟨(some 38), .nilCheck (.tmp 37), none, [], false⟩,
      ⟨(some 39), .load (some 5) (.tmp 38), none, [], false⟩,
      ⟨(some 40), .buildSlice 58 [(.int .i64 0), (.int .i64 0), (.int .i64 0), (.int .i64 0), (.slice none 0 0)] 1 [(0, 5, (.tmp 39))], none, [], false⟩,
      ⟨(some 41), .append 58 5 56 [(.int .i64 0), (.int .i64 0), (.int .i64 0), (.int .i64 0), (.slice none 0 0)] false (.tmp 36) (.tmp 40), none, [], false⟩,
      ⟨(some 4), .mov (.tmp 41), none, [], false⟩])))))
noncomputable def mail_Mail_Come_c : ACode :=
  (.seq (.region [
      ⟨(some 4), .mov (.const (.slice none 0 0)), none, [], false⟩]) (.seq (.seq (.region [
      ⟨(some 6), .mov (.tmp 0), none, [], false⟩,
      ⟨(some 7), .callV (.func 43) [(.tmp 6)], none, [], false⟩]) (.cond (.tmp 7)
    (.seq (.region [
      ⟨(some 4), .mov (.const (.slice none 0 0)), none, [], false⟩]) .ret)
    .skip)) (.seq (.block 0 (.loop mail_Mail_Come_l0)) (.seq (.region [
      ⟨(some 42), .mov (.tmp 4), none, [], false⟩,
      ⟨(some 4), .mov (.tmp 42), none, [], false⟩]) .ret))))
noncomputable def mail_Mail_Come : AFunc := ⟨43, [(4, none)], mail_Mail_Come_c, none⟩
theorem mail_Mail_Come_t0 : tableOf Try.prog 27 = some mail_Mail_Come := by kernel_rfl
theorem mail_Mail_Come_t : T0 27 = some mail_Mail_Come := withKept_t rfl (withTrue_t rfl mail_Mail_Come_t0)
theorem mail_Mail_Come_runs {v0 v1 : Value} {h : Heap} {R : RP} {X : XP} (k : RunC Try.prog T0 mail_Mail_Come_c ⟨[v0, v1, undef, undef, undef, undef, undef, undef, undef, undef, undef, undef, undef, undef, undef, undef, undef, undef, undef, undef, undef, undef, undef, undef, undef, undef, undef, undef, undef, undef, undef, undef, undef, undef, undef, undef, undef, undef, undef, undef, undef, undef, undef], [], h, none⟩ (bodyQ Try.prog T0 [(4, none)] R X)) :
    Runs Try.prog T0 (.fn 27) [v0, v1] h R X := Runs.fn mail_Mail_Come_t rfl k
/-- the slots that turn in the loop: v4 -/
noncomputable def mail_Mail_Come_l0_J (f0 f1 f2 f3 f6 f7 f42 : Value) (ds : List Deferred) (rd : Option Nat) (I : Nat → Value → Heap → Prop) (m : Nat) (s : St) : Prop := ∃ (v4 : Value), ∃ h : Heap, ∃ (x5 x8 x9 x10 x11 x12 x13 x14 x15 x16 x17 x18 x19 x20 x21 x22 x23 x24 x25 x26 x27 x28 x29 x30 x31 x32 x33 x34 x35 x36 x37 x38 x39 x40 x41 : Value), s = ⟨[f0, f1, f2, f3, v4, x5, f6, f7, x8, x9, x10, x11, x12, x13, x14, x15, x16, x17, x18, x19, x20, x21, x22, x23, x24, x25, x26, x27, x28, x29, x30, x31, x32, x33, x34, x35, x36, x37, x38, x39, x40, x41, f42], ds, h, rd⟩ ∧ I m v4 h
theorem mail_Mail_Come_l0_rule {f0 f1 f2 f3 f6 f7 f42 : Value} {ds : List Deferred} {rd : Option Nat} {Q : QP} (I : Nat → Value → Heap → Prop) (hb : ∀ (m : Nat) (v4 : Value) (h : Heap) (x5 x8 x9 x10 x11 x12 x13 x14 x15 x16 x17 x18 x19 x20 x21 x22 x23 x24 x25 x26 x27 x28 x29 x30 x31 x32 x33 x34 x35 x36 x37 x38 x39 x40 x41 : Value) , I m v4 h → RunC Try.prog T0 mail_Mail_Come_l0 ⟨[f0, f1, f2, f3, v4, x5, f6, f7, x8, x9, x10, x11, x12, x13, x14, x15, x16, x17, x18, x19, x20, x21, x22, x23, x24, x25, x26, x27, x28, x29, x30, x31, x32, x33, x34, x35, x36, x37, x38, x39, x40, x41, f42], ds, h, rd⟩ (loopQ (mail_Mail_Come_l0_J f0 f1 f2 f3 f6 f7 f42 ds rd I) m Q))
    (m : Nat) {v4 : Value} {h : Heap} {x5 x8 x9 x10 x11 x12 x13 x14 x15 x16 x17 x18 x19 x20 x21 x22 x23 x24 x25 x26 x27 x28 x29 x30 x31 x32 x33 x34 x35 x36 x37 x38 x39 x40 x41 : Value} (hi : I m v4 h) : RunC Try.prog T0 (.loop mail_Mail_Come_l0) ⟨[f0, f1, f2, f3, v4, x5, f6, f7, x8, x9, x10, x11, x12, x13, x14, x15, x16, x17, x18, x19, x20, x21, x22, x23, x24, x25, x26, x27, x28, x29, x30, x31, x32, x33, x34, x35, x36, x37, x38, x39, x40, x41, f42], ds, h, rd⟩ Q :=
  RunC.loopJ (mail_Mail_Come_l0_J f0 f1 f2 f3 f6 f7 f42 ds rd I) (fun m s hj => by obtain ⟨v4, h, x5, x8, x9, x10, x11, x12, x13, x14, x15, x16, x17, x18, x19, x20, x21, x22, x23, x24, x25, x26, x27, x28, x29, x30, x31, x32, x33, x34, x35, x36, x37, x38, x39, x40, x41, rfl, hi⟩ := hj; exact hb m v4 h x5 x8 x9 x10 x11 x12 x13 x14 x15 x16 x17 x18 x19 x20 x21 x22 x23 x24 x25 x26 x27 x28 x29 x30 x31 x32 x33 x34 x35 x36 x37 x38 x39 x40 x41 hi) m _ ⟨_, h, _, _, _, _, _, _, _, _, _, _, _, _, _, _, _, _, _, _, _, _, _, _, _, _, _, _, _, _, _, _, _, _, _, _, _, rfl, hi⟩
theorem mail_Mail_Come_l0_again {f0 f1 f2 f3 f6 f7 f42 : Value} {ds : List Deferred} {rd : Option Nat} {Q : QP} {I : Nat → Value → Heap → Prop} {m : Nat} (m' : Nat) {v4 : Value} {h : Heap} {x5 x8 x9 x10 x11 x12 x13 x14 x15 x16 x17 x18 x19 x20 x21 x22 x23 x24 x25 x26 x27 x28 x29 x30 x31 x32 x33 x34 x35 x36 x37 x38 x39 x40 x41 : Value} (hm : m' < m) (hi : I m' v4 h) : loopQ (mail_Mail_Come_l0_J f0 f1 f2 f3 f6 f7 f42 ds rd I) m Q .normal ⟨[f0, f1, f2, f3, v4, x5, f6, f7, x8, x9, x10, x11, x12, x13, x14, x15, x16, x17, x18, x19, x20, x21, x22, x23, x24, x25, x26, x27, x28, x29, x30, x31, x32, x33, x34, x35, x36, x37, x38, x39, x40, x41, f42], ds, h, rd⟩ :=
  loopQ.again m' hm ⟨_, h, _, _, _, _, _, _, _, _, _, _, _, _, _, _, _, _, _, _, _, _, _, _, _, _, _, _, _, _, _, _, _, _, _, _, _, rfl, hi⟩

/-! 31 (*landfall/mail.Mail).Delay -/
abbrev fn_mail_Mail_Delay : FuncId := 31
noncomputable def mail_Mail_Delay_c : ACode :=
  (.seq (.region [
      ⟨(some 3), .box 22 (.tmp 0), none, [], false⟩,
      ⟨(some 5), .box 3 (.tmp 2), none, [], false⟩,
      ⟨(some 6), .mov (.const (.int .i64 0)), none, [], false⟩]) (.seq (.region [
      ⟨(some 7), .load none (.tmp 3), none, [], false⟩,
      ⟨(some 8), .mov (.tmp 1), none, [], false⟩,
      ⟨(some 9), .mkFunc (.func 55) [] [(.tmp 5), (.tmp 3)], none, [], false⟩,
      ⟨(some 10), .callV (.func 38) [(.tmp 7), (.tmp 8), (.tmp 9)], none, [], false⟩,
      ⟨(some 6), .mov (.tmp 10), none, [], false⟩]) .ret))
noncomputable def mail_Mail_Delay : AFunc := ⟨11, [(6, none)], mail_Mail_Delay_c, none⟩
theorem mail_Mail_Delay_t0 : tableOf Try.prog 31 = some mail_Mail_Delay := by kernel_rfl
theorem mail_Mail_Delay_t : T0 31 = some mail_Mail_Delay := withKept_t rfl (withTrue_t rfl mail_Mail_Delay_t0)
theorem mail_Mail_Delay_runs {v0 v1 v2 : Value} {h : Heap} {R : RP} {X : XP} (k : RunC Try.prog T0 mail_Mail_Delay_c ⟨[v0, v1, v2, undef, undef, undef, undef, undef, undef, undef, undef], [], h, none⟩ (bodyQ Try.prog T0 [(6, none)] R X)) :
    Runs Try.prog T0 (.fn 31) [v0, v1, v2] h R X := Runs.fn mail_Mail_Delay_t rfl k


/-! 33 (*landfall/mail.Mail).Swap -/
abbrev fn_mail_Mail_Swap : FuncId := 33
noncomputable def mail_Mail_Swap_c : ACode :=
  (.seq (.region [
      ⟨(some 3), .box 22 (.tmp 0), none, [], false⟩,
      ⟨(some 5), .box 3 (.tmp 2), none, [], false⟩,
      ⟨(some 6), .mov (.const (.int .i64 0)), none, [], false⟩]) (.seq (.region [
      ⟨(some 7), .load none (.tmp 3), none, [], false⟩,
      ⟨(some 8), .mov (.tmp 1), none, [], false⟩,
      ⟨(some 9), .mkFunc (.func 57) [] [(.tmp 3), (.tmp 5)], none, [], false⟩,
      ⟨(some 10), .callV (.func 38) [(.tmp 7), (.tmp 8), (.tmp 9)], none, [], false⟩,
      ⟨(some 6), .mov (.tmp 10), none, [], false⟩]) .ret))
noncomputable def mail_Mail_Swap : AFunc := ⟨11, [(6, none)], mail_Mail_Swap_c, none⟩
theorem mail_Mail_Swap_t0 : tableOf Try.prog 33 = some mail_Mail_Swap := by kernel_rfl
theorem mail_Mail_Swap_t : T0 33 = some mail_Mail_Swap := withKept_t rfl (withTrue_t rfl mail_Mail_Swap_t0)
theorem mail_Mail_Swap_runs {v0 v1 v2 : Value} {h : Heap} {R : RP} {X : XP} (k : RunC Try.prog T0 mail_Mail_Swap_c ⟨[v0, v1, v2, undef, undef, undef, undef, undef, undef, undef, undef], [], h, none⟩ (bodyQ Try.prog T0 [(6, none)] R X)) :
    Runs Try.prog T0 (.fn 33) [v0, v1, v2] h R X := Runs.fn mail_Mail_Swap_t rfl k


/-! 36 (*landfall/mail.Mail).Lost -/
abbrev fn_mail_Mail_Lost : FuncId := 36
noncomputable def mail_Mail_Lost_c : ACode :=
  (.seq (.region [
      ⟨(some 2), .mov (.const (.int .i64 0)), none, [], false⟩]) (.seq (.seq (.region [
      ⟨(some 3), .mov (.tmp 0), none, [], false⟩,
      ⟨(some 4), .callV (.func 43) [(.tmp 3)], none, [], false⟩]) (.cond (.tmp 4)
    (.seq (.region [
      ⟨(some 2), .mov (.const (.int .i64 0)), none, [], false⟩]) .ret)
    .skip)) (.seq (.region [
      ⟨(some 5), .mov (.tmp 0), none, [], false⟩,
      ⟨(some 6), .nilCheck (.tmp 5), none, [], false⟩,
      ⟨(some 7), .fieldAddr 2 (.tmp 6), none, [], false⟩,
      ⟨(some 8), .load none (.tmp 7), none, [], false⟩,
      ⟨(some 2), .mov (.tmp 8), none, [], false⟩]) .ret)))
noncomputable def mail_Mail_Lost : AFunc := ⟨9, [(2, none)], mail_Mail_Lost_c, none⟩
theorem mail_Mail_Lost_t0 : tableOf Try.prog 36 = some mail_Mail_Lost := by kernel_rfl
theorem mail_Mail_Lost_t : T0 36 = some mail_Mail_Lost := withKept_t rfl (withTrue_t rfl mail_Mail_Lost_t0)
theorem mail_Mail_Lost_runs {v0 : Value} {h : Heap} {R : RP} {X : XP} (k : RunC Try.prog T0 mail_Mail_Lost_c ⟨[v0, undef, undef, undef, undef, undef, undef, undef, undef], [], h, none⟩ (bodyQ Try.prog T0 [(2, none)] R X)) :
    Runs Try.prog T0 (.fn 36) [v0] h R X := Runs.fn mail_Mail_Lost_t rfl k


/-! 38 (*landfall/mail.Mail).with -/
abbrev fn_mail_Mail_with : FuncId := 38
noncomputable def mail_Mail_with_c : ACode :=
  (.seq (.region [
      ⟨(some 6), .mov (.const (.int .i64 0)), none, [], false⟩]) (.seq (.seq (.region [
      ⟨(some 9), .mov (.tmp 0), none, [], false⟩,
      ⟨(some 10), .callV (.func 43) [(.tmp 9)], none, [], false⟩]) (.cond (.tmp 10)
    (.seq (.region [
      ⟨(some 6), .mov (.const (.int .i64 1)), none, [], false⟩]) .ret)
    .skip)) (.seq (.region [
      ⟨(some 12), .mov (.tmp 0), none, [], false⟩,
      ⟨(some 13), .nilCheck (.tmp 12), none, [], false⟩,
      ⟨(some 14), .fieldAddr 4 (.tmp 13), none, [], false⟩,
      ⟨(some 15), .load none (.tmp 14), none, [], false⟩,
      ⟨(some 16), .mov (.tmp 1), none, [], false⟩,
      ⟨(some 17), .lookup (.int .i64) (.pointer none) true (.tmp 15) (.tmp 16), none, [], false⟩,
      ⟨(some 11), .mov (.tmp 17), none, [], false⟩,
      ⟨(some 18), .extract 0 (.tmp 11), none, [], false⟩,
      ⟨(some 19), .extract 1 (.tmp 11), none, [], false⟩,
      ⟨(some 7), .mov (.tmp 18), none, [], false⟩,
      ⟨(some 8), .mov (.tmp 19), none, [], false⟩]) (.seq (.seq (.region [
      ⟨(some 20), .mov (.tmp 8), none, [], false⟩,
      ⟨(some 21), .raw (so (.unOp .not 4 (.tmp 20)) 4), none, [], false⟩]) (.cond (.tmp 21)
    (.seq (.region [
      ⟨(some 6), .mov (.const (.int .i64 10)), none, [], false⟩]) .ret)
    .skip)) (.seq (.region [
      ⟨(some 22), .mov (.tmp 2), none, [], false⟩,
      ⟨(some 23), .mov (.tmp 7), none, [], false⟩,
      ⟨(some 24), .callV (.tmp 22) [(.tmp 23)], none, [], false⟩,
      ⟨(some 6), .mov (.tmp 24), none, [], false⟩]) .ret)))))
noncomputable def mail_Mail_with : AFunc := ⟨25, [(6, none)], mail_Mail_with_c, none⟩
theorem mail_Mail_with_t0 : tableOf Try.prog 38 = some mail_Mail_with := by kernel_rfl
theorem mail_Mail_with_t : T0 38 = some mail_Mail_with := withKept_t rfl (withTrue_t rfl mail_Mail_with_t0)
theorem mail_Mail_with_runs {v0 v1 v2 : Value} {h : Heap} {R : RP} {X : XP} (k : RunC Try.prog T0 mail_Mail_with_c ⟨[v0, v1, v2, undef, undef, undef, undef, undef, undef, undef, undef, undef, undef, undef, undef, undef, undef, undef, undef, undef, undef, undef, undef, undef, undef], [], h, none⟩ (bodyQ Try.prog T0 [(6, none)] R X)) :
    Runs Try.prog T0 (.fn 38) [v0, v1, v2] h R X := Runs.fn mail_Mail_with_t rfl k


/-! 43 (*landfall/mail.Mail).none -/
abbrev fn_mail_Mail_none : FuncId := 43
noncomputable def mail_Mail_none_c : ACode :=
  (.seq (.region [
      ⟨(some 2), .mov (.const (.bool false)), none, [], false⟩]) (.seq (.region [
      ⟨(some 3), .mov (.tmp 0), none, [], false⟩,
      ⟨(some 4), .eq .ptr false (so (.binOp .eql 22 (.tmp 3) (.const (.pointer none)) 22) 4) (.tmp 3) (.const (.pointer none)), none, [], false⟩,
      ⟨(some 5), .mov (.tmp 4), none, [], false⟩,
      ⟨(some 6), .mov (.tmp 0), (some (5, false)), [], false⟩,
      ⟨(some 7), .nilCheck (.tmp 6), (some (5, false)), [], false⟩,
      ⟨(some 8), .fieldAddr 4 (.tmp 7), (some (5, false)), [], false⟩,
      ⟨(some 9), .load none (.tmp 8), (some (5, false)), [], false⟩,
      ⟨(some 10), .eq .map false (so (.binOp .eql 63 (.tmp 9) (.const (.map none)) 63) 4) (.tmp 9) (.const (.map none)), (some (5, false)), [], false⟩,
      ⟨(some 11), .pick (.tmp 5) (.const (.bool true)) (.tmp 10), none, [], false⟩,
      ⟨(some 2), .mov (.tmp 11), none, [], false⟩]) .ret))
noncomputable def mail_Mail_none : AFunc := ⟨12, [(2, none)], mail_Mail_none_c, none⟩
theorem mail_Mail_none_t0 : tableOf Try.prog 43 = some mail_Mail_none := by kernel_rfl
theorem mail_Mail_none_t : T0 43 = some mail_Mail_none := withKept_t rfl (withTrue_t rfl mail_Mail_none_t0)
theorem mail_Mail_none_runs {v0 : Value} {h : Heap} {R : RP} {X : XP} (k : RunC Try.prog T0 mail_Mail_none_c ⟨[v0, undef, undef, undef, undef, undef, undef, undef, undef, undef, undef, undef], [], h, none⟩ (bodyQ Try.prog T0 [(2, none)] R X)) :
    Runs Try.prog T0 (.fn 43) [v0] h R X := Runs.fn mail_Mail_none_t rfl k


/-! 44 landfall/mail.ends -/
abbrev fn_mail_ends : FuncId := 44
noncomputable def mail_ends_c : ACode :=
  (.seq (.region [
      ⟨(some 2), .mov (.const (.bool false)), none, [], false⟩]) (.seq (.region [
      ⟨(some 3), .mov (.tmp 0), none, [], false⟩,
      ⟨(some 4), .bin .geq (so (.binOp .geq 3 (.tmp 3) (.const (.int .i64 0)) 3) 4) (.tmp 3) (.const (.int .i64 0)), none, [], false⟩,
      ⟨(some 5), .mov (.tmp 4), none, [], false⟩,
      ⟨(some 6), .mov (.tmp 0), (some (5, true)), [], false⟩,
      ⟨(some 7), .bin .leq (so (.binOp .leq 3 (.tmp 6) (.const (.int .i64 16)) 3) 4) (.tmp 6) (.const (.int .i64 16)), (some (5, true)), [], false⟩,
      ⟨(some 8), .pick (.tmp 5) (.tmp 7) (.const (.bool false)), none, [], false⟩,
      ⟨(some 2), .mov (.tmp 8), none, [], false⟩]) .ret))
noncomputable def mail_ends : AFunc := ⟨9, [(2, none)], mail_ends_c, none⟩
theorem mail_ends_t0 : tableOf Try.prog 44 = some mail_ends := by kernel_rfl
theorem mail_ends_t : T0 44 = some mail_ends := withKept_t rfl (withTrue_t rfl mail_ends_t0)
theorem mail_ends_runs {v0 : Value} {h : Heap} {R : RP} {X : XP} (k : RunC Try.prog T0 mail_ends_c ⟨[v0, undef, undef, undef, undef, undef, undef, undef, undef], [], h, none⟩ (bodyQ Try.prog T0 [(2, none)] R X)) :
    Runs Try.prog T0 (.fn 44) [v0] h R X := Runs.fn mail_ends_t rfl k



end Go.Proofs.Ytoadcfjkkoemdaa.A
