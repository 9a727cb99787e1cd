/- Functions of the program, as the machine has them: written by a program of mine (GenVm.lean), each held against the given program by the kernel. -/
import Derived.Test.YtcapkoclbmaahaaRows
import Derived.Test.YtcapkoclbmaahaaVm42
set_option maxRecDepth 100000
set_option linter.unusedVariables false
namespace Go.Proofs.Ytcapkoclbmaahaa.A
open Go Go.Vm

abbrev ty_internal_abi_BoundsErrorCode : TypeId := 6
abbrev ty_runtime_boundsError : TypeId := 8
abbrev ty_runtime_errorString : TypeId := 10
abbrev ty_runtime_plainError : TypeId := 11
abbrev ty_runtime_errorAddressString : TypeId := 14
abbrev ty_internal_runtime_maps_unhashableTypeError : TypeId := 19
abbrev ty_api_Hash : TypeId := 26
abbrev ty_api_Header : TypeId := 28
abbrev ty_api_Errno : TypeId := 29
abbrev ty_api_Fault : TypeId := 31
abbrev ty_header_rule : TypeId := 76
abbrev ty_wire_Reader : TypeId := 86
abbrev ty_landfallref04_Reader : TypeId := 94
abbrev ty_wire_Writer : TypeId := 96
abbrev ty_landfallref04_Writer : TypeId := 99
abbrev ty_blake_words : TypeId := 105
abbrev ty_blake_counter : TypeId := 109
abbrev ty_blake_State : TypeId := 111
abbrev ty_blake_four : TypeId := 135
abbrev ty_wire_wrong : TypeId := 137
abbrev ty_runtime_TypeAssertionError : TypeId := 147
abbrev ty_runtime_PanicNilError : TypeId := 150
abbrev ty_internal_abi_TFlag : TypeId := 151
abbrev ty_internal_abi_Kind : TypeId := 152
abbrev ty_internal_abi_NameOff : TypeId := 155
abbrev ty_internal_abi_TypeOff : TypeId := 156
abbrev ty_internal_abi_Type : TypeId := 158
instance : IsIface Try.prog 20 := ⟨by kernel_rfl⟩
/-- functions that are known to come to true -/
abbrev prims : List FuncId := [4, 9]
noncomputable def T0 : Table := withTrue Try.prog prims
abbrev fn_landfalllaw06_HeaderKnown : FuncId := 4
theorem landfalllaw06_HeaderKnown_known {h : Heap} : Runs Try.prog T0 (.fn 4) [] h (fun r h' => r = .bool true ∧ h' = h) (fun _ _ => False) := withTrue_runs rfl
abbrev fn_landfalllaw06_awake : FuncId := 9
theorem landfalllaw06_awake_known {h : Heap} : Runs Try.prog T0 (.fn 9) [] h (fun r h' => r = .bool true ∧ h' = h) (fun _ _ => False) := withTrue_runs rfl
instance : IsBoolT Try.prog 4 := ⟨by kernel_rfl⟩
instance : TLeaves Try.prog 7 (.i .i64 :: (.i .i64 :: (.b :: (.i .u8 :: [])))) := ⟨by kernel_rfl, by kernel_rfl, by kernel_rfl⟩
instance : TLeaves Try.prog 8 (.i .i64 :: (.i .i64 :: (.b :: (.i .u8 :: [])))) := ⟨by kernel_rfl, by kernel_rfl, by kernel_rfl⟩
instance : TLeaves Try.prog 25 (u8s 32) := ⟨by kernel_rfl, by kernel_rfl, by kernel_rfl⟩
instance : TLeaves Try.prog 26 (u8s 32) := ⟨by kernel_rfl, by kernel_rfl, by kernel_rfl⟩
instance : TLeaves Try.prog 27 (.s :: (.i .i64 :: (.i .i64 :: (u8s 32 ++ (u8s 32 ++ (u8s 32 ++ (u8s 32))))))) := ⟨by kernel_rfl, by kernel_rfl, by kernel_rfl⟩
instance : TLeaves Try.prog 28 (.s :: (.i .i64 :: (.i .i64 :: (u8s 32 ++ (u8s 32 ++ (u8s 32 ++ (u8s 32))))))) := ⟨by kernel_rfl, by kernel_rfl, by kernel_rfl⟩
instance : TLeaves Try.prog 30 (.i .i64 :: (.i .i64 :: [])) := ⟨by kernel_rfl, by kernel_rfl, by kernel_rfl⟩
instance : TLeaves Try.prog 31 (.i .i64 :: (.i .i64 :: [])) := ⟨by kernel_rfl, by kernel_rfl, by kernel_rfl⟩
instance : TLeaves Try.prog 101 (.i .u32 :: (.i .u32 :: (.i .u32 :: (.i .u32 :: (.i .u32 :: (.i .u32 :: (.i .u32 :: (.i .u32 :: [])))))))) := ⟨by kernel_rfl, by kernel_rfl, by kernel_rfl⟩
instance : TLeaves Try.prog 105 (.i .u32 :: (.i .u32 :: (.i .u32 :: (.i .u32 :: (.i .u32 :: (.i .u32 :: (.i .u32 :: (.i .u32 :: [])))))))) := ⟨by kernel_rfl, by kernel_rfl, by kernel_rfl⟩
instance : TLeaves Try.prog 108 (.i .i64 :: []) := ⟨by kernel_rfl, by kernel_rfl, by kernel_rfl⟩
instance : TLeaves Try.prog 109 (.i .i64 :: []) := ⟨by kernel_rfl, by kernel_rfl, by kernel_rfl⟩
instance : TLeaves Try.prog 124 (u8s 4 ++ (u8s 4 ++ (.i .u8 :: []))) := ⟨by kernel_rfl, by kernel_rfl, by kernel_rfl⟩
instance : TLeaves Try.prog 125 (.i .u32 :: (.i .u32 :: (.i .u32 :: (.i .u32 :: (.i .u32 :: (.i .u32 :: (.i .u32 :: (.i .u32 :: (.i .u32 :: (.i .u32 :: (.i .u32 :: (.i .u32 :: (.i .u32 :: (.i .u32 :: (.i .u32 :: (.i .u32 :: [])))))))))))))))) := ⟨by kernel_rfl, by kernel_rfl, by kernel_rfl⟩
instance : TLeaves Try.prog 126 (.i .i64 :: (.i .i64 :: (.i .i64 :: (.i .i64 :: (.i .i64 :: (.i .i64 :: (.i .i64 :: (.i .i64 :: (.i .i64 :: (.i .i64 :: (.i .i64 :: (.i .i64 :: (.i .i64 :: (.i .i64 :: (.i .i64 :: (.i .i64 :: [])))))))))))))))) := ⟨by kernel_rfl, by kernel_rfl, by kernel_rfl⟩
instance : TLeaves Try.prog 136 (.i .i64 :: (.i .i64 :: [])) := ⟨by kernel_rfl, by kernel_rfl, by kernel_rfl⟩
instance : TLeaves Try.prog 137 (.i .i64 :: (.i .i64 :: [])) := ⟨by kernel_rfl, by kernel_rfl, by kernel_rfl⟩
instance : TLeaves Try.prog 140 (.i .i64 :: (.i .i64 :: (.i .i64 :: (.i .i64 :: (.i .i64 :: (.i .i64 :: (.i .i64 :: (.i .i64 :: (.i .i64 :: (.i .i64 :: (.i .i64 :: (.i .i64 :: (.i .i64 :: (.i .i64 :: (.i .i64 :: (.i .i64 :: (.i .i64 :: (.i .i64 :: (.i .i64 :: (.i .i64 :: (.i .i64 :: (.i .i64 :: (.i .i64 :: (.i .i64 :: (.i .i64 :: (.i .i64 :: (.i .i64 :: (.i .i64 :: (.i .i64 :: (.i .i64 :: (.i .i64 :: (.i .i64 :: (.i .i64 :: (.i .i64 :: (.i .i64 :: (.i .i64 :: (.i .i64 :: (.i .i64 :: (.i .i64 :: (.i .i64 :: (.i .i64 :: (.i .i64 :: (.i .i64 :: (.i .i64 :: (.i .i64 :: (.i .i64 :: (.i .i64 :: (.i .i64 :: (.i .i64 :: (.i .i64 :: (.i .i64 :: (.i .i64 :: (.i .i64 :: (.i .i64 :: (.i .i64 :: (.i .i64 :: (.i .i64 :: (.i .i64 :: (.i .i64 :: (.i .i64 :: (.i .i64 :: (.i .i64 :: (.i .i64 :: (.i .i64 :: (.i .i64 :: (.i .i64 :: (.i .i64 :: (.i .i64 :: (.i .i64 :: (.i .i64 :: (.i .i64 :: (.i .i64 :: (.i .i64 :: (.i .i64 :: (.i .i64 :: (.i .i64 :: (.i .i64 :: (.i .i64 :: (.i .i64 :: (.i .i64 :: (.i .i64 :: (.i .i64 :: (.i .i64 :: (.i .i64 :: (.i .i64 :: (.i .i64 :: (.i .i64 :: (.i .i64 :: (.i .i64 :: (.i .i64 :: (.i .i64 :: (.i .i64 :: (.i .i64 :: (.i .i64 :: (.i .i64 :: (.i .i64 :: (.i .i64 :: (.i .i64 :: (.i .i64 :: (.i .i64 :: (.i .i64 :: (.i .i64 :: (.i .i64 :: (.i .i64 :: (.i .i64 :: (.i .i64 :: (.i .i64 :: (.i .i64 :: (.i .i64 :: (.i .i64 :: (.i .i64 :: (.i .i64 :: (.i .i64 :: (.i .i64 :: (.i .i64 :: (.i .i64 :: (.i .i64 :: (.i .i64 :: (.i .i64 :: (.i .i64 :: (.i .i64 :: (.i .i64 :: (.i .i64 :: (.i .i64 :: (.i .i64 :: (.i .i64 :: (.i .i64 :: (.i .i64 :: (.i .i64 :: (.i .i64 :: (.i .i64 :: (.i .i64 :: (.i .i64 :: (.i .i64 :: (.i .i64 :: (.i .i64 :: (.i .i64 :: (.i .i64 :: (.i .i64 :: (.i .i64 :: (.i .i64 :: (.i .i64 :: (.i .i64 :: (.i .i64 :: (.i .i64 :: (.i .i64 :: (.i .i64 :: (.i .i64 :: (.i .i64 :: (.i .i64 :: (.i .i64 :: (.i .i64 :: (.i .i64 :: (.i .i64 :: (.i .i64 :: (.i .i64 :: (.i .i64 :: (.i .i64 :: (.i .i64 :: (.i .i64 :: [])))))))))))))))))))))))))))))))))))))))))))))))))))))))))))))))))))))))))))))))))))))))))))))))))))))))))))))))))))))))))))))))))))))))))))))))))))))))))))))))) := ⟨by kernel_rfl, by kernel_rfl, by kernel_rfl⟩

/-! 3 landfall/landfalllaw06.HeaderDecodes -/
abbrev fn_landfalllaw06_HeaderDecodes : FuncId := 3
noncomputable def landfalllaw06_HeaderDecodes_c : ACode :=
  (.seq (.region [
      ⟨(some 2), .mov (.const (.bool false)), none, [], false⟩]) (.seq (.seq (.region [
      ⟨(some 8), .mov (.tmp 0), none, [], false⟩,
      ⟨(some 9), .lenSl (.tmp 8), none, [], false⟩,
      ⟨(some 10), .bin .gtr (so (.binOp .gtr 3 (.tmp 9) (.const (.int .i64 300)) 3) 4) (.tmp 9) (.const (.int .i64 300)), none, [], false⟩]) (.cond (.tmp 10)
    (.seq (.region [
      ⟨(some 11), .callV (.func 9) [], none, [], false⟩,
      ⟨(some 2), .mov (.tmp 11), none, [], false⟩]) .ret)
    .skip)) (.seq (.region [
      ⟨(some 12), .mov (.tmp 0), none, [], false⟩,
      ⟨(some 13), .callV (.func 10) [(.tmp 12)], none, [], false⟩,
      ⟨(some 3), .mov (.tmp 13), none, [], false⟩]) (.seq (.region [
      ⟨(some 15), .mov (.tmp 3), none, [], false⟩,
      ⟨(some 16), .callV (.func 11) [(.tmp 15)], none, [], false⟩,
      ⟨(some 14), .mov (.tmp 16), none, [], false⟩,
      ⟨(some 17), .extract 0 (.tmp 14), none, [], false⟩,
      ⟨(some 18), .extract 1 (.tmp 14), none, [], false⟩,
      ⟨(some 4), .alloc 28 ((.string ⟨⟨[]⟩⟩) :: ((.int .i64 0) :: ((.int .i64 0) :: (z32 ++ (z32 ++ (z32 ++ z32)))))), none, [], false⟩,
      ⟨(some 5), .alloc 31 [(.int .i64 0), (.int .i64 0)], none, [], false⟩,
      ⟨none, .store 131 (.tmp 4) (.tmp 17), none, [], false⟩,
      ⟨none, .store 2 (.tmp 5) (.tmp 18), none, [], false⟩]) (.seq (.region [
      ⟨(some 20), .mov (.tmp 0), none, [], false⟩,
      ⟨(some 21), .callV (.func 12) [(.tmp 20)], none, [], false⟩,
      ⟨(some 19), .mov (.tmp 21), none, [], false⟩,
      ⟨(some 22), .extract 0 (.tmp 19), none, [], false⟩,
      ⟨(some 23), .extract 1 (.tmp 19), none, [], false⟩,
      ⟨(some 6), .alloc 28 ((.string ⟨⟨[]⟩⟩) :: ((.int .i64 0) :: ((.int .i64 0) :: (z32 ++ (z32 ++ (z32 ++ z32)))))), none, [], false⟩,
      ⟨(some 7), .alloc 31 [(.int .i64 0), (.int .i64 0)], none, [], false⟩,
      ⟨none, .store 131 (.tmp 6) (.tmp 22), none, [], false⟩,
      ⟨none, .store 2 (.tmp 7) (.tmp 23), none, [], false⟩]) (.seq (.region [
      ⟨(some 24), .load (some 131) (.tmp 4), none, [], false⟩,
      ⟨(some 25), .load (some 131) (.tmp 6), none, [], false⟩,
      ⟨(some 26), .bin .eql (so (.binOp .eql 28 (.tmp 24) (.tmp 25) 28) 4) (.tmp 24) (.tmp 25), none, [], false⟩,
      ⟨(some 27), .mov (.tmp 26), none, [], false⟩,
      ⟨(some 28), .load (some 2) (.tmp 5), (some (27, true)), [], false⟩,
      ⟨(some 29), .load (some 2) (.tmp 7), (some (27, true)), [], false⟩,
      ⟨(some 30), .bin .eql (so (.binOp .eql 31 (.tmp 28) (.tmp 29) 31) 4) (.tmp 28) (.tmp 29), (some (27, true)), [], false⟩,
      ⟨(some 31), .pick (.tmp 27) (.tmp 30) (.const (.bool false)), none, [], false⟩,
      ⟨(some 32), .mov (.tmp 31), none, [], false⟩,
      ⟨(some 33), .mov (.tmp 3), (some (32, true)), [], false⟩,
      ⟨(some 34), .mov (.tmp 0), (some (32, true)), [], false⟩,
      ⟨(some 35), .callV (.func 13) [(.tmp 33), (.tmp 34)], (some (32, true)), [], false⟩,
      ⟨(some 36), .pick (.tmp 32) (.tmp 35) (.const (.bool false)), none, [], false⟩,
      ⟨(some 37), .mov (.tmp 36), none, [], false⟩,
      ⟨(some 38), .callV (.func 9) [], (some (37, true)), [], false⟩,
      ⟨(some 39), .pick (.tmp 37) (.tmp 38) (.const (.bool false)), none, [], false⟩,
      ⟨(some 2), .mov (.tmp 39), none, [], false⟩]) .ret))))))
noncomputable def landfalllaw06_HeaderDecodes : AFunc := ⟨40, [(2, none)], landfalllaw06_HeaderDecodes_c, none⟩
theorem landfalllaw06_HeaderDecodes_t0 : tableOf Try.prog 3 = some landfalllaw06_HeaderDecodes := by kernel_rfl
theorem landfalllaw06_HeaderDecodes_t : T0 3 = some landfalllaw06_HeaderDecodes := withTrue_t rfl landfalllaw06_HeaderDecodes_t0
theorem landfalllaw06_HeaderDecodes_runs {v0 : Value} {h : Heap} {R : RP} {X : XP} (k : RunC Try.prog T0 landfalllaw06_HeaderDecodes_c ⟨[v0, undef, undef, undef, undef, undef, undef, undef, undef, undef, undef, undef, undef, undef, undef, undef, undef, undef, undef, undef, undef, undef, undef, undef, undef, undef, undef, undef, undef, undef, undef, undef, undef, undef, undef, undef, undef, undef, undef, undef], [], h, none⟩ (bodyQ Try.prog T0 [(2, none)] R X)) :
    Runs Try.prog T0 (.fn 3) [v0] h R X := Runs.fn landfalllaw06_HeaderDecodes_t rfl k


/-! 5 landfall/landfalllaw06.HeaderBack -/
abbrev fn_landfalllaw06_HeaderBack : FuncId := 5
noncomputable def landfalllaw06_HeaderBack_c : ACode :=
  (.seq (.region [
      ⟨(some 3), .box 28 (.tmp 0), none, [], false⟩,
      ⟨(some 6), .mov (.const (.bool false)), none, [], false⟩]) (.seq (.region [
      ⟨(some 16), .callV (.func 4) [], none, [], false⟩,
      ⟨(some 7), .mov (.tmp 16), none, [], false⟩]) (.seq (.seq (.region [
      ⟨(some 17), .fieldAddr 0 (.tmp 3), none, [], false⟩,
      ⟨(some 18), .load none (.tmp 17), none, [], false⟩,
      ⟨(some 19), .lenStr (.tmp 18), none, [], false⟩,
      ⟨(some 20), .bin .gtr (so (.binOp .gtr 3 (.tmp 19) (.const (.int .i64 60)) 3) 4) (.tmp 19) (.const (.int .i64 60)), none, [], false⟩]) (.cond (.tmp 20)
    (.seq (.region [
      ⟨(some 21), .mov (.tmp 7), none, [], false⟩,
      ⟨(some 6), .mov (.tmp 21), none, [], false⟩]) .ret)
    .skip)) (.seq (.region [
      ⟨(some 23), .load (some 131) (.tmp 3), none, [], false⟩,
      ⟨(some 24), .callV (.func 14) [(.tmp 23)], none, [], false⟩,
      ⟨(some 22), .mov (.tmp 24), none, [], false⟩,
      ⟨(some 25), .extract 0 (.tmp 22), none, [], false⟩,
      ⟨(some 26), .extract 1 (.tmp 22), none, [], false⟩,
      ⟨(some 8), .mov (.tmp 25), none, [], false⟩,
      ⟨(some 9), .mov (.tmp 26), none, [], false⟩]) (.seq (.seq (.region [
      ⟨(some 27), .mov (.tmp 9), none, [], false⟩,
      ⟨(some 28), .load (some 131) (.tmp 3), none, [], false⟩,
      ⟨(some 29), .callV (.func 19) [(.tmp 28)], none, [], false⟩,
      ⟨(some 30), .bin .neq (so (.binOp .neq 29 (.tmp 27) (.tmp 29) 29) 4) (.tmp 27) (.tmp 29), none, [], false⟩,
      ⟨(some 31), .mov (.tmp 30), none, [], false⟩,
      ⟨(some 32), .mov (.tmp 9), (some (31, false)), [], false⟩,
      ⟨(some 33), .bin .neq (so (.binOp .neq 29 (.tmp 32) (.const (.int .i64 0)) 29) 4) (.tmp 32) (.const (.int .i64 0)), (some (31, false)), [], false⟩,
      ⟨(some 34), .mov (.tmp 33), (some (31, false)), [], false⟩,
      ⟨(some 35), .mov (.tmp 8), (some (34, true)), [], false⟩,
      ⟨(some 36), .lenSl (.tmp 35), (some (34, true)), [], false⟩,
      ⟨(some 37), .bin .gtr (so (.binOp .gtr 3 (.tmp 36) (.const (.int .i64 0)) 3) 4) (.tmp 36) (.const (.int .i64 0)), (some (34, true)), [], false⟩,
      ⟨(some 38), .pick (.tmp 34) (.tmp 37) (.const (.bool false)), (some (31, false)), [], false⟩,
      ⟨(some 39), .pick (.tmp 31) (.const (.bool true)) (.tmp 38), none, [], false⟩]) (.cond (.tmp 39)
    (.seq (.region [
      ⟨(some 6), .mov (.const (.bool false)), none, [], false⟩]) .ret)
    .skip)) (.seq (.seq (.region [
      ⟨(some 40), .mov (.tmp 9), none, [], false⟩,
      ⟨(some 41), .bin .neq (so (.binOp .neq 29 (.tmp 40) (.const (.int .i64 0)) 29) 4) (.tmp 40) (.const (.int .i64 0)), none, [], false⟩]) (.cond (.tmp 41)
    (.seq (.region [
      ⟨(some 42), .mov (.tmp 7), none, [], false⟩,
      ⟨(some 6), .mov (.tmp 42), none, [], false⟩]) .ret)
    .skip)) (.seq (.region [
      ⟨(some 44), .mov (.tmp 8), none, [], false⟩,
      ⟨(some 45), .callV (.func 11) [(.tmp 44)], none, [], false⟩,
      ⟨(some 43), .mov (.tmp 45), none, [], false⟩,
      ⟨(some 46), .extract 0 (.tmp 43), none, [], false⟩,
      ⟨(some 47), .extract 1 (.tmp 43), none, [], false⟩,
      ⟨(some 10), .alloc 28 ((.string ⟨⟨[]⟩⟩) :: ((.int .i64 0) :: ((.int .i64 0) :: (z32 ++ (z32 ++ (z32 ++ z32)))))), none, [], false⟩,
      ⟨(some 11), .alloc 31 [(.int .i64 0), (.int .i64 0)], none, [], false⟩,
      ⟨none, .store 131 (.tmp 10) (.tmp 46), none, [], false⟩,
      ⟨none, .store 2 (.tmp 11) (.tmp 47), none, [], false⟩]) (.seq (.seq (.region [
      ⟨(some 48), .load (some 2) (.tmp 11), none, [], false⟩,
      ⟨(some 49), .build [(.int .i64 0), (.int .i64 0)] [], none, [], false⟩,
      ⟨(some 50), .bin .neq (so (.binOp .neq 31 (.tmp 48) (.tmp 49) 31) 4) (.tmp 48) (.tmp 49), none, [], false⟩,
      ⟨(some 51), .mov (.tmp 50), none, [], false⟩,
      ⟨(some 52), .load (some 131) (.tmp 10), (some (51, false)), [], false⟩,
      ⟨(some 53), .load (some 131) (.tmp 3), (some (51, false)), [], false⟩,
      ⟨(some 54), .bin .neq (so (.binOp .neq 28 (.tmp 52) (.tmp 53) 28) 4) (.tmp 52) (.tmp 53), (some (51, false)), [], false⟩,
      ⟨(some 55), .pick (.tmp 51) (.const (.bool true)) (.tmp 54), none, [], false⟩,
      ⟨(some 56), .mov (.tmp 55), none, [], false⟩,
      ⟨(some 57), .mov (.tmp 8), (some (56, false)), [], false⟩,
      ⟨(some 58), .lenSl (.tmp 57), (some (56, false)), [], false⟩,
      ⟨(some 59), .bin .eql (so (.binOp .eql 3 (.tmp 58) (.const (.int .i64 0)) 3) 4) (.tmp 58) (.const (.int .i64 0)), (some (56, false)), [], false⟩,
      ⟨(some 60), .pick (.tmp 56) (.const (.bool true)) (.tmp 59), none, [], false⟩]) (.cond (.tmp 60)
    (.seq (.region [
      ⟨(some 6), .mov (.const (.bool false)), none, [], false⟩]) .ret)
    .skip)) (.seq (.region [
      ⟨(some 62), .mov (.tmp 8), none, [], false⟩,
      ⟨(some 63), .mov (.tmp 1), none, [], false⟩,
      ⟨(some 64), .mov (.tmp 8), none, [], false⟩,
      ⟨(some 65), .lenSl (.tmp 64), none, [], false⟩,
      ⟨(some 66), .callV (.func 22) [(.tmp 63), (.tmp 65)], none, [], false⟩,
      ⟨(some 67), .sliceSl 1 (.tmp 62) none (some (.tmp 66)) none, none, [], false⟩,
      ⟨(some 68), .callV (.func 11) [(.tmp 67)], none, [], false⟩,
      ⟨(some 61), .mov (.tmp 68), none, [], false⟩,
      ⟨(some 69), .extract 0 (.tmp 61), none, [], false⟩,
      ⟨(some 70), .extract 1 (.tmp 61), none, [], false⟩,
      ⟨(some 12), .alloc 28 ((.string ⟨⟨[]⟩⟩) :: ((.int .i64 0) :: ((.int .i64 0) :: (z32 ++ (z32 ++ (z32 ++ z32)))))), none, [], false⟩,
      ⟨(some 13), .alloc 31 [(.int .i64 0), (.int .i64 0)], none, [], false⟩,
      ⟨none, .store 131 (.tmp 12) (.tmp 69), none, [], false⟩,
      ⟨none, .store 2 (.tmp 13) (.tmp 70), none, [], false⟩]) (.seq (.region [
      ⟨(some 72), .mov (.tmp 8), none, [], false⟩,
      ⟨(some 73), .callV (.func 21) [(.tmp 72)], none, [], false⟩,
      ⟨(some 74), .mov (.tmp 2), none, [], false⟩,
      ⟨(some 75), .buildSlice 5 [(.int .u8 0)] 1 [(0, 1, (.tmp 74))], none, [], false⟩,
      ⟨(some 76), .append 5 1 1 [(.int .u8 0)] false (.tmp 73) (.tmp 75), none, [], false⟩,
      ⟨(some 77), .callV (.func 11) [(.tmp 76)], none, [], false⟩,
      ⟨(some 71), .mov (.tmp 77), none, [], false⟩,
      ⟨(some 78), .extract 0 (.tmp 71), none, [], false⟩,
      ⟨(some 79), .extract 1 (.tmp 71), none, [], false⟩,
      ⟨(some 14), .alloc 28 ((.string ⟨⟨[]⟩⟩) :: ((.int .i64 0) :: ((.int .i64 0) :: (z32 ++ (z32 ++ (z32 ++ z32)))))), none, [], false⟩,
      ⟨(some 15), .alloc 31 [(.int .i64 0), (.int .i64 0)], none, [], false⟩,
      ⟨none, .store 131 (.tmp 14) (.tmp 78), none, [], false⟩,
      ⟨none, .store 2 (.tmp 15) (.tmp 79), none, [], false⟩]) (.seq (.region [
      ⟨(some 80), .mov (.tmp 7), none, [], false⟩,
      ⟨(some 81), .mov (.tmp 80), none, [], false⟩,
      ⟨(some 82), .fieldAddr 0 (.tmp 13), (some (81, true)), [], false⟩,
      ⟨(some 83), .load none (.tmp 82), (some (81, true)), [], false⟩,
      ⟨(some 84), .bin .eql (so (.binOp .eql 29 (.tmp 83) (.const (.int .i64 6)) 29) 4) (.tmp 83) (.const (.int .i64 6)), (some (81, true)), [], false⟩,
      ⟨(some 85), .pick (.tmp 81) (.tmp 84) (.const (.bool false)), none, [], false⟩,
      ⟨(some 86), .mov (.tmp 85), none, [], false⟩,
      ⟨(some 87), .load (some 2) (.tmp 15), (some (86, true)), [], false⟩,
      ⟨(some 88), .mov (.tmp 8), (some (86, true)), [], false⟩,
      ⟨(some 89), .lenSl (.tmp 88), (some (86, true)), [], false⟩,
      ⟨(some 90), .build [(.int .i64 0), (.int .i64 0)] [(0, 1, (.const (.int .i64 4))), (1, 1, (.tmp 89))], (some (86, true)), [], false⟩,
      ⟨(some 91), .bin .eql (so (.binOp .eql 31 (.tmp 87) (.tmp 90) 31) 4) (.tmp 87) (.tmp 90), (some (86, true)), [], false⟩,
      ⟨(some 92), .pick (.tmp 86) (.tmp 91) (.const (.bool false)), none, [], false⟩,
      ⟨(some 6), .mov (.tmp 92), none, [], false⟩]) .ret)))))))))))
noncomputable def landfalllaw06_HeaderBack : AFunc := ⟨93, [(6, none)], landfalllaw06_HeaderBack_c, none⟩
theorem landfalllaw06_HeaderBack_t0 : tableOf Try.prog 5 = some landfalllaw06_HeaderBack := by kernel_rfl
theorem landfalllaw06_HeaderBack_t : T0 5 = some landfalllaw06_HeaderBack := withTrue_t rfl landfalllaw06_HeaderBack_t0
theorem landfalllaw06_HeaderBack_runs {v0 v1 v2 : Value} {h : Heap} {R : RP} {X : XP} (k : RunC Try.prog T0 landfalllaw06_HeaderBack_c ⟨[v0, v1, v2, undef, undef, undef, undef, undef, undef, undef, undef, undef, undef, undef, undef, undef, undef, undef, undef, undef, undef, undef, undef, undef, undef, undef, undef, undef, undef, undef, undef, undef, undef, undef, undef, undef, undef, undef, undef, undef, undef, undef, undef, undef, undef, undef, undef, undef, undef, undef, undef, undef, undef, undef, undef, undef, undef, undef, undef, undef, undef, undef, undef, undef, undef, undef, undef, undef, undef, undef, undef, undef, undef, undef, undef, undef, undef, undef, undef, undef, undef, undef, undef, undef, undef, undef, undef, undef, undef, undef, undef, undef, undef], [], h, none⟩ (bodyQ Try.prog T0 [(6, none)] R X)) :
    Runs Try.prog T0 (.fn 5) [v0, v1, v2] h R X := Runs.fn landfalllaw06_HeaderBack_t rfl k


/-! 6 landfall/landfalllaw06.HeaderOne -/
abbrev fn_landfalllaw06_HeaderOne : FuncId := 6
noncomputable def landfalllaw06_HeaderOne_c : ACode :=
  (.seq (.region [
      ⟨(some 2), .mov (.const (.bool false)), none, [], false⟩]) (.seq (.region [
      ⟨(some 8), .callV (.func 4) [], none, [], false⟩,
      ⟨(some 3), .mov (.tmp 8), none, [], false⟩]) (.seq (.seq (.region [
      ⟨(some 9), .mov (.tmp 0), none, [], false⟩,
      ⟨(some 10), .lenSl (.tmp 9), none, [], false⟩,
      ⟨(some 11), .bin .gtr (so (.binOp .gtr 3 (.tmp 10) (.const (.int .i64 300)) 3) 4) (.tmp 10) (.const (.int .i64 300)), none, [], false⟩]) (.cond (.tmp 11)
    (.seq (.region [
      ⟨(some 12), .mov (.tmp 3), none, [], false⟩,
      ⟨(some 2), .mov (.tmp 12), none, [], false⟩]) .ret)
    .skip)) (.seq (.region [
      ⟨(some 14), .mov (.tmp 0), none, [], false⟩,
      ⟨(some 15), .callV (.func 11) [(.tmp 14)], none, [], false⟩,
      ⟨(some 13), .mov (.tmp 15), none, [], false⟩,
      ⟨(some 16), .extract 0 (.tmp 13), none, [], false⟩,
      ⟨(some 17), .extract 1 (.tmp 13), none, [], false⟩,
      ⟨(some 4), .alloc 28 ((.string ⟨⟨[]⟩⟩) :: ((.int .i64 0) :: ((.int .i64 0) :: (z32 ++ (z32 ++ (z32 ++ z32)))))), none, [], false⟩,
      ⟨(some 5), .alloc 31 [(.int .i64 0), (.int .i64 0)], none, [], false⟩,
      ⟨none, .store 131 (.tmp 4) (.tmp 16), none, [], false⟩,
      ⟨none, .store 2 (.tmp 5) (.tmp 17), none, [], false⟩]) (.seq (.seq (.region [
      ⟨(some 18), .fieldAddr 0 (.tmp 5), none, [], false⟩,
      ⟨(some 19), .load none (.tmp 18), none, [], false⟩,
      ⟨(some 20), .bin .neq (so (.binOp .neq 29 (.tmp 19) (.const (.int .i64 0)) 29) 4) (.tmp 19) (.const (.int .i64 0)), none, [], false⟩]) (.cond (.tmp 20)
    (.seq (.region [
      ⟨(some 21), .mov (.tmp 3), none, [], false⟩,
      ⟨(some 22), .mov (.tmp 21), none, [], false⟩,
      ⟨(some 23), .fieldAddr 1 (.tmp 5), (some (22, true)), [], false⟩,
      ⟨(some 24), .load none (.tmp 23), (some (22, true)), [], false⟩,
      ⟨(some 25), .bin .geq (so (.binOp .geq 3 (.tmp 24) (.const (.int .i64 0)) 3) 4) (.tmp 24) (.const (.int .i64 0)), (some (22, true)), [], false⟩,
      ⟨(some 26), .pick (.tmp 22) (.tmp 25) (.const (.bool false)), none, [], false⟩,
      ⟨(some 27), .mov (.tmp 26), none, [], false⟩,
      ⟨(some 28), .fieldAddr 1 (.tmp 5), (some (27, true)), [], false⟩,
      ⟨(some 29), .load none (.tmp 28), (some (27, true)), [], false⟩,
      ⟨(some 30), .mov (.tmp 0), (some (27, true)), [], false⟩,
      ⟨(some 31), .lenSl (.tmp 30), (some (27, true)), [], false⟩,
      ⟨(some 32), .bin .leq (so (.binOp .leq 3 (.tmp 29) (.tmp 31) 3) 4) (.tmp 29) (.tmp 31), (some (27, true)), [], false⟩,
      ⟨(some 33), .pick (.tmp 27) (.tmp 32) (.const (.bool false)), none, [], false⟩,
      ⟨(some 34), .mov (.tmp 33), none, [], false⟩,
      ⟨(some 35), .load (some 131) (.tmp 4), (some (34, true)), [], false⟩,
      ⟨(some 36), .build ((.string ⟨⟨[]⟩⟩) :: ((.int .i64 0) :: ((.int .i64 0) :: (z32 ++ (z32 ++ (z32 ++ z32)))))) [], (some (34, true)), [], false⟩,
      ⟨(some 37), .bin .eql (so (.binOp .eql 28 (.tmp 35) (.tmp 36) 28) 4) (.tmp 35) (.tmp 36), (some (34, true)), [], false⟩,
      ⟨(some 38), .pick (.tmp 34) (.tmp 37) (.const (.bool false)), none, [], false⟩,
      ⟨(some 2), .mov (.tmp 38), none, [], false⟩]) .ret)
    .skip)) (.seq (.region [
      ⟨(some 40), .load (some 131) (.tmp 4), none, [], false⟩,
      ⟨(some 41), .callV (.func 14) [(.tmp 40)], none, [], false⟩,
      ⟨(some 39), .mov (.tmp 41), none, [], false⟩,
      ⟨(some 42), .extract 0 (.tmp 39), none, [], false⟩,
      ⟨(some 43), .extract 1 (.tmp 39), none, [], false⟩,
      ⟨(some 6), .mov (.tmp 42), none, [], false⟩,
      ⟨(some 7), .mov (.tmp 43), none, [], false⟩]) (.seq (.region [
      ⟨(some 44), .mov (.tmp 3), none, [], false⟩,
      ⟨(some 45), .mov (.tmp 44), none, [], false⟩,
      ⟨(some 46), .mov (.tmp 7), (some (45, true)), [], false⟩,
      ⟨(some 47), .bin .eql (so (.binOp .eql 29 (.tmp 46) (.const (.int .i64 0)) 29) 4) (.tmp 46) (.const (.int .i64 0)), (some (45, true)), [], false⟩,
      ⟨(some 48), .pick (.tmp 45) (.tmp 47) (.const (.bool false)), none, [], false⟩,
      ⟨(some 49), .mov (.tmp 48), none, [], false⟩,
      ⟨(some 50), .mov (.tmp 0), (some (49, true)), [], false⟩,
      ⟨(some 51), .mov (.tmp 6), (some (49, true)), [], false⟩,
      ⟨(some 52), .callV (.func 16) [(.tmp 50), (.tmp 51)], (some (49, true)), [], false⟩,
      ⟨(some 53), .pick (.tmp 49) (.tmp 52) (.const (.bool false)), none, [], false⟩,
      ⟨(some 2), .mov (.tmp 53), none, [], false⟩]) .ret)))))))
noncomputable def landfalllaw06_HeaderOne : AFunc := ⟨54, [(2, none)], landfalllaw06_HeaderOne_c, none⟩
theorem landfalllaw06_HeaderOne_t0 : tableOf Try.prog 6 = some landfalllaw06_HeaderOne := by kernel_rfl
theorem landfalllaw06_HeaderOne_t : T0 6 = some landfalllaw06_HeaderOne := withTrue_t rfl landfalllaw06_HeaderOne_t0
theorem landfalllaw06_HeaderOne_runs {v0 : Value} {h : Heap} {R : RP} {X : XP} (k : RunC Try.prog T0 landfalllaw06_HeaderOne_c ⟨[v0, undef, undef, undef, undef, undef, undef, undef, undef, undef, undef, undef, undef, undef, undef, undef, undef, undef, undef, undef, undef, undef, undef, undef, undef, undef, undef, undef, undef, undef, undef, undef, undef, undef, undef, undef, undef, undef, undef, undef, undef, undef, undef, undef, undef, undef, undef, undef, undef, undef, undef, undef, undef, undef], [], h, none⟩ (bodyQ Try.prog T0 [(2, none)] R X)) :
    Runs Try.prog T0 (.fn 6) [v0] h R X := Runs.fn landfalllaw06_HeaderOne_t rfl k


/-! 10 landfall/landfallkit.LentBytes -/
abbrev fn_landfallkit_LentBytes : FuncId := 10
noncomputable def landfallkit_LentBytes_c : ACode :=
  (.seq (.region [
      ⟨(some 2), .mov (.const (.slice none 0 0)), none, [], false⟩]) (.seq (.region [
      ⟨(some 4), .buildSlice 5 [] 0 [], none, [], false⟩,
      ⟨(some 5), .mov (.tmp 0), none, [], false⟩,
      ⟨(some 6), .append 5 1 1 [(.int .u8 0)] false (.tmp 4) (.tmp 5), none, [], false⟩,
      ⟨(some 7), .buildSlice 5 [(.int .u8 0), (.int .u8 0), (.int .u8 0), (.int .u8 0)] 4 [(0, 1, (.const (.int .u8 201))), (1, 1, (.const (.int .u8 202))), (2, 1, (.const (.int .u8 203))), (3, 1, (.const (.int .u8 204)))], none, [], false⟩,
      ⟨(some 8), .append 5 1 1 [(.int .u8 0)] false (.tmp 6) (.tmp 7), none, [], false⟩,
      ⟨(some 3), .mov (.tmp 8), none, [], false⟩]) (.seq (.region [
      ⟨(some 9), .mov (.tmp 3), none, [], false⟩,
      ⟨(some 10), .mov (.tmp 0), none, [], false⟩,
      ⟨(some 11), .lenSl (.tmp 10), none, [], false⟩,
      ⟨(some 12), .sliceSl 1 (.tmp 9) none (some (.tmp 11)) none, none, [], false⟩,
      ⟨(some 2), .mov (.tmp 12), none, [], false⟩]) .ret)))
noncomputable def landfallkit_LentBytes : AFunc := ⟨13, [(2, none)], landfallkit_LentBytes_c, none⟩
theorem landfallkit_LentBytes_t0 : tableOf Try.prog 10 = some landfallkit_LentBytes := by kernel_rfl
theorem landfallkit_LentBytes_t : T0 10 = some landfallkit_LentBytes := withTrue_t rfl landfallkit_LentBytes_t0
theorem landfallkit_LentBytes_runs {v0 : Value} {h : Heap} {R : RP} {X : XP} (k : RunC Try.prog T0 landfallkit_LentBytes_c ⟨[v0, undef, undef, undef, undef, undef, undef, undef, undef, undef, undef, undef, undef], [], h, none⟩ (bodyQ Try.prog T0 [(2, none)] R X)) :
    Runs Try.prog T0 (.fn 10) [v0] h R X := Runs.fn landfallkit_LentBytes_t rfl k


/-! 11 landfall/header.Decode -/
abbrev fn_header_Decode : FuncId := 11
noncomputable def header_Decode_l0 : ACode :=
  (.seq (.region [
      ⟨(some 20), .bin .lss (so (.binOp .lss 3 (.tmp 19) (.const (.int .i64 4)) 3) 0) (.tmp 19) (.const (.int .i64 4)), none, [], false⟩]) (.seq (.cond (.tmp 20)
    .skip
    (.exit 0)) (.seq (.block 1 (.seq (.region [
      ⟨(some 21), .index 4 1 none (.tmp 18) (.tmp 19), none, [], false⟩,
      ⟨(some 7), .mov (.tmp 21), none, [], false⟩]) (.region [
      ⟨(some 22), .mov (.tmp 7), none, [], false⟩,
      ⟨(some 23), .mov (.tmp 4), none, [], false⟩,
      ⟨(some 24), .callV (.func 34) [(.tmp 23)], none, [], false⟩,
      ⟨(some 25), .nilCheck (.tmp 22), none, [], false⟩,
      ⟨none, .store 32 (.tmp 25) (.tmp 24), none, [], false⟩]))) (.region [
      ⟨(some 26), .bin .add (so (.binOp .add 3 (.tmp 19) (.const (.int .i64 1)) 3) 3) (.tmp 19) (.const (.int .i64 1)), none, [], false⟩,
      ⟨(some 19), .mov (.tmp 26), none, [], false⟩]))))
noncomputable def header_Decode_c : ACode :=
  (.seq (.region [
      ⟨(some 2), .alloc 28 ((.string ⟨⟨[]⟩⟩) :: ((.int .i64 0) :: ((.int .i64 0) :: (z32 ++ (z32 ++ (z32 ++ z32)))))), none, [], false⟩,
      ⟨(some 3), .alloc 31 [(.int .i64 0), (.int .i64 0)], none, [], false⟩]) (.seq (.region [
      ⟨(some 9), .mov (.tmp 0), none, [], false⟩,
      ⟨(some 10), .callV (.func 30) [(.tmp 9)], none, [], false⟩,
      ⟨(some 4), .mov (.tmp 10), none, [], false⟩]) (.seq (.region [
      ⟨(some 11), .mov (.tmp 4), none, [], false⟩,
      ⟨(some 12), .callV (.func 31) [(.tmp 11), (.const (.int .i64 32))], none, [], false⟩,
      ⟨(some 13), .mov (.tmp 4), none, [], false⟩,
      ⟨(some 14), .callV (.func 32) [(.tmp 13)], none, [], false⟩,
      ⟨(some 15), .mov (.tmp 4), none, [], false⟩,
      ⟨(some 16), .callV (.func 32) [(.tmp 15)], none, [], false⟩,
      ⟨(some 17), .build ((.string ⟨⟨[]⟩⟩) :: ((.int .i64 0) :: ((.int .i64 0) :: (z32 ++ (z32 ++ (z32 ++ z32)))))) [(0, 1, (.tmp 12)), (1, 1, (.tmp 14)), (2, 1, (.tmp 16))], none, [], false⟩,
      ⟨(some 5), .alloc 28 ((.string ⟨⟨[]⟩⟩) :: ((.int .i64 0) :: ((.int .i64 0) :: (z32 ++ (z32 ++ (z32 ++ z32)))))), none, [], false⟩,
      ⟨none, .store 131 (.tmp 5) (.tmp 17), none, [], false⟩]) (.seq (.seq (.region [
      ⟨(some 18), .callV (.func 33) [(.tmp 5)], none, [], false⟩,
      ⟨(some 19), .mov (.const (.int .i64 0)), none, [], false⟩]) (.block 0 (.loop header_Decode_l0))) (.seq (.region [
      ⟨(some 27), .mov (.tmp 4), none, [], false⟩,
      ⟨(some 28), .callV (.func 35) [(.tmp 27)], none, [], false⟩,
      ⟨(some 8), .alloc 31 [(.int .i64 0), (.int .i64 0)], none, [], false⟩,
      ⟨none, .store 2 (.tmp 8) (.tmp 28), none, [], false⟩]) (.seq (.seq (.region [
      ⟨(some 29), .load (some 2) (.tmp 8), none, [], false⟩,
      ⟨(some 30), .build [(.int .i64 0), (.int .i64 0)] [], none, [], false⟩,
      ⟨(some 31), .bin .eql (so (.binOp .eql 31 (.tmp 29) (.tmp 30) 31) 4) (.tmp 29) (.tmp 30), none, [], false⟩]) (.cond (.tmp 31)
    (.region [
      ⟨(some 32), .load (some 131) (.tmp 5), none, [], false⟩,
      ⟨(some 33), .callV (.func 19) [(.tmp 32)], none, [], false⟩,
      ⟨(some 34), .fieldAddr 0 (.tmp 8), none, [], false⟩,
      ⟨none, .store 1 (.tmp 34) (.tmp 33), none, [], false⟩])
    .skip)) (.seq (.seq (.region [
      ⟨(some 35), .load (some 2) (.tmp 8), none, [], false⟩,
      ⟨(some 36), .build [(.int .i64 0), (.int .i64 0)] [], none, [], false⟩,
      ⟨(some 37), .bin .neq (so (.binOp .neq 31 (.tmp 35) (.tmp 36) 31) 4) (.tmp 35) (.tmp 36), none, [], false⟩]) (.cond (.tmp 37)
    (.seq (.regionD [
      ⟨(some 38), .build ((.string ⟨⟨[]⟩⟩) :: ((.int .i64 0) :: ((.int .i64 0) :: (z32 ++ (z32 ++ (z32 ++ z32)))))) [], none, [], false⟩,
      ⟨(some 39), .load (some 2) (.tmp 8), none, [], false⟩,
      ⟨none, .store 131 (.tmp 2) (.tmp 38), none, [((some 39), .load (some 2) (.tmp 8), none)], false⟩,
      ⟨none, .store 2 (.tmp 3) (.tmp 39), none, [], true⟩]) .ret)
    .skip)) (.seq (.regionD [
      ⟨(some 40), .load (some 131) (.tmp 5), none, [], false⟩,
      ⟨(some 41), .load (some 2) (.tmp 8), none, [], false⟩,
      ⟨none, .store 131 (.tmp 2) (.tmp 40), none, [((some 41), .load (some 2) (.tmp 8), none)], false⟩,
      ⟨none, .store 2 (.tmp 3) (.tmp 41), none, [], true⟩]) .ret))))))))
noncomputable def header_Decode : AFunc := ⟨42, [(2, some (some 131)), (3, some (some 2))], header_Decode_c, none⟩
theorem header_Decode_t0 : tableOf Try.prog 11 = some header_Decode := by kernel_rfl
theorem header_Decode_t : T0 11 = some header_Decode := withTrue_t rfl header_Decode_t0
theorem header_Decode_runs {v0 : Value} {h : Heap} {R : RP} {X : XP} (k : RunC Try.prog T0 header_Decode_c ⟨[v0, undef, undef, undef, undef, undef, undef, undef, undef, undef, undef, undef, undef, undef, undef, undef, undef, undef, undef, undef, undef, undef, undef, undef, undef, undef, undef, undef, undef, undef, undef, undef, undef, undef, undef, undef, undef, undef, undef, undef, undef, undef], [], h, none⟩ (bodyQ Try.prog T0 [(2, some (some 131)), (3, some (some 2))] R X)) :
    Runs Try.prog T0 (.fn 11) [v0] h R X := Runs.fn header_Decode_t rfl k
/-- the slots that turn in the loop: v19 -/
noncomputable def header_Decode_l0_J (f0 f1 f2 f3 f4 f5 f6 f8 f9 f10 f11 f12 f13 f14 f15 f16 f17 f18 f27 f28 f29 f30 f31 f32 f33 f34 f35 f36 f37 f38 f39 f40 f41 : Value) (ds : List Deferred) (rd : Option Nat) (I : Nat → Value → Heap → Prop) (m : Nat) (s : St) : Prop := ∃ (v19 : Value), ∃ h : Heap, ∃ (x7 x20 x21 x22 x23 x24 x25 x26 : Value), s = ⟨[f0, f1, f2, f3, f4, f5, f6, x7, f8, f9, f10, f11, f12, f13, f14, f15, f16, f17, f18, v19, x20, x21, x22, x23, x24, x25, x26, f27, f28, f29, f30, f31, f32, f33, f34, f35, f36, f37, f38, f39, f40, f41], ds, h, rd⟩ ∧ I m v19 h
theorem header_Decode_l0_rule {f0 f1 f2 f3 f4 f5 f6 f8 f9 f10 f11 f12 f13 f14 f15 f16 f17 f18 f27 f28 f29 f30 f31 f32 f33 f34 f35 f36 f37 f38 f39 f40 f41 : Value} {ds : List Deferred} {rd : Option Nat} {Q : QP} (I : Nat → Value → Heap → Prop) (hb : ∀ (m : Nat) (v19 : Value) (h : Heap) (x7 x20 x21 x22 x23 x24 x25 x26 : Value) , I m v19 h → RunC Try.prog T0 header_Decode_l0 ⟨[f0, f1, f2, f3, f4, f5, f6, x7, f8, f9, f10, f11, f12, f13, f14, f15, f16, f17, f18, v19, x20, x21, x22, x23, x24, x25, x26, f27, f28, f29, f30, f31, f32, f33, f34, f35, f36, f37, f38, f39, f40, f41], ds, h, rd⟩ (loopQ (header_Decode_l0_J f0 f1 f2 f3 f4 f5 f6 f8 f9 f10 f11 f12 f13 f14 f15 f16 f17 f18 f27 f28 f29 f30 f31 f32 f33 f34 f35 f36 f37 f38 f39 f40 f41 ds rd I) m Q))
    (m : Nat) {v19 : Value} {h : Heap} {x7 x20 x21 x22 x23 x24 x25 x26 : Value} (hi : I m v19 h) : RunC Try.prog T0 (.loop header_Decode_l0) ⟨[f0, f1, f2, f3, f4, f5, f6, x7, f8, f9, f10, f11, f12, f13, f14, f15, f16, f17, f18, v19, x20, x21, x22, x23, x24, x25, x26, f27, f28, f29, f30, f31, f32, f33, f34, f35, f36, f37, f38, f39, f40, f41], ds, h, rd⟩ Q :=
  RunC.loopJ (header_Decode_l0_J f0 f1 f2 f3 f4 f5 f6 f8 f9 f10 f11 f12 f13 f14 f15 f16 f17 f18 f27 f28 f29 f30 f31 f32 f33 f34 f35 f36 f37 f38 f39 f40 f41 ds rd I) (fun m s hj => by obtain ⟨v19, h, x7, x20, x21, x22, x23, x24, x25, x26, rfl, hi⟩ := hj; exact hb m v19 h x7 x20 x21 x22 x23 x24 x25 x26 hi) m _ ⟨_, h, _, _, _, _, _, _, _, _, rfl, hi⟩
theorem header_Decode_l0_again {f0 f1 f2 f3 f4 f5 f6 f8 f9 f10 f11 f12 f13 f14 f15 f16 f17 f18 f27 f28 f29 f30 f31 f32 f33 f34 f35 f36 f37 f38 f39 f40 f41 : Value} {ds : List Deferred} {rd : Option Nat} {Q : QP} {I : Nat → Value → Heap → Prop} {m : Nat} (m' : Nat) {v19 : Value} {h : Heap} {x7 x20 x21 x22 x23 x24 x25 x26 : Value} (hm : m' < m) (hi : I m' v19 h) : loopQ (header_Decode_l0_J f0 f1 f2 f3 f4 f5 f6 f8 f9 f10 f11 f12 f13 f14 f15 f16 f17 f18 f27 f28 f29 f30 f31 f32 f33 f34 f35 f36 f37 f38 f39 f40 f41 ds rd I) m Q .normal ⟨[f0, f1, f2, f3, f4, f5, f6, x7, f8, f9, f10, f11, f12, f13, f14, f15, f16, f17, f18, v19, x20, x21, x22, x23, x24, x25, x26, f27, f28, f29, f30, f31, f32, f33, f34, f35, f36, f37, f38, f39, f40, f41], ds, h, rd⟩ :=
  loopQ.again m' hm ⟨_, h, _, _, _, _, _, _, _, _, rfl, hi⟩

/-! 12 landfall/landfallref06.Decode -/
abbrev fn_landfallref06_Decode : FuncId := 12
noncomputable def landfallref06_Decode_c : ACode :=
  (.seq (.region [
      ⟨(some 2), .alloc 28 ((.string ⟨⟨[]⟩⟩) :: ((.int .i64 0) :: ((.int .i64 0) :: (z32 ++ (z32 ++ (z32 ++ z32)))))), none, [], false⟩,
      ⟨(some 3), .alloc 31 [(.int .i64 0), (.int .i64 0)], none, [], false⟩]) (.seq (.region [
      ⟨(some 7), .mov (.tmp 0), none, [], false⟩,
      ⟨(some 8), .callV (.func 36) [(.tmp 7)], none, [], false⟩,
      ⟨(some 4), .mov (.tmp 8), none, [], false⟩]) (.seq (.region [
      ⟨(some 9), .mov (.tmp 4), none, [], false⟩,
      ⟨(some 10), .callV (.func 37) [(.tmp 9)], none, [], false⟩,
      ⟨(some 5), .alloc 28 ((.string ⟨⟨[]⟩⟩) :: ((.int .i64 0) :: ((.int .i64 0) :: (z32 ++ (z32 ++ (z32 ++ z32)))))), none, [], false⟩,
      ⟨none, .store 131 (.tmp 5) (.tmp 10), none, [], false⟩]) (.seq (.region [
      ⟨(some 11), .mov (.tmp 4), none, [], false⟩,
      ⟨(some 12), .callV (.func 38) [(.tmp 11)], none, [], false⟩,
      ⟨(some 6), .alloc 31 [(.int .i64 0), (.int .i64 0)], none, [], false⟩,
      ⟨none, .store 2 (.tmp 6) (.tmp 12), none, [], false⟩]) (.seq (.seq (.region [
      ⟨(some 13), .fieldAddr 0 (.tmp 6), none, [], false⟩,
      ⟨(some 14), .load none (.tmp 13), none, [], false⟩,
      ⟨(some 15), .bin .eql (so (.binOp .eql 29 (.tmp 14) (.const (.int .i64 0)) 29) 4) (.tmp 14) (.const (.int .i64 0)), none, [], false⟩]) (.cond (.tmp 15)
    (.region [
      ⟨(some 16), .load (some 131) (.tmp 5), none, [], false⟩,
      ⟨(some 17), .callV (.func 26) [(.tmp 16)], none, [], false⟩,
      ⟨(some 18), .fieldAddr 0 (.tmp 6), none, [], false⟩,
      ⟨none, .store 1 (.tmp 18) (.tmp 17), none, [], false⟩])
    .skip)) (.seq (.seq (.region [
      ⟨(some 19), .fieldAddr 0 (.tmp 6), none, [], false⟩,
      ⟨(some 20), .load none (.tmp 19), none, [], false⟩,
      ⟨(some 21), .bin .neq (so (.binOp .neq 29 (.tmp 20) (.const (.int .i64 0)) 29) 4) (.tmp 20) (.const (.int .i64 0)), none, [], false⟩]) (.cond (.tmp 21)
    (.seq (.regionD [
      ⟨(some 22), .build ((.string ⟨⟨[]⟩⟩) :: ((.int .i64 0) :: ((.int .i64 0) :: (z32 ++ (z32 ++ (z32 ++ z32)))))) [], none, [], false⟩,
      ⟨(some 23), .load (some 2) (.tmp 6), none, [], false⟩,
      ⟨none, .store 131 (.tmp 2) (.tmp 22), none, [((some 23), .load (some 2) (.tmp 6), none)], false⟩,
      ⟨none, .store 2 (.tmp 3) (.tmp 23), none, [], true⟩]) .ret)
    .skip)) (.seq (.regionD [
      ⟨(some 24), .load (some 131) (.tmp 5), none, [], false⟩,
      ⟨(some 25), .load (some 2) (.tmp 6), none, [], false⟩,
      ⟨none, .store 131 (.tmp 2) (.tmp 24), none, [((some 25), .load (some 2) (.tmp 6), none)], false⟩,
      ⟨none, .store 2 (.tmp 3) (.tmp 25), none, [], true⟩]) .ret)))))))
noncomputable def landfallref06_Decode : AFunc := ⟨26, [(2, some (some 131)), (3, some (some 2))], landfallref06_Decode_c, none⟩
theorem landfallref06_Decode_t0 : tableOf Try.prog 12 = some landfallref06_Decode := by kernel_rfl
theorem landfallref06_Decode_t : T0 12 = some landfallref06_Decode := withTrue_t rfl landfallref06_Decode_t0
theorem landfallref06_Decode_runs {v0 : Value} {h : Heap} {R : RP} {X : XP} (k : RunC Try.prog T0 landfallref06_Decode_c ⟨[v0, undef, undef, undef, undef, undef, undef, undef, undef, undef, undef, undef, undef, undef, undef, undef, undef, undef, undef, undef, undef, undef, undef, undef, undef, undef], [], h, none⟩ (bodyQ Try.prog T0 [(2, some (some 131)), (3, some (some 2))] R X)) :
    Runs Try.prog T0 (.fn 12) [v0] h R X := Runs.fn landfallref06_Decode_t rfl k


/-! 13 landfall/landfallkit.KeptBytes -/
abbrev fn_landfallkit_KeptBytes : FuncId := 13
noncomputable def landfallkit_KeptBytes_c : ACode :=
  (.seq (.region [
      ⟨(some 4), .mov (.const (.bool false)), none, [], false⟩]) (.seq (.region [
      ⟨(some 6), .mov (.tmp 0), none, [], false⟩,
      ⟨(some 7), .mov (.tmp 0), none, [], false⟩,
      ⟨(some 8), .cap (.tmp 7), none, [], false⟩,
      ⟨(some 9), .sliceSl 1 (.tmp 6) none (some (.tmp 8)) none, none, [], false⟩,
      ⟨(some 5), .mov (.tmp 9), none, [], false⟩]) (.seq (.regionD [
      ⟨(some 10), .mov (.tmp 0), none, [], false⟩,
      ⟨(some 11), .lenSl (.tmp 10), none, [], false⟩,
      ⟨(some 12), .mov (.tmp 1), none, [], false⟩,
      ⟨(some 13), .lenSl (.tmp 12), none, [], false⟩,
      ⟨(some 14), .bin .eql (so (.binOp .eql 3 (.tmp 11) (.tmp 13) 3) 4) (.tmp 11) (.tmp 13), none, [], true⟩,
      ⟨(some 15), .mov (.tmp 14), none, [], true⟩,
      ⟨(some 16), .mov (.tmp 0), (some (15, true)), [], false⟩,
      ⟨(some 17), .bytesToStr (.tmp 16), (some (15, true)), [], false⟩,
      ⟨(some 18), .mov (.tmp 1), (some (15, true)), [], false⟩,
      ⟨(some 19), .bytesToStr (.tmp 18), (some (15, true)), [], false⟩,
      ⟨(some 20), .bin .eql (so (.binOp .eql 9 (.tmp 17) (.tmp 19) 9) 4) (.tmp 17) (.tmp 19), (some (15, true)), [], true⟩,
      ⟨(some 21), .pick (.tmp 15) (.tmp 20) (.const (.bool false)), none, [], true⟩,
      ⟨(some 22), .mov (.tmp 21), none, [], true⟩,
      ⟨(some 23), .mov (.tmp 5), (some (22, true)), [], false⟩,
      ⟨(some 24), .lenSl (.tmp 23), (some (22, true)), [], false⟩,
      ⟨(some 25), .mov (.tmp 1), (some (22, true)), [], false⟩,
      ⟨(some 26), .lenSl (.tmp 25), (some (22, true)), [], false⟩,
      ⟨(some 27), .bin .add (so (.binOp .add 3 (.tmp 26) (.const (.int .i64 4)) 3) 3) (.tmp 26) (.const (.int .i64 4)), (some (22, true)), [], false⟩,
      ⟨(some 28), .bin .geq (so (.binOp .geq 3 (.tmp 24) (.tmp 27) 3) 4) (.tmp 24) (.tmp 27), (some (22, true)), [], true⟩,
      ⟨(some 29), .pick (.tmp 22) (.tmp 28) (.const (.bool false)), none, [], true⟩,
      ⟨(some 30), .mov (.tmp 29), none, [], true⟩,
      ⟨(some 31), .mov (.tmp 5), (some (30, true)), [], false⟩,
      ⟨(some 32), .mov (.tmp 1), (some (30, true)), [], false⟩,
      ⟨(some 33), .lenSl (.tmp 32), (some (30, true)), [], false⟩,
      ⟨(some 34), .mov (.tmp 1), (some (30, true)), [], false⟩,
      ⟨(some 35), .lenSl (.tmp 34), (some (30, true)), [], false⟩,
      ⟨(some 36), .bin .add (so (.binOp .add 3 (.tmp 35) (.const (.int .i64 4)) 3) 3) (.tmp 35) (.const (.int .i64 4)), (some (30, true)), [], false⟩,
      ⟨(some 37), .sliceSl 1 (.tmp 31) (some (.tmp 33)) (some (.tmp 36)) none, (some (30, true)), [], false⟩,
      ⟨(some 38), .bytesToStr (.tmp 37), (some (30, true)), [], false⟩,
      ⟨(some 39), .buildSlice 5 [(.int .u8 0), (.int .u8 0), (.int .u8 0), (.int .u8 0)] 4 [(0, 1, (.const (.int .u8 201))), (1, 1, (.const (.int .u8 202))), (2, 1, (.const (.int .u8 203))), (3, 1, (.const (.int .u8 204)))], (some (30, true)), [((some 38), .bytesToStr (.tmp 37), (some (30, true))), ((some 37), .sliceSl 1 (.tmp 31) (some (.tmp 33)) (some (.tmp 36)) none, (some (30, true))), ((some 36), .bin .add (so (.binOp .add 3 (.tmp 35) (.const (.int .i64 4)) 3) 3) (.tmp 35) (.const (.int .i64 4)), (some (30, true))), ((some 35), .lenSl (.tmp 34), (some (30, true))), ((some 34), .mov (.tmp 1), (some (30, true))), ((some 33), .lenSl (.tmp 32), (some (30, true))), ((some 32), .mov (.tmp 1), (some (30, true))), ((some 31), .mov (.tmp 5), (some (30, true)))], false⟩,
      ⟨(some 40), .bytesToStr (.tmp 39), (some (30, true)), [], false⟩,
      ⟨(some 41), .bin .eql (so (.binOp .eql 9 (.tmp 38) (.tmp 40) 9) 4) (.tmp 38) (.tmp 40), (some (30, true)), [], true⟩,
      ⟨(some 42), .pick (.tmp 30) (.tmp 41) (.const (.bool false)), none, [], true⟩,
      ⟨(some 4), .mov (.tmp 42), none, [], true⟩]) .ret)))
noncomputable def landfallkit_KeptBytes : AFunc := ⟨43, [(4, none)], landfallkit_KeptBytes_c, none⟩
theorem landfallkit_KeptBytes_t0 : tableOf Try.prog 13 = some landfallkit_KeptBytes := by kernel_rfl
theorem landfallkit_KeptBytes_t : T0 13 = some landfallkit_KeptBytes := withTrue_t rfl landfallkit_KeptBytes_t0
theorem landfallkit_KeptBytes_runs {v0 v1 : Value} {h : Heap} {R : RP} {X : XP} (k : RunC Try.prog T0 landfallkit_KeptBytes_c ⟨[v0, v1, undef, undef, undef, undef, undef, undef, undef, undef, undef, undef, undef, undef, undef, undef, undef, undef, undef, undef, undef, undef, undef, undef, undef, undef, undef, undef, undef, undef, undef, undef, undef, undef, undef, undef, undef, undef, undef, undef, undef, undef, undef], [], h, none⟩ (bodyQ Try.prog T0 [(4, none)] R X)) :
    Runs Try.prog T0 (.fn 13) [v0, v1] h R X := Runs.fn landfallkit_KeptBytes_t rfl k


/-! 14 landfall/header.Encode -/
abbrev fn_header_Encode : FuncId := 14
noncomputable def header_Encode_l0 : ACode :=
  (.seq (.region [
      ⟨(some 32), .bin .lss (so (.binOp .lss 3 (.tmp 31) (.const (.int .i64 4)) 3) 0) (.tmp 31) (.const (.int .i64 4)), none, [], false⟩]) (.seq (.cond (.tmp 32)
    .skip
    (.exit 0)) (.seq (.block 1 (.seq (.region [
      ⟨(some 33), .index 4 1 none (.tmp 30) (.tmp 31), none, [], false⟩,
      ⟨(some 8), .mov (.tmp 33), none, [], false⟩]) (.region [
      ⟨(some 34), .mov (.tmp 5), none, [], false⟩,
      ⟨(some 35), .mov (.tmp 8), none, [], false⟩,
      ⟨(some 36), .nilCheck (.tmp 35), none, [], false⟩,
      ⟨(some 37), .load (some 32) (.tmp 36), none, [], false⟩,
      ⟨(some 38), .callV (.func 42) [(.tmp 34), (.tmp 37)], none, [], false⟩]))) (.region [
      ⟨(some 39), .bin .add (so (.binOp .add 3 (.tmp 31) (.const (.int .i64 1)) 3) 3) (.tmp 31) (.const (.int .i64 1)), none, [], false⟩,
      ⟨(some 31), .mov (.tmp 39), none, [], false⟩]))))
noncomputable def header_Encode_c : ACode :=
  (.seq (.region [
      ⟨(some 1), .box 28 (.tmp 0), none, [], false⟩,
      ⟨(some 2), .mov (.const (.slice none 0 0)), none, [], false⟩,
      ⟨(some 3), .mov (.const (.int .i64 0)), none, [], false⟩]) (.seq (.seq (.region [
      ⟨(some 9), .load (some 131) (.tmp 1), none, [], false⟩,
      ⟨(some 10), .callV (.func 19) [(.tmp 9)], none, [], false⟩,
      ⟨(some 4), .mov (.tmp 10), none, [], false⟩]) (.seq (.region [
      ⟨(some 11), .mov (.tmp 4), none, [], false⟩,
      ⟨(some 12), .bin .neq (so (.binOp .neq 29 (.tmp 11) (.const (.int .i64 0)) 29) 4) (.tmp 11) (.const (.int .i64 0)), none, [], false⟩]) (.cond (.tmp 12)
    (.seq (.region [
      ⟨(some 13), .mov (.tmp 4), none, [], false⟩,
      ⟨(some 2), .mov (.const (.slice none 0 0)), none, [], false⟩,
      ⟨(some 3), .mov (.tmp 13), none, [], false⟩]) .ret)
    .skip))) (.seq (.region [
      ⟨(some 15), .callV (.func 39) [(.const (.int .i64 65536))], none, [], false⟩,
      ⟨(some 14), .mov (.tmp 15), none, [], false⟩,
      ⟨(some 16), .extract 0 (.tmp 14), none, [], false⟩,
      ⟨(some 17), .extract 1 (.tmp 14), none, [], false⟩,
      ⟨(some 5), .mov (.tmp 16), none, [], false⟩,
      ⟨(some 6), .mov (.tmp 17), none, [], false⟩]) (.seq (.region [
      ⟨(some 18), .mov (.tmp 5), none, [], false⟩,
      ⟨(some 19), .fieldAddr 0 (.tmp 1), none, [], false⟩,
      ⟨(some 20), .load none (.tmp 19), none, [], false⟩,
      ⟨(some 21), .callV (.func 40) [(.tmp 18), (.tmp 20)], none, [], false⟩]) (.seq (.region [
      ⟨(some 22), .mov (.tmp 5), none, [], false⟩,
      ⟨(some 23), .fieldAddr 1 (.tmp 1), none, [], false⟩,
      ⟨(some 24), .load none (.tmp 23), none, [], false⟩,
      ⟨(some 25), .callV (.func 41) [(.tmp 22), (.tmp 24)], none, [], false⟩]) (.seq (.region [
      ⟨(some 26), .mov (.tmp 5), none, [], false⟩,
      ⟨(some 27), .fieldAddr 2 (.tmp 1), none, [], false⟩,
      ⟨(some 28), .load none (.tmp 27), none, [], false⟩,
      ⟨(some 29), .callV (.func 41) [(.tmp 26), (.tmp 28)], none, [], false⟩]) (.seq (.seq (.region [
      ⟨(some 30), .callV (.func 33) [(.tmp 1)], none, [], false⟩,
      ⟨(some 31), .mov (.const (.int .i64 0)), none, [], false⟩]) (.block 0 (.loop header_Encode_l0))) (.seq (.region [
      ⟨(some 40), .mov (.tmp 5), none, [], false⟩,
      ⟨(some 41), .callV (.func 43) [(.tmp 40)], none, [], false⟩,
      ⟨(some 42), .extract 0 (.tmp 41), none, [], false⟩,
      ⟨(some 43), .extract 1 (.tmp 41), none, [], false⟩,
      ⟨(some 2), .mov (.tmp 42), none, [], false⟩,
      ⟨(some 3), .mov (.tmp 43), none, [], false⟩]) .ret))))))))
noncomputable def header_Encode : AFunc := ⟨44, [(2, none), (3, none)], header_Encode_c, none⟩
theorem header_Encode_t0 : tableOf Try.prog 14 = some header_Encode := by kernel_rfl
theorem header_Encode_t : T0 14 = some header_Encode := withTrue_t rfl header_Encode_t0
theorem header_Encode_runs {v0 : Value} {h : Heap} {R : RP} {X : XP} (k : RunC Try.prog T0 header_Encode_c ⟨[v0, undef, undef, undef, undef, undef, undef, undef, undef, undef, undef, undef, undef, undef, undef, undef, undef, undef, undef, undef, undef, undef, undef, undef, undef, undef, undef, undef, undef, undef, undef, undef, undef, undef, undef, undef, undef, undef, undef, undef, undef, undef, undef, undef], [], h, none⟩ (bodyQ Try.prog T0 [(2, none), (3, none)] R X)) :
    Runs Try.prog T0 (.fn 14) [v0] h R X := Runs.fn header_Encode_t rfl k
/-- the slots that turn in the loop: v31 -/
noncomputable def header_Encode_l0_J (f0 f1 f2 f3 f4 f5 f6 f7 f9 f10 f11 f12 f13 f14 f15 f16 f17 f18 f19 f20 f21 f22 f23 f24 f25 f26 f27 f28 f29 f30 f40 f41 f42 f43 : Value) (ds : List Deferred) (rd : Option Nat) (I : Nat → Value → Heap → Prop) (m : Nat) (s : St) : Prop := ∃ (v31 : Value), ∃ h : Heap, ∃ (x8 x32 x33 x34 x35 x36 x37 x38 x39 : Value), s = ⟨[f0, f1, f2, f3, f4, f5, f6, f7, x8, f9, f10, f11, f12, f13, f14, f15, f16, f17, f18, f19, f20, f21, f22, f23, f24, f25, f26, f27, f28, f29, f30, v31, x32, x33, x34, x35, x36, x37, x38, x39, f40, f41, f42, f43], ds, h, rd⟩ ∧ I m v31 h
theorem header_Encode_l0_rule {f0 f1 f2 f3 f4 f5 f6 f7 f9 f10 f11 f12 f13 f14 f15 f16 f17 f18 f19 f20 f21 f22 f23 f24 f25 f26 f27 f28 f29 f30 f40 f41 f42 f43 : Value} {ds : List Deferred} {rd : Option Nat} {Q : QP} (I : Nat → Value → Heap → Prop) (hb : ∀ (m : Nat) (v31 : Value) (h : Heap) (x8 x32 x33 x34 x35 x36 x37 x38 x39 : Value) , I m v31 h → RunC Try.prog T0 header_Encode_l0 ⟨[f0, f1, f2, f3, f4, f5, f6, f7, x8, f9, f10, f11, f12, f13, f14, f15, f16, f17, f18, f19, f20, f21, f22, f23, f24, f25, f26, f27, f28, f29, f30, v31, x32, x33, x34, x35, x36, x37, x38, x39, f40, f41, f42, f43], ds, h, rd⟩ (loopQ (header_Encode_l0_J f0 f1 f2 f3 f4 f5 f6 f7 f9 f10 f11 f12 f13 f14 f15 f16 f17 f18 f19 f20 f21 f22 f23 f24 f25 f26 f27 f28 f29 f30 f40 f41 f42 f43 ds rd I) m Q))
    (m : Nat) {v31 : Value} {h : Heap} {x8 x32 x33 x34 x35 x36 x37 x38 x39 : Value} (hi : I m v31 h) : RunC Try.prog T0 (.loop header_Encode_l0) ⟨[f0, f1, f2, f3, f4, f5, f6, f7, x8, f9, f10, f11, f12, f13, f14, f15, f16, f17, f18, f19, f20, f21, f22, f23, f24, f25, f26, f27, f28, f29, f30, v31, x32, x33, x34, x35, x36, x37, x38, x39, f40, f41, f42, f43], ds, h, rd⟩ Q :=
  RunC.loopJ (header_Encode_l0_J f0 f1 f2 f3 f4 f5 f6 f7 f9 f10 f11 f12 f13 f14 f15 f16 f17 f18 f19 f20 f21 f22 f23 f24 f25 f26 f27 f28 f29 f30 f40 f41 f42 f43 ds rd I) (fun m s hj => by obtain ⟨v31, h, x8, x32, x33, x34, x35, x36, x37, x38, x39, rfl, hi⟩ := hj; exact hb m v31 h x8 x32 x33 x34 x35 x36 x37 x38 x39 hi) m _ ⟨_, h, _, _, _, _, _, _, _, _, _, rfl, hi⟩
theorem header_Encode_l0_again {f0 f1 f2 f3 f4 f5 f6 f7 f9 f10 f11 f12 f13 f14 f15 f16 f17 f18 f19 f20 f21 f22 f23 f24 f25 f26 f27 f28 f29 f30 f40 f41 f42 f43 : Value} {ds : List Deferred} {rd : Option Nat} {Q : QP} {I : Nat → Value → Heap → Prop} {m : Nat} (m' : Nat) {v31 : Value} {h : Heap} {x8 x32 x33 x34 x35 x36 x37 x38 x39 : Value} (hm : m' < m) (hi : I m' v31 h) : loopQ (header_Encode_l0_J f0 f1 f2 f3 f4 f5 f6 f7 f9 f10 f11 f12 f13 f14 f15 f16 f17 f18 f19 f20 f21 f22 f23 f24 f25 f26 f27 f28 f29 f30 f40 f41 f42 f43 ds rd I) m Q .normal ⟨[f0, f1, f2, f3, f4, f5, f6, f7, x8, f9, f10, f11, f12, f13, f14, f15, f16, f17, f18, f19, f20, f21, f22, f23, f24, f25, f26, f27, f28, f29, f30, v31, x32, x33, x34, x35, x36, x37, x38, x39, f40, f41, f42, f43], ds, h, rd⟩ :=
  loopQ.again m' hm ⟨_, h, _, _, _, _, _, _, _, _, _, rfl, hi⟩

/-! 16 landfall/landfallkit.SameBytes -/
abbrev fn_landfallkit_SameBytes : FuncId := 16
noncomputable def landfallkit_SameBytes_c : ACode :=
  (.seq (.region [
      ⟨(some 4), .mov (.const (.bool false)), none, [], false⟩]) (.seq (.region [
      ⟨(some 5), .mov (.tmp 0), none, [], false⟩,
      ⟨(some 6), .bytesToStr (.tmp 5), none, [], false⟩,
      ⟨(some 7), .mov (.tmp 1), none, [], false⟩,
      ⟨(some 8), .bytesToStr (.tmp 7), none, [], false⟩,
      ⟨(some 9), .bin .eql (so (.binOp .eql 9 (.tmp 6) (.tmp 8) 9) 4) (.tmp 6) (.tmp 8), none, [], false⟩,
      ⟨(some 4), .mov (.tmp 9), none, [], false⟩]) .ret))
noncomputable def landfallkit_SameBytes : AFunc := ⟨10, [(4, none)], landfallkit_SameBytes_c, none⟩
theorem landfallkit_SameBytes_t0 : tableOf Try.prog 16 = some landfallkit_SameBytes := by kernel_rfl
theorem landfallkit_SameBytes_t : T0 16 = some landfallkit_SameBytes := withTrue_t rfl landfallkit_SameBytes_t0
theorem landfallkit_SameBytes_runs {v0 v1 : Value} {h : Heap} {R : RP} {X : XP} (k : RunC Try.prog T0 landfallkit_SameBytes_c ⟨[v0, v1, undef, undef, undef, undef, undef, undef, undef, undef], [], h, none⟩ (bodyQ Try.prog T0 [(4, none)] R X)) :
    Runs Try.prog T0 (.fn 16) [v0, v1] h R X := Runs.fn landfallkit_SameBytes_t rfl k


/-! 17 landfall/header.Name -/
abbrev fn_header_Name : FuncId := 17
noncomputable def header_Name_c : ACode :=
  (.seq (.region [
      ⟨(some 2), .mov (.const (.bool false)), none, [], false⟩]) (.seq (.region [
      ⟨(some 3), .mov (.tmp 0), none, [], false⟩,
      ⟨(some 4), .lenStr (.tmp 3), none, [], false⟩,
      ⟨(some 5), .bin .geq (so (.binOp .geq 3 (.tmp 4) (.const (.int .i64 1)) 3) 4) (.tmp 4) (.const (.int .i64 1)), none, [], false⟩,
      ⟨(some 6), .mov (.tmp 5), none, [], false⟩,
      ⟨(some 7), .mov (.tmp 0), (some (6, true)), [], false⟩,
      ⟨(some 8), .lenStr (.tmp 7), (some (6, true)), [], false⟩,
      ⟨(some 9), .bin .leq (so (.binOp .leq 3 (.tmp 8) (.const (.int .i64 32)) 3) 4) (.tmp 8) (.const (.int .i64 32)), (some (6, true)), [], false⟩,
      ⟨(some 10), .pick (.tmp 6) (.tmp 9) (.const (.bool false)), none, [], false⟩,
      ⟨(some 11), .mov (.tmp 10), none, [], false⟩,
      ⟨(some 12), .mov (.tmp 0), (some (11, true)), [], false⟩,
      ⟨(some 13), .callV (.func 44) [(.tmp 12), (.func 45)], (some (11, true)), [], false⟩,
      ⟨(some 14), .pick (.tmp 11) (.tmp 13) (.const (.bool false)), none, [], false⟩,
      ⟨(some 2), .mov (.tmp 14), none, [], false⟩]) .ret))
noncomputable def header_Name : AFunc := ⟨15, [(2, none)], header_Name_c, none⟩
theorem header_Name_t0 : tableOf Try.prog 17 = some header_Name := by kernel_rfl
theorem header_Name_t : T0 17 = some header_Name := withTrue_t rfl header_Name_t0
theorem header_Name_runs {v0 : Value} {h : Heap} {R : RP} {X : XP} (k : RunC Try.prog T0 header_Name_c ⟨[v0, undef, undef, undef, undef, undef, undef, undef, undef, undef, undef, undef, undef, undef, undef], [], h, none⟩ (bodyQ Try.prog T0 [(2, none)] R X)) :
    Runs Try.prog T0 (.fn 17) [v0] h R X := Runs.fn header_Name_t rfl k


/-! 19 landfall/header.Check -/
abbrev fn_header_Check : FuncId := 19
noncomputable def header_Check_l0 : ACode :=
  (.seq (.region [
      ⟨(some 8), .bin .lss (so (.binOp .lss 3 (.tmp 7) (.tmp 6) 3) 0) (.tmp 7) (.tmp 6), none, [], false⟩]) (.seq (.cond (.tmp 8)
    .skip
    (.exit 0)) (.seq (.block 1 (.seq (.region [
      ⟨(some 9), .indexSl 2 (.tmp 5) (.tmp 7), none, [], false⟩,
      ⟨(some 10), .load (some 2) (.tmp 9), none, [], false⟩,
      ⟨(some 4), .alloc 76 [.nilFunc, (.int .i64 0)], none, [], false⟩,
      ⟨none, .store 2 (.tmp 4) (.tmp 10), none, [], false⟩]) (.seq (.region [
      ⟨(some 11), .fieldAddr 0 (.tmp 4), none, [], false⟩,
      ⟨(some 12), .load none (.tmp 11), none, [], false⟩,
      ⟨(some 13), .load (some 131) (.tmp 1), none, [], false⟩,
      ⟨(some 14), .callV (.tmp 12) [(.tmp 13)], none, [], false⟩,
      ⟨(some 15), .raw (so (.unOp .not 4 (.tmp 14)) 4), none, [], false⟩]) (.cond (.tmp 15)
    (.seq (.region [
      ⟨(some 16), .fieldAddr 1 (.tmp 4), none, [], false⟩,
      ⟨(some 17), .load none (.tmp 16), none, [], false⟩,
      ⟨(some 2), .mov (.tmp 17), none, [], false⟩]) .ret)
    .skip)))) (.region [
      ⟨(some 18), .bin .add (so (.binOp .add 3 (.tmp 7) (.const (.int .i64 1)) 3) 3) (.tmp 7) (.const (.int .i64 1)), none, [], false⟩,
      ⟨(some 7), .mov (.tmp 18), none, [], false⟩]))))
noncomputable def header_Check_c : ACode :=
  (.seq (.region [
      ⟨(some 1), .box 28 (.tmp 0), none, [], false⟩,
      ⟨(some 2), .mov (.const (.int .i64 0)), none, [], false⟩]) (.seq (.seq (.region [
      ⟨(some 5), .callV (.func 46) [], none, [], false⟩,
      ⟨(some 6), .lenSl (.tmp 5), none, [], false⟩,
      ⟨(some 7), .mov (.const (.int .i64 0)), none, [], false⟩]) (.block 0 (.loop header_Check_l0))) (.seq (.region [
      ⟨(some 2), .mov (.const (.int .i64 0)), none, [], false⟩]) .ret)))
noncomputable def header_Check : AFunc := ⟨19, [(2, none)], header_Check_c, none⟩
theorem header_Check_t0 : tableOf Try.prog 19 = some header_Check := by kernel_rfl
theorem header_Check_t : T0 19 = some header_Check := withTrue_t rfl header_Check_t0
theorem header_Check_runs {v0 : Value} {h : Heap} {R : RP} {X : XP} (k : RunC Try.prog T0 header_Check_c ⟨[v0, undef, undef, undef, undef, undef, undef, undef, undef, undef, undef, undef, undef, undef, undef, undef, undef, undef, undef], [], h, none⟩ (bodyQ Try.prog T0 [(2, none)] R X)) :
    Runs Try.prog T0 (.fn 19) [v0] h R X := Runs.fn header_Check_t rfl k
/-- the slots that turn in the loop: v7 -/
noncomputable def header_Check_l0_J (f0 f1 f3 f5 f6 : Value) (ds : List Deferred) (rd : Option Nat) (I : Nat → Value → Heap → Prop) (m : Nat) (s : St) : Prop := ∃ (v7 : Value), ∃ h : Heap, ∃ (x2 x4 x8 x9 x10 x11 x12 x13 x14 x15 x16 x17 x18 : Value), s = ⟨[f0, f1, x2, f3, x4, f5, f6, v7, x8, x9, x10, x11, x12, x13, x14, x15, x16, x17, x18], ds, h, rd⟩ ∧ I m v7 h
theorem header_Check_l0_rule {f0 f1 f3 f5 f6 : Value} {ds : List Deferred} {rd : Option Nat} {Q : QP} (I : Nat → Value → Heap → Prop) (hb : ∀ (m : Nat) (v7 : Value) (h : Heap) (x2 x4 x8 x9 x10 x11 x12 x13 x14 x15 x16 x17 x18 : Value) , I m v7 h → RunC Try.prog T0 header_Check_l0 ⟨[f0, f1, x2, f3, x4, f5, f6, v7, x8, x9, x10, x11, x12, x13, x14, x15, x16, x17, x18], ds, h, rd⟩ (loopQ (header_Check_l0_J f0 f1 f3 f5 f6 ds rd I) m Q))
    (m : Nat) {v7 : Value} {h : Heap} {x2 x4 x8 x9 x10 x11 x12 x13 x14 x15 x16 x17 x18 : Value} (hi : I m v7 h) : RunC Try.prog T0 (.loop header_Check_l0) ⟨[f0, f1, x2, f3, x4, f5, f6, v7, x8, x9, x10, x11, x12, x13, x14, x15, x16, x17, x18], ds, h, rd⟩ Q :=
  RunC.loopJ (header_Check_l0_J f0 f1 f3 f5 f6 ds rd I) (fun m s hj => by obtain ⟨v7, h, x2, x4, x8, x9, x10, x11, x12, x13, x14, x15, x16, x17, x18, rfl, hi⟩ := hj; exact hb m v7 h x2 x4 x8 x9 x10 x11 x12 x13 x14 x15 x16 x17 x18 hi) m _ ⟨_, h, _, _, _, _, _, _, _, _, _, _, _, _, _, rfl, hi⟩
theorem header_Check_l0_again {f0 f1 f3 f5 f6 : Value} {ds : List Deferred} {rd : Option Nat} {Q : QP} {I : Nat → Value → Heap → Prop} {m : Nat} (m' : Nat) {v7 : Value} {h : Heap} {x2 x4 x8 x9 x10 x11 x12 x13 x14 x15 x16 x17 x18 : Value} (hm : m' < m) (hi : I m' v7 h) : loopQ (header_Check_l0_J f0 f1 f3 f5 f6 ds rd I) m Q .normal ⟨[f0, f1, x2, f3, x4, f5, f6, v7, x8, x9, x10, x11, x12, x13, x14, x15, x16, x17, x18], ds, h, rd⟩ :=
  loopQ.again m' hm ⟨_, h, _, _, _, _, _, _, _, _, _, _, _, _, _, rfl, hi⟩

/-! 21 landfall/landfallkit.CopyBytes -/
abbrev fn_landfallkit_CopyBytes : FuncId := 21
noncomputable def landfallkit_CopyBytes_c : ACode :=
  (.seq (.region [
      ⟨(some 2), .mov (.const (.slice none 0 0)), none, [], false⟩]) (.seq (.region [
      ⟨(some 3), .buildSlice 5 [] 0 [], none, [], false⟩,
      ⟨(some 4), .mov (.tmp 0), none, [], false⟩,
      ⟨(some 5), .append 5 1 1 [(.int .u8 0)] false (.tmp 3) (.tmp 4), none, [], false⟩,
      ⟨(some 2), .mov (.tmp 5), none, [], false⟩]) .ret))
noncomputable def landfallkit_CopyBytes : AFunc := ⟨6, [(2, none)], landfallkit_CopyBytes_c, none⟩
theorem landfallkit_CopyBytes_t0 : tableOf Try.prog 21 = some landfallkit_CopyBytes := by kernel_rfl
theorem landfallkit_CopyBytes_t : T0 21 = some landfallkit_CopyBytes := withTrue_t rfl landfallkit_CopyBytes_t0
theorem landfallkit_CopyBytes_runs {v0 : Value} {h : Heap} {R : RP} {X : XP} (k : RunC Try.prog T0 landfallkit_CopyBytes_c ⟨[v0, undef, undef, undef, undef, undef], [], h, none⟩ (bodyQ Try.prog T0 [(2, none)] R X)) :
    Runs Try.prog T0 (.fn 21) [v0] h R X := Runs.fn landfallkit_CopyBytes_t rfl k


/-! 22 landfall/landfallkit.Pick -/
abbrev fn_landfallkit_Pick : FuncId := 22
noncomputable def landfallkit_Pick_c : ACode :=
  (.seq (.region [
      ⟨(some 4), .mov (.const (.int .i64 0)), none, [], false⟩]) (.seq (.seq (.region [
      ⟨(some 5), .mov (.tmp 1), none, [], false⟩,
      ⟨(some 6), .bin .leq (so (.binOp .leq 3 (.tmp 5) (.const (.int .i64 0)) 3) 4) (.tmp 5) (.const (.int .i64 0)), none, [], false⟩]) (.cond (.tmp 6)
    (.seq (.region [
      ⟨(some 4), .mov (.const (.int .i64 0)), none, [], false⟩]) .ret)
    .skip)) (.seq (.region [
      ⟨(some 7), .mov (.tmp 0), none, [], false⟩,
      ⟨(some 8), .mov (.tmp 1), none, [], false⟩,
      ⟨(some 9), .bin .rem (so (.binOp .rem 3 (.tmp 7) (.tmp 8) 3) 3) (.tmp 7) (.tmp 8), none, [], false⟩,
      ⟨(some 0), .mov (.tmp 9), none, [], false⟩]) (.seq (.seq (.region [
      ⟨(some 10), .mov (.tmp 0), none, [], false⟩,
      ⟨(some 11), .bin .lss (so (.binOp .lss 3 (.tmp 10) (.const (.int .i64 0)) 3) 4) (.tmp 10) (.const (.int .i64 0)), none, [], false⟩]) (.cond (.tmp 11)
    (.region [
      ⟨(some 12), .mov (.tmp 0), none, [], false⟩,
      ⟨(some 13), .mov (.tmp 1), none, [], false⟩,
      ⟨(some 14), .bin .add (so (.binOp .add 3 (.tmp 12) (.tmp 13) 3) 3) (.tmp 12) (.tmp 13), none, [], false⟩,
      ⟨(some 0), .mov (.tmp 14), none, [], false⟩])
    .skip)) (.seq (.region [
      ⟨(some 15), .mov (.tmp 0), none, [], false⟩,
      ⟨(some 4), .mov (.tmp 15), none, [], false⟩]) .ret)))))
noncomputable def landfallkit_Pick : AFunc := ⟨16, [(4, none)], landfallkit_Pick_c, none⟩
theorem landfallkit_Pick_t0 : tableOf Try.prog 22 = some landfallkit_Pick := by kernel_rfl
theorem landfallkit_Pick_t : T0 22 = some landfallkit_Pick := withTrue_t rfl landfallkit_Pick_t0
theorem landfallkit_Pick_runs {v0 v1 : Value} {h : Heap} {R : RP} {X : XP} (k : RunC Try.prog T0 landfallkit_Pick_c ⟨[v0, v1, undef, undef, undef, undef, undef, undef, undef, undef, undef, undef, undef, undef, undef, undef], [], h, none⟩ (bodyQ Try.prog T0 [(4, none)] R X)) :
    Runs Try.prog T0 (.fn 22) [v0, v1] h R X := Runs.fn landfallkit_Pick_t rfl k


/-! 26 landfall/landfallref06.Check -/
abbrev fn_landfallref06_Check : FuncId := 26
noncomputable def landfallref06_Check_c : ACode :=
  (.seq (.region [
      ⟨(some 1), .box 28 (.tmp 0), none, [], false⟩,
      ⟨(some 2), .mov (.const (.int .i64 0)), none, [], false⟩]) (.seq (.block 0 (.seq (.region [
      ⟨(some 4), .fieldAddr 0 (.tmp 1), none, [], false⟩,
      ⟨(some 5), .load none (.tmp 4), none, [], false⟩,
      ⟨(some 6), .callV (.func 27) [(.tmp 5)], none, [], false⟩,
      ⟨(some 7), .raw (so (.unOp .not 4 (.tmp 6)) 4), none, [], false⟩,
      ⟨(some 3), .mov (.tmp 7), none, [], false⟩]) (.cond (.tmp 3)
    (.seq (.region [
      ⟨(some 2), .mov (.const (.int .i64 5)), none, [], false⟩]) .ret)
    (.seq (.region [
      ⟨(some 9), .fieldAddr 1 (.tmp 1), none, [], false⟩,
      ⟨(some 10), .load none (.tmp 9), none, [], false⟩,
      ⟨(some 11), .bin .lss (so (.binOp .lss 3 (.tmp 10) (.const (.int .i64 1)) 3) 4) (.tmp 10) (.const (.int .i64 1)), none, [], false⟩,
      ⟨(some 12), .mov (.tmp 11), none, [], false⟩,
      ⟨(some 13), .fieldAddr 1 (.tmp 1), (some (12, false)), [], false⟩,
      ⟨(some 14), .load none (.tmp 13), (some (12, false)), [], false⟩,
      ⟨(some 15), .bin .gtr (so (.binOp .gtr 3 (.tmp 14) (.const (.int .i64 1073741824)) 3) 4) (.tmp 14) (.const (.int .i64 1073741824)), (some (12, false)), [], false⟩,
      ⟨(some 16), .pick (.tmp 12) (.const (.bool true)) (.tmp 15), none, [], false⟩,
      ⟨(some 17), .mov (.tmp 16), none, [], false⟩,
      ⟨(some 18), .fieldAddr 2 (.tmp 1), (some (17, false)), [], false⟩,
      ⟨(some 19), .load none (.tmp 18), (some (17, false)), [], false⟩,
      ⟨(some 20), .bin .lss (so (.binOp .lss 3 (.tmp 19) (.const (.int .i64 0)) 3) 4) (.tmp 19) (.const (.int .i64 0)), (some (17, false)), [], false⟩,
      ⟨(some 21), .pick (.tmp 17) (.const (.bool true)) (.tmp 20), none, [], false⟩,
      ⟨(some 22), .mov (.tmp 21), none, [], false⟩,
      ⟨(some 23), .fieldAddr 2 (.tmp 1), (some (22, false)), [], false⟩,
      ⟨(some 24), .load none (.tmp 23), (some (22, false)), [], false⟩,
      ⟨(some 25), .bin .gtr (so (.binOp .gtr 3 (.tmp 24) (.const (.int .i64 1099511627776)) 3) 4) (.tmp 24) (.const (.int .i64 1099511627776)), (some (22, false)), [], false⟩,
      ⟨(some 26), .pick (.tmp 22) (.const (.bool true)) (.tmp 25), none, [], false⟩,
      ⟨(some 8), .mov (.tmp 26), none, [], false⟩]) (.cond (.tmp 8)
    (.seq (.region [
      ⟨(some 2), .mov (.const (.int .i64 3)), none, [], false⟩]) .ret)
    .skip))))) (.seq (.region [
      ⟨(some 2), .mov (.const (.int .i64 0)), none, [], false⟩]) .ret)))
noncomputable def landfallref06_Check : AFunc := ⟨27, [(2, none)], landfallref06_Check_c, none⟩
theorem landfallref06_Check_t0 : tableOf Try.prog 26 = some landfallref06_Check := by kernel_rfl
theorem landfallref06_Check_t : T0 26 = some landfallref06_Check := withTrue_t rfl landfallref06_Check_t0
theorem landfallref06_Check_runs {v0 : Value} {h : Heap} {R : RP} {X : XP} (k : RunC Try.prog T0 landfallref06_Check_c ⟨[v0, undef, undef, undef, undef, undef, undef, undef, undef, undef, undef, undef, undef, undef, undef, undef, undef, undef, undef, undef, undef, undef, undef, undef, undef, undef, undef], [], h, none⟩ (bodyQ Try.prog T0 [(2, none)] R X)) :
    Runs Try.prog T0 (.fn 26) [v0] h R X := Runs.fn landfallref06_Check_t rfl k


/-! 27 landfall/landfallref06.Name -/
abbrev fn_landfallref06_Name : FuncId := 27
noncomputable def landfallref06_Name_l0 : ACode :=
  (.seq (.seq (.region [
      ⟨(some 5), .mov (.tmp 3), none, [], false⟩,
      ⟨(some 6), .mov (.tmp 0), none, [], false⟩,
      ⟨(some 7), .lenStr (.tmp 6), none, [], false⟩,
      ⟨(some 8), .bin .lss (so (.binOp .lss 3 (.tmp 5) (.tmp 7) 3) 4) (.tmp 5) (.tmp 7), none, [], false⟩]) (.cond (.tmp 8)
    .skip
    (.exit 0))) (.seq (.block 1 (.seq (.region [
      ⟨(some 11), .mov (.tmp 0), none, [], false⟩,
      ⟨(some 12), .mov (.tmp 3), none, [], false⟩,
      ⟨(some 13), .raw (so (.index 9 (.tmp 11) (.tmp 12)) 5), none, [], false⟩,
      ⟨(some 4), .mov (.tmp 13), none, [], false⟩]) (.seq (.region [
      ⟨(some 14), .mov (.tmp 4), none, [], false⟩,
      ⟨(some 15), .bin .lss (so (.binOp .lss 5 (.tmp 14) (.const (.int .u8 97)) 5) 4) (.tmp 14) (.const (.int .u8 97)), none, [], false⟩,
      ⟨(some 16), .mov (.tmp 15), none, [], false⟩,
      ⟨(some 17), .mov (.tmp 4), (some (16, false)), [], false⟩,
      ⟨(some 18), .bin .gtr (so (.binOp .gtr 5 (.tmp 17) (.const (.int .u8 122)) 5) 4) (.tmp 17) (.const (.int .u8 122)), (some (16, false)), [], false⟩,
      ⟨(some 19), .pick (.tmp 16) (.const (.bool true)) (.tmp 18), none, [], false⟩,
      ⟨(some 20), .mov (.tmp 19), none, [], false⟩,
      ⟨(some 21), .mov (.tmp 4), (some (20, true)), [], false⟩,
      ⟨(some 22), .bin .lss (so (.binOp .lss 5 (.tmp 21) (.const (.int .u8 48)) 5) 4) (.tmp 21) (.const (.int .u8 48)), (some (20, true)), [], false⟩,
      ⟨(some 23), .mov (.tmp 22), (some (20, true)), [], false⟩,
      ⟨(some 24), .mov (.tmp 4), (some (23, false)), [], false⟩,
      ⟨(some 25), .bin .gtr (so (.binOp .gtr 5 (.tmp 24) (.const (.int .u8 57)) 5) 4) (.tmp 24) (.const (.int .u8 57)), (some (23, false)), [], false⟩,
      ⟨(some 26), .pick (.tmp 23) (.const (.bool true)) (.tmp 25), (some (20, true)), [], false⟩,
      ⟨(some 27), .pick (.tmp 20) (.tmp 26) (.const (.bool false)), none, [], false⟩,
      ⟨(some 28), .mov (.tmp 27), none, [], false⟩,
      ⟨(some 29), .mov (.tmp 4), (some (28, true)), [], false⟩,
      ⟨(some 30), .bin .neq (so (.binOp .neq 5 (.tmp 29) (.const (.int .u8 45)) 5) 4) (.tmp 29) (.const (.int .u8 45)), (some (28, true)), [], false⟩,
      ⟨(some 31), .pick (.tmp 28) (.tmp 30) (.const (.bool false)), none, [], false⟩]) (.cond (.tmp 31)
    (.seq (.region [
      ⟨(some 2), .mov (.const (.bool false)), none, [], false⟩]) .ret)
    .skip)))) (.region [
      ⟨(some 9), .mov (.tmp 3), none, [], false⟩,
      ⟨(some 10), .bin .add (so (.binOp .add 3 (.tmp 9) (.const (.int .i64 1)) 3) 3) (.tmp 9) (.const (.int .i64 1)), none, [], false⟩,
      ⟨(some 3), .mov (.tmp 10), none, [], false⟩])))
noncomputable def landfallref06_Name_c : ACode :=
  (.seq (.region [
      ⟨(some 2), .mov (.const (.bool false)), none, [], false⟩]) (.seq (.seq (.region [
      ⟨(some 3), .mov (.const (.int .i64 0)), none, [], false⟩]) (.block 0 (.loop landfallref06_Name_l0))) (.seq (.region [
      ⟨(some 32), .mov (.tmp 0), none, [], false⟩,
      ⟨(some 33), .lenStr (.tmp 32), none, [], false⟩,
      ⟨(some 34), .bin .geq (so (.binOp .geq 3 (.tmp 33) (.const (.int .i64 1)) 3) 4) (.tmp 33) (.const (.int .i64 1)), none, [], false⟩,
      ⟨(some 35), .mov (.tmp 34), none, [], false⟩,
      ⟨(some 36), .mov (.tmp 0), (some (35, true)), [], false⟩,
      ⟨(some 37), .lenStr (.tmp 36), (some (35, true)), [], false⟩,
      ⟨(some 38), .bin .leq (so (.binOp .leq 3 (.tmp 37) (.const (.int .i64 32)) 3) 4) (.tmp 37) (.const (.int .i64 32)), (some (35, true)), [], false⟩,
      ⟨(some 39), .pick (.tmp 35) (.tmp 38) (.const (.bool false)), none, [], false⟩,
      ⟨(some 2), .mov (.tmp 39), none, [], false⟩]) .ret)))
noncomputable def landfallref06_Name : AFunc := ⟨40, [(2, none)], landfallref06_Name_c, none⟩
theorem landfallref06_Name_t0 : tableOf Try.prog 27 = some landfallref06_Name := by kernel_rfl
theorem landfallref06_Name_t : T0 27 = some landfallref06_Name := withTrue_t rfl landfallref06_Name_t0
theorem landfallref06_Name_runs {v0 : Value} {h : Heap} {R : RP} {X : XP} (k : RunC Try.prog T0 landfallref06_Name_c ⟨[v0, undef, undef, undef, undef, undef, undef, undef, undef, undef, undef, undef, undef, undef, undef, undef, undef, undef, undef, undef, undef, undef, undef, undef, undef, undef, undef, undef, undef, undef, undef, undef, undef, undef, undef, undef, undef, undef, undef, undef], [], h, none⟩ (bodyQ Try.prog T0 [(2, none)] R X)) :
    Runs Try.prog T0 (.fn 27) [v0] h R X := Runs.fn landfallref06_Name_t rfl k
/-- the slots that turn in the loop: v3 -/
noncomputable def landfallref06_Name_l0_J (f0 f1 f32 f33 f34 f35 f36 f37 f38 f39 : Value) (ds : List Deferred) (rd : Option Nat) (I : Nat → Value → Heap → Prop) (m : Nat) (s : St) : Prop := ∃ (v3 : Value), ∃ h : Heap, ∃ (x2 x4 x5 x6 x7 x8 x9 x10 x11 x12 x13 x14 x15 x16 x17 x18 x19 x20 x21 x22 x23 x24 x25 x26 x27 x28 x29 x30 x31 : Value), s = ⟨[f0, f1, x2, v3, x4, x5, x6, x7, x8, x9, x10, x11, x12, x13, x14, x15, x16, x17, x18, x19, x20, x21, x22, x23, x24, x25, x26, x27, x28, x29, x30, x31, f32, f33, f34, f35, f36, f37, f38, f39], ds, h, rd⟩ ∧ I m v3 h
theorem landfallref06_Name_l0_rule {f0 f1 f32 f33 f34 f35 f36 f37 f38 f39 : Value} {ds : List Deferred} {rd : Option Nat} {Q : QP} (I : Nat → Value → Heap → Prop) (hb : ∀ (m : Nat) (v3 : Value) (h : Heap) (x2 x4 x5 x6 x7 x8 x9 x10 x11 x12 x13 x14 x15 x16 x17 x18 x19 x20 x21 x22 x23 x24 x25 x26 x27 x28 x29 x30 x31 : Value) , I m v3 h → RunC Try.prog T0 landfallref06_Name_l0 ⟨[f0, f1, x2, v3, x4, x5, x6, x7, x8, x9, x10, x11, x12, x13, x14, x15, x16, x17, x18, x19, x20, x21, x22, x23, x24, x25, x26, x27, x28, x29, x30, x31, f32, f33, f34, f35, f36, f37, f38, f39], ds, h, rd⟩ (loopQ (landfallref06_Name_l0_J f0 f1 f32 f33 f34 f35 f36 f37 f38 f39 ds rd I) m Q))
    (m : Nat) {v3 : Value} {h : Heap} {x2 x4 x5 x6 x7 x8 x9 x10 x11 x12 x13 x14 x15 x16 x17 x18 x19 x20 x21 x22 x23 x24 x25 x26 x27 x28 x29 x30 x31 : Value} (hi : I m v3 h) : RunC Try.prog T0 (.loop landfallref06_Name_l0) ⟨[f0, f1, x2, v3, x4, x5, x6, x7, x8, x9, x10, x11, x12, x13, x14, x15, x16, x17, x18, x19, x20, x21, x22, x23, x24, x25, x26, x27, x28, x29, x30, x31, f32, f33, f34, f35, f36, f37, f38, f39], ds, h, rd⟩ Q :=
  RunC.loopJ (landfallref06_Name_l0_J f0 f1 f32 f33 f34 f35 f36 f37 f38 f39 ds rd I) (fun m s hj => by obtain ⟨v3, h, x2, x4, x5, x6, x7, x8, x9, x10, x11, x12, x13, x14, x15, x16, x17, x18, x19, x20, x21, x22, x23, x24, x25, x26, x27, x28, x29, x30, x31, rfl, hi⟩ := hj; exact hb m v3 h x2 x4 x5 x6 x7 x8 x9 x10 x11 x12 x13 x14 x15 x16 x17 x18 x19 x20 x21 x22 x23 x24 x25 x26 x27 x28 x29 x30 x31 hi) m _ ⟨_, h, _, _, _, _, _, _, _, _, _, _, _, _, _, _, _, _, _, _, _, _, _, _, _, _, _, _, _, _, _, rfl, hi⟩
theorem landfallref06_Name_l0_again {f0 f1 f32 f33 f34 f35 f36 f37 f38 f39 : Value} {ds : List Deferred} {rd : Option Nat} {Q : QP} {I : Nat → Value → Heap → Prop} {m : Nat} (m' : Nat) {v3 : Value} {h : Heap} {x2 x4 x5 x6 x7 x8 x9 x10 x11 x12 x13 x14 x15 x16 x17 x18 x19 x20 x21 x22 x23 x24 x25 x26 x27 x28 x29 x30 x31 : Value} (hm : m' < m) (hi : I m' v3 h) : loopQ (landfallref06_Name_l0_J f0 f1 f32 f33 f34 f35 f36 f37 f38 f39 ds rd I) m Q .normal ⟨[f0, f1, x2, v3, x4, x5, x6, x7, x8, x9, x10, x11, x12, x13, x14, x15, x16, x17, x18, x19, x20, x21, x22, x23, x24, x25, x26, x27, x28, x29, x30, x31, f32, f33, f34, f35, f36, f37, f38, f39], ds, h, rd⟩ :=
  loopQ.again m' hm ⟨_, h, _, _, _, _, _, _, _, _, _, _, _, _, _, _, _, _, _, _, _, _, _, _, _, _, _, _, _, _, _, rfl, hi⟩

/-! 30 landfall/wire.NewReader -/
abbrev fn_wire_NewReader : FuncId := 30
noncomputable def wire_NewReader_c : ACode :=
  (.seq (.region [
      ⟨(some 2), .mov (.const (.pointer none)), none, [], false⟩]) (.seq (.region [
      ⟨(some 3), .mov (.tmp 0), none, [], false⟩,
      ⟨(some 4), .callV (.func 54) [(.tmp 3)], none, [], false⟩,
      ⟨(some 5), .build [(.slice none 0 0), (.int .i64 0), (.int .i64 0), (.int .i64 0), (.bool false)] [(0, 1, (.tmp 4)), (4, 1, (.const (.bool true)))], none, [], false⟩,
      ⟨(some 6), .box 86 (.tmp 5), none, [], false⟩,
      ⟨(some 2), .mov (.tmp 6), none, [], false⟩]) .ret))
noncomputable def wire_NewReader : AFunc := ⟨7, [(2, none)], wire_NewReader_c, none⟩
theorem wire_NewReader_t0 : tableOf Try.prog 30 = some wire_NewReader := by kernel_rfl
theorem wire_NewReader_t : T0 30 = some wire_NewReader := withTrue_t rfl wire_NewReader_t0
theorem wire_NewReader_runs {v0 : Value} {h : Heap} {R : RP} {X : XP} (k : RunC Try.prog T0 wire_NewReader_c ⟨[v0, undef, undef, undef, undef, undef, undef], [], h, none⟩ (bodyQ Try.prog T0 [(2, none)] R X)) :
    Runs Try.prog T0 (.fn 30) [v0] h R X := Runs.fn wire_NewReader_t rfl k


/-! 31 (*landfall/wire.Reader).Text -/
abbrev fn_wire_Reader_Text : FuncId := 31
noncomputable def wire_Reader_Text_c : ACode :=
  (.seq (.region [
      ⟨(some 4), .mov (.const (.string ⟨⟨[]⟩⟩)), none, [], false⟩]) (.seq (.region [
      ⟨(some 5), .mov (.tmp 0), none, [], false⟩,
      ⟨(some 6), .mov (.tmp 1), none, [], false⟩,
      ⟨(some 7), .callV (.func 55) [(.tmp 5), (.tmp 6)], none, [], false⟩,
      ⟨(some 8), .bytesToStr (.tmp 7), none, [], false⟩,
      ⟨(some 4), .mov (.tmp 8), none, [], false⟩]) .ret))
noncomputable def wire_Reader_Text : AFunc := ⟨9, [(4, none)], wire_Reader_Text_c, none⟩
theorem wire_Reader_Text_t0 : tableOf Try.prog 31 = some wire_Reader_Text := by kernel_rfl
theorem wire_Reader_Text_t : T0 31 = some wire_Reader_Text := withTrue_t rfl wire_Reader_Text_t0
theorem wire_Reader_Text_runs {v0 v1 : Value} {h : Heap} {R : RP} {X : XP} (k : RunC Try.prog T0 wire_Reader_Text_c ⟨[v0, v1, undef, undef, undef, undef, undef, undef, undef], [], h, none⟩ (bodyQ Try.prog T0 [(4, none)] R X)) :
    Runs Try.prog T0 (.fn 31) [v0, v1] h R X := Runs.fn wire_Reader_Text_t rfl k


/-! 32 (*landfall/wire.Reader).Num -/
abbrev fn_wire_Reader_Num : FuncId := 32
noncomputable def wire_Reader_Num_c : ACode :=
  (.seq (.region [
      ⟨(some 2), .mov (.const (.int .i64 0)), none, [], false⟩]) (.seq (.region [
      ⟨(some 3), .mov (.tmp 0), none, [], false⟩,
      ⟨(some 4), .mov (.tmp 0), none, [], false⟩,
      ⟨(some 5), .mkFunc (.func 57) [(.tmp 4)] [], none, [], false⟩,
      ⟨(some 6), .callV (.func 56) [(.tmp 3), (.tmp 5)], none, [], false⟩,
      ⟨(some 2), .mov (.tmp 6), none, [], false⟩]) .ret))
noncomputable def wire_Reader_Num : AFunc := ⟨7, [(2, none)], wire_Reader_Num_c, none⟩
theorem wire_Reader_Num_t0 : tableOf Try.prog 32 = some wire_Reader_Num := by kernel_rfl
theorem wire_Reader_Num_t : T0 32 = some wire_Reader_Num := withTrue_t rfl wire_Reader_Num_t0
theorem wire_Reader_Num_runs {v0 : Value} {h : Heap} {R : RP} {X : XP} (k : RunC Try.prog T0 wire_Reader_Num_c ⟨[v0, undef, undef, undef, undef, undef, undef], [], h, none⟩ (bodyQ Try.prog T0 [(2, none)] R X)) :
    Runs Try.prog T0 (.fn 32) [v0] h R X := Runs.fn wire_Reader_Num_t rfl k


/-! 33 landfall/header.hashes -/
abbrev fn_header_hashes : FuncId := 33
noncomputable def header_hashes_c : ACode :=
  (.seq (.region [
      ⟨(some 2), .alloc 56 [(.pointer none), (.pointer none), (.pointer none), (.pointer none)], none, [], false⟩]) (.seq (.regionD [
      ⟨(some 3), .mov (.tmp 0), none, [], false⟩,
      ⟨(some 4), .nilCheck (.tmp 3), none, [], false⟩,
      ⟨(some 5), .fieldAddr 3 (.tmp 4), none, [], false⟩,
      ⟨(some 6), .mov (.tmp 0), none, [], false⟩,
      ⟨(some 7), .nilCheck (.tmp 6), none, [], false⟩,
      ⟨(some 8), .fieldAddr 35 (.tmp 7), none, [], false⟩,
      ⟨(some 9), .mov (.tmp 0), none, [], false⟩,
      ⟨(some 10), .nilCheck (.tmp 9), none, [], false⟩,
      ⟨(some 11), .fieldAddr 67 (.tmp 10), none, [], false⟩,
      ⟨(some 12), .mov (.tmp 0), none, [], false⟩,
      ⟨(some 13), .nilCheck (.tmp 12), none, [], false⟩,
      ⟨(some 14), .fieldAddr 99 (.tmp 13), none, [], false⟩,
      ⟨(some 15), .build [(.pointer none), (.pointer none), (.pointer none), (.pointer none)] [(0, 1, (.tmp 5)), (1, 1, (.tmp 8)), (2, 1, (.tmp 11)), (3, 1, (.tmp 14))], none, [], true⟩,
      ⟨none, .store 4 (.tmp 2) (.tmp 15), none, [], true⟩]) .ret))
noncomputable def header_hashes : AFunc := ⟨16, [(2, some (some 4))], header_hashes_c, none⟩
theorem header_hashes_t0 : tableOf Try.prog 33 = some header_hashes := by kernel_rfl
theorem header_hashes_t : T0 33 = some header_hashes := withTrue_t rfl header_hashes_t0
theorem header_hashes_runs {v0 : Value} {h : Heap} {R : RP} {X : XP} (k : RunC Try.prog T0 header_hashes_c ⟨[v0, undef, undef, undef, undef, undef, undef, undef, undef, undef, undef, undef, undef, undef, undef, undef], [], h, none⟩ (bodyQ Try.prog T0 [(2, some (some 4))] R X)) :
    Runs Try.prog T0 (.fn 33) [v0] h R X := Runs.fn header_hashes_t rfl k


/-! 34 (*landfall/wire.Reader).Hash -/
abbrev fn_wire_Reader_Hash : FuncId := 34
noncomputable def wire_Reader_Hash_c : ACode :=
  (.seq (.region [
      ⟨(some 1), .box 51 (.tmp 0), none, [], false⟩,
      ⟨(some 2), .alloc 26 z32, none, [], false⟩]) (.seq (.region [
      ⟨(some 3), .load none (.tmp 1), none, [], false⟩,
      ⟨(some 4), .mkFunc (.func 59) [] [(.tmp 1)], none, [], false⟩,
      ⟨(some 5), .callV (.func 58) [(.tmp 3), (.tmp 4)], none, [], false⟩,
      ⟨none, .store 32 (.tmp 2) (.tmp 5), none, [], false⟩]) .ret))
noncomputable def wire_Reader_Hash : AFunc := ⟨6, [(2, some (some 32))], wire_Reader_Hash_c, none⟩
theorem wire_Reader_Hash_t0 : tableOf Try.prog 34 = some wire_Reader_Hash := by kernel_rfl
theorem wire_Reader_Hash_t : T0 34 = some wire_Reader_Hash := withTrue_t rfl wire_Reader_Hash_t0
theorem wire_Reader_Hash_runs {v0 : Value} {h : Heap} {R : RP} {X : XP} (k : RunC Try.prog T0 wire_Reader_Hash_c ⟨[v0, undef, undef, undef, undef, undef], [], h, none⟩ (bodyQ Try.prog T0 [(2, some (some 32))] R X)) :
    Runs Try.prog T0 (.fn 34) [v0] h R X := Runs.fn wire_Reader_Hash_t rfl k


/-! 35 (*landfall/wire.Reader).End -/
abbrev fn_wire_Reader_End : FuncId := 35
noncomputable def wire_Reader_End_c : ACode :=
  (.seq (.region [
      ⟨(some 2), .alloc 31 [(.int .i64 0), (.int .i64 0)], none, [], false⟩]) (.seq (.block 0 (.seq (.region [
      ⟨(some 4), .mov (.tmp 0), none, [], false⟩,
      ⟨(some 5), .eq .ptr false (so (.binOp .eql 51 (.tmp 4) (.const (.pointer none)) 51) 4) (.tmp 4) (.const (.pointer none)), none, [], false⟩,
      ⟨(some 6), .mov (.tmp 5), none, [], false⟩,
      ⟨(some 7), .mov (.tmp 0), (some (6, false)), [], false⟩,
      ⟨(some 8), .nilCheck (.tmp 7), (some (6, false)), [], false⟩,
      ⟨(some 9), .fieldAddr 4 (.tmp 8), (some (6, false)), [], false⟩,
      ⟨(some 10), .load none (.tmp 9), (some (6, false)), [], false⟩,
      ⟨(some 11), .raw (so (.unOp .not 4 (.tmp 10)) 4), (some (6, false)), [], false⟩,
      ⟨(some 12), .pick (.tmp 6) (.const (.bool true)) (.tmp 11), none, [], false⟩,
      ⟨(some 3), .mov (.tmp 12), none, [], false⟩]) (.cond (.tmp 3)
    (.seq (.region [
      ⟨(some 13), .build [(.int .i64 0), (.int .i64 0)] [(0, 1, (.const (.int .i64 1)))], none, [], false⟩,
      ⟨none, .store 2 (.tmp 2) (.tmp 13), none, [], false⟩]) .ret)
    (.seq (.regionD [
      ⟨(some 15), .mov (.tmp 0), none, [], true⟩,
      ⟨(some 16), .nilCheck (.tmp 15), none, [], true⟩,
      ⟨(some 17), .fieldAddr 2 (.tmp 16), none, [], true⟩,
      ⟨(some 18), .fieldAddr 0 (.tmp 17), none, [], true⟩,
      ⟨(some 19), .load none (.tmp 18), none, [], true⟩,
      ⟨(some 20), .bin .eql (so (.binOp .eql 29 (.tmp 19) (.const (.int .i64 0)) 29) 4) (.tmp 19) (.const (.int .i64 0)), none, [], true⟩,
      ⟨(some 21), .mov (.tmp 20), none, [], true⟩,
      ⟨(some 22), .mov (.tmp 0), (some (21, true)), [], false⟩,
      ⟨(some 23), .nilCheck (.tmp 22), (some (21, true)), [], false⟩,
      ⟨(some 24), .fieldAddr 1 (.tmp 23), (some (21, true)), [], false⟩,
      ⟨(some 25), .load none (.tmp 24), (some (21, true)), [], false⟩,
      ⟨(some 26), .mov (.tmp 0), (some (21, true)), [], false⟩,
      ⟨(some 27), .nilCheck (.tmp 26), (some (21, true)), [], false⟩,
      ⟨(some 28), .fieldAddr 0 (.tmp 27), (some (21, true)), [], false⟩,
      ⟨(some 29), .load none (.tmp 28), (some (21, true)), [], false⟩,
      ⟨(some 30), .lenSl (.tmp 29), (some (21, true)), [], false⟩,
      ⟨(some 31), .bin .lss (so (.binOp .lss 3 (.tmp 25) (.tmp 30) 3) 4) (.tmp 25) (.tmp 30), (some (21, true)), [], true⟩,
      ⟨(some 32), .pick (.tmp 21) (.tmp 31) (.const (.bool false)), none, [], true⟩,
      ⟨(some 14), .mov (.tmp 32), none, [], true⟩]) (.cond (.tmp 14)
    (.seq (.region [
      ⟨(some 33), .mov (.tmp 0), none, [], false⟩,
      ⟨(some 34), .nilCheck (.tmp 33), none, [], false⟩,
      ⟨(some 35), .fieldAddr 1 (.tmp 34), none, [], false⟩,
      ⟨(some 36), .load none (.tmp 35), none, [], false⟩,
      ⟨(some 37), .build [(.int .i64 0), (.int .i64 0)] [(0, 1, (.const (.int .i64 4))), (1, 1, (.tmp 36))], none, [], false⟩,
      ⟨none, .store 2 (.tmp 2) (.tmp 37), none, [], false⟩]) .ret)
    .skip))))) (.seq (.region [
      ⟨(some 38), .mov (.tmp 0), none, [], false⟩,
      ⟨(some 39), .nilCheck (.tmp 38), none, [], false⟩,
      ⟨(some 40), .fieldAddr 2 (.tmp 39), none, [], false⟩,
      ⟨(some 41), .load (some 2) (.tmp 40), none, [], false⟩,
      ⟨none, .store 2 (.tmp 2) (.tmp 41), none, [], false⟩]) .ret)))
noncomputable def wire_Reader_End : AFunc := ⟨42, [(2, some (some 2))], wire_Reader_End_c, none⟩
theorem wire_Reader_End_t0 : tableOf Try.prog 35 = some wire_Reader_End := by kernel_rfl
theorem wire_Reader_End_t : T0 35 = some wire_Reader_End := withTrue_t rfl wire_Reader_End_t0
theorem wire_Reader_End_runs {v0 : Value} {h : Heap} {R : RP} {X : XP} (k : RunC Try.prog T0 wire_Reader_End_c ⟨[v0, undef, undef, undef, undef, undef, undef, undef, undef, undef, undef, undef, undef, undef, undef, undef, undef, undef, undef, undef, undef, undef, undef, undef, undef, undef, undef, undef, undef, undef, undef, undef, undef, undef, undef, undef, undef, undef, undef, undef, undef, undef], [], h, none⟩ (bodyQ Try.prog T0 [(2, some (some 2))] R X)) :
    Runs Try.prog T0 (.fn 35) [v0] h R X := Runs.fn wire_Reader_End_t rfl k


/-! 36 landfall/landfallref04.NewReader -/
abbrev fn_landfallref04_NewReader : FuncId := 36
noncomputable def landfallref04_NewReader_c : ACode :=
  (.seq (.region [
      ⟨(some 2), .mov (.const (.pointer none)), none, [], false⟩]) (.seq (.region [
      ⟨(some 3), .buildSlice 5 [] 0 [], none, [], false⟩,
      ⟨(some 4), .mov (.tmp 0), none, [], false⟩,
      ⟨(some 5), .append 5 1 1 [(.int .u8 0)] false (.tmp 3) (.tmp 4), none, [], false⟩,
      ⟨(some 6), .build [(.slice none 0 0), (.int .i64 0), (.int .i64 0), (.int .i64 0)] [(0, 1, (.tmp 5))], none, [], false⟩,
      ⟨(some 7), .box 94 (.tmp 6), none, [], false⟩,
      ⟨(some 2), .mov (.tmp 7), none, [], false⟩]) .ret))
noncomputable def landfallref04_NewReader : AFunc := ⟨8, [(2, none)], landfallref04_NewReader_c, none⟩
theorem landfallref04_NewReader_t0 : tableOf Try.prog 36 = some landfallref04_NewReader := by kernel_rfl
theorem landfallref04_NewReader_t : T0 36 = some landfallref04_NewReader := withTrue_t rfl landfallref04_NewReader_t0
theorem landfallref04_NewReader_runs {v0 : Value} {h : Heap} {R : RP} {X : XP} (k : RunC Try.prog T0 landfallref04_NewReader_c ⟨[v0, undef, undef, undef, undef, undef, undef, undef], [], h, none⟩ (bodyQ Try.prog T0 [(2, none)] R X)) :
    Runs Try.prog T0 (.fn 36) [v0] h R X := Runs.fn landfallref04_NewReader_t rfl k


/-! 37 landfall/landfallref06.Get -/
abbrev fn_landfallref06_Get : FuncId := 37
noncomputable def landfallref06_Get_c : ACode :=
  (.seq (.region [
      ⟨(some 2), .alloc 28 ((.string ⟨⟨[]⟩⟩) :: ((.int .i64 0) :: ((.int .i64 0) :: (z32 ++ (z32 ++ (z32 ++ z32)))))), none, [], false⟩]) (.seq (.region [
      ⟨(some 3), .alloc 28 ((.string ⟨⟨[]⟩⟩) :: ((.int .i64 0) :: ((.int .i64 0) :: (z32 ++ (z32 ++ (z32 ++ z32)))))), none, [], false⟩]) (.seq (.region [
      ⟨(some 4), .mov (.tmp 0), none, [], false⟩,
      ⟨(some 5), .callV (.func 62) [(.tmp 4), (.const (.int .i64 32))], none, [], false⟩,
      ⟨(some 6), .fieldAddr 0 (.tmp 3), none, [], false⟩,
      ⟨none, .store 1 (.tmp 6) (.tmp 5), none, [], false⟩]) (.seq (.region [
      ⟨(some 7), .mov (.tmp 0), none, [], false⟩,
      ⟨(some 8), .callV (.func 63) [(.tmp 7)], none, [], false⟩,
      ⟨(some 9), .fieldAddr 1 (.tmp 3), none, [], false⟩,
      ⟨none, .store 1 (.tmp 9) (.tmp 8), none, [], false⟩]) (.seq (.region [
      ⟨(some 10), .mov (.tmp 0), none, [], false⟩,
      ⟨(some 11), .callV (.func 63) [(.tmp 10)], none, [], false⟩,
      ⟨(some 12), .fieldAddr 2 (.tmp 3), none, [], false⟩,
      ⟨none, .store 1 (.tmp 12) (.tmp 11), none, [], false⟩]) (.seq (.region [
      ⟨(some 13), .mov (.tmp 0), none, [], false⟩,
      ⟨(some 14), .callV (.func 64) [(.tmp 13)], none, [], false⟩,
      ⟨(some 15), .fieldAddr 3 (.tmp 3), none, [], false⟩,
      ⟨none, .store 32 (.tmp 15) (.tmp 14), none, [], false⟩]) (.seq (.region [
      ⟨(some 16), .mov (.tmp 0), none, [], false⟩,
      ⟨(some 17), .callV (.func 64) [(.tmp 16)], none, [], false⟩,
      ⟨(some 18), .fieldAddr 35 (.tmp 3), none, [], false⟩,
      ⟨none, .store 32 (.tmp 18) (.tmp 17), none, [], false⟩]) (.seq (.region [
      ⟨(some 19), .mov (.tmp 0), none, [], false⟩,
      ⟨(some 20), .callV (.func 64) [(.tmp 19)], none, [], false⟩,
      ⟨(some 21), .fieldAddr 67 (.tmp 3), none, [], false⟩,
      ⟨none, .store 32 (.tmp 21) (.tmp 20), none, [], false⟩]) (.seq (.region [
      ⟨(some 22), .mov (.tmp 0), none, [], false⟩,
      ⟨(some 23), .callV (.func 64) [(.tmp 22)], none, [], false⟩,
      ⟨(some 24), .fieldAddr 99 (.tmp 3), none, [], false⟩,
      ⟨none, .store 32 (.tmp 24) (.tmp 23), none, [], false⟩]) (.seq (.region [
      ⟨(some 25), .load (some 131) (.tmp 3), none, [], false⟩,
      ⟨none, .store 131 (.tmp 2) (.tmp 25), none, [], false⟩]) .ret))))))))))
noncomputable def landfallref06_Get : AFunc := ⟨26, [(2, some (some 131))], landfallref06_Get_c, none⟩
theorem landfallref06_Get_t0 : tableOf Try.prog 37 = some landfallref06_Get := by kernel_rfl
theorem landfallref06_Get_t : T0 37 = some landfallref06_Get := withTrue_t rfl landfallref06_Get_t0
theorem landfallref06_Get_runs {v0 : Value} {h : Heap} {R : RP} {X : XP} (k : RunC Try.prog T0 landfallref06_Get_c ⟨[v0, undef, undef, undef, undef, undef, undef, undef, undef, undef, undef, undef, undef, undef, undef, undef, undef, undef, undef, undef, undef, undef, undef, undef, undef, undef], [], h, none⟩ (bodyQ Try.prog T0 [(2, some (some 131))] R X)) :
    Runs Try.prog T0 (.fn 37) [v0] h R X := Runs.fn landfallref06_Get_t rfl k


/-! 38 (*landfall/landfallref04.Reader).End -/
abbrev fn_landfallref04_Reader_End : FuncId := 38
noncomputable def landfallref04_Reader_End_c : ACode :=
  (.seq (.region [
      ⟨(some 2), .alloc 31 [(.int .i64 0), (.int .i64 0)], none, [], false⟩]) (.seq (.seq (.regionD [
      ⟨(some 3), .mov (.tmp 0), none, [], true⟩,
      ⟨(some 4), .nilCheck (.tmp 3), none, [], true⟩,
      ⟨(some 5), .fieldAddr 2 (.tmp 4), none, [], true⟩,
      ⟨(some 6), .fieldAddr 0 (.tmp 5), none, [], true⟩,
      ⟨(some 7), .load none (.tmp 6), none, [], true⟩,
      ⟨(some 8), .bin .eql (so (.binOp .eql 29 (.tmp 7) (.const (.int .i64 0)) 29) 4) (.tmp 7) (.const (.int .i64 0)), none, [], true⟩,
      ⟨(some 9), .mov (.tmp 8), none, [], true⟩,
      ⟨(some 10), .mov (.tmp 0), (some (9, true)), [], false⟩,
      ⟨(some 11), .nilCheck (.tmp 10), (some (9, true)), [], false⟩,
      ⟨(some 12), .fieldAddr 1 (.tmp 11), (some (9, true)), [], false⟩,
      ⟨(some 13), .load none (.tmp 12), (some (9, true)), [], false⟩,
      ⟨(some 14), .mov (.tmp 0), (some (9, true)), [], false⟩,
      ⟨(some 15), .nilCheck (.tmp 14), (some (9, true)), [], false⟩,
      ⟨(some 16), .fieldAddr 0 (.tmp 15), (some (9, true)), [], false⟩,
      ⟨(some 17), .load none (.tmp 16), (some (9, true)), [], false⟩,
      ⟨(some 18), .lenSl (.tmp 17), (some (9, true)), [], false⟩,
      ⟨(some 19), .bin .lss (so (.binOp .lss 3 (.tmp 13) (.tmp 18) 3) 4) (.tmp 13) (.tmp 18), (some (9, true)), [], true⟩,
      ⟨(some 20), .pick (.tmp 9) (.tmp 19) (.const (.bool false)), none, [], true⟩]) (.cond (.tmp 20)
    (.seq (.region [
      ⟨(some 21), .mov (.tmp 0), none, [], false⟩,
      ⟨(some 22), .nilCheck (.tmp 21), none, [], false⟩,
      ⟨(some 23), .fieldAddr 1 (.tmp 22), none, [], false⟩,
      ⟨(some 24), .load none (.tmp 23), none, [], false⟩,
      ⟨(some 25), .build [(.int .i64 0), (.int .i64 0)] [(0, 1, (.const (.int .i64 4))), (1, 1, (.tmp 24))], none, [], false⟩,
      ⟨none, .store 2 (.tmp 2) (.tmp 25), none, [], false⟩]) .ret)
    .skip)) (.seq (.region [
      ⟨(some 26), .mov (.tmp 0), none, [], false⟩,
      ⟨(some 27), .nilCheck (.tmp 26), none, [], false⟩,
      ⟨(some 28), .fieldAddr 2 (.tmp 27), none, [], false⟩,
      ⟨(some 29), .load (some 2) (.tmp 28), none, [], false⟩,
      ⟨none, .store 2 (.tmp 2) (.tmp 29), none, [], false⟩]) .ret)))
noncomputable def landfallref04_Reader_End : AFunc := ⟨30, [(2, some (some 2))], landfallref04_Reader_End_c, none⟩
theorem landfallref04_Reader_End_t0 : tableOf Try.prog 38 = some landfallref04_Reader_End := by kernel_rfl
theorem landfallref04_Reader_End_t : T0 38 = some landfallref04_Reader_End := withTrue_t rfl landfallref04_Reader_End_t0
theorem landfallref04_Reader_End_runs {v0 : Value} {h : Heap} {R : RP} {X : XP} (k : RunC Try.prog T0 landfallref04_Reader_End_c ⟨[v0, undef, undef, undef, undef, undef, undef, undef, undef, undef, undef, undef, undef, undef, undef, undef, undef, undef, undef, undef, undef, undef, undef, undef, undef, undef, undef, undef, undef, undef], [], h, none⟩ (bodyQ Try.prog T0 [(2, some (some 2))] R X)) :
    Runs Try.prog T0 (.fn 38) [v0] h R X := Runs.fn landfallref04_Reader_End_t rfl k


/-! 39 landfall/wire.NewWriter -/
abbrev fn_wire_NewWriter : FuncId := 39
noncomputable def wire_NewWriter_c : ACode :=
  (.seq (.region [
      ⟨(some 2), .mov (.const (.pointer none)), none, [], false⟩,
      ⟨(some 3), .mov (.const (.int .i64 0)), none, [], false⟩]) (.seq (.seq (.region [
      ⟨(some 4), .mov (.tmp 0), none, [], false⟩,
      ⟨(some 5), .bin .lss (so (.binOp .lss 3 (.tmp 4) (.const (.int .i64 0)) 3) 4) (.tmp 4) (.const (.int .i64 0)), none, [], false⟩,
      ⟨(some 6), .mov (.tmp 5), none, [], false⟩,
      ⟨(some 7), .mov (.tmp 0), (some (6, false)), [], false⟩,
      ⟨(some 8), .bin .gtr (so (.binOp .gtr 3 (.tmp 7) (.const (.int .i64 1048576)) 3) 4) (.tmp 7) (.const (.int .i64 1048576)), (some (6, false)), [], false⟩,
      ⟨(some 9), .pick (.tmp 6) (.const (.bool true)) (.tmp 8), none, [], false⟩]) (.cond (.tmp 9)
    (.seq (.region [
      ⟨(some 2), .mov (.const (.pointer none)), none, [], false⟩,
      ⟨(some 3), .mov (.const (.int .i64 3)), none, [], false⟩]) .ret)
    .skip)) (.seq (.region [
      ⟨(some 10), .mov (.tmp 0), none, [], false⟩,
      ⟨(some 11), .build [(.int .i64 0), (.slice none 0 0), (.int .i64 0), (.bool false)] [(0, 1, (.tmp 10)), (3, 1, (.const (.bool true)))], none, [], false⟩,
      ⟨(some 12), .box 96 (.tmp 11), none, [], false⟩,
      ⟨(some 2), .mov (.tmp 12), none, [], false⟩,
      ⟨(some 3), .mov (.const (.int .i64 0)), none, [], false⟩]) .ret)))
noncomputable def wire_NewWriter : AFunc := ⟨13, [(2, none), (3, none)], wire_NewWriter_c, none⟩
theorem wire_NewWriter_t0 : tableOf Try.prog 39 = some wire_NewWriter := by kernel_rfl
theorem wire_NewWriter_t : T0 39 = some wire_NewWriter := withTrue_t rfl wire_NewWriter_t0
theorem wire_NewWriter_runs {v0 : Value} {h : Heap} {R : RP} {X : XP} (k : RunC Try.prog T0 wire_NewWriter_c ⟨[v0, undef, undef, undef, undef, undef, undef, undef, undef, undef, undef, undef, undef], [], h, none⟩ (bodyQ Try.prog T0 [(2, none), (3, none)] R X)) :
    Runs Try.prog T0 (.fn 39) [v0] h R X := Runs.fn wire_NewWriter_t rfl k


/-! 40 (*landfall/wire.Writer).Text -/
abbrev fn_wire_Writer_Text : FuncId := 40
noncomputable def wire_Writer_Text_c : ACode :=
  (.seq (.region [
      ⟨(some 4), .mov (.const (.int .i64 0)), none, [], false⟩]) (.seq (.region [
      ⟨(some 5), .mov (.tmp 0), none, [], false⟩,
      ⟨(some 6), .mov (.tmp 1), none, [], false⟩,
      ⟨(some 7), .strToBytes 5 (.tmp 6), none, [], false⟩,
      ⟨(some 8), .callV (.func 65) [(.tmp 5), (.tmp 7)], none, [], false⟩,
      ⟨(some 4), .mov (.tmp 8), none, [], false⟩]) .ret))
noncomputable def wire_Writer_Text : AFunc := ⟨9, [(4, none)], wire_Writer_Text_c, none⟩
theorem wire_Writer_Text_t0 : tableOf Try.prog 40 = some wire_Writer_Text := by kernel_rfl
theorem wire_Writer_Text_t : T0 40 = some wire_Writer_Text := withTrue_t rfl wire_Writer_Text_t0
theorem wire_Writer_Text_runs {v0 v1 : Value} {h : Heap} {R : RP} {X : XP} (k : RunC Try.prog T0 wire_Writer_Text_c ⟨[v0, v1, undef, undef, undef, undef, undef, undef, undef], [], h, none⟩ (bodyQ Try.prog T0 [(4, none)] R X)) :
    Runs Try.prog T0 (.fn 40) [v0, v1] h R X := Runs.fn wire_Writer_Text_t rfl k


/-! 41 (*landfall/wire.Writer).Num -/
abbrev fn_wire_Writer_Num : FuncId := 41
noncomputable def wire_Writer_Num_c : ACode :=
  (.seq (.region [
      ⟨(some 4), .mov (.const (.int .i64 0)), none, [], false⟩]) (.seq (.region [
      ⟨(some 5), .mov (.tmp 0), none, [], false⟩,
      ⟨(some 6), .mov (.tmp 1), none, [], false⟩,
      ⟨(some 7), .bin .geq (so (.binOp .geq 3 (.tmp 6) (.const (.int .i64 0)) 3) 4) (.tmp 6) (.const (.int .i64 0)), none, [], false⟩,
      ⟨(some 8), .mov (.tmp 1), none, [], false⟩,
      ⟨(some 9), .raw (so (.call ⟨.builtin .max, #[(.tmp 8), (.const (.int .i64 0))], #[3, 3]⟩) 3), none, [], false⟩,
      ⟨(some 10), .callV (.func 67) [(.tmp 9)], none, [], false⟩,
      ⟨(some 11), .buildSlice 22 [(.slice none 0 0)] 1 [(0, 1, (.tmp 10))], none, [], false⟩,
      ⟨(some 12), .callV (.func 66) [(.tmp 5), (.tmp 7), (.tmp 11)], none, [], false⟩,
      ⟨(some 4), .mov (.tmp 12), none, [], false⟩]) .ret))
noncomputable def wire_Writer_Num : AFunc := ⟨13, [(4, none)], wire_Writer_Num_c, none⟩
theorem wire_Writer_Num_t0 : tableOf Try.prog 41 = some wire_Writer_Num := by kernel_rfl
theorem wire_Writer_Num_t : T0 41 = some wire_Writer_Num := withTrue_t rfl wire_Writer_Num_t0
theorem wire_Writer_Num_runs {v0 v1 : Value} {h : Heap} {R : RP} {X : XP} (k : RunC Try.prog T0 wire_Writer_Num_c ⟨[v0, v1, undef, undef, undef, undef, undef, undef, undef, undef, undef, undef, undef], [], h, none⟩ (bodyQ Try.prog T0 [(4, none)] R X)) :
    Runs Try.prog T0 (.fn 41) [v0, v1] h R X := Runs.fn wire_Writer_Num_t rfl k


/-! 42 (*landfall/wire.Writer).Hash -/
abbrev fn_wire_Writer_Hash : FuncId := 42
noncomputable def wire_Writer_Hash_c : ACode :=
  (.seq (.region [
      ⟨(some 3), .box 26 (.tmp 1), none, [], false⟩,
      ⟨(some 4), .mov (.const (.int .i64 0)), none, [], false⟩]) (.seq (.region [
      ⟨(some 5), .mov (.tmp 0), none, [], false⟩,
      ⟨(some 6), .sliceArr 32 1 (.tmp 3) none none, none, [], false⟩,
      ⟨(some 7), .buildSlice 22 [(.slice none 0 0)] 1 [(0, 1, (.tmp 6))], none, [], false⟩,
      ⟨(some 8), .callV (.func 66) [(.tmp 5), (.const (.bool true)), (.tmp 7)], none, [], false⟩,
      ⟨(some 4), .mov (.tmp 8), none, [], false⟩]) .ret))
noncomputable def wire_Writer_Hash : AFunc := ⟨9, [(4, none)], wire_Writer_Hash_c, none⟩
theorem wire_Writer_Hash_t0 : tableOf Try.prog 42 = some wire_Writer_Hash := by kernel_rfl
theorem wire_Writer_Hash_t : T0 42 = some wire_Writer_Hash := withTrue_t rfl wire_Writer_Hash_t0
theorem wire_Writer_Hash_runs {v0 v1 : Value} {h : Heap} {R : RP} {X : XP} (k : RunC Try.prog T0 wire_Writer_Hash_c ⟨[v0, v1, undef, undef, undef, undef, undef, undef, undef], [], h, none⟩ (bodyQ Try.prog T0 [(4, none)] R X)) :
    Runs Try.prog T0 (.fn 42) [v0, v1] h R X := Runs.fn wire_Writer_Hash_t rfl k


/-! 43 (*landfall/wire.Writer).Done -/
abbrev fn_wire_Writer_Done : FuncId := 43
noncomputable def wire_Writer_Done_c : ACode :=
  (.seq (.region [
      ⟨(some 2), .mov (.const (.slice none 0 0)), none, [], false⟩,
      ⟨(some 3), .mov (.const (.int .i64 0)), none, [], false⟩]) (.seq (.block 0 (.seq (.region [
      ⟨(some 5), .mov (.tmp 0), none, [], false⟩,
      ⟨(some 6), .eq .ptr false (so (.binOp .eql 64 (.tmp 5) (.const (.pointer none)) 64) 4) (.tmp 5) (.const (.pointer none)), none, [], false⟩,
      ⟨(some 7), .mov (.tmp 6), none, [], false⟩,
      ⟨(some 8), .mov (.tmp 0), (some (7, false)), [], false⟩,
      ⟨(some 9), .nilCheck (.tmp 8), (some (7, false)), [], false⟩,
      ⟨(some 10), .fieldAddr 3 (.tmp 9), (some (7, false)), [], false⟩,
      ⟨(some 11), .load none (.tmp 10), (some (7, false)), [], false⟩,
      ⟨(some 12), .raw (so (.unOp .not 4 (.tmp 11)) 4), (some (7, false)), [], false⟩,
      ⟨(some 13), .pick (.tmp 7) (.const (.bool true)) (.tmp 12), none, [], false⟩,
      ⟨(some 4), .mov (.tmp 13), none, [], false⟩]) (.cond (.tmp 4)
    (.seq (.region [
      ⟨(some 2), .mov (.const (.slice none 0 0)), none, [], false⟩,
      ⟨(some 3), .mov (.const (.int .i64 1)), none, [], false⟩]) .ret)
    (.seq (.region [
      ⟨(some 15), .mov (.tmp 0), none, [], false⟩,
      ⟨(some 16), .nilCheck (.tmp 15), none, [], false⟩,
      ⟨(some 17), .fieldAddr 2 (.tmp 16), none, [], false⟩,
      ⟨(some 18), .load none (.tmp 17), none, [], false⟩,
      ⟨(some 19), .bin .neq (so (.binOp .neq 29 (.tmp 18) (.const (.int .i64 0)) 29) 4) (.tmp 18) (.const (.int .i64 0)), none, [], false⟩,
      ⟨(some 14), .mov (.tmp 19), none, [], false⟩]) (.cond (.tmp 14)
    (.seq (.regionD [
      ⟨(some 20), .mov (.tmp 0), none, [], false⟩,
      ⟨(some 21), .nilCheck (.tmp 20), none, [], false⟩,
      ⟨(some 22), .fieldAddr 2 (.tmp 21), none, [], false⟩,
      ⟨(some 23), .load none (.tmp 22), none, [], false⟩,
      ⟨(some 2), .mov (.const (.slice none 0 0)), none, [], false⟩,
      ⟨(some 3), .mov (.tmp 23), none, [], true⟩]) .ret)
    .skip))))) (.seq (.region [
      ⟨(some 24), .mov (.tmp 0), none, [], false⟩,
      ⟨(some 25), .nilCheck (.tmp 24), none, [], false⟩,
      ⟨(some 26), .fieldAddr 1 (.tmp 25), none, [], false⟩,
      ⟨(some 27), .load none (.tmp 26), none, [], false⟩,
      ⟨(some 28), .callV (.func 54) [(.tmp 27)], none, [], false⟩,
      ⟨(some 2), .mov (.tmp 28), none, [], false⟩,
      ⟨(some 3), .mov (.const (.int .i64 0)), none, [], false⟩]) .ret)))
noncomputable def wire_Writer_Done : AFunc := ⟨29, [(2, none), (3, none)], wire_Writer_Done_c, none⟩
theorem wire_Writer_Done_t0 : tableOf Try.prog 43 = some wire_Writer_Done := by kernel_rfl
theorem wire_Writer_Done_t : T0 43 = some wire_Writer_Done := withTrue_t rfl wire_Writer_Done_t0
theorem wire_Writer_Done_runs {v0 : Value} {h : Heap} {R : RP} {X : XP} (k : RunC Try.prog T0 wire_Writer_Done_c ⟨[v0, undef, undef, undef, undef, undef, undef, undef, undef, undef, undef, undef, undef, undef, undef, undef, undef, undef, undef, undef, undef, undef, undef, undef, undef, undef, undef, undef, undef], [], h, none⟩ (bodyQ Try.prog T0 [(2, none), (3, none)] R X)) :
    Runs Try.prog T0 (.fn 43) [v0] h R X := Runs.fn wire_Writer_Done_t rfl k


/-! 44 landfall/header.each -/
abbrev fn_header_each : FuncId := 44
noncomputable def header_each_l0 : ACode :=
  (.seq (.region [
      ⟨(some 9), .nextStr (.tmp 8), none, [], false⟩,
      ⟨(some 10), .extract 0 (.tmp 9), none, [], false⟩]) (.seq (.cond (.tmp 10)
    .skip
    (.exit 0)) (.block 1 (.seq (.region [
      ⟨(some 11), .extract 2 (.tmp 9), none, [], false⟩,
      ⟨(some 6), .mov (.tmp 11), none, [], false⟩]) (.seq (.region [
      ⟨(some 12), .mov (.tmp 1), none, [], false⟩,
      ⟨(some 13), .mov (.tmp 6), none, [], false⟩,
      ⟨(some 14), .callV (.tmp 12) [(.tmp 13)], none, [], false⟩,
      ⟨(some 15), .raw (so (.unOp .not 4 (.tmp 14)) 4), none, [], false⟩]) (.cond (.tmp 15)
    (.seq (.region [
      ⟨(some 4), .mov (.const (.bool false)), none, [], false⟩]) .ret)
    .skip))))))
noncomputable def header_each_c : ACode :=
  (.seq (.region [
      ⟨(some 4), .mov (.const (.bool false)), none, [], false⟩]) (.seq (.seq (.region [
      ⟨(some 7), .mov (.tmp 0), none, [], false⟩,
      ⟨(some 8), .rangeStr (.tmp 7), none, [], false⟩]) (.block 0 (.loop header_each_l0))) (.seq (.region [
      ⟨(some 4), .mov (.const (.bool true)), none, [], false⟩]) .ret)))
noncomputable def header_each : AFunc := ⟨16, [(4, none)], header_each_c, none⟩
theorem header_each_t0 : tableOf Try.prog 44 = some header_each := by kernel_rfl
theorem header_each_t : T0 44 = some header_each := withTrue_t rfl header_each_t0
theorem header_each_runs {v0 v1 : Value} {h : Heap} {R : RP} {X : XP} (k : RunC Try.prog T0 header_each_c ⟨[v0, v1, undef, undef, undef, undef, undef, undef, undef, undef, undef, undef, undef, undef, undef, undef], [], h, none⟩ (bodyQ Try.prog T0 [(4, none)] R X)) :
    Runs Try.prog T0 (.fn 44) [v0, v1] h R X := Runs.fn header_each_t rfl k
/-- the slots that turn in the loop:  -/
noncomputable def header_each_l0_J (f0 f1 f2 f3 f5 f7 f8 : Value) (ds : List Deferred) (rd : Option Nat) (I : Nat → Heap → Prop) (m : Nat) (s : St) : Prop := ∃ h : Heap, ∃ (x4 x6 x9 x10 x11 x12 x13 x14 x15 : Value), s = ⟨[f0, f1, f2, f3, x4, f5, x6, f7, f8, x9, x10, x11, x12, x13, x14, x15], ds, h, rd⟩ ∧ I m  h
theorem header_each_l0_rule {f0 f1 f2 f3 f5 f7 f8 : Value} {ds : List Deferred} {rd : Option Nat} {Q : QP} (I : Nat → Heap → Prop) (hb : ∀ (m : Nat) (h : Heap) (x4 x6 x9 x10 x11 x12 x13 x14 x15 : Value) , I m  h → RunC Try.prog T0 header_each_l0 ⟨[f0, f1, f2, f3, x4, f5, x6, f7, f8, x9, x10, x11, x12, x13, x14, x15], ds, h, rd⟩ (loopQ (header_each_l0_J f0 f1 f2 f3 f5 f7 f8 ds rd I) m Q))
    (m : Nat) {v : Value} {h : Heap} {x4 x6 x9 x10 x11 x12 x13 x14 x15 : Value} (hi : I m  h) : RunC Try.prog T0 (.loop header_each_l0) ⟨[f0, f1, f2, f3, x4, f5, x6, f7, f8, x9, x10, x11, x12, x13, x14, x15], ds, h, rd⟩ Q :=
  RunC.loopJ (header_each_l0_J f0 f1 f2 f3 f5 f7 f8 ds rd I) (fun m s hj => by obtain ⟨h, x4, x6, x9, x10, x11, x12, x13, x14, x15, rfl, hi⟩ := hj; exact hb m  h x4 x6 x9 x10 x11 x12 x13 x14 x15 hi) m _ ⟨h, _, _, _, _, _, _, _, _, _, rfl, hi⟩
theorem header_each_l0_again {f0 f1 f2 f3 f5 f7 f8 : Value} {ds : List Deferred} {rd : Option Nat} {Q : QP} {I : Nat → Heap → Prop} {m : Nat} (m' : Nat) {v : Value} {h : Heap} {x4 x6 x9 x10 x11 x12 x13 x14 x15 : Value} (hm : m' < m) (hi : I m'  h) : loopQ (header_each_l0_J f0 f1 f2 f3 f5 f7 f8 ds rd I) m Q .normal ⟨[f0, f1, f2, f3, x4, f5, x6, f7, f8, x9, x10, x11, x12, x13, x14, x15], ds, h, rd⟩ :=
  loopQ.again m' hm ⟨h, _, _, _, _, _, _, _, _, _, rfl, hi⟩

/-! 45 landfall/header.plain -/
abbrev fn_header_plain : FuncId := 45
noncomputable def header_plain_c : ACode :=
  (.seq (.region [
      ⟨(some 2), .mov (.const (.bool false)), none, [], false⟩]) (.seq (.region [
      ⟨(some 3), .mov (.tmp 0), none, [], false⟩,
      ⟨(some 4), .bin .geq (so (.binOp .geq 21 (.tmp 3) (.const (.int .i32 97)) 21) 4) (.tmp 3) (.const (.int .i32 97)), none, [], false⟩,
      ⟨(some 5), .mov (.tmp 4), none, [], false⟩,
      ⟨(some 6), .mov (.tmp 0), (some (5, true)), [], false⟩,
      ⟨(some 7), .bin .leq (so (.binOp .leq 21 (.tmp 6) (.const (.int .i32 122)) 21) 4) (.tmp 6) (.const (.int .i32 122)), (some (5, true)), [], false⟩,
      ⟨(some 8), .pick (.tmp 5) (.tmp 7) (.const (.bool false)), none, [], false⟩,
      ⟨(some 9), .mov (.tmp 8), none, [], false⟩,
      ⟨(some 10), .mov (.tmp 0), (some (9, false)), [], false⟩,
      ⟨(some 11), .bin .geq (so (.binOp .geq 21 (.tmp 10) (.const (.int .i32 48)) 21) 4) (.tmp 10) (.const (.int .i32 48)), (some (9, false)), [], false⟩,
      ⟨(some 12), .mov (.tmp 11), (some (9, false)), [], false⟩,
      ⟨(some 13), .mov (.tmp 0), (some (12, true)), [], false⟩,
      ⟨(some 14), .bin .leq (so (.binOp .leq 21 (.tmp 13) (.const (.int .i32 57)) 21) 4) (.tmp 13) (.const (.int .i32 57)), (some (12, true)), [], false⟩,
      ⟨(some 15), .pick (.tmp 12) (.tmp 14) (.const (.bool false)), (some (9, false)), [], false⟩,
      ⟨(some 16), .pick (.tmp 9) (.const (.bool true)) (.tmp 15), none, [], false⟩,
      ⟨(some 17), .mov (.tmp 16), none, [], false⟩,
      ⟨(some 18), .mov (.tmp 0), (some (17, false)), [], false⟩,
      ⟨(some 19), .bin .eql (so (.binOp .eql 21 (.tmp 18) (.const (.int .i32 45)) 21) 4) (.tmp 18) (.const (.int .i32 45)), (some (17, false)), [], false⟩,
      ⟨(some 20), .pick (.tmp 17) (.const (.bool true)) (.tmp 19), none, [], false⟩,
      ⟨(some 2), .mov (.tmp 20), none, [], false⟩]) .ret))
noncomputable def header_plain : AFunc := ⟨21, [(2, none)], header_plain_c, none⟩
theorem header_plain_t0 : tableOf Try.prog 45 = some header_plain := by kernel_rfl
theorem header_plain_t : T0 45 = some header_plain := withTrue_t rfl header_plain_t0
theorem header_plain_runs {v0 : Value} {h : Heap} {R : RP} {X : XP} (k : RunC Try.prog T0 header_plain_c ⟨[v0, undef, undef, undef, undef, undef, undef, undef, undef, undef, undef, undef, undef, undef, undef, undef, undef, undef, undef, undef, undef], [], h, none⟩ (bodyQ Try.prog T0 [(2, none)] R X)) :
    Runs Try.prog T0 (.fn 45) [v0] h R X := Runs.fn header_plain_t rfl k


/-! 46 landfall/header.rules -/
abbrev fn_header_rules : FuncId := 46
noncomputable def header_rules_c : ACode :=
  (.seq (.region [
      ⟨(some 0), .mov (.const (.slice none 0 0)), none, [], false⟩]) (.seq (.region [
      ⟨(some 1), .build [.nilFunc, (.int .i64 0)] [(0, 1, (.func 68)), (1, 1, (.const (.int .i64 5)))], none, [], false⟩,
      ⟨(some 2), .build [.nilFunc, (.int .i64 0)] [(0, 1, (.func 69)), (1, 1, (.const (.int .i64 3)))], none, [], false⟩,
      ⟨(some 3), .build [.nilFunc, (.int .i64 0)] [(0, 1, (.func 70)), (1, 1, (.const (.int .i64 3)))], none, [], false⟩,
      ⟨(some 4), .buildSlice 76 [.nilFunc, (.int .i64 0), .nilFunc, (.int .i64 0), .nilFunc, (.int .i64 0)] 3 [(0, 2, (.tmp 1)), (2, 2, (.tmp 2)), (4, 2, (.tmp 3))], none, [], false⟩,
      ⟨(some 0), .mov (.tmp 4), none, [], false⟩]) .ret))
noncomputable def header_rules : AFunc := ⟨5, [(0, none)], header_rules_c, none⟩
theorem header_rules_t0 : tableOf Try.prog 46 = some header_rules := by kernel_rfl
theorem header_rules_t : T0 46 = some header_rules := withTrue_t rfl header_rules_t0
theorem header_rules_runs {v : Value} {h : Heap} {R : RP} {X : XP} (k : RunC Try.prog T0 header_rules_c ⟨[undef, undef, undef, undef, undef], [], h, none⟩ (bodyQ Try.prog T0 [(0, none)] R X)) :
    Runs Try.prog T0 (.fn 46) [] h R X := Runs.fn header_rules_t rfl k


/-! 54 slices.Clone[[]byte,byte] -/
abbrev fn_slices_Clone___byte_byte_ : FuncId := 54
noncomputable def slices_Clone___byte_byte__c : ACode :=
  (.seq (.region [
      ⟨(some 2), .mov (.const (.slice none 0 0)), none, [], false⟩]) (.seq (.seq (.region [
      ⟨(some 3), .mov (.tmp 0), none, [], false⟩,
      ⟨(some 4), .eq .slice false (so (.binOp .eql 22 (.tmp 3) (.const (.slice none 0 0)) 22) 4) (.tmp 3) (.const (.slice none 0 0)), none, [], false⟩]) (.cond (.tmp 4)
    (.seq (.region [
      ⟨(some 2), .mov (.const (.slice none 0 0)), none, [], false⟩]) .ret)
    .skip)) (.seq (.region [
      ⟨(some 5), .buildSlice 5 [] 0 [], none, [], false⟩,
      ⟨(some 6), .mov (.tmp 0), none, [], false⟩,
      ⟨(some 7), .append 5 1 1 [(.int .u8 0)] false (.tmp 5) (.tmp 6), none, [], false⟩,
      ⟨(some 2), .mov (.tmp 7), none, [], false⟩]) .ret)))
noncomputable def slices_Clone___byte_byte_ : AFunc := ⟨8, [(2, none)], slices_Clone___byte_byte__c, none⟩
theorem slices_Clone___byte_byte__t0 : tableOf Try.prog 54 = some slices_Clone___byte_byte_ := by kernel_rfl
theorem slices_Clone___byte_byte__t : T0 54 = some slices_Clone___byte_byte_ := withTrue_t rfl slices_Clone___byte_byte__t0
theorem slices_Clone___byte_byte__runs {v0 : Value} {h : Heap} {R : RP} {X : XP} (k : RunC Try.prog T0 slices_Clone___byte_byte__c ⟨[v0, undef, undef, undef, undef, undef, undef, undef], [], h, none⟩ (bodyQ Try.prog T0 [(2, none)] R X)) :
    Runs Try.prog T0 (.fn 54) [v0] h R X := Runs.fn slices_Clone___byte_byte__t rfl k


/-! 55 (*landfall/wire.Reader).Bytes -/
abbrev fn_wire_Reader_Bytes : FuncId := 55
noncomputable def wire_Reader_Bytes_c : ACode :=
  (.seq (.region [
      ⟨(some 2), .box 51 (.tmp 0), none, [], false⟩,
      ⟨(some 3), .box 3 (.tmp 1), none, [], false⟩,
      ⟨(some 4), .mov (.const (.slice none 0 0)), none, [], false⟩]) (.seq (.region [
      ⟨(some 5), .load none (.tmp 2), none, [], false⟩,
      ⟨(some 6), .mkFunc (.func 82) [] [(.tmp 2), (.tmp 3)], none, [], false⟩,
      ⟨(some 7), .callV (.func 81) [(.tmp 5), (.tmp 6)], none, [], false⟩,
      ⟨(some 4), .mov (.tmp 7), none, [], false⟩]) .ret))
noncomputable def wire_Reader_Bytes : AFunc := ⟨8, [(4, none)], wire_Reader_Bytes_c, none⟩
theorem wire_Reader_Bytes_t0 : tableOf Try.prog 55 = some wire_Reader_Bytes := by kernel_rfl
theorem wire_Reader_Bytes_t : T0 55 = some wire_Reader_Bytes := withTrue_t rfl wire_Reader_Bytes_t0
theorem wire_Reader_Bytes_runs {v0 v1 : Value} {h : Heap} {R : RP} {X : XP} (k : RunC Try.prog T0 wire_Reader_Bytes_c ⟨[v0, v1, undef, undef, undef, undef, undef, undef], [], h, none⟩ (bodyQ Try.prog T0 [(4, none)] R X)) :
    Runs Try.prog T0 (.fn 55) [v0, v1] h R X := Runs.fn wire_Reader_Bytes_t rfl k


/-! 56 landfall/wire.reads[int] -/
abbrev fn_wire_reads_int_ : FuncId := 56
noncomputable def wire_reads_int__c : ACode :=
  (.seq (.region [
      ⟨(some 4), .mov (.const (.int .i64 0)), none, [], false⟩]) (.seq (.seq (.region [
      ⟨(some 5), .mov (.tmp 0), none, [], false⟩,
      ⟨(some 6), .eq .ptr false (so (.binOp .eql 51 (.tmp 5) (.const (.pointer none)) 51) 4) (.tmp 5) (.const (.pointer none)), none, [], false⟩,
      ⟨(some 7), .mov (.tmp 6), none, [], false⟩,
      ⟨(some 8), .mov (.tmp 0), (some (7, false)), [], false⟩,
      ⟨(some 9), .nilCheck (.tmp 8), (some (7, false)), [], false⟩,
      ⟨(some 10), .fieldAddr 4 (.tmp 9), (some (7, false)), [], false⟩,
      ⟨(some 11), .load none (.tmp 10), (some (7, false)), [], false⟩,
      ⟨(some 12), .raw (so (.unOp .not 4 (.tmp 11)) 4), (some (7, false)), [], false⟩,
      ⟨(some 13), .pick (.tmp 7) (.const (.bool true)) (.tmp 12), none, [], false⟩,
      ⟨(some 14), .mov (.tmp 13), none, [], false⟩,
      ⟨(some 15), .mov (.tmp 0), (some (14, false)), [], false⟩,
      ⟨(some 16), .nilCheck (.tmp 15), (some (14, false)), [], false⟩,
      ⟨(some 17), .fieldAddr 2 (.tmp 16), (some (14, false)), [], false⟩,
      ⟨(some 18), .fieldAddr 0 (.tmp 17), (some (14, false)), [], false⟩,
      ⟨(some 19), .load none (.tmp 18), (some (14, false)), [], false⟩,
      ⟨(some 20), .bin .neq (so (.binOp .neq 29 (.tmp 19) (.const (.int .i64 0)) 29) 4) (.tmp 19) (.const (.int .i64 0)), (some (14, false)), [], false⟩,
      ⟨(some 21), .pick (.tmp 14) (.const (.bool true)) (.tmp 20), none, [], false⟩]) (.cond (.tmp 21)
    (.seq (.region [
      ⟨(some 22), .mov (.tmp 4), none, [], false⟩,
      ⟨(some 4), .mov (.tmp 22), none, [], false⟩]) .ret)
    .skip)) (.seq (.region [
      ⟨(some 23), .mov (.tmp 0), none, [], false⟩,
      ⟨none, .defer (.func 85) [(.tmp 23)], none, [], false⟩]) (.seq (.region [
      ⟨(some 24), .mov (.tmp 1), none, [], false⟩,
      ⟨(some 25), .mov (.tmp 0), none, [], false⟩,
      ⟨(some 26), .nilCheck (.tmp 25), none, [], false⟩,
      ⟨(some 27), .fieldAddr 1 (.tmp 26), none, [], false⟩,
      ⟨(some 28), .load none (.tmp 27), none, [], false⟩,
      ⟨(some 29), .callV (.tmp 24) [(.tmp 28)], none, [], false⟩,
      ⟨(some 4), .mov (.tmp 29), none, [], false⟩]) .ret))))
noncomputable def wire_reads_int_ : AFunc := ⟨30, [(4, none)], wire_reads_int__c, none⟩
theorem wire_reads_int__t0 : tableOf Try.prog 56 = some wire_reads_int_ := by kernel_rfl
theorem wire_reads_int__t : T0 56 = some wire_reads_int_ := withTrue_t rfl wire_reads_int__t0
theorem wire_reads_int__runs {v0 v1 : Value} {h : Heap} {R : RP} {X : XP} (k : RunC Try.prog T0 wire_reads_int__c ⟨[v0, v1, undef, undef, undef, undef, undef, undef, undef, undef, undef, undef, undef, undef, undef, undef, undef, undef, undef, undef, undef, undef, undef, undef, undef, undef, undef, undef, undef, undef], [], h, none⟩ (bodyQ Try.prog T0 [(4, none)] R X)) :
    Runs Try.prog T0 (.fn 56) [v0, v1] h R X := Runs.fn wire_reads_int__t rfl k


/-! 57 (*landfall/wire.Reader).num -/
abbrev fn_wire_Reader_num : FuncId := 57
noncomputable def wire_Reader_num_c : ACode :=
  (.seq (.region [
      ⟨(some 4), .mov (.const (.int .i64 0)), none, [], false⟩]) (.seq (.region [
      ⟨(some 8), .mov (.tmp 0), none, [], false⟩,
      ⟨(some 9), .mov (.tmp 1), none, [], false⟩,
      ⟨(some 10), .callV (.func 86) [(.tmp 8), (.const (.int .i64 1)), (.tmp 9), (.func 87)], none, [], false⟩,
      ⟨(some 11), .conv .i64 (so (.convert 117 3 (.tmp 10)) 3) (.tmp 10), none, [], false⟩,
      ⟨(some 5), .alloc 3 [(.int .i64 0)], none, [], false⟩,
      ⟨none, .store 1 (.tmp 5) (.tmp 11), none, [], false⟩]) (.seq (.region [
      ⟨(some 12), .load none (.tmp 5), none, [], false⟩,
      ⟨(some 13), .bin .leq (so (.binOp .leq 3 (.tmp 12) (.const (.int .i64 8)) 3) 4) (.tmp 12) (.const (.int .i64 8)), none, [], false⟩,
      ⟨(some 14), .mov (.tmp 1), none, [], false⟩,
      ⟨(some 15), .callV (.func 83) [(.tmp 13), (.const (.int .i64 5)), (.tmp 14)], none, [], false⟩]) (.seq (.region [
      ⟨(some 6), .alloc 5 [(.int .u8 0)], none, [], false⟩,
      ⟨none, .store 1 (.tmp 6) (.const (.int .u8 1)), none, [], false⟩]) (.seq (.region [
      ⟨(some 16), .mov (.tmp 0), none, [], false⟩,
      ⟨(some 17), .load none (.tmp 5), none, [], false⟩,
      ⟨(some 18), .mov (.tmp 1), none, [], false⟩,
      ⟨(some 19), .mkFunc (.func 88) [] [(.tmp 5), (.tmp 6)], none, [], false⟩,
      ⟨(some 20), .callV (.func 86) [(.tmp 16), (.tmp 17), (.tmp 18), (.tmp 19)], none, [], false⟩,
      ⟨(some 7), .mov (.tmp 20), none, [], false⟩]) (.seq (.region [
      ⟨(some 21), .load none (.tmp 6), none, [], false⟩,
      ⟨(some 22), .bin .neq (so (.binOp .neq 5 (.tmp 21) (.const (.int .u8 0)) 5) 4) (.tmp 21) (.const (.int .u8 0)), none, [], false⟩,
      ⟨(some 23), .mov (.tmp 22), none, [], false⟩,
      ⟨(some 24), .mov (.tmp 7), (some (23, true)), [], false⟩,
      ⟨(some 25), .bin .leq (so (.binOp .leq 117 (.tmp 24) (.const (.int .u64 9223372036854775807)) 117) 4) (.tmp 24) (.const (.int .u64 9223372036854775807)), (some (23, true)), [], false⟩,
      ⟨(some 26), .pick (.tmp 23) (.tmp 25) (.const (.bool false)), none, [], false⟩,
      ⟨(some 27), .mov (.tmp 1), none, [], false⟩,
      ⟨(some 28), .callV (.func 83) [(.tmp 26), (.const (.int .i64 5)), (.tmp 27)], none, [], false⟩]) (.seq (.region [
      ⟨(some 29), .mov (.tmp 7), none, [], false⟩,
      ⟨(some 30), .conv .i64 (so (.convert 117 3 (.tmp 29)) 3) (.tmp 29), none, [], false⟩,
      ⟨(some 4), .mov (.tmp 30), none, [], false⟩]) .ret)))))))
noncomputable def wire_Reader_num : AFunc := ⟨31, [(4, none)], wire_Reader_num_c, none⟩
theorem wire_Reader_num_t0 : tableOf Try.prog 57 = some wire_Reader_num := by kernel_rfl
theorem wire_Reader_num_t : T0 57 = some wire_Reader_num := withTrue_t rfl wire_Reader_num_t0
theorem wire_Reader_num_runs {v0 v1 : Value} {h : Heap} {R : RP} {X : XP} (k : RunC Try.prog T0 wire_Reader_num_c ⟨[v0, v1, undef, undef, undef, undef, undef, undef, undef, undef, undef, undef, undef, undef, undef, undef, undef, undef, undef, undef, undef, undef, undef, undef, undef, undef, undef, undef, undef, undef, undef], [], h, none⟩ (bodyQ Try.prog T0 [(4, none)] R X)) :
    Runs Try.prog T0 (.fn 57) [v0, v1] h R X := Runs.fn wire_Reader_num_t rfl k


/-! 58 landfall/wire.reads[landfall/api.Hash] -/
abbrev fn_wire_reads_api_Hash_ : FuncId := 58
noncomputable def wire_reads_api_Hash__c : ACode :=
  (.seq (.region [
      ⟨(some 4), .alloc 26 z32, none, [], false⟩]) (.seq (.seq (.region [
      ⟨(some 5), .mov (.tmp 0), none, [], false⟩,
      ⟨(some 6), .eq .ptr false (so (.binOp .eql 51 (.tmp 5) (.const (.pointer none)) 51) 4) (.tmp 5) (.const (.pointer none)), none, [], false⟩,
      ⟨(some 7), .mov (.tmp 6), none, [], false⟩,
      ⟨(some 8), .mov (.tmp 0), (some (7, false)), [], false⟩,
      ⟨(some 9), .nilCheck (.tmp 8), (some (7, false)), [], false⟩,
      ⟨(some 10), .fieldAddr 4 (.tmp 9), (some (7, false)), [], false⟩,
      ⟨(some 11), .load none (.tmp 10), (some (7, false)), [], false⟩,
      ⟨(some 12), .raw (so (.unOp .not 4 (.tmp 11)) 4), (some (7, false)), [], false⟩,
      ⟨(some 13), .pick (.tmp 7) (.const (.bool true)) (.tmp 12), none, [], false⟩,
      ⟨(some 14), .mov (.tmp 13), none, [], false⟩,
      ⟨(some 15), .mov (.tmp 0), (some (14, false)), [], false⟩,
      ⟨(some 16), .nilCheck (.tmp 15), (some (14, false)), [], false⟩,
      ⟨(some 17), .fieldAddr 2 (.tmp 16), (some (14, false)), [], false⟩,
      ⟨(some 18), .fieldAddr 0 (.tmp 17), (some (14, false)), [], false⟩,
      ⟨(some 19), .load none (.tmp 18), (some (14, false)), [], false⟩,
      ⟨(some 20), .bin .neq (so (.binOp .neq 29 (.tmp 19) (.const (.int .i64 0)) 29) 4) (.tmp 19) (.const (.int .i64 0)), (some (14, false)), [], false⟩,
      ⟨(some 21), .pick (.tmp 14) (.const (.bool true)) (.tmp 20), none, [], false⟩]) (.cond (.tmp 21)
    (.seq (.region [
      ⟨(some 22), .load (some 32) (.tmp 4), none, [], false⟩,
      ⟨none, .store 32 (.tmp 4) (.tmp 22), none, [], false⟩]) .ret)
    .skip)) (.seq (.region [
      ⟨(some 23), .mov (.tmp 0), none, [], false⟩,
      ⟨none, .defer (.func 85) [(.tmp 23)], none, [], false⟩]) (.seq (.region [
      ⟨(some 24), .mov (.tmp 1), none, [], false⟩,
      ⟨(some 25), .mov (.tmp 0), none, [], false⟩,
      ⟨(some 26), .nilCheck (.tmp 25), none, [], false⟩,
      ⟨(some 27), .fieldAddr 1 (.tmp 26), none, [], false⟩,
      ⟨(some 28), .load none (.tmp 27), none, [], false⟩,
      ⟨(some 29), .callV (.tmp 24) [(.tmp 28)], none, [], false⟩,
      ⟨none, .store 32 (.tmp 4) (.tmp 29), none, [], false⟩]) .ret))))
noncomputable def wire_reads_api_Hash_ : AFunc := ⟨30, [(4, some (some 32))], wire_reads_api_Hash__c, none⟩
theorem wire_reads_api_Hash__t0 : tableOf Try.prog 58 = some wire_reads_api_Hash_ := by kernel_rfl
theorem wire_reads_api_Hash__t : T0 58 = some wire_reads_api_Hash_ := withTrue_t rfl wire_reads_api_Hash__t0
theorem wire_reads_api_Hash__runs {v0 v1 : Value} {h : Heap} {R : RP} {X : XP} (k : RunC Try.prog T0 wire_reads_api_Hash__c ⟨[v0, v1, undef, undef, undef, undef, undef, undef, undef, undef, undef, undef, undef, undef, undef, undef, undef, undef, undef, undef, undef, undef, undef, undef, undef, undef, undef, undef, undef, undef], [], h, none⟩ (bodyQ Try.prog T0 [(4, some (some 32))] R X)) :
    Runs Try.prog T0 (.fn 58) [v0, v1] h R X := Runs.fn wire_reads_api_Hash__t rfl k


/-! 59 (*landfall/wire.Reader).Hash$1 -/
abbrev fn_wire_Reader_Hash_1 : FuncId := 59
noncomputable def wire_Reader_Hash_1_c : ACode :=
  (.seq (.region [
      ⟨(some 3), .alloc 26 z32, none, [], false⟩]) (.seq (.region [
      ⟨(some 4), .load none (.tmp 1), none, [], false⟩,
      ⟨(some 5), .mov (.tmp 0), none, [], false⟩,
      ⟨(some 6), .callV (.func 60) [(.tmp 4), (.const (.int .i64 32)), (.tmp 5), (.func 61)], none, [], false⟩,
      ⟨none, .store 32 (.tmp 3) (.tmp 6), none, [], false⟩]) .ret))
noncomputable def wire_Reader_Hash_1 : AFunc := ⟨7, [(3, some (some 32))], wire_Reader_Hash_1_c, none⟩
theorem wire_Reader_Hash_1_t0 : tableOf Try.prog 59 = some wire_Reader_Hash_1 := by kernel_rfl
theorem wire_Reader_Hash_1_t : T0 59 = some wire_Reader_Hash_1 := withTrue_t rfl wire_Reader_Hash_1_t0
theorem wire_Reader_Hash_1_runs {v0 v1 : Value} {h : Heap} {R : RP} {X : XP} (k : RunC Try.prog T0 wire_Reader_Hash_1_c ⟨[v0, v1, undef, undef, undef, undef, undef], [], h, none⟩ (bodyQ Try.prog T0 [(3, some (some 32))] R X)) :
    Runs Try.prog T0 (.fn 59) [v0, v1] h R X := Runs.fn wire_Reader_Hash_1_t rfl k


/-! 60 landfall/wire.take[landfall/api.Hash] -/
abbrev fn_wire_take_api_Hash_ : FuncId := 60
noncomputable def wire_take_api_Hash__c : ACode :=
  (.seq (.region [
      ⟨(some 8), .alloc 26 z32, none, [], false⟩]) (.seq (.regionD [
      ⟨(some 9), .mov (.tmp 1), none, [], false⟩,
      ⟨(some 10), .mov (.tmp 0), none, [], false⟩,
      ⟨(some 11), .nilCheck (.tmp 10), none, [], false⟩,
      ⟨(some 12), .fieldAddr 0 (.tmp 11), none, [], false⟩,
      ⟨(some 13), .load none (.tmp 12), none, [], false⟩,
      ⟨(some 14), .lenSl (.tmp 13), none, [], false⟩,
      ⟨(some 15), .mov (.tmp 0), none, [], false⟩,
      ⟨(some 16), .nilCheck (.tmp 15), none, [], false⟩,
      ⟨(some 17), .fieldAddr 1 (.tmp 16), none, [], false⟩,
      ⟨(some 18), .load none (.tmp 17), none, [], false⟩,
      ⟨(some 19), .bin .sub (so (.binOp .sub 3 (.tmp 14) (.tmp 18) 3) 3) (.tmp 14) (.tmp 18), none, [], false⟩,
      ⟨(some 20), .bin .leq (so (.binOp .leq 3 (.tmp 9) (.tmp 19) 3) 4) (.tmp 9) (.tmp 19), none, [], false⟩,
      ⟨(some 21), .mov (.tmp 2), none, [], false⟩,
      ⟨(some 22), .callV (.func 83) [(.tmp 20), (.const (.int .i64 6)), (.tmp 21)], none, [], true⟩]) (.seq (.region [
      ⟨(some 23), .mov (.tmp 0), none, [], false⟩,
      ⟨(some 24), .nilCheck (.tmp 23), none, [], false⟩,
      ⟨(some 25), .fieldAddr 1 (.tmp 24), none, [], false⟩,
      ⟨(some 26), .load none (.tmp 25), none, [], false⟩,
      ⟨(some 27), .mov (.tmp 1), none, [], false⟩,
      ⟨(some 28), .bin .add (so (.binOp .add 3 (.tmp 26) (.tmp 27) 3) 3) (.tmp 26) (.tmp 27), none, [], false⟩,
      ⟨(some 29), .nilCheck (.tmp 23), none, [], false⟩,
      ⟨(some 30), .fieldAddr 1 (.tmp 29), none, [], false⟩,
      ⟨none, .store 1 (.tmp 30) (.tmp 28), none, [], false⟩]) (.seq (.regionD [
      ⟨(some 31), .mov (.tmp 3), none, [], false⟩,
      ⟨(some 32), .mov (.tmp 0), none, [], false⟩,
      ⟨(some 33), .nilCheck (.tmp 32), none, [], false⟩,
      ⟨(some 34), .fieldAddr 0 (.tmp 33), none, [], false⟩,
      ⟨(some 35), .load none (.tmp 34), none, [], false⟩,
      ⟨(some 36), .mov (.tmp 0), none, [], false⟩,
      ⟨(some 37), .nilCheck (.tmp 36), none, [], false⟩,
      ⟨(some 38), .fieldAddr 1 (.tmp 37), none, [], false⟩,
      ⟨(some 39), .load none (.tmp 38), none, [], false⟩,
      ⟨(some 40), .mov (.tmp 1), none, [], false⟩,
      ⟨(some 41), .bin .sub (so (.binOp .sub 3 (.tmp 39) (.tmp 40) 3) 3) (.tmp 39) (.tmp 40), none, [], false⟩,
      ⟨(some 42), .mov (.tmp 0), none, [], false⟩,
      ⟨(some 43), .nilCheck (.tmp 42), none, [], false⟩,
      ⟨(some 44), .fieldAddr 1 (.tmp 43), none, [], false⟩,
      ⟨(some 45), .load none (.tmp 44), none, [], false⟩,
      ⟨(some 46), .sliceSl 1 (.tmp 35) (some (.tmp 41)) (some (.tmp 45)) none, none, [], false⟩,
      ⟨(some 47), .callV (.tmp 31) [(.tmp 46)], none, [], true⟩,
      ⟨none, .store 32 (.tmp 8) (.tmp 47), none, [], true⟩]) .ret))))
noncomputable def wire_take_api_Hash_ : AFunc := ⟨48, [(8, some (some 32))], wire_take_api_Hash__c, none⟩
theorem wire_take_api_Hash__t0 : tableOf Try.prog 60 = some wire_take_api_Hash_ := by kernel_rfl
theorem wire_take_api_Hash__t : T0 60 = some wire_take_api_Hash_ := withTrue_t rfl wire_take_api_Hash__t0
theorem wire_take_api_Hash__runs {v0 v1 v2 v3 : Value} {h : Heap} {R : RP} {X : XP} (k : RunC Try.prog T0 wire_take_api_Hash__c ⟨[v0, v1, v2, v3, undef, undef, undef, undef, undef, undef, undef, undef, undef, undef, undef, undef, undef, undef, undef, undef, undef, undef, undef, undef, undef, undef, undef, undef, undef, undef, undef, undef, undef, undef, undef, undef, undef, undef, undef, undef, undef, undef, undef, undef, undef, undef, undef, undef], [], h, none⟩ (bodyQ Try.prog T0 [(8, some (some 32))] R X)) :
    Runs Try.prog T0 (.fn 60) [v0, v1, v2, v3] h R X := Runs.fn wire_take_api_Hash__t rfl k


/-! 61 (*landfall/wire.Reader).Hash$1$1 -/
abbrev fn_wire_Reader_Hash_1_1 : FuncId := 61
noncomputable def wire_Reader_Hash_1_1_c : ACode :=
  (.seq (.region [
      ⟨(some 2), .alloc 26 z32, none, [], false⟩]) (.seq (.region [
      ⟨(some 3), .mov (.tmp 0), none, [], false⟩,
      ⟨(some 4), .arrayAt 32 (.tmp 3), none, [], false⟩,
      ⟨(some 5), .load (some 32) (.tmp 4), none, [], false⟩,
      ⟨none, .store 32 (.tmp 2) (.tmp 5), none, [], false⟩]) .ret))
noncomputable def wire_Reader_Hash_1_1 : AFunc := ⟨6, [(2, some (some 32))], wire_Reader_Hash_1_1_c, none⟩
theorem wire_Reader_Hash_1_1_t0 : tableOf Try.prog 61 = some wire_Reader_Hash_1_1 := by kernel_rfl
theorem wire_Reader_Hash_1_1_t : T0 61 = some wire_Reader_Hash_1_1 := withTrue_t rfl wire_Reader_Hash_1_1_t0
theorem wire_Reader_Hash_1_1_runs {v0 : Value} {h : Heap} {R : RP} {X : XP} (k : RunC Try.prog T0 wire_Reader_Hash_1_1_c ⟨[v0, undef, undef, undef, undef, undef], [], h, none⟩ (bodyQ Try.prog T0 [(2, some (some 32))] R X)) :
    Runs Try.prog T0 (.fn 61) [v0] h R X := Runs.fn wire_Reader_Hash_1_1_t rfl k


/-! 62 (*landfall/landfallref04.Reader).Text -/
abbrev fn_landfallref04_Reader_Text : FuncId := 62
noncomputable def landfallref04_Reader_Text_c : ACode :=
  (.seq (.region [
      ⟨(some 4), .mov (.const (.string ⟨⟨[]⟩⟩)), none, [], false⟩]) (.seq (.region [
      ⟨(some 5), .mov (.tmp 0), none, [], false⟩,
      ⟨(some 6), .mov (.tmp 1), none, [], false⟩,
      ⟨(some 7), .callV (.func 89) [(.tmp 5), (.tmp 6)], none, [], false⟩,
      ⟨(some 8), .bytesToStr (.tmp 7), none, [], false⟩,
      ⟨(some 4), .mov (.tmp 8), none, [], false⟩]) .ret))
noncomputable def landfallref04_Reader_Text : AFunc := ⟨9, [(4, none)], landfallref04_Reader_Text_c, none⟩
theorem landfallref04_Reader_Text_t0 : tableOf Try.prog 62 = some landfallref04_Reader_Text := by kernel_rfl
theorem landfallref04_Reader_Text_t : T0 62 = some landfallref04_Reader_Text := withTrue_t rfl landfallref04_Reader_Text_t0
theorem landfallref04_Reader_Text_runs {v0 v1 : Value} {h : Heap} {R : RP} {X : XP} (k : RunC Try.prog T0 landfallref04_Reader_Text_c ⟨[v0, v1, undef, undef, undef, undef, undef, undef, undef], [], h, none⟩ (bodyQ Try.prog T0 [(4, none)] R X)) :
    Runs Try.prog T0 (.fn 62) [v0, v1] h R X := Runs.fn landfallref04_Reader_Text_t rfl k


/-! 63 (*landfall/landfallref04.Reader).Num -/
abbrev fn_landfallref04_Reader_Num : FuncId := 63
noncomputable def landfallref04_Reader_Num_l0 : ACode :=
  (.seq (.seq (.region [
      ⟨(some 40), .mov (.tmp 7), none, [], false⟩,
      ⟨(some 41), .mov (.tmp 5), none, [], false⟩,
      ⟨(some 42), .lenSl (.tmp 41), none, [], false⟩,
      ⟨(some 43), .bin .lss (so (.binOp .lss 3 (.tmp 40) (.tmp 42) 3) 4) (.tmp 40) (.tmp 42), none, [], false⟩]) (.cond (.tmp 43)
    .skip
    (.exit 0))) (.seq (.block 1 (.region [
      ⟨(some 46), .mov (.tmp 6), none, [], false⟩,
      ⟨(some 47), .bin .shl (so (.binOp .shl 117 (.tmp 46) (.const (.int .u64 8)) 104) 117) (.tmp 46) (.const (.int .u64 8)), none, [], false⟩,
      ⟨(some 48), .mov (.tmp 5), none, [], false⟩,
      ⟨(some 49), .mov (.tmp 7), none, [], false⟩,
      ⟨(some 50), .indexSl 1 (.tmp 48) (.tmp 49), none, [], false⟩,
      ⟨(some 51), .load none (.tmp 50), none, [], false⟩,
      ⟨(some 52), .conv .u64 (so (.convert 5 117 (.tmp 51)) 117) (.tmp 51), none, [], false⟩,
      ⟨(some 53), .bin .or (so (.binOp .or 117 (.tmp 47) (.tmp 52) 117) 117) (.tmp 47) (.tmp 52), none, [], false⟩,
      ⟨(some 6), .mov (.tmp 53), none, [], false⟩])) (.region [
      ⟨(some 44), .mov (.tmp 7), none, [], false⟩,
      ⟨(some 45), .bin .add (so (.binOp .add 3 (.tmp 44) (.const (.int .i64 1)) 3) 3) (.tmp 44) (.const (.int .i64 1)), none, [], false⟩,
      ⟨(some 7), .mov (.tmp 45), none, [], false⟩])))
noncomputable def landfallref04_Reader_Num_c : ACode :=
  (.seq (.region [
      ⟨(some 2), .mov (.const (.int .i64 0)), none, [], false⟩]) (.seq (.region [
      ⟨(some 8), .mov (.tmp 0), none, [], false⟩,
      ⟨(some 9), .nilCheck (.tmp 8), none, [], false⟩,
      ⟨(some 10), .fieldAddr 1 (.tmp 9), none, [], false⟩,
      ⟨(some 11), .load none (.tmp 10), none, [], false⟩,
      ⟨(some 3), .mov (.tmp 11), none, [], false⟩]) (.seq (.region [
      ⟨(some 12), .mov (.tmp 0), none, [], false⟩,
      ⟨(some 13), .mov (.tmp 3), none, [], false⟩,
      ⟨(some 14), .callV (.func 90) [(.tmp 12), (.const (.int .i64 1)), (.tmp 13)], none, [], false⟩,
      ⟨(some 4), .mov (.tmp 14), none, [], false⟩]) (.seq (.seq (.region [
      ⟨(some 15), .mov (.tmp 4), none, [], false⟩,
      ⟨(some 16), .lenSl (.tmp 15), none, [], false⟩,
      ⟨(some 17), .bin .eql (so (.binOp .eql 3 (.tmp 16) (.const (.int .i64 1)) 3) 4) (.tmp 16) (.const (.int .i64 1)), none, [], false⟩,
      ⟨(some 18), .mov (.tmp 17), none, [], false⟩,
      ⟨(some 19), .mov (.tmp 4), (some (18, true)), [], false⟩,
      ⟨(some 20), .indexSl 1 (.tmp 19) (.const (.int .i64 0)), (some (18, true)), [], false⟩,
      ⟨(some 21), .load none (.tmp 20), (some (18, true)), [], false⟩,
      ⟨(some 22), .bin .gtr (so (.binOp .gtr 5 (.tmp 21) (.const (.int .u8 8)) 5) 4) (.tmp 21) (.const (.int .u8 8)), (some (18, true)), [], false⟩,
      ⟨(some 23), .pick (.tmp 18) (.tmp 22) (.const (.bool false)), none, [], false⟩]) (.cond (.tmp 23)
    (.region [
      ⟨(some 24), .mov (.tmp 0), none, [], false⟩,
      ⟨(some 25), .mov (.tmp 3), none, [], false⟩,
      ⟨(some 26), .callV (.func 91) [(.tmp 24), (.const (.int .i64 5)), (.tmp 25)], none, [], false⟩])
    .skip)) (.seq (.seq (.region [
      ⟨(some 27), .mov (.tmp 0), none, [], false⟩,
      ⟨(some 28), .nilCheck (.tmp 27), none, [], false⟩,
      ⟨(some 29), .fieldAddr 2 (.tmp 28), none, [], false⟩,
      ⟨(some 30), .fieldAddr 0 (.tmp 29), none, [], false⟩,
      ⟨(some 31), .load none (.tmp 30), none, [], false⟩,
      ⟨(some 32), .bin .neq (so (.binOp .neq 29 (.tmp 31) (.const (.int .i64 0)) 29) 4) (.tmp 31) (.const (.int .i64 0)), none, [], false⟩]) (.cond (.tmp 32)
    (.seq (.region [
      ⟨(some 2), .mov (.const (.int .i64 0)), none, [], false⟩]) .ret)
    .skip)) (.seq (.region [
      ⟨(some 33), .mov (.tmp 0), none, [], false⟩,
      ⟨(some 34), .mov (.tmp 4), none, [], false⟩,
      ⟨(some 35), .indexSl 1 (.tmp 34) (.const (.int .i64 0)), none, [], false⟩,
      ⟨(some 36), .load none (.tmp 35), none, [], false⟩,
      ⟨(some 37), .conv .i64 (so (.convert 5 3 (.tmp 36)) 3) (.tmp 36), none, [], false⟩,
      ⟨(some 38), .mov (.tmp 3), none, [], false⟩,
      ⟨(some 39), .callV (.func 90) [(.tmp 33), (.tmp 37), (.tmp 38)], none, [], false⟩,
      ⟨(some 5), .mov (.tmp 39), none, [], false⟩]) (.seq (.region [
      ⟨(some 6), .mov (.const (.int .u64 0)), none, [], false⟩]) (.seq (.seq (.region [
      ⟨(some 7), .mov (.const (.int .i64 0)), none, [], false⟩]) (.block 0 (.loop landfallref04_Reader_Num_l0))) (.seq (.seq (.region [
      ⟨(some 54), .mov (.tmp 5), none, [], false⟩,
      ⟨(some 55), .lenSl (.tmp 54), none, [], false⟩,
      ⟨(some 56), .bin .gtr (so (.binOp .gtr 3 (.tmp 55) (.const (.int .i64 0)) 3) 4) (.tmp 55) (.const (.int .i64 0)), none, [], false⟩,
      ⟨(some 57), .mov (.tmp 56), none, [], false⟩,
      ⟨(some 58), .mov (.tmp 5), (some (57, true)), [], false⟩,
      ⟨(some 59), .indexSl 1 (.tmp 58) (.const (.int .i64 0)), (some (57, true)), [], false⟩,
      ⟨(some 60), .load none (.tmp 59), (some (57, true)), [], false⟩,
      ⟨(some 61), .bin .eql (so (.binOp .eql 5 (.tmp 60) (.const (.int .u8 0)) 5) 4) (.tmp 60) (.const (.int .u8 0)), (some (57, true)), [], false⟩,
      ⟨(some 62), .pick (.tmp 57) (.tmp 61) (.const (.bool false)), none, [], false⟩,
      ⟨(some 63), .mov (.tmp 62), none, [], false⟩,
      ⟨(some 64), .mov (.tmp 6), (some (63, false)), [], false⟩,
      ⟨(some 65), .bin .shr (so (.binOp .shr 117 (.tmp 64) (.const (.int .u64 63)) 104) 117) (.tmp 64) (.const (.int .u64 63)), (some (63, false)), [], false⟩,
      ⟨(some 66), .bin .eql (so (.binOp .eql 117 (.tmp 65) (.const (.int .u64 1)) 117) 4) (.tmp 65) (.const (.int .u64 1)), (some (63, false)), [], false⟩,
      ⟨(some 67), .pick (.tmp 63) (.const (.bool true)) (.tmp 66), none, [], false⟩]) (.cond (.tmp 67)
    (.region [
      ⟨(some 68), .mov (.tmp 0), none, [], false⟩,
      ⟨(some 69), .mov (.tmp 3), none, [], false⟩,
      ⟨(some 70), .callV (.func 91) [(.tmp 68), (.const (.int .i64 5)), (.tmp 69)], none, [], false⟩])
    .skip)) (.seq (.seq (.region [
      ⟨(some 71), .mov (.tmp 0), none, [], false⟩,
      ⟨(some 72), .nilCheck (.tmp 71), none, [], false⟩,
      ⟨(some 73), .fieldAddr 2 (.tmp 72), none, [], false⟩,
      ⟨(some 74), .fieldAddr 0 (.tmp 73), none, [], false⟩,
      ⟨(some 75), .load none (.tmp 74), none, [], false⟩,
      ⟨(some 76), .bin .neq (so (.binOp .neq 29 (.tmp 75) (.const (.int .i64 0)) 29) 4) (.tmp 75) (.const (.int .i64 0)), none, [], false⟩]) (.cond (.tmp 76)
    (.seq (.region [
      ⟨(some 2), .mov (.const (.int .i64 0)), none, [], false⟩]) .ret)
    .skip)) (.seq (.region [
      ⟨(some 77), .mov (.tmp 6), none, [], false⟩,
      ⟨(some 78), .conv .i64 (so (.convert 117 3 (.tmp 77)) 3) (.tmp 77), none, [], false⟩,
      ⟨(some 2), .mov (.tmp 78), none, [], false⟩]) .ret)))))))))))
noncomputable def landfallref04_Reader_Num : AFunc := ⟨79, [(2, none)], landfallref04_Reader_Num_c, none⟩
theorem landfallref04_Reader_Num_t0 : tableOf Try.prog 63 = some landfallref04_Reader_Num := by kernel_rfl
theorem landfallref04_Reader_Num_t : T0 63 = some landfallref04_Reader_Num := withTrue_t rfl landfallref04_Reader_Num_t0
theorem landfallref04_Reader_Num_runs {v0 : Value} {h : Heap} {R : RP} {X : XP} (k : RunC Try.prog T0 landfallref04_Reader_Num_c ⟨[v0, undef, undef, undef, undef, undef, undef, undef, undef, undef, undef, undef, undef, undef, undef, undef, undef, undef, undef, undef, undef, undef, undef, undef, undef, undef, undef, undef, undef, undef, undef, undef, undef, undef, undef, undef, undef, undef, undef, undef, undef, undef, undef, undef, undef, undef, undef, undef, undef, undef, undef, undef, undef, undef, undef, undef, undef, undef, undef, undef, undef, undef, undef, undef, undef, undef, undef, undef, undef, undef, undef, undef, undef, undef, undef, undef, undef, undef, undef], [], h, none⟩ (bodyQ Try.prog T0 [(2, none)] R X)) :
    Runs Try.prog T0 (.fn 63) [v0] h R X := Runs.fn landfallref04_Reader_Num_t rfl k
/-- the slots that turn in the loop: v6 v7 -/
noncomputable def landfallref04_Reader_Num_l0_J (f0 f1 f2 f3 f4 f5 f8 f9 f10 f11 f12 f13 f14 f15 f16 f17 f18 f19 f20 f21 f22 f23 f24 f25 f26 f27 f28 f29 f30 f31 f32 f33 f34 f35 f36 f37 f38 f39 f54 f55 f56 f57 f58 f59 f60 f61 f62 f63 f64 f65 f66 f67 f68 f69 f70 f71 f72 f73 f74 f75 f76 f77 f78 : Value) (ds : List Deferred) (rd : Option Nat) (I : Nat → Value → Value → Heap → Prop) (m : Nat) (s : St) : Prop := ∃ (v6 v7 : Value), ∃ h : Heap, ∃ (x40 x41 x42 x43 x44 x45 x46 x47 x48 x49 x50 x51 x52 x53 : Value), s = ⟨[f0, f1, f2, f3, f4, f5, v6, v7, f8, f9, f10, f11, f12, f13, f14, f15, f16, f17, f18, f19, f20, f21, f22, f23, f24, f25, f26, f27, f28, f29, f30, f31, f32, f33, f34, f35, f36, f37, f38, f39, x40, x41, x42, x43, x44, x45, x46, x47, x48, x49, x50, x51, x52, x53, f54, f55, f56, f57, f58, f59, f60, f61, f62, f63, f64, f65, f66, f67, f68, f69, f70, f71, f72, f73, f74, f75, f76, f77, f78], ds, h, rd⟩ ∧ I m v6 v7 h
theorem landfallref04_Reader_Num_l0_rule {f0 f1 f2 f3 f4 f5 f8 f9 f10 f11 f12 f13 f14 f15 f16 f17 f18 f19 f20 f21 f22 f23 f24 f25 f26 f27 f28 f29 f30 f31 f32 f33 f34 f35 f36 f37 f38 f39 f54 f55 f56 f57 f58 f59 f60 f61 f62 f63 f64 f65 f66 f67 f68 f69 f70 f71 f72 f73 f74 f75 f76 f77 f78 : Value} {ds : List Deferred} {rd : Option Nat} {Q : QP} (I : Nat → Value → Value → Heap → Prop) (hb : ∀ (m : Nat) (v6 v7 : Value) (h : Heap) (x40 x41 x42 x43 x44 x45 x46 x47 x48 x49 x50 x51 x52 x53 : Value) , I m v6 v7 h → RunC Try.prog T0 landfallref04_Reader_Num_l0 ⟨[f0, f1, f2, f3, f4, f5, v6, v7, f8, f9, f10, f11, f12, f13, f14, f15, f16, f17, f18, f19, f20, f21, f22, f23, f24, f25, f26, f27, f28, f29, f30, f31, f32, f33, f34, f35, f36, f37, f38, f39, x40, x41, x42, x43, x44, x45, x46, x47, x48, x49, x50, x51, x52, x53, f54, f55, f56, f57, f58, f59, f60, f61, f62, f63, f64, f65, f66, f67, f68, f69, f70, f71, f72, f73, f74, f75, f76, f77, f78], ds, h, rd⟩ (loopQ (landfallref04_Reader_Num_l0_J f0 f1 f2 f3 f4 f5 f8 f9 f10 f11 f12 f13 f14 f15 f16 f17 f18 f19 f20 f21 f22 f23 f24 f25 f26 f27 f28 f29 f30 f31 f32 f33 f34 f35 f36 f37 f38 f39 f54 f55 f56 f57 f58 f59 f60 f61 f62 f63 f64 f65 f66 f67 f68 f69 f70 f71 f72 f73 f74 f75 f76 f77 f78 ds rd I) m Q))
    (m : Nat) {v6 v7 : Value} {h : Heap} {x40 x41 x42 x43 x44 x45 x46 x47 x48 x49 x50 x51 x52 x53 : Value} (hi : I m v6 v7 h) : RunC Try.prog T0 (.loop landfallref04_Reader_Num_l0) ⟨[f0, f1, f2, f3, f4, f5, v6, v7, f8, f9, f10, f11, f12, f13, f14, f15, f16, f17, f18, f19, f20, f21, f22, f23, f24, f25, f26, f27, f28, f29, f30, f31, f32, f33, f34, f35, f36, f37, f38, f39, x40, x41, x42, x43, x44, x45, x46, x47, x48, x49, x50, x51, x52, x53, f54, f55, f56, f57, f58, f59, f60, f61, f62, f63, f64, f65, f66, f67, f68, f69, f70, f71, f72, f73, f74, f75, f76, f77, f78], ds, h, rd⟩ Q :=
  RunC.loopJ (landfallref04_Reader_Num_l0_J f0 f1 f2 f3 f4 f5 f8 f9 f10 f11 f12 f13 f14 f15 f16 f17 f18 f19 f20 f21 f22 f23 f24 f25 f26 f27 f28 f29 f30 f31 f32 f33 f34 f35 f36 f37 f38 f39 f54 f55 f56 f57 f58 f59 f60 f61 f62 f63 f64 f65 f66 f67 f68 f69 f70 f71 f72 f73 f74 f75 f76 f77 f78 ds rd I) (fun m s hj => by obtain ⟨v6, v7, h, x40, x41, x42, x43, x44, x45, x46, x47, x48, x49, x50, x51, x52, x53, rfl, hi⟩ := hj; exact hb m v6 v7 h x40 x41 x42 x43 x44 x45 x46 x47 x48 x49 x50 x51 x52 x53 hi) m _ ⟨_, _, h, _, _, _, _, _, _, _, _, _, _, _, _, _, _, rfl, hi⟩
theorem landfallref04_Reader_Num_l0_again {f0 f1 f2 f3 f4 f5 f8 f9 f10 f11 f12 f13 f14 f15 f16 f17 f18 f19 f20 f21 f22 f23 f24 f25 f26 f27 f28 f29 f30 f31 f32 f33 f34 f35 f36 f37 f38 f39 f54 f55 f56 f57 f58 f59 f60 f61 f62 f63 f64 f65 f66 f67 f68 f69 f70 f71 f72 f73 f74 f75 f76 f77 f78 : Value} {ds : List Deferred} {rd : Option Nat} {Q : QP} {I : Nat → Value → Value → Heap → Prop} {m : Nat} (m' : Nat) {v6 v7 : Value} {h : Heap} {x40 x41 x42 x43 x44 x45 x46 x47 x48 x49 x50 x51 x52 x53 : Value} (hm : m' < m) (hi : I m' v6 v7 h) : loopQ (landfallref04_Reader_Num_l0_J f0 f1 f2 f3 f4 f5 f8 f9 f10 f11 f12 f13 f14 f15 f16 f17 f18 f19 f20 f21 f22 f23 f24 f25 f26 f27 f28 f29 f30 f31 f32 f33 f34 f35 f36 f37 f38 f39 f54 f55 f56 f57 f58 f59 f60 f61 f62 f63 f64 f65 f66 f67 f68 f69 f70 f71 f72 f73 f74 f75 f76 f77 f78 ds rd I) m Q .normal ⟨[f0, f1, f2, f3, f4, f5, v6, v7, f8, f9, f10, f11, f12, f13, f14, f15, f16, f17, f18, f19, f20, f21, f22, f23, f24, f25, f26, f27, f28, f29, f30, f31, f32, f33, f34, f35, f36, f37, f38, f39, x40, x41, x42, x43, x44, x45, x46, x47, x48, x49, x50, x51, x52, x53, f54, f55, f56, f57, f58, f59, f60, f61, f62, f63, f64, f65, f66, f67, f68, f69, f70, f71, f72, f73, f74, f75, f76, f77, f78], ds, h, rd⟩ :=
  loopQ.again m' hm ⟨_, _, h, _, _, _, _, _, _, _, _, _, _, _, _, _, _, rfl, hi⟩

/-! 64 (*landfall/landfallref04.Reader).Hash -/
abbrev fn_landfallref04_Reader_Hash : FuncId := 64
noncomputable def landfallref04_Reader_Hash_l0 : ACode :=
  (.seq (.seq (.region [
      ⟨(some 12), .mov (.tmp 5), none, [], false⟩,
      ⟨(some 13), .mov (.tmp 4), none, [], false⟩,
      ⟨(some 14), .lenSl (.tmp 13), none, [], false⟩,
      ⟨(some 15), .bin .lss (so (.binOp .lss 3 (.tmp 12) (.tmp 14) 3) 4) (.tmp 12) (.tmp 14), none, [], false⟩]) (.cond (.tmp 15)
    .skip
    (.exit 0))) (.seq (.block 1 (.region [
      ⟨(some 18), .mov (.tmp 5), none, [], false⟩,
      ⟨(some 19), .mov (.tmp 4), none, [], false⟩,
      ⟨(some 20), .mov (.tmp 5), none, [], false⟩,
      ⟨(some 21), .indexSl 1 (.tmp 19) (.tmp 20), none, [], false⟩,
      ⟨(some 22), .load none (.tmp 21), none, [], false⟩,
      ⟨(some 23), .indexArr 32 1 (.tmp 3) (.tmp 18), none, [], false⟩,
      ⟨none, .store 1 (.tmp 23) (.tmp 22), none, [], false⟩])) (.region [
      ⟨(some 16), .mov (.tmp 5), none, [], false⟩,
      ⟨(some 17), .bin .add (so (.binOp .add 3 (.tmp 16) (.const (.int .i64 1)) 3) 3) (.tmp 16) (.const (.int .i64 1)), none, [], false⟩,
      ⟨(some 5), .mov (.tmp 17), none, [], false⟩])))
noncomputable def landfallref04_Reader_Hash_c : ACode :=
  (.seq (.region [
      ⟨(some 2), .alloc 26 z32, none, [], false⟩]) (.seq (.region [
      ⟨(some 3), .alloc 26 z32, none, [], false⟩]) (.seq (.region [
      ⟨(some 6), .mov (.tmp 0), none, [], false⟩,
      ⟨(some 7), .mov (.tmp 0), none, [], false⟩,
      ⟨(some 8), .nilCheck (.tmp 7), none, [], false⟩,
      ⟨(some 9), .fieldAddr 1 (.tmp 8), none, [], false⟩,
      ⟨(some 10), .load none (.tmp 9), none, [], false⟩,
      ⟨(some 11), .callV (.func 90) [(.tmp 6), (.const (.int .i64 32)), (.tmp 10)], none, [], false⟩,
      ⟨(some 4), .mov (.tmp 11), none, [], false⟩]) (.seq (.seq (.region [
      ⟨(some 5), .mov (.const (.int .i64 0)), none, [], false⟩]) (.block 0 (.loop landfallref04_Reader_Hash_l0))) (.seq (.region [
      ⟨(some 24), .load (some 32) (.tmp 3), none, [], false⟩,
      ⟨none, .store 32 (.tmp 2) (.tmp 24), none, [], false⟩]) .ret)))))
noncomputable def landfallref04_Reader_Hash : AFunc := ⟨25, [(2, some (some 32))], landfallref04_Reader_Hash_c, none⟩
theorem landfallref04_Reader_Hash_t0 : tableOf Try.prog 64 = some landfallref04_Reader_Hash := by kernel_rfl
theorem landfallref04_Reader_Hash_t : T0 64 = some landfallref04_Reader_Hash := withTrue_t rfl landfallref04_Reader_Hash_t0
theorem landfallref04_Reader_Hash_runs {v0 : Value} {h : Heap} {R : RP} {X : XP} (k : RunC Try.prog T0 landfallref04_Reader_Hash_c ⟨[v0, undef, undef, undef, undef, undef, undef, undef, undef, undef, undef, undef, undef, undef, undef, undef, undef, undef, undef, undef, undef, undef, undef, undef, undef], [], h, none⟩ (bodyQ Try.prog T0 [(2, some (some 32))] R X)) :
    Runs Try.prog T0 (.fn 64) [v0] h R X := Runs.fn landfallref04_Reader_Hash_t rfl k
/-- the slots that turn in the loop: v5 -/
noncomputable def landfallref04_Reader_Hash_l0_J (f0 f1 f2 f3 f4 f6 f7 f8 f9 f10 f11 f24 : Value) (ds : List Deferred) (rd : Option Nat) (I : Nat → Value → Heap → Prop) (m : Nat) (s : St) : Prop := ∃ (v5 : Value), ∃ h : Heap, ∃ (x12 x13 x14 x15 x16 x17 x18 x19 x20 x21 x22 x23 : Value), s = ⟨[f0, f1, f2, f3, f4, v5, f6, f7, f8, f9, f10, f11, x12, x13, x14, x15, x16, x17, x18, x19, x20, x21, x22, x23, f24], ds, h, rd⟩ ∧ I m v5 h
theorem landfallref04_Reader_Hash_l0_rule {f0 f1 f2 f3 f4 f6 f7 f8 f9 f10 f11 f24 : Value} {ds : List Deferred} {rd : Option Nat} {Q : QP} (I : Nat → Value → Heap → Prop) (hb : ∀ (m : Nat) (v5 : Value) (h : Heap) (x12 x13 x14 x15 x16 x17 x18 x19 x20 x21 x22 x23 : Value) , I m v5 h → RunC Try.prog T0 landfallref04_Reader_Hash_l0 ⟨[f0, f1, f2, f3, f4, v5, f6, f7, f8, f9, f10, f11, x12, x13, x14, x15, x16, x17, x18, x19, x20, x21, x22, x23, f24], ds, h, rd⟩ (loopQ (landfallref04_Reader_Hash_l0_J f0 f1 f2 f3 f4 f6 f7 f8 f9 f10 f11 f24 ds rd I) m Q))
    (m : Nat) {v5 : Value} {h : Heap} {x12 x13 x14 x15 x16 x17 x18 x19 x20 x21 x22 x23 : Value} (hi : I m v5 h) : RunC Try.prog T0 (.loop landfallref04_Reader_Hash_l0) ⟨[f0, f1, f2, f3, f4, v5, f6, f7, f8, f9, f10, f11, x12, x13, x14, x15, x16, x17, x18, x19, x20, x21, x22, x23, f24], ds, h, rd⟩ Q :=
  RunC.loopJ (landfallref04_Reader_Hash_l0_J f0 f1 f2 f3 f4 f6 f7 f8 f9 f10 f11 f24 ds rd I) (fun m s hj => by obtain ⟨v5, h, x12, x13, x14, x15, x16, x17, x18, x19, x20, x21, x22, x23, rfl, hi⟩ := hj; exact hb m v5 h x12 x13 x14 x15 x16 x17 x18 x19 x20 x21 x22 x23 hi) m _ ⟨_, h, _, _, _, _, _, _, _, _, _, _, _, _, rfl, hi⟩
theorem landfallref04_Reader_Hash_l0_again {f0 f1 f2 f3 f4 f6 f7 f8 f9 f10 f11 f24 : Value} {ds : List Deferred} {rd : Option Nat} {Q : QP} {I : Nat → Value → Heap → Prop} {m : Nat} (m' : Nat) {v5 : Value} {h : Heap} {x12 x13 x14 x15 x16 x17 x18 x19 x20 x21 x22 x23 : Value} (hm : m' < m) (hi : I m' v5 h) : loopQ (landfallref04_Reader_Hash_l0_J f0 f1 f2 f3 f4 f6 f7 f8 f9 f10 f11 f24 ds rd I) m Q .normal ⟨[f0, f1, f2, f3, f4, v5, f6, f7, f8, f9, f10, f11, x12, x13, x14, x15, x16, x17, x18, x19, x20, x21, x22, x23, f24], ds, h, rd⟩ :=
  loopQ.again m' hm ⟨_, h, _, _, _, _, _, _, _, _, _, _, _, _, rfl, hi⟩

/-! 65 (*landfall/wire.Writer).Bytes -/
abbrev fn_wire_Writer_Bytes : FuncId := 65
noncomputable def wire_Writer_Bytes_c : ACode :=
  (.seq (.region [
      ⟨(some 4), .mov (.const (.int .i64 0)), none, [], false⟩]) (.seq (.region [
      ⟨(some 5), .mov (.tmp 0), none, [], false⟩,
      ⟨(some 6), .mov (.tmp 1), none, [], false⟩,
      ⟨(some 7), .lenSl (.tmp 6), none, [], false⟩,
      ⟨(some 8), .callV (.func 67) [(.tmp 7)], none, [], false⟩,
      ⟨(some 9), .mov (.tmp 1), none, [], false⟩,
      ⟨(some 10), .buildSlice 22 [(.slice none 0 0), (.slice none 0 0)] 2 [(0, 1, (.tmp 8)), (1, 1, (.tmp 9))], none, [], false⟩,
      ⟨(some 11), .callV (.func 66) [(.tmp 5), (.const (.bool true)), (.tmp 10)], none, [], false⟩,
      ⟨(some 4), .mov (.tmp 11), none, [], false⟩]) .ret))
noncomputable def wire_Writer_Bytes : AFunc := ⟨12, [(4, none)], wire_Writer_Bytes_c, none⟩
theorem wire_Writer_Bytes_t0 : tableOf Try.prog 65 = some wire_Writer_Bytes := by kernel_rfl
theorem wire_Writer_Bytes_t : T0 65 = some wire_Writer_Bytes := withTrue_t rfl wire_Writer_Bytes_t0
theorem wire_Writer_Bytes_runs {v0 v1 : Value} {h : Heap} {R : RP} {X : XP} (k : RunC Try.prog T0 wire_Writer_Bytes_c ⟨[v0, v1, undef, undef, undef, undef, undef, undef, undef, undef, undef, undef], [], h, none⟩ (bodyQ Try.prog T0 [(4, none)] R X)) :
    Runs Try.prog T0 (.fn 65) [v0, v1] h R X := Runs.fn wire_Writer_Bytes_t rfl k


/-! 66 (*landfall/wire.Writer).put -/
abbrev fn_wire_Writer_put : FuncId := 66
noncomputable def wire_Writer_put_c : ACode :=
  (.seq (.region [
      ⟨(some 6), .mov (.const (.int .i64 0)), none, [], false⟩]) (.seq (.seq (.region [
      ⟨(some 8), .mov (.tmp 0), none, [], false⟩,
      ⟨(some 9), .eq .ptr false (so (.binOp .eql 64 (.tmp 8) (.const (.pointer none)) 64) 4) (.tmp 8) (.const (.pointer none)), none, [], false⟩,
      ⟨(some 10), .mov (.tmp 9), none, [], false⟩,
      ⟨(some 11), .mov (.tmp 0), (some (10, false)), [], false⟩,
      ⟨(some 12), .nilCheck (.tmp 11), (some (10, false)), [], false⟩,
      ⟨(some 13), .fieldAddr 3 (.tmp 12), (some (10, false)), [], false⟩,
      ⟨(some 14), .load none (.tmp 13), (some (10, false)), [], false⟩,
      ⟨(some 15), .raw (so (.unOp .not 4 (.tmp 14)) 4), (some (10, false)), [], false⟩,
      ⟨(some 16), .pick (.tmp 10) (.const (.bool true)) (.tmp 15), none, [], false⟩]) (.cond (.tmp 16)
    (.seq (.region [
      ⟨(some 6), .mov (.const (.int .i64 1)), none, [], false⟩]) .ret)
    .skip)) (.seq (.region [
      ⟨(some 17), .mov (.tmp 2), none, [], false⟩,
      ⟨(some 18), .callV (.func 92) [(.tmp 17)], none, [], false⟩,
      ⟨(some 7), .mov (.tmp 18), none, [], false⟩]) (.seq (.block 0 (.seq (.region [
      ⟨(some 29), .mov (.tmp 0), none, [], false⟩,
      ⟨(some 30), .nilCheck (.tmp 29), none, [], false⟩,
      ⟨(some 31), .fieldAddr 2 (.tmp 30), none, [], false⟩,
      ⟨(some 32), .load none (.tmp 31), none, [], false⟩,
      ⟨(some 33), .bin .neq (so (.binOp .neq 29 (.tmp 32) (.const (.int .i64 0)) 29) 4) (.tmp 32) (.const (.int .i64 0)), none, [], false⟩,
      ⟨(some 28), .mov (.tmp 33), none, [], false⟩]) (.cond (.tmp 28)
    .skip
    (.seq (.region [
      ⟨(some 35), .mov (.tmp 1), none, [], false⟩,
      ⟨(some 36), .raw (so (.unOp .not 4 (.tmp 35)) 4), none, [], false⟩,
      ⟨(some 34), .mov (.tmp 36), none, [], false⟩]) (.cond (.tmp 34)
    (.region [
      ⟨(some 37), .mov (.tmp 0), none, [], false⟩,
      ⟨(some 38), .nilCheck (.tmp 37), none, [], false⟩,
      ⟨(some 39), .fieldAddr 2 (.tmp 38), none, [], false⟩,
      ⟨none, .store 1 (.tmp 39) (.const (.int .i64 3)), none, [], false⟩])
    (.seq (.regionD [
      ⟨(some 41), .mov (.tmp 0), none, [], false⟩,
      ⟨(some 42), .nilCheck (.tmp 41), none, [], false⟩,
      ⟨(some 43), .fieldAddr 1 (.tmp 42), none, [], false⟩,
      ⟨(some 44), .load none (.tmp 43), none, [], false⟩,
      ⟨(some 45), .lenSl (.tmp 44), none, [], false⟩,
      ⟨(some 46), .mov (.tmp 7), none, [], false⟩,
      ⟨(some 47), .lenSl (.tmp 46), none, [], false⟩,
      ⟨(some 48), .bin .add (so (.binOp .add 3 (.tmp 45) (.tmp 47) 3) 3) (.tmp 45) (.tmp 47), none, [], false⟩,
      ⟨(some 49), .mov (.tmp 0), none, [], false⟩,
      ⟨(some 50), .nilCheck (.tmp 49), none, [], false⟩,
      ⟨(some 51), .fieldAddr 0 (.tmp 50), none, [], false⟩,
      ⟨(some 52), .load none (.tmp 51), none, [], false⟩,
      ⟨(some 53), .bin .gtr (so (.binOp .gtr 3 (.tmp 48) (.tmp 52) 3) 4) (.tmp 48) (.tmp 52), none, [], true⟩,
      ⟨(some 40), .mov (.tmp 53), none, [], true⟩]) (.cond (.tmp 40)
    (.region [
      ⟨(some 54), .mov (.tmp 0), none, [], false⟩,
      ⟨(some 55), .nilCheck (.tmp 54), none, [], false⟩,
      ⟨(some 56), .fieldAddr 2 (.tmp 55), none, [], false⟩,
      ⟨none, .store 1 (.tmp 56) (.const (.int .i64 4)), none, [], false⟩])
    (.region [
      ⟨(some 19), .mov (.tmp 0), none, [], false⟩,
      ⟨(some 20), .mov (.tmp 0), none, [], false⟩,
      ⟨(some 21), .nilCheck (.tmp 20), none, [], false⟩,
      ⟨(some 22), .fieldAddr 1 (.tmp 21), none, [], false⟩,
      ⟨(some 23), .load none (.tmp 22), none, [], false⟩,
      ⟨(some 24), .mov (.tmp 7), none, [], false⟩,
      ⟨(some 25), .append 5 1 1 [(.int .u8 0)] false (.tmp 23) (.tmp 24), none, [], false⟩,
      ⟨(some 26), .nilCheck (.tmp 19), none, [], false⟩,
      ⟨(some 27), .fieldAddr 1 (.tmp 26), none, [], false⟩,
      ⟨none, .store 1 (.tmp 27) (.tmp 25), none, [], false⟩])))))))) (.seq (.region [
      ⟨(some 57), .mov (.tmp 0), none, [], false⟩,
      ⟨(some 58), .nilCheck (.tmp 57), none, [], false⟩,
      ⟨(some 59), .fieldAddr 2 (.tmp 58), none, [], false⟩,
      ⟨(some 60), .load none (.tmp 59), none, [], false⟩,
      ⟨(some 6), .mov (.tmp 60), none, [], false⟩]) .ret)))))
noncomputable def wire_Writer_put : AFunc := ⟨61, [(6, none)], wire_Writer_put_c, none⟩
theorem wire_Writer_put_t0 : tableOf Try.prog 66 = some wire_Writer_put := by kernel_rfl
theorem wire_Writer_put_t : T0 66 = some wire_Writer_put := withTrue_t rfl wire_Writer_put_t0
theorem wire_Writer_put_runs {v0 v1 v2 : Value} {h : Heap} {R : RP} {X : XP} (k : RunC Try.prog T0 wire_Writer_put_c ⟨[v0, v1, v2, undef, undef, undef, undef, undef, undef, undef, undef, undef, undef, undef, undef, undef, undef, undef, undef, undef, undef, undef, undef, undef, undef, undef, undef, undef, undef, undef, undef, undef, undef, undef, undef, undef, undef, undef, undef, undef, undef, undef, undef, undef, undef, undef, undef, undef, undef, undef, undef, undef, undef, undef, undef, undef, undef, undef, undef, undef, undef], [], h, none⟩ (bodyQ Try.prog T0 [(6, none)] R X)) :
    Runs Try.prog T0 (.fn 66) [v0, v1, v2] h R X := Runs.fn wire_Writer_put_t rfl k


/-! 67 landfall/wire.number -/
abbrev fn_wire_number : FuncId := 67
noncomputable def wire_number_l0 : ACode :=
  (.seq (.seq (.region [
      ⟨(some 5), .mov (.tmp 0), none, [], false⟩,
      ⟨(some 6), .bin .gtr (so (.binOp .gtr 3 (.tmp 5) (.const (.int .i64 0)) 3) 4) (.tmp 5) (.const (.int .i64 0)), none, [], false⟩]) (.cond (.tmp 6)
    .skip
    (.exit 0))) (.seq (.block 1 (.seq (.region [
      ⟨(some 9), .mov (.tmp 4), none, [], false⟩,
      ⟨(some 10), .bin .sub (so (.binOp .sub 3 (.const (.int .i64 8)) (.tmp 9) 3) 3) (.const (.int .i64 8)) (.tmp 9), none, [], false⟩,
      ⟨(some 11), .mov (.tmp 0), none, [], false⟩,
      ⟨(some 12), .conv .u8 (so (.convert 3 5 (.tmp 11)) 5) (.tmp 11), none, [], false⟩,
      ⟨(some 13), .indexArr 9 1 (.tmp 3) (.tmp 10), none, [], false⟩,
      ⟨none, .store 1 (.tmp 13) (.tmp 12), none, [], false⟩]) (.region [
      ⟨(some 14), .mov (.tmp 4), none, [], false⟩,
      ⟨(some 15), .bin .add (so (.binOp .add 3 (.tmp 14) (.const (.int .i64 1)) 3) 3) (.tmp 14) (.const (.int .i64 1)), none, [], false⟩,
      ⟨(some 4), .mov (.tmp 15), none, [], false⟩]))) (.region [
      ⟨(some 7), .mov (.tmp 0), none, [], false⟩,
      ⟨(some 8), .bin .shr (so (.binOp .shr 3 (.tmp 7) (.const (.int .u64 8)) 104) 3) (.tmp 7) (.const (.int .u64 8)), none, [], false⟩,
      ⟨(some 0), .mov (.tmp 8), none, [], false⟩])))
noncomputable def wire_number_c : ACode :=
  (.seq (.region [
      ⟨(some 2), .mov (.const (.slice none 0 0)), none, [], false⟩]) (.seq (.region [
      ⟨(some 3), .alloc 124 [(.int .u8 0), (.int .u8 0), (.int .u8 0), (.int .u8 0), (.int .u8 0), (.int .u8 0), (.int .u8 0), (.int .u8 0), (.int .u8 0)], none, [], false⟩]) (.seq (.region [
      ⟨(some 4), .mov (.const (.int .i64 0)), none, [], false⟩]) (.seq (.block 0 (.loop wire_number_l0)) (.seq (.region [
      ⟨(some 16), .mov (.tmp 4), none, [], false⟩,
      ⟨(some 17), .bin .sub (so (.binOp .sub 3 (.const (.int .i64 8)) (.tmp 16) 3) 3) (.const (.int .i64 8)) (.tmp 16), none, [], false⟩,
      ⟨(some 18), .mov (.tmp 4), none, [], false⟩,
      ⟨(some 19), .conv .u8 (so (.convert 3 5 (.tmp 18)) 5) (.tmp 18), none, [], false⟩,
      ⟨(some 20), .indexArr 9 1 (.tmp 3) (.tmp 17), none, [], false⟩,
      ⟨none, .store 1 (.tmp 20) (.tmp 19), none, [], false⟩]) (.seq (.region [
      ⟨(some 21), .mov (.tmp 4), none, [], false⟩,
      ⟨(some 22), .bin .sub (so (.binOp .sub 3 (.const (.int .i64 8)) (.tmp 21) 3) 3) (.const (.int .i64 8)) (.tmp 21), none, [], false⟩,
      ⟨(some 23), .sliceArr 9 1 (.tmp 3) (some (.tmp 22)) none, none, [], false⟩,
      ⟨(some 2), .mov (.tmp 23), none, [], false⟩]) .ret))))))
noncomputable def wire_number : AFunc := ⟨24, [(2, none)], wire_number_c, none⟩
theorem wire_number_t0 : tableOf Try.prog 67 = some wire_number := by kernel_rfl
theorem wire_number_t : T0 67 = some wire_number := withTrue_t rfl wire_number_t0
theorem wire_number_runs {v0 : Value} {h : Heap} {R : RP} {X : XP} (k : RunC Try.prog T0 wire_number_c ⟨[v0, undef, undef, undef, undef, undef, undef, undef, undef, undef, undef, undef, undef, undef, undef, undef, undef, undef, undef, undef, undef, undef, undef, undef], [], h, none⟩ (bodyQ Try.prog T0 [(2, none)] R X)) :
    Runs Try.prog T0 (.fn 67) [v0] h R X := Runs.fn wire_number_t rfl k
/-- the slots that turn in the loop: v0 v4 -/
noncomputable def wire_number_l0_J (f1 f2 f3 f16 f17 f18 f19 f20 f21 f22 f23 : Value) (ds : List Deferred) (rd : Option Nat) (I : Nat → Value → Value → Heap → Prop) (m : Nat) (s : St) : Prop := ∃ (v0 v4 : Value), ∃ h : Heap, ∃ (x5 x6 x7 x8 x9 x10 x11 x12 x13 x14 x15 : Value), s = ⟨[v0, f1, f2, f3, v4, x5, x6, x7, x8, x9, x10, x11, x12, x13, x14, x15, f16, f17, f18, f19, f20, f21, f22, f23], ds, h, rd⟩ ∧ I m v0 v4 h
theorem wire_number_l0_rule {f1 f2 f3 f16 f17 f18 f19 f20 f21 f22 f23 : Value} {ds : List Deferred} {rd : Option Nat} {Q : QP} (I : Nat → Value → Value → Heap → Prop) (hb : ∀ (m : Nat) (v0 v4 : Value) (h : Heap) (x5 x6 x7 x8 x9 x10 x11 x12 x13 x14 x15 : Value) , I m v0 v4 h → RunC Try.prog T0 wire_number_l0 ⟨[v0, f1, f2, f3, v4, x5, x6, x7, x8, x9, x10, x11, x12, x13, x14, x15, f16, f17, f18, f19, f20, f21, f22, f23], ds, h, rd⟩ (loopQ (wire_number_l0_J f1 f2 f3 f16 f17 f18 f19 f20 f21 f22 f23 ds rd I) m Q))
    (m : Nat) {v0 v4 : Value} {h : Heap} {x5 x6 x7 x8 x9 x10 x11 x12 x13 x14 x15 : Value} (hi : I m v0 v4 h) : RunC Try.prog T0 (.loop wire_number_l0) ⟨[v0, f1, f2, f3, v4, x5, x6, x7, x8, x9, x10, x11, x12, x13, x14, x15, f16, f17, f18, f19, f20, f21, f22, f23], ds, h, rd⟩ Q :=
  RunC.loopJ (wire_number_l0_J f1 f2 f3 f16 f17 f18 f19 f20 f21 f22 f23 ds rd I) (fun m s hj => by obtain ⟨v0, v4, h, x5, x6, x7, x8, x9, x10, x11, x12, x13, x14, x15, rfl, hi⟩ := hj; exact hb m v0 v4 h x5 x6 x7 x8 x9 x10 x11 x12 x13 x14 x15 hi) m _ ⟨_, _, h, _, _, _, _, _, _, _, _, _, _, _, rfl, hi⟩
theorem wire_number_l0_again {f1 f2 f3 f16 f17 f18 f19 f20 f21 f22 f23 : Value} {ds : List Deferred} {rd : Option Nat} {Q : QP} {I : Nat → Value → Value → Heap → Prop} {m : Nat} (m' : Nat) {v0 v4 : Value} {h : Heap} {x5 x6 x7 x8 x9 x10 x11 x12 x13 x14 x15 : Value} (hm : m' < m) (hi : I m' v0 v4 h) : loopQ (wire_number_l0_J f1 f2 f3 f16 f17 f18 f19 f20 f21 f22 f23 ds rd I) m Q .normal ⟨[v0, f1, f2, f3, v4, x5, x6, x7, x8, x9, x10, x11, x12, x13, x14, x15, f16, f17, f18, f19, f20, f21, f22, f23], ds, h, rd⟩ :=
  loopQ.again m' hm ⟨_, _, h, _, _, _, _, _, _, _, _, _, _, _, rfl, hi⟩

/-! 68 landfall/header.rules$1 -/
abbrev fn_header_rules_1 : FuncId := 68
noncomputable def header_rules_1_c : ACode :=
  (.seq (.region [
      ⟨(some 1), .box 28 (.tmp 0), none, [], false⟩,
      ⟨(some 2), .mov (.const (.bool false)), none, [], false⟩]) (.seq (.region [
      ⟨(some 3), .fieldAddr 0 (.tmp 1), none, [], false⟩,
      ⟨(some 4), .load none (.tmp 3), none, [], false⟩,
      ⟨(some 5), .callV (.func 17) [(.tmp 4)], none, [], false⟩,
      ⟨(some 2), .mov (.tmp 5), none, [], false⟩]) .ret))
noncomputable def header_rules_1 : AFunc := ⟨6, [(2, none)], header_rules_1_c, none⟩
theorem header_rules_1_t0 : tableOf Try.prog 68 = some header_rules_1 := by kernel_rfl
theorem header_rules_1_t : T0 68 = some header_rules_1 := withTrue_t rfl header_rules_1_t0
theorem header_rules_1_runs {v0 : Value} {h : Heap} {R : RP} {X : XP} (k : RunC Try.prog T0 header_rules_1_c ⟨[v0, undef, undef, undef, undef, undef], [], h, none⟩ (bodyQ Try.prog T0 [(2, none)] R X)) :
    Runs Try.prog T0 (.fn 68) [v0] h R X := Runs.fn header_rules_1_t rfl k


/-! 69 landfall/header.rules$2 -/
abbrev fn_header_rules_2 : FuncId := 69
noncomputable def header_rules_2_c : ACode :=
  (.seq (.region [
      ⟨(some 1), .box 28 (.tmp 0), none, [], false⟩,
      ⟨(some 2), .mov (.const (.bool false)), none, [], false⟩]) (.seq (.region [
      ⟨(some 3), .fieldAddr 1 (.tmp 1), none, [], false⟩,
      ⟨(some 4), .load none (.tmp 3), none, [], false⟩,
      ⟨(some 5), .bin .geq (so (.binOp .geq 3 (.tmp 4) (.const (.int .i64 1)) 3) 4) (.tmp 4) (.const (.int .i64 1)), none, [], false⟩,
      ⟨(some 6), .mov (.tmp 5), none, [], false⟩,
      ⟨(some 7), .fieldAddr 1 (.tmp 1), (some (6, true)), [], false⟩,
      ⟨(some 8), .load none (.tmp 7), (some (6, true)), [], false⟩,
      ⟨(some 9), .bin .leq (so (.binOp .leq 3 (.tmp 8) (.const (.int .i64 1073741824)) 3) 4) (.tmp 8) (.const (.int .i64 1073741824)), (some (6, true)), [], false⟩,
      ⟨(some 10), .pick (.tmp 6) (.tmp 9) (.const (.bool false)), none, [], false⟩,
      ⟨(some 2), .mov (.tmp 10), none, [], false⟩]) .ret))
noncomputable def header_rules_2 : AFunc := ⟨11, [(2, none)], header_rules_2_c, none⟩
theorem header_rules_2_t0 : tableOf Try.prog 69 = some header_rules_2 := by kernel_rfl
theorem header_rules_2_t : T0 69 = some header_rules_2 := withTrue_t rfl header_rules_2_t0
theorem header_rules_2_runs {v0 : Value} {h : Heap} {R : RP} {X : XP} (k : RunC Try.prog T0 header_rules_2_c ⟨[v0, undef, undef, undef, undef, undef, undef, undef, undef, undef, undef], [], h, none⟩ (bodyQ Try.prog T0 [(2, none)] R X)) :
    Runs Try.prog T0 (.fn 69) [v0] h R X := Runs.fn header_rules_2_t rfl k


/-! 70 landfall/header.rules$3 -/
abbrev fn_header_rules_3 : FuncId := 70
noncomputable def header_rules_3_c : ACode :=
  (.seq (.region [
      ⟨(some 1), .box 28 (.tmp 0), none, [], false⟩,
      ⟨(some 2), .mov (.const (.bool false)), none, [], false⟩]) (.seq (.region [
      ⟨(some 3), .fieldAddr 2 (.tmp 1), none, [], false⟩,
      ⟨(some 4), .load none (.tmp 3), none, [], false⟩,
      ⟨(some 5), .bin .geq (so (.binOp .geq 3 (.tmp 4) (.const (.int .i64 0)) 3) 4) (.tmp 4) (.const (.int .i64 0)), none, [], false⟩,
      ⟨(some 6), .mov (.tmp 5), none, [], false⟩,
      ⟨(some 7), .fieldAddr 2 (.tmp 1), (some (6, true)), [], false⟩,
      ⟨(some 8), .load none (.tmp 7), (some (6, true)), [], false⟩,
      ⟨(some 9), .bin .leq (so (.binOp .leq 3 (.tmp 8) (.const (.int .i64 1099511627776)) 3) 4) (.tmp 8) (.const (.int .i64 1099511627776)), (some (6, true)), [], false⟩,
      ⟨(some 10), .pick (.tmp 6) (.tmp 9) (.const (.bool false)), none, [], false⟩,
      ⟨(some 2), .mov (.tmp 10), none, [], false⟩]) .ret))
noncomputable def header_rules_3 : AFunc := ⟨11, [(2, none)], header_rules_3_c, none⟩
theorem header_rules_3_t0 : tableOf Try.prog 70 = some header_rules_3 := by kernel_rfl
theorem header_rules_3_t : T0 70 = some header_rules_3 := withTrue_t rfl header_rules_3_t0
theorem header_rules_3_runs {v0 : Value} {h : Heap} {R : RP} {X : XP} (k : RunC Try.prog T0 header_rules_3_c ⟨[v0, undef, undef, undef, undef, undef, undef, undef, undef, undef, undef], [], h, none⟩ (bodyQ Try.prog T0 [(2, none)] R X)) :
    Runs Try.prog T0 (.fn 70) [v0] h R X := Runs.fn header_rules_3_t rfl k


/-! 81 landfall/wire.reads[[]byte] -/
abbrev fn_wire_reads___byte_ : FuncId := 81
noncomputable def wire_reads___byte__c : ACode :=
  (.seq (.region [
      ⟨(some 4), .mov (.const (.slice none 0 0)), none, [], false⟩]) (.seq (.seq (.region [
      ⟨(some 5), .mov (.tmp 0), none, [], false⟩,
      ⟨(some 6), .eq .ptr false (so (.binOp .eql 51 (.tmp 5) (.const (.pointer none)) 51) 4) (.tmp 5) (.const (.pointer none)), none, [], false⟩,
      ⟨(some 7), .mov (.tmp 6), none, [], false⟩,
      ⟨(some 8), .mov (.tmp 0), (some (7, false)), [], false⟩,
      ⟨(some 9), .nilCheck (.tmp 8), (some (7, false)), [], false⟩,
      ⟨(some 10), .fieldAddr 4 (.tmp 9), (some (7, false)), [], false⟩,
      ⟨(some 11), .load none (.tmp 10), (some (7, false)), [], false⟩,
      ⟨(some 12), .raw (so (.unOp .not 4 (.tmp 11)) 4), (some (7, false)), [], false⟩,
      ⟨(some 13), .pick (.tmp 7) (.const (.bool true)) (.tmp 12), none, [], false⟩,
      ⟨(some 14), .mov (.tmp 13), none, [], false⟩,
      ⟨(some 15), .mov (.tmp 0), (some (14, false)), [], false⟩,
      ⟨(some 16), .nilCheck (.tmp 15), (some (14, false)), [], false⟩,
      ⟨(some 17), .fieldAddr 2 (.tmp 16), (some (14, false)), [], false⟩,
      ⟨(some 18), .fieldAddr 0 (.tmp 17), (some (14, false)), [], false⟩,
      ⟨(some 19), .load none (.tmp 18), (some (14, false)), [], false⟩,
      ⟨(some 20), .bin .neq (so (.binOp .neq 29 (.tmp 19) (.const (.int .i64 0)) 29) 4) (.tmp 19) (.const (.int .i64 0)), (some (14, false)), [], false⟩,
      ⟨(some 21), .pick (.tmp 14) (.const (.bool true)) (.tmp 20), none, [], false⟩]) (.cond (.tmp 21)
    (.seq (.region [
      ⟨(some 22), .mov (.tmp 4), none, [], false⟩,
      ⟨(some 4), .mov (.tmp 22), none, [], false⟩]) .ret)
    .skip)) (.seq (.region [
      ⟨(some 23), .mov (.tmp 0), none, [], false⟩,
      ⟨none, .defer (.func 85) [(.tmp 23)], none, [], false⟩]) (.seq (.region [
      ⟨(some 24), .mov (.tmp 1), none, [], false⟩,
      ⟨(some 25), .mov (.tmp 0), none, [], false⟩,
      ⟨(some 26), .nilCheck (.tmp 25), none, [], false⟩,
      ⟨(some 27), .fieldAddr 1 (.tmp 26), none, [], false⟩,
      ⟨(some 28), .load none (.tmp 27), none, [], false⟩,
      ⟨(some 29), .callV (.tmp 24) [(.tmp 28)], none, [], false⟩,
      ⟨(some 4), .mov (.tmp 29), none, [], false⟩]) .ret))))
noncomputable def wire_reads___byte_ : AFunc := ⟨30, [(4, none)], wire_reads___byte__c, none⟩
theorem wire_reads___byte__t0 : tableOf Try.prog 81 = some wire_reads___byte_ := by kernel_rfl
theorem wire_reads___byte__t : T0 81 = some wire_reads___byte_ := withTrue_t rfl wire_reads___byte__t0
theorem wire_reads___byte__runs {v0 v1 : Value} {h : Heap} {R : RP} {X : XP} (k : RunC Try.prog T0 wire_reads___byte__c ⟨[v0, v1, undef, undef, undef, undef, undef, undef, undef, undef, undef, undef, undef, undef, undef, undef, undef, undef, undef, undef, undef, undef, undef, undef, undef, undef, undef, undef, undef, undef], [], h, none⟩ (bodyQ Try.prog T0 [(4, none)] R X)) :
    Runs Try.prog T0 (.fn 81) [v0, v1] h R X := Runs.fn wire_reads___byte__t rfl k


/-! 82 (*landfall/wire.Reader).Bytes$1 -/
abbrev fn_wire_Reader_Bytes_1 : FuncId := 82
noncomputable def wire_Reader_Bytes_1_c : ACode :=
  (.seq (.region [
      ⟨(some 4), .mov (.const (.slice none 0 0)), none, [], false⟩]) (.seq (.region [
      ⟨(some 6), .load none (.tmp 1), none, [], false⟩,
      ⟨(some 7), .mov (.tmp 0), none, [], false⟩,
      ⟨(some 8), .callV (.func 57) [(.tmp 6), (.tmp 7)], none, [], false⟩,
      ⟨(some 5), .mov (.tmp 8), none, [], false⟩]) (.seq (.region [
      ⟨(some 9), .mov (.tmp 5), none, [], false⟩,
      ⟨(some 10), .load none (.tmp 2), none, [], false⟩,
      ⟨(some 11), .raw (so (.call ⟨.builtin .max, #[(.tmp 10), (.const (.int .i64 0))], #[3, 3]⟩) 3), none, [], false⟩,
      ⟨(some 12), .bin .leq (so (.binOp .leq 3 (.tmp 9) (.tmp 11) 3) 4) (.tmp 9) (.tmp 11), none, [], false⟩,
      ⟨(some 13), .mov (.tmp 0), none, [], false⟩,
      ⟨(some 14), .callV (.func 83) [(.tmp 12), (.const (.int .i64 4)), (.tmp 13)], none, [], false⟩]) (.seq (.region [
      ⟨(some 15), .load none (.tmp 1), none, [], false⟩,
      ⟨(some 16), .mov (.tmp 5), none, [], false⟩,
      ⟨(some 17), .mov (.tmp 0), none, [], false⟩,
      ⟨(some 18), .callV (.func 84) [(.tmp 15), (.tmp 16), (.tmp 17), (.func 54)], none, [], false⟩,
      ⟨(some 4), .mov (.tmp 18), none, [], false⟩]) .ret))))
noncomputable def wire_Reader_Bytes_1 : AFunc := ⟨19, [(4, none)], wire_Reader_Bytes_1_c, none⟩
theorem wire_Reader_Bytes_1_t0 : tableOf Try.prog 82 = some wire_Reader_Bytes_1 := by kernel_rfl
theorem wire_Reader_Bytes_1_t : T0 82 = some wire_Reader_Bytes_1 := withTrue_t rfl wire_Reader_Bytes_1_t0
theorem wire_Reader_Bytes_1_runs {v0 v1 v2 : Value} {h : Heap} {R : RP} {X : XP} (k : RunC Try.prog T0 wire_Reader_Bytes_1_c ⟨[v0, v1, v2, undef, undef, undef, undef, undef, undef, undef, undef, undef, undef, undef, undef, undef, undef, undef, undef], [], h, none⟩ (bodyQ Try.prog T0 [(4, none)] R X)) :
    Runs Try.prog T0 (.fn 82) [v0, v1, v2] h R X := Runs.fn wire_Reader_Bytes_1_t rfl k


/-! 83 landfall/wire.must -/
abbrev fn_wire_must : FuncId := 83
noncomputable def wire_must_c : ACode :=
  (.seq (.region [
      ⟨(some 6), .mov (.tmp 0), none, [], false⟩,
      ⟨(some 7), .raw (so (.unOp .not 4 (.tmp 6)) 4), none, [], false⟩]) (.cond (.tmp 7)
    (.region [
      ⟨(some 8), .mov (.tmp 1), none, [], false⟩,
      ⟨(some 9), .mov (.tmp 2), none, [], false⟩,
      ⟨(some 10), .build [(.int .i64 0), (.int .i64 0)] [(0, 1, (.tmp 8)), (1, 1, (.tmp 9))], none, [], false⟩,
      ⟨(some 11), .build [(.int .i64 0), (.int .i64 0)] [(0, 2, (.tmp 10))], none, [], false⟩,
      ⟨(some 12), .mkIface 137 (.tmp 11), none, [], false⟩,
      ⟨none, .panic (.tmp 12), none, [], false⟩])
    .skip))
noncomputable def wire_must : AFunc := ⟨13, [], wire_must_c, none⟩
theorem wire_must_t0 : tableOf Try.prog 83 = some wire_must := by kernel_rfl
theorem wire_must_t : T0 83 = some wire_must := withTrue_t rfl wire_must_t0
theorem wire_must_runs {v0 v1 v2 : Value} {h : Heap} {R : RP} {X : XP} (k : RunC Try.prog T0 wire_must_c ⟨[v0, v1, v2, undef, undef, undef, undef, undef, undef, undef, undef, undef, undef], [], h, none⟩ (bodyQ Try.prog T0 [] R X)) :
    Runs Try.prog T0 (.fn 83) [v0, v1, v2] h R X := Runs.fn wire_must_t rfl k


/-! 84 landfall/wire.take[[]byte] -/
abbrev fn_wire_take___byte_ : FuncId := 84
noncomputable def wire_take___byte__c : ACode :=
  (.seq (.region [
      ⟨(some 8), .mov (.const (.slice none 0 0)), none, [], false⟩]) (.seq (.regionD [
      ⟨(some 9), .mov (.tmp 1), none, [], false⟩,
      ⟨(some 10), .mov (.tmp 0), none, [], false⟩,
      ⟨(some 11), .nilCheck (.tmp 10), none, [], false⟩,
      ⟨(some 12), .fieldAddr 0 (.tmp 11), none, [], false⟩,
      ⟨(some 13), .load none (.tmp 12), none, [], false⟩,
      ⟨(some 14), .lenSl (.tmp 13), none, [], false⟩,
      ⟨(some 15), .mov (.tmp 0), none, [], false⟩,
      ⟨(some 16), .nilCheck (.tmp 15), none, [], false⟩,
      ⟨(some 17), .fieldAddr 1 (.tmp 16), none, [], false⟩,
      ⟨(some 18), .load none (.tmp 17), none, [], false⟩,
      ⟨(some 19), .bin .sub (so (.binOp .sub 3 (.tmp 14) (.tmp 18) 3) 3) (.tmp 14) (.tmp 18), none, [], false⟩,
      ⟨(some 20), .bin .leq (so (.binOp .leq 3 (.tmp 9) (.tmp 19) 3) 4) (.tmp 9) (.tmp 19), none, [], false⟩,
      ⟨(some 21), .mov (.tmp 2), none, [], false⟩,
      ⟨(some 22), .callV (.func 83) [(.tmp 20), (.const (.int .i64 6)), (.tmp 21)], none, [], true⟩]) (.seq (.region [
      ⟨(some 23), .mov (.tmp 0), none, [], false⟩,
      ⟨(some 24), .nilCheck (.tmp 23), none, [], false⟩,
      ⟨(some 25), .fieldAddr 1 (.tmp 24), none, [], false⟩,
      ⟨(some 26), .load none (.tmp 25), none, [], false⟩,
      ⟨(some 27), .mov (.tmp 1), none, [], false⟩,
      ⟨(some 28), .bin .add (so (.binOp .add 3 (.tmp 26) (.tmp 27) 3) 3) (.tmp 26) (.tmp 27), none, [], false⟩,
      ⟨(some 29), .nilCheck (.tmp 23), none, [], false⟩,
      ⟨(some 30), .fieldAddr 1 (.tmp 29), none, [], false⟩,
      ⟨none, .store 1 (.tmp 30) (.tmp 28), none, [], false⟩]) (.seq (.regionD [
      ⟨(some 31), .mov (.tmp 3), none, [], false⟩,
      ⟨(some 32), .mov (.tmp 0), none, [], false⟩,
      ⟨(some 33), .nilCheck (.tmp 32), none, [], false⟩,
      ⟨(some 34), .fieldAddr 0 (.tmp 33), none, [], false⟩,
      ⟨(some 35), .load none (.tmp 34), none, [], false⟩,
      ⟨(some 36), .mov (.tmp 0), none, [], false⟩,
      ⟨(some 37), .nilCheck (.tmp 36), none, [], false⟩,
      ⟨(some 38), .fieldAddr 1 (.tmp 37), none, [], false⟩,
      ⟨(some 39), .load none (.tmp 38), none, [], false⟩,
      ⟨(some 40), .mov (.tmp 1), none, [], false⟩,
      ⟨(some 41), .bin .sub (so (.binOp .sub 3 (.tmp 39) (.tmp 40) 3) 3) (.tmp 39) (.tmp 40), none, [], false⟩,
      ⟨(some 42), .mov (.tmp 0), none, [], false⟩,
      ⟨(some 43), .nilCheck (.tmp 42), none, [], false⟩,
      ⟨(some 44), .fieldAddr 1 (.tmp 43), none, [], false⟩,
      ⟨(some 45), .load none (.tmp 44), none, [], false⟩,
      ⟨(some 46), .sliceSl 1 (.tmp 35) (some (.tmp 41)) (some (.tmp 45)) none, none, [], false⟩,
      ⟨(some 47), .callV (.tmp 31) [(.tmp 46)], none, [], true⟩,
      ⟨(some 8), .mov (.tmp 47), none, [], true⟩]) .ret))))
noncomputable def wire_take___byte_ : AFunc := ⟨48, [(8, none)], wire_take___byte__c, none⟩
theorem wire_take___byte__t0 : tableOf Try.prog 84 = some wire_take___byte_ := by kernel_rfl
theorem wire_take___byte__t : T0 84 = some wire_take___byte_ := withTrue_t rfl wire_take___byte__t0
theorem wire_take___byte__runs {v0 v1 v2 v3 : Value} {h : Heap} {R : RP} {X : XP} (k : RunC Try.prog T0 wire_take___byte__c ⟨[v0, v1, v2, v3, undef, undef, undef, undef, undef, undef, undef, undef, undef, undef, undef, undef, undef, undef, undef, undef, undef, undef, undef, undef, undef, undef, undef, undef, undef, undef, undef, undef, undef, undef, undef, undef, undef, undef, undef, undef, undef, undef, undef, undef, undef, undef, undef, undef], [], h, none⟩ (bodyQ Try.prog T0 [(8, none)] R X)) :
    Runs Try.prog T0 (.fn 84) [v0, v1, v2, v3] h R X := Runs.fn wire_take___byte__t rfl k


/-! 85 (*landfall/wire.Reader).caught -/
abbrev fn_wire_Reader_caught : FuncId := 85
noncomputable def wire_Reader_caught_c : ACode :=
  (.seq (.region [
      ⟨(some 5), .recover, none, [], false⟩,
      ⟨(some 2), .mov (.tmp 5), none, [], false⟩]) (.seq (.region [
      ⟨(some 6), .mov (.tmp 2), none, [], false⟩,
      ⟨(some 7), .eq .iface true (so (.binOp .neq 20 (.tmp 6) (.const .nilIface) 20) 4) (.tmp 6) (.const .nilIface), none, [], false⟩]) (.cond (.tmp 7)
    (.seq (.region [
      ⟨(some 9), .mov (.tmp 2), none, [], false⟩,
      ⟨(some 10), .assertTo 137 (.agg ⟨[(.int .i64 0), (.int .i64 0)]⟩) true (.tmp 9), none, [], false⟩,
      ⟨(some 8), .mov (.tmp 10), none, [], false⟩,
      ⟨(some 11), .extract 0 (.tmp 8), none, [], false⟩,
      ⟨(some 12), .extract 1 (.tmp 8), none, [], false⟩,
      ⟨(some 3), .alloc 137 [(.int .i64 0), (.int .i64 0)], none, [], false⟩,
      ⟨none, .store 2 (.tmp 3) (.tmp 11), none, [], false⟩,
      ⟨(some 4), .mov (.tmp 12), none, [], false⟩]) (.seq (.seq (.region [
      ⟨(some 13), .mov (.tmp 4), none, [], false⟩,
      ⟨(some 14), .raw (so (.unOp .not 4 (.tmp 13)) 4), none, [], false⟩]) (.cond (.tmp 14)
    (.region [
      ⟨(some 15), .mov (.tmp 2), none, [], false⟩,
      ⟨none, .panic (.tmp 15), none, [], false⟩])
    .skip)) (.region [
      ⟨(some 16), .mov (.tmp 0), none, [], false⟩,
      ⟨(some 17), .fieldAddr 0 (.tmp 3), none, [], false⟩,
      ⟨(some 18), .load (some 2) (.tmp 17), none, [], false⟩,
      ⟨(some 19), .nilCheck (.tmp 16), none, [], false⟩,
      ⟨(some 20), .fieldAddr 2 (.tmp 19), none, [], false⟩,
      ⟨none, .store 2 (.tmp 20) (.tmp 18), none, [], false⟩])))
    .skip)))
noncomputable def wire_Reader_caught : AFunc := ⟨21, [], wire_Reader_caught_c, none⟩
theorem wire_Reader_caught_t0 : tableOf Try.prog 85 = some wire_Reader_caught := by kernel_rfl
theorem wire_Reader_caught_t : T0 85 = some wire_Reader_caught := withTrue_t rfl wire_Reader_caught_t0
theorem wire_Reader_caught_runs {v0 : Value} {h : Heap} {R : RP} {X : XP} (k : RunC Try.prog T0 wire_Reader_caught_c ⟨[v0, undef, undef, undef, undef, undef, undef, undef, undef, undef, undef, undef, undef, undef, undef, undef, undef, undef, undef, undef, undef], [], h, none⟩ (bodyQ Try.prog T0 [] R X)) :
    Runs Try.prog T0 (.fn 85) [v0] h R X := Runs.fn wire_Reader_caught_t rfl k
theorem wire_Reader_caught_df {v0 : Value} {u : FrameMode} {h : Heap} {R : FrameMode → Heap → Prop} {X : List PanicEntry → FrameMode → Heap → Prop} (k : RunT Try.prog T0 wire_Reader_caught_c ⟨⟨[v0, undef, undef, undef, undef, undef, undef, undef, undef, undef, undef, undef, undef, undef, undef, undef, undef, undef, undef, undef, undef], [], h, none⟩, u⟩ (doneQ [] R X)) :
    RunDf Try.prog T0 85 [v0] u h R X := RunDf.fn wire_Reader_caught_t rfl k


/-! 86 landfall/wire.take[uint64] -/
abbrev fn_wire_take_uint64_ : FuncId := 86
noncomputable def wire_take_uint64__c : ACode :=
  (.seq (.region [
      ⟨(some 8), .mov (.const (.int .u64 0)), none, [], false⟩]) (.seq (.regionD [
      ⟨(some 9), .mov (.tmp 1), none, [], false⟩,
      ⟨(some 10), .mov (.tmp 0), none, [], false⟩,
      ⟨(some 11), .nilCheck (.tmp 10), none, [], false⟩,
      ⟨(some 12), .fieldAddr 0 (.tmp 11), none, [], false⟩,
      ⟨(some 13), .load none (.tmp 12), none, [], false⟩,
      ⟨(some 14), .lenSl (.tmp 13), none, [], false⟩,
      ⟨(some 15), .mov (.tmp 0), none, [], false⟩,
      ⟨(some 16), .nilCheck (.tmp 15), none, [], false⟩,
      ⟨(some 17), .fieldAddr 1 (.tmp 16), none, [], false⟩,
      ⟨(some 18), .load none (.tmp 17), none, [], false⟩,
      ⟨(some 19), .bin .sub (so (.binOp .sub 3 (.tmp 14) (.tmp 18) 3) 3) (.tmp 14) (.tmp 18), none, [], false⟩,
      ⟨(some 20), .bin .leq (so (.binOp .leq 3 (.tmp 9) (.tmp 19) 3) 4) (.tmp 9) (.tmp 19), none, [], false⟩,
      ⟨(some 21), .mov (.tmp 2), none, [], false⟩,
      ⟨(some 22), .callV (.func 83) [(.tmp 20), (.const (.int .i64 6)), (.tmp 21)], none, [], true⟩]) (.seq (.region [
      ⟨(some 23), .mov (.tmp 0), none, [], false⟩,
      ⟨(some 24), .nilCheck (.tmp 23), none, [], false⟩,
      ⟨(some 25), .fieldAddr 1 (.tmp 24), none, [], false⟩,
      ⟨(some 26), .load none (.tmp 25), none, [], false⟩,
      ⟨(some 27), .mov (.tmp 1), none, [], false⟩,
      ⟨(some 28), .bin .add (so (.binOp .add 3 (.tmp 26) (.tmp 27) 3) 3) (.tmp 26) (.tmp 27), none, [], false⟩,
      ⟨(some 29), .nilCheck (.tmp 23), none, [], false⟩,
      ⟨(some 30), .fieldAddr 1 (.tmp 29), none, [], false⟩,
      ⟨none, .store 1 (.tmp 30) (.tmp 28), none, [], false⟩]) (.seq (.regionD [
      ⟨(some 31), .mov (.tmp 3), none, [], false⟩,
      ⟨(some 32), .mov (.tmp 0), none, [], false⟩,
      ⟨(some 33), .nilCheck (.tmp 32), none, [], false⟩,
      ⟨(some 34), .fieldAddr 0 (.tmp 33), none, [], false⟩,
      ⟨(some 35), .load none (.tmp 34), none, [], false⟩,
      ⟨(some 36), .mov (.tmp 0), none, [], false⟩,
      ⟨(some 37), .nilCheck (.tmp 36), none, [], false⟩,
      ⟨(some 38), .fieldAddr 1 (.tmp 37), none, [], false⟩,
      ⟨(some 39), .load none (.tmp 38), none, [], false⟩,
      ⟨(some 40), .mov (.tmp 1), none, [], false⟩,
      ⟨(some 41), .bin .sub (so (.binOp .sub 3 (.tmp 39) (.tmp 40) 3) 3) (.tmp 39) (.tmp 40), none, [], false⟩,
      ⟨(some 42), .mov (.tmp 0), none, [], false⟩,
      ⟨(some 43), .nilCheck (.tmp 42), none, [], false⟩,
      ⟨(some 44), .fieldAddr 1 (.tmp 43), none, [], false⟩,
      ⟨(some 45), .load none (.tmp 44), none, [], false⟩,
      ⟨(some 46), .sliceSl 1 (.tmp 35) (some (.tmp 41)) (some (.tmp 45)) none, none, [], false⟩,
      ⟨(some 47), .callV (.tmp 31) [(.tmp 46)], none, [], true⟩,
      ⟨(some 8), .mov (.tmp 47), none, [], true⟩]) .ret))))
noncomputable def wire_take_uint64_ : AFunc := ⟨48, [(8, none)], wire_take_uint64__c, none⟩
theorem wire_take_uint64__t0 : tableOf Try.prog 86 = some wire_take_uint64_ := by kernel_rfl
theorem wire_take_uint64__t : T0 86 = some wire_take_uint64_ := withTrue_t rfl wire_take_uint64__t0
theorem wire_take_uint64__runs {v0 v1 v2 v3 : Value} {h : Heap} {R : RP} {X : XP} (k : RunC Try.prog T0 wire_take_uint64__c ⟨[v0, v1, v2, v3, undef, undef, undef, undef, undef, undef, undef, undef, undef, undef, undef, undef, undef, undef, undef, undef, undef, undef, undef, undef, undef, undef, undef, undef, undef, undef, undef, undef, undef, undef, undef, undef, undef, undef, undef, undef, undef, undef, undef, undef, undef, undef, undef, undef], [], h, none⟩ (bodyQ Try.prog T0 [(8, none)] R X)) :
    Runs Try.prog T0 (.fn 86) [v0, v1, v2, v3] h R X := Runs.fn wire_take_uint64__t rfl k


/-! 87 landfall/wire.big -/
abbrev fn_wire_big : FuncId := 87
noncomputable def wire_big_l0 : ACode :=
  (.seq (.region [
      ⟨(some 8), .bin .lss (so (.binOp .lss 3 (.tmp 7) (.tmp 6) 3) 0) (.tmp 7) (.tmp 6), none, [], false⟩]) (.seq (.cond (.tmp 8)
    .skip
    (.exit 0)) (.seq (.block 1 (.seq (.region [
      ⟨(some 9), .indexSl 1 (.tmp 5) (.tmp 7), none, [], false⟩,
      ⟨(some 10), .load none (.tmp 9), none, [], false⟩,
      ⟨(some 4), .mov (.tmp 10), none, [], false⟩]) (.region [
      ⟨(some 11), .mov (.tmp 2), none, [], false⟩,
      ⟨(some 12), .bin .shl (so (.binOp .shl 117 (.tmp 11) (.const (.int .u64 8)) 104) 117) (.tmp 11) (.const (.int .u64 8)), none, [], false⟩,
      ⟨(some 13), .mov (.tmp 4), none, [], false⟩,
      ⟨(some 14), .conv .u64 (so (.convert 5 117 (.tmp 13)) 117) (.tmp 13), none, [], false⟩,
      ⟨(some 15), .bin .or (so (.binOp .or 117 (.tmp 12) (.tmp 14) 117) 117) (.tmp 12) (.tmp 14), none, [], false⟩,
      ⟨(some 2), .mov (.tmp 15), none, [], false⟩]))) (.region [
      ⟨(some 16), .bin .add (so (.binOp .add 3 (.tmp 7) (.const (.int .i64 1)) 3) 3) (.tmp 7) (.const (.int .i64 1)), none, [], false⟩,
      ⟨(some 7), .mov (.tmp 16), none, [], false⟩]))))
noncomputable def wire_big_c : ACode :=
  (.seq (.region [
      ⟨(some 2), .mov (.const (.int .u64 0)), none, [], false⟩]) (.seq (.seq (.region [
      ⟨(some 5), .mov (.tmp 0), none, [], false⟩,
      ⟨(some 6), .lenSl (.tmp 5), none, [], false⟩,
      ⟨(some 7), .mov (.const (.int .i64 0)), none, [], false⟩]) (.block 0 (.loop wire_big_l0))) (.seq (.region [
      ⟨(some 17), .mov (.tmp 2), none, [], false⟩,
      ⟨(some 2), .mov (.tmp 17), none, [], false⟩]) .ret)))
noncomputable def wire_big : AFunc := ⟨18, [(2, none)], wire_big_c, none⟩
theorem wire_big_t0 : tableOf Try.prog 87 = some wire_big := by kernel_rfl
theorem wire_big_t : T0 87 = some wire_big := withTrue_t rfl wire_big_t0
theorem wire_big_runs {v0 : Value} {h : Heap} {R : RP} {X : XP} (k : RunC Try.prog T0 wire_big_c ⟨[v0, undef, undef, undef, undef, undef, undef, undef, undef, undef, undef, undef, undef, undef, undef, undef, undef, undef], [], h, none⟩ (bodyQ Try.prog T0 [(2, none)] R X)) :
    Runs Try.prog T0 (.fn 87) [v0] h R X := Runs.fn wire_big_t rfl k
/-- the slots that turn in the loop: v2 v7 -/
noncomputable def wire_big_l0_J (f0 f1 f3 f5 f6 f17 : Value) (ds : List Deferred) (rd : Option Nat) (I : Nat → Value → Value → Heap → Prop) (m : Nat) (s : St) : Prop := ∃ (v2 v7 : Value), ∃ h : Heap, ∃ (x4 x8 x9 x10 x11 x12 x13 x14 x15 x16 : Value), s = ⟨[f0, f1, v2, f3, x4, f5, f6, v7, x8, x9, x10, x11, x12, x13, x14, x15, x16, f17], ds, h, rd⟩ ∧ I m v2 v7 h
theorem wire_big_l0_rule {f0 f1 f3 f5 f6 f17 : Value} {ds : List Deferred} {rd : Option Nat} {Q : QP} (I : Nat → Value → Value → Heap → Prop) (hb : ∀ (m : Nat) (v2 v7 : Value) (h : Heap) (x4 x8 x9 x10 x11 x12 x13 x14 x15 x16 : Value) , I m v2 v7 h → RunC Try.prog T0 wire_big_l0 ⟨[f0, f1, v2, f3, x4, f5, f6, v7, x8, x9, x10, x11, x12, x13, x14, x15, x16, f17], ds, h, rd⟩ (loopQ (wire_big_l0_J f0 f1 f3 f5 f6 f17 ds rd I) m Q))
    (m : Nat) {v2 v7 : Value} {h : Heap} {x4 x8 x9 x10 x11 x12 x13 x14 x15 x16 : Value} (hi : I m v2 v7 h) : RunC Try.prog T0 (.loop wire_big_l0) ⟨[f0, f1, v2, f3, x4, f5, f6, v7, x8, x9, x10, x11, x12, x13, x14, x15, x16, f17], ds, h, rd⟩ Q :=
  RunC.loopJ (wire_big_l0_J f0 f1 f3 f5 f6 f17 ds rd I) (fun m s hj => by obtain ⟨v2, v7, h, x4, x8, x9, x10, x11, x12, x13, x14, x15, x16, rfl, hi⟩ := hj; exact hb m v2 v7 h x4 x8 x9 x10 x11 x12 x13 x14 x15 x16 hi) m _ ⟨_, _, h, _, _, _, _, _, _, _, _, _, _, rfl, hi⟩
theorem wire_big_l0_again {f0 f1 f3 f5 f6 f17 : Value} {ds : List Deferred} {rd : Option Nat} {Q : QP} {I : Nat → Value → Value → Heap → Prop} {m : Nat} (m' : Nat) {v2 v7 : Value} {h : Heap} {x4 x8 x9 x10 x11 x12 x13 x14 x15 x16 : Value} (hm : m' < m) (hi : I m' v2 v7 h) : loopQ (wire_big_l0_J f0 f1 f3 f5 f6 f17 ds rd I) m Q .normal ⟨[f0, f1, v2, f3, x4, f5, f6, v7, x8, x9, x10, x11, x12, x13, x14, x15, x16, f17], ds, h, rd⟩ :=
  loopQ.again m' hm ⟨_, _, h, _, _, _, _, _, _, _, _, _, _, rfl, hi⟩

/-! 88 (*landfall/wire.Reader).num$1 -/
abbrev fn_wire_Reader_num_1 : FuncId := 88
noncomputable def wire_Reader_num_1_c : ACode :=
  (.seq (.region [
      ⟨(some 4), .mov (.const (.int .u64 0)), none, [], false⟩]) (.seq (.seq (.region [
      ⟨(some 5), .load none (.tmp 1), none, [], false⟩,
      ⟨(some 6), .bin .gtr (so (.binOp .gtr 3 (.tmp 5) (.const (.int .i64 0)) 3) 4) (.tmp 5) (.const (.int .i64 0)), none, [], false⟩]) (.cond (.tmp 6)
    (.region [
      ⟨(some 7), .mov (.tmp 0), none, [], false⟩,
      ⟨(some 8), .indexSl 1 (.tmp 7) (.const (.int .i64 0)), none, [], false⟩,
      ⟨(some 9), .load none (.tmp 8), none, [], false⟩,
      ⟨none, .store 1 (.tmp 2) (.tmp 9), none, [], false⟩])
    .skip)) (.seq (.region [
      ⟨(some 10), .mov (.tmp 0), none, [], false⟩,
      ⟨(some 11), .callV (.func 87) [(.tmp 10)], none, [], false⟩,
      ⟨(some 4), .mov (.tmp 11), none, [], false⟩]) .ret)))
noncomputable def wire_Reader_num_1 : AFunc := ⟨12, [(4, none)], wire_Reader_num_1_c, none⟩
theorem wire_Reader_num_1_t0 : tableOf Try.prog 88 = some wire_Reader_num_1 := by kernel_rfl
theorem wire_Reader_num_1_t : T0 88 = some wire_Reader_num_1 := withTrue_t rfl wire_Reader_num_1_t0
theorem wire_Reader_num_1_runs {v0 v1 v2 : Value} {h : Heap} {R : RP} {X : XP} (k : RunC Try.prog T0 wire_Reader_num_1_c ⟨[v0, v1, v2, undef, undef, undef, undef, undef, undef, undef, undef, undef], [], h, none⟩ (bodyQ Try.prog T0 [(4, none)] R X)) :
    Runs Try.prog T0 (.fn 88) [v0, v1, v2] h R X := Runs.fn wire_Reader_num_1_t rfl k


/-! 89 (*landfall/landfallref04.Reader).Bytes -/
abbrev fn_landfallref04_Reader_Bytes : FuncId := 89
noncomputable def landfallref04_Reader_Bytes_c : ACode :=
  (.seq (.region [
      ⟨(some 4), .mov (.const (.slice none 0 0)), none, [], false⟩]) (.seq (.region [
      ⟨(some 7), .mov (.tmp 0), none, [], false⟩,
      ⟨(some 8), .nilCheck (.tmp 7), none, [], false⟩,
      ⟨(some 9), .fieldAddr 1 (.tmp 8), none, [], false⟩,
      ⟨(some 10), .load none (.tmp 9), none, [], false⟩,
      ⟨(some 5), .mov (.tmp 10), none, [], false⟩]) (.seq (.region [
      ⟨(some 11), .mov (.tmp 0), none, [], false⟩,
      ⟨(some 12), .callV (.func 63) [(.tmp 11)], none, [], false⟩,
      ⟨(some 6), .mov (.tmp 12), none, [], false⟩]) (.seq (.seq (.region [
      ⟨(some 13), .mov (.tmp 6), none, [], false⟩,
      ⟨(some 14), .mov (.tmp 1), none, [], false⟩,
      ⟨(some 15), .raw (so (.call ⟨.builtin .max, #[(.tmp 14), (.const (.int .i64 0))], #[3, 3]⟩) 3), none, [], false⟩,
      ⟨(some 16), .bin .gtr (so (.binOp .gtr 3 (.tmp 13) (.tmp 15) 3) 4) (.tmp 13) (.tmp 15), none, [], false⟩]) (.cond (.tmp 16)
    (.region [
      ⟨(some 17), .mov (.tmp 0), none, [], false⟩,
      ⟨(some 18), .mov (.tmp 5), none, [], false⟩,
      ⟨(some 19), .callV (.func 91) [(.tmp 17), (.const (.int .i64 4)), (.tmp 18)], none, [], false⟩])
    .skip)) (.seq (.region [
      ⟨(some 20), .mov (.tmp 0), none, [], false⟩,
      ⟨(some 21), .mov (.tmp 6), none, [], false⟩,
      ⟨(some 22), .mov (.tmp 5), none, [], false⟩,
      ⟨(some 23), .callV (.func 90) [(.tmp 20), (.tmp 21), (.tmp 22)], none, [], false⟩,
      ⟨(some 4), .mov (.tmp 23), none, [], false⟩]) .ret)))))
noncomputable def landfallref04_Reader_Bytes : AFunc := ⟨24, [(4, none)], landfallref04_Reader_Bytes_c, none⟩
theorem landfallref04_Reader_Bytes_t0 : tableOf Try.prog 89 = some landfallref04_Reader_Bytes := by kernel_rfl
theorem landfallref04_Reader_Bytes_t : T0 89 = some landfallref04_Reader_Bytes := withTrue_t rfl landfallref04_Reader_Bytes_t0
theorem landfallref04_Reader_Bytes_runs {v0 v1 : Value} {h : Heap} {R : RP} {X : XP} (k : RunC Try.prog T0 landfallref04_Reader_Bytes_c ⟨[v0, v1, undef, undef, undef, undef, undef, undef, undef, undef, undef, undef, undef, undef, undef, undef, undef, undef, undef, undef, undef, undef, undef, undef], [], h, none⟩ (bodyQ Try.prog T0 [(4, none)] R X)) :
    Runs Try.prog T0 (.fn 89) [v0, v1] h R X := Runs.fn landfallref04_Reader_Bytes_t rfl k


/-! 90 (*landfall/landfallref04.Reader).take -/
abbrev fn_landfallref04_Reader_take : FuncId := 90
noncomputable def landfallref04_Reader_take_c : ACode :=
  (.seq (.region [
      ⟨(some 6), .mov (.const (.slice none 0 0)), none, [], false⟩]) (.seq (.seq (.region [
      ⟨(some 8), .mov (.tmp 0), none, [], false⟩,
      ⟨(some 9), .nilCheck (.tmp 8), none, [], false⟩,
      ⟨(some 10), .fieldAddr 2 (.tmp 9), none, [], false⟩,
      ⟨(some 11), .fieldAddr 0 (.tmp 10), none, [], false⟩,
      ⟨(some 12), .load none (.tmp 11), none, [], false⟩,
      ⟨(some 13), .bin .neq (so (.binOp .neq 29 (.tmp 12) (.const (.int .i64 0)) 29) 4) (.tmp 12) (.const (.int .i64 0)), none, [], false⟩]) (.cond (.tmp 13)
    (.seq (.region [
      ⟨(some 6), .mov (.const (.slice none 0 0)), none, [], false⟩]) .ret)
    .skip)) (.seq (.seq (.regionD [
      ⟨(some 14), .mov (.tmp 1), none, [], false⟩,
      ⟨(some 15), .mov (.tmp 0), none, [], false⟩,
      ⟨(some 16), .nilCheck (.tmp 15), none, [], false⟩,
      ⟨(some 17), .fieldAddr 0 (.tmp 16), none, [], false⟩,
      ⟨(some 18), .load none (.tmp 17), none, [], false⟩,
      ⟨(some 19), .lenSl (.tmp 18), none, [], false⟩,
      ⟨(some 20), .mov (.tmp 0), none, [], false⟩,
      ⟨(some 21), .nilCheck (.tmp 20), none, [], false⟩,
      ⟨(some 22), .fieldAddr 1 (.tmp 21), none, [], false⟩,
      ⟨(some 23), .load none (.tmp 22), none, [], false⟩,
      ⟨(some 24), .bin .sub (so (.binOp .sub 3 (.tmp 19) (.tmp 23) 3) 3) (.tmp 19) (.tmp 23), none, [], false⟩,
      ⟨(some 25), .bin .gtr (so (.binOp .gtr 3 (.tmp 14) (.tmp 24) 3) 4) (.tmp 14) (.tmp 24), none, [], true⟩]) (.cond (.tmp 25)
    (.seq (.region [
      ⟨(some 26), .mov (.tmp 0), none, [], false⟩,
      ⟨(some 27), .mov (.tmp 2), none, [], false⟩,
      ⟨(some 28), .callV (.func 91) [(.tmp 26), (.const (.int .i64 6)), (.tmp 27)], none, [], false⟩]) (.seq (.region [
      ⟨(some 6), .mov (.const (.slice none 0 0)), none, [], false⟩]) .ret))
    .skip)) (.seq (.regionD [
      ⟨(some 30), .mov (.tmp 0), none, [], false⟩,
      ⟨(some 31), .nilCheck (.tmp 30), none, [], false⟩,
      ⟨(some 32), .fieldAddr 0 (.tmp 31), none, [], false⟩,
      ⟨(some 33), .load none (.tmp 32), none, [], false⟩,
      ⟨(some 34), .mov (.tmp 0), none, [], false⟩,
      ⟨(some 35), .nilCheck (.tmp 34), none, [], false⟩,
      ⟨(some 36), .fieldAddr 1 (.tmp 35), none, [], false⟩,
      ⟨(some 37), .load none (.tmp 36), none, [], false⟩,
      ⟨(some 38), .mov (.tmp 0), none, [], false⟩,
      ⟨(some 39), .nilCheck (.tmp 38), none, [], false⟩,
      ⟨(some 40), .fieldAddr 1 (.tmp 39), none, [], false⟩,
      ⟨(some 41), .load none (.tmp 40), none, [], false⟩,
      ⟨(some 42), .mov (.tmp 1), none, [], false⟩,
      ⟨(some 43), .bin .add (so (.binOp .add 3 (.tmp 41) (.tmp 42) 3) 3) (.tmp 41) (.tmp 42), none, [], false⟩,
      ⟨(some 44), .sliceSl 1 (.tmp 33) (some (.tmp 37)) (some (.tmp 43)) none, none, [], false⟩,
      ⟨(some 29), .buildSlice 5 [] 0 [], none, [((some 44), .sliceSl 1 (.tmp 33) (some (.tmp 37)) (some (.tmp 43)) none, none), ((some 43), .bin .add (so (.binOp .add 3 (.tmp 41) (.tmp 42) 3) 3) (.tmp 41) (.tmp 42), none), ((some 42), .mov (.tmp 1), none), ((some 41), .load none (.tmp 40), none), ((some 40), .fieldAddr 1 (.tmp 39), none), ((some 39), .nilCheck (.tmp 38), none), ((some 38), .mov (.tmp 0), none), ((some 37), .load none (.tmp 36), none), ((some 36), .fieldAddr 1 (.tmp 35), none), ((some 35), .nilCheck (.tmp 34), none), ((some 34), .mov (.tmp 0), none), ((some 33), .load none (.tmp 32), none), ((some 32), .fieldAddr 0 (.tmp 31), none), ((some 31), .nilCheck (.tmp 30), none), ((some 30), .mov (.tmp 0), none)], false⟩,
      ⟨(some 45), .append 5 1 1 [(.int .u8 0)] false (.tmp 29) (.tmp 44), none, [], true⟩,
      ⟨(some 7), .mov (.tmp 45), none, [], true⟩]) (.seq (.region [
      ⟨(some 46), .mov (.tmp 0), none, [], false⟩,
      ⟨(some 47), .mov (.tmp 0), none, [], false⟩,
      ⟨(some 48), .nilCheck (.tmp 47), none, [], false⟩,
      ⟨(some 49), .fieldAddr 1 (.tmp 48), none, [], false⟩,
      ⟨(some 50), .load none (.tmp 49), none, [], false⟩,
      ⟨(some 51), .mov (.tmp 1), none, [], false⟩,
      ⟨(some 52), .bin .add (so (.binOp .add 3 (.tmp 50) (.tmp 51) 3) 3) (.tmp 50) (.tmp 51), none, [], false⟩,
      ⟨(some 53), .nilCheck (.tmp 46), none, [], false⟩,
      ⟨(some 54), .fieldAddr 1 (.tmp 53), none, [], false⟩,
      ⟨none, .store 1 (.tmp 54) (.tmp 52), none, [], false⟩]) (.seq (.region [
      ⟨(some 55), .mov (.tmp 7), none, [], false⟩,
      ⟨(some 6), .mov (.tmp 55), none, [], false⟩]) .ret))))))
noncomputable def landfallref04_Reader_take : AFunc := ⟨56, [(6, none)], landfallref04_Reader_take_c, none⟩
theorem landfallref04_Reader_take_t0 : tableOf Try.prog 90 = some landfallref04_Reader_take := by kernel_rfl
theorem landfallref04_Reader_take_t : T0 90 = some landfallref04_Reader_take := withTrue_t rfl landfallref04_Reader_take_t0
theorem landfallref04_Reader_take_runs {v0 v1 v2 : Value} {h : Heap} {R : RP} {X : XP} (k : RunC Try.prog T0 landfallref04_Reader_take_c ⟨[v0, v1, v2, undef, undef, undef, undef, undef, undef, undef, undef, undef, undef, undef, undef, undef, undef, undef, undef, undef, undef, undef, undef, undef, undef, undef, undef, undef, undef, undef, undef, undef, undef, undef, undef, undef, undef, undef, undef, undef, undef, undef, undef, undef, undef, undef, undef, undef, undef, undef, undef, undef, undef, undef, undef, undef], [], h, none⟩ (bodyQ Try.prog T0 [(6, none)] R X)) :
    Runs Try.prog T0 (.fn 90) [v0, v1, v2] h R X := Runs.fn landfallref04_Reader_take_t rfl k


/-! 91 (*landfall/landfallref04.Reader).Fails -/
abbrev fn_landfallref04_Reader_Fails : FuncId := 91
noncomputable def landfallref04_Reader_Fails_c : ACode :=
  (.seq (.region [
      ⟨(some 6), .mov (.tmp 0), none, [], false⟩,
      ⟨(some 7), .nilCheck (.tmp 6), none, [], false⟩,
      ⟨(some 8), .fieldAddr 2 (.tmp 7), none, [], false⟩,
      ⟨(some 9), .fieldAddr 0 (.tmp 8), none, [], false⟩,
      ⟨(some 10), .load none (.tmp 9), none, [], false⟩,
      ⟨(some 11), .bin .eql (so (.binOp .eql 29 (.tmp 10) (.const (.int .i64 0)) 29) 4) (.tmp 10) (.const (.int .i64 0)), none, [], false⟩]) (.cond (.tmp 11)
    (.region [
      ⟨(some 12), .mov (.tmp 0), none, [], false⟩,
      ⟨(some 13), .mov (.tmp 1), none, [], false⟩,
      ⟨(some 14), .mov (.tmp 2), none, [], false⟩,
      ⟨(some 15), .build [(.int .i64 0), (.int .i64 0)] [(0, 1, (.tmp 13)), (1, 1, (.tmp 14))], none, [], false⟩,
      ⟨(some 16), .nilCheck (.tmp 12), none, [], false⟩,
      ⟨(some 17), .fieldAddr 2 (.tmp 16), none, [], false⟩,
      ⟨none, .store 2 (.tmp 17) (.tmp 15), none, [], false⟩])
    .skip))
noncomputable def landfallref04_Reader_Fails : AFunc := ⟨18, [], landfallref04_Reader_Fails_c, none⟩
theorem landfallref04_Reader_Fails_t0 : tableOf Try.prog 91 = some landfallref04_Reader_Fails := by kernel_rfl
theorem landfallref04_Reader_Fails_t : T0 91 = some landfallref04_Reader_Fails := withTrue_t rfl landfallref04_Reader_Fails_t0
theorem landfallref04_Reader_Fails_runs {v0 v1 v2 : Value} {h : Heap} {R : RP} {X : XP} (k : RunC Try.prog T0 landfallref04_Reader_Fails_c ⟨[v0, v1, v2, undef, undef, undef, undef, undef, undef, undef, undef, undef, undef, undef, undef, undef, undef, undef], [], h, none⟩ (bodyQ Try.prog T0 [] R X)) :
    Runs Try.prog T0 (.fn 91) [v0, v1, v2] h R X := Runs.fn landfallref04_Reader_Fails_t rfl k


/-! 92 slices.Concat[[]byte,byte] -/
abbrev fn_slices_Concat___byte_byte_ : FuncId := 92
noncomputable def slices_Concat___byte_byte__l0 : ACode :=
  (.seq (.region [
      ⟨(some 12), .bin .lss (so (.binOp .lss 3 (.tmp 11) (.tmp 10) 3) 0) (.tmp 11) (.tmp 10), none, [], false⟩]) (.seq (.cond (.tmp 12)
    .skip
    (.exit 0)) (.seq (.block 1 (.seq (.region [
      ⟨(some 13), .indexSl 1 (.tmp 9) (.tmp 11), none, [], false⟩,
      ⟨(some 14), .load none (.tmp 13), none, [], false⟩,
      ⟨(some 5), .mov (.tmp 14), none, [], false⟩]) (.seq (.region [
      ⟨(some 15), .mov (.tmp 3), none, [], false⟩,
      ⟨(some 16), .mov (.tmp 5), none, [], false⟩,
      ⟨(some 17), .lenSl (.tmp 16), none, [], false⟩,
      ⟨(some 18), .bin .add (so (.binOp .add 3 (.tmp 15) (.tmp 17) 3) 3) (.tmp 15) (.tmp 17), none, [], false⟩,
      ⟨(some 3), .mov (.tmp 18), none, [], false⟩]) (.seq (.region [
      ⟨(some 19), .mov (.tmp 3), none, [], false⟩,
      ⟨(some 20), .bin .lss (so (.binOp .lss 3 (.tmp 19) (.const (.int .i64 0)) 3) 4) (.tmp 19) (.const (.int .i64 0)), none, [], false⟩]) (.cond (.tmp 20)
    (.region [
      ⟨(some 21), .mkIface 9 (.const (.string ⟨⟨[108, 101, 110, 32, 111, 117, 116, 32, 111, 102, 32, 114, 97, 110, 103, 101]⟩⟩)), none, [], false⟩,
      ⟨none, .panic (.tmp 21), none, [], false⟩])
    .skip))))) (.region [
      ⟨(some 22), .bin .add (so (.binOp .add 3 (.tmp 11) (.const (.int .i64 1)) 3) 3) (.tmp 11) (.const (.int .i64 1)), none, [], false⟩,
      ⟨(some 11), .mov (.tmp 22), none, [], false⟩]))))
noncomputable def slices_Concat___byte_byte__l1 : ACode :=
  (.seq (.region [
      ⟨(some 28), .bin .lss (so (.binOp .lss 3 (.tmp 27) (.tmp 26) 3) 0) (.tmp 27) (.tmp 26), none, [], false⟩]) (.seq (.cond (.tmp 28)
    .skip
    (.exit 2)) (.seq (.block 3 (.seq (.region [
      ⟨(some 29), .indexSl 1 (.tmp 25) (.tmp 27), none, [], false⟩,
      ⟨(some 30), .load none (.tmp 29), none, [], false⟩,
      ⟨(some 8), .mov (.tmp 30), none, [], false⟩]) (.region [
      ⟨(some 31), .mov (.tmp 6), none, [], false⟩,
      ⟨(some 32), .mov (.tmp 8), none, [], false⟩,
      ⟨(some 33), .append 5 1 1 [(.int .u8 0)] false (.tmp 31) (.tmp 32), none, [], false⟩,
      ⟨(some 6), .mov (.tmp 33), none, [], false⟩]))) (.region [
      ⟨(some 34), .bin .add (so (.binOp .add 3 (.tmp 27) (.const (.int .i64 1)) 3) 3) (.tmp 27) (.const (.int .i64 1)), none, [], false⟩,
      ⟨(some 27), .mov (.tmp 34), none, [], false⟩]))))
noncomputable def slices_Concat___byte_byte__c : ACode :=
  (.seq (.region [
      ⟨(some 2), .mov (.const (.slice none 0 0)), none, [], false⟩]) (.seq (.region [
      ⟨(some 3), .mov (.const (.int .i64 0)), none, [], false⟩]) (.seq (.seq (.region [
      ⟨(some 9), .mov (.tmp 0), none, [], false⟩,
      ⟨(some 10), .lenSl (.tmp 9), none, [], false⟩,
      ⟨(some 11), .mov (.const (.int .i64 0)), none, [], false⟩]) (.block 0 (.loop slices_Concat___byte_byte__l0))) (.seq (.region [
      ⟨(some 23), .mov (.tmp 3), none, [], false⟩,
      ⟨(some 24), .callV (.func 101) [(.const (.slice none 0 0)), (.tmp 23)], none, [], false⟩,
      ⟨(some 6), .mov (.tmp 24), none, [], false⟩]) (.seq (.seq (.region [
      ⟨(some 25), .mov (.tmp 0), none, [], false⟩,
      ⟨(some 26), .lenSl (.tmp 25), none, [], false⟩,
      ⟨(some 27), .mov (.const (.int .i64 0)), none, [], false⟩]) (.block 2 (.loop slices_Concat___byte_byte__l1))) (.seq (.region [
      ⟨(some 35), .mov (.tmp 6), none, [], false⟩,
      ⟨(some 2), .mov (.tmp 35), none, [], false⟩]) .ret))))))
noncomputable def slices_Concat___byte_byte_ : AFunc := ⟨36, [(2, none)], slices_Concat___byte_byte__c, none⟩
theorem slices_Concat___byte_byte__t0 : tableOf Try.prog 92 = some slices_Concat___byte_byte_ := by kernel_rfl
theorem slices_Concat___byte_byte__t : T0 92 = some slices_Concat___byte_byte_ := withTrue_t rfl slices_Concat___byte_byte__t0
theorem slices_Concat___byte_byte__runs {v0 : Value} {h : Heap} {R : RP} {X : XP} (k : RunC Try.prog T0 slices_Concat___byte_byte__c ⟨[v0, undef, undef, undef, undef, undef, undef, undef, undef, undef, undef, undef, undef, undef, undef, undef, undef, undef, undef, undef, undef, undef, undef, undef, undef, undef, undef, undef, undef, undef, undef, undef, undef, undef, undef, undef], [], h, none⟩ (bodyQ Try.prog T0 [(2, none)] R X)) :
    Runs Try.prog T0 (.fn 92) [v0] h R X := Runs.fn slices_Concat___byte_byte__t rfl k
/-- the slots that turn in the loop: v3 v11 -/
noncomputable def slices_Concat___byte_byte__l0_J (f0 f1 f2 f4 f6 f7 f8 f9 f10 f23 f24 f25 f26 f27 f28 f29 f30 f31 f32 f33 f34 f35 : Value) (ds : List Deferred) (rd : Option Nat) (I : Nat → Value → Value → Heap → Prop) (m : Nat) (s : St) : Prop := ∃ (v3 v11 : Value), ∃ h : Heap, ∃ (x5 x12 x13 x14 x15 x16 x17 x18 x19 x20 x21 x22 : Value), s = ⟨[f0, f1, f2, v3, f4, x5, f6, f7, f8, f9, f10, v11, x12, x13, x14, x15, x16, x17, x18, x19, x20, x21, x22, f23, f24, f25, f26, f27, f28, f29, f30, f31, f32, f33, f34, f35], ds, h, rd⟩ ∧ I m v3 v11 h
theorem slices_Concat___byte_byte__l0_rule {f0 f1 f2 f4 f6 f7 f8 f9 f10 f23 f24 f25 f26 f27 f28 f29 f30 f31 f32 f33 f34 f35 : Value} {ds : List Deferred} {rd : Option Nat} {Q : QP} (I : Nat → Value → Value → Heap → Prop) (hb : ∀ (m : Nat) (v3 v11 : Value) (h : Heap) (x5 x12 x13 x14 x15 x16 x17 x18 x19 x20 x21 x22 : Value) , I m v3 v11 h → RunC Try.prog T0 slices_Concat___byte_byte__l0 ⟨[f0, f1, f2, v3, f4, x5, f6, f7, f8, f9, f10, v11, x12, x13, x14, x15, x16, x17, x18, x19, x20, x21, x22, f23, f24, f25, f26, f27, f28, f29, f30, f31, f32, f33, f34, f35], ds, h, rd⟩ (loopQ (slices_Concat___byte_byte__l0_J f0 f1 f2 f4 f6 f7 f8 f9 f10 f23 f24 f25 f26 f27 f28 f29 f30 f31 f32 f33 f34 f35 ds rd I) m Q))
    (m : Nat) {v3 v11 : Value} {h : Heap} {x5 x12 x13 x14 x15 x16 x17 x18 x19 x20 x21 x22 : Value} (hi : I m v3 v11 h) : RunC Try.prog T0 (.loop slices_Concat___byte_byte__l0) ⟨[f0, f1, f2, v3, f4, x5, f6, f7, f8, f9, f10, v11, x12, x13, x14, x15, x16, x17, x18, x19, x20, x21, x22, f23, f24, f25, f26, f27, f28, f29, f30, f31, f32, f33, f34, f35], ds, h, rd⟩ Q :=
  RunC.loopJ (slices_Concat___byte_byte__l0_J f0 f1 f2 f4 f6 f7 f8 f9 f10 f23 f24 f25 f26 f27 f28 f29 f30 f31 f32 f33 f34 f35 ds rd I) (fun m s hj => by obtain ⟨v3, v11, h, x5, x12, x13, x14, x15, x16, x17, x18, x19, x20, x21, x22, rfl, hi⟩ := hj; exact hb m v3 v11 h x5 x12 x13 x14 x15 x16 x17 x18 x19 x20 x21 x22 hi) m _ ⟨_, _, h, _, _, _, _, _, _, _, _, _, _, _, _, rfl, hi⟩
theorem slices_Concat___byte_byte__l0_again {f0 f1 f2 f4 f6 f7 f8 f9 f10 f23 f24 f25 f26 f27 f28 f29 f30 f31 f32 f33 f34 f35 : Value} {ds : List Deferred} {rd : Option Nat} {Q : QP} {I : Nat → Value → Value → Heap → Prop} {m : Nat} (m' : Nat) {v3 v11 : Value} {h : Heap} {x5 x12 x13 x14 x15 x16 x17 x18 x19 x20 x21 x22 : Value} (hm : m' < m) (hi : I m' v3 v11 h) : loopQ (slices_Concat___byte_byte__l0_J f0 f1 f2 f4 f6 f7 f8 f9 f10 f23 f24 f25 f26 f27 f28 f29 f30 f31 f32 f33 f34 f35 ds rd I) m Q .normal ⟨[f0, f1, f2, v3, f4, x5, f6, f7, f8, f9, f10, v11, x12, x13, x14, x15, x16, x17, x18, x19, x20, x21, x22, f23, f24, f25, f26, f27, f28, f29, f30, f31, f32, f33, f34, f35], ds, h, rd⟩ :=
  loopQ.again m' hm ⟨_, _, h, _, _, _, _, _, _, _, _, _, _, _, _, rfl, hi⟩
/-- the slots that turn in the loop: v6 v27 -/
noncomputable def slices_Concat___byte_byte__l1_J (f0 f1 f2 f3 f4 f5 f7 f9 f10 f11 f12 f13 f14 f15 f16 f17 f18 f19 f20 f21 f22 f23 f24 f25 f26 f35 : Value) (ds : List Deferred) (rd : Option Nat) (I : Nat → Value → Value → Heap → Prop) (m : Nat) (s : St) : Prop := ∃ (v6 v27 : Value), ∃ h : Heap, ∃ (x8 x28 x29 x30 x31 x32 x33 x34 : Value), s = ⟨[f0, f1, f2, f3, f4, f5, v6, f7, x8, f9, f10, f11, f12, f13, f14, f15, f16, f17, f18, f19, f20, f21, f22, f23, f24, f25, f26, v27, x28, x29, x30, x31, x32, x33, x34, f35], ds, h, rd⟩ ∧ I m v6 v27 h
theorem slices_Concat___byte_byte__l1_rule {f0 f1 f2 f3 f4 f5 f7 f9 f10 f11 f12 f13 f14 f15 f16 f17 f18 f19 f20 f21 f22 f23 f24 f25 f26 f35 : Value} {ds : List Deferred} {rd : Option Nat} {Q : QP} (I : Nat → Value → Value → Heap → Prop) (hb : ∀ (m : Nat) (v6 v27 : Value) (h : Heap) (x8 x28 x29 x30 x31 x32 x33 x34 : Value) , I m v6 v27 h → RunC Try.prog T0 slices_Concat___byte_byte__l1 ⟨[f0, f1, f2, f3, f4, f5, v6, f7, x8, f9, f10, f11, f12, f13, f14, f15, f16, f17, f18, f19, f20, f21, f22, f23, f24, f25, f26, v27, x28, x29, x30, x31, x32, x33, x34, f35], ds, h, rd⟩ (loopQ (slices_Concat___byte_byte__l1_J f0 f1 f2 f3 f4 f5 f7 f9 f10 f11 f12 f13 f14 f15 f16 f17 f18 f19 f20 f21 f22 f23 f24 f25 f26 f35 ds rd I) m Q))
    (m : Nat) {v6 v27 : Value} {h : Heap} {x8 x28 x29 x30 x31 x32 x33 x34 : Value} (hi : I m v6 v27 h) : RunC Try.prog T0 (.loop slices_Concat___byte_byte__l1) ⟨[f0, f1, f2, f3, f4, f5, v6, f7, x8, f9, f10, f11, f12, f13, f14, f15, f16, f17, f18, f19, f20, f21, f22, f23, f24, f25, f26, v27, x28, x29, x30, x31, x32, x33, x34, f35], ds, h, rd⟩ Q :=
  RunC.loopJ (slices_Concat___byte_byte__l1_J f0 f1 f2 f3 f4 f5 f7 f9 f10 f11 f12 f13 f14 f15 f16 f17 f18 f19 f20 f21 f22 f23 f24 f25 f26 f35 ds rd I) (fun m s hj => by obtain ⟨v6, v27, h, x8, x28, x29, x30, x31, x32, x33, x34, rfl, hi⟩ := hj; exact hb m v6 v27 h x8 x28 x29 x30 x31 x32 x33 x34 hi) m _ ⟨_, _, h, _, _, _, _, _, _, _, _, rfl, hi⟩
theorem slices_Concat___byte_byte__l1_again {f0 f1 f2 f3 f4 f5 f7 f9 f10 f11 f12 f13 f14 f15 f16 f17 f18 f19 f20 f21 f22 f23 f24 f25 f26 f35 : Value} {ds : List Deferred} {rd : Option Nat} {Q : QP} {I : Nat → Value → Value → Heap → Prop} {m : Nat} (m' : Nat) {v6 v27 : Value} {h : Heap} {x8 x28 x29 x30 x31 x32 x33 x34 : Value} (hm : m' < m) (hi : I m' v6 v27 h) : loopQ (slices_Concat___byte_byte__l1_J f0 f1 f2 f3 f4 f5 f7 f9 f10 f11 f12 f13 f14 f15 f16 f17 f18 f19 f20 f21 f22 f23 f24 f25 f26 f35 ds rd I) m Q .normal ⟨[f0, f1, f2, f3, f4, f5, v6, f7, x8, f9, f10, f11, f12, f13, f14, f15, f16, f17, f18, f19, f20, f21, f22, f23, f24, f25, f26, v27, x28, x29, x30, x31, x32, x33, x34, f35], ds, h, rd⟩ :=
  loopQ.again m' hm ⟨_, _, h, _, _, _, _, _, _, _, _, rfl, hi⟩

/-! 101 slices.Grow[[]byte,byte] -/
abbrev fn_slices_Grow___byte_byte_ : FuncId := 101
noncomputable def slices_Grow___byte_byte__c : ACode :=
  (.seq (.region [
      ⟨(some 4), .mov (.const (.slice none 0 0)), none, [], false⟩]) (.seq (.seq (.region [
      ⟨(some 5), .mov (.tmp 1), none, [], false⟩,
      ⟨(some 6), .bin .lss (so (.binOp .lss 3 (.tmp 5) (.const (.int .i64 0)) 3) 4) (.tmp 5) (.const (.int .i64 0)), none, [], false⟩]) (.cond (.tmp 6)
    (.region [
      ⟨(some 7), .mkIface 9 (.const (.string ⟨⟨[99, 97, 110, 110, 111, 116, 32, 98, 101, 32, 110, 101, 103, 97, 116, 105, 118, 101]⟩⟩)), none, [], false⟩,
      ⟨none, .panic (.tmp 7), none, [], false⟩])
    .skip)) (.seq (.seq (.region [
      ⟨(some 8), .mov (.tmp 1), none, [], false⟩,
      ⟨(some 9), .mov (.tmp 0), none, [], false⟩,
      ⟨(some 10), .cap (.tmp 9), none, [], false⟩,
      ⟨(some 11), .mov (.tmp 0), none, [], false⟩,
      ⟨(some 12), .lenSl (.tmp 11), none, [], false⟩,
      ⟨(some 13), .bin .sub (so (.binOp .sub 3 (.tmp 10) (.tmp 12) 3) 3) (.tmp 10) (.tmp 12), none, [], false⟩,
      ⟨(some 14), .bin .sub (so (.binOp .sub 3 (.tmp 8) (.tmp 13) 3) 3) (.tmp 8) (.tmp 13), none, [], false⟩,
      ⟨(some 1), .mov (.tmp 14), none, [], false⟩]) (.seq (.region [
      ⟨(some 15), .mov (.tmp 1), none, [], false⟩,
      ⟨(some 16), .bin .gtr (so (.binOp .gtr 3 (.tmp 15) (.const (.int .i64 0)) 3) 4) (.tmp 15) (.const (.int .i64 0)), none, [], false⟩]) (.cond (.tmp 16)
    (.region [
      ⟨(some 17), .mov (.tmp 0), none, [], false⟩,
      ⟨(some 18), .mov (.tmp 0), none, [], false⟩,
      ⟨(some 19), .cap (.tmp 18), none, [], false⟩,
      ⟨(some 20), .sliceSl 1 (.tmp 17) none (some (.tmp 19)) none, none, [], false⟩,
      ⟨(some 21), .mov (.tmp 1), none, [], false⟩,
      ⟨(some 22), .append 5 1 1 [(.int .u8 0)] true (.tmp 20) (.tmp 21), none, [], false⟩,
      ⟨(some 23), .mov (.tmp 0), none, [], false⟩,
      ⟨(some 24), .lenSl (.tmp 23), none, [], false⟩,
      ⟨(some 25), .sliceSl 1 (.tmp 22) none (some (.tmp 24)) none, none, [], false⟩,
      ⟨(some 0), .mov (.tmp 25), none, [], false⟩])
    .skip))) (.seq (.region [
      ⟨(some 26), .mov (.tmp 0), none, [], false⟩,
      ⟨(some 4), .mov (.tmp 26), none, [], false⟩]) .ret))))
noncomputable def slices_Grow___byte_byte_ : AFunc := ⟨27, [(4, none)], slices_Grow___byte_byte__c, none⟩
theorem slices_Grow___byte_byte__t0 : tableOf Try.prog 101 = some slices_Grow___byte_byte_ := by kernel_rfl
theorem slices_Grow___byte_byte__t : T0 101 = some slices_Grow___byte_byte_ := withTrue_t rfl slices_Grow___byte_byte__t0
theorem slices_Grow___byte_byte__runs {v0 v1 : Value} {h : Heap} {R : RP} {X : XP} (k : RunC Try.prog T0 slices_Grow___byte_byte__c ⟨[v0, v1, undef, undef, undef, undef, undef, undef, undef, undef, undef, undef, undef, undef, undef, undef, undef, undef, undef, undef, undef, undef, undef, undef, undef, undef, undef], [], h, none⟩ (bodyQ Try.prog T0 [(4, none)] R X)) :
    Runs Try.prog T0 (.fn 101) [v0, v1] h R X := Runs.fn slices_Grow___byte_byte__t rfl k


noncomputable def table : TT :=
  (.node (.node (.node (.node (.node (.node .nil 3 landfalllaw06_HeaderDecodes .nil) 5 landfalllaw06_HeaderBack (.node .nil 6 landfalllaw06_HeaderOne .nil)) 10 landfallkit_LentBytes (.node (.node .nil 11 header_Decode .nil) 12 landfallref06_Decode (.node .nil 13 landfallkit_KeptBytes .nil))) 14 header_Encode (.node (.node (.node .nil 16 landfallkit_SameBytes .nil) 17 header_Name (.node .nil 19 header_Check .nil)) 21 landfallkit_CopyBytes (.node (.node .nil 22 landfallkit_Pick .nil) 26 landfallref06_Check (.node .nil 27 landfallref06_Name .nil)))) 30 wire_NewReader (.node (.node (.node (.node .nil 31 wire_Reader_Text .nil) 32 wire_Reader_Num (.node .nil 33 header_hashes .nil)) 34 wire_Reader_Hash (.node (.node .nil 35 wire_Reader_End .nil) 36 landfallref04_NewReader (.node .nil 37 landfallref06_Get .nil))) 38 landfallref04_Reader_End (.node (.node (.node .nil 39 wire_NewWriter .nil) 40 wire_Writer_Text (.node .nil 41 wire_Writer_Num .nil)) 42 wire_Writer_Hash (.node (.node .nil 43 wire_Writer_Done .nil) 44 header_each (.node .nil 45 header_plain .nil))))) 46 header_rules (.node (.node (.node (.node (.node .nil 54 slices_Clone___byte_byte_ .nil) 55 wire_Reader_Bytes (.node .nil 56 wire_reads_int_ .nil)) 57 wire_Reader_num (.node (.node .nil 58 wire_reads_api_Hash_ .nil) 59 wire_Reader_Hash_1 (.node .nil 60 wire_take_api_Hash_ .nil))) 61 wire_Reader_Hash_1_1 (.node (.node (.node .nil 62 landfallref04_Reader_Text .nil) 63 landfallref04_Reader_Num (.node .nil 64 landfallref04_Reader_Hash .nil)) 65 wire_Writer_Bytes (.node (.node .nil 66 wire_Writer_put .nil) 67 wire_number (.node .nil 68 header_rules_1 .nil)))) 69 header_rules_2 (.node (.node (.node (.node .nil 70 header_rules_3 .nil) 81 wire_reads___byte_ (.node .nil 82 wire_Reader_Bytes_1 .nil)) 83 wire_must (.node (.node .nil 84 wire_take___byte_ .nil) 85 wire_Reader_caught (.node .nil 86 wire_take_uint64_ .nil))) 87 wire_big (.node (.node (.node .nil 88 wire_Reader_num_1 .nil) 89 landfallref04_Reader_Bytes (.node .nil 90 landfallref04_Reader_take .nil)) 91 landfallref04_Reader_Fails (.node (.node .nil 92 slices_Concat___byte_byte_ .nil) 101 slices_Grow___byte_byte_ .nil)))))
theorem table_all : table.All Try.prog := ⟨header_rules_t0, ⟨wire_NewReader_t0, ⟨header_Encode_t0, ⟨landfallkit_LentBytes_t0, ⟨landfalllaw06_HeaderBack_t0, ⟨landfalllaw06_HeaderDecodes_t0, trivial, trivial⟩, ⟨landfalllaw06_HeaderOne_t0, trivial, trivial⟩⟩, ⟨landfallref06_Decode_t0, ⟨header_Decode_t0, trivial, trivial⟩, ⟨landfallkit_KeptBytes_t0, trivial, trivial⟩⟩⟩, ⟨landfallkit_CopyBytes_t0, ⟨header_Name_t0, ⟨landfallkit_SameBytes_t0, trivial, trivial⟩, ⟨header_Check_t0, trivial, trivial⟩⟩, ⟨landfallref06_Check_t0, ⟨landfallkit_Pick_t0, trivial, trivial⟩, ⟨landfallref06_Name_t0, trivial, trivial⟩⟩⟩⟩, ⟨landfallref04_Reader_End_t0, ⟨wire_Reader_Hash_t0, ⟨wire_Reader_Num_t0, ⟨wire_Reader_Text_t0, trivial, trivial⟩, ⟨header_hashes_t0, trivial, trivial⟩⟩, ⟨landfallref04_NewReader_t0, ⟨wire_Reader_End_t0, trivial, trivial⟩, ⟨landfallref06_Get_t0, trivial, trivial⟩⟩⟩, ⟨wire_Writer_Hash_t0, ⟨wire_Writer_Text_t0, ⟨wire_NewWriter_t0, trivial, trivial⟩, ⟨wire_Writer_Num_t0, trivial, trivial⟩⟩, ⟨header_each_t0, ⟨wire_Writer_Done_t0, trivial, trivial⟩, ⟨header_plain_t0, trivial, trivial⟩⟩⟩⟩⟩, ⟨header_rules_2_t0, ⟨wire_Reader_Hash_1_1_t0, ⟨wire_Reader_num_t0, ⟨wire_Reader_Bytes_t0, ⟨slices_Clone___byte_byte__t0, trivial, trivial⟩, ⟨wire_reads_int__t0, trivial, trivial⟩⟩, ⟨wire_Reader_Hash_1_t0, ⟨wire_reads_api_Hash__t0, trivial, trivial⟩, ⟨wire_take_api_Hash__t0, trivial, trivial⟩⟩⟩, ⟨wire_Writer_Bytes_t0, ⟨landfallref04_Reader_Num_t0, ⟨landfallref04_Reader_Text_t0, trivial, trivial⟩, ⟨landfallref04_Reader_Hash_t0, trivial, trivial⟩⟩, ⟨wire_number_t0, ⟨wire_Writer_put_t0, trivial, trivial⟩, ⟨header_rules_1_t0, trivial, trivial⟩⟩⟩⟩, ⟨wire_big_t0, ⟨wire_must_t0, ⟨wire_reads___byte__t0, ⟨header_rules_3_t0, trivial, trivial⟩, ⟨wire_Reader_Bytes_1_t0, trivial, trivial⟩⟩, ⟨wire_Reader_caught_t0, ⟨wire_take___byte__t0, trivial, trivial⟩, ⟨wire_take_uint64__t0, trivial, trivial⟩⟩⟩, ⟨landfallref04_Reader_Fails_t0, ⟨landfallref04_Reader_Bytes_t0, ⟨wire_Reader_num_1_t0, trivial, trivial⟩, ⟨landfallref04_Reader_take_t0, trivial, trivial⟩⟩, ⟨slices_Grow___byte_byte__t0, ⟨slices_Concat___byte_byte__t0, trivial, trivial⟩, trivial⟩⟩⟩⟩⟩
end Go.Proofs.Ytcapkoclbmaahaa.A
