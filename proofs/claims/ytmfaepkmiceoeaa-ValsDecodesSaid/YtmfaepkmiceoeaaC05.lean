/- Functions of the program, as the machine has them: written by a program of mine (GenVm.lean), each held against the given program by the kernel. -/
import Derived.Test.YtmfaepkmiceoeaaRows
import Derived.Test.YtmfaepkmiceoeaaVJ
set_option maxRecDepth 100000
set_option linter.unusedVariables false
namespace Go.Proofs.Ytmfaepkmiceoeaa.A
open Go Go.Vm

abbrev ty_internal_abi_BoundsErrorCode : TypeId := 6
abbrev ty_runtime_boundsError : TypeId := 8
abbrev ty_runtime_errorString : TypeId := 10
abbrev ty_runtime_plainError : TypeId := 11
abbrev ty_runtime_errorAddressString : TypeId := 14
abbrev ty_internal_runtime_maps_unhashableTypeError : TypeId := 19
abbrev ty_api_Errno : TypeId := 26
abbrev ty_api_Fault : TypeId := 28
abbrev ty_api_Key : TypeId := 42
abbrev ty_api_Wide : TypeId := 52
abbrev ty_api_Validator : TypeId := 54
abbrev ty_api_Hash : TypeId := 63
abbrev ty_vals_look : TypeId := 76
abbrev ty_iter_Seq_api_Validator_ : TypeId := 79
abbrev ty_wide_triple : TypeId := 95
abbrev ty_wire_Reader : TypeId := 104
abbrev ty_landfallref04_Reader : TypeId := 112
abbrev ty_wire_Writer : TypeId := 119
abbrev ty_landfallref04_Writer : TypeId := 126
abbrev ty_blake_words : TypeId := 143
abbrev ty_blake_counter : TypeId := 147
abbrev ty_blake_State : TypeId := 149
abbrev ty_wire_wrong : TypeId := 157
abbrev ty_blake_four : TypeId := 166
abbrev ty_runtime_TypeAssertionError : TypeId := 175
abbrev ty_runtime_PanicNilError : TypeId := 178
abbrev ty_internal_abi_TFlag : TypeId := 179
abbrev ty_internal_abi_Kind : TypeId := 180
abbrev ty_internal_abi_NameOff : TypeId := 183
abbrev ty_internal_abi_TypeOff : TypeId := 184
abbrev ty_internal_abi_Type : TypeId := 186
instance : IsIface Try.prog 20 := ⟨by kernel_rfl⟩
/-- functions that are known to come to true -/
abbrev prims : List FuncId := [9]
abbrev kepts : List FuncId := [15]
noncomputable def T0 : Table := withKept (withTrue Try.prog prims) kepts
abbrev fn_landfalllaw05_awake : FuncId := 9
theorem landfalllaw05_awake_known {h : Heap} : Runs Try.prog T0 (.fn 9) [] h (fun r h' => r = .bool true ∧ h' = h) (fun _ _ => False) := known_runs rfl
instance : IsBoolT Try.prog 4 := ⟨by kernel_rfl⟩
instance : TLeaves Try.prog 7 (.i .i64 :: (.i .i64 :: (.b :: (.i .u8 :: [])))) := ⟨by kernel_rfl, by kernel_rfl, by kernel_rfl⟩
instance : TLeaves Try.prog 8 (.i .i64 :: (.i .i64 :: (.b :: (.i .u8 :: [])))) := ⟨by kernel_rfl, by kernel_rfl, by kernel_rfl⟩
instance : TLeaves Try.prog 27 (.i .i64 :: (.i .i64 :: [])) := ⟨by kernel_rfl, by kernel_rfl, by kernel_rfl⟩
instance : TLeaves Try.prog 28 (.i .i64 :: (.i .i64 :: [])) := ⟨by kernel_rfl, by kernel_rfl, by kernel_rfl⟩
instance : TLeaves Try.prog 41 (u8s 4) := ⟨by kernel_rfl, by kernel_rfl, by kernel_rfl⟩
instance : TLeaves Try.prog 42 (u8s 4) := ⟨by kernel_rfl, by kernel_rfl, by kernel_rfl⟩
instance : TLeaves Try.prog 51 (.i .u64 :: (.i .u64 :: [])) := ⟨by kernel_rfl, by kernel_rfl, by kernel_rfl⟩
instance : TLeaves Try.prog 52 (.i .u64 :: (.i .u64 :: [])) := ⟨by kernel_rfl, by kernel_rfl, by kernel_rfl⟩
instance : TLeaves Try.prog 53 (u8s 4 ++ (.i .i64 :: [])) := ⟨by kernel_rfl, by kernel_rfl, by kernel_rfl⟩
instance : TLeaves Try.prog 54 (u8s 4 ++ (.i .i64 :: [])) := ⟨by kernel_rfl, by kernel_rfl, by kernel_rfl⟩
instance : TLeaves Try.prog 62 (u8s 32) := ⟨by kernel_rfl, by kernel_rfl, by kernel_rfl⟩
instance : TLeaves Try.prog 63 (u8s 32) := ⟨by kernel_rfl, by kernel_rfl, by kernel_rfl⟩
instance : TLeaves Try.prog 75 (u8s 4 ++ (.b :: (.i .i64 :: (.i .i64 :: [])))) := ⟨by kernel_rfl, by kernel_rfl, by kernel_rfl⟩
instance : TLeaves Try.prog 76 (u8s 4 ++ (.b :: (.i .i64 :: (.i .i64 :: [])))) := ⟨by kernel_rfl, by kernel_rfl, by kernel_rfl⟩
instance : TLeaves Try.prog 94 (.i .u64 :: (.i .u64 :: (.i .u64 :: []))) := ⟨by kernel_rfl, by kernel_rfl, by kernel_rfl⟩
instance : TLeaves Try.prog 95 (.i .u64 :: (.i .u64 :: (.i .u64 :: []))) := ⟨by kernel_rfl, by kernel_rfl, by kernel_rfl⟩
instance : TLeaves Try.prog 132 (.i .u32 :: (.i .u32 :: (.i .u32 :: (.i .u32 :: (.i .u32 :: (.i .u32 :: (.i .u32 :: (.i .u32 :: [])))))))) := ⟨by kernel_rfl, by kernel_rfl, by kernel_rfl⟩
instance : TLeaves Try.prog 140 (u8s 4 ++ (u8s 4 ++ (.i .u8 :: []))) := ⟨by kernel_rfl, by kernel_rfl, by kernel_rfl⟩
instance : TLeaves Try.prog 143 (.i .u32 :: (.i .u32 :: (.i .u32 :: (.i .u32 :: (.i .u32 :: (.i .u32 :: (.i .u32 :: (.i .u32 :: [])))))))) := ⟨by kernel_rfl, by kernel_rfl, by kernel_rfl⟩
instance : TLeaves Try.prog 146 (.i .i64 :: []) := ⟨by kernel_rfl, by kernel_rfl, by kernel_rfl⟩
instance : TLeaves Try.prog 147 (.i .i64 :: []) := ⟨by kernel_rfl, by kernel_rfl, by kernel_rfl⟩
instance : TLeaves Try.prog 152 (.i .u32 :: (.i .u32 :: (.i .u32 :: (.i .u32 :: (.i .u32 :: (.i .u32 :: (.i .u32 :: (.i .u32 :: (.i .u32 :: (.i .u32 :: (.i .u32 :: (.i .u32 :: (.i .u32 :: (.i .u32 :: (.i .u32 :: (.i .u32 :: [])))))))))))))))) := ⟨by kernel_rfl, by kernel_rfl, by kernel_rfl⟩
instance : TLeaves Try.prog 153 (.i .i64 :: (.i .i64 :: (.i .i64 :: (.i .i64 :: (.i .i64 :: (.i .i64 :: (.i .i64 :: (.i .i64 :: (.i .i64 :: (.i .i64 :: (.i .i64 :: (.i .i64 :: (.i .i64 :: (.i .i64 :: (.i .i64 :: (.i .i64 :: [])))))))))))))))) := ⟨by kernel_rfl, by kernel_rfl, by kernel_rfl⟩
instance : TLeaves Try.prog 156 (.i .i64 :: (.i .i64 :: [])) := ⟨by kernel_rfl, by kernel_rfl, by kernel_rfl⟩
instance : TLeaves Try.prog 157 (.i .i64 :: (.i .i64 :: [])) := ⟨by kernel_rfl, by kernel_rfl, by kernel_rfl⟩
instance : TLeaves Try.prog 167 (.i .i64 :: (.i .i64 :: (.i .i64 :: (.i .i64 :: (.i .i64 :: (.i .i64 :: (.i .i64 :: (.i .i64 :: (.i .i64 :: (.i .i64 :: (.i .i64 :: (.i .i64 :: (.i .i64 :: (.i .i64 :: (.i .i64 :: (.i .i64 :: (.i .i64 :: (.i .i64 :: (.i .i64 :: (.i .i64 :: (.i .i64 :: (.i .i64 :: (.i .i64 :: (.i .i64 :: (.i .i64 :: (.i .i64 :: (.i .i64 :: (.i .i64 :: (.i .i64 :: (.i .i64 :: (.i .i64 :: (.i .i64 :: (.i .i64 :: (.i .i64 :: (.i .i64 :: (.i .i64 :: (.i .i64 :: (.i .i64 :: (.i .i64 :: (.i .i64 :: (.i .i64 :: (.i .i64 :: (.i .i64 :: (.i .i64 :: (.i .i64 :: (.i .i64 :: (.i .i64 :: (.i .i64 :: (.i .i64 :: (.i .i64 :: (.i .i64 :: (.i .i64 :: (.i .i64 :: (.i .i64 :: (.i .i64 :: (.i .i64 :: (.i .i64 :: (.i .i64 :: (.i .i64 :: (.i .i64 :: (.i .i64 :: (.i .i64 :: (.i .i64 :: (.i .i64 :: (.i .i64 :: (.i .i64 :: (.i .i64 :: (.i .i64 :: (.i .i64 :: (.i .i64 :: (.i .i64 :: (.i .i64 :: (.i .i64 :: (.i .i64 :: (.i .i64 :: (.i .i64 :: (.i .i64 :: (.i .i64 :: (.i .i64 :: (.i .i64 :: (.i .i64 :: (.i .i64 :: (.i .i64 :: (.i .i64 :: (.i .i64 :: (.i .i64 :: (.i .i64 :: (.i .i64 :: (.i .i64 :: (.i .i64 :: (.i .i64 :: (.i .i64 :: (.i .i64 :: (.i .i64 :: (.i .i64 :: (.i .i64 :: (.i .i64 :: (.i .i64 :: (.i .i64 :: (.i .i64 :: (.i .i64 :: (.i .i64 :: (.i .i64 :: (.i .i64 :: (.i .i64 :: (.i .i64 :: (.i .i64 :: (.i .i64 :: (.i .i64 :: (.i .i64 :: (.i .i64 :: (.i .i64 :: (.i .i64 :: (.i .i64 :: (.i .i64 :: (.i .i64 :: (.i .i64 :: (.i .i64 :: (.i .i64 :: (.i .i64 :: (.i .i64 :: (.i .i64 :: (.i .i64 :: (.i .i64 :: (.i .i64 :: (.i .i64 :: (.i .i64 :: (.i .i64 :: (.i .i64 :: (.i .i64 :: (.i .i64 :: (.i .i64 :: (.i .i64 :: (.i .i64 :: (.i .i64 :: (.i .i64 :: (.i .i64 :: (.i .i64 :: (.i .i64 :: (.i .i64 :: (.i .i64 :: (.i .i64 :: (.i .i64 :: (.i .i64 :: (.i .i64 :: (.i .i64 :: (.i .i64 :: (.i .i64 :: (.i .i64 :: (.i .i64 :: (.i .i64 :: (.i .i64 :: (.i .i64 :: (.i .i64 :: (.i .i64 :: (.i .i64 :: (.i .i64 :: (.i .i64 :: (.i .i64 :: (.i .i64 :: [])))))))))))))))))))))))))))))))))))))))))))))))))))))))))))))))))))))))))))))))))))))))))))))))))))))))))))))))))))))))))))))))))))))))))))))))))))))))))))))))) := ⟨by kernel_rfl, by kernel_rfl, by kernel_rfl⟩

/-! 3 landfall/landfalllaw05.ValsDecodes -/
abbrev fn_landfalllaw05_ValsDecodes : FuncId := 3
noncomputable def landfalllaw05_ValsDecodes_c : ACode :=
  (.seq (.region [
      ⟨(some 2), .mov (.const (.bool false)), none, [], false⟩]) (.seq (.seq (.region [
      ⟨(some 9), .mov (.tmp 0), none, [], false⟩,
      ⟨(some 10), .lenSl (.tmp 9), none, [], false⟩,
      ⟨(some 11), .bin .gtr (so (.binOp .gtr 3 (.tmp 10) (.const (.int .i64 1500)) 3) 4) (.tmp 10) (.const (.int .i64 1500)), none, [], false⟩]) (.cond (.tmp 11)
    (.seq (.region [
      ⟨(some 12), .callV (.func 9) [], none, [], false⟩,
      ⟨(some 2), .mov (.tmp 12), none, [], false⟩]) .ret)
    .skip)) (.seq (.region [
      ⟨(some 13), .mov (.tmp 0), none, [], false⟩,
      ⟨(some 14), .callV (.func 10) [(.tmp 13)], none, [], false⟩,
      ⟨(some 3), .mov (.tmp 14), none, [], false⟩]) (.seq (.region [
      ⟨(some 16), .mov (.tmp 3), none, [], false⟩,
      ⟨(some 17), .callV (.func 11) [(.tmp 16)], none, [], false⟩,
      ⟨(some 15), .mov (.tmp 17), none, [], false⟩,
      ⟨(some 18), .extract 0 (.tmp 15), none, [], false⟩,
      ⟨(some 19), .extract 1 (.tmp 15), none, [], false⟩,
      ⟨(some 5), .alloc 28 [(.int .i64 0), (.int .i64 0)], none, [], false⟩,
      ⟨(some 4), .mov (.tmp 18), none, [], false⟩,
      ⟨none, .store 2 (.tmp 5) (.tmp 19), none, [], false⟩]) (.seq (.region [
      ⟨(some 21), .mov (.tmp 0), none, [], false⟩,
      ⟨(some 22), .callV (.func 12) [(.tmp 21)], none, [], false⟩,
      ⟨(some 20), .mov (.tmp 22), none, [], false⟩,
      ⟨(some 23), .extract 0 (.tmp 20), none, [], false⟩,
      ⟨(some 24), .extract 1 (.tmp 20), none, [], false⟩,
      ⟨(some 7), .alloc 28 [(.int .i64 0), (.int .i64 0)], none, [], false⟩,
      ⟨(some 6), .mov (.tmp 23), none, [], false⟩,
      ⟨none, .store 2 (.tmp 7) (.tmp 24), none, [], false⟩]) (.seq (.region [
      ⟨(some 25), .mov (.tmp 4), none, [], false⟩,
      ⟨(some 26), .mov (.tmp 6), none, [], false⟩,
      ⟨(some 27), .callV (.func 13) [(.tmp 25), (.tmp 26)], none, [], false⟩,
      ⟨(some 28), .mov (.tmp 27), none, [], false⟩,
      ⟨(some 29), .load (some 2) (.tmp 5), (some (28, true)), [], false⟩,
      ⟨(some 30), .load (some 2) (.tmp 7), (some (28, true)), [], false⟩,
      ⟨(some 31), .bin .eql (so (.binOp .eql 28 (.tmp 29) (.tmp 30) 28) 4) (.tmp 29) (.tmp 30), (some (28, true)), [], false⟩,
      ⟨(some 32), .pick (.tmp 28) (.tmp 31) (.const (.bool false)), none, [], false⟩,
      ⟨(some 8), .mov (.tmp 32), none, [], false⟩]) (.seq (.region [
      ⟨(some 33), .mov (.tmp 4), none, [], false⟩,
      ⟨(some 34), .callV (.func 14) [(.tmp 33)], none, [], false⟩]) (.seq (.region [
      ⟨(some 35), .mov (.tmp 8), none, [], false⟩,
      ⟨(some 36), .mov (.tmp 35), none, [], false⟩,
      ⟨(some 37), .mov (.tmp 3), (some (36, true)), [], false⟩,
      ⟨(some 38), .mov (.tmp 0), (some (36, true)), [], false⟩,
      ⟨(some 39), .callV (.func 15) [(.tmp 37), (.tmp 38)], (some (36, true)), [], false⟩,
      ⟨(some 40), .pick (.tmp 36) (.tmp 39) (.const (.bool false)), none, [], false⟩,
      ⟨(some 41), .mov (.tmp 40), none, [], false⟩,
      ⟨(some 42), .callV (.func 9) [], (some (41, true)), [], false⟩,
      ⟨(some 43), .pick (.tmp 41) (.tmp 42) (.const (.bool false)), none, [], false⟩,
      ⟨(some 2), .mov (.tmp 43), none, [], false⟩]) .ret))))))))
noncomputable def landfalllaw05_ValsDecodes : AFunc := ⟨44, [(2, none)], landfalllaw05_ValsDecodes_c, none⟩
theorem landfalllaw05_ValsDecodes_t0 : tableOf Try.prog 3 = some landfalllaw05_ValsDecodes := by kernel_rfl
theorem landfalllaw05_ValsDecodes_t : T0 3 = some landfalllaw05_ValsDecodes := withKept_t rfl (withTrue_t rfl landfalllaw05_ValsDecodes_t0)
theorem landfalllaw05_ValsDecodes_runs {v0 : Value} {h : Heap} {R : RP} {X : XP} (k : RunC Try.prog T0 landfalllaw05_ValsDecodes_c ⟨[v0, undef, undef, undef, undef, undef, undef, undef, undef, undef, undef, undef, undef, undef, undef, undef, undef, undef, undef, undef, undef, undef, undef, undef, undef, undef, undef, undef, undef, undef, undef, undef, undef, undef, undef, undef, undef, undef, undef, undef, undef, undef, undef, undef], [], h, none⟩ (bodyQ Try.prog T0 [(2, none)] R X)) :
    Runs Try.prog T0 (.fn 3) [v0] h R X := Runs.fn landfalllaw05_ValsDecodes_t rfl k


/-! 10 landfall/landfallkit.LentBytes -/
abbrev fn_landfallkit_LentBytes : FuncId := 10
noncomputable def landfallkit_LentBytes_c : ACode :=
  (.seq (.region [
      ⟨(some 2), .mov (.const (.slice none 0 0)), none, [], false⟩]) (.seq (.region [
      ⟨(some 4), .buildSlice 5 [] 0 [], none, [], false⟩,
      ⟨(some 5), .mov (.tmp 0), none, [], false⟩,
      ⟨(some 6), .append 5 1 1 [(.int .u8 0)] false (.tmp 4) (.tmp 5), none, [], false⟩,
      ⟨(some 7), .buildSlice 5 [(.int .u8 0), (.int .u8 0), (.int .u8 0), (.int .u8 0)] 4 [(0, 1, (.const (.int .u8 201))), (1, 1, (.const (.int .u8 202))), (2, 1, (.const (.int .u8 203))), (3, 1, (.const (.int .u8 204)))], none, [], false⟩,
      ⟨(some 8), .append 5 1 1 [(.int .u8 0)] false (.tmp 6) (.tmp 7), none, [], false⟩,
      ⟨(some 3), .mov (.tmp 8), none, [], false⟩]) (.seq (.region [
      ⟨(some 9), .mov (.tmp 3), none, [], false⟩,
      ⟨(some 10), .mov (.tmp 0), none, [], false⟩,
      ⟨(some 11), .lenSl (.tmp 10), none, [], false⟩,
      ⟨(some 12), .sliceSl 1 (.tmp 9) none (some (.tmp 11)) none, none, [], false⟩,
      ⟨(some 2), .mov (.tmp 12), none, [], false⟩]) .ret)))
noncomputable def landfallkit_LentBytes : AFunc := ⟨13, [(2, none)], landfallkit_LentBytes_c, none⟩
theorem landfallkit_LentBytes_t0 : tableOf Try.prog 10 = some landfallkit_LentBytes := by kernel_rfl
theorem landfallkit_LentBytes_t : T0 10 = some landfallkit_LentBytes := withKept_t rfl (withTrue_t rfl landfallkit_LentBytes_t0)
theorem landfallkit_LentBytes_runs {v0 : Value} {h : Heap} {R : RP} {X : XP} (k : RunC Try.prog T0 landfallkit_LentBytes_c ⟨[v0, undef, undef, undef, undef, undef, undef, undef, undef, undef, undef, undef, undef], [], h, none⟩ (bodyQ Try.prog T0 [(2, none)] R X)) :
    Runs Try.prog T0 (.fn 10) [v0] h R X := Runs.fn landfallkit_LentBytes_t rfl k


/-! 11 landfall/vals.Decode -/
abbrev fn_vals_Decode : FuncId := 11
noncomputable def vals_Decode_l0 : ACode :=
  (.seq (.region [
      ⟨(some 16), .bin .lss (so (.binOp .lss 3 (.tmp 15) (.tmp 14) 3) 4) (.tmp 15) (.tmp 14), none, [], false⟩]) (.seq (.cond (.tmp 16)
    .skip
    (.exit 0)) (.seq (.block 1 (.seq (.region [
      ⟨(some 17), .mov (.tmp 4), none, [], false⟩,
      ⟨(some 18), .callV (.func 42) [(.tmp 17)], none, [], false⟩,
      ⟨(some 19), .build [(.int .u8 0), (.int .u8 0), (.int .u8 0), (.int .u8 0), (.int .i64 0)] [(0, 4, (.tmp 18))], none, [], false⟩,
      ⟨(some 6), .alloc 54 [(.int .u8 0), (.int .u8 0), (.int .u8 0), (.int .u8 0), (.int .i64 0)], none, [], false⟩,
      ⟨none, .store 5 (.tmp 6) (.tmp 19), none, [], false⟩]) (.seq (.region [
      ⟨(some 20), .mov (.tmp 4), none, [], false⟩,
      ⟨(some 21), .callV (.func 41) [(.tmp 20)], none, [], false⟩,
      ⟨(some 22), .fieldAddr 4 (.tmp 6), none, [], false⟩,
      ⟨none, .store 1 (.tmp 22) (.tmp 21), none, [], false⟩]) (.region [
      ⟨(some 23), .mov (.tmp 2), none, [], false⟩,
      ⟨(some 24), .load (some 5) (.tmp 6), none, [], false⟩,
      ⟨(some 25), .buildSlice 54 [(.int .u8 0), (.int .u8 0), (.int .u8 0), (.int .u8 0), (.int .i64 0)] 1 [(0, 5, (.tmp 24))], none, [], false⟩,
      ⟨(some 26), .append 54 5 16 [(.int .u8 0), (.int .u8 0), (.int .u8 0), (.int .u8 0), (.int .i64 0)] false (.tmp 23) (.tmp 25), none, [], false⟩,
      ⟨(some 2), .mov (.tmp 26), none, [], false⟩])))) (.region [
      ⟨(some 27), .bin .add (so (.binOp .add 3 (.tmp 15) (.const (.int .i64 1)) 3) 3) (.tmp 15) (.const (.int .i64 1)), none, [], false⟩,
      ⟨(some 15), .mov (.tmp 27), none, [], false⟩]))))
noncomputable def vals_Decode_c : ACode :=
  (.seq (.region [
      ⟨(some 2), .mov (.const (.slice none 0 0)), none, [], false⟩,
      ⟨(some 3), .alloc 28 [(.int .i64 0), (.int .i64 0)], none, [], false⟩]) (.seq (.region [
      ⟨(some 7), .mov (.tmp 0), none, [], false⟩,
      ⟨(some 8), .callV (.func 40) [(.tmp 7)], none, [], false⟩,
      ⟨(some 4), .mov (.tmp 8), none, [], false⟩]) (.seq (.region [
      ⟨(some 9), .mov (.tmp 4), none, [], false⟩,
      ⟨(some 10), .callV (.func 41) [(.tmp 9)], none, [], false⟩,
      ⟨(some 5), .mov (.tmp 10), none, [], false⟩]) (.seq (.seq (.region [
      ⟨(some 11), .mov (.tmp 5), none, [], false⟩,
      ⟨(some 12), .bin .gtr (so (.binOp .gtr 3 (.tmp 11) (.const (.int .i64 64)) 3) 4) (.tmp 11) (.const (.int .i64 64)), none, [], false⟩]) (.cond (.tmp 12)
    (.seq (.region [
      ⟨(some 13), .build [(.int .i64 0), (.int .i64 0)] [(0, 1, (.const (.int .i64 4)))], none, [], false⟩,
      ⟨(some 2), .mov (.const (.slice none 0 0)), none, [], false⟩,
      ⟨none, .store 2 (.tmp 3) (.tmp 13), none, [], false⟩]) .ret)
    .skip)) (.seq (.seq (.region [
      ⟨(some 14), .mov (.tmp 5), none, [], false⟩,
      ⟨(some 15), .mov (.const (.int .i64 0)), none, [], false⟩]) (.block 0 (.loop vals_Decode_l0))) (.seq (.seq (.region [
      ⟨(some 28), .mov (.tmp 4), none, [], false⟩,
      ⟨(some 29), .callV (.func 43) [(.tmp 28)], none, [], false⟩,
      ⟨none, .store 2 (.tmp 3) (.tmp 29), none, [], false⟩]) (.seq (.region [
      ⟨(some 30), .load (some 2) (.tmp 3), none, [], false⟩,
      ⟨(some 31), .build [(.int .i64 0), (.int .i64 0)] [], none, [], false⟩,
      ⟨(some 32), .bin .eql (so (.binOp .eql 28 (.tmp 30) (.tmp 31) 28) 4) (.tmp 30) (.tmp 31), none, [], false⟩]) (.cond (.tmp 32)
    (.region [
      ⟨(some 33), .mov (.tmp 2), none, [], false⟩,
      ⟨(some 34), .callV (.func 22) [(.tmp 33)], none, [], false⟩,
      ⟨(some 35), .fieldAddr 0 (.tmp 3), none, [], false⟩,
      ⟨none, .store 1 (.tmp 35) (.tmp 34), none, [], false⟩])
    .skip))) (.seq (.seq (.region [
      ⟨(some 36), .load (some 2) (.tmp 3), none, [], false⟩,
      ⟨(some 37), .build [(.int .i64 0), (.int .i64 0)] [], none, [], false⟩,
      ⟨(some 38), .bin .neq (so (.binOp .neq 28 (.tmp 36) (.tmp 37) 28) 4) (.tmp 36) (.tmp 37), none, [], false⟩]) (.cond (.tmp 38)
    (.seq (.regionD [
      ⟨(some 39), .load (some 2) (.tmp 3), none, [], false⟩,
      ⟨(some 2), .mov (.const (.slice none 0 0)), none, [], false⟩,
      ⟨none, .store 2 (.tmp 3) (.tmp 39), none, [], true⟩]) .ret)
    .skip)) (.seq (.regionD [
      ⟨(some 40), .mov (.tmp 2), none, [], false⟩,
      ⟨(some 41), .load (some 2) (.tmp 3), none, [], false⟩,
      ⟨(some 2), .mov (.tmp 40), none, [((some 41), .load (some 2) (.tmp 3), none)], false⟩,
      ⟨none, .store 2 (.tmp 3) (.tmp 41), none, [], true⟩]) .ret))))))))
noncomputable def vals_Decode : AFunc := ⟨42, [(2, none), (3, some (some 2))], vals_Decode_c, none⟩
theorem vals_Decode_t0 : tableOf Try.prog 11 = some vals_Decode := by kernel_rfl
theorem vals_Decode_t : T0 11 = some vals_Decode := withKept_t rfl (withTrue_t rfl vals_Decode_t0)
theorem vals_Decode_runs {v0 : Value} {h : Heap} {R : RP} {X : XP} (k : RunC Try.prog T0 vals_Decode_c ⟨[v0, undef, undef, undef, undef, undef, undef, undef, undef, undef, undef, undef, undef, undef, undef, undef, undef, undef, undef, undef, undef, undef, undef, undef, undef, undef, undef, undef, undef, undef, undef, undef, undef, undef, undef, undef, undef, undef, undef, undef, undef, undef], [], h, none⟩ (bodyQ Try.prog T0 [(2, none), (3, some (some 2))] R X)) :
    Runs Try.prog T0 (.fn 11) [v0] h R X := Runs.fn vals_Decode_t rfl k
/-- the slots that turn in the loop: v2 v15 -/
noncomputable def vals_Decode_l0_J (f0 f1 f3 f4 f5 f7 f8 f9 f10 f11 f12 f13 f14 f28 f29 f30 f31 f32 f33 f34 f35 f36 f37 f38 f39 f40 f41 : Value) (ds : List Deferred) (rd : Option Nat) (I : Nat → Value → Value → Heap → Prop) (m : Nat) (s : St) : Prop := ∃ (v2 v15 : Value), ∃ h : Heap, ∃ (x6 x16 x17 x18 x19 x20 x21 x22 x23 x24 x25 x26 x27 : Value), s = ⟨[f0, f1, v2, f3, f4, f5, x6, f7, f8, f9, f10, f11, f12, f13, f14, v15, x16, x17, x18, x19, x20, x21, x22, x23, x24, x25, x26, x27, f28, f29, f30, f31, f32, f33, f34, f35, f36, f37, f38, f39, f40, f41], ds, h, rd⟩ ∧ I m v2 v15 h
theorem vals_Decode_l0_rule {f0 f1 f3 f4 f5 f7 f8 f9 f10 f11 f12 f13 f14 f28 f29 f30 f31 f32 f33 f34 f35 f36 f37 f38 f39 f40 f41 : Value} {ds : List Deferred} {rd : Option Nat} {Q : QP} (I : Nat → Value → Value → Heap → Prop) (hb : ∀ (m : Nat) (v2 v15 : Value) (h : Heap) (x6 x16 x17 x18 x19 x20 x21 x22 x23 x24 x25 x26 x27 : Value) , I m v2 v15 h → RunC Try.prog T0 vals_Decode_l0 ⟨[f0, f1, v2, f3, f4, f5, x6, f7, f8, f9, f10, f11, f12, f13, f14, v15, x16, x17, x18, x19, x20, x21, x22, x23, x24, x25, x26, x27, f28, f29, f30, f31, f32, f33, f34, f35, f36, f37, f38, f39, f40, f41], ds, h, rd⟩ (loopQ (vals_Decode_l0_J f0 f1 f3 f4 f5 f7 f8 f9 f10 f11 f12 f13 f14 f28 f29 f30 f31 f32 f33 f34 f35 f36 f37 f38 f39 f40 f41 ds rd I) m Q))
    (m : Nat) {v2 v15 : Value} {h : Heap} {x6 x16 x17 x18 x19 x20 x21 x22 x23 x24 x25 x26 x27 : Value} (hi : I m v2 v15 h) : RunC Try.prog T0 (.loop vals_Decode_l0) ⟨[f0, f1, v2, f3, f4, f5, x6, f7, f8, f9, f10, f11, f12, f13, f14, v15, x16, x17, x18, x19, x20, x21, x22, x23, x24, x25, x26, x27, f28, f29, f30, f31, f32, f33, f34, f35, f36, f37, f38, f39, f40, f41], ds, h, rd⟩ Q :=
  RunC.loopJ (vals_Decode_l0_J f0 f1 f3 f4 f5 f7 f8 f9 f10 f11 f12 f13 f14 f28 f29 f30 f31 f32 f33 f34 f35 f36 f37 f38 f39 f40 f41 ds rd I) (fun m s hj => by obtain ⟨v2, v15, h, x6, x16, x17, x18, x19, x20, x21, x22, x23, x24, x25, x26, x27, rfl, hi⟩ := hj; exact hb m v2 v15 h x6 x16 x17 x18 x19 x20 x21 x22 x23 x24 x25 x26 x27 hi) m _ ⟨_, _, h, _, _, _, _, _, _, _, _, _, _, _, _, _, rfl, hi⟩
theorem vals_Decode_l0_again {f0 f1 f3 f4 f5 f7 f8 f9 f10 f11 f12 f13 f14 f28 f29 f30 f31 f32 f33 f34 f35 f36 f37 f38 f39 f40 f41 : Value} {ds : List Deferred} {rd : Option Nat} {Q : QP} {I : Nat → Value → Value → Heap → Prop} {m : Nat} (m' : Nat) {v2 v15 : Value} {h : Heap} {x6 x16 x17 x18 x19 x20 x21 x22 x23 x24 x25 x26 x27 : Value} (hm : m' < m) (hi : I m' v2 v15 h) : loopQ (vals_Decode_l0_J f0 f1 f3 f4 f5 f7 f8 f9 f10 f11 f12 f13 f14 f28 f29 f30 f31 f32 f33 f34 f35 f36 f37 f38 f39 f40 f41 ds rd I) m Q .normal ⟨[f0, f1, v2, f3, f4, f5, x6, f7, f8, f9, f10, f11, f12, f13, f14, v15, x16, x17, x18, x19, x20, x21, x22, x23, x24, x25, x26, x27, f28, f29, f30, f31, f32, f33, f34, f35, f36, f37, f38, f39, f40, f41], ds, h, rd⟩ :=
  loopQ.again m' hm ⟨_, _, h, _, _, _, _, _, _, _, _, _, _, _, _, _, rfl, hi⟩

/-! 12 landfall/landfallref05.Decode -/
abbrev fn_landfallref05_Decode : FuncId := 12
noncomputable def landfallref05_Decode_l0 : ACode :=
  (.seq (.seq (.region [
      ⟨(some 17), .mov (.tmp 7), none, [], false⟩,
      ⟨(some 18), .mov (.tmp 5), none, [], false⟩,
      ⟨(some 19), .bin .lss (so (.binOp .lss 3 (.tmp 17) (.tmp 18) 3) 4) (.tmp 17) (.tmp 18), none, [], false⟩]) (.cond (.tmp 19)
    .skip
    (.exit 0))) (.seq (.block 1 (.seq (.region [
      ⟨(some 22), .mov (.tmp 4), none, [], false⟩,
      ⟨(some 23), .callV (.func 46) [(.tmp 22)], none, [], false⟩,
      ⟨(some 8), .alloc 42 [(.int .u8 0), (.int .u8 0), (.int .u8 0), (.int .u8 0)], none, [], false⟩,
      ⟨none, .store 4 (.tmp 8) (.tmp 23), none, [], false⟩]) (.regionD [
      ⟨(some 24), .mov (.tmp 6), none, [], false⟩,
      ⟨(some 25), .load (some 4) (.tmp 8), none, [], false⟩,
      ⟨(some 26), .mov (.tmp 4), none, [], false⟩,
      ⟨(some 27), .callV (.func 45) [(.tmp 26)], none, [((some 25), .load (some 4) (.tmp 8), none), ((some 24), .mov (.tmp 6), none)], false⟩,
      ⟨(some 28), .build [(.int .u8 0), (.int .u8 0), (.int .u8 0), (.int .u8 0), (.int .i64 0)] [(0, 4, (.tmp 25)), (4, 1, (.tmp 27))], none, [], false⟩,
      ⟨(some 29), .buildSlice 54 [(.int .u8 0), (.int .u8 0), (.int .u8 0), (.int .u8 0), (.int .i64 0)] 1 [(0, 5, (.tmp 28))], none, [((some 24), .mov (.tmp 6), none)], false⟩,
      ⟨(some 30), .append 54 5 16 [(.int .u8 0), (.int .u8 0), (.int .u8 0), (.int .u8 0), (.int .i64 0)] false (.tmp 24) (.tmp 29), none, [], true⟩,
      ⟨(some 6), .mov (.tmp 30), none, [], true⟩]))) (.region [
      ⟨(some 20), .mov (.tmp 7), none, [], false⟩,
      ⟨(some 21), .bin .add (so (.binOp .add 3 (.tmp 20) (.const (.int .i64 1)) 3) 3) (.tmp 20) (.const (.int .i64 1)), none, [], false⟩,
      ⟨(some 7), .mov (.tmp 21), none, [], false⟩])))
noncomputable def landfallref05_Decode_c : ACode :=
  (.seq (.region [
      ⟨(some 2), .mov (.const (.slice none 0 0)), none, [], false⟩,
      ⟨(some 3), .alloc 28 [(.int .i64 0), (.int .i64 0)], none, [], false⟩]) (.seq (.region [
      ⟨(some 10), .mov (.tmp 0), none, [], false⟩,
      ⟨(some 11), .callV (.func 44) [(.tmp 10)], none, [], false⟩,
      ⟨(some 4), .mov (.tmp 11), none, [], false⟩]) (.seq (.region [
      ⟨(some 12), .mov (.tmp 4), none, [], false⟩,
      ⟨(some 13), .callV (.func 45) [(.tmp 12)], none, [], false⟩,
      ⟨(some 5), .mov (.tmp 13), none, [], false⟩]) (.seq (.seq (.region [
      ⟨(some 14), .mov (.tmp 5), none, [], false⟩,
      ⟨(some 15), .bin .gtr (so (.binOp .gtr 3 (.tmp 14) (.const (.int .i64 64)) 3) 4) (.tmp 14) (.const (.int .i64 64)), none, [], false⟩]) (.cond (.tmp 15)
    (.seq (.region [
      ⟨(some 16), .build [(.int .i64 0), (.int .i64 0)] [(0, 1, (.const (.int .i64 4)))], none, [], false⟩,
      ⟨(some 2), .mov (.const (.slice none 0 0)), none, [], false⟩,
      ⟨none, .store 2 (.tmp 3) (.tmp 16), none, [], false⟩]) .ret)
    .skip)) (.seq (.region [
      ⟨(some 6), .mov (.const (.slice none 0 0)), none, [], false⟩]) (.seq (.seq (.region [
      ⟨(some 7), .mov (.const (.int .i64 0)), none, [], false⟩]) (.block 0 (.loop landfallref05_Decode_l0))) (.seq (.region [
      ⟨(some 31), .mov (.tmp 4), none, [], false⟩,
      ⟨(some 32), .callV (.func 47) [(.tmp 31)], none, [], false⟩,
      ⟨(some 9), .alloc 28 [(.int .i64 0), (.int .i64 0)], none, [], false⟩,
      ⟨none, .store 2 (.tmp 9) (.tmp 32), none, [], false⟩]) (.seq (.seq (.region [
      ⟨(some 33), .fieldAddr 0 (.tmp 9), none, [], false⟩,
      ⟨(some 34), .load none (.tmp 33), none, [], false⟩,
      ⟨(some 35), .bin .eql (so (.binOp .eql 26 (.tmp 34) (.const (.int .i64 0)) 26) 4) (.tmp 34) (.const (.int .i64 0)), none, [], false⟩]) (.cond (.tmp 35)
    (.region [
      ⟨(some 36), .mov (.tmp 6), none, [], false⟩,
      ⟨(some 37), .callV (.func 38) [(.tmp 36)], none, [], false⟩,
      ⟨(some 38), .fieldAddr 0 (.tmp 9), none, [], false⟩,
      ⟨none, .store 1 (.tmp 38) (.tmp 37), none, [], false⟩])
    .skip)) (.seq (.seq (.region [
      ⟨(some 39), .fieldAddr 0 (.tmp 9), none, [], false⟩,
      ⟨(some 40), .load none (.tmp 39), none, [], false⟩,
      ⟨(some 41), .bin .neq (so (.binOp .neq 26 (.tmp 40) (.const (.int .i64 0)) 26) 4) (.tmp 40) (.const (.int .i64 0)), none, [], false⟩]) (.cond (.tmp 41)
    (.seq (.regionD [
      ⟨(some 42), .load (some 2) (.tmp 9), none, [], false⟩,
      ⟨(some 2), .mov (.const (.slice none 0 0)), none, [], false⟩,
      ⟨none, .store 2 (.tmp 3) (.tmp 42), none, [], true⟩]) .ret)
    .skip)) (.seq (.regionD [
      ⟨(some 43), .mov (.tmp 6), none, [], false⟩,
      ⟨(some 44), .load (some 2) (.tmp 9), none, [], false⟩,
      ⟨(some 2), .mov (.tmp 43), none, [], false⟩,
      ⟨none, .store 2 (.tmp 3) (.tmp 44), none, [], true⟩]) .ret))))))))))
noncomputable def landfallref05_Decode : AFunc := ⟨45, [(2, none), (3, some (some 2))], landfallref05_Decode_c, none⟩
theorem landfallref05_Decode_t0 : tableOf Try.prog 12 = some landfallref05_Decode := by kernel_rfl
theorem landfallref05_Decode_t : T0 12 = some landfallref05_Decode := withKept_t rfl (withTrue_t rfl landfallref05_Decode_t0)
theorem landfallref05_Decode_runs {v0 : Value} {h : Heap} {R : RP} {X : XP} (k : RunC Try.prog T0 landfallref05_Decode_c ⟨[v0, undef, undef, undef, undef, undef, undef, undef, undef, undef, undef, undef, undef, undef, undef, undef, undef, undef, undef, undef, undef, undef, undef, undef, undef, undef, undef, undef, undef, undef, undef, undef, undef, undef, undef, undef, undef, undef, undef, undef, undef, undef, undef, undef, undef], [], h, none⟩ (bodyQ Try.prog T0 [(2, none), (3, some (some 2))] R X)) :
    Runs Try.prog T0 (.fn 12) [v0] h R X := Runs.fn landfallref05_Decode_t rfl k
/-- the slots that turn in the loop: v6 v7 -/
noncomputable def landfallref05_Decode_l0_J (f0 f1 f2 f3 f4 f5 f9 f10 f11 f12 f13 f14 f15 f16 f31 f32 f33 f34 f35 f36 f37 f38 f39 f40 f41 f42 f43 f44 : Value) (ds : List Deferred) (rd : Option Nat) (I : Nat → Value → Value → Heap → Prop) (m : Nat) (s : St) : Prop := ∃ (v6 v7 : Value), ∃ h : Heap, ∃ (x8 x17 x18 x19 x20 x21 x22 x23 x24 x25 x26 x27 x28 x29 x30 : Value), s = ⟨[f0, f1, f2, f3, f4, f5, v6, v7, x8, f9, f10, f11, f12, f13, f14, f15, f16, x17, x18, x19, x20, x21, x22, x23, x24, x25, x26, x27, x28, x29, x30, f31, f32, f33, f34, f35, f36, f37, f38, f39, f40, f41, f42, f43, f44], ds, h, rd⟩ ∧ I m v6 v7 h
theorem landfallref05_Decode_l0_rule {f0 f1 f2 f3 f4 f5 f9 f10 f11 f12 f13 f14 f15 f16 f31 f32 f33 f34 f35 f36 f37 f38 f39 f40 f41 f42 f43 f44 : Value} {ds : List Deferred} {rd : Option Nat} {Q : QP} (I : Nat → Value → Value → Heap → Prop) (hb : ∀ (m : Nat) (v6 v7 : Value) (h : Heap) (x8 x17 x18 x19 x20 x21 x22 x23 x24 x25 x26 x27 x28 x29 x30 : Value) , I m v6 v7 h → RunC Try.prog T0 landfallref05_Decode_l0 ⟨[f0, f1, f2, f3, f4, f5, v6, v7, x8, f9, f10, f11, f12, f13, f14, f15, f16, x17, x18, x19, x20, x21, x22, x23, x24, x25, x26, x27, x28, x29, x30, f31, f32, f33, f34, f35, f36, f37, f38, f39, f40, f41, f42, f43, f44], ds, h, rd⟩ (loopQ (landfallref05_Decode_l0_J f0 f1 f2 f3 f4 f5 f9 f10 f11 f12 f13 f14 f15 f16 f31 f32 f33 f34 f35 f36 f37 f38 f39 f40 f41 f42 f43 f44 ds rd I) m Q))
    (m : Nat) {v6 v7 : Value} {h : Heap} {x8 x17 x18 x19 x20 x21 x22 x23 x24 x25 x26 x27 x28 x29 x30 : Value} (hi : I m v6 v7 h) : RunC Try.prog T0 (.loop landfallref05_Decode_l0) ⟨[f0, f1, f2, f3, f4, f5, v6, v7, x8, f9, f10, f11, f12, f13, f14, f15, f16, x17, x18, x19, x20, x21, x22, x23, x24, x25, x26, x27, x28, x29, x30, f31, f32, f33, f34, f35, f36, f37, f38, f39, f40, f41, f42, f43, f44], ds, h, rd⟩ Q :=
  RunC.loopJ (landfallref05_Decode_l0_J f0 f1 f2 f3 f4 f5 f9 f10 f11 f12 f13 f14 f15 f16 f31 f32 f33 f34 f35 f36 f37 f38 f39 f40 f41 f42 f43 f44 ds rd I) (fun m s hj => by obtain ⟨v6, v7, h, x8, x17, x18, x19, x20, x21, x22, x23, x24, x25, x26, x27, x28, x29, x30, rfl, hi⟩ := hj; exact hb m v6 v7 h x8 x17 x18 x19 x20 x21 x22 x23 x24 x25 x26 x27 x28 x29 x30 hi) m _ ⟨_, _, h, _, _, _, _, _, _, _, _, _, _, _, _, _, _, _, rfl, hi⟩
theorem landfallref05_Decode_l0_again {f0 f1 f2 f3 f4 f5 f9 f10 f11 f12 f13 f14 f15 f16 f31 f32 f33 f34 f35 f36 f37 f38 f39 f40 f41 f42 f43 f44 : Value} {ds : List Deferred} {rd : Option Nat} {Q : QP} {I : Nat → Value → Value → Heap → Prop} {m : Nat} (m' : Nat) {v6 v7 : Value} {h : Heap} {x8 x17 x18 x19 x20 x21 x22 x23 x24 x25 x26 x27 x28 x29 x30 : Value} (hm : m' < m) (hi : I m' v6 v7 h) : loopQ (landfallref05_Decode_l0_J f0 f1 f2 f3 f4 f5 f9 f10 f11 f12 f13 f14 f15 f16 f31 f32 f33 f34 f35 f36 f37 f38 f39 f40 f41 f42 f43 f44 ds rd I) m Q .normal ⟨[f0, f1, f2, f3, f4, f5, v6, v7, x8, f9, f10, f11, f12, f13, f14, f15, f16, x17, x18, x19, x20, x21, x22, x23, x24, x25, x26, x27, x28, x29, x30, f31, f32, f33, f34, f35, f36, f37, f38, f39, f40, f41, f42, f43, f44], ds, h, rd⟩ :=
  loopQ.again m' hm ⟨_, _, h, _, _, _, _, _, _, _, _, _, _, _, _, _, _, _, rfl, hi⟩

/-! 13 landfall/landfallkit.SameVals -/
abbrev fn_landfallkit_SameVals : FuncId := 13
noncomputable def landfallkit_SameVals_l0 : ACode :=
  (.seq (.seq (.region [
      ⟨(some 12), .mov (.tmp 5), none, [], false⟩,
      ⟨(some 13), .mov (.tmp 12), none, [], false⟩,
      ⟨(some 14), .mov (.tmp 6), (some (13, true)), [], false⟩,
      ⟨(some 15), .mov (.tmp 0), (some (13, true)), [], false⟩,
      ⟨(some 16), .lenSl (.tmp 15), (some (13, true)), [], false⟩,
      ⟨(some 17), .bin .lss (so (.binOp .lss 3 (.tmp 14) (.tmp 16) 3) 4) (.tmp 14) (.tmp 16), (some (13, true)), [], false⟩,
      ⟨(some 18), .pick (.tmp 13) (.tmp 17) (.const (.bool false)), none, [], false⟩]) (.cond (.tmp 18)
    .skip
    (.exit 0))) (.seq (.block 1 (.regionD [
      ⟨(some 21), .mov (.tmp 0), none, [], false⟩,
      ⟨(some 22), .mov (.tmp 6), none, [], false⟩,
      ⟨(some 23), .indexSl 5 (.tmp 21) (.tmp 22), none, [], false⟩,
      ⟨(some 24), .load (some 5) (.tmp 23), none, [], false⟩,
      ⟨(some 25), .mov (.tmp 1), none, [], false⟩,
      ⟨(some 26), .mov (.tmp 6), none, [], false⟩,
      ⟨(some 27), .indexSl 5 (.tmp 25) (.tmp 26), none, [], false⟩,
      ⟨(some 28), .load (some 5) (.tmp 27), none, [], false⟩,
      ⟨(some 29), .bin .eql (so (.binOp .eql 54 (.tmp 24) (.tmp 28) 54) 4) (.tmp 24) (.tmp 28), none, [], true⟩,
      ⟨(some 5), .mov (.tmp 29), none, [], true⟩])) (.region [
      ⟨(some 19), .mov (.tmp 6), none, [], false⟩,
      ⟨(some 20), .bin .add (so (.binOp .add 3 (.tmp 19) (.const (.int .i64 1)) 3) 3) (.tmp 19) (.const (.int .i64 1)), none, [], false⟩,
      ⟨(some 6), .mov (.tmp 20), none, [], false⟩])))
noncomputable def landfallkit_SameVals_c : ACode :=
  (.seq (.region [
      ⟨(some 4), .mov (.const (.bool false)), none, [], false⟩]) (.seq (.region [
      ⟨(some 7), .mov (.tmp 0), none, [], false⟩,
      ⟨(some 8), .lenSl (.tmp 7), none, [], false⟩,
      ⟨(some 9), .mov (.tmp 1), none, [], false⟩,
      ⟨(some 10), .lenSl (.tmp 9), none, [], false⟩,
      ⟨(some 11), .bin .eql (so (.binOp .eql 3 (.tmp 8) (.tmp 10) 3) 4) (.tmp 8) (.tmp 10), none, [], false⟩,
      ⟨(some 5), .mov (.tmp 11), none, [], false⟩]) (.seq (.seq (.region [
      ⟨(some 6), .mov (.const (.int .i64 0)), none, [], false⟩]) (.block 0 (.loop landfallkit_SameVals_l0))) (.seq (.region [
      ⟨(some 30), .mov (.tmp 5), none, [], false⟩,
      ⟨(some 4), .mov (.tmp 30), none, [], false⟩]) .ret))))
noncomputable def landfallkit_SameVals : AFunc := ⟨31, [(4, none)], landfallkit_SameVals_c, none⟩
theorem landfallkit_SameVals_t0 : tableOf Try.prog 13 = some landfallkit_SameVals := by kernel_rfl
theorem landfallkit_SameVals_t : T0 13 = some landfallkit_SameVals := withKept_t rfl (withTrue_t rfl landfallkit_SameVals_t0)
theorem landfallkit_SameVals_runs {v0 v1 : Value} {h : Heap} {R : RP} {X : XP} (k : RunC Try.prog T0 landfallkit_SameVals_c ⟨[v0, v1, undef, undef, undef, undef, undef, undef, undef, undef, undef, undef, undef, undef, undef, undef, undef, undef, undef, undef, undef, undef, undef, undef, undef, undef, undef, undef, undef, undef, undef], [], h, none⟩ (bodyQ Try.prog T0 [(4, none)] R X)) :
    Runs Try.prog T0 (.fn 13) [v0, v1] h R X := Runs.fn landfallkit_SameVals_t rfl k
/-- the slots that turn in the loop: v5 v6 -/
noncomputable def landfallkit_SameVals_l0_J (f0 f1 f2 f3 f4 f7 f8 f9 f10 f11 f30 : Value) (ds : List Deferred) (rd : Option Nat) (I : Nat → Value → Value → Heap → Prop) (m : Nat) (s : St) : Prop := ∃ (v5 v6 : Value), ∃ h : Heap, ∃ (x12 x13 x14 x15 x16 x17 x18 x19 x20 x21 x22 x23 x24 x25 x26 x27 x28 x29 : Value), s = ⟨[f0, f1, f2, f3, f4, v5, v6, f7, f8, f9, f10, f11, x12, x13, x14, x15, x16, x17, x18, x19, x20, x21, x22, x23, x24, x25, x26, x27, x28, x29, f30], ds, h, rd⟩ ∧ I m v5 v6 h
theorem landfallkit_SameVals_l0_rule {f0 f1 f2 f3 f4 f7 f8 f9 f10 f11 f30 : Value} {ds : List Deferred} {rd : Option Nat} {Q : QP} (I : Nat → Value → Value → Heap → Prop) (hb : ∀ (m : Nat) (v5 v6 : Value) (h : Heap) (x12 x13 x14 x15 x16 x17 x18 x19 x20 x21 x22 x23 x24 x25 x26 x27 x28 x29 : Value) , I m v5 v6 h → RunC Try.prog T0 landfallkit_SameVals_l0 ⟨[f0, f1, f2, f3, f4, v5, v6, f7, f8, f9, f10, f11, x12, x13, x14, x15, x16, x17, x18, x19, x20, x21, x22, x23, x24, x25, x26, x27, x28, x29, f30], ds, h, rd⟩ (loopQ (landfallkit_SameVals_l0_J f0 f1 f2 f3 f4 f7 f8 f9 f10 f11 f30 ds rd I) m Q))
    (m : Nat) {v5 v6 : Value} {h : Heap} {x12 x13 x14 x15 x16 x17 x18 x19 x20 x21 x22 x23 x24 x25 x26 x27 x28 x29 : Value} (hi : I m v5 v6 h) : RunC Try.prog T0 (.loop landfallkit_SameVals_l0) ⟨[f0, f1, f2, f3, f4, v5, v6, f7, f8, f9, f10, f11, x12, x13, x14, x15, x16, x17, x18, x19, x20, x21, x22, x23, x24, x25, x26, x27, x28, x29, f30], ds, h, rd⟩ Q :=
  RunC.loopJ (landfallkit_SameVals_l0_J f0 f1 f2 f3 f4 f7 f8 f9 f10 f11 f30 ds rd I) (fun m s hj => by obtain ⟨v5, v6, h, x12, x13, x14, x15, x16, x17, x18, x19, x20, x21, x22, x23, x24, x25, x26, x27, x28, x29, rfl, hi⟩ := hj; exact hb m v5 v6 h x12 x13 x14 x15 x16 x17 x18 x19 x20 x21 x22 x23 x24 x25 x26 x27 x28 x29 hi) m _ ⟨_, _, h, _, _, _, _, _, _, _, _, _, _, _, _, _, _, _, _, _, _, rfl, hi⟩
theorem landfallkit_SameVals_l0_again {f0 f1 f2 f3 f4 f7 f8 f9 f10 f11 f30 : Value} {ds : List Deferred} {rd : Option Nat} {Q : QP} {I : Nat → Value → Value → Heap → Prop} {m : Nat} (m' : Nat) {v5 v6 : Value} {h : Heap} {x12 x13 x14 x15 x16 x17 x18 x19 x20 x21 x22 x23 x24 x25 x26 x27 x28 x29 : Value} (hm : m' < m) (hi : I m' v5 v6 h) : loopQ (landfallkit_SameVals_l0_J f0 f1 f2 f3 f4 f7 f8 f9 f10 f11 f30 ds rd I) m Q .normal ⟨[f0, f1, f2, f3, f4, v5, v6, f7, f8, f9, f10, f11, x12, x13, x14, x15, x16, x17, x18, x19, x20, x21, x22, x23, x24, x25, x26, x27, x28, x29, f30], ds, h, rd⟩ :=
  loopQ.again m' hm ⟨_, _, h, _, _, _, _, _, _, _, _, _, _, _, _, _, _, _, _, _, _, rfl, hi⟩

/-! 14 landfall/landfallkit.OverVals -/
abbrev fn_landfallkit_OverVals : FuncId := 14
noncomputable def landfallkit_OverVals_l0 : ACode :=
  (.seq (.seq (.region [
      ⟨(some 3), .mov (.tmp 2), none, [], false⟩,
      ⟨(some 4), .mov (.tmp 0), none, [], false⟩,
      ⟨(some 5), .lenSl (.tmp 4), none, [], false⟩,
      ⟨(some 6), .bin .lss (so (.binOp .lss 3 (.tmp 3) (.tmp 5) 3) 4) (.tmp 3) (.tmp 5), none, [], false⟩]) (.cond (.tmp 6)
    .skip
    (.exit 0))) (.seq (.block 1 (.region [
      ⟨(some 9), .mov (.tmp 0), none, [], false⟩,
      ⟨(some 10), .mov (.tmp 2), none, [], false⟩,
      ⟨(some 11), .build [(.int .u8 0), (.int .u8 0), (.int .u8 0), (.int .u8 0), (.int .i64 0)] [(4, 1, (.const (.int .i64 (-7))))], none, [], false⟩,
      ⟨(some 12), .indexSl 5 (.tmp 9) (.tmp 10), none, [], false⟩,
      ⟨none, .store 5 (.tmp 12) (.tmp 11), none, [], false⟩])) (.region [
      ⟨(some 7), .mov (.tmp 2), none, [], false⟩,
      ⟨(some 8), .bin .add (so (.binOp .add 3 (.tmp 7) (.const (.int .i64 1)) 3) 3) (.tmp 7) (.const (.int .i64 1)), none, [], false⟩,
      ⟨(some 2), .mov (.tmp 8), none, [], false⟩])))
noncomputable def landfallkit_OverVals_c : ACode :=
  (.seq (.region [
      ⟨(some 2), .mov (.const (.int .i64 0)), none, [], false⟩]) (.block 0 (.loop landfallkit_OverVals_l0)))
noncomputable def landfallkit_OverVals : AFunc := ⟨13, [], landfallkit_OverVals_c, none⟩
theorem landfallkit_OverVals_t0 : tableOf Try.prog 14 = some landfallkit_OverVals := by kernel_rfl
theorem landfallkit_OverVals_t : T0 14 = some landfallkit_OverVals := withKept_t rfl (withTrue_t rfl landfallkit_OverVals_t0)
theorem landfallkit_OverVals_runs {v0 : Value} {h : Heap} {R : RP} {X : XP} (k : RunC Try.prog T0 landfallkit_OverVals_c ⟨[v0, undef, undef, undef, undef, undef, undef, undef, undef, undef, undef, undef, undef], [], h, none⟩ (bodyQ Try.prog T0 [] R X)) :
    Runs Try.prog T0 (.fn 14) [v0] h R X := Runs.fn landfallkit_OverVals_t rfl k
/-- the slots that turn in the loop: v2 -/
noncomputable def landfallkit_OverVals_l0_J (f0 f1 : Value) (ds : List Deferred) (rd : Option Nat) (I : Nat → Value → Heap → Prop) (m : Nat) (s : St) : Prop := ∃ (v2 : Value), ∃ h : Heap, ∃ (x3 x4 x5 x6 x7 x8 x9 x10 x11 x12 : Value), s = ⟨[f0, f1, v2, x3, x4, x5, x6, x7, x8, x9, x10, x11, x12], ds, h, rd⟩ ∧ I m v2 h
theorem landfallkit_OverVals_l0_rule {f0 f1 : Value} {ds : List Deferred} {rd : Option Nat} {Q : QP} (I : Nat → Value → Heap → Prop) (hb : ∀ (m : Nat) (v2 : Value) (h : Heap) (x3 x4 x5 x6 x7 x8 x9 x10 x11 x12 : Value) , I m v2 h → RunC Try.prog T0 landfallkit_OverVals_l0 ⟨[f0, f1, v2, x3, x4, x5, x6, x7, x8, x9, x10, x11, x12], ds, h, rd⟩ (loopQ (landfallkit_OverVals_l0_J f0 f1 ds rd I) m Q))
    (m : Nat) {v2 : Value} {h : Heap} {x3 x4 x5 x6 x7 x8 x9 x10 x11 x12 : Value} (hi : I m v2 h) : RunC Try.prog T0 (.loop landfallkit_OverVals_l0) ⟨[f0, f1, v2, x3, x4, x5, x6, x7, x8, x9, x10, x11, x12], ds, h, rd⟩ Q :=
  RunC.loopJ (landfallkit_OverVals_l0_J f0 f1 ds rd I) (fun m s hj => by obtain ⟨v2, h, x3, x4, x5, x6, x7, x8, x9, x10, x11, x12, rfl, hi⟩ := hj; exact hb m v2 h x3 x4 x5 x6 x7 x8 x9 x10 x11 x12 hi) m _ ⟨_, h, _, _, _, _, _, _, _, _, _, _, rfl, hi⟩
theorem landfallkit_OverVals_l0_again {f0 f1 : Value} {ds : List Deferred} {rd : Option Nat} {Q : QP} {I : Nat → Value → Heap → Prop} {m : Nat} (m' : Nat) {v2 : Value} {h : Heap} {x3 x4 x5 x6 x7 x8 x9 x10 x11 x12 : Value} (hm : m' < m) (hi : I m' v2 h) : loopQ (landfallkit_OverVals_l0_J f0 f1 ds rd I) m Q .normal ⟨[f0, f1, v2, x3, x4, x5, x6, x7, x8, x9, x10, x11, x12], ds, h, rd⟩ :=
  loopQ.again m' hm ⟨_, h, _, _, _, _, _, _, _, _, _, _, rfl, hi⟩

/-! 15 landfall/landfallkit.KeptBytes -/
abbrev fn_landfallkit_KeptBytes : FuncId := 15
noncomputable def landfallkit_KeptBytes_c : ACode :=
  (.seq (.region [
      ⟨(some 4), .mov (.const (.bool false)), none, [], false⟩]) (.seq (.region [
      ⟨(some 6), .mov (.tmp 0), none, [], false⟩,
      ⟨(some 7), .mov (.tmp 0), none, [], false⟩,
      ⟨(some 8), .cap (.tmp 7), none, [], false⟩,
      ⟨(some 9), .sliceSl 1 (.tmp 6) none (some (.tmp 8)) none, none, [], false⟩,
      ⟨(some 5), .mov (.tmp 9), none, [], false⟩]) (.seq (.regionD [
      ⟨(some 10), .mov (.tmp 0), none, [], false⟩,
      ⟨(some 11), .lenSl (.tmp 10), none, [], false⟩,
      ⟨(some 12), .mov (.tmp 1), none, [], false⟩,
      ⟨(some 13), .lenSl (.tmp 12), none, [], false⟩,
      ⟨(some 14), .bin .eql (so (.binOp .eql 3 (.tmp 11) (.tmp 13) 3) 4) (.tmp 11) (.tmp 13), none, [], true⟩,
      ⟨(some 15), .mov (.tmp 14), none, [], true⟩,
      ⟨(some 16), .mov (.tmp 0), (some (15, true)), [], false⟩,
      ⟨(some 17), .bytesToStr (.tmp 16), (some (15, true)), [], false⟩,
      ⟨(some 18), .mov (.tmp 1), (some (15, true)), [], false⟩,
      ⟨(some 19), .bytesToStr (.tmp 18), (some (15, true)), [], false⟩,
      ⟨(some 20), .bin .eql (so (.binOp .eql 9 (.tmp 17) (.tmp 19) 9) 4) (.tmp 17) (.tmp 19), (some (15, true)), [], true⟩,
      ⟨(some 21), .pick (.tmp 15) (.tmp 20) (.const (.bool false)), none, [], true⟩,
      ⟨(some 22), .mov (.tmp 21), none, [], true⟩,
      ⟨(some 23), .mov (.tmp 5), (some (22, true)), [], false⟩,
      ⟨(some 24), .lenSl (.tmp 23), (some (22, true)), [], false⟩,
      ⟨(some 25), .mov (.tmp 1), (some (22, true)), [], false⟩,
      ⟨(some 26), .lenSl (.tmp 25), (some (22, true)), [], false⟩,
      ⟨(some 27), .bin .add (so (.binOp .add 3 (.tmp 26) (.const (.int .i64 4)) 3) 3) (.tmp 26) (.const (.int .i64 4)), (some (22, true)), [], false⟩,
      ⟨(some 28), .bin .geq (so (.binOp .geq 3 (.tmp 24) (.tmp 27) 3) 4) (.tmp 24) (.tmp 27), (some (22, true)), [], true⟩,
      ⟨(some 29), .pick (.tmp 22) (.tmp 28) (.const (.bool false)), none, [], true⟩,
      ⟨(some 30), .mov (.tmp 29), none, [], true⟩,
      ⟨(some 31), .mov (.tmp 5), (some (30, true)), [], false⟩,
      ⟨(some 32), .mov (.tmp 1), (some (30, true)), [], false⟩,
      ⟨(some 33), .lenSl (.tmp 32), (some (30, true)), [], false⟩,
      ⟨(some 34), .mov (.tmp 1), (some (30, true)), [], false⟩,
      ⟨(some 35), .lenSl (.tmp 34), (some (30, true)), [], false⟩,
      ⟨(some 36), .bin .add (so (.binOp .add 3 (.tmp 35) (.const (.int .i64 4)) 3) 3) (.tmp 35) (.const (.int .i64 4)), (some (30, true)), [], false⟩,
      ⟨(some 37), .sliceSl 1 (.tmp 31) (some (.tmp 33)) (some (.tmp 36)) none, (some (30, true)), [], false⟩,
      ⟨(some 38), .bytesToStr (.tmp 37), (some (30, true)), [], false⟩,
      ⟨(some 39), .buildSlice 5 [(.int .u8 0), (.int .u8 0), (.int .u8 0), (.int .u8 0)] 4 [(0, 1, (.const (.int .u8 201))), (1, 1, (.const (.int .u8 202))), (2, 1, (.const (.int .u8 203))), (3, 1, (.const (.int .u8 204)))], (some (30, true)), [((some 38), .bytesToStr (.tmp 37), (some (30, true))), ((some 37), .sliceSl 1 (.tmp 31) (some (.tmp 33)) (some (.tmp 36)) none, (some (30, true))), ((some 36), .bin .add (so (.binOp .add 3 (.tmp 35) (.const (.int .i64 4)) 3) 3) (.tmp 35) (.const (.int .i64 4)), (some (30, true))), ((some 35), .lenSl (.tmp 34), (some (30, true))), ((some 34), .mov (.tmp 1), (some (30, true))), ((some 33), .lenSl (.tmp 32), (some (30, true))), ((some 32), .mov (.tmp 1), (some (30, true))), ((some 31), .mov (.tmp 5), (some (30, true)))], false⟩,
      ⟨(some 40), .bytesToStr (.tmp 39), (some (30, true)), [], false⟩,
      ⟨(some 41), .bin .eql (so (.binOp .eql 9 (.tmp 38) (.tmp 40) 9) 4) (.tmp 38) (.tmp 40), (some (30, true)), [], true⟩,
      ⟨(some 42), .pick (.tmp 30) (.tmp 41) (.const (.bool false)), none, [], true⟩,
      ⟨(some 4), .mov (.tmp 42), none, [], true⟩]) .ret)))
noncomputable def landfallkit_KeptBytes : AFunc := ⟨43, [(4, none)], landfallkit_KeptBytes_c, none⟩
theorem landfallkit_KeptBytes_t0 : tableOf Try.prog 15 = some landfallkit_KeptBytes := by kernel_rfl
theorem landfallkit_KeptBytes_kept {h : Heap} {args : List Value} (hp : KeptPre args h) : Runs Try.prog T0 (.fn 15) args h (fun r h' => r = .bool true ∧ h' = h) (fun _ _ => False) := kept_runs rfl hp
theorem landfallkit_KeptBytes_runs {v0 v1 : Value} {h : Heap} {R : RP} {X : XP} (k : RunC Try.prog (tableOf Try.prog) landfallkit_KeptBytes_c ⟨[v0, v1, undef, undef, undef, undef, undef, undef, undef, undef, undef, undef, undef, undef, undef, undef, undef, undef, undef, undef, undef, undef, undef, undef, undef, undef, undef, undef, undef, undef, undef, undef, undef, undef, undef, undef, undef, undef, undef, undef, undef, undef, undef], [], h, none⟩ (bodyQ Try.prog (tableOf Try.prog) [(4, none)] R X)) :
    Runs Try.prog (tableOf Try.prog) (.fn 15) [v0, v1] h R X := Runs.fn landfallkit_KeptBytes_t0 rfl k


/-! 22 landfall/vals.Check -/
abbrev fn_vals_Check : FuncId := 22
noncomputable def vals_Check_l0 : ACode :=
  (.seq (.region [
      ⟨(some 19), .bin .lss (so (.binOp .lss 3 (.tmp 18) (.tmp 17) 3) 0) (.tmp 18) (.tmp 17), none, [], false⟩]) (.seq (.cond (.tmp 19)
    .skip
    (.exit 1)) (.seq (.block 2 (.seq (.region [
      ⟨(some 20), .indexSl 5 (.tmp 16) (.tmp 18), none, [], false⟩,
      ⟨(some 21), .load (some 5) (.tmp 20), none, [], false⟩,
      ⟨(some 5), .alloc 54 [(.int .u8 0), (.int .u8 0), (.int .u8 0), (.int .u8 0), (.int .i64 0)], none, [], false⟩,
      ⟨none, .store 5 (.tmp 5) (.tmp 21), none, [], false⟩]) (.seq (.region [
      ⟨(some 22), .load (some 5) (.tmp 5), none, [], false⟩,
      ⟨(some 23), .callV (.func 48) [(.tmp 3), (.tmp 22)], none, [], false⟩,
      ⟨(some 6), .mov (.tmp 23), none, [], false⟩]) (.seq (.region [
      ⟨(some 24), .mov (.tmp 6), none, [], false⟩,
      ⟨(some 25), .bin .neq (so (.binOp .neq 26 (.tmp 24) (.const (.int .i64 0)) 26) 4) (.tmp 24) (.const (.int .i64 0)), none, [], false⟩]) (.cond (.tmp 25)
    (.seq (.region [
      ⟨(some 26), .mov (.tmp 6), none, [], false⟩,
      ⟨(some 2), .mov (.tmp 26), none, [], false⟩]) .ret)
    .skip))))) (.region [
      ⟨(some 27), .bin .add (so (.binOp .add 3 (.tmp 18) (.const (.int .i64 1)) 3) 3) (.tmp 18) (.const (.int .i64 1)), none, [], false⟩,
      ⟨(some 18), .mov (.tmp 27), none, [], false⟩]))))
noncomputable def vals_Check_c : ACode :=
  (.seq (.region [
      ⟨(some 2), .mov (.const (.int .i64 0)), none, [], false⟩]) (.seq (.block 0 (.seq (.region [
      ⟨(some 8), .mov (.tmp 0), none, [], false⟩,
      ⟨(some 9), .lenSl (.tmp 8), none, [], false⟩,
      ⟨(some 10), .bin .eql (so (.binOp .eql 3 (.tmp 9) (.const (.int .i64 0)) 3) 4) (.tmp 9) (.const (.int .i64 0)), none, [], false⟩,
      ⟨(some 7), .mov (.tmp 10), none, [], false⟩]) (.cond (.tmp 7)
    (.seq (.region [
      ⟨(some 2), .mov (.const (.int .i64 6)), none, [], false⟩]) .ret)
    (.seq (.region [
      ⟨(some 12), .mov (.tmp 0), none, [], false⟩,
      ⟨(some 13), .lenSl (.tmp 12), none, [], false⟩,
      ⟨(some 14), .bin .gtr (so (.binOp .gtr 3 (.tmp 13) (.const (.int .i64 64)) 3) 4) (.tmp 13) (.const (.int .i64 64)), none, [], false⟩,
      ⟨(some 11), .mov (.tmp 14), none, [], false⟩]) (.cond (.tmp 11)
    (.seq (.region [
      ⟨(some 2), .mov (.const (.int .i64 4)), none, [], false⟩]) .ret)
    .skip))))) (.seq (.region [
      ⟨(some 15), .build [(.int .u8 0), (.int .u8 0), (.int .u8 0), (.int .u8 0), (.bool false), (.int .i64 0), (.int .i64 0)] [(5, 1, (.const (.int .i64 1))), (6, 1, (.const (.int .i64 4611686018427387904)))], none, [], false⟩,
      ⟨(some 3), .alloc 76 [(.int .u8 0), (.int .u8 0), (.int .u8 0), (.int .u8 0), (.bool false), (.int .i64 0), (.int .i64 0)], none, [], false⟩,
      ⟨none, .store 7 (.tmp 3) (.tmp 15), none, [], false⟩]) (.seq (.seq (.region [
      ⟨(some 16), .mov (.tmp 0), none, [], false⟩,
      ⟨(some 17), .lenSl (.tmp 16), none, [], false⟩,
      ⟨(some 18), .mov (.const (.int .i64 0)), none, [], false⟩]) (.block 1 (.loop vals_Check_l0))) (.seq (.region [
      ⟨(some 2), .mov (.const (.int .i64 0)), none, [], false⟩]) .ret)))))
noncomputable def vals_Check : AFunc := ⟨28, [(2, none)], vals_Check_c, none⟩
theorem vals_Check_t0 : tableOf Try.prog 22 = some vals_Check := by kernel_rfl
theorem vals_Check_t : T0 22 = some vals_Check := withKept_t rfl (withTrue_t rfl vals_Check_t0)
theorem vals_Check_runs {v0 : Value} {h : Heap} {R : RP} {X : XP} (k : RunC Try.prog T0 vals_Check_c ⟨[v0, undef, undef, undef, undef, undef, undef, undef, undef, undef, undef, undef, undef, undef, undef, undef, undef, undef, undef, undef, undef, undef, undef, undef, undef, undef, undef, undef], [], h, none⟩ (bodyQ Try.prog T0 [(2, none)] R X)) :
    Runs Try.prog T0 (.fn 22) [v0] h R X := Runs.fn vals_Check_t rfl k
/-- the slots that turn in the loop: v18 -/
noncomputable def vals_Check_l0_J (f0 f1 f3 f4 f7 f8 f9 f10 f11 f12 f13 f14 f15 f16 f17 : Value) (ds : List Deferred) (rd : Option Nat) (I : Nat → Value → Heap → Prop) (m : Nat) (s : St) : Prop := ∃ (v18 : Value), ∃ h : Heap, ∃ (x2 x5 x6 x19 x20 x21 x22 x23 x24 x25 x26 x27 : Value), s = ⟨[f0, f1, x2, f3, f4, x5, x6, f7, f8, f9, f10, f11, f12, f13, f14, f15, f16, f17, v18, x19, x20, x21, x22, x23, x24, x25, x26, x27], ds, h, rd⟩ ∧ I m v18 h
theorem vals_Check_l0_rule {f0 f1 f3 f4 f7 f8 f9 f10 f11 f12 f13 f14 f15 f16 f17 : Value} {ds : List Deferred} {rd : Option Nat} {Q : QP} (I : Nat → Value → Heap → Prop) (hb : ∀ (m : Nat) (v18 : Value) (h : Heap) (x2 x5 x6 x19 x20 x21 x22 x23 x24 x25 x26 x27 : Value) , I m v18 h → RunC Try.prog T0 vals_Check_l0 ⟨[f0, f1, x2, f3, f4, x5, x6, f7, f8, f9, f10, f11, f12, f13, f14, f15, f16, f17, v18, x19, x20, x21, x22, x23, x24, x25, x26, x27], ds, h, rd⟩ (loopQ (vals_Check_l0_J f0 f1 f3 f4 f7 f8 f9 f10 f11 f12 f13 f14 f15 f16 f17 ds rd I) m Q))
    (m : Nat) {v18 : Value} {h : Heap} {x2 x5 x6 x19 x20 x21 x22 x23 x24 x25 x26 x27 : Value} (hi : I m v18 h) : RunC Try.prog T0 (.loop vals_Check_l0) ⟨[f0, f1, x2, f3, f4, x5, x6, f7, f8, f9, f10, f11, f12, f13, f14, f15, f16, f17, v18, x19, x20, x21, x22, x23, x24, x25, x26, x27], ds, h, rd⟩ Q :=
  RunC.loopJ (vals_Check_l0_J f0 f1 f3 f4 f7 f8 f9 f10 f11 f12 f13 f14 f15 f16 f17 ds rd I) (fun m s hj => by obtain ⟨v18, h, x2, x5, x6, x19, x20, x21, x22, x23, x24, x25, x26, x27, rfl, hi⟩ := hj; exact hb m v18 h x2 x5 x6 x19 x20 x21 x22 x23 x24 x25 x26 x27 hi) m _ ⟨_, h, _, _, _, _, _, _, _, _, _, _, _, _, rfl, hi⟩
theorem vals_Check_l0_again {f0 f1 f3 f4 f7 f8 f9 f10 f11 f12 f13 f14 f15 f16 f17 : Value} {ds : List Deferred} {rd : Option Nat} {Q : QP} {I : Nat → Value → Heap → Prop} {m : Nat} (m' : Nat) {v18 : Value} {h : Heap} {x2 x5 x6 x19 x20 x21 x22 x23 x24 x25 x26 x27 : Value} (hm : m' < m) (hi : I m' v18 h) : loopQ (vals_Check_l0_J f0 f1 f3 f4 f7 f8 f9 f10 f11 f12 f13 f14 f15 f16 f17 ds rd I) m Q .normal ⟨[f0, f1, x2, f3, f4, x5, x6, f7, f8, f9, f10, f11, f12, f13, f14, f15, f16, f17, v18, x19, x20, x21, x22, x23, x24, x25, x26, x27], ds, h, rd⟩ :=
  loopQ.again m' hm ⟨_, h, _, _, _, _, _, _, _, _, _, _, _, _, rfl, hi⟩

/-! 38 landfall/landfallref05.Check -/
abbrev fn_landfallref05_Check : FuncId := 38
noncomputable def landfallref05_Check_l0 : ACode :=
  (.seq (.seq (.region [
      ⟨(some 12), .mov (.tmp 3), none, [], false⟩,
      ⟨(some 13), .mov (.tmp 0), none, [], false⟩,
      ⟨(some 14), .lenSl (.tmp 13), none, [], false⟩,
      ⟨(some 15), .bin .lss (so (.binOp .lss 3 (.tmp 12) (.tmp 14) 3) 4) (.tmp 12) (.tmp 14), none, [], false⟩]) (.cond (.tmp 15)
    .skip
    (.exit 1))) (.seq (.block 2 (.block 3 (.seq (.regionD [
      ⟨(some 19), .mov (.tmp 3), none, [], true⟩,
      ⟨(some 20), .bin .gtr (so (.binOp .gtr 3 (.tmp 19) (.const (.int .i64 0)) 3) 4) (.tmp 19) (.const (.int .i64 0)), none, [], true⟩,
      ⟨(some 21), .mov (.tmp 20), none, [], true⟩,
      ⟨(some 22), .mov (.tmp 0), (some (21, true)), [], false⟩,
      ⟨(some 23), .mov (.tmp 3), (some (21, true)), [], false⟩,
      ⟨(some 24), .bin .sub (so (.binOp .sub 3 (.tmp 23) (.const (.int .i64 1)) 3) 3) (.tmp 23) (.const (.int .i64 1)), (some (21, true)), [], false⟩,
      ⟨(some 25), .indexSl 5 (.tmp 22) (.tmp 24), (some (21, true)), [], false⟩,
      ⟨(some 26), .fieldAddr 0 (.tmp 25), (some (21, true)), [], false⟩,
      ⟨(some 27), .load (some 4) (.tmp 26), (some (21, true)), [], false⟩,
      ⟨(some 28), .mov (.tmp 0), (some (21, true)), [], false⟩,
      ⟨(some 29), .mov (.tmp 3), (some (21, true)), [], false⟩,
      ⟨(some 30), .indexSl 5 (.tmp 28) (.tmp 29), (some (21, true)), [], false⟩,
      ⟨(some 31), .fieldAddr 0 (.tmp 30), (some (21, true)), [], false⟩,
      ⟨(some 32), .load (some 4) (.tmp 31), (some (21, true)), [], false⟩,
      ⟨(some 33), .callV (.func 50) [(.tmp 27), (.tmp 32)], (some (21, true)), [], true⟩,
      ⟨(some 34), .raw (so (.unOp .not 4 (.tmp 33)) 4), (some (21, true)), [], true⟩,
      ⟨(some 35), .pick (.tmp 21) (.tmp 34) (.const (.bool false)), none, [], true⟩,
      ⟨(some 18), .mov (.tmp 35), none, [], true⟩]) (.cond (.tmp 18)
    (.seq (.region [
      ⟨(some 2), .mov (.const (.int .i64 9)), none, [], false⟩]) .ret)
    (.seq (.region [
      ⟨(some 37), .mov (.tmp 0), none, [], false⟩,
      ⟨(some 38), .mov (.tmp 3), none, [], false⟩,
      ⟨(some 39), .indexSl 5 (.tmp 37) (.tmp 38), none, [], false⟩,
      ⟨(some 40), .fieldAddr 4 (.tmp 39), none, [], false⟩,
      ⟨(some 41), .load none (.tmp 40), none, [], false⟩,
      ⟨(some 42), .bin .lss (so (.binOp .lss 3 (.tmp 41) (.const (.int .i64 1)) 3) 4) (.tmp 41) (.const (.int .i64 1)), none, [], false⟩,
      ⟨(some 43), .mov (.tmp 42), none, [], false⟩,
      ⟨(some 44), .mov (.tmp 0), (some (43, false)), [], false⟩,
      ⟨(some 45), .mov (.tmp 3), (some (43, false)), [], false⟩,
      ⟨(some 46), .indexSl 5 (.tmp 44) (.tmp 45), (some (43, false)), [], false⟩,
      ⟨(some 47), .fieldAddr 4 (.tmp 46), (some (43, false)), [], false⟩,
      ⟨(some 48), .load none (.tmp 47), (some (43, false)), [], false⟩,
      ⟨(some 49), .bin .gtr (so (.binOp .gtr 3 (.tmp 48) (.const (.int .i64 4611686018427387904)) 3) 4) (.tmp 48) (.const (.int .i64 4611686018427387904)), (some (43, false)), [], false⟩,
      ⟨(some 50), .pick (.tmp 43) (.const (.bool true)) (.tmp 49), none, [], false⟩,
      ⟨(some 36), .mov (.tmp 50), none, [], false⟩]) (.cond (.tmp 36)
    (.seq (.region [
      ⟨(some 2), .mov (.const (.int .i64 3)), none, [], false⟩]) .ret)
    .skip)))))) (.region [
      ⟨(some 16), .mov (.tmp 3), none, [], false⟩,
      ⟨(some 17), .bin .add (so (.binOp .add 3 (.tmp 16) (.const (.int .i64 1)) 3) 3) (.tmp 16) (.const (.int .i64 1)), none, [], false⟩,
      ⟨(some 3), .mov (.tmp 17), none, [], false⟩])))
noncomputable def landfallref05_Check_c : ACode :=
  (.seq (.region [
      ⟨(some 2), .mov (.const (.int .i64 0)), none, [], false⟩]) (.seq (.block 0 (.seq (.region [
      ⟨(some 5), .mov (.tmp 0), none, [], false⟩,
      ⟨(some 6), .lenSl (.tmp 5), none, [], false⟩,
      ⟨(some 7), .bin .eql (so (.binOp .eql 3 (.tmp 6) (.const (.int .i64 0)) 3) 4) (.tmp 6) (.const (.int .i64 0)), none, [], false⟩,
      ⟨(some 4), .mov (.tmp 7), none, [], false⟩]) (.cond (.tmp 4)
    (.seq (.region [
      ⟨(some 2), .mov (.const (.int .i64 6)), none, [], false⟩]) .ret)
    (.seq (.region [
      ⟨(some 9), .mov (.tmp 0), none, [], false⟩,
      ⟨(some 10), .lenSl (.tmp 9), none, [], false⟩,
      ⟨(some 11), .bin .gtr (so (.binOp .gtr 3 (.tmp 10) (.const (.int .i64 64)) 3) 4) (.tmp 10) (.const (.int .i64 64)), none, [], false⟩,
      ⟨(some 8), .mov (.tmp 11), none, [], false⟩]) (.cond (.tmp 8)
    (.seq (.region [
      ⟨(some 2), .mov (.const (.int .i64 4)), none, [], false⟩]) .ret)
    .skip))))) (.seq (.seq (.region [
      ⟨(some 3), .mov (.const (.int .i64 0)), none, [], false⟩]) (.block 1 (.loop landfallref05_Check_l0))) (.seq (.region [
      ⟨(some 2), .mov (.const (.int .i64 0)), none, [], false⟩]) .ret))))
noncomputable def landfallref05_Check : AFunc := ⟨51, [(2, none)], landfallref05_Check_c, none⟩
theorem landfallref05_Check_t0 : tableOf Try.prog 38 = some landfallref05_Check := by kernel_rfl
theorem landfallref05_Check_t : T0 38 = some landfallref05_Check := withKept_t rfl (withTrue_t rfl landfallref05_Check_t0)
theorem landfallref05_Check_runs {v0 : Value} {h : Heap} {R : RP} {X : XP} (k : RunC Try.prog T0 landfallref05_Check_c ⟨[v0, undef, undef, undef, undef, undef, undef, undef, undef, undef, undef, undef, undef, undef, undef, undef, undef, undef, undef, undef, undef, undef, undef, undef, undef, undef, undef, undef, undef, undef, undef, undef, undef, undef, undef, undef, undef, undef, undef, undef, undef, undef, undef, undef, undef, undef, undef, undef, undef, undef, undef], [], h, none⟩ (bodyQ Try.prog T0 [(2, none)] R X)) :
    Runs Try.prog T0 (.fn 38) [v0] h R X := Runs.fn landfallref05_Check_t rfl k
/-- the slots that turn in the loop: v3 -/
noncomputable def landfallref05_Check_l0_J (f0 f1 f4 f5 f6 f7 f8 f9 f10 f11 : Value) (ds : List Deferred) (rd : Option Nat) (I : Nat → Value → Heap → Prop) (m : Nat) (s : St) : Prop := ∃ (v3 : Value), ∃ h : Heap, ∃ (x2 x12 x13 x14 x15 x16 x17 x18 x19 x20 x21 x22 x23 x24 x25 x26 x27 x28 x29 x30 x31 x32 x33 x34 x35 x36 x37 x38 x39 x40 x41 x42 x43 x44 x45 x46 x47 x48 x49 x50 : Value), s = ⟨[f0, f1, x2, v3, f4, f5, f6, f7, f8, f9, f10, f11, x12, x13, x14, x15, x16, x17, x18, x19, x20, x21, x22, x23, x24, x25, x26, x27, x28, x29, x30, x31, x32, x33, x34, x35, x36, x37, x38, x39, x40, x41, x42, x43, x44, x45, x46, x47, x48, x49, x50], ds, h, rd⟩ ∧ I m v3 h
theorem landfallref05_Check_l0_rule {f0 f1 f4 f5 f6 f7 f8 f9 f10 f11 : Value} {ds : List Deferred} {rd : Option Nat} {Q : QP} (I : Nat → Value → Heap → Prop) (hb : ∀ (m : Nat) (v3 : Value) (h : Heap) (x2 x12 x13 x14 x15 x16 x17 x18 x19 x20 x21 x22 x23 x24 x25 x26 x27 x28 x29 x30 x31 x32 x33 x34 x35 x36 x37 x38 x39 x40 x41 x42 x43 x44 x45 x46 x47 x48 x49 x50 : Value) , I m v3 h → RunC Try.prog T0 landfallref05_Check_l0 ⟨[f0, f1, x2, v3, f4, f5, f6, f7, f8, f9, f10, f11, x12, x13, x14, x15, x16, x17, x18, x19, x20, x21, x22, x23, x24, x25, x26, x27, x28, x29, x30, x31, x32, x33, x34, x35, x36, x37, x38, x39, x40, x41, x42, x43, x44, x45, x46, x47, x48, x49, x50], ds, h, rd⟩ (loopQ (landfallref05_Check_l0_J f0 f1 f4 f5 f6 f7 f8 f9 f10 f11 ds rd I) m Q))
    (m : Nat) {v3 : Value} {h : Heap} {x2 x12 x13 x14 x15 x16 x17 x18 x19 x20 x21 x22 x23 x24 x25 x26 x27 x28 x29 x30 x31 x32 x33 x34 x35 x36 x37 x38 x39 x40 x41 x42 x43 x44 x45 x46 x47 x48 x49 x50 : Value} (hi : I m v3 h) : RunC Try.prog T0 (.loop landfallref05_Check_l0) ⟨[f0, f1, x2, v3, f4, f5, f6, f7, f8, f9, f10, f11, x12, x13, x14, x15, x16, x17, x18, x19, x20, x21, x22, x23, x24, x25, x26, x27, x28, x29, x30, x31, x32, x33, x34, x35, x36, x37, x38, x39, x40, x41, x42, x43, x44, x45, x46, x47, x48, x49, x50], ds, h, rd⟩ Q :=
  RunC.loopJ (landfallref05_Check_l0_J f0 f1 f4 f5 f6 f7 f8 f9 f10 f11 ds rd I) (fun m s hj => by obtain ⟨v3, h, x2, x12, x13, x14, x15, x16, x17, x18, x19, x20, x21, x22, x23, x24, x25, x26, x27, x28, x29, x30, x31, x32, x33, x34, x35, x36, x37, x38, x39, x40, x41, x42, x43, x44, x45, x46, x47, x48, x49, x50, rfl, hi⟩ := hj; exact hb m v3 h x2 x12 x13 x14 x15 x16 x17 x18 x19 x20 x21 x22 x23 x24 x25 x26 x27 x28 x29 x30 x31 x32 x33 x34 x35 x36 x37 x38 x39 x40 x41 x42 x43 x44 x45 x46 x47 x48 x49 x50 hi) m _ ⟨_, h, _, _, _, _, _, _, _, _, _, _, _, _, _, _, _, _, _, _, _, _, _, _, _, _, _, _, _, _, _, _, _, _, _, _, _, _, _, _, _, _, rfl, hi⟩
theorem landfallref05_Check_l0_again {f0 f1 f4 f5 f6 f7 f8 f9 f10 f11 : Value} {ds : List Deferred} {rd : Option Nat} {Q : QP} {I : Nat → Value → Heap → Prop} {m : Nat} (m' : Nat) {v3 : Value} {h : Heap} {x2 x12 x13 x14 x15 x16 x17 x18 x19 x20 x21 x22 x23 x24 x25 x26 x27 x28 x29 x30 x31 x32 x33 x34 x35 x36 x37 x38 x39 x40 x41 x42 x43 x44 x45 x46 x47 x48 x49 x50 : Value} (hm : m' < m) (hi : I m' v3 h) : loopQ (landfallref05_Check_l0_J f0 f1 f4 f5 f6 f7 f8 f9 f10 f11 ds rd I) m Q .normal ⟨[f0, f1, x2, v3, f4, f5, f6, f7, f8, f9, f10, f11, x12, x13, x14, x15, x16, x17, x18, x19, x20, x21, x22, x23, x24, x25, x26, x27, x28, x29, x30, x31, x32, x33, x34, x35, x36, x37, x38, x39, x40, x41, x42, x43, x44, x45, x46, x47, x48, x49, x50], ds, h, rd⟩ :=
  loopQ.again m' hm ⟨_, h, _, _, _, _, _, _, _, _, _, _, _, _, _, _, _, _, _, _, _, _, _, _, _, _, _, _, _, _, _, _, _, _, _, _, _, _, _, _, _, _, rfl, hi⟩

/-! 40 landfall/wire.NewReader -/
abbrev fn_wire_NewReader : FuncId := 40
noncomputable def wire_NewReader_c : ACode :=
  (.seq (.region [
      ⟨(some 2), .mov (.const (.pointer none)), none, [], false⟩]) (.seq (.region [
      ⟨(some 3), .mov (.tmp 0), none, [], false⟩,
      ⟨(some 4), .callV (.func 70) [(.tmp 3)], none, [], false⟩,
      ⟨(some 5), .build [(.slice none 0 0), (.int .i64 0), (.int .i64 0), (.int .i64 0), (.bool false)] [(0, 1, (.tmp 4)), (4, 1, (.const (.bool true)))], none, [], false⟩,
      ⟨(some 6), .box 104 (.tmp 5), none, [], false⟩,
      ⟨(some 2), .mov (.tmp 6), none, [], false⟩]) .ret))
noncomputable def wire_NewReader : AFunc := ⟨7, [(2, none)], wire_NewReader_c, none⟩
theorem wire_NewReader_t0 : tableOf Try.prog 40 = some wire_NewReader := by kernel_rfl
theorem wire_NewReader_t : T0 40 = some wire_NewReader := withKept_t rfl (withTrue_t rfl wire_NewReader_t0)
theorem wire_NewReader_runs {v0 : Value} {h : Heap} {R : RP} {X : XP} (k : RunC Try.prog T0 wire_NewReader_c ⟨[v0, undef, undef, undef, undef, undef, undef], [], h, none⟩ (bodyQ Try.prog T0 [(2, none)] R X)) :
    Runs Try.prog T0 (.fn 40) [v0] h R X := Runs.fn wire_NewReader_t rfl k


/-! 41 (*landfall/wire.Reader).Num -/
abbrev fn_wire_Reader_Num : FuncId := 41
noncomputable def wire_Reader_Num_c : ACode :=
  (.seq (.region [
      ⟨(some 2), .mov (.const (.int .i64 0)), none, [], false⟩]) (.seq (.region [
      ⟨(some 3), .mov (.tmp 0), none, [], false⟩,
      ⟨(some 4), .mov (.tmp 0), none, [], false⟩,
      ⟨(some 5), .mkFunc (.func 72) [(.tmp 4)] [], none, [], false⟩,
      ⟨(some 6), .callV (.func 71) [(.tmp 3), (.tmp 5)], none, [], false⟩,
      ⟨(some 2), .mov (.tmp 6), none, [], false⟩]) .ret))
noncomputable def wire_Reader_Num : AFunc := ⟨7, [(2, none)], wire_Reader_Num_c, none⟩
theorem wire_Reader_Num_t0 : tableOf Try.prog 41 = some wire_Reader_Num := by kernel_rfl
theorem wire_Reader_Num_t : T0 41 = some wire_Reader_Num := withKept_t rfl (withTrue_t rfl wire_Reader_Num_t0)
theorem wire_Reader_Num_runs {v0 : Value} {h : Heap} {R : RP} {X : XP} (k : RunC Try.prog T0 wire_Reader_Num_c ⟨[v0, undef, undef, undef, undef, undef, undef], [], h, none⟩ (bodyQ Try.prog T0 [(2, none)] R X)) :
    Runs Try.prog T0 (.fn 41) [v0] h R X := Runs.fn wire_Reader_Num_t rfl k


/-! 42 (*landfall/wire.Reader).Key -/
abbrev fn_wire_Reader_Key : FuncId := 42
noncomputable def wire_Reader_Key_c : ACode :=
  (.seq (.region [
      ⟨(some 1), .box 68 (.tmp 0), none, [], false⟩,
      ⟨(some 2), .alloc 42 [(.int .u8 0), (.int .u8 0), (.int .u8 0), (.int .u8 0)], none, [], false⟩]) (.seq (.region [
      ⟨(some 3), .load none (.tmp 1), none, [], false⟩,
      ⟨(some 4), .mkFunc (.func 74) [] [(.tmp 1)], none, [], false⟩,
      ⟨(some 5), .callV (.func 73) [(.tmp 3), (.tmp 4)], none, [], false⟩,
      ⟨none, .store 4 (.tmp 2) (.tmp 5), none, [], false⟩]) .ret))
noncomputable def wire_Reader_Key : AFunc := ⟨6, [(2, some (some 4))], wire_Reader_Key_c, none⟩
theorem wire_Reader_Key_t0 : tableOf Try.prog 42 = some wire_Reader_Key := by kernel_rfl
theorem wire_Reader_Key_t : T0 42 = some wire_Reader_Key := withKept_t rfl (withTrue_t rfl wire_Reader_Key_t0)
theorem wire_Reader_Key_runs {v0 : Value} {h : Heap} {R : RP} {X : XP} (k : RunC Try.prog T0 wire_Reader_Key_c ⟨[v0, undef, undef, undef, undef, undef], [], h, none⟩ (bodyQ Try.prog T0 [(2, some (some 4))] R X)) :
    Runs Try.prog T0 (.fn 42) [v0] h R X := Runs.fn wire_Reader_Key_t rfl k


/-! 43 (*landfall/wire.Reader).End -/
abbrev fn_wire_Reader_End : FuncId := 43
noncomputable def wire_Reader_End_c : ACode :=
  (.seq (.region [
      ⟨(some 2), .alloc 28 [(.int .i64 0), (.int .i64 0)], none, [], false⟩]) (.seq (.block 0 (.seq (.region [
      ⟨(some 4), .mov (.tmp 0), none, [], false⟩,
      ⟨(some 5), .eq .ptr false (so (.binOp .eql 68 (.tmp 4) (.const (.pointer none)) 68) 4) (.tmp 4) (.const (.pointer none)), none, [], false⟩,
      ⟨(some 6), .mov (.tmp 5), none, [], false⟩,
      ⟨(some 7), .mov (.tmp 0), (some (6, false)), [], false⟩,
      ⟨(some 8), .nilCheck (.tmp 7), (some (6, false)), [], false⟩,
      ⟨(some 9), .fieldAddr 4 (.tmp 8), (some (6, false)), [], false⟩,
      ⟨(some 10), .load none (.tmp 9), (some (6, false)), [], false⟩,
      ⟨(some 11), .raw (so (.unOp .not 4 (.tmp 10)) 4), (some (6, false)), [], false⟩,
      ⟨(some 12), .pick (.tmp 6) (.const (.bool true)) (.tmp 11), none, [], false⟩,
      ⟨(some 3), .mov (.tmp 12), none, [], false⟩]) (.cond (.tmp 3)
    (.seq (.region [
      ⟨(some 13), .build [(.int .i64 0), (.int .i64 0)] [(0, 1, (.const (.int .i64 1)))], none, [], false⟩,
      ⟨none, .store 2 (.tmp 2) (.tmp 13), none, [], false⟩]) .ret)
    (.seq (.regionD [
      ⟨(some 15), .mov (.tmp 0), none, [], true⟩,
      ⟨(some 16), .nilCheck (.tmp 15), none, [], true⟩,
      ⟨(some 17), .fieldAddr 2 (.tmp 16), none, [], true⟩,
      ⟨(some 18), .fieldAddr 0 (.tmp 17), none, [], true⟩,
      ⟨(some 19), .load none (.tmp 18), none, [], true⟩,
      ⟨(some 20), .bin .eql (so (.binOp .eql 26 (.tmp 19) (.const (.int .i64 0)) 26) 4) (.tmp 19) (.const (.int .i64 0)), none, [], true⟩,
      ⟨(some 21), .mov (.tmp 20), none, [], true⟩,
      ⟨(some 22), .mov (.tmp 0), (some (21, true)), [], false⟩,
      ⟨(some 23), .nilCheck (.tmp 22), (some (21, true)), [], false⟩,
      ⟨(some 24), .fieldAddr 1 (.tmp 23), (some (21, true)), [], false⟩,
      ⟨(some 25), .load none (.tmp 24), (some (21, true)), [], false⟩,
      ⟨(some 26), .mov (.tmp 0), (some (21, true)), [], false⟩,
      ⟨(some 27), .nilCheck (.tmp 26), (some (21, true)), [], false⟩,
      ⟨(some 28), .fieldAddr 0 (.tmp 27), (some (21, true)), [], false⟩,
      ⟨(some 29), .load none (.tmp 28), (some (21, true)), [], false⟩,
      ⟨(some 30), .lenSl (.tmp 29), (some (21, true)), [], false⟩,
      ⟨(some 31), .bin .lss (so (.binOp .lss 3 (.tmp 25) (.tmp 30) 3) 4) (.tmp 25) (.tmp 30), (some (21, true)), [], true⟩,
      ⟨(some 32), .pick (.tmp 21) (.tmp 31) (.const (.bool false)), none, [], true⟩,
      ⟨(some 14), .mov (.tmp 32), none, [], true⟩]) (.cond (.tmp 14)
    (.seq (.region [
      ⟨(some 33), .mov (.tmp 0), none, [], false⟩,
      ⟨(some 34), .nilCheck (.tmp 33), none, [], false⟩,
      ⟨(some 35), .fieldAddr 1 (.tmp 34), none, [], false⟩,
      ⟨(some 36), .load none (.tmp 35), none, [], false⟩,
      ⟨(some 37), .build [(.int .i64 0), (.int .i64 0)] [(0, 1, (.const (.int .i64 4))), (1, 1, (.tmp 36))], none, [], false⟩,
      ⟨none, .store 2 (.tmp 2) (.tmp 37), none, [], false⟩]) .ret)
    .skip))))) (.seq (.region [
      ⟨(some 38), .mov (.tmp 0), none, [], false⟩,
      ⟨(some 39), .nilCheck (.tmp 38), none, [], false⟩,
      ⟨(some 40), .fieldAddr 2 (.tmp 39), none, [], false⟩,
      ⟨(some 41), .load (some 2) (.tmp 40), none, [], false⟩,
      ⟨none, .store 2 (.tmp 2) (.tmp 41), none, [], false⟩]) .ret)))
noncomputable def wire_Reader_End : AFunc := ⟨42, [(2, some (some 2))], wire_Reader_End_c, none⟩
theorem wire_Reader_End_t0 : tableOf Try.prog 43 = some wire_Reader_End := by kernel_rfl
theorem wire_Reader_End_t : T0 43 = some wire_Reader_End := withKept_t rfl (withTrue_t rfl wire_Reader_End_t0)
theorem wire_Reader_End_runs {v0 : Value} {h : Heap} {R : RP} {X : XP} (k : RunC Try.prog T0 wire_Reader_End_c ⟨[v0, undef, undef, undef, undef, undef, undef, undef, undef, undef, undef, undef, undef, undef, undef, undef, undef, undef, undef, undef, undef, undef, undef, undef, undef, undef, undef, undef, undef, undef, undef, undef, undef, undef, undef, undef, undef, undef, undef, undef, undef, undef], [], h, none⟩ (bodyQ Try.prog T0 [(2, some (some 2))] R X)) :
    Runs Try.prog T0 (.fn 43) [v0] h R X := Runs.fn wire_Reader_End_t rfl k


/-! 44 landfall/landfallref04.NewReader -/
abbrev fn_landfallref04_NewReader : FuncId := 44
noncomputable def landfallref04_NewReader_c : ACode :=
  (.seq (.region [
      ⟨(some 2), .mov (.const (.pointer none)), none, [], false⟩]) (.seq (.region [
      ⟨(some 3), .buildSlice 5 [] 0 [], none, [], false⟩,
      ⟨(some 4), .mov (.tmp 0), none, [], false⟩,
      ⟨(some 5), .append 5 1 1 [(.int .u8 0)] false (.tmp 3) (.tmp 4), none, [], false⟩,
      ⟨(some 6), .build [(.slice none 0 0), (.int .i64 0), (.int .i64 0), (.int .i64 0)] [(0, 1, (.tmp 5))], none, [], false⟩,
      ⟨(some 7), .box 112 (.tmp 6), none, [], false⟩,
      ⟨(some 2), .mov (.tmp 7), none, [], false⟩]) .ret))
noncomputable def landfallref04_NewReader : AFunc := ⟨8, [(2, none)], landfallref04_NewReader_c, none⟩
theorem landfallref04_NewReader_t0 : tableOf Try.prog 44 = some landfallref04_NewReader := by kernel_rfl
theorem landfallref04_NewReader_t : T0 44 = some landfallref04_NewReader := withKept_t rfl (withTrue_t rfl landfallref04_NewReader_t0)
theorem landfallref04_NewReader_runs {v0 : Value} {h : Heap} {R : RP} {X : XP} (k : RunC Try.prog T0 landfallref04_NewReader_c ⟨[v0, undef, undef, undef, undef, undef, undef, undef], [], h, none⟩ (bodyQ Try.prog T0 [(2, none)] R X)) :
    Runs Try.prog T0 (.fn 44) [v0] h R X := Runs.fn landfallref04_NewReader_t rfl k


/-! 45 (*landfall/landfallref04.Reader).Num -/
abbrev fn_landfallref04_Reader_Num : FuncId := 45
noncomputable def landfallref04_Reader_Num_l0 : ACode :=
  (.seq (.seq (.region [
      ⟨(some 40), .mov (.tmp 7), none, [], false⟩,
      ⟨(some 41), .mov (.tmp 5), none, [], false⟩,
      ⟨(some 42), .lenSl (.tmp 41), none, [], false⟩,
      ⟨(some 43), .bin .lss (so (.binOp .lss 3 (.tmp 40) (.tmp 42) 3) 4) (.tmp 40) (.tmp 42), none, [], false⟩]) (.cond (.tmp 43)
    .skip
    (.exit 0))) (.seq (.block 1 (.region [
      ⟨(some 46), .mov (.tmp 6), none, [], false⟩,
      ⟨(some 47), .bin .shl (so (.binOp .shl 50 (.tmp 46) (.const (.int .u64 8)) 115) 50) (.tmp 46) (.const (.int .u64 8)), none, [], false⟩,
      ⟨(some 48), .mov (.tmp 5), none, [], false⟩,
      ⟨(some 49), .mov (.tmp 7), none, [], false⟩,
      ⟨(some 50), .indexSl 1 (.tmp 48) (.tmp 49), none, [], false⟩,
      ⟨(some 51), .load none (.tmp 50), none, [], false⟩,
      ⟨(some 52), .conv .u64 (so (.convert 5 50 (.tmp 51)) 50) (.tmp 51), none, [], false⟩,
      ⟨(some 53), .bin .or (so (.binOp .or 50 (.tmp 47) (.tmp 52) 50) 50) (.tmp 47) (.tmp 52), none, [], false⟩,
      ⟨(some 6), .mov (.tmp 53), none, [], false⟩])) (.region [
      ⟨(some 44), .mov (.tmp 7), none, [], false⟩,
      ⟨(some 45), .bin .add (so (.binOp .add 3 (.tmp 44) (.const (.int .i64 1)) 3) 3) (.tmp 44) (.const (.int .i64 1)), none, [], false⟩,
      ⟨(some 7), .mov (.tmp 45), none, [], false⟩])))
noncomputable def landfallref04_Reader_Num_c : ACode :=
  (.seq (.region [
      ⟨(some 2), .mov (.const (.int .i64 0)), none, [], false⟩]) (.seq (.region [
      ⟨(some 8), .mov (.tmp 0), none, [], false⟩,
      ⟨(some 9), .nilCheck (.tmp 8), none, [], false⟩,
      ⟨(some 10), .fieldAddr 1 (.tmp 9), none, [], false⟩,
      ⟨(some 11), .load none (.tmp 10), none, [], false⟩,
      ⟨(some 3), .mov (.tmp 11), none, [], false⟩]) (.seq (.region [
      ⟨(some 12), .mov (.tmp 0), none, [], false⟩,
      ⟨(some 13), .mov (.tmp 3), none, [], false⟩,
      ⟨(some 14), .callV (.func 77) [(.tmp 12), (.const (.int .i64 1)), (.tmp 13)], none, [], false⟩,
      ⟨(some 4), .mov (.tmp 14), none, [], false⟩]) (.seq (.seq (.region [
      ⟨(some 15), .mov (.tmp 4), none, [], false⟩,
      ⟨(some 16), .lenSl (.tmp 15), none, [], false⟩,
      ⟨(some 17), .bin .eql (so (.binOp .eql 3 (.tmp 16) (.const (.int .i64 1)) 3) 4) (.tmp 16) (.const (.int .i64 1)), none, [], false⟩,
      ⟨(some 18), .mov (.tmp 17), none, [], false⟩,
      ⟨(some 19), .mov (.tmp 4), (some (18, true)), [], false⟩,
      ⟨(some 20), .indexSl 1 (.tmp 19) (.const (.int .i64 0)), (some (18, true)), [], false⟩,
      ⟨(some 21), .load none (.tmp 20), (some (18, true)), [], false⟩,
      ⟨(some 22), .bin .gtr (so (.binOp .gtr 5 (.tmp 21) (.const (.int .u8 8)) 5) 4) (.tmp 21) (.const (.int .u8 8)), (some (18, true)), [], false⟩,
      ⟨(some 23), .pick (.tmp 18) (.tmp 22) (.const (.bool false)), none, [], false⟩]) (.cond (.tmp 23)
    (.region [
      ⟨(some 24), .mov (.tmp 0), none, [], false⟩,
      ⟨(some 25), .mov (.tmp 3), none, [], false⟩,
      ⟨(some 26), .callV (.func 78) [(.tmp 24), (.const (.int .i64 5)), (.tmp 25)], none, [], false⟩])
    .skip)) (.seq (.seq (.region [
      ⟨(some 27), .mov (.tmp 0), none, [], false⟩,
      ⟨(some 28), .nilCheck (.tmp 27), none, [], false⟩,
      ⟨(some 29), .fieldAddr 2 (.tmp 28), none, [], false⟩,
      ⟨(some 30), .fieldAddr 0 (.tmp 29), none, [], false⟩,
      ⟨(some 31), .load none (.tmp 30), none, [], false⟩,
      ⟨(some 32), .bin .neq (so (.binOp .neq 26 (.tmp 31) (.const (.int .i64 0)) 26) 4) (.tmp 31) (.const (.int .i64 0)), none, [], false⟩]) (.cond (.tmp 32)
    (.seq (.region [
      ⟨(some 2), .mov (.const (.int .i64 0)), none, [], false⟩]) .ret)
    .skip)) (.seq (.region [
      ⟨(some 33), .mov (.tmp 0), none, [], false⟩,
      ⟨(some 34), .mov (.tmp 4), none, [], false⟩,
      ⟨(some 35), .indexSl 1 (.tmp 34) (.const (.int .i64 0)), none, [], false⟩,
      ⟨(some 36), .load none (.tmp 35), none, [], false⟩,
      ⟨(some 37), .conv .i64 (so (.convert 5 3 (.tmp 36)) 3) (.tmp 36), none, [], false⟩,
      ⟨(some 38), .mov (.tmp 3), none, [], false⟩,
      ⟨(some 39), .callV (.func 77) [(.tmp 33), (.tmp 37), (.tmp 38)], none, [], false⟩,
      ⟨(some 5), .mov (.tmp 39), none, [], false⟩]) (.seq (.region [
      ⟨(some 6), .mov (.const (.int .u64 0)), none, [], false⟩]) (.seq (.seq (.region [
      ⟨(some 7), .mov (.const (.int .i64 0)), none, [], false⟩]) (.block 0 (.loop landfallref04_Reader_Num_l0))) (.seq (.seq (.region [
      ⟨(some 54), .mov (.tmp 5), none, [], false⟩,
      ⟨(some 55), .lenSl (.tmp 54), none, [], false⟩,
      ⟨(some 56), .bin .gtr (so (.binOp .gtr 3 (.tmp 55) (.const (.int .i64 0)) 3) 4) (.tmp 55) (.const (.int .i64 0)), none, [], false⟩,
      ⟨(some 57), .mov (.tmp 56), none, [], false⟩,
      ⟨(some 58), .mov (.tmp 5), (some (57, true)), [], false⟩,
      ⟨(some 59), .indexSl 1 (.tmp 58) (.const (.int .i64 0)), (some (57, true)), [], false⟩,
      ⟨(some 60), .load none (.tmp 59), (some (57, true)), [], false⟩,
      ⟨(some 61), .bin .eql (so (.binOp .eql 5 (.tmp 60) (.const (.int .u8 0)) 5) 4) (.tmp 60) (.const (.int .u8 0)), (some (57, true)), [], false⟩,
      ⟨(some 62), .pick (.tmp 57) (.tmp 61) (.const (.bool false)), none, [], false⟩,
      ⟨(some 63), .mov (.tmp 62), none, [], false⟩,
      ⟨(some 64), .mov (.tmp 6), (some (63, false)), [], false⟩,
      ⟨(some 65), .bin .shr (so (.binOp .shr 50 (.tmp 64) (.const (.int .u64 63)) 115) 50) (.tmp 64) (.const (.int .u64 63)), (some (63, false)), [], false⟩,
      ⟨(some 66), .bin .eql (so (.binOp .eql 50 (.tmp 65) (.const (.int .u64 1)) 50) 4) (.tmp 65) (.const (.int .u64 1)), (some (63, false)), [], false⟩,
      ⟨(some 67), .pick (.tmp 63) (.const (.bool true)) (.tmp 66), none, [], false⟩]) (.cond (.tmp 67)
    (.region [
      ⟨(some 68), .mov (.tmp 0), none, [], false⟩,
      ⟨(some 69), .mov (.tmp 3), none, [], false⟩,
      ⟨(some 70), .callV (.func 78) [(.tmp 68), (.const (.int .i64 5)), (.tmp 69)], none, [], false⟩])
    .skip)) (.seq (.seq (.region [
      ⟨(some 71), .mov (.tmp 0), none, [], false⟩,
      ⟨(some 72), .nilCheck (.tmp 71), none, [], false⟩,
      ⟨(some 73), .fieldAddr 2 (.tmp 72), none, [], false⟩,
      ⟨(some 74), .fieldAddr 0 (.tmp 73), none, [], false⟩,
      ⟨(some 75), .load none (.tmp 74), none, [], false⟩,
      ⟨(some 76), .bin .neq (so (.binOp .neq 26 (.tmp 75) (.const (.int .i64 0)) 26) 4) (.tmp 75) (.const (.int .i64 0)), none, [], false⟩]) (.cond (.tmp 76)
    (.seq (.region [
      ⟨(some 2), .mov (.const (.int .i64 0)), none, [], false⟩]) .ret)
    .skip)) (.seq (.region [
      ⟨(some 77), .mov (.tmp 6), none, [], false⟩,
      ⟨(some 78), .conv .i64 (so (.convert 50 3 (.tmp 77)) 3) (.tmp 77), none, [], false⟩,
      ⟨(some 2), .mov (.tmp 78), none, [], false⟩]) .ret)))))))))))
noncomputable def landfallref04_Reader_Num : AFunc := ⟨79, [(2, none)], landfallref04_Reader_Num_c, none⟩
theorem landfallref04_Reader_Num_t0 : tableOf Try.prog 45 = some landfallref04_Reader_Num := by kernel_rfl
theorem landfallref04_Reader_Num_t : T0 45 = some landfallref04_Reader_Num := withKept_t rfl (withTrue_t rfl landfallref04_Reader_Num_t0)
theorem landfallref04_Reader_Num_runs {v0 : Value} {h : Heap} {R : RP} {X : XP} (k : RunC Try.prog T0 landfallref04_Reader_Num_c ⟨[v0, undef, undef, undef, undef, undef, undef, undef, undef, undef, undef, undef, undef, undef, undef, undef, undef, undef, undef, undef, undef, undef, undef, undef, undef, undef, undef, undef, undef, undef, undef, undef, undef, undef, undef, undef, undef, undef, undef, undef, undef, undef, undef, undef, undef, undef, undef, undef, undef, undef, undef, undef, undef, undef, undef, undef, undef, undef, undef, undef, undef, undef, undef, undef, undef, undef, undef, undef, undef, undef, undef, undef, undef, undef, undef, undef, undef, undef, undef], [], h, none⟩ (bodyQ Try.prog T0 [(2, none)] R X)) :
    Runs Try.prog T0 (.fn 45) [v0] h R X := Runs.fn landfallref04_Reader_Num_t rfl k
/-- the slots that turn in the loop: v6 v7 -/
noncomputable def landfallref04_Reader_Num_l0_J (f0 f1 f2 f3 f4 f5 f8 f9 f10 f11 f12 f13 f14 f15 f16 f17 f18 f19 f20 f21 f22 f23 f24 f25 f26 f27 f28 f29 f30 f31 f32 f33 f34 f35 f36 f37 f38 f39 f54 f55 f56 f57 f58 f59 f60 f61 f62 f63 f64 f65 f66 f67 f68 f69 f70 f71 f72 f73 f74 f75 f76 f77 f78 : Value) (ds : List Deferred) (rd : Option Nat) (I : Nat → Value → Value → Heap → Prop) (m : Nat) (s : St) : Prop := ∃ (v6 v7 : Value), ∃ h : Heap, ∃ (x40 x41 x42 x43 x44 x45 x46 x47 x48 x49 x50 x51 x52 x53 : Value), s = ⟨[f0, f1, f2, f3, f4, f5, v6, v7, f8, f9, f10, f11, f12, f13, f14, f15, f16, f17, f18, f19, f20, f21, f22, f23, f24, f25, f26, f27, f28, f29, f30, f31, f32, f33, f34, f35, f36, f37, f38, f39, x40, x41, x42, x43, x44, x45, x46, x47, x48, x49, x50, x51, x52, x53, f54, f55, f56, f57, f58, f59, f60, f61, f62, f63, f64, f65, f66, f67, f68, f69, f70, f71, f72, f73, f74, f75, f76, f77, f78], ds, h, rd⟩ ∧ I m v6 v7 h
theorem landfallref04_Reader_Num_l0_rule {f0 f1 f2 f3 f4 f5 f8 f9 f10 f11 f12 f13 f14 f15 f16 f17 f18 f19 f20 f21 f22 f23 f24 f25 f26 f27 f28 f29 f30 f31 f32 f33 f34 f35 f36 f37 f38 f39 f54 f55 f56 f57 f58 f59 f60 f61 f62 f63 f64 f65 f66 f67 f68 f69 f70 f71 f72 f73 f74 f75 f76 f77 f78 : Value} {ds : List Deferred} {rd : Option Nat} {Q : QP} (I : Nat → Value → Value → Heap → Prop) (hb : ∀ (m : Nat) (v6 v7 : Value) (h : Heap) (x40 x41 x42 x43 x44 x45 x46 x47 x48 x49 x50 x51 x52 x53 : Value) , I m v6 v7 h → RunC Try.prog T0 landfallref04_Reader_Num_l0 ⟨[f0, f1, f2, f3, f4, f5, v6, v7, f8, f9, f10, f11, f12, f13, f14, f15, f16, f17, f18, f19, f20, f21, f22, f23, f24, f25, f26, f27, f28, f29, f30, f31, f32, f33, f34, f35, f36, f37, f38, f39, x40, x41, x42, x43, x44, x45, x46, x47, x48, x49, x50, x51, x52, x53, f54, f55, f56, f57, f58, f59, f60, f61, f62, f63, f64, f65, f66, f67, f68, f69, f70, f71, f72, f73, f74, f75, f76, f77, f78], ds, h, rd⟩ (loopQ (landfallref04_Reader_Num_l0_J f0 f1 f2 f3 f4 f5 f8 f9 f10 f11 f12 f13 f14 f15 f16 f17 f18 f19 f20 f21 f22 f23 f24 f25 f26 f27 f28 f29 f30 f31 f32 f33 f34 f35 f36 f37 f38 f39 f54 f55 f56 f57 f58 f59 f60 f61 f62 f63 f64 f65 f66 f67 f68 f69 f70 f71 f72 f73 f74 f75 f76 f77 f78 ds rd I) m Q))
    (m : Nat) {v6 v7 : Value} {h : Heap} {x40 x41 x42 x43 x44 x45 x46 x47 x48 x49 x50 x51 x52 x53 : Value} (hi : I m v6 v7 h) : RunC Try.prog T0 (.loop landfallref04_Reader_Num_l0) ⟨[f0, f1, f2, f3, f4, f5, v6, v7, f8, f9, f10, f11, f12, f13, f14, f15, f16, f17, f18, f19, f20, f21, f22, f23, f24, f25, f26, f27, f28, f29, f30, f31, f32, f33, f34, f35, f36, f37, f38, f39, x40, x41, x42, x43, x44, x45, x46, x47, x48, x49, x50, x51, x52, x53, f54, f55, f56, f57, f58, f59, f60, f61, f62, f63, f64, f65, f66, f67, f68, f69, f70, f71, f72, f73, f74, f75, f76, f77, f78], ds, h, rd⟩ Q :=
  RunC.loopJ (landfallref04_Reader_Num_l0_J f0 f1 f2 f3 f4 f5 f8 f9 f10 f11 f12 f13 f14 f15 f16 f17 f18 f19 f20 f21 f22 f23 f24 f25 f26 f27 f28 f29 f30 f31 f32 f33 f34 f35 f36 f37 f38 f39 f54 f55 f56 f57 f58 f59 f60 f61 f62 f63 f64 f65 f66 f67 f68 f69 f70 f71 f72 f73 f74 f75 f76 f77 f78 ds rd I) (fun m s hj => by obtain ⟨v6, v7, h, x40, x41, x42, x43, x44, x45, x46, x47, x48, x49, x50, x51, x52, x53, rfl, hi⟩ := hj; exact hb m v6 v7 h x40 x41 x42 x43 x44 x45 x46 x47 x48 x49 x50 x51 x52 x53 hi) m _ ⟨_, _, h, _, _, _, _, _, _, _, _, _, _, _, _, _, _, rfl, hi⟩
theorem landfallref04_Reader_Num_l0_again {f0 f1 f2 f3 f4 f5 f8 f9 f10 f11 f12 f13 f14 f15 f16 f17 f18 f19 f20 f21 f22 f23 f24 f25 f26 f27 f28 f29 f30 f31 f32 f33 f34 f35 f36 f37 f38 f39 f54 f55 f56 f57 f58 f59 f60 f61 f62 f63 f64 f65 f66 f67 f68 f69 f70 f71 f72 f73 f74 f75 f76 f77 f78 : Value} {ds : List Deferred} {rd : Option Nat} {Q : QP} {I : Nat → Value → Value → Heap → Prop} {m : Nat} (m' : Nat) {v6 v7 : Value} {h : Heap} {x40 x41 x42 x43 x44 x45 x46 x47 x48 x49 x50 x51 x52 x53 : Value} (hm : m' < m) (hi : I m' v6 v7 h) : loopQ (landfallref04_Reader_Num_l0_J f0 f1 f2 f3 f4 f5 f8 f9 f10 f11 f12 f13 f14 f15 f16 f17 f18 f19 f20 f21 f22 f23 f24 f25 f26 f27 f28 f29 f30 f31 f32 f33 f34 f35 f36 f37 f38 f39 f54 f55 f56 f57 f58 f59 f60 f61 f62 f63 f64 f65 f66 f67 f68 f69 f70 f71 f72 f73 f74 f75 f76 f77 f78 ds rd I) m Q .normal ⟨[f0, f1, f2, f3, f4, f5, v6, v7, f8, f9, f10, f11, f12, f13, f14, f15, f16, f17, f18, f19, f20, f21, f22, f23, f24, f25, f26, f27, f28, f29, f30, f31, f32, f33, f34, f35, f36, f37, f38, f39, x40, x41, x42, x43, x44, x45, x46, x47, x48, x49, x50, x51, x52, x53, f54, f55, f56, f57, f58, f59, f60, f61, f62, f63, f64, f65, f66, f67, f68, f69, f70, f71, f72, f73, f74, f75, f76, f77, f78], ds, h, rd⟩ :=
  loopQ.again m' hm ⟨_, _, h, _, _, _, _, _, _, _, _, _, _, _, _, _, _, rfl, hi⟩

/-! 46 (*landfall/landfallref04.Reader).Key -/
abbrev fn_landfallref04_Reader_Key : FuncId := 46
noncomputable def landfallref04_Reader_Key_l0 : ACode :=
  (.seq (.seq (.region [
      ⟨(some 12), .mov (.tmp 5), none, [], false⟩,
      ⟨(some 13), .mov (.tmp 4), none, [], false⟩,
      ⟨(some 14), .lenSl (.tmp 13), none, [], false⟩,
      ⟨(some 15), .bin .lss (so (.binOp .lss 3 (.tmp 12) (.tmp 14) 3) 4) (.tmp 12) (.tmp 14), none, [], false⟩]) (.cond (.tmp 15)
    .skip
    (.exit 0))) (.seq (.block 1 (.region [
      ⟨(some 18), .mov (.tmp 5), none, [], false⟩,
      ⟨(some 19), .mov (.tmp 4), none, [], false⟩,
      ⟨(some 20), .mov (.tmp 5), none, [], false⟩,
      ⟨(some 21), .indexSl 1 (.tmp 19) (.tmp 20), none, [], false⟩,
      ⟨(some 22), .load none (.tmp 21), none, [], false⟩,
      ⟨(some 23), .indexArr 4 1 (.tmp 3) (.tmp 18), none, [], false⟩,
      ⟨none, .store 1 (.tmp 23) (.tmp 22), none, [], false⟩])) (.region [
      ⟨(some 16), .mov (.tmp 5), none, [], false⟩,
      ⟨(some 17), .bin .add (so (.binOp .add 3 (.tmp 16) (.const (.int .i64 1)) 3) 3) (.tmp 16) (.const (.int .i64 1)), none, [], false⟩,
      ⟨(some 5), .mov (.tmp 17), none, [], false⟩])))
noncomputable def landfallref04_Reader_Key_c : ACode :=
  (.seq (.region [
      ⟨(some 2), .alloc 42 [(.int .u8 0), (.int .u8 0), (.int .u8 0), (.int .u8 0)], none, [], false⟩]) (.seq (.region [
      ⟨(some 3), .alloc 42 [(.int .u8 0), (.int .u8 0), (.int .u8 0), (.int .u8 0)], none, [], false⟩]) (.seq (.region [
      ⟨(some 6), .mov (.tmp 0), none, [], false⟩,
      ⟨(some 7), .mov (.tmp 0), none, [], false⟩,
      ⟨(some 8), .nilCheck (.tmp 7), none, [], false⟩,
      ⟨(some 9), .fieldAddr 1 (.tmp 8), none, [], false⟩,
      ⟨(some 10), .load none (.tmp 9), none, [], false⟩,
      ⟨(some 11), .callV (.func 77) [(.tmp 6), (.const (.int .i64 4)), (.tmp 10)], none, [], false⟩,
      ⟨(some 4), .mov (.tmp 11), none, [], false⟩]) (.seq (.seq (.region [
      ⟨(some 5), .mov (.const (.int .i64 0)), none, [], false⟩]) (.block 0 (.loop landfallref04_Reader_Key_l0))) (.seq (.region [
      ⟨(some 24), .load (some 4) (.tmp 3), none, [], false⟩,
      ⟨none, .store 4 (.tmp 2) (.tmp 24), none, [], false⟩]) .ret)))))
noncomputable def landfallref04_Reader_Key : AFunc := ⟨25, [(2, some (some 4))], landfallref04_Reader_Key_c, none⟩
theorem landfallref04_Reader_Key_t0 : tableOf Try.prog 46 = some landfallref04_Reader_Key := by kernel_rfl
theorem landfallref04_Reader_Key_t : T0 46 = some landfallref04_Reader_Key := withKept_t rfl (withTrue_t rfl landfallref04_Reader_Key_t0)
theorem landfallref04_Reader_Key_runs {v0 : Value} {h : Heap} {R : RP} {X : XP} (k : RunC Try.prog T0 landfallref04_Reader_Key_c ⟨[v0, undef, undef, undef, undef, undef, undef, undef, undef, undef, undef, undef, undef, undef, undef, undef, undef, undef, undef, undef, undef, undef, undef, undef, undef], [], h, none⟩ (bodyQ Try.prog T0 [(2, some (some 4))] R X)) :
    Runs Try.prog T0 (.fn 46) [v0] h R X := Runs.fn landfallref04_Reader_Key_t rfl k
/-- the slots that turn in the loop: v5 -/
noncomputable def landfallref04_Reader_Key_l0_J (f0 f1 f2 f3 f4 f6 f7 f8 f9 f10 f11 f24 : Value) (ds : List Deferred) (rd : Option Nat) (I : Nat → Value → Heap → Prop) (m : Nat) (s : St) : Prop := ∃ (v5 : Value), ∃ h : Heap, ∃ (x12 x13 x14 x15 x16 x17 x18 x19 x20 x21 x22 x23 : Value), s = ⟨[f0, f1, f2, f3, f4, v5, f6, f7, f8, f9, f10, f11, x12, x13, x14, x15, x16, x17, x18, x19, x20, x21, x22, x23, f24], ds, h, rd⟩ ∧ I m v5 h
theorem landfallref04_Reader_Key_l0_rule {f0 f1 f2 f3 f4 f6 f7 f8 f9 f10 f11 f24 : Value} {ds : List Deferred} {rd : Option Nat} {Q : QP} (I : Nat → Value → Heap → Prop) (hb : ∀ (m : Nat) (v5 : Value) (h : Heap) (x12 x13 x14 x15 x16 x17 x18 x19 x20 x21 x22 x23 : Value) , I m v5 h → RunC Try.prog T0 landfallref04_Reader_Key_l0 ⟨[f0, f1, f2, f3, f4, v5, f6, f7, f8, f9, f10, f11, x12, x13, x14, x15, x16, x17, x18, x19, x20, x21, x22, x23, f24], ds, h, rd⟩ (loopQ (landfallref04_Reader_Key_l0_J f0 f1 f2 f3 f4 f6 f7 f8 f9 f10 f11 f24 ds rd I) m Q))
    (m : Nat) {v5 : Value} {h : Heap} {x12 x13 x14 x15 x16 x17 x18 x19 x20 x21 x22 x23 : Value} (hi : I m v5 h) : RunC Try.prog T0 (.loop landfallref04_Reader_Key_l0) ⟨[f0, f1, f2, f3, f4, v5, f6, f7, f8, f9, f10, f11, x12, x13, x14, x15, x16, x17, x18, x19, x20, x21, x22, x23, f24], ds, h, rd⟩ Q :=
  RunC.loopJ (landfallref04_Reader_Key_l0_J f0 f1 f2 f3 f4 f6 f7 f8 f9 f10 f11 f24 ds rd I) (fun m s hj => by obtain ⟨v5, h, x12, x13, x14, x15, x16, x17, x18, x19, x20, x21, x22, x23, rfl, hi⟩ := hj; exact hb m v5 h x12 x13 x14 x15 x16 x17 x18 x19 x20 x21 x22 x23 hi) m _ ⟨_, h, _, _, _, _, _, _, _, _, _, _, _, _, rfl, hi⟩
theorem landfallref04_Reader_Key_l0_again {f0 f1 f2 f3 f4 f6 f7 f8 f9 f10 f11 f24 : Value} {ds : List Deferred} {rd : Option Nat} {Q : QP} {I : Nat → Value → Heap → Prop} {m : Nat} (m' : Nat) {v5 : Value} {h : Heap} {x12 x13 x14 x15 x16 x17 x18 x19 x20 x21 x22 x23 : Value} (hm : m' < m) (hi : I m' v5 h) : loopQ (landfallref04_Reader_Key_l0_J f0 f1 f2 f3 f4 f6 f7 f8 f9 f10 f11 f24 ds rd I) m Q .normal ⟨[f0, f1, f2, f3, f4, v5, f6, f7, f8, f9, f10, f11, x12, x13, x14, x15, x16, x17, x18, x19, x20, x21, x22, x23, f24], ds, h, rd⟩ :=
  loopQ.again m' hm ⟨_, h, _, _, _, _, _, _, _, _, _, _, _, _, rfl, hi⟩

/-! 47 (*landfall/landfallref04.Reader).End -/
abbrev fn_landfallref04_Reader_End : FuncId := 47
noncomputable def landfallref04_Reader_End_c : ACode :=
  (.seq (.region [
      ⟨(some 2), .alloc 28 [(.int .i64 0), (.int .i64 0)], none, [], false⟩]) (.seq (.seq (.regionD [
      ⟨(some 3), .mov (.tmp 0), none, [], true⟩,
      ⟨(some 4), .nilCheck (.tmp 3), none, [], true⟩,
      ⟨(some 5), .fieldAddr 2 (.tmp 4), none, [], true⟩,
      ⟨(some 6), .fieldAddr 0 (.tmp 5), none, [], true⟩,
      ⟨(some 7), .load none (.tmp 6), none, [], true⟩,
      ⟨(some 8), .bin .eql (so (.binOp .eql 26 (.tmp 7) (.const (.int .i64 0)) 26) 4) (.tmp 7) (.const (.int .i64 0)), none, [], true⟩,
      ⟨(some 9), .mov (.tmp 8), none, [], true⟩,
      ⟨(some 10), .mov (.tmp 0), (some (9, true)), [], false⟩,
      ⟨(some 11), .nilCheck (.tmp 10), (some (9, true)), [], false⟩,
      ⟨(some 12), .fieldAddr 1 (.tmp 11), (some (9, true)), [], false⟩,
      ⟨(some 13), .load none (.tmp 12), (some (9, true)), [], false⟩,
      ⟨(some 14), .mov (.tmp 0), (some (9, true)), [], false⟩,
      ⟨(some 15), .nilCheck (.tmp 14), (some (9, true)), [], false⟩,
      ⟨(some 16), .fieldAddr 0 (.tmp 15), (some (9, true)), [], false⟩,
      ⟨(some 17), .load none (.tmp 16), (some (9, true)), [], false⟩,
      ⟨(some 18), .lenSl (.tmp 17), (some (9, true)), [], false⟩,
      ⟨(some 19), .bin .lss (so (.binOp .lss 3 (.tmp 13) (.tmp 18) 3) 4) (.tmp 13) (.tmp 18), (some (9, true)), [], true⟩,
      ⟨(some 20), .pick (.tmp 9) (.tmp 19) (.const (.bool false)), none, [], true⟩]) (.cond (.tmp 20)
    (.seq (.region [
      ⟨(some 21), .mov (.tmp 0), none, [], false⟩,
      ⟨(some 22), .nilCheck (.tmp 21), none, [], false⟩,
      ⟨(some 23), .fieldAddr 1 (.tmp 22), none, [], false⟩,
      ⟨(some 24), .load none (.tmp 23), none, [], false⟩,
      ⟨(some 25), .build [(.int .i64 0), (.int .i64 0)] [(0, 1, (.const (.int .i64 4))), (1, 1, (.tmp 24))], none, [], false⟩,
      ⟨none, .store 2 (.tmp 2) (.tmp 25), none, [], false⟩]) .ret)
    .skip)) (.seq (.region [
      ⟨(some 26), .mov (.tmp 0), none, [], false⟩,
      ⟨(some 27), .nilCheck (.tmp 26), none, [], false⟩,
      ⟨(some 28), .fieldAddr 2 (.tmp 27), none, [], false⟩,
      ⟨(some 29), .load (some 2) (.tmp 28), none, [], false⟩,
      ⟨none, .store 2 (.tmp 2) (.tmp 29), none, [], false⟩]) .ret)))
noncomputable def landfallref04_Reader_End : AFunc := ⟨30, [(2, some (some 2))], landfallref04_Reader_End_c, none⟩
theorem landfallref04_Reader_End_t0 : tableOf Try.prog 47 = some landfallref04_Reader_End := by kernel_rfl
theorem landfallref04_Reader_End_t : T0 47 = some landfallref04_Reader_End := withKept_t rfl (withTrue_t rfl landfallref04_Reader_End_t0)
theorem landfallref04_Reader_End_runs {v0 : Value} {h : Heap} {R : RP} {X : XP} (k : RunC Try.prog T0 landfallref04_Reader_End_c ⟨[v0, undef, undef, undef, undef, undef, undef, undef, undef, undef, undef, undef, undef, undef, undef, undef, undef, undef, undef, undef, undef, undef, undef, undef, undef, undef, undef, undef, undef, undef], [], h, none⟩ (bodyQ Try.prog T0 [(2, some (some 2))] R X)) :
    Runs Try.prog T0 (.fn 47) [v0] h R X := Runs.fn landfallref04_Reader_End_t rfl k


/-! 48 (*landfall/vals.look).at -/
abbrev fn_vals_look_at : FuncId := 48
noncomputable def vals_look_at_c : ACode :=
  (.seq (.region [
      ⟨(some 3), .box 54 (.tmp 1), none, [], false⟩,
      ⟨(some 4), .mov (.const (.int .i64 0)), none, [], false⟩]) (.seq (.regionD [
      ⟨(some 6), .mov (.tmp 0), none, [], true⟩,
      ⟨(some 7), .nilCheck (.tmp 6), none, [], true⟩,
      ⟨(some 8), .fieldAddr 4 (.tmp 7), none, [], true⟩,
      ⟨(some 9), .load none (.tmp 8), none, [], true⟩,
      ⟨(some 10), .mov (.tmp 9), none, [], true⟩,
      ⟨(some 11), .mov (.tmp 0), (some (10, true)), [], false⟩,
      ⟨(some 12), .nilCheck (.tmp 11), (some (10, true)), [], false⟩,
      ⟨(some 13), .fieldAddr 0 (.tmp 12), (some (10, true)), [], false⟩,
      ⟨(some 14), .sliceArr 4 1 (.tmp 13) none none, (some (10, true)), [], false⟩,
      ⟨(some 15), .fieldAddr 0 (.tmp 3), (some (10, true)), [], false⟩,
      ⟨(some 16), .sliceArr 4 1 (.tmp 15) none none, (some (10, true)), [], false⟩,
      ⟨(some 17), .callV (.func 79) [(.tmp 14), (.tmp 16)], (some (10, true)), [], true⟩,
      ⟨(some 18), .bin .geq (so (.binOp .geq 3 (.tmp 17) (.const (.int .i64 0)) 3) 4) (.tmp 17) (.const (.int .i64 0)), (some (10, true)), [], true⟩,
      ⟨(some 19), .pick (.tmp 10) (.tmp 18) (.const (.bool false)), none, [], true⟩,
      ⟨(some 5), .mov (.tmp 19), none, [], true⟩]) (.seq (.region [
      ⟨(some 20), .mov (.tmp 0), none, [], false⟩,
      ⟨(some 21), .mov (.tmp 0), none, [], false⟩,
      ⟨(some 22), .fieldAddr 0 (.tmp 3), none, [], false⟩,
      ⟨(some 23), .load (some 4) (.tmp 22), none, [], false⟩,
      ⟨(some 24), .nilCheck (.tmp 20), none, [], false⟩,
      ⟨(some 25), .fieldAddr 0 (.tmp 24), none, [], false⟩,
      ⟨none, .store 4 (.tmp 25) (.tmp 23), none, [], false⟩,
      ⟨(some 26), .nilCheck (.tmp 21), none, [], false⟩,
      ⟨(some 27), .fieldAddr 4 (.tmp 26), none, [], false⟩,
      ⟨none, .store 1 (.tmp 27) (.const (.bool true)), none, [], false⟩]) (.seq (.block 0 (.seq (.region [
      ⟨(some 29), .mov (.tmp 5), none, [], false⟩,
      ⟨(some 28), .mov (.tmp 29), none, [], false⟩]) (.cond (.tmp 28)
    (.seq (.region [
      ⟨(some 4), .mov (.const (.int .i64 9)), none, [], false⟩]) .ret)
    (.seq (.regionD [
      ⟨(some 31), .fieldAddr 4 (.tmp 3), none, [], false⟩,
      ⟨(some 32), .load none (.tmp 31), none, [], false⟩,
      ⟨(some 33), .mov (.tmp 0), none, [], false⟩,
      ⟨(some 34), .nilCheck (.tmp 33), none, [], false⟩,
      ⟨(some 35), .fieldAddr 5 (.tmp 34), none, [], false⟩,
      ⟨(some 36), .load none (.tmp 35), none, [], false⟩,
      ⟨(some 37), .bin .lss (so (.binOp .lss 3 (.tmp 32) (.tmp 36) 3) 4) (.tmp 32) (.tmp 36), none, [], true⟩,
      ⟨(some 38), .mov (.tmp 37), none, [], true⟩,
      ⟨(some 39), .fieldAddr 4 (.tmp 3), (some (38, false)), [], false⟩,
      ⟨(some 40), .load none (.tmp 39), (some (38, false)), [], false⟩,
      ⟨(some 41), .mov (.tmp 0), (some (38, false)), [], false⟩,
      ⟨(some 42), .nilCheck (.tmp 41), (some (38, false)), [], false⟩,
      ⟨(some 43), .fieldAddr 6 (.tmp 42), (some (38, false)), [], false⟩,
      ⟨(some 44), .load none (.tmp 43), (some (38, false)), [], false⟩,
      ⟨(some 45), .bin .gtr (so (.binOp .gtr 3 (.tmp 40) (.tmp 44) 3) 4) (.tmp 40) (.tmp 44), (some (38, false)), [], true⟩,
      ⟨(some 46), .pick (.tmp 38) (.const (.bool true)) (.tmp 45), none, [], true⟩,
      ⟨(some 30), .mov (.tmp 46), none, [], true⟩]) (.cond (.tmp 30)
    (.seq (.region [
      ⟨(some 4), .mov (.const (.int .i64 3)), none, [], false⟩]) .ret)
    .skip))))) (.seq (.region [
      ⟨(some 4), .mov (.const (.int .i64 0)), none, [], false⟩]) .ret)))))
noncomputable def vals_look_at : AFunc := ⟨47, [(4, none)], vals_look_at_c, none⟩
theorem vals_look_at_t0 : tableOf Try.prog 48 = some vals_look_at := by kernel_rfl
theorem vals_look_at_t : T0 48 = some vals_look_at := withKept_t rfl (withTrue_t rfl vals_look_at_t0)
theorem vals_look_at_runs {v0 v1 : Value} {h : Heap} {R : RP} {X : XP} (k : RunC Try.prog T0 vals_look_at_c ⟨[v0, v1, undef, undef, undef, undef, undef, undef, undef, undef, undef, undef, undef, undef, undef, undef, undef, undef, undef, undef, undef, undef, undef, undef, undef, undef, undef, undef, undef, undef, undef, undef, undef, undef, undef, undef, undef, undef, undef, undef, undef, undef, undef, undef, undef, undef, undef], [], h, none⟩ (bodyQ Try.prog T0 [(4, none)] R X)) :
    Runs Try.prog T0 (.fn 48) [v0, v1] h R X := Runs.fn vals_look_at_t rfl k


/-! 50 landfall/landfallref05.Less -/
abbrev fn_landfallref05_Less : FuncId := 50
noncomputable def landfallref05_Less_l0 : ACode :=
  (.seq (.seq (.region [
      ⟨(some 6), .mov (.tmp 5), none, [], false⟩,
      ⟨(some 7), .bin .lss (so (.binOp .lss 3 (.tmp 6) (.const (.int .i64 4)) 3) 4) (.tmp 6) (.const (.int .i64 4)), none, [], false⟩]) (.cond (.tmp 7)
    .skip
    (.exit 0))) (.seq (.block 1 (.seq (.regionD [
      ⟨(some 10), .mov (.tmp 5), none, [], false⟩,
      ⟨(some 11), .indexArr 4 1 (.tmp 2) (.tmp 10), none, [], false⟩,
      ⟨(some 12), .load none (.tmp 11), none, [], false⟩,
      ⟨(some 13), .mov (.tmp 5), none, [], false⟩,
      ⟨(some 14), .indexArr 4 1 (.tmp 3) (.tmp 13), none, [], false⟩,
      ⟨(some 15), .load none (.tmp 14), none, [], false⟩,
      ⟨(some 16), .bin .neq (so (.binOp .neq 5 (.tmp 12) (.tmp 15) 5) 4) (.tmp 12) (.tmp 15), none, [], true⟩]) (.cond (.tmp 16)
    (.seq (.regionD [
      ⟨(some 17), .mov (.tmp 5), none, [], false⟩,
      ⟨(some 18), .indexArr 4 1 (.tmp 2) (.tmp 17), none, [], false⟩,
      ⟨(some 19), .load none (.tmp 18), none, [], false⟩,
      ⟨(some 20), .mov (.tmp 5), none, [], false⟩,
      ⟨(some 21), .indexArr 4 1 (.tmp 3) (.tmp 20), none, [], false⟩,
      ⟨(some 22), .load none (.tmp 21), none, [], false⟩,
      ⟨(some 23), .bin .lss (so (.binOp .lss 5 (.tmp 19) (.tmp 22) 5) 4) (.tmp 19) (.tmp 22), none, [], true⟩,
      ⟨(some 4), .mov (.tmp 23), none, [], true⟩]) .ret)
    .skip))) (.region [
      ⟨(some 8), .mov (.tmp 5), none, [], false⟩,
      ⟨(some 9), .bin .add (so (.binOp .add 3 (.tmp 8) (.const (.int .i64 1)) 3) 3) (.tmp 8) (.const (.int .i64 1)), none, [], false⟩,
      ⟨(some 5), .mov (.tmp 9), none, [], false⟩])))
noncomputable def landfallref05_Less_c : ACode :=
  (.seq (.region [
      ⟨(some 2), .box 42 (.tmp 0), none, [], false⟩,
      ⟨(some 3), .box 42 (.tmp 1), none, [], false⟩,
      ⟨(some 4), .mov (.const (.bool false)), none, [], false⟩]) (.seq (.seq (.region [
      ⟨(some 5), .mov (.const (.int .i64 0)), none, [], false⟩]) (.block 0 (.loop landfallref05_Less_l0))) (.seq (.region [
      ⟨(some 4), .mov (.const (.bool false)), none, [], false⟩]) .ret)))
noncomputable def landfallref05_Less : AFunc := ⟨24, [(4, none)], landfallref05_Less_c, none⟩
theorem landfallref05_Less_t0 : tableOf Try.prog 50 = some landfallref05_Less := by kernel_rfl
theorem landfallref05_Less_t : T0 50 = some landfallref05_Less := withKept_t rfl (withTrue_t rfl landfallref05_Less_t0)
theorem landfallref05_Less_runs {v0 v1 : Value} {h : Heap} {R : RP} {X : XP} (k : RunC Try.prog T0 landfallref05_Less_c ⟨[v0, v1, undef, undef, undef, undef, undef, undef, undef, undef, undef, undef, undef, undef, undef, undef, undef, undef, undef, undef, undef, undef, undef, undef], [], h, none⟩ (bodyQ Try.prog T0 [(4, none)] R X)) :
    Runs Try.prog T0 (.fn 50) [v0, v1] h R X := Runs.fn landfallref05_Less_t rfl k
/-- the slots that turn in the loop: v5 -/
noncomputable def landfallref05_Less_l0_J (f0 f1 f2 f3 : Value) (ds : List Deferred) (rd : Option Nat) (I : Nat → Value → Heap → Prop) (m : Nat) (s : St) : Prop := ∃ (v5 : Value), ∃ h : Heap, ∃ (x4 x6 x7 x8 x9 x10 x11 x12 x13 x14 x15 x16 x17 x18 x19 x20 x21 x22 x23 : Value), s = ⟨[f0, f1, f2, f3, x4, v5, x6, x7, x8, x9, x10, x11, x12, x13, x14, x15, x16, x17, x18, x19, x20, x21, x22, x23], ds, h, rd⟩ ∧ I m v5 h
theorem landfallref05_Less_l0_rule {f0 f1 f2 f3 : Value} {ds : List Deferred} {rd : Option Nat} {Q : QP} (I : Nat → Value → Heap → Prop) (hb : ∀ (m : Nat) (v5 : Value) (h : Heap) (x4 x6 x7 x8 x9 x10 x11 x12 x13 x14 x15 x16 x17 x18 x19 x20 x21 x22 x23 : Value) , I m v5 h → RunC Try.prog T0 landfallref05_Less_l0 ⟨[f0, f1, f2, f3, x4, v5, x6, x7, x8, x9, x10, x11, x12, x13, x14, x15, x16, x17, x18, x19, x20, x21, x22, x23], ds, h, rd⟩ (loopQ (landfallref05_Less_l0_J f0 f1 f2 f3 ds rd I) m Q))
    (m : Nat) {v5 : Value} {h : Heap} {x4 x6 x7 x8 x9 x10 x11 x12 x13 x14 x15 x16 x17 x18 x19 x20 x21 x22 x23 : Value} (hi : I m v5 h) : RunC Try.prog T0 (.loop landfallref05_Less_l0) ⟨[f0, f1, f2, f3, x4, v5, x6, x7, x8, x9, x10, x11, x12, x13, x14, x15, x16, x17, x18, x19, x20, x21, x22, x23], ds, h, rd⟩ Q :=
  RunC.loopJ (landfallref05_Less_l0_J f0 f1 f2 f3 ds rd I) (fun m s hj => by obtain ⟨v5, h, x4, x6, x7, x8, x9, x10, x11, x12, x13, x14, x15, x16, x17, x18, x19, x20, x21, x22, x23, rfl, hi⟩ := hj; exact hb m v5 h x4 x6 x7 x8 x9 x10 x11 x12 x13 x14 x15 x16 x17 x18 x19 x20 x21 x22 x23 hi) m _ ⟨_, h, _, _, _, _, _, _, _, _, _, _, _, _, _, _, _, _, _, _, _, rfl, hi⟩
theorem landfallref05_Less_l0_again {f0 f1 f2 f3 : Value} {ds : List Deferred} {rd : Option Nat} {Q : QP} {I : Nat → Value → Heap → Prop} {m : Nat} (m' : Nat) {v5 : Value} {h : Heap} {x4 x6 x7 x8 x9 x10 x11 x12 x13 x14 x15 x16 x17 x18 x19 x20 x21 x22 x23 : Value} (hm : m' < m) (hi : I m' v5 h) : loopQ (landfallref05_Less_l0_J f0 f1 f2 f3 ds rd I) m Q .normal ⟨[f0, f1, f2, f3, x4, v5, x6, x7, x8, x9, x10, x11, x12, x13, x14, x15, x16, x17, x18, x19, x20, x21, x22, x23], ds, h, rd⟩ :=
  loopQ.again m' hm ⟨_, h, _, _, _, _, _, _, _, _, _, _, _, _, _, _, _, _, _, _, _, rfl, hi⟩

/-! 70 slices.Clone[[]byte,byte] -/
abbrev fn_slices_Clone___byte_byte_ : FuncId := 70
noncomputable def slices_Clone___byte_byte__c : ACode :=
  (.seq (.region [
      ⟨(some 2), .mov (.const (.slice none 0 0)), none, [], false⟩]) (.seq (.seq (.region [
      ⟨(some 3), .mov (.tmp 0), none, [], false⟩,
      ⟨(some 4), .eq .slice false (so (.binOp .eql 22 (.tmp 3) (.const (.slice none 0 0)) 22) 4) (.tmp 3) (.const (.slice none 0 0)), none, [], false⟩]) (.cond (.tmp 4)
    (.seq (.region [
      ⟨(some 2), .mov (.const (.slice none 0 0)), none, [], false⟩]) .ret)
    .skip)) (.seq (.region [
      ⟨(some 5), .buildSlice 5 [] 0 [], none, [], false⟩,
      ⟨(some 6), .mov (.tmp 0), none, [], false⟩,
      ⟨(some 7), .append 5 1 1 [(.int .u8 0)] false (.tmp 5) (.tmp 6), none, [], false⟩,
      ⟨(some 2), .mov (.tmp 7), none, [], false⟩]) .ret)))
noncomputable def slices_Clone___byte_byte_ : AFunc := ⟨8, [(2, none)], slices_Clone___byte_byte__c, none⟩
theorem slices_Clone___byte_byte__t0 : tableOf Try.prog 70 = some slices_Clone___byte_byte_ := by kernel_rfl
theorem slices_Clone___byte_byte__t : T0 70 = some slices_Clone___byte_byte_ := withKept_t rfl (withTrue_t rfl slices_Clone___byte_byte__t0)
theorem slices_Clone___byte_byte__runs {v0 : Value} {h : Heap} {R : RP} {X : XP} (k : RunC Try.prog T0 slices_Clone___byte_byte__c ⟨[v0, undef, undef, undef, undef, undef, undef, undef], [], h, none⟩ (bodyQ Try.prog T0 [(2, none)] R X)) :
    Runs Try.prog T0 (.fn 70) [v0] h R X := Runs.fn slices_Clone___byte_byte__t rfl k


/-! 71 landfall/wire.reads[int] -/
abbrev fn_wire_reads_int_ : FuncId := 71
noncomputable def wire_reads_int__c : ACode :=
  (.seq (.region [
      ⟨(some 4), .mov (.const (.int .i64 0)), none, [], false⟩]) (.seq (.seq (.region [
      ⟨(some 5), .mov (.tmp 0), none, [], false⟩,
      ⟨(some 6), .eq .ptr false (so (.binOp .eql 68 (.tmp 5) (.const (.pointer none)) 68) 4) (.tmp 5) (.const (.pointer none)), none, [], false⟩,
      ⟨(some 7), .mov (.tmp 6), none, [], false⟩,
      ⟨(some 8), .mov (.tmp 0), (some (7, false)), [], false⟩,
      ⟨(some 9), .nilCheck (.tmp 8), (some (7, false)), [], false⟩,
      ⟨(some 10), .fieldAddr 4 (.tmp 9), (some (7, false)), [], false⟩,
      ⟨(some 11), .load none (.tmp 10), (some (7, false)), [], false⟩,
      ⟨(some 12), .raw (so (.unOp .not 4 (.tmp 11)) 4), (some (7, false)), [], false⟩,
      ⟨(some 13), .pick (.tmp 7) (.const (.bool true)) (.tmp 12), none, [], false⟩,
      ⟨(some 14), .mov (.tmp 13), none, [], false⟩,
      ⟨(some 15), .mov (.tmp 0), (some (14, false)), [], false⟩,
      ⟨(some 16), .nilCheck (.tmp 15), (some (14, false)), [], false⟩,
      ⟨(some 17), .fieldAddr 2 (.tmp 16), (some (14, false)), [], false⟩,
      ⟨(some 18), .fieldAddr 0 (.tmp 17), (some (14, false)), [], false⟩,
      ⟨(some 19), .load none (.tmp 18), (some (14, false)), [], false⟩,
      ⟨(some 20), .bin .neq (so (.binOp .neq 26 (.tmp 19) (.const (.int .i64 0)) 26) 4) (.tmp 19) (.const (.int .i64 0)), (some (14, false)), [], false⟩,
      ⟨(some 21), .pick (.tmp 14) (.const (.bool true)) (.tmp 20), none, [], false⟩]) (.cond (.tmp 21)
    (.seq (.region [
      ⟨(some 22), .mov (.tmp 4), none, [], false⟩,
      ⟨(some 4), .mov (.tmp 22), none, [], false⟩]) .ret)
    .skip)) (.seq (.region [
      ⟨(some 23), .mov (.tmp 0), none, [], false⟩,
      ⟨none, .defer (.func 94) [(.tmp 23)], none, [], false⟩]) (.seq (.region [
      ⟨(some 24), .mov (.tmp 1), none, [], false⟩,
      ⟨(some 25), .mov (.tmp 0), none, [], false⟩,
      ⟨(some 26), .nilCheck (.tmp 25), none, [], false⟩,
      ⟨(some 27), .fieldAddr 1 (.tmp 26), none, [], false⟩,
      ⟨(some 28), .load none (.tmp 27), none, [], false⟩,
      ⟨(some 29), .callV (.tmp 24) [(.tmp 28)], none, [], false⟩,
      ⟨(some 4), .mov (.tmp 29), none, [], false⟩]) .ret))))
noncomputable def wire_reads_int_ : AFunc := ⟨30, [(4, none)], wire_reads_int__c, none⟩
theorem wire_reads_int__t0 : tableOf Try.prog 71 = some wire_reads_int_ := by kernel_rfl
theorem wire_reads_int__t : T0 71 = some wire_reads_int_ := withKept_t rfl (withTrue_t rfl wire_reads_int__t0)
theorem wire_reads_int__runs {v0 v1 : Value} {h : Heap} {R : RP} {X : XP} (k : RunC Try.prog T0 wire_reads_int__c ⟨[v0, v1, undef, undef, undef, undef, undef, undef, undef, undef, undef, undef, undef, undef, undef, undef, undef, undef, undef, undef, undef, undef, undef, undef, undef, undef, undef, undef, undef, undef], [], h, none⟩ (bodyQ Try.prog T0 [(4, none)] R X)) :
    Runs Try.prog T0 (.fn 71) [v0, v1] h R X := Runs.fn wire_reads_int__t rfl k


/-! 72 (*landfall/wire.Reader).num -/
abbrev fn_wire_Reader_num : FuncId := 72
noncomputable def wire_Reader_num_c : ACode :=
  (.seq (.region [
      ⟨(some 4), .mov (.const (.int .i64 0)), none, [], false⟩]) (.seq (.region [
      ⟨(some 8), .mov (.tmp 0), none, [], false⟩,
      ⟨(some 9), .mov (.tmp 1), none, [], false⟩,
      ⟨(some 10), .callV (.func 95) [(.tmp 8), (.const (.int .i64 1)), (.tmp 9), (.func 96)], none, [], false⟩,
      ⟨(some 11), .conv .i64 (so (.convert 50 3 (.tmp 10)) 3) (.tmp 10), none, [], false⟩,
      ⟨(some 5), .alloc 3 [(.int .i64 0)], none, [], false⟩,
      ⟨none, .store 1 (.tmp 5) (.tmp 11), none, [], false⟩]) (.seq (.region [
      ⟨(some 12), .load none (.tmp 5), none, [], false⟩,
      ⟨(some 13), .bin .leq (so (.binOp .leq 3 (.tmp 12) (.const (.int .i64 8)) 3) 4) (.tmp 12) (.const (.int .i64 8)), none, [], false⟩,
      ⟨(some 14), .mov (.tmp 1), none, [], false⟩,
      ⟨(some 15), .callV (.func 97) [(.tmp 13), (.const (.int .i64 5)), (.tmp 14)], none, [], false⟩]) (.seq (.region [
      ⟨(some 6), .alloc 5 [(.int .u8 0)], none, [], false⟩,
      ⟨none, .store 1 (.tmp 6) (.const (.int .u8 1)), none, [], false⟩]) (.seq (.region [
      ⟨(some 16), .mov (.tmp 0), none, [], false⟩,
      ⟨(some 17), .load none (.tmp 5), none, [], false⟩,
      ⟨(some 18), .mov (.tmp 1), none, [], false⟩,
      ⟨(some 19), .mkFunc (.func 98) [] [(.tmp 5), (.tmp 6)], none, [], false⟩,
      ⟨(some 20), .callV (.func 95) [(.tmp 16), (.tmp 17), (.tmp 18), (.tmp 19)], none, [], false⟩,
      ⟨(some 7), .mov (.tmp 20), none, [], false⟩]) (.seq (.region [
      ⟨(some 21), .load none (.tmp 6), none, [], false⟩,
      ⟨(some 22), .bin .neq (so (.binOp .neq 5 (.tmp 21) (.const (.int .u8 0)) 5) 4) (.tmp 21) (.const (.int .u8 0)), none, [], false⟩,
      ⟨(some 23), .mov (.tmp 22), none, [], false⟩,
      ⟨(some 24), .mov (.tmp 7), (some (23, true)), [], false⟩,
      ⟨(some 25), .bin .leq (so (.binOp .leq 50 (.tmp 24) (.const (.int .u64 9223372036854775807)) 50) 4) (.tmp 24) (.const (.int .u64 9223372036854775807)), (some (23, true)), [], false⟩,
      ⟨(some 26), .pick (.tmp 23) (.tmp 25) (.const (.bool false)), none, [], false⟩,
      ⟨(some 27), .mov (.tmp 1), none, [], false⟩,
      ⟨(some 28), .callV (.func 97) [(.tmp 26), (.const (.int .i64 5)), (.tmp 27)], none, [], false⟩]) (.seq (.region [
      ⟨(some 29), .mov (.tmp 7), none, [], false⟩,
      ⟨(some 30), .conv .i64 (so (.convert 50 3 (.tmp 29)) 3) (.tmp 29), none, [], false⟩,
      ⟨(some 4), .mov (.tmp 30), none, [], false⟩]) .ret)))))))
noncomputable def wire_Reader_num : AFunc := ⟨31, [(4, none)], wire_Reader_num_c, none⟩
theorem wire_Reader_num_t0 : tableOf Try.prog 72 = some wire_Reader_num := by kernel_rfl
theorem wire_Reader_num_t : T0 72 = some wire_Reader_num := withKept_t rfl (withTrue_t rfl wire_Reader_num_t0)
theorem wire_Reader_num_runs {v0 v1 : Value} {h : Heap} {R : RP} {X : XP} (k : RunC Try.prog T0 wire_Reader_num_c ⟨[v0, v1, undef, undef, undef, undef, undef, undef, undef, undef, undef, undef, undef, undef, undef, undef, undef, undef, undef, undef, undef, undef, undef, undef, undef, undef, undef, undef, undef, undef, undef], [], h, none⟩ (bodyQ Try.prog T0 [(4, none)] R X)) :
    Runs Try.prog T0 (.fn 72) [v0, v1] h R X := Runs.fn wire_Reader_num_t rfl k


/-! 73 landfall/wire.reads[landfall/api.Key] -/
abbrev fn_wire_reads_api_Key_ : FuncId := 73
noncomputable def wire_reads_api_Key__c : ACode :=
  (.seq (.region [
      ⟨(some 4), .alloc 42 [(.int .u8 0), (.int .u8 0), (.int .u8 0), (.int .u8 0)], none, [], false⟩]) (.seq (.seq (.region [
      ⟨(some 5), .mov (.tmp 0), none, [], false⟩,
      ⟨(some 6), .eq .ptr false (so (.binOp .eql 68 (.tmp 5) (.const (.pointer none)) 68) 4) (.tmp 5) (.const (.pointer none)), none, [], false⟩,
      ⟨(some 7), .mov (.tmp 6), none, [], false⟩,
      ⟨(some 8), .mov (.tmp 0), (some (7, false)), [], false⟩,
      ⟨(some 9), .nilCheck (.tmp 8), (some (7, false)), [], false⟩,
      ⟨(some 10), .fieldAddr 4 (.tmp 9), (some (7, false)), [], false⟩,
      ⟨(some 11), .load none (.tmp 10), (some (7, false)), [], false⟩,
      ⟨(some 12), .raw (so (.unOp .not 4 (.tmp 11)) 4), (some (7, false)), [], false⟩,
      ⟨(some 13), .pick (.tmp 7) (.const (.bool true)) (.tmp 12), none, [], false⟩,
      ⟨(some 14), .mov (.tmp 13), none, [], false⟩,
      ⟨(some 15), .mov (.tmp 0), (some (14, false)), [], false⟩,
      ⟨(some 16), .nilCheck (.tmp 15), (some (14, false)), [], false⟩,
      ⟨(some 17), .fieldAddr 2 (.tmp 16), (some (14, false)), [], false⟩,
      ⟨(some 18), .fieldAddr 0 (.tmp 17), (some (14, false)), [], false⟩,
      ⟨(some 19), .load none (.tmp 18), (some (14, false)), [], false⟩,
      ⟨(some 20), .bin .neq (so (.binOp .neq 26 (.tmp 19) (.const (.int .i64 0)) 26) 4) (.tmp 19) (.const (.int .i64 0)), (some (14, false)), [], false⟩,
      ⟨(some 21), .pick (.tmp 14) (.const (.bool true)) (.tmp 20), none, [], false⟩]) (.cond (.tmp 21)
    (.seq (.region [
      ⟨(some 22), .load (some 4) (.tmp 4), none, [], false⟩,
      ⟨none, .store 4 (.tmp 4) (.tmp 22), none, [], false⟩]) .ret)
    .skip)) (.seq (.region [
      ⟨(some 23), .mov (.tmp 0), none, [], false⟩,
      ⟨none, .defer (.func 94) [(.tmp 23)], none, [], false⟩]) (.seq (.region [
      ⟨(some 24), .mov (.tmp 1), none, [], false⟩,
      ⟨(some 25), .mov (.tmp 0), none, [], false⟩,
      ⟨(some 26), .nilCheck (.tmp 25), none, [], false⟩,
      ⟨(some 27), .fieldAddr 1 (.tmp 26), none, [], false⟩,
      ⟨(some 28), .load none (.tmp 27), none, [], false⟩,
      ⟨(some 29), .callV (.tmp 24) [(.tmp 28)], none, [], false⟩,
      ⟨none, .store 4 (.tmp 4) (.tmp 29), none, [], false⟩]) .ret))))
noncomputable def wire_reads_api_Key_ : AFunc := ⟨30, [(4, some (some 4))], wire_reads_api_Key__c, none⟩
theorem wire_reads_api_Key__t0 : tableOf Try.prog 73 = some wire_reads_api_Key_ := by kernel_rfl
theorem wire_reads_api_Key__t : T0 73 = some wire_reads_api_Key_ := withKept_t rfl (withTrue_t rfl wire_reads_api_Key__t0)
theorem wire_reads_api_Key__runs {v0 v1 : Value} {h : Heap} {R : RP} {X : XP} (k : RunC Try.prog T0 wire_reads_api_Key__c ⟨[v0, v1, undef, undef, undef, undef, undef, undef, undef, undef, undef, undef, undef, undef, undef, undef, undef, undef, undef, undef, undef, undef, undef, undef, undef, undef, undef, undef, undef, undef], [], h, none⟩ (bodyQ Try.prog T0 [(4, some (some 4))] R X)) :
    Runs Try.prog T0 (.fn 73) [v0, v1] h R X := Runs.fn wire_reads_api_Key__t rfl k


/-! 74 (*landfall/wire.Reader).Key$1 -/
abbrev fn_wire_Reader_Key_1 : FuncId := 74
noncomputable def wire_Reader_Key_1_c : ACode :=
  (.seq (.region [
      ⟨(some 3), .alloc 42 [(.int .u8 0), (.int .u8 0), (.int .u8 0), (.int .u8 0)], none, [], false⟩]) (.seq (.region [
      ⟨(some 4), .load none (.tmp 1), none, [], false⟩,
      ⟨(some 5), .mov (.tmp 0), none, [], false⟩,
      ⟨(some 6), .callV (.func 75) [(.tmp 4), (.const (.int .i64 4)), (.tmp 5), (.func 76)], none, [], false⟩,
      ⟨none, .store 4 (.tmp 3) (.tmp 6), none, [], false⟩]) .ret))
noncomputable def wire_Reader_Key_1 : AFunc := ⟨7, [(3, some (some 4))], wire_Reader_Key_1_c, none⟩
theorem wire_Reader_Key_1_t0 : tableOf Try.prog 74 = some wire_Reader_Key_1 := by kernel_rfl
theorem wire_Reader_Key_1_t : T0 74 = some wire_Reader_Key_1 := withKept_t rfl (withTrue_t rfl wire_Reader_Key_1_t0)
theorem wire_Reader_Key_1_runs {v0 v1 : Value} {h : Heap} {R : RP} {X : XP} (k : RunC Try.prog T0 wire_Reader_Key_1_c ⟨[v0, v1, undef, undef, undef, undef, undef], [], h, none⟩ (bodyQ Try.prog T0 [(3, some (some 4))] R X)) :
    Runs Try.prog T0 (.fn 74) [v0, v1] h R X := Runs.fn wire_Reader_Key_1_t rfl k


/-! 75 landfall/wire.take[landfall/api.Key] -/
abbrev fn_wire_take_api_Key_ : FuncId := 75
noncomputable def wire_take_api_Key__c : ACode :=
  (.seq (.region [
      ⟨(some 8), .alloc 42 [(.int .u8 0), (.int .u8 0), (.int .u8 0), (.int .u8 0)], none, [], false⟩]) (.seq (.regionD [
      ⟨(some 9), .mov (.tmp 1), none, [], false⟩,
      ⟨(some 10), .mov (.tmp 0), none, [], false⟩,
      ⟨(some 11), .nilCheck (.tmp 10), none, [], false⟩,
      ⟨(some 12), .fieldAddr 0 (.tmp 11), none, [], false⟩,
      ⟨(some 13), .load none (.tmp 12), none, [], false⟩,
      ⟨(some 14), .lenSl (.tmp 13), none, [], false⟩,
      ⟨(some 15), .mov (.tmp 0), none, [], false⟩,
      ⟨(some 16), .nilCheck (.tmp 15), none, [], false⟩,
      ⟨(some 17), .fieldAddr 1 (.tmp 16), none, [], false⟩,
      ⟨(some 18), .load none (.tmp 17), none, [], false⟩,
      ⟨(some 19), .bin .sub (so (.binOp .sub 3 (.tmp 14) (.tmp 18) 3) 3) (.tmp 14) (.tmp 18), none, [], false⟩,
      ⟨(some 20), .bin .leq (so (.binOp .leq 3 (.tmp 9) (.tmp 19) 3) 4) (.tmp 9) (.tmp 19), none, [], false⟩,
      ⟨(some 21), .mov (.tmp 2), none, [], false⟩,
      ⟨(some 22), .callV (.func 97) [(.tmp 20), (.const (.int .i64 6)), (.tmp 21)], none, [], true⟩]) (.seq (.region [
      ⟨(some 23), .mov (.tmp 0), none, [], false⟩,
      ⟨(some 24), .nilCheck (.tmp 23), none, [], false⟩,
      ⟨(some 25), .fieldAddr 1 (.tmp 24), none, [], false⟩,
      ⟨(some 26), .load none (.tmp 25), none, [], false⟩,
      ⟨(some 27), .mov (.tmp 1), none, [], false⟩,
      ⟨(some 28), .bin .add (so (.binOp .add 3 (.tmp 26) (.tmp 27) 3) 3) (.tmp 26) (.tmp 27), none, [], false⟩,
      ⟨(some 29), .nilCheck (.tmp 23), none, [], false⟩,
      ⟨(some 30), .fieldAddr 1 (.tmp 29), none, [], false⟩,
      ⟨none, .store 1 (.tmp 30) (.tmp 28), none, [], false⟩]) (.seq (.regionD [
      ⟨(some 31), .mov (.tmp 3), none, [], false⟩,
      ⟨(some 32), .mov (.tmp 0), none, [], false⟩,
      ⟨(some 33), .nilCheck (.tmp 32), none, [], false⟩,
      ⟨(some 34), .fieldAddr 0 (.tmp 33), none, [], false⟩,
      ⟨(some 35), .load none (.tmp 34), none, [], false⟩,
      ⟨(some 36), .mov (.tmp 0), none, [], false⟩,
      ⟨(some 37), .nilCheck (.tmp 36), none, [], false⟩,
      ⟨(some 38), .fieldAddr 1 (.tmp 37), none, [], false⟩,
      ⟨(some 39), .load none (.tmp 38), none, [], false⟩,
      ⟨(some 40), .mov (.tmp 1), none, [], false⟩,
      ⟨(some 41), .bin .sub (so (.binOp .sub 3 (.tmp 39) (.tmp 40) 3) 3) (.tmp 39) (.tmp 40), none, [], false⟩,
      ⟨(some 42), .mov (.tmp 0), none, [], false⟩,
      ⟨(some 43), .nilCheck (.tmp 42), none, [], false⟩,
      ⟨(some 44), .fieldAddr 1 (.tmp 43), none, [], false⟩,
      ⟨(some 45), .load none (.tmp 44), none, [], false⟩,
      ⟨(some 46), .sliceSl 1 (.tmp 35) (some (.tmp 41)) (some (.tmp 45)) none, none, [], false⟩,
      ⟨(some 47), .callV (.tmp 31) [(.tmp 46)], none, [], true⟩,
      ⟨none, .store 4 (.tmp 8) (.tmp 47), none, [], true⟩]) .ret))))
noncomputable def wire_take_api_Key_ : AFunc := ⟨48, [(8, some (some 4))], wire_take_api_Key__c, none⟩
theorem wire_take_api_Key__t0 : tableOf Try.prog 75 = some wire_take_api_Key_ := by kernel_rfl
theorem wire_take_api_Key__t : T0 75 = some wire_take_api_Key_ := withKept_t rfl (withTrue_t rfl wire_take_api_Key__t0)
theorem wire_take_api_Key__runs {v0 v1 v2 v3 : Value} {h : Heap} {R : RP} {X : XP} (k : RunC Try.prog T0 wire_take_api_Key__c ⟨[v0, v1, v2, v3, undef, undef, undef, undef, undef, undef, undef, undef, undef, undef, undef, undef, undef, undef, undef, undef, undef, undef, undef, undef, undef, undef, undef, undef, undef, undef, undef, undef, undef, undef, undef, undef, undef, undef, undef, undef, undef, undef, undef, undef, undef, undef, undef, undef], [], h, none⟩ (bodyQ Try.prog T0 [(8, some (some 4))] R X)) :
    Runs Try.prog T0 (.fn 75) [v0, v1, v2, v3] h R X := Runs.fn wire_take_api_Key__t rfl k


/-! 76 (*landfall/wire.Reader).Key$1$1 -/
abbrev fn_wire_Reader_Key_1_1 : FuncId := 76
noncomputable def wire_Reader_Key_1_1_c : ACode :=
  (.seq (.region [
      ⟨(some 2), .alloc 42 [(.int .u8 0), (.int .u8 0), (.int .u8 0), (.int .u8 0)], none, [], false⟩]) (.seq (.region [
      ⟨(some 3), .mov (.tmp 0), none, [], false⟩,
      ⟨(some 4), .arrayAt 4 (.tmp 3), none, [], false⟩,
      ⟨(some 5), .load (some 4) (.tmp 4), none, [], false⟩,
      ⟨none, .store 4 (.tmp 2) (.tmp 5), none, [], false⟩]) .ret))
noncomputable def wire_Reader_Key_1_1 : AFunc := ⟨6, [(2, some (some 4))], wire_Reader_Key_1_1_c, none⟩
theorem wire_Reader_Key_1_1_t0 : tableOf Try.prog 76 = some wire_Reader_Key_1_1 := by kernel_rfl
theorem wire_Reader_Key_1_1_t : T0 76 = some wire_Reader_Key_1_1 := withKept_t rfl (withTrue_t rfl wire_Reader_Key_1_1_t0)
theorem wire_Reader_Key_1_1_runs {v0 : Value} {h : Heap} {R : RP} {X : XP} (k : RunC Try.prog T0 wire_Reader_Key_1_1_c ⟨[v0, undef, undef, undef, undef, undef], [], h, none⟩ (bodyQ Try.prog T0 [(2, some (some 4))] R X)) :
    Runs Try.prog T0 (.fn 76) [v0] h R X := Runs.fn wire_Reader_Key_1_1_t rfl k


/-! 77 (*landfall/landfallref04.Reader).take -/
abbrev fn_landfallref04_Reader_take : FuncId := 77
noncomputable def landfallref04_Reader_take_c : ACode :=
  (.seq (.region [
      ⟨(some 6), .mov (.const (.slice none 0 0)), none, [], false⟩]) (.seq (.seq (.region [
      ⟨(some 8), .mov (.tmp 0), none, [], false⟩,
      ⟨(some 9), .nilCheck (.tmp 8), none, [], false⟩,
      ⟨(some 10), .fieldAddr 2 (.tmp 9), none, [], false⟩,
      ⟨(some 11), .fieldAddr 0 (.tmp 10), none, [], false⟩,
      ⟨(some 12), .load none (.tmp 11), none, [], false⟩,
      ⟨(some 13), .bin .neq (so (.binOp .neq 26 (.tmp 12) (.const (.int .i64 0)) 26) 4) (.tmp 12) (.const (.int .i64 0)), none, [], false⟩]) (.cond (.tmp 13)
    (.seq (.region [
      ⟨(some 6), .mov (.const (.slice none 0 0)), none, [], false⟩]) .ret)
    .skip)) (.seq (.seq (.regionD [
      ⟨(some 14), .mov (.tmp 1), none, [], false⟩,
      ⟨(some 15), .mov (.tmp 0), none, [], false⟩,
      ⟨(some 16), .nilCheck (.tmp 15), none, [], false⟩,
      ⟨(some 17), .fieldAddr 0 (.tmp 16), none, [], false⟩,
      ⟨(some 18), .load none (.tmp 17), none, [], false⟩,
      ⟨(some 19), .lenSl (.tmp 18), none, [], false⟩,
      ⟨(some 20), .mov (.tmp 0), none, [], false⟩,
      ⟨(some 21), .nilCheck (.tmp 20), none, [], false⟩,
      ⟨(some 22), .fieldAddr 1 (.tmp 21), none, [], false⟩,
      ⟨(some 23), .load none (.tmp 22), none, [], false⟩,
      ⟨(some 24), .bin .sub (so (.binOp .sub 3 (.tmp 19) (.tmp 23) 3) 3) (.tmp 19) (.tmp 23), none, [], false⟩,
      ⟨(some 25), .bin .gtr (so (.binOp .gtr 3 (.tmp 14) (.tmp 24) 3) 4) (.tmp 14) (.tmp 24), none, [], true⟩]) (.cond (.tmp 25)
    (.seq (.region [
      ⟨(some 26), .mov (.tmp 0), none, [], false⟩,
      ⟨(some 27), .mov (.tmp 2), none, [], false⟩,
      ⟨(some 28), .callV (.func 78) [(.tmp 26), (.const (.int .i64 6)), (.tmp 27)], none, [], false⟩]) (.seq (.region [
      ⟨(some 6), .mov (.const (.slice none 0 0)), none, [], false⟩]) .ret))
    .skip)) (.seq (.regionD [
      ⟨(some 30), .mov (.tmp 0), none, [], false⟩,
      ⟨(some 31), .nilCheck (.tmp 30), none, [], false⟩,
      ⟨(some 32), .fieldAddr 0 (.tmp 31), none, [], false⟩,
      ⟨(some 33), .load none (.tmp 32), none, [], false⟩,
      ⟨(some 34), .mov (.tmp 0), none, [], false⟩,
      ⟨(some 35), .nilCheck (.tmp 34), none, [], false⟩,
      ⟨(some 36), .fieldAddr 1 (.tmp 35), none, [], false⟩,
      ⟨(some 37), .load none (.tmp 36), none, [], false⟩,
      ⟨(some 38), .mov (.tmp 0), none, [], false⟩,
      ⟨(some 39), .nilCheck (.tmp 38), none, [], false⟩,
      ⟨(some 40), .fieldAddr 1 (.tmp 39), none, [], false⟩,
      ⟨(some 41), .load none (.tmp 40), none, [], false⟩,
      ⟨(some 42), .mov (.tmp 1), none, [], false⟩,
      ⟨(some 43), .bin .add (so (.binOp .add 3 (.tmp 41) (.tmp 42) 3) 3) (.tmp 41) (.tmp 42), none, [], false⟩,
      ⟨(some 44), .sliceSl 1 (.tmp 33) (some (.tmp 37)) (some (.tmp 43)) none, none, [], false⟩,
      ⟨(some 29), .buildSlice 5 [] 0 [], none, [((some 44), .sliceSl 1 (.tmp 33) (some (.tmp 37)) (some (.tmp 43)) none, none), ((some 43), .bin .add (so (.binOp .add 3 (.tmp 41) (.tmp 42) 3) 3) (.tmp 41) (.tmp 42), none), ((some 42), .mov (.tmp 1), none), ((some 41), .load none (.tmp 40), none), ((some 40), .fieldAddr 1 (.tmp 39), none), ((some 39), .nilCheck (.tmp 38), none), ((some 38), .mov (.tmp 0), none), ((some 37), .load none (.tmp 36), none), ((some 36), .fieldAddr 1 (.tmp 35), none), ((some 35), .nilCheck (.tmp 34), none), ((some 34), .mov (.tmp 0), none), ((some 33), .load none (.tmp 32), none), ((some 32), .fieldAddr 0 (.tmp 31), none), ((some 31), .nilCheck (.tmp 30), none), ((some 30), .mov (.tmp 0), none)], false⟩,
      ⟨(some 45), .append 5 1 1 [(.int .u8 0)] false (.tmp 29) (.tmp 44), none, [], true⟩,
      ⟨(some 7), .mov (.tmp 45), none, [], true⟩]) (.seq (.region [
      ⟨(some 46), .mov (.tmp 0), none, [], false⟩,
      ⟨(some 47), .mov (.tmp 0), none, [], false⟩,
      ⟨(some 48), .nilCheck (.tmp 47), none, [], false⟩,
      ⟨(some 49), .fieldAddr 1 (.tmp 48), none, [], false⟩,
      ⟨(some 50), .load none (.tmp 49), none, [], false⟩,
      ⟨(some 51), .mov (.tmp 1), none, [], false⟩,
      ⟨(some 52), .bin .add (so (.binOp .add 3 (.tmp 50) (.tmp 51) 3) 3) (.tmp 50) (.tmp 51), none, [], false⟩,
      ⟨(some 53), .nilCheck (.tmp 46), none, [], false⟩,
      ⟨(some 54), .fieldAddr 1 (.tmp 53), none, [], false⟩,
      ⟨none, .store 1 (.tmp 54) (.tmp 52), none, [], false⟩]) (.seq (.region [
      ⟨(some 55), .mov (.tmp 7), none, [], false⟩,
      ⟨(some 6), .mov (.tmp 55), none, [], false⟩]) .ret))))))
noncomputable def landfallref04_Reader_take : AFunc := ⟨56, [(6, none)], landfallref04_Reader_take_c, none⟩
theorem landfallref04_Reader_take_t0 : tableOf Try.prog 77 = some landfallref04_Reader_take := by kernel_rfl
theorem landfallref04_Reader_take_t : T0 77 = some landfallref04_Reader_take := withKept_t rfl (withTrue_t rfl landfallref04_Reader_take_t0)
theorem landfallref04_Reader_take_runs {v0 v1 v2 : Value} {h : Heap} {R : RP} {X : XP} (k : RunC Try.prog T0 landfallref04_Reader_take_c ⟨[v0, v1, v2, undef, undef, undef, undef, undef, undef, undef, undef, undef, undef, undef, undef, undef, undef, undef, undef, undef, undef, undef, undef, undef, undef, undef, undef, undef, undef, undef, undef, undef, undef, undef, undef, undef, undef, undef, undef, undef, undef, undef, undef, undef, undef, undef, undef, undef, undef, undef, undef, undef, undef, undef, undef, undef], [], h, none⟩ (bodyQ Try.prog T0 [(6, none)] R X)) :
    Runs Try.prog T0 (.fn 77) [v0, v1, v2] h R X := Runs.fn landfallref04_Reader_take_t rfl k


/-! 78 (*landfall/landfallref04.Reader).Fails -/
abbrev fn_landfallref04_Reader_Fails : FuncId := 78
noncomputable def landfallref04_Reader_Fails_c : ACode :=
  (.seq (.region [
      ⟨(some 6), .mov (.tmp 0), none, [], false⟩,
      ⟨(some 7), .nilCheck (.tmp 6), none, [], false⟩,
      ⟨(some 8), .fieldAddr 2 (.tmp 7), none, [], false⟩,
      ⟨(some 9), .fieldAddr 0 (.tmp 8), none, [], false⟩,
      ⟨(some 10), .load none (.tmp 9), none, [], false⟩,
      ⟨(some 11), .bin .eql (so (.binOp .eql 26 (.tmp 10) (.const (.int .i64 0)) 26) 4) (.tmp 10) (.const (.int .i64 0)), none, [], false⟩]) (.cond (.tmp 11)
    (.region [
      ⟨(some 12), .mov (.tmp 0), none, [], false⟩,
      ⟨(some 13), .mov (.tmp 1), none, [], false⟩,
      ⟨(some 14), .mov (.tmp 2), none, [], false⟩,
      ⟨(some 15), .build [(.int .i64 0), (.int .i64 0)] [(0, 1, (.tmp 13)), (1, 1, (.tmp 14))], none, [], false⟩,
      ⟨(some 16), .nilCheck (.tmp 12), none, [], false⟩,
      ⟨(some 17), .fieldAddr 2 (.tmp 16), none, [], false⟩,
      ⟨none, .store 2 (.tmp 17) (.tmp 15), none, [], false⟩])
    .skip))
noncomputable def landfallref04_Reader_Fails : AFunc := ⟨18, [], landfallref04_Reader_Fails_c, none⟩
theorem landfallref04_Reader_Fails_t0 : tableOf Try.prog 78 = some landfallref04_Reader_Fails := by kernel_rfl
theorem landfallref04_Reader_Fails_t : T0 78 = some landfallref04_Reader_Fails := withKept_t rfl (withTrue_t rfl landfallref04_Reader_Fails_t0)
theorem landfallref04_Reader_Fails_runs {v0 v1 v2 : Value} {h : Heap} {R : RP} {X : XP} (k : RunC Try.prog T0 landfallref04_Reader_Fails_c ⟨[v0, v1, v2, undef, undef, undef, undef, undef, undef, undef, undef, undef, undef, undef, undef, undef, undef, undef], [], h, none⟩ (bodyQ Try.prog T0 [] R X)) :
    Runs Try.prog T0 (.fn 78) [v0, v1, v2] h R X := Runs.fn landfallref04_Reader_Fails_t rfl k


/-! 79 bytes.Compare -/
abbrev fn_bytes_Compare : FuncId := 79
noncomputable def bytes_Compare_c : ACode :=
  (.seq (.region [
      ⟨(some 4), .mov (.const (.int .i64 0)), none, [], false⟩]) (.seq (.region [
      ⟨(some 5), .mov (.tmp 0), none, [], false⟩,
      ⟨(some 6), .mov (.tmp 1), none, [], false⟩,
      ⟨(some 7), .ext .compare (.func 99) [(.tmp 5), (.tmp 6)], none, [], false⟩,
      ⟨(some 4), .mov (.tmp 7), none, [], false⟩]) .ret))
noncomputable def bytes_Compare : AFunc := ⟨8, [(4, none)], bytes_Compare_c, none⟩
theorem bytes_Compare_t0 : tableOf Try.prog 79 = some bytes_Compare := by kernel_rfl
theorem bytes_Compare_t : T0 79 = some bytes_Compare := withKept_t rfl (withTrue_t rfl bytes_Compare_t0)
theorem bytes_Compare_runs {v0 v1 : Value} {h : Heap} {R : RP} {X : XP} (k : RunC Try.prog T0 bytes_Compare_c ⟨[v0, v1, undef, undef, undef, undef, undef, undef], [], h, none⟩ (bodyQ Try.prog T0 [(4, none)] R X)) :
    Runs Try.prog T0 (.fn 79) [v0, v1] h R X := Runs.fn bytes_Compare_t rfl k


/-! 94 (*landfall/wire.Reader).caught -/
abbrev fn_wire_Reader_caught : FuncId := 94
noncomputable def wire_Reader_caught_c : ACode :=
  (.seq (.region [
      ⟨(some 5), .recover, none, [], false⟩,
      ⟨(some 2), .mov (.tmp 5), none, [], false⟩]) (.seq (.region [
      ⟨(some 6), .mov (.tmp 2), none, [], false⟩,
      ⟨(some 7), .eq .iface true (so (.binOp .neq 20 (.tmp 6) (.const .nilIface) 20) 4) (.tmp 6) (.const .nilIface), none, [], false⟩]) (.cond (.tmp 7)
    (.seq (.region [
      ⟨(some 9), .mov (.tmp 2), none, [], false⟩,
      ⟨(some 10), .assertTo 157 (.agg ⟨[(.int .i64 0), (.int .i64 0)]⟩) true (.tmp 9), none, [], false⟩,
      ⟨(some 8), .mov (.tmp 10), none, [], false⟩,
      ⟨(some 11), .extract 0 (.tmp 8), none, [], false⟩,
      ⟨(some 12), .extract 1 (.tmp 8), none, [], false⟩,
      ⟨(some 3), .alloc 157 [(.int .i64 0), (.int .i64 0)], none, [], false⟩,
      ⟨none, .store 2 (.tmp 3) (.tmp 11), none, [], false⟩,
      ⟨(some 4), .mov (.tmp 12), none, [], false⟩]) (.seq (.seq (.region [
      ⟨(some 13), .mov (.tmp 4), none, [], false⟩,
      ⟨(some 14), .raw (so (.unOp .not 4 (.tmp 13)) 4), none, [], false⟩]) (.cond (.tmp 14)
    (.region [
      ⟨(some 15), .mov (.tmp 2), none, [], false⟩,
      ⟨none, .panic (.tmp 15), none, [], false⟩])
    .skip)) (.region [
      ⟨(some 16), .mov (.tmp 0), none, [], false⟩,
      ⟨(some 17), .fieldAddr 0 (.tmp 3), none, [], false⟩,
      ⟨(some 18), .load (some 2) (.tmp 17), none, [], false⟩,
      ⟨(some 19), .nilCheck (.tmp 16), none, [], false⟩,
      ⟨(some 20), .fieldAddr 2 (.tmp 19), none, [], false⟩,
      ⟨none, .store 2 (.tmp 20) (.tmp 18), none, [], false⟩])))
    .skip)))
noncomputable def wire_Reader_caught : AFunc := ⟨21, [], wire_Reader_caught_c, none⟩
theorem wire_Reader_caught_t0 : tableOf Try.prog 94 = some wire_Reader_caught := by kernel_rfl
theorem wire_Reader_caught_t : T0 94 = some wire_Reader_caught := withKept_t rfl (withTrue_t rfl wire_Reader_caught_t0)
theorem wire_Reader_caught_runs {v0 : Value} {h : Heap} {R : RP} {X : XP} (k : RunC Try.prog T0 wire_Reader_caught_c ⟨[v0, undef, undef, undef, undef, undef, undef, undef, undef, undef, undef, undef, undef, undef, undef, undef, undef, undef, undef, undef, undef], [], h, none⟩ (bodyQ Try.prog T0 [] R X)) :
    Runs Try.prog T0 (.fn 94) [v0] h R X := Runs.fn wire_Reader_caught_t rfl k
theorem wire_Reader_caught_df {v0 : Value} {u : FrameMode} {h : Heap} {R : FrameMode → Heap → Prop} {X : List PanicEntry → FrameMode → Heap → Prop} (k : RunT Try.prog T0 wire_Reader_caught_c ⟨⟨[v0, undef, undef, undef, undef, undef, undef, undef, undef, undef, undef, undef, undef, undef, undef, undef, undef, undef, undef, undef, undef], [], h, none⟩, u⟩ (doneQ [] R X)) :
    RunDf Try.prog T0 94 [v0] u h R X := RunDf.fn wire_Reader_caught_t rfl k


/-! 95 landfall/wire.take[uint64] -/
abbrev fn_wire_take_uint64_ : FuncId := 95
noncomputable def wire_take_uint64__c : ACode :=
  (.seq (.region [
      ⟨(some 8), .mov (.const (.int .u64 0)), none, [], false⟩]) (.seq (.regionD [
      ⟨(some 9), .mov (.tmp 1), none, [], false⟩,
      ⟨(some 10), .mov (.tmp 0), none, [], false⟩,
      ⟨(some 11), .nilCheck (.tmp 10), none, [], false⟩,
      ⟨(some 12), .fieldAddr 0 (.tmp 11), none, [], false⟩,
      ⟨(some 13), .load none (.tmp 12), none, [], false⟩,
      ⟨(some 14), .lenSl (.tmp 13), none, [], false⟩,
      ⟨(some 15), .mov (.tmp 0), none, [], false⟩,
      ⟨(some 16), .nilCheck (.tmp 15), none, [], false⟩,
      ⟨(some 17), .fieldAddr 1 (.tmp 16), none, [], false⟩,
      ⟨(some 18), .load none (.tmp 17), none, [], false⟩,
      ⟨(some 19), .bin .sub (so (.binOp .sub 3 (.tmp 14) (.tmp 18) 3) 3) (.tmp 14) (.tmp 18), none, [], false⟩,
      ⟨(some 20), .bin .leq (so (.binOp .leq 3 (.tmp 9) (.tmp 19) 3) 4) (.tmp 9) (.tmp 19), none, [], false⟩,
      ⟨(some 21), .mov (.tmp 2), none, [], false⟩,
      ⟨(some 22), .callV (.func 97) [(.tmp 20), (.const (.int .i64 6)), (.tmp 21)], none, [], true⟩]) (.seq (.region [
      ⟨(some 23), .mov (.tmp 0), none, [], false⟩,
      ⟨(some 24), .nilCheck (.tmp 23), none, [], false⟩,
      ⟨(some 25), .fieldAddr 1 (.tmp 24), none, [], false⟩,
      ⟨(some 26), .load none (.tmp 25), none, [], false⟩,
      ⟨(some 27), .mov (.tmp 1), none, [], false⟩,
      ⟨(some 28), .bin .add (so (.binOp .add 3 (.tmp 26) (.tmp 27) 3) 3) (.tmp 26) (.tmp 27), none, [], false⟩,
      ⟨(some 29), .nilCheck (.tmp 23), none, [], false⟩,
      ⟨(some 30), .fieldAddr 1 (.tmp 29), none, [], false⟩,
      ⟨none, .store 1 (.tmp 30) (.tmp 28), none, [], false⟩]) (.seq (.regionD [
      ⟨(some 31), .mov (.tmp 3), none, [], false⟩,
      ⟨(some 32), .mov (.tmp 0), none, [], false⟩,
      ⟨(some 33), .nilCheck (.tmp 32), none, [], false⟩,
      ⟨(some 34), .fieldAddr 0 (.tmp 33), none, [], false⟩,
      ⟨(some 35), .load none (.tmp 34), none, [], false⟩,
      ⟨(some 36), .mov (.tmp 0), none, [], false⟩,
      ⟨(some 37), .nilCheck (.tmp 36), none, [], false⟩,
      ⟨(some 38), .fieldAddr 1 (.tmp 37), none, [], false⟩,
      ⟨(some 39), .load none (.tmp 38), none, [], false⟩,
      ⟨(some 40), .mov (.tmp 1), none, [], false⟩,
      ⟨(some 41), .bin .sub (so (.binOp .sub 3 (.tmp 39) (.tmp 40) 3) 3) (.tmp 39) (.tmp 40), none, [], false⟩,
      ⟨(some 42), .mov (.tmp 0), none, [], false⟩,
      ⟨(some 43), .nilCheck (.tmp 42), none, [], false⟩,
      ⟨(some 44), .fieldAddr 1 (.tmp 43), none, [], false⟩,
      ⟨(some 45), .load none (.tmp 44), none, [], false⟩,
      ⟨(some 46), .sliceSl 1 (.tmp 35) (some (.tmp 41)) (some (.tmp 45)) none, none, [], false⟩,
      ⟨(some 47), .callV (.tmp 31) [(.tmp 46)], none, [], true⟩,
      ⟨(some 8), .mov (.tmp 47), none, [], true⟩]) .ret))))
noncomputable def wire_take_uint64_ : AFunc := ⟨48, [(8, none)], wire_take_uint64__c, none⟩
theorem wire_take_uint64__t0 : tableOf Try.prog 95 = some wire_take_uint64_ := by kernel_rfl
theorem wire_take_uint64__t : T0 95 = some wire_take_uint64_ := withKept_t rfl (withTrue_t rfl wire_take_uint64__t0)
theorem wire_take_uint64__runs {v0 v1 v2 v3 : Value} {h : Heap} {R : RP} {X : XP} (k : RunC Try.prog T0 wire_take_uint64__c ⟨[v0, v1, v2, v3, undef, undef, undef, undef, undef, undef, undef, undef, undef, undef, undef, undef, undef, undef, undef, undef, undef, undef, undef, undef, undef, undef, undef, undef, undef, undef, undef, undef, undef, undef, undef, undef, undef, undef, undef, undef, undef, undef, undef, undef, undef, undef, undef, undef], [], h, none⟩ (bodyQ Try.prog T0 [(8, none)] R X)) :
    Runs Try.prog T0 (.fn 95) [v0, v1, v2, v3] h R X := Runs.fn wire_take_uint64__t rfl k


/-! 96 landfall/wire.big -/
abbrev fn_wire_big : FuncId := 96
noncomputable def wire_big_l0 : ACode :=
  (.seq (.region [
      ⟨(some 8), .bin .lss (so (.binOp .lss 3 (.tmp 7) (.tmp 6) 3) 0) (.tmp 7) (.tmp 6), none, [], false⟩]) (.seq (.cond (.tmp 8)
    .skip
    (.exit 0)) (.seq (.block 1 (.seq (.region [
      ⟨(some 9), .indexSl 1 (.tmp 5) (.tmp 7), none, [], false⟩,
      ⟨(some 10), .load none (.tmp 9), none, [], false⟩,
      ⟨(some 4), .mov (.tmp 10), none, [], false⟩]) (.region [
      ⟨(some 11), .mov (.tmp 2), none, [], false⟩,
      ⟨(some 12), .bin .shl (so (.binOp .shl 50 (.tmp 11) (.const (.int .u64 8)) 115) 50) (.tmp 11) (.const (.int .u64 8)), none, [], false⟩,
      ⟨(some 13), .mov (.tmp 4), none, [], false⟩,
      ⟨(some 14), .conv .u64 (so (.convert 5 50 (.tmp 13)) 50) (.tmp 13), none, [], false⟩,
      ⟨(some 15), .bin .or (so (.binOp .or 50 (.tmp 12) (.tmp 14) 50) 50) (.tmp 12) (.tmp 14), none, [], false⟩,
      ⟨(some 2), .mov (.tmp 15), none, [], false⟩]))) (.region [
      ⟨(some 16), .bin .add (so (.binOp .add 3 (.tmp 7) (.const (.int .i64 1)) 3) 3) (.tmp 7) (.const (.int .i64 1)), none, [], false⟩,
      ⟨(some 7), .mov (.tmp 16), none, [], false⟩]))))
noncomputable def wire_big_c : ACode :=
  (.seq (.region [
      ⟨(some 2), .mov (.const (.int .u64 0)), none, [], false⟩]) (.seq (.seq (.region [
      ⟨(some 5), .mov (.tmp 0), none, [], false⟩,
      ⟨(some 6), .lenSl (.tmp 5), none, [], false⟩,
      ⟨(some 7), .mov (.const (.int .i64 0)), none, [], false⟩]) (.block 0 (.loop wire_big_l0))) (.seq (.region [
      ⟨(some 17), .mov (.tmp 2), none, [], false⟩,
      ⟨(some 2), .mov (.tmp 17), none, [], false⟩]) .ret)))
noncomputable def wire_big : AFunc := ⟨18, [(2, none)], wire_big_c, none⟩
theorem wire_big_t0 : tableOf Try.prog 96 = some wire_big := by kernel_rfl
theorem wire_big_t : T0 96 = some wire_big := withKept_t rfl (withTrue_t rfl wire_big_t0)
theorem wire_big_runs {v0 : Value} {h : Heap} {R : RP} {X : XP} (k : RunC Try.prog T0 wire_big_c ⟨[v0, undef, undef, undef, undef, undef, undef, undef, undef, undef, undef, undef, undef, undef, undef, undef, undef, undef], [], h, none⟩ (bodyQ Try.prog T0 [(2, none)] R X)) :
    Runs Try.prog T0 (.fn 96) [v0] h R X := Runs.fn wire_big_t rfl k
/-- the slots that turn in the loop: v2 v7 -/
noncomputable def wire_big_l0_J (f0 f1 f3 f5 f6 f17 : Value) (ds : List Deferred) (rd : Option Nat) (I : Nat → Value → Value → Heap → Prop) (m : Nat) (s : St) : Prop := ∃ (v2 v7 : Value), ∃ h : Heap, ∃ (x4 x8 x9 x10 x11 x12 x13 x14 x15 x16 : Value), s = ⟨[f0, f1, v2, f3, x4, f5, f6, v7, x8, x9, x10, x11, x12, x13, x14, x15, x16, f17], ds, h, rd⟩ ∧ I m v2 v7 h
theorem wire_big_l0_rule {f0 f1 f3 f5 f6 f17 : Value} {ds : List Deferred} {rd : Option Nat} {Q : QP} (I : Nat → Value → Value → Heap → Prop) (hb : ∀ (m : Nat) (v2 v7 : Value) (h : Heap) (x4 x8 x9 x10 x11 x12 x13 x14 x15 x16 : Value) , I m v2 v7 h → RunC Try.prog T0 wire_big_l0 ⟨[f0, f1, v2, f3, x4, f5, f6, v7, x8, x9, x10, x11, x12, x13, x14, x15, x16, f17], ds, h, rd⟩ (loopQ (wire_big_l0_J f0 f1 f3 f5 f6 f17 ds rd I) m Q))
    (m : Nat) {v2 v7 : Value} {h : Heap} {x4 x8 x9 x10 x11 x12 x13 x14 x15 x16 : Value} (hi : I m v2 v7 h) : RunC Try.prog T0 (.loop wire_big_l0) ⟨[f0, f1, v2, f3, x4, f5, f6, v7, x8, x9, x10, x11, x12, x13, x14, x15, x16, f17], ds, h, rd⟩ Q :=
  RunC.loopJ (wire_big_l0_J f0 f1 f3 f5 f6 f17 ds rd I) (fun m s hj => by obtain ⟨v2, v7, h, x4, x8, x9, x10, x11, x12, x13, x14, x15, x16, rfl, hi⟩ := hj; exact hb m v2 v7 h x4 x8 x9 x10 x11 x12 x13 x14 x15 x16 hi) m _ ⟨_, _, h, _, _, _, _, _, _, _, _, _, _, rfl, hi⟩
theorem wire_big_l0_again {f0 f1 f3 f5 f6 f17 : Value} {ds : List Deferred} {rd : Option Nat} {Q : QP} {I : Nat → Value → Value → Heap → Prop} {m : Nat} (m' : Nat) {v2 v7 : Value} {h : Heap} {x4 x8 x9 x10 x11 x12 x13 x14 x15 x16 : Value} (hm : m' < m) (hi : I m' v2 v7 h) : loopQ (wire_big_l0_J f0 f1 f3 f5 f6 f17 ds rd I) m Q .normal ⟨[f0, f1, v2, f3, x4, f5, f6, v7, x8, x9, x10, x11, x12, x13, x14, x15, x16, f17], ds, h, rd⟩ :=
  loopQ.again m' hm ⟨_, _, h, _, _, _, _, _, _, _, _, _, _, rfl, hi⟩

/-! 97 landfall/wire.must -/
abbrev fn_wire_must : FuncId := 97
noncomputable def wire_must_c : ACode :=
  (.seq (.region [
      ⟨(some 6), .mov (.tmp 0), none, [], false⟩,
      ⟨(some 7), .raw (so (.unOp .not 4 (.tmp 6)) 4), none, [], false⟩]) (.cond (.tmp 7)
    (.region [
      ⟨(some 8), .mov (.tmp 1), none, [], false⟩,
      ⟨(some 9), .mov (.tmp 2), none, [], false⟩,
      ⟨(some 10), .build [(.int .i64 0), (.int .i64 0)] [(0, 1, (.tmp 8)), (1, 1, (.tmp 9))], none, [], false⟩,
      ⟨(some 11), .build [(.int .i64 0), (.int .i64 0)] [(0, 2, (.tmp 10))], none, [], false⟩,
      ⟨(some 12), .mkIface 157 (.tmp 11), none, [], false⟩,
      ⟨none, .panic (.tmp 12), none, [], false⟩])
    .skip))
noncomputable def wire_must : AFunc := ⟨13, [], wire_must_c, none⟩
theorem wire_must_t0 : tableOf Try.prog 97 = some wire_must := by kernel_rfl
theorem wire_must_t : T0 97 = some wire_must := withKept_t rfl (withTrue_t rfl wire_must_t0)
theorem wire_must_runs {v0 v1 v2 : Value} {h : Heap} {R : RP} {X : XP} (k : RunC Try.prog T0 wire_must_c ⟨[v0, v1, v2, undef, undef, undef, undef, undef, undef, undef, undef, undef, undef], [], h, none⟩ (bodyQ Try.prog T0 [] R X)) :
    Runs Try.prog T0 (.fn 97) [v0, v1, v2] h R X := Runs.fn wire_must_t rfl k


/-! 98 (*landfall/wire.Reader).num$1 -/
abbrev fn_wire_Reader_num_1 : FuncId := 98
noncomputable def wire_Reader_num_1_c : ACode :=
  (.seq (.region [
      ⟨(some 4), .mov (.const (.int .u64 0)), none, [], false⟩]) (.seq (.seq (.region [
      ⟨(some 5), .load none (.tmp 1), none, [], false⟩,
      ⟨(some 6), .bin .gtr (so (.binOp .gtr 3 (.tmp 5) (.const (.int .i64 0)) 3) 4) (.tmp 5) (.const (.int .i64 0)), none, [], false⟩]) (.cond (.tmp 6)
    (.region [
      ⟨(some 7), .mov (.tmp 0), none, [], false⟩,
      ⟨(some 8), .indexSl 1 (.tmp 7) (.const (.int .i64 0)), none, [], false⟩,
      ⟨(some 9), .load none (.tmp 8), none, [], false⟩,
      ⟨none, .store 1 (.tmp 2) (.tmp 9), none, [], false⟩])
    .skip)) (.seq (.region [
      ⟨(some 10), .mov (.tmp 0), none, [], false⟩,
      ⟨(some 11), .callV (.func 96) [(.tmp 10)], none, [], false⟩,
      ⟨(some 4), .mov (.tmp 11), none, [], false⟩]) .ret)))
noncomputable def wire_Reader_num_1 : AFunc := ⟨12, [(4, none)], wire_Reader_num_1_c, none⟩
theorem wire_Reader_num_1_t0 : tableOf Try.prog 98 = some wire_Reader_num_1 := by kernel_rfl
theorem wire_Reader_num_1_t : T0 98 = some wire_Reader_num_1 := withKept_t rfl (withTrue_t rfl wire_Reader_num_1_t0)
theorem wire_Reader_num_1_runs {v0 v1 v2 : Value} {h : Heap} {R : RP} {X : XP} (k : RunC Try.prog T0 wire_Reader_num_1_c ⟨[v0, v1, v2, undef, undef, undef, undef, undef, undef, undef, undef, undef], [], h, none⟩ (bodyQ Try.prog T0 [(4, none)] R X)) :
    Runs Try.prog T0 (.fn 98) [v0, v1, v2] h R X := Runs.fn wire_Reader_num_1_t rfl k


noncomputable def table : TT :=
  (.node (.node (.node (.node (.node (.node .nil 3 landfalllaw05_ValsDecodes .nil) 10 landfallkit_LentBytes .nil) 11 vals_Decode (.node .nil 12 landfallref05_Decode .nil)) 13 landfallkit_SameVals (.node (.node .nil 14 landfallkit_OverVals .nil) 15 landfallkit_KeptBytes (.node .nil 22 vals_Check .nil))) 38 landfallref05_Check (.node (.node (.node (.node .nil 40 wire_NewReader .nil) 41 wire_Reader_Num .nil) 42 wire_Reader_Key (.node .nil 43 wire_Reader_End .nil)) 44 landfallref04_NewReader (.node (.node .nil 45 landfallref04_Reader_Num .nil) 46 landfallref04_Reader_Key (.node .nil 47 landfallref04_Reader_End .nil)))) 48 vals_look_at (.node (.node (.node (.node (.node .nil 50 landfallref05_Less .nil) 70 slices_Clone___byte_byte_ .nil) 71 wire_reads_int_ (.node .nil 72 wire_Reader_num .nil)) 73 wire_reads_api_Key_ (.node (.node .nil 74 wire_Reader_Key_1 .nil) 75 wire_take_api_Key_ (.node .nil 76 wire_Reader_Key_1_1 .nil))) 77 landfallref04_Reader_take (.node (.node (.node .nil 78 landfallref04_Reader_Fails .nil) 79 bytes_Compare (.node .nil 94 wire_Reader_caught .nil)) 95 wire_take_uint64_ (.node (.node .nil 96 wire_big .nil) 97 wire_must (.node .nil 98 wire_Reader_num_1 .nil)))))
theorem table_all : table.All Try.prog := ⟨vals_look_at_t0, ⟨landfallref05_Check_t0, ⟨landfallkit_SameVals_t0, ⟨vals_Decode_t0, ⟨landfallkit_LentBytes_t0, ⟨landfalllaw05_ValsDecodes_t0, trivial, trivial⟩, trivial⟩, ⟨landfallref05_Decode_t0, trivial, trivial⟩⟩, ⟨landfallkit_KeptBytes_t0, ⟨landfallkit_OverVals_t0, trivial, trivial⟩, ⟨vals_Check_t0, trivial, trivial⟩⟩⟩, ⟨landfallref04_NewReader_t0, ⟨wire_Reader_Key_t0, ⟨wire_Reader_Num_t0, ⟨wire_NewReader_t0, trivial, trivial⟩, trivial⟩, ⟨wire_Reader_End_t0, trivial, trivial⟩⟩, ⟨landfallref04_Reader_Key_t0, ⟨landfallref04_Reader_Num_t0, trivial, trivial⟩, ⟨landfallref04_Reader_End_t0, trivial, trivial⟩⟩⟩⟩, ⟨landfallref04_Reader_take_t0, ⟨wire_reads_api_Key__t0, ⟨wire_reads_int__t0, ⟨slices_Clone___byte_byte__t0, ⟨landfallref05_Less_t0, trivial, trivial⟩, trivial⟩, ⟨wire_Reader_num_t0, trivial, trivial⟩⟩, ⟨wire_take_api_Key__t0, ⟨wire_Reader_Key_1_t0, trivial, trivial⟩, ⟨wire_Reader_Key_1_1_t0, trivial, trivial⟩⟩⟩, ⟨wire_take_uint64__t0, ⟨bytes_Compare_t0, ⟨landfallref04_Reader_Fails_t0, trivial, trivial⟩, ⟨wire_Reader_caught_t0, trivial, trivial⟩⟩, ⟨wire_must_t0, ⟨wire_big_t0, trivial, trivial⟩, ⟨wire_Reader_num_1_t0, trivial, trivial⟩⟩⟩⟩⟩
end Go.Proofs.Ytmfaepkmiceoeaa.A
