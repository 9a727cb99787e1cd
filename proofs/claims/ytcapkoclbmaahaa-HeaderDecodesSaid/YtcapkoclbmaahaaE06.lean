/- Functions of the program, as the machine has them: written by a program of mine (GenVm.lean), each held against the given program by the kernel. -/
import Derived.Test.YtcapkoclbmaahaaRows
import Derived.Test.YtcapkoclbmaahaaVm45
set_option maxRecDepth 100000
set_option linter.unusedVariables false
namespace Go.Proofs.Ytcapkoclbmaahaa.A
open Go Go.Vm

abbrev ty_internal_abi_BoundsErrorCode : TypeId := 6
abbrev ty_runtime_boundsError : TypeId := 8
abbrev ty_runtime_errorString : TypeId := 10
abbrev ty_runtime_plainError : TypeId := 11
abbrev ty_runtime_errorAddressString : TypeId := 14
abbrev ty_internal_runtime_maps_unhashableTypeError : TypeId := 19
abbrev ty_api_Hash : TypeId := 26
abbrev ty_api_Header : TypeId := 28
abbrev ty_api_Errno : TypeId := 29
abbrev ty_api_Fault : TypeId := 31
abbrev ty_header_rule : TypeId := 76
abbrev ty_wire_Reader : TypeId := 86
abbrev ty_landfallref04_Reader : TypeId := 94
abbrev ty_wire_Writer : TypeId := 96
abbrev ty_landfallref04_Writer : TypeId := 99
abbrev ty_blake_words : TypeId := 105
abbrev ty_blake_counter : TypeId := 109
abbrev ty_blake_State : TypeId := 111
abbrev ty_blake_four : TypeId := 135
abbrev ty_wire_wrong : TypeId := 137
abbrev ty_runtime_TypeAssertionError : TypeId := 147
abbrev ty_runtime_PanicNilError : TypeId := 150
abbrev ty_internal_abi_TFlag : TypeId := 151
abbrev ty_internal_abi_Kind : TypeId := 152
abbrev ty_internal_abi_NameOff : TypeId := 155
abbrev ty_internal_abi_TypeOff : TypeId := 156
abbrev ty_internal_abi_Type : TypeId := 158
instance : IsIface Try.prog 20 := ⟨by kernel_rfl⟩
/-- functions that are known to come to true -/
abbrev prims : List FuncId := [4, 9]
abbrev kepts : List FuncId := [13]
noncomputable def T0 : Table := withKept (withTrue Try.prog prims) kepts
abbrev fn_landfalllaw06_HeaderKnown : FuncId := 4
theorem landfalllaw06_HeaderKnown_known {h : Heap} : Runs Try.prog T0 (.fn 4) [] h (fun r h' => r = .bool true ∧ h' = h) (fun _ _ => False) := known_runs rfl
abbrev fn_landfalllaw06_awake : FuncId := 9
theorem landfalllaw06_awake_known {h : Heap} : Runs Try.prog T0 (.fn 9) [] h (fun r h' => r = .bool true ∧ h' = h) (fun _ _ => False) := known_runs rfl
instance : IsBoolT Try.prog 4 := ⟨by kernel_rfl⟩
instance : TLeaves Try.prog 26 (u8s 32) := ⟨by kernel_rfl, by kernel_rfl, by kernel_rfl⟩
instance : TLeaves Try.prog 28 (.s :: (.i .i64 :: (.i .i64 :: (u8s 32 ++ (u8s 32 ++ (u8s 32 ++ (u8s 32))))))) := ⟨by kernel_rfl, by kernel_rfl, by kernel_rfl⟩
instance : TLeaves Try.prog 31 (.i .i64 :: (.i .i64 :: [])) := ⟨by kernel_rfl, by kernel_rfl, by kernel_rfl⟩

/-! 3 landfall/landfalllaw06.HeaderDecodes -/
abbrev fn_landfalllaw06_HeaderDecodes : FuncId := 3
noncomputable def landfalllaw06_HeaderDecodes_c : ACode :=
  (.seq (.region [
      ⟨(some 2), .mov (.const (.bool false)), none, [], false⟩]) (.seq (.seq (.region [
      ⟨(some 8), .mov (.tmp 0), none, [], false⟩,
      ⟨(some 9), .lenSl (.tmp 8), none, [], false⟩,
      ⟨(some 10), .bin .gtr (so (.binOp .gtr 3 (.tmp 9) (.const (.int .i64 300)) 3) 4) (.tmp 9) (.const (.int .i64 300)), none, [], false⟩]) (.cond (.tmp 10)
    (.seq (.region [
      ⟨(some 11), .callV (.func 9) [], none, [], false⟩,
      ⟨(some 2), .mov (.tmp 11), none, [], false⟩]) .ret)
    .skip)) (.seq (.region [
      ⟨(some 12), .mov (.tmp 0), none, [], false⟩,
      ⟨(some 13), .callV (.func 10) [(.tmp 12)], none, [], false⟩,
      ⟨(some 3), .mov (.tmp 13), none, [], false⟩]) (.seq (.region [
      ⟨(some 15), .mov (.tmp 3), none, [], false⟩,
      ⟨(some 16), .callV (.func 11) [(.tmp 15)], none, [], false⟩,
      ⟨(some 14), .mov (.tmp 16), none, [], false⟩,
      ⟨(some 17), .extract 0 (.tmp 14), none, [], false⟩,
      ⟨(some 18), .extract 1 (.tmp 14), none, [], false⟩,
      ⟨(some 4), .alloc 28 ((.string ⟨⟨[]⟩⟩) :: ((.int .i64 0) :: ((.int .i64 0) :: (z32 ++ (z32 ++ (z32 ++ z32)))))), none, [], false⟩,
      ⟨(some 5), .alloc 31 [(.int .i64 0), (.int .i64 0)], none, [], false⟩,
      ⟨none, .store 131 (.tmp 4) (.tmp 17), none, [], false⟩,
      ⟨none, .store 2 (.tmp 5) (.tmp 18), none, [], false⟩]) (.seq (.region [
      ⟨(some 20), .mov (.tmp 0), none, [], false⟩,
      ⟨(some 21), .callV (.func 12) [(.tmp 20)], none, [], false⟩,
      ⟨(some 19), .mov (.tmp 21), none, [], false⟩,
      ⟨(some 22), .extract 0 (.tmp 19), none, [], false⟩,
      ⟨(some 23), .extract 1 (.tmp 19), none, [], false⟩,
      ⟨(some 6), .alloc 28 ((.string ⟨⟨[]⟩⟩) :: ((.int .i64 0) :: ((.int .i64 0) :: (z32 ++ (z32 ++ (z32 ++ z32)))))), none, [], false⟩,
      ⟨(some 7), .alloc 31 [(.int .i64 0), (.int .i64 0)], none, [], false⟩,
      ⟨none, .store 131 (.tmp 6) (.tmp 22), none, [], false⟩,
      ⟨none, .store 2 (.tmp 7) (.tmp 23), none, [], false⟩]) (.seq (.region [
      ⟨(some 24), .load (some 131) (.tmp 4), none, [], false⟩,
      ⟨(some 25), .load (some 131) (.tmp 6), none, [], false⟩,
      ⟨(some 26), .bin .eql (so (.binOp .eql 28 (.tmp 24) (.tmp 25) 28) 4) (.tmp 24) (.tmp 25), none, [], false⟩,
      ⟨(some 27), .mov (.tmp 26), none, [], false⟩,
      ⟨(some 28), .load (some 2) (.tmp 5), (some (27, true)), [], false⟩,
      ⟨(some 29), .load (some 2) (.tmp 7), (some (27, true)), [], false⟩,
      ⟨(some 30), .bin .eql (so (.binOp .eql 31 (.tmp 28) (.tmp 29) 31) 4) (.tmp 28) (.tmp 29), (some (27, true)), [], false⟩,
      ⟨(some 31), .pick (.tmp 27) (.tmp 30) (.const (.bool false)), none, [], false⟩,
      ⟨(some 32), .mov (.tmp 31), none, [], false⟩,
      ⟨(some 33), .mov (.tmp 3), (some (32, true)), [], false⟩,
      ⟨(some 34), .mov (.tmp 0), (some (32, true)), [], false⟩,
      ⟨(some 35), .callV (.func 13) [(.tmp 33), (.tmp 34)], (some (32, true)), [], false⟩,
      ⟨(some 36), .pick (.tmp 32) (.tmp 35) (.const (.bool false)), none, [], false⟩,
      ⟨(some 37), .mov (.tmp 36), none, [], false⟩,
      ⟨(some 38), .callV (.func 9) [], (some (37, true)), [], false⟩,
      ⟨(some 39), .pick (.tmp 37) (.tmp 38) (.const (.bool false)), none, [], false⟩,
      ⟨(some 2), .mov (.tmp 39), none, [], false⟩]) .ret))))))
noncomputable def landfalllaw06_HeaderDecodes : AFunc := ⟨40, [(2, none)], landfalllaw06_HeaderDecodes_c, none⟩
theorem landfalllaw06_HeaderDecodes_t0 : tableOf Try.prog 3 = some landfalllaw06_HeaderDecodes := by kernel_rfl
theorem landfalllaw06_HeaderDecodes_t : T0 3 = some landfalllaw06_HeaderDecodes := withKept_t rfl (withTrue_t rfl landfalllaw06_HeaderDecodes_t0)
theorem landfalllaw06_HeaderDecodes_runs {v0 : Value} {h : Heap} {R : RP} {X : XP} (k : RunC Try.prog T0 landfalllaw06_HeaderDecodes_c ⟨[v0, undef, undef, undef, undef, undef, undef, undef, undef, undef, undef, undef, undef, undef, undef, undef, undef, undef, undef, undef, undef, undef, undef, undef, undef, undef, undef, undef, undef, undef, undef, undef, undef, undef, undef, undef, undef, undef, undef, undef], [], h, none⟩ (bodyQ Try.prog T0 [(2, none)] R X)) :
    Runs Try.prog T0 (.fn 3) [v0] h R X := Runs.fn landfalllaw06_HeaderDecodes_t rfl k


/-! 10 landfall/landfallkit.LentBytes -/
abbrev fn_landfallkit_LentBytes : FuncId := 10
noncomputable def landfallkit_LentBytes_c : ACode :=
  (.seq (.region [
      ⟨(some 2), .mov (.const (.slice none 0 0)), none, [], false⟩]) (.seq (.region [
      ⟨(some 4), .buildSlice 5 [] 0 [], none, [], false⟩,
      ⟨(some 5), .mov (.tmp 0), none, [], false⟩,
      ⟨(some 6), .append 5 1 1 [(.int .u8 0)] false (.tmp 4) (.tmp 5), none, [], false⟩,
      ⟨(some 7), .buildSlice 5 [(.int .u8 0), (.int .u8 0), (.int .u8 0), (.int .u8 0)] 4 [(0, 1, (.const (.int .u8 201))), (1, 1, (.const (.int .u8 202))), (2, 1, (.const (.int .u8 203))), (3, 1, (.const (.int .u8 204)))], none, [], false⟩,
      ⟨(some 8), .append 5 1 1 [(.int .u8 0)] false (.tmp 6) (.tmp 7), none, [], false⟩,
      ⟨(some 3), .mov (.tmp 8), none, [], false⟩]) (.seq (.region [
      ⟨(some 9), .mov (.tmp 3), none, [], false⟩,
      ⟨(some 10), .mov (.tmp 0), none, [], false⟩,
      ⟨(some 11), .lenSl (.tmp 10), none, [], false⟩,
      ⟨(some 12), .sliceSl 1 (.tmp 9) none (some (.tmp 11)) none, none, [], false⟩,
      ⟨(some 2), .mov (.tmp 12), none, [], false⟩]) .ret)))
noncomputable def landfallkit_LentBytes : AFunc := ⟨13, [(2, none)], landfallkit_LentBytes_c, none⟩
theorem landfallkit_LentBytes_t0 : tableOf Try.prog 10 = some landfallkit_LentBytes := by kernel_rfl
theorem landfallkit_LentBytes_t : T0 10 = some landfallkit_LentBytes := withKept_t rfl (withTrue_t rfl landfallkit_LentBytes_t0)
theorem landfallkit_LentBytes_runs {v0 : Value} {h : Heap} {R : RP} {X : XP} (k : RunC Try.prog T0 landfallkit_LentBytes_c ⟨[v0, undef, undef, undef, undef, undef, undef, undef, undef, undef, undef, undef, undef], [], h, none⟩ (bodyQ Try.prog T0 [(2, none)] R X)) :
    Runs Try.prog T0 (.fn 10) [v0] h R X := Runs.fn landfallkit_LentBytes_t rfl k


/-! 11 landfall/header.Decode -/
abbrev fn_header_Decode : FuncId := 11
noncomputable def header_Decode_l0 : ACode :=
  (.seq (.region [
      ⟨(some 20), .bin .lss (so (.binOp .lss 3 (.tmp 19) (.const (.int .i64 4)) 3) 0) (.tmp 19) (.const (.int .i64 4)), none, [], false⟩]) (.seq (.cond (.tmp 20)
    .skip
    (.exit 0)) (.seq (.block 1 (.seq (.region [
      ⟨(some 21), .index 4 1 none (.tmp 18) (.tmp 19), none, [], false⟩,
      ⟨(some 7), .mov (.tmp 21), none, [], false⟩]) (.region [
      ⟨(some 22), .mov (.tmp 7), none, [], false⟩,
      ⟨(some 23), .mov (.tmp 4), none, [], false⟩,
      ⟨(some 24), .callV (.func 34) [(.tmp 23)], none, [], false⟩,
      ⟨(some 25), .nilCheck (.tmp 22), none, [], false⟩,
      ⟨none, .store 32 (.tmp 25) (.tmp 24), none, [], false⟩]))) (.region [
      ⟨(some 26), .bin .add (so (.binOp .add 3 (.tmp 19) (.const (.int .i64 1)) 3) 3) (.tmp 19) (.const (.int .i64 1)), none, [], false⟩,
      ⟨(some 19), .mov (.tmp 26), none, [], false⟩]))))
noncomputable def header_Decode_c : ACode :=
  (.seq (.region [
      ⟨(some 2), .alloc 28 ((.string ⟨⟨[]⟩⟩) :: ((.int .i64 0) :: ((.int .i64 0) :: (z32 ++ (z32 ++ (z32 ++ z32)))))), none, [], false⟩,
      ⟨(some 3), .alloc 31 [(.int .i64 0), (.int .i64 0)], none, [], false⟩]) (.seq (.region [
      ⟨(some 9), .mov (.tmp 0), none, [], false⟩,
      ⟨(some 10), .callV (.func 30) [(.tmp 9)], none, [], false⟩,
      ⟨(some 4), .mov (.tmp 10), none, [], false⟩]) (.seq (.region [
      ⟨(some 11), .mov (.tmp 4), none, [], false⟩,
      ⟨(some 12), .callV (.func 31) [(.tmp 11), (.const (.int .i64 32))], none, [], false⟩,
      ⟨(some 13), .mov (.tmp 4), none, [], false⟩,
      ⟨(some 14), .callV (.func 32) [(.tmp 13)], none, [], false⟩,
      ⟨(some 15), .mov (.tmp 4), none, [], false⟩,
      ⟨(some 16), .callV (.func 32) [(.tmp 15)], none, [], false⟩,
      ⟨(some 17), .build ((.string ⟨⟨[]⟩⟩) :: ((.int .i64 0) :: ((.int .i64 0) :: (z32 ++ (z32 ++ (z32 ++ z32)))))) [(0, 1, (.tmp 12)), (1, 1, (.tmp 14)), (2, 1, (.tmp 16))], none, [], false⟩,
      ⟨(some 5), .alloc 28 ((.string ⟨⟨[]⟩⟩) :: ((.int .i64 0) :: ((.int .i64 0) :: (z32 ++ (z32 ++ (z32 ++ z32)))))), none, [], false⟩,
      ⟨none, .store 131 (.tmp 5) (.tmp 17), none, [], false⟩]) (.seq (.seq (.region [
      ⟨(some 18), .callV (.func 33) [(.tmp 5)], none, [], false⟩,
      ⟨(some 19), .mov (.const (.int .i64 0)), none, [], false⟩]) (.block 0 (.loop header_Decode_l0))) (.seq (.region [
      ⟨(some 27), .mov (.tmp 4), none, [], false⟩,
      ⟨(some 28), .callV (.func 35) [(.tmp 27)], none, [], false⟩,
      ⟨(some 8), .alloc 31 [(.int .i64 0), (.int .i64 0)], none, [], false⟩,
      ⟨none, .store 2 (.tmp 8) (.tmp 28), none, [], false⟩]) (.seq (.seq (.region [
      ⟨(some 29), .load (some 2) (.tmp 8), none, [], false⟩,
      ⟨(some 30), .build [(.int .i64 0), (.int .i64 0)] [], none, [], false⟩,
      ⟨(some 31), .bin .eql (so (.binOp .eql 31 (.tmp 29) (.tmp 30) 31) 4) (.tmp 29) (.tmp 30), none, [], false⟩]) (.cond (.tmp 31)
    (.region [
      ⟨(some 32), .load (some 131) (.tmp 5), none, [], false⟩,
      ⟨(some 33), .callV (.func 19) [(.tmp 32)], none, [], false⟩,
      ⟨(some 34), .fieldAddr 0 (.tmp 8), none, [], false⟩,
      ⟨none, .store 1 (.tmp 34) (.tmp 33), none, [], false⟩])
    .skip)) (.seq (.seq (.region [
      ⟨(some 35), .load (some 2) (.tmp 8), none, [], false⟩,
      ⟨(some 36), .build [(.int .i64 0), (.int .i64 0)] [], none, [], false⟩,
      ⟨(some 37), .bin .neq (so (.binOp .neq 31 (.tmp 35) (.tmp 36) 31) 4) (.tmp 35) (.tmp 36), none, [], false⟩]) (.cond (.tmp 37)
    (.seq (.regionD [
      ⟨(some 38), .build ((.string ⟨⟨[]⟩⟩) :: ((.int .i64 0) :: ((.int .i64 0) :: (z32 ++ (z32 ++ (z32 ++ z32)))))) [], none, [], false⟩,
      ⟨(some 39), .load (some 2) (.tmp 8), none, [], false⟩,
      ⟨none, .store 131 (.tmp 2) (.tmp 38), none, [((some 39), .load (some 2) (.tmp 8), none)], false⟩,
      ⟨none, .store 2 (.tmp 3) (.tmp 39), none, [], true⟩]) .ret)
    .skip)) (.seq (.regionD [
      ⟨(some 40), .load (some 131) (.tmp 5), none, [], false⟩,
      ⟨(some 41), .load (some 2) (.tmp 8), none, [], false⟩,
      ⟨none, .store 131 (.tmp 2) (.tmp 40), none, [((some 41), .load (some 2) (.tmp 8), none)], false⟩,
      ⟨none, .store 2 (.tmp 3) (.tmp 41), none, [], true⟩]) .ret))))))))
noncomputable def header_Decode : AFunc := ⟨42, [(2, some (some 131)), (3, some (some 2))], header_Decode_c, none⟩
theorem header_Decode_t0 : tableOf Try.prog 11 = some header_Decode := by kernel_rfl
theorem header_Decode_t : T0 11 = some header_Decode := withKept_t rfl (withTrue_t rfl header_Decode_t0)
theorem header_Decode_runs {v0 : Value} {h : Heap} {R : RP} {X : XP} (k : RunC Try.prog T0 header_Decode_c ⟨[v0, undef, undef, undef, undef, undef, undef, undef, undef, undef, undef, undef, undef, undef, undef, undef, undef, undef, undef, undef, undef, undef, undef, undef, undef, undef, undef, undef, undef, undef, undef, undef, undef, undef, undef, undef, undef, undef, undef, undef, undef, undef], [], h, none⟩ (bodyQ Try.prog T0 [(2, some (some 131)), (3, some (some 2))] R X)) :
    Runs Try.prog T0 (.fn 11) [v0] h R X := Runs.fn header_Decode_t rfl k
/-- the slots that turn in the loop: v19 -/
noncomputable def header_Decode_l0_J (f0 f1 f2 f3 f4 f5 f6 f8 f9 f10 f11 f12 f13 f14 f15 f16 f17 f18 f27 f28 f29 f30 f31 f32 f33 f34 f35 f36 f37 f38 f39 f40 f41 : Value) (ds : List Deferred) (rd : Option Nat) (I : Nat → Value → Heap → Prop) (m : Nat) (s : St) : Prop := ∃ (v19 : Value), ∃ h : Heap, ∃ (x7 x20 x21 x22 x23 x24 x25 x26 : Value), s = ⟨[f0, f1, f2, f3, f4, f5, f6, x7, f8, f9, f10, f11, f12, f13, f14, f15, f16, f17, f18, v19, x20, x21, x22, x23, x24, x25, x26, f27, f28, f29, f30, f31, f32, f33, f34, f35, f36, f37, f38, f39, f40, f41], ds, h, rd⟩ ∧ I m v19 h
theorem header_Decode_l0_rule {f0 f1 f2 f3 f4 f5 f6 f8 f9 f10 f11 f12 f13 f14 f15 f16 f17 f18 f27 f28 f29 f30 f31 f32 f33 f34 f35 f36 f37 f38 f39 f40 f41 : Value} {ds : List Deferred} {rd : Option Nat} {Q : QP} (I : Nat → Value → Heap → Prop) (hb : ∀ (m : Nat) (v19 : Value) (h : Heap) (x7 x20 x21 x22 x23 x24 x25 x26 : Value) , I m v19 h → RunC Try.prog T0 header_Decode_l0 ⟨[f0, f1, f2, f3, f4, f5, f6, x7, f8, f9, f10, f11, f12, f13, f14, f15, f16, f17, f18, v19, x20, x21, x22, x23, x24, x25, x26, f27, f28, f29, f30, f31, f32, f33, f34, f35, f36, f37, f38, f39, f40, f41], ds, h, rd⟩ (loopQ (header_Decode_l0_J f0 f1 f2 f3 f4 f5 f6 f8 f9 f10 f11 f12 f13 f14 f15 f16 f17 f18 f27 f28 f29 f30 f31 f32 f33 f34 f35 f36 f37 f38 f39 f40 f41 ds rd I) m Q))
    (m : Nat) {v19 : Value} {h : Heap} {x7 x20 x21 x22 x23 x24 x25 x26 : Value} (hi : I m v19 h) : RunC Try.prog T0 (.loop header_Decode_l0) ⟨[f0, f1, f2, f3, f4, f5, f6, x7, f8, f9, f10, f11, f12, f13, f14, f15, f16, f17, f18, v19, x20, x21, x22, x23, x24, x25, x26, f27, f28, f29, f30, f31, f32, f33, f34, f35, f36, f37, f38, f39, f40, f41], ds, h, rd⟩ Q :=
  RunC.loopJ (header_Decode_l0_J f0 f1 f2 f3 f4 f5 f6 f8 f9 f10 f11 f12 f13 f14 f15 f16 f17 f18 f27 f28 f29 f30 f31 f32 f33 f34 f35 f36 f37 f38 f39 f40 f41 ds rd I) (fun m s hj => by obtain ⟨v19, h, x7, x20, x21, x22, x23, x24, x25, x26, rfl, hi⟩ := hj; exact hb m v19 h x7 x20 x21 x22 x23 x24 x25 x26 hi) m _ ⟨_, h, _, _, _, _, _, _, _, _, rfl, hi⟩
theorem header_Decode_l0_again {f0 f1 f2 f3 f4 f5 f6 f8 f9 f10 f11 f12 f13 f14 f15 f16 f17 f18 f27 f28 f29 f30 f31 f32 f33 f34 f35 f36 f37 f38 f39 f40 f41 : Value} {ds : List Deferred} {rd : Option Nat} {Q : QP} {I : Nat → Value → Heap → Prop} {m : Nat} (m' : Nat) {v19 : Value} {h : Heap} {x7 x20 x21 x22 x23 x24 x25 x26 : Value} (hm : m' < m) (hi : I m' v19 h) : loopQ (header_Decode_l0_J f0 f1 f2 f3 f4 f5 f6 f8 f9 f10 f11 f12 f13 f14 f15 f16 f17 f18 f27 f28 f29 f30 f31 f32 f33 f34 f35 f36 f37 f38 f39 f40 f41 ds rd I) m Q .normal ⟨[f0, f1, f2, f3, f4, f5, f6, x7, f8, f9, f10, f11, f12, f13, f14, f15, f16, f17, f18, v19, x20, x21, x22, x23, x24, x25, x26, f27, f28, f29, f30, f31, f32, f33, f34, f35, f36, f37, f38, f39, f40, f41], ds, h, rd⟩ :=
  loopQ.again m' hm ⟨_, h, _, _, _, _, _, _, _, _, rfl, hi⟩

/-! 12 landfall/landfallref06.Decode -/
abbrev fn_landfallref06_Decode : FuncId := 12
noncomputable def landfallref06_Decode_c : ACode :=
  (.seq (.region [
      ⟨(some 2), .alloc 28 ((.string ⟨⟨[]⟩⟩) :: ((.int .i64 0) :: ((.int .i64 0) :: (z32 ++ (z32 ++ (z32 ++ z32)))))), none, [], false⟩,
      ⟨(some 3), .alloc 31 [(.int .i64 0), (.int .i64 0)], none, [], false⟩]) (.seq (.region [
      ⟨(some 7), .mov (.tmp 0), none, [], false⟩,
      ⟨(some 8), .callV (.func 36) [(.tmp 7)], none, [], false⟩,
      ⟨(some 4), .mov (.tmp 8), none, [], false⟩]) (.seq (.region [
      ⟨(some 9), .mov (.tmp 4), none, [], false⟩,
      ⟨(some 10), .callV (.func 37) [(.tmp 9)], none, [], false⟩,
      ⟨(some 5), .alloc 28 ((.string ⟨⟨[]⟩⟩) :: ((.int .i64 0) :: ((.int .i64 0) :: (z32 ++ (z32 ++ (z32 ++ z32)))))), none, [], false⟩,
      ⟨none, .store 131 (.tmp 5) (.tmp 10), none, [], false⟩]) (.seq (.region [
      ⟨(some 11), .mov (.tmp 4), none, [], false⟩,
      ⟨(some 12), .callV (.func 38) [(.tmp 11)], none, [], false⟩,
      ⟨(some 6), .alloc 31 [(.int .i64 0), (.int .i64 0)], none, [], false⟩,
      ⟨none, .store 2 (.tmp 6) (.tmp 12), none, [], false⟩]) (.seq (.seq (.region [
      ⟨(some 13), .fieldAddr 0 (.tmp 6), none, [], false⟩,
      ⟨(some 14), .load none (.tmp 13), none, [], false⟩,
      ⟨(some 15), .bin .eql (so (.binOp .eql 29 (.tmp 14) (.const (.int .i64 0)) 29) 4) (.tmp 14) (.const (.int .i64 0)), none, [], false⟩]) (.cond (.tmp 15)
    (.region [
      ⟨(some 16), .load (some 131) (.tmp 5), none, [], false⟩,
      ⟨(some 17), .callV (.func 26) [(.tmp 16)], none, [], false⟩,
      ⟨(some 18), .fieldAddr 0 (.tmp 6), none, [], false⟩,
      ⟨none, .store 1 (.tmp 18) (.tmp 17), none, [], false⟩])
    .skip)) (.seq (.seq (.region [
      ⟨(some 19), .fieldAddr 0 (.tmp 6), none, [], false⟩,
      ⟨(some 20), .load none (.tmp 19), none, [], false⟩,
      ⟨(some 21), .bin .neq (so (.binOp .neq 29 (.tmp 20) (.const (.int .i64 0)) 29) 4) (.tmp 20) (.const (.int .i64 0)), none, [], false⟩]) (.cond (.tmp 21)
    (.seq (.regionD [
      ⟨(some 22), .build ((.string ⟨⟨[]⟩⟩) :: ((.int .i64 0) :: ((.int .i64 0) :: (z32 ++ (z32 ++ (z32 ++ z32)))))) [], none, [], false⟩,
      ⟨(some 23), .load (some 2) (.tmp 6), none, [], false⟩,
      ⟨none, .store 131 (.tmp 2) (.tmp 22), none, [((some 23), .load (some 2) (.tmp 6), none)], false⟩,
      ⟨none, .store 2 (.tmp 3) (.tmp 23), none, [], true⟩]) .ret)
    .skip)) (.seq (.regionD [
      ⟨(some 24), .load (some 131) (.tmp 5), none, [], false⟩,
      ⟨(some 25), .load (some 2) (.tmp 6), none, [], false⟩,
      ⟨none, .store 131 (.tmp 2) (.tmp 24), none, [((some 25), .load (some 2) (.tmp 6), none)], false⟩,
      ⟨none, .store 2 (.tmp 3) (.tmp 25), none, [], true⟩]) .ret)))))))
noncomputable def landfallref06_Decode : AFunc := ⟨26, [(2, some (some 131)), (3, some (some 2))], landfallref06_Decode_c, none⟩
theorem landfallref06_Decode_t0 : tableOf Try.prog 12 = some landfallref06_Decode := by kernel_rfl
theorem landfallref06_Decode_t : T0 12 = some landfallref06_Decode := withKept_t rfl (withTrue_t rfl landfallref06_Decode_t0)
theorem landfallref06_Decode_runs {v0 : Value} {h : Heap} {R : RP} {X : XP} (k : RunC Try.prog T0 landfallref06_Decode_c ⟨[v0, undef, undef, undef, undef, undef, undef, undef, undef, undef, undef, undef, undef, undef, undef, undef, undef, undef, undef, undef, undef, undef, undef, undef, undef, undef], [], h, none⟩ (bodyQ Try.prog T0 [(2, some (some 131)), (3, some (some 2))] R X)) :
    Runs Try.prog T0 (.fn 12) [v0] h R X := Runs.fn landfallref06_Decode_t rfl k


/-! 13 landfall/landfallkit.KeptBytes -/
abbrev fn_landfallkit_KeptBytes : FuncId := 13
noncomputable def landfallkit_KeptBytes_c : ACode :=
  (.seq (.region [
      ⟨(some 4), .mov (.const (.bool false)), none, [], false⟩]) (.seq (.region [
      ⟨(some 6), .mov (.tmp 0), none, [], false⟩,
      ⟨(some 7), .mov (.tmp 0), none, [], false⟩,
      ⟨(some 8), .cap (.tmp 7), none, [], false⟩,
      ⟨(some 9), .sliceSl 1 (.tmp 6) none (some (.tmp 8)) none, none, [], false⟩,
      ⟨(some 5), .mov (.tmp 9), none, [], false⟩]) (.seq (.regionD [
      ⟨(some 10), .mov (.tmp 0), none, [], false⟩,
      ⟨(some 11), .lenSl (.tmp 10), none, [], false⟩,
      ⟨(some 12), .mov (.tmp 1), none, [], false⟩,
      ⟨(some 13), .lenSl (.tmp 12), none, [], false⟩,
      ⟨(some 14), .bin .eql (so (.binOp .eql 3 (.tmp 11) (.tmp 13) 3) 4) (.tmp 11) (.tmp 13), none, [], true⟩,
      ⟨(some 15), .mov (.tmp 14), none, [], true⟩,
      ⟨(some 16), .mov (.tmp 0), (some (15, true)), [], false⟩,
      ⟨(some 17), .bytesToStr (.tmp 16), (some (15, true)), [], false⟩,
      ⟨(some 18), .mov (.tmp 1), (some (15, true)), [], false⟩,
      ⟨(some 19), .bytesToStr (.tmp 18), (some (15, true)), [], false⟩,
      ⟨(some 20), .bin .eql (so (.binOp .eql 9 (.tmp 17) (.tmp 19) 9) 4) (.tmp 17) (.tmp 19), (some (15, true)), [], true⟩,
      ⟨(some 21), .pick (.tmp 15) (.tmp 20) (.const (.bool false)), none, [], true⟩,
      ⟨(some 22), .mov (.tmp 21), none, [], true⟩,
      ⟨(some 23), .mov (.tmp 5), (some (22, true)), [], false⟩,
      ⟨(some 24), .lenSl (.tmp 23), (some (22, true)), [], false⟩,
      ⟨(some 25), .mov (.tmp 1), (some (22, true)), [], false⟩,
      ⟨(some 26), .lenSl (.tmp 25), (some (22, true)), [], false⟩,
      ⟨(some 27), .bin .add (so (.binOp .add 3 (.tmp 26) (.const (.int .i64 4)) 3) 3) (.tmp 26) (.const (.int .i64 4)), (some (22, true)), [], false⟩,
      ⟨(some 28), .bin .geq (so (.binOp .geq 3 (.tmp 24) (.tmp 27) 3) 4) (.tmp 24) (.tmp 27), (some (22, true)), [], true⟩,
      ⟨(some 29), .pick (.tmp 22) (.tmp 28) (.const (.bool false)), none, [], true⟩,
      ⟨(some 30), .mov (.tmp 29), none, [], true⟩,
      ⟨(some 31), .mov (.tmp 5), (some (30, true)), [], false⟩,
      ⟨(some 32), .mov (.tmp 1), (some (30, true)), [], false⟩,
      ⟨(some 33), .lenSl (.tmp 32), (some (30, true)), [], false⟩,
      ⟨(some 34), .mov (.tmp 1), (some (30, true)), [], false⟩,
      ⟨(some 35), .lenSl (.tmp 34), (some (30, true)), [], false⟩,
      ⟨(some 36), .bin .add (so (.binOp .add 3 (.tmp 35) (.const (.int .i64 4)) 3) 3) (.tmp 35) (.const (.int .i64 4)), (some (30, true)), [], false⟩,
      ⟨(some 37), .sliceSl 1 (.tmp 31) (some (.tmp 33)) (some (.tmp 36)) none, (some (30, true)), [], false⟩,
      ⟨(some 38), .bytesToStr (.tmp 37), (some (30, true)), [], false⟩,
      ⟨(some 39), .buildSlice 5 [(.int .u8 0), (.int .u8 0), (.int .u8 0), (.int .u8 0)] 4 [(0, 1, (.const (.int .u8 201))), (1, 1, (.const (.int .u8 202))), (2, 1, (.const (.int .u8 203))), (3, 1, (.const (.int .u8 204)))], (some (30, true)), [((some 38), .bytesToStr (.tmp 37), (some (30, true))), ((some 37), .sliceSl 1 (.tmp 31) (some (.tmp 33)) (some (.tmp 36)) none, (some (30, true))), ((some 36), .bin .add (so (.binOp .add 3 (.tmp 35) (.const (.int .i64 4)) 3) 3) (.tmp 35) (.const (.int .i64 4)), (some (30, true))), ((some 35), .lenSl (.tmp 34), (some (30, true))), ((some 34), .mov (.tmp 1), (some (30, true))), ((some 33), .lenSl (.tmp 32), (some (30, true))), ((some 32), .mov (.tmp 1), (some (30, true))), ((some 31), .mov (.tmp 5), (some (30, true)))], false⟩,
      ⟨(some 40), .bytesToStr (.tmp 39), (some (30, true)), [], false⟩,
      ⟨(some 41), .bin .eql (so (.binOp .eql 9 (.tmp 38) (.tmp 40) 9) 4) (.tmp 38) (.tmp 40), (some (30, true)), [], true⟩,
      ⟨(some 42), .pick (.tmp 30) (.tmp 41) (.const (.bool false)), none, [], true⟩,
      ⟨(some 4), .mov (.tmp 42), none, [], true⟩]) .ret)))
noncomputable def landfallkit_KeptBytes : AFunc := ⟨43, [(4, none)], landfallkit_KeptBytes_c, none⟩
theorem landfallkit_KeptBytes_t0 : tableOf Try.prog 13 = some landfallkit_KeptBytes := by kernel_rfl
theorem landfallkit_KeptBytes_kept {h : Heap} {args : List Value} (hp : KeptPre args h) : Runs Try.prog T0 (.fn 13) args h (fun r h' => r = .bool true ∧ h' = h) (fun _ _ => False) := kept_runs rfl hp
theorem landfallkit_KeptBytes_runs {v0 v1 : Value} {h : Heap} {R : RP} {X : XP} (k : RunC Try.prog (tableOf Try.prog) landfallkit_KeptBytes_c ⟨[v0, v1, undef, undef, undef, undef, undef, undef, undef, undef, undef, undef, undef, undef, undef, undef, undef, undef, undef, undef, undef, undef, undef, undef, undef, undef, undef, undef, undef, undef, undef, undef, undef, undef, undef, undef, undef, undef, undef, undef, undef, undef, undef], [], h, none⟩ (bodyQ Try.prog (tableOf Try.prog) [(4, none)] R X)) :
    Runs Try.prog (tableOf Try.prog) (.fn 13) [v0, v1] h R X := Runs.fn landfallkit_KeptBytes_t0 rfl k


/-! 17 landfall/header.Name -/
abbrev fn_header_Name : FuncId := 17
noncomputable def header_Name_c : ACode :=
  (.seq (.region [
      ⟨(some 2), .mov (.const (.bool false)), none, [], false⟩]) (.seq (.region [
      ⟨(some 3), .mov (.tmp 0), none, [], false⟩,
      ⟨(some 4), .lenStr (.tmp 3), none, [], false⟩,
      ⟨(some 5), .bin .geq (so (.binOp .geq 3 (.tmp 4) (.const (.int .i64 1)) 3) 4) (.tmp 4) (.const (.int .i64 1)), none, [], false⟩,
      ⟨(some 6), .mov (.tmp 5), none, [], false⟩,
      ⟨(some 7), .mov (.tmp 0), (some (6, true)), [], false⟩,
      ⟨(some 8), .lenStr (.tmp 7), (some (6, true)), [], false⟩,
      ⟨(some 9), .bin .leq (so (.binOp .leq 3 (.tmp 8) (.const (.int .i64 32)) 3) 4) (.tmp 8) (.const (.int .i64 32)), (some (6, true)), [], false⟩,
      ⟨(some 10), .pick (.tmp 6) (.tmp 9) (.const (.bool false)), none, [], false⟩,
      ⟨(some 11), .mov (.tmp 10), none, [], false⟩,
      ⟨(some 12), .mov (.tmp 0), (some (11, true)), [], false⟩,
      ⟨(some 13), .callV (.func 44) [(.tmp 12), (.func 45)], (some (11, true)), [], false⟩,
      ⟨(some 14), .pick (.tmp 11) (.tmp 13) (.const (.bool false)), none, [], false⟩,
      ⟨(some 2), .mov (.tmp 14), none, [], false⟩]) .ret))
noncomputable def header_Name : AFunc := ⟨15, [(2, none)], header_Name_c, none⟩
theorem header_Name_t0 : tableOf Try.prog 17 = some header_Name := by kernel_rfl
theorem header_Name_t : T0 17 = some header_Name := withKept_t rfl (withTrue_t rfl header_Name_t0)
theorem header_Name_runs {v0 : Value} {h : Heap} {R : RP} {X : XP} (k : RunC Try.prog T0 header_Name_c ⟨[v0, undef, undef, undef, undef, undef, undef, undef, undef, undef, undef, undef, undef, undef, undef], [], h, none⟩ (bodyQ Try.prog T0 [(2, none)] R X)) :
    Runs Try.prog T0 (.fn 17) [v0] h R X := Runs.fn header_Name_t rfl k


/-! 19 landfall/header.Check -/
abbrev fn_header_Check : FuncId := 19
noncomputable def header_Check_l0 : ACode :=
  (.seq (.region [
      ⟨(some 8), .bin .lss (so (.binOp .lss 3 (.tmp 7) (.tmp 6) 3) 0) (.tmp 7) (.tmp 6), none, [], false⟩]) (.seq (.cond (.tmp 8)
    .skip
    (.exit 0)) (.seq (.block 1 (.seq (.region [
      ⟨(some 9), .indexSl 2 (.tmp 5) (.tmp 7), none, [], false⟩,
      ⟨(some 10), .load (some 2) (.tmp 9), none, [], false⟩,
      ⟨(some 4), .alloc 76 [.nilFunc, (.int .i64 0)], none, [], false⟩,
      ⟨none, .store 2 (.tmp 4) (.tmp 10), none, [], false⟩]) (.seq (.region [
      ⟨(some 11), .fieldAddr 0 (.tmp 4), none, [], false⟩,
      ⟨(some 12), .load none (.tmp 11), none, [], false⟩,
      ⟨(some 13), .load (some 131) (.tmp 1), none, [], false⟩,
      ⟨(some 14), .callV (.tmp 12) [(.tmp 13)], none, [], false⟩,
      ⟨(some 15), .raw (so (.unOp .not 4 (.tmp 14)) 4), none, [], false⟩]) (.cond (.tmp 15)
    (.seq (.region [
      ⟨(some 16), .fieldAddr 1 (.tmp 4), none, [], false⟩,
      ⟨(some 17), .load none (.tmp 16), none, [], false⟩,
      ⟨(some 2), .mov (.tmp 17), none, [], false⟩]) .ret)
    .skip)))) (.region [
      ⟨(some 18), .bin .add (so (.binOp .add 3 (.tmp 7) (.const (.int .i64 1)) 3) 3) (.tmp 7) (.const (.int .i64 1)), none, [], false⟩,
      ⟨(some 7), .mov (.tmp 18), none, [], false⟩]))))
noncomputable def header_Check_c : ACode :=
  (.seq (.region [
      ⟨(some 1), .box 28 (.tmp 0), none, [], false⟩,
      ⟨(some 2), .mov (.const (.int .i64 0)), none, [], false⟩]) (.seq (.seq (.region [
      ⟨(some 5), .callV (.func 46) [], none, [], false⟩,
      ⟨(some 6), .lenSl (.tmp 5), none, [], false⟩,
      ⟨(some 7), .mov (.const (.int .i64 0)), none, [], false⟩]) (.block 0 (.loop header_Check_l0))) (.seq (.region [
      ⟨(some 2), .mov (.const (.int .i64 0)), none, [], false⟩]) .ret)))
noncomputable def header_Check : AFunc := ⟨19, [(2, none)], header_Check_c, none⟩
theorem header_Check_t0 : tableOf Try.prog 19 = some header_Check := by kernel_rfl
theorem header_Check_t : T0 19 = some header_Check := withKept_t rfl (withTrue_t rfl header_Check_t0)
theorem header_Check_runs {v0 : Value} {h : Heap} {R : RP} {X : XP} (k : RunC Try.prog T0 header_Check_c ⟨[v0, undef, undef, undef, undef, undef, undef, undef, undef, undef, undef, undef, undef, undef, undef, undef, undef, undef, undef], [], h, none⟩ (bodyQ Try.prog T0 [(2, none)] R X)) :
    Runs Try.prog T0 (.fn 19) [v0] h R X := Runs.fn header_Check_t rfl k
/-- the slots that turn in the loop: v7 -/
noncomputable def header_Check_l0_J (f0 f1 f3 f5 f6 : Value) (ds : List Deferred) (rd : Option Nat) (I : Nat → Value → Heap → Prop) (m : Nat) (s : St) : Prop := ∃ (v7 : Value), ∃ h : Heap, ∃ (x2 x4 x8 x9 x10 x11 x12 x13 x14 x15 x16 x17 x18 : Value), s = ⟨[f0, f1, x2, f3, x4, f5, f6, v7, x8, x9, x10, x11, x12, x13, x14, x15, x16, x17, x18], ds, h, rd⟩ ∧ I m v7 h
theorem header_Check_l0_rule {f0 f1 f3 f5 f6 : Value} {ds : List Deferred} {rd : Option Nat} {Q : QP} (I : Nat → Value → Heap → Prop) (hb : ∀ (m : Nat) (v7 : Value) (h : Heap) (x2 x4 x8 x9 x10 x11 x12 x13 x14 x15 x16 x17 x18 : Value) , I m v7 h → RunC Try.prog T0 header_Check_l0 ⟨[f0, f1, x2, f3, x4, f5, f6, v7, x8, x9, x10, x11, x12, x13, x14, x15, x16, x17, x18], ds, h, rd⟩ (loopQ (header_Check_l0_J f0 f1 f3 f5 f6 ds rd I) m Q))
    (m : Nat) {v7 : Value} {h : Heap} {x2 x4 x8 x9 x10 x11 x12 x13 x14 x15 x16 x17 x18 : Value} (hi : I m v7 h) : RunC Try.prog T0 (.loop header_Check_l0) ⟨[f0, f1, x2, f3, x4, f5, f6, v7, x8, x9, x10, x11, x12, x13, x14, x15, x16, x17, x18], ds, h, rd⟩ Q :=
  RunC.loopJ (header_Check_l0_J f0 f1 f3 f5 f6 ds rd I) (fun m s hj => by obtain ⟨v7, h, x2, x4, x8, x9, x10, x11, x12, x13, x14, x15, x16, x17, x18, rfl, hi⟩ := hj; exact hb m v7 h x2 x4 x8 x9 x10 x11 x12 x13 x14 x15 x16 x17 x18 hi) m _ ⟨_, h, _, _, _, _, _, _, _, _, _, _, _, _, _, rfl, hi⟩
theorem header_Check_l0_again {f0 f1 f3 f5 f6 : Value} {ds : List Deferred} {rd : Option Nat} {Q : QP} {I : Nat → Value → Heap → Prop} {m : Nat} (m' : Nat) {v7 : Value} {h : Heap} {x2 x4 x8 x9 x10 x11 x12 x13 x14 x15 x16 x17 x18 : Value} (hm : m' < m) (hi : I m' v7 h) : loopQ (header_Check_l0_J f0 f1 f3 f5 f6 ds rd I) m Q .normal ⟨[f0, f1, x2, f3, x4, f5, f6, v7, x8, x9, x10, x11, x12, x13, x14, x15, x16, x17, x18], ds, h, rd⟩ :=
  loopQ.again m' hm ⟨_, h, _, _, _, _, _, _, _, _, _, _, _, _, _, rfl, hi⟩

/-! 26 landfall/landfallref06.Check -/
abbrev fn_landfallref06_Check : FuncId := 26
noncomputable def landfallref06_Check_c : ACode :=
  (.seq (.region [
      ⟨(some 1), .box 28 (.tmp 0), none, [], false⟩,
      ⟨(some 2), .mov (.const (.int .i64 0)), none, [], false⟩]) (.seq (.block 0 (.seq (.region [
      ⟨(some 4), .fieldAddr 0 (.tmp 1), none, [], false⟩,
      ⟨(some 5), .load none (.tmp 4), none, [], false⟩,
      ⟨(some 6), .callV (.func 27) [(.tmp 5)], none, [], false⟩,
      ⟨(some 7), .raw (so (.unOp .not 4 (.tmp 6)) 4), none, [], false⟩,
      ⟨(some 3), .mov (.tmp 7), none, [], false⟩]) (.cond (.tmp 3)
    (.seq (.region [
      ⟨(some 2), .mov (.const (.int .i64 5)), none, [], false⟩]) .ret)
    (.seq (.region [
      ⟨(some 9), .fieldAddr 1 (.tmp 1), none, [], false⟩,
      ⟨(some 10), .load none (.tmp 9), none, [], false⟩,
      ⟨(some 11), .bin .lss (so (.binOp .lss 3 (.tmp 10) (.const (.int .i64 1)) 3) 4) (.tmp 10) (.const (.int .i64 1)), none, [], false⟩,
      ⟨(some 12), .mov (.tmp 11), none, [], false⟩,
      ⟨(some 13), .fieldAddr 1 (.tmp 1), (some (12, false)), [], false⟩,
      ⟨(some 14), .load none (.tmp 13), (some (12, false)), [], false⟩,
      ⟨(some 15), .bin .gtr (so (.binOp .gtr 3 (.tmp 14) (.const (.int .i64 1073741824)) 3) 4) (.tmp 14) (.const (.int .i64 1073741824)), (some (12, false)), [], false⟩,
      ⟨(some 16), .pick (.tmp 12) (.const (.bool true)) (.tmp 15), none, [], false⟩,
      ⟨(some 17), .mov (.tmp 16), none, [], false⟩,
      ⟨(some 18), .fieldAddr 2 (.tmp 1), (some (17, false)), [], false⟩,
      ⟨(some 19), .load none (.tmp 18), (some (17, false)), [], false⟩,
      ⟨(some 20), .bin .lss (so (.binOp .lss 3 (.tmp 19) (.const (.int .i64 0)) 3) 4) (.tmp 19) (.const (.int .i64 0)), (some (17, false)), [], false⟩,
      ⟨(some 21), .pick (.tmp 17) (.const (.bool true)) (.tmp 20), none, [], false⟩,
      ⟨(some 22), .mov (.tmp 21), none, [], false⟩,
      ⟨(some 23), .fieldAddr 2 (.tmp 1), (some (22, false)), [], false⟩,
      ⟨(some 24), .load none (.tmp 23), (some (22, false)), [], false⟩,
      ⟨(some 25), .bin .gtr (so (.binOp .gtr 3 (.tmp 24) (.const (.int .i64 1099511627776)) 3) 4) (.tmp 24) (.const (.int .i64 1099511627776)), (some (22, false)), [], false⟩,
      ⟨(some 26), .pick (.tmp 22) (.const (.bool true)) (.tmp 25), none, [], false⟩,
      ⟨(some 8), .mov (.tmp 26), none, [], false⟩]) (.cond (.tmp 8)
    (.seq (.region [
      ⟨(some 2), .mov (.const (.int .i64 3)), none, [], false⟩]) .ret)
    .skip))))) (.seq (.region [
      ⟨(some 2), .mov (.const (.int .i64 0)), none, [], false⟩]) .ret)))
noncomputable def landfallref06_Check : AFunc := ⟨27, [(2, none)], landfallref06_Check_c, none⟩
theorem landfallref06_Check_t0 : tableOf Try.prog 26 = some landfallref06_Check := by kernel_rfl
theorem landfallref06_Check_t : T0 26 = some landfallref06_Check := withKept_t rfl (withTrue_t rfl landfallref06_Check_t0)
theorem landfallref06_Check_runs {v0 : Value} {h : Heap} {R : RP} {X : XP} (k : RunC Try.prog T0 landfallref06_Check_c ⟨[v0, undef, undef, undef, undef, undef, undef, undef, undef, undef, undef, undef, undef, undef, undef, undef, undef, undef, undef, undef, undef, undef, undef, undef, undef, undef, undef], [], h, none⟩ (bodyQ Try.prog T0 [(2, none)] R X)) :
    Runs Try.prog T0 (.fn 26) [v0] h R X := Runs.fn landfallref06_Check_t rfl k


/-! 27 landfall/landfallref06.Name -/
abbrev fn_landfallref06_Name : FuncId := 27
noncomputable def landfallref06_Name_l0 : ACode :=
  (.seq (.seq (.region [
      ⟨(some 5), .mov (.tmp 3), none, [], false⟩,
      ⟨(some 6), .mov (.tmp 0), none, [], false⟩,
      ⟨(some 7), .lenStr (.tmp 6), none, [], false⟩,
      ⟨(some 8), .bin .lss (so (.binOp .lss 3 (.tmp 5) (.tmp 7) 3) 4) (.tmp 5) (.tmp 7), none, [], false⟩]) (.cond (.tmp 8)
    .skip
    (.exit 0))) (.seq (.block 1 (.seq (.region [
      ⟨(some 11), .mov (.tmp 0), none, [], false⟩,
      ⟨(some 12), .mov (.tmp 3), none, [], false⟩,
      ⟨(some 13), .raw (so (.index 9 (.tmp 11) (.tmp 12)) 5), none, [], false⟩,
      ⟨(some 4), .mov (.tmp 13), none, [], false⟩]) (.seq (.region [
      ⟨(some 14), .mov (.tmp 4), none, [], false⟩,
      ⟨(some 15), .bin .lss (so (.binOp .lss 5 (.tmp 14) (.const (.int .u8 97)) 5) 4) (.tmp 14) (.const (.int .u8 97)), none, [], false⟩,
      ⟨(some 16), .mov (.tmp 15), none, [], false⟩,
      ⟨(some 17), .mov (.tmp 4), (some (16, false)), [], false⟩,
      ⟨(some 18), .bin .gtr (so (.binOp .gtr 5 (.tmp 17) (.const (.int .u8 122)) 5) 4) (.tmp 17) (.const (.int .u8 122)), (some (16, false)), [], false⟩,
      ⟨(some 19), .pick (.tmp 16) (.const (.bool true)) (.tmp 18), none, [], false⟩,
      ⟨(some 20), .mov (.tmp 19), none, [], false⟩,
      ⟨(some 21), .mov (.tmp 4), (some (20, true)), [], false⟩,
      ⟨(some 22), .bin .lss (so (.binOp .lss 5 (.tmp 21) (.const (.int .u8 48)) 5) 4) (.tmp 21) (.const (.int .u8 48)), (some (20, true)), [], false⟩,
      ⟨(some 23), .mov (.tmp 22), (some (20, true)), [], false⟩,
      ⟨(some 24), .mov (.tmp 4), (some (23, false)), [], false⟩,
      ⟨(some 25), .bin .gtr (so (.binOp .gtr 5 (.tmp 24) (.const (.int .u8 57)) 5) 4) (.tmp 24) (.const (.int .u8 57)), (some (23, false)), [], false⟩,
      ⟨(some 26), .pick (.tmp 23) (.const (.bool true)) (.tmp 25), (some (20, true)), [], false⟩,
      ⟨(some 27), .pick (.tmp 20) (.tmp 26) (.const (.bool false)), none, [], false⟩,
      ⟨(some 28), .mov (.tmp 27), none, [], false⟩,
      ⟨(some 29), .mov (.tmp 4), (some (28, true)), [], false⟩,
      ⟨(some 30), .bin .neq (so (.binOp .neq 5 (.tmp 29) (.const (.int .u8 45)) 5) 4) (.tmp 29) (.const (.int .u8 45)), (some (28, true)), [], false⟩,
      ⟨(some 31), .pick (.tmp 28) (.tmp 30) (.const (.bool false)), none, [], false⟩]) (.cond (.tmp 31)
    (.seq (.region [
      ⟨(some 2), .mov (.const (.bool false)), none, [], false⟩]) .ret)
    .skip)))) (.region [
      ⟨(some 9), .mov (.tmp 3), none, [], false⟩,
      ⟨(some 10), .bin .add (so (.binOp .add 3 (.tmp 9) (.const (.int .i64 1)) 3) 3) (.tmp 9) (.const (.int .i64 1)), none, [], false⟩,
      ⟨(some 3), .mov (.tmp 10), none, [], false⟩])))
noncomputable def landfallref06_Name_c : ACode :=
  (.seq (.region [
      ⟨(some 2), .mov (.const (.bool false)), none, [], false⟩]) (.seq (.seq (.region [
      ⟨(some 3), .mov (.const (.int .i64 0)), none, [], false⟩]) (.block 0 (.loop landfallref06_Name_l0))) (.seq (.region [
      ⟨(some 32), .mov (.tmp 0), none, [], false⟩,
      ⟨(some 33), .lenStr (.tmp 32), none, [], false⟩,
      ⟨(some 34), .bin .geq (so (.binOp .geq 3 (.tmp 33) (.const (.int .i64 1)) 3) 4) (.tmp 33) (.const (.int .i64 1)), none, [], false⟩,
      ⟨(some 35), .mov (.tmp 34), none, [], false⟩,
      ⟨(some 36), .mov (.tmp 0), (some (35, true)), [], false⟩,
      ⟨(some 37), .lenStr (.tmp 36), (some (35, true)), [], false⟩,
      ⟨(some 38), .bin .leq (so (.binOp .leq 3 (.tmp 37) (.const (.int .i64 32)) 3) 4) (.tmp 37) (.const (.int .i64 32)), (some (35, true)), [], false⟩,
      ⟨(some 39), .pick (.tmp 35) (.tmp 38) (.const (.bool false)), none, [], false⟩,
      ⟨(some 2), .mov (.tmp 39), none, [], false⟩]) .ret)))
noncomputable def landfallref06_Name : AFunc := ⟨40, [(2, none)], landfallref06_Name_c, none⟩
theorem landfallref06_Name_t0 : tableOf Try.prog 27 = some landfallref06_Name := by kernel_rfl
theorem landfallref06_Name_t : T0 27 = some landfallref06_Name := withKept_t rfl (withTrue_t rfl landfallref06_Name_t0)
theorem landfallref06_Name_runs {v0 : Value} {h : Heap} {R : RP} {X : XP} (k : RunC Try.prog T0 landfallref06_Name_c ⟨[v0, undef, undef, undef, undef, undef, undef, undef, undef, undef, undef, undef, undef, undef, undef, undef, undef, undef, undef, undef, undef, undef, undef, undef, undef, undef, undef, undef, undef, undef, undef, undef, undef, undef, undef, undef, undef, undef, undef, undef], [], h, none⟩ (bodyQ Try.prog T0 [(2, none)] R X)) :
    Runs Try.prog T0 (.fn 27) [v0] h R X := Runs.fn landfallref06_Name_t rfl k
/-- the slots that turn in the loop: v3 -/
noncomputable def landfallref06_Name_l0_J (f0 f1 f32 f33 f34 f35 f36 f37 f38 f39 : Value) (ds : List Deferred) (rd : Option Nat) (I : Nat → Value → Heap → Prop) (m : Nat) (s : St) : Prop := ∃ (v3 : Value), ∃ h : Heap, ∃ (x2 x4 x5 x6 x7 x8 x9 x10 x11 x12 x13 x14 x15 x16 x17 x18 x19 x20 x21 x22 x23 x24 x25 x26 x27 x28 x29 x30 x31 : Value), s = ⟨[f0, f1, x2, v3, x4, x5, x6, x7, x8, x9, x10, x11, x12, x13, x14, x15, x16, x17, x18, x19, x20, x21, x22, x23, x24, x25, x26, x27, x28, x29, x30, x31, f32, f33, f34, f35, f36, f37, f38, f39], ds, h, rd⟩ ∧ I m v3 h
theorem landfallref06_Name_l0_rule {f0 f1 f32 f33 f34 f35 f36 f37 f38 f39 : Value} {ds : List Deferred} {rd : Option Nat} {Q : QP} (I : Nat → Value → Heap → Prop) (hb : ∀ (m : Nat) (v3 : Value) (h : Heap) (x2 x4 x5 x6 x7 x8 x9 x10 x11 x12 x13 x14 x15 x16 x17 x18 x19 x20 x21 x22 x23 x24 x25 x26 x27 x28 x29 x30 x31 : Value) , I m v3 h → RunC Try.prog T0 landfallref06_Name_l0 ⟨[f0, f1, x2, v3, x4, x5, x6, x7, x8, x9, x10, x11, x12, x13, x14, x15, x16, x17, x18, x19, x20, x21, x22, x23, x24, x25, x26, x27, x28, x29, x30, x31, f32, f33, f34, f35, f36, f37, f38, f39], ds, h, rd⟩ (loopQ (landfallref06_Name_l0_J f0 f1 f32 f33 f34 f35 f36 f37 f38 f39 ds rd I) m Q))
    (m : Nat) {v3 : Value} {h : Heap} {x2 x4 x5 x6 x7 x8 x9 x10 x11 x12 x13 x14 x15 x16 x17 x18 x19 x20 x21 x22 x23 x24 x25 x26 x27 x28 x29 x30 x31 : Value} (hi : I m v3 h) : RunC Try.prog T0 (.loop landfallref06_Name_l0) ⟨[f0, f1, x2, v3, x4, x5, x6, x7, x8, x9, x10, x11, x12, x13, x14, x15, x16, x17, x18, x19, x20, x21, x22, x23, x24, x25, x26, x27, x28, x29, x30, x31, f32, f33, f34, f35, f36, f37, f38, f39], ds, h, rd⟩ Q :=
  RunC.loopJ (landfallref06_Name_l0_J f0 f1 f32 f33 f34 f35 f36 f37 f38 f39 ds rd I) (fun m s hj => by obtain ⟨v3, h, x2, x4, x5, x6, x7, x8, x9, x10, x11, x12, x13, x14, x15, x16, x17, x18, x19, x20, x21, x22, x23, x24, x25, x26, x27, x28, x29, x30, x31, rfl, hi⟩ := hj; exact hb m v3 h x2 x4 x5 x6 x7 x8 x9 x10 x11 x12 x13 x14 x15 x16 x17 x18 x19 x20 x21 x22 x23 x24 x25 x26 x27 x28 x29 x30 x31 hi) m _ ⟨_, h, _, _, _, _, _, _, _, _, _, _, _, _, _, _, _, _, _, _, _, _, _, _, _, _, _, _, _, _, _, rfl, hi⟩
theorem landfallref06_Name_l0_again {f0 f1 f32 f33 f34 f35 f36 f37 f38 f39 : Value} {ds : List Deferred} {rd : Option Nat} {Q : QP} {I : Nat → Value → Heap → Prop} {m : Nat} (m' : Nat) {v3 : Value} {h : Heap} {x2 x4 x5 x6 x7 x8 x9 x10 x11 x12 x13 x14 x15 x16 x17 x18 x19 x20 x21 x22 x23 x24 x25 x26 x27 x28 x29 x30 x31 : Value} (hm : m' < m) (hi : I m' v3 h) : loopQ (landfallref06_Name_l0_J f0 f1 f32 f33 f34 f35 f36 f37 f38 f39 ds rd I) m Q .normal ⟨[f0, f1, x2, v3, x4, x5, x6, x7, x8, x9, x10, x11, x12, x13, x14, x15, x16, x17, x18, x19, x20, x21, x22, x23, x24, x25, x26, x27, x28, x29, x30, x31, f32, f33, f34, f35, f36, f37, f38, f39], ds, h, rd⟩ :=
  loopQ.again m' hm ⟨_, h, _, _, _, _, _, _, _, _, _, _, _, _, _, _, _, _, _, _, _, _, _, _, _, _, _, _, _, _, _, rfl, hi⟩

/-! 30 landfall/wire.NewReader -/
abbrev fn_wire_NewReader : FuncId := 30
noncomputable def wire_NewReader_c : ACode :=
  (.seq (.region [
      ⟨(some 2), .mov (.const (.pointer none)), none, [], false⟩]) (.seq (.region [
      ⟨(some 3), .mov (.tmp 0), none, [], false⟩,
      ⟨(some 4), .callV (.func 54) [(.tmp 3)], none, [], false⟩,
      ⟨(some 5), .build [(.slice none 0 0), (.int .i64 0), (.int .i64 0), (.int .i64 0), (.bool false)] [(0, 1, (.tmp 4)), (4, 1, (.const (.bool true)))], none, [], false⟩,
      ⟨(some 6), .box 86 (.tmp 5), none, [], false⟩,
      ⟨(some 2), .mov (.tmp 6), none, [], false⟩]) .ret))
noncomputable def wire_NewReader : AFunc := ⟨7, [(2, none)], wire_NewReader_c, none⟩
theorem wire_NewReader_t0 : tableOf Try.prog 30 = some wire_NewReader := by kernel_rfl
theorem wire_NewReader_t : T0 30 = some wire_NewReader := withKept_t rfl (withTrue_t rfl wire_NewReader_t0)
theorem wire_NewReader_runs {v0 : Value} {h : Heap} {R : RP} {X : XP} (k : RunC Try.prog T0 wire_NewReader_c ⟨[v0, undef, undef, undef, undef, undef, undef], [], h, none⟩ (bodyQ Try.prog T0 [(2, none)] R X)) :
    Runs Try.prog T0 (.fn 30) [v0] h R X := Runs.fn wire_NewReader_t rfl k


/-! 31 (*landfall/wire.Reader).Text -/
abbrev fn_wire_Reader_Text : FuncId := 31
noncomputable def wire_Reader_Text_c : ACode :=
  (.seq (.region [
      ⟨(some 4), .mov (.const (.string ⟨⟨[]⟩⟩)), none, [], false⟩]) (.seq (.region [
      ⟨(some 5), .mov (.tmp 0), none, [], false⟩,
      ⟨(some 6), .mov (.tmp 1), none, [], false⟩,
      ⟨(some 7), .callV (.func 55) [(.tmp 5), (.tmp 6)], none, [], false⟩,
      ⟨(some 8), .bytesToStr (.tmp 7), none, [], false⟩,
      ⟨(some 4), .mov (.tmp 8), none, [], false⟩]) .ret))
noncomputable def wire_Reader_Text : AFunc := ⟨9, [(4, none)], wire_Reader_Text_c, none⟩
theorem wire_Reader_Text_t0 : tableOf Try.prog 31 = some wire_Reader_Text := by kernel_rfl
theorem wire_Reader_Text_t : T0 31 = some wire_Reader_Text := withKept_t rfl (withTrue_t rfl wire_Reader_Text_t0)
theorem wire_Reader_Text_runs {v0 v1 : Value} {h : Heap} {R : RP} {X : XP} (k : RunC Try.prog T0 wire_Reader_Text_c ⟨[v0, v1, undef, undef, undef, undef, undef, undef, undef], [], h, none⟩ (bodyQ Try.prog T0 [(4, none)] R X)) :
    Runs Try.prog T0 (.fn 31) [v0, v1] h R X := Runs.fn wire_Reader_Text_t rfl k


/-! 32 (*landfall/wire.Reader).Num -/
abbrev fn_wire_Reader_Num : FuncId := 32
noncomputable def wire_Reader_Num_c : ACode :=
  (.seq (.region [
      ⟨(some 2), .mov (.const (.int .i64 0)), none, [], false⟩]) (.seq (.region [
      ⟨(some 3), .mov (.tmp 0), none, [], false⟩,
      ⟨(some 4), .mov (.tmp 0), none, [], false⟩,
      ⟨(some 5), .mkFunc (.func 57) [(.tmp 4)] [], none, [], false⟩,
      ⟨(some 6), .callV (.func 56) [(.tmp 3), (.tmp 5)], none, [], false⟩,
      ⟨(some 2), .mov (.tmp 6), none, [], false⟩]) .ret))
noncomputable def wire_Reader_Num : AFunc := ⟨7, [(2, none)], wire_Reader_Num_c, none⟩
theorem wire_Reader_Num_t0 : tableOf Try.prog 32 = some wire_Reader_Num := by kernel_rfl
theorem wire_Reader_Num_t : T0 32 = some wire_Reader_Num := withKept_t rfl (withTrue_t rfl wire_Reader_Num_t0)
theorem wire_Reader_Num_runs {v0 : Value} {h : Heap} {R : RP} {X : XP} (k : RunC Try.prog T0 wire_Reader_Num_c ⟨[v0, undef, undef, undef, undef, undef, undef], [], h, none⟩ (bodyQ Try.prog T0 [(2, none)] R X)) :
    Runs Try.prog T0 (.fn 32) [v0] h R X := Runs.fn wire_Reader_Num_t rfl k


/-! 33 landfall/header.hashes -/
abbrev fn_header_hashes : FuncId := 33
noncomputable def header_hashes_c : ACode :=
  (.seq (.region [
      ⟨(some 2), .alloc 56 [(.pointer none), (.pointer none), (.pointer none), (.pointer none)], none, [], false⟩]) (.seq (.regionD [
      ⟨(some 3), .mov (.tmp 0), none, [], false⟩,
      ⟨(some 4), .nilCheck (.tmp 3), none, [], false⟩,
      ⟨(some 5), .fieldAddr 3 (.tmp 4), none, [], false⟩,
      ⟨(some 6), .mov (.tmp 0), none, [], false⟩,
      ⟨(some 7), .nilCheck (.tmp 6), none, [], false⟩,
      ⟨(some 8), .fieldAddr 35 (.tmp 7), none, [], false⟩,
      ⟨(some 9), .mov (.tmp 0), none, [], false⟩,
      ⟨(some 10), .nilCheck (.tmp 9), none, [], false⟩,
      ⟨(some 11), .fieldAddr 67 (.tmp 10), none, [], false⟩,
      ⟨(some 12), .mov (.tmp 0), none, [], false⟩,
      ⟨(some 13), .nilCheck (.tmp 12), none, [], false⟩,
      ⟨(some 14), .fieldAddr 99 (.tmp 13), none, [], false⟩,
      ⟨(some 15), .build [(.pointer none), (.pointer none), (.pointer none), (.pointer none)] [(0, 1, (.tmp 5)), (1, 1, (.tmp 8)), (2, 1, (.tmp 11)), (3, 1, (.tmp 14))], none, [], true⟩,
      ⟨none, .store 4 (.tmp 2) (.tmp 15), none, [], true⟩]) .ret))
noncomputable def header_hashes : AFunc := ⟨16, [(2, some (some 4))], header_hashes_c, none⟩
theorem header_hashes_t0 : tableOf Try.prog 33 = some header_hashes := by kernel_rfl
theorem header_hashes_t : T0 33 = some header_hashes := withKept_t rfl (withTrue_t rfl header_hashes_t0)
theorem header_hashes_runs {v0 : Value} {h : Heap} {R : RP} {X : XP} (k : RunC Try.prog T0 header_hashes_c ⟨[v0, undef, undef, undef, undef, undef, undef, undef, undef, undef, undef, undef, undef, undef, undef, undef], [], h, none⟩ (bodyQ Try.prog T0 [(2, some (some 4))] R X)) :
    Runs Try.prog T0 (.fn 33) [v0] h R X := Runs.fn header_hashes_t rfl k


/-! 34 (*landfall/wire.Reader).Hash -/
abbrev fn_wire_Reader_Hash : FuncId := 34
noncomputable def wire_Reader_Hash_c : ACode :=
  (.seq (.region [
      ⟨(some 1), .box 51 (.tmp 0), none, [], false⟩,
      ⟨(some 2), .alloc 26 z32, none, [], false⟩]) (.seq (.region [
      ⟨(some 3), .load none (.tmp 1), none, [], false⟩,
      ⟨(some 4), .mkFunc (.func 59) [] [(.tmp 1)], none, [], false⟩,
      ⟨(some 5), .callV (.func 58) [(.tmp 3), (.tmp 4)], none, [], false⟩,
      ⟨none, .store 32 (.tmp 2) (.tmp 5), none, [], false⟩]) .ret))
noncomputable def wire_Reader_Hash : AFunc := ⟨6, [(2, some (some 32))], wire_Reader_Hash_c, none⟩
theorem wire_Reader_Hash_t0 : tableOf Try.prog 34 = some wire_Reader_Hash := by kernel_rfl
theorem wire_Reader_Hash_t : T0 34 = some wire_Reader_Hash := withKept_t rfl (withTrue_t rfl wire_Reader_Hash_t0)
theorem wire_Reader_Hash_runs {v0 : Value} {h : Heap} {R : RP} {X : XP} (k : RunC Try.prog T0 wire_Reader_Hash_c ⟨[v0, undef, undef, undef, undef, undef], [], h, none⟩ (bodyQ Try.prog T0 [(2, some (some 32))] R X)) :
    Runs Try.prog T0 (.fn 34) [v0] h R X := Runs.fn wire_Reader_Hash_t rfl k


/-! 35 (*landfall/wire.Reader).End -/
abbrev fn_wire_Reader_End : FuncId := 35
noncomputable def wire_Reader_End_c : ACode :=
  (.seq (.region [
      ⟨(some 2), .alloc 31 [(.int .i64 0), (.int .i64 0)], none, [], false⟩]) (.seq (.block 0 (.seq (.region [
      ⟨(some 4), .mov (.tmp 0), none, [], false⟩,
      ⟨(some 5), .eq .ptr false (so (.binOp .eql 51 (.tmp 4) (.const (.pointer none)) 51) 4) (.tmp 4) (.const (.pointer none)), none, [], false⟩,
      ⟨(some 6), .mov (.tmp 5), none, [], false⟩,
      ⟨(some 7), .mov (.tmp 0), (some (6, false)), [], false⟩,
      ⟨(some 8), .nilCheck (.tmp 7), (some (6, false)), [], false⟩,
      ⟨(some 9), .fieldAddr 4 (.tmp 8), (some (6, false)), [], false⟩,
      ⟨(some 10), .load none (.tmp 9), (some (6, false)), [], false⟩,
      ⟨(some 11), .raw (so (.unOp .not 4 (.tmp 10)) 4), (some (6, false)), [], false⟩,
      ⟨(some 12), .pick (.tmp 6) (.const (.bool true)) (.tmp 11), none, [], false⟩,
      ⟨(some 3), .mov (.tmp 12), none, [], false⟩]) (.cond (.tmp 3)
    (.seq (.region [
      ⟨(some 13), .build [(.int .i64 0), (.int .i64 0)] [(0, 1, (.const (.int .i64 1)))], none, [], false⟩,
      ⟨none, .store 2 (.tmp 2) (.tmp 13), none, [], false⟩]) .ret)
    (.seq (.regionD [
      ⟨(some 15), .mov (.tmp 0), none, [], true⟩,
      ⟨(some 16), .nilCheck (.tmp 15), none, [], true⟩,
      ⟨(some 17), .fieldAddr 2 (.tmp 16), none, [], true⟩,
      ⟨(some 18), .fieldAddr 0 (.tmp 17), none, [], true⟩,
      ⟨(some 19), .load none (.tmp 18), none, [], true⟩,
      ⟨(some 20), .bin .eql (so (.binOp .eql 29 (.tmp 19) (.const (.int .i64 0)) 29) 4) (.tmp 19) (.const (.int .i64 0)), none, [], true⟩,
      ⟨(some 21), .mov (.tmp 20), none, [], true⟩,
      ⟨(some 22), .mov (.tmp 0), (some (21, true)), [], false⟩,
      ⟨(some 23), .nilCheck (.tmp 22), (some (21, true)), [], false⟩,
      ⟨(some 24), .fieldAddr 1 (.tmp 23), (some (21, true)), [], false⟩,
      ⟨(some 25), .load none (.tmp 24), (some (21, true)), [], false⟩,
      ⟨(some 26), .mov (.tmp 0), (some (21, true)), [], false⟩,
      ⟨(some 27), .nilCheck (.tmp 26), (some (21, true)), [], false⟩,
      ⟨(some 28), .fieldAddr 0 (.tmp 27), (some (21, true)), [], false⟩,
      ⟨(some 29), .load none (.tmp 28), (some (21, true)), [], false⟩,
      ⟨(some 30), .lenSl (.tmp 29), (some (21, true)), [], false⟩,
      ⟨(some 31), .bin .lss (so (.binOp .lss 3 (.tmp 25) (.tmp 30) 3) 4) (.tmp 25) (.tmp 30), (some (21, true)), [], true⟩,
      ⟨(some 32), .pick (.tmp 21) (.tmp 31) (.const (.bool false)), none, [], true⟩,
      ⟨(some 14), .mov (.tmp 32), none, [], true⟩]) (.cond (.tmp 14)
    (.seq (.region [
      ⟨(some 33), .mov (.tmp 0), none, [], false⟩,
      ⟨(some 34), .nilCheck (.tmp 33), none, [], false⟩,
      ⟨(some 35), .fieldAddr 1 (.tmp 34), none, [], false⟩,
      ⟨(some 36), .load none (.tmp 35), none, [], false⟩,
      ⟨(some 37), .build [(.int .i64 0), (.int .i64 0)] [(0, 1, (.const (.int .i64 4))), (1, 1, (.tmp 36))], none, [], false⟩,
      ⟨none, .store 2 (.tmp 2) (.tmp 37), none, [], false⟩]) .ret)
    .skip))))) (.seq (.region [
      ⟨(some 38), .mov (.tmp 0), none, [], false⟩,
      ⟨(some 39), .nilCheck (.tmp 38), none, [], false⟩,
      ⟨(some 40), .fieldAddr 2 (.tmp 39), none, [], false⟩,
      ⟨(some 41), .load (some 2) (.tmp 40), none, [], false⟩,
      ⟨none, .store 2 (.tmp 2) (.tmp 41), none, [], false⟩]) .ret)))
noncomputable def wire_Reader_End : AFunc := ⟨42, [(2, some (some 2))], wire_Reader_End_c, none⟩
theorem wire_Reader_End_t0 : tableOf Try.prog 35 = some wire_Reader_End := by kernel_rfl
theorem wire_Reader_End_t : T0 35 = some wire_Reader_End := withKept_t rfl (withTrue_t rfl wire_Reader_End_t0)
theorem wire_Reader_End_runs {v0 : Value} {h : Heap} {R : RP} {X : XP} (k : RunC Try.prog T0 wire_Reader_End_c ⟨[v0, undef, undef, undef, undef, undef, undef, undef, undef, undef, undef, undef, undef, undef, undef, undef, undef, undef, undef, undef, undef, undef, undef, undef, undef, undef, undef, undef, undef, undef, undef, undef, undef, undef, undef, undef, undef, undef, undef, undef, undef, undef], [], h, none⟩ (bodyQ Try.prog T0 [(2, some (some 2))] R X)) :
    Runs Try.prog T0 (.fn 35) [v0] h R X := Runs.fn wire_Reader_End_t rfl k


/-! 36 landfall/landfallref04.NewReader -/
abbrev fn_landfallref04_NewReader : FuncId := 36
noncomputable def landfallref04_NewReader_c : ACode :=
  (.seq (.region [
      ⟨(some 2), .mov (.const (.pointer none)), none, [], false⟩]) (.seq (.region [
      ⟨(some 3), .buildSlice 5 [] 0 [], none, [], false⟩,
      ⟨(some 4), .mov (.tmp 0), none, [], false⟩,
      ⟨(some 5), .append 5 1 1 [(.int .u8 0)] false (.tmp 3) (.tmp 4), none, [], false⟩,
      ⟨(some 6), .build [(.slice none 0 0), (.int .i64 0), (.int .i64 0), (.int .i64 0)] [(0, 1, (.tmp 5))], none, [], false⟩,
      ⟨(some 7), .box 94 (.tmp 6), none, [], false⟩,
      ⟨(some 2), .mov (.tmp 7), none, [], false⟩]) .ret))
noncomputable def landfallref04_NewReader : AFunc := ⟨8, [(2, none)], landfallref04_NewReader_c, none⟩
theorem landfallref04_NewReader_t0 : tableOf Try.prog 36 = some landfallref04_NewReader := by kernel_rfl
theorem landfallref04_NewReader_t : T0 36 = some landfallref04_NewReader := withKept_t rfl (withTrue_t rfl landfallref04_NewReader_t0)
theorem landfallref04_NewReader_runs {v0 : Value} {h : Heap} {R : RP} {X : XP} (k : RunC Try.prog T0 landfallref04_NewReader_c ⟨[v0, undef, undef, undef, undef, undef, undef, undef], [], h, none⟩ (bodyQ Try.prog T0 [(2, none)] R X)) :
    Runs Try.prog T0 (.fn 36) [v0] h R X := Runs.fn landfallref04_NewReader_t rfl k


/-! 37 landfall/landfallref06.Get -/
abbrev fn_landfallref06_Get : FuncId := 37
noncomputable def landfallref06_Get_c : ACode :=
  (.seq (.region [
      ⟨(some 2), .alloc 28 ((.string ⟨⟨[]⟩⟩) :: ((.int .i64 0) :: ((.int .i64 0) :: (z32 ++ (z32 ++ (z32 ++ z32)))))), none, [], false⟩]) (.seq (.region [
      ⟨(some 3), .alloc 28 ((.string ⟨⟨[]⟩⟩) :: ((.int .i64 0) :: ((.int .i64 0) :: (z32 ++ (z32 ++ (z32 ++ z32)))))), none, [], false⟩]) (.seq (.region [
      ⟨(some 4), .mov (.tmp 0), none, [], false⟩,
      ⟨(some 5), .callV (.func 62) [(.tmp 4), (.const (.int .i64 32))], none, [], false⟩,
      ⟨(some 6), .fieldAddr 0 (.tmp 3), none, [], false⟩,
      ⟨none, .store 1 (.tmp 6) (.tmp 5), none, [], false⟩]) (.seq (.region [
      ⟨(some 7), .mov (.tmp 0), none, [], false⟩,
      ⟨(some 8), .callV (.func 63) [(.tmp 7)], none, [], false⟩,
      ⟨(some 9), .fieldAddr 1 (.tmp 3), none, [], false⟩,
      ⟨none, .store 1 (.tmp 9) (.tmp 8), none, [], false⟩]) (.seq (.region [
      ⟨(some 10), .mov (.tmp 0), none, [], false⟩,
      ⟨(some 11), .callV (.func 63) [(.tmp 10)], none, [], false⟩,
      ⟨(some 12), .fieldAddr 2 (.tmp 3), none, [], false⟩,
      ⟨none, .store 1 (.tmp 12) (.tmp 11), none, [], false⟩]) (.seq (.region [
      ⟨(some 13), .mov (.tmp 0), none, [], false⟩,
      ⟨(some 14), .callV (.func 64) [(.tmp 13)], none, [], false⟩,
      ⟨(some 15), .fieldAddr 3 (.tmp 3), none, [], false⟩,
      ⟨none, .store 32 (.tmp 15) (.tmp 14), none, [], false⟩]) (.seq (.region [
      ⟨(some 16), .mov (.tmp 0), none, [], false⟩,
      ⟨(some 17), .callV (.func 64) [(.tmp 16)], none, [], false⟩,
      ⟨(some 18), .fieldAddr 35 (.tmp 3), none, [], false⟩,
      ⟨none, .store 32 (.tmp 18) (.tmp 17), none, [], false⟩]) (.seq (.region [
      ⟨(some 19), .mov (.tmp 0), none, [], false⟩,
      ⟨(some 20), .callV (.func 64) [(.tmp 19)], none, [], false⟩,
      ⟨(some 21), .fieldAddr 67 (.tmp 3), none, [], false⟩,
      ⟨none, .store 32 (.tmp 21) (.tmp 20), none, [], false⟩]) (.seq (.region [
      ⟨(some 22), .mov (.tmp 0), none, [], false⟩,
      ⟨(some 23), .callV (.func 64) [(.tmp 22)], none, [], false⟩,
      ⟨(some 24), .fieldAddr 99 (.tmp 3), none, [], false⟩,
      ⟨none, .store 32 (.tmp 24) (.tmp 23), none, [], false⟩]) (.seq (.region [
      ⟨(some 25), .load (some 131) (.tmp 3), none, [], false⟩,
      ⟨none, .store 131 (.tmp 2) (.tmp 25), none, [], false⟩]) .ret))))))))))
noncomputable def landfallref06_Get : AFunc := ⟨26, [(2, some (some 131))], landfallref06_Get_c, none⟩
theorem landfallref06_Get_t0 : tableOf Try.prog 37 = some landfallref06_Get := by kernel_rfl
theorem landfallref06_Get_t : T0 37 = some landfallref06_Get := withKept_t rfl (withTrue_t rfl landfallref06_Get_t0)
theorem landfallref06_Get_runs {v0 : Value} {h : Heap} {R : RP} {X : XP} (k : RunC Try.prog T0 landfallref06_Get_c ⟨[v0, undef, undef, undef, undef, undef, undef, undef, undef, undef, undef, undef, undef, undef, undef, undef, undef, undef, undef, undef, undef, undef, undef, undef, undef, undef], [], h, none⟩ (bodyQ Try.prog T0 [(2, some (some 131))] R X)) :
    Runs Try.prog T0 (.fn 37) [v0] h R X := Runs.fn landfallref06_Get_t rfl k


/-! 38 (*landfall/landfallref04.Reader).End -/
abbrev fn_landfallref04_Reader_End : FuncId := 38
noncomputable def landfallref04_Reader_End_c : ACode :=
  (.seq (.region [
      ⟨(some 2), .alloc 31 [(.int .i64 0), (.int .i64 0)], none, [], false⟩]) (.seq (.seq (.regionD [
      ⟨(some 3), .mov (.tmp 0), none, [], true⟩,
      ⟨(some 4), .nilCheck (.tmp 3), none, [], true⟩,
      ⟨(some 5), .fieldAddr 2 (.tmp 4), none, [], true⟩,
      ⟨(some 6), .fieldAddr 0 (.tmp 5), none, [], true⟩,
      ⟨(some 7), .load none (.tmp 6), none, [], true⟩,
      ⟨(some 8), .bin .eql (so (.binOp .eql 29 (.tmp 7) (.const (.int .i64 0)) 29) 4) (.tmp 7) (.const (.int .i64 0)), none, [], true⟩,
      ⟨(some 9), .mov (.tmp 8), none, [], true⟩,
      ⟨(some 10), .mov (.tmp 0), (some (9, true)), [], false⟩,
      ⟨(some 11), .nilCheck (.tmp 10), (some (9, true)), [], false⟩,
      ⟨(some 12), .fieldAddr 1 (.tmp 11), (some (9, true)), [], false⟩,
      ⟨(some 13), .load none (.tmp 12), (some (9, true)), [], false⟩,
      ⟨(some 14), .mov (.tmp 0), (some (9, true)), [], false⟩,
      ⟨(some 15), .nilCheck (.tmp 14), (some (9, true)), [], false⟩,
      ⟨(some 16), .fieldAddr 0 (.tmp 15), (some (9, true)), [], false⟩,
      ⟨(some 17), .load none (.tmp 16), (some (9, true)), [], false⟩,
      ⟨(some 18), .lenSl (.tmp 17), (some (9, true)), [], false⟩,
      ⟨(some 19), .bin .lss (so (.binOp .lss 3 (.tmp 13) (.tmp 18) 3) 4) (.tmp 13) (.tmp 18), (some (9, true)), [], true⟩,
      ⟨(some 20), .pick (.tmp 9) (.tmp 19) (.const (.bool false)), none, [], true⟩]) (.cond (.tmp 20)
    (.seq (.region [
      ⟨(some 21), .mov (.tmp 0), none, [], false⟩,
      ⟨(some 22), .nilCheck (.tmp 21), none, [], false⟩,
      ⟨(some 23), .fieldAddr 1 (.tmp 22), none, [], false⟩,
      ⟨(some 24), .load none (.tmp 23), none, [], false⟩,
      ⟨(some 25), .build [(.int .i64 0), (.int .i64 0)] [(0, 1, (.const (.int .i64 4))), (1, 1, (.tmp 24))], none, [], false⟩,
      ⟨none, .store 2 (.tmp 2) (.tmp 25), none, [], false⟩]) .ret)
    .skip)) (.seq (.region [
      ⟨(some 26), .mov (.tmp 0), none, [], false⟩,
      ⟨(some 27), .nilCheck (.tmp 26), none, [], false⟩,
      ⟨(some 28), .fieldAddr 2 (.tmp 27), none, [], false⟩,
      ⟨(some 29), .load (some 2) (.tmp 28), none, [], false⟩,
      ⟨none, .store 2 (.tmp 2) (.tmp 29), none, [], false⟩]) .ret)))
noncomputable def landfallref04_Reader_End : AFunc := ⟨30, [(2, some (some 2))], landfallref04_Reader_End_c, none⟩
theorem landfallref04_Reader_End_t0 : tableOf Try.prog 38 = some landfallref04_Reader_End := by kernel_rfl
theorem landfallref04_Reader_End_t : T0 38 = some landfallref04_Reader_End := withKept_t rfl (withTrue_t rfl landfallref04_Reader_End_t0)
theorem landfallref04_Reader_End_runs {v0 : Value} {h : Heap} {R : RP} {X : XP} (k : RunC Try.prog T0 landfallref04_Reader_End_c ⟨[v0, undef, undef, undef, undef, undef, undef, undef, undef, undef, undef, undef, undef, undef, undef, undef, undef, undef, undef, undef, undef, undef, undef, undef, undef, undef, undef, undef, undef, undef], [], h, none⟩ (bodyQ Try.prog T0 [(2, some (some 2))] R X)) :
    Runs Try.prog T0 (.fn 38) [v0] h R X := Runs.fn landfallref04_Reader_End_t rfl k


/-! 44 landfall/header.each -/
abbrev fn_header_each : FuncId := 44
noncomputable def header_each_l0 : ACode :=
  (.seq (.region [
      ⟨(some 9), .nextStr (.tmp 8), none, [], false⟩,
      ⟨(some 10), .extract 0 (.tmp 9), none, [], false⟩]) (.seq (.cond (.tmp 10)
    .skip
    (.exit 0)) (.block 1 (.seq (.region [
      ⟨(some 11), .extract 2 (.tmp 9), none, [], false⟩,
      ⟨(some 6), .mov (.tmp 11), none, [], false⟩]) (.seq (.region [
      ⟨(some 12), .mov (.tmp 1), none, [], false⟩,
      ⟨(some 13), .mov (.tmp 6), none, [], false⟩,
      ⟨(some 14), .callV (.tmp 12) [(.tmp 13)], none, [], false⟩,
      ⟨(some 15), .raw (so (.unOp .not 4 (.tmp 14)) 4), none, [], false⟩]) (.cond (.tmp 15)
    (.seq (.region [
      ⟨(some 4), .mov (.const (.bool false)), none, [], false⟩]) .ret)
    .skip))))))
noncomputable def header_each_c : ACode :=
  (.seq (.region [
      ⟨(some 4), .mov (.const (.bool false)), none, [], false⟩]) (.seq (.seq (.region [
      ⟨(some 7), .mov (.tmp 0), none, [], false⟩,
      ⟨(some 8), .rangeStr (.tmp 7), none, [], false⟩]) (.block 0 (.loop header_each_l0))) (.seq (.region [
      ⟨(some 4), .mov (.const (.bool true)), none, [], false⟩]) .ret)))
noncomputable def header_each : AFunc := ⟨16, [(4, none)], header_each_c, none⟩
theorem header_each_t0 : tableOf Try.prog 44 = some header_each := by kernel_rfl
theorem header_each_t : T0 44 = some header_each := withKept_t rfl (withTrue_t rfl header_each_t0)
theorem header_each_runs {v0 v1 : Value} {h : Heap} {R : RP} {X : XP} (k : RunC Try.prog T0 header_each_c ⟨[v0, v1, undef, undef, undef, undef, undef, undef, undef, undef, undef, undef, undef, undef, undef, undef], [], h, none⟩ (bodyQ Try.prog T0 [(4, none)] R X)) :
    Runs Try.prog T0 (.fn 44) [v0, v1] h R X := Runs.fn header_each_t rfl k
/-- the slots that turn in the loop:  -/
noncomputable def header_each_l0_J (f0 f1 f2 f3 f5 f7 f8 : Value) (ds : List Deferred) (rd : Option Nat) (I : Nat → Heap → Prop) (m : Nat) (s : St) : Prop := ∃ h : Heap, ∃ (x4 x6 x9 x10 x11 x12 x13 x14 x15 : Value), s = ⟨[f0, f1, f2, f3, x4, f5, x6, f7, f8, x9, x10, x11, x12, x13, x14, x15], ds, h, rd⟩ ∧ I m  h
theorem header_each_l0_rule {f0 f1 f2 f3 f5 f7 f8 : Value} {ds : List Deferred} {rd : Option Nat} {Q : QP} (I : Nat → Heap → Prop) (hb : ∀ (m : Nat) (h : Heap) (x4 x6 x9 x10 x11 x12 x13 x14 x15 : Value) , I m  h → RunC Try.prog T0 header_each_l0 ⟨[f0, f1, f2, f3, x4, f5, x6, f7, f8, x9, x10, x11, x12, x13, x14, x15], ds, h, rd⟩ (loopQ (header_each_l0_J f0 f1 f2 f3 f5 f7 f8 ds rd I) m Q))
    (m : Nat) {v : Value} {h : Heap} {x4 x6 x9 x10 x11 x12 x13 x14 x15 : Value} (hi : I m  h) : RunC Try.prog T0 (.loop header_each_l0) ⟨[f0, f1, f2, f3, x4, f5, x6, f7, f8, x9, x10, x11, x12, x13, x14, x15], ds, h, rd⟩ Q :=
  RunC.loopJ (header_each_l0_J f0 f1 f2 f3 f5 f7 f8 ds rd I) (fun m s hj => by obtain ⟨h, x4, x6, x9, x10, x11, x12, x13, x14, x15, rfl, hi⟩ := hj; exact hb m  h x4 x6 x9 x10 x11 x12 x13 x14 x15 hi) m _ ⟨h, _, _, _, _, _, _, _, _, _, rfl, hi⟩
theorem header_each_l0_again {f0 f1 f2 f3 f5 f7 f8 : Value} {ds : List Deferred} {rd : Option Nat} {Q : QP} {I : Nat → Heap → Prop} {m : Nat} (m' : Nat) {v : Value} {h : Heap} {x4 x6 x9 x10 x11 x12 x13 x14 x15 : Value} (hm : m' < m) (hi : I m'  h) : loopQ (header_each_l0_J f0 f1 f2 f3 f5 f7 f8 ds rd I) m Q .normal ⟨[f0, f1, f2, f3, x4, f5, x6, f7, f8, x9, x10, x11, x12, x13, x14, x15], ds, h, rd⟩ :=
  loopQ.again m' hm ⟨h, _, _, _, _, _, _, _, _, _, rfl, hi⟩

/-! 45 landfall/header.plain -/
abbrev fn_header_plain : FuncId := 45
noncomputable def header_plain_c : ACode :=
  (.seq (.region [
      ⟨(some 2), .mov (.const (.bool false)), none, [], false⟩]) (.seq (.region [
      ⟨(some 3), .mov (.tmp 0), none, [], false⟩,
      ⟨(some 4), .bin .geq (so (.binOp .geq 21 (.tmp 3) (.const (.int .i32 97)) 21) 4) (.tmp 3) (.const (.int .i32 97)), none, [], false⟩,
      ⟨(some 5), .mov (.tmp 4), none, [], false⟩,
      ⟨(some 6), .mov (.tmp 0), (some (5, true)), [], false⟩,
      ⟨(some 7), .bin .leq (so (.binOp .leq 21 (.tmp 6) (.const (.int .i32 122)) 21) 4) (.tmp 6) (.const (.int .i32 122)), (some (5, true)), [], false⟩,
      ⟨(some 8), .pick (.tmp 5) (.tmp 7) (.const (.bool false)), none, [], false⟩,
      ⟨(some 9), .mov (.tmp 8), none, [], false⟩,
      ⟨(some 10), .mov (.tmp 0), (some (9, false)), [], false⟩,
      ⟨(some 11), .bin .geq (so (.binOp .geq 21 (.tmp 10) (.const (.int .i32 48)) 21) 4) (.tmp 10) (.const (.int .i32 48)), (some (9, false)), [], false⟩,
      ⟨(some 12), .mov (.tmp 11), (some (9, false)), [], false⟩,
      ⟨(some 13), .mov (.tmp 0), (some (12, true)), [], false⟩,
      ⟨(some 14), .bin .leq (so (.binOp .leq 21 (.tmp 13) (.const (.int .i32 57)) 21) 4) (.tmp 13) (.const (.int .i32 57)), (some (12, true)), [], false⟩,
      ⟨(some 15), .pick (.tmp 12) (.tmp 14) (.const (.bool false)), (some (9, false)), [], false⟩,
      ⟨(some 16), .pick (.tmp 9) (.const (.bool true)) (.tmp 15), none, [], false⟩,
      ⟨(some 17), .mov (.tmp 16), none, [], false⟩,
      ⟨(some 18), .mov (.tmp 0), (some (17, false)), [], false⟩,
      ⟨(some 19), .bin .eql (so (.binOp .eql 21 (.tmp 18) (.const (.int .i32 45)) 21) 4) (.tmp 18) (.const (.int .i32 45)), (some (17, false)), [], false⟩,
      ⟨(some 20), .pick (.tmp 17) (.const (.bool true)) (.tmp 19), none, [], false⟩,
      ⟨(some 2), .mov (.tmp 20), none, [], false⟩]) .ret))
noncomputable def header_plain : AFunc := ⟨21, [(2, none)], header_plain_c, none⟩
theorem header_plain_t0 : tableOf Try.prog 45 = some header_plain := by kernel_rfl
theorem header_plain_t : T0 45 = some header_plain := withKept_t rfl (withTrue_t rfl header_plain_t0)
theorem header_plain_runs {v0 : Value} {h : Heap} {R : RP} {X : XP} (k : RunC Try.prog T0 header_plain_c ⟨[v0, undef, undef, undef, undef, undef, undef, undef, undef, undef, undef, undef, undef, undef, undef, undef, undef, undef, undef, undef, undef], [], h, none⟩ (bodyQ Try.prog T0 [(2, none)] R X)) :
    Runs Try.prog T0 (.fn 45) [v0] h R X := Runs.fn header_plain_t rfl k


/-! 46 landfall/header.rules -/
abbrev fn_header_rules : FuncId := 46
noncomputable def header_rules_c : ACode :=
  (.seq (.region [
      ⟨(some 0), .mov (.const (.slice none 0 0)), none, [], false⟩]) (.seq (.region [
      ⟨(some 1), .build [.nilFunc, (.int .i64 0)] [(0, 1, (.func 68)), (1, 1, (.const (.int .i64 5)))], none, [], false⟩,
      ⟨(some 2), .build [.nilFunc, (.int .i64 0)] [(0, 1, (.func 69)), (1, 1, (.const (.int .i64 3)))], none, [], false⟩,
      ⟨(some 3), .build [.nilFunc, (.int .i64 0)] [(0, 1, (.func 70)), (1, 1, (.const (.int .i64 3)))], none, [], false⟩,
      ⟨(some 4), .buildSlice 76 [.nilFunc, (.int .i64 0), .nilFunc, (.int .i64 0), .nilFunc, (.int .i64 0)] 3 [(0, 2, (.tmp 1)), (2, 2, (.tmp 2)), (4, 2, (.tmp 3))], none, [], false⟩,
      ⟨(some 0), .mov (.tmp 4), none, [], false⟩]) .ret))
noncomputable def header_rules : AFunc := ⟨5, [(0, none)], header_rules_c, none⟩
theorem header_rules_t0 : tableOf Try.prog 46 = some header_rules := by kernel_rfl
theorem header_rules_t : T0 46 = some header_rules := withKept_t rfl (withTrue_t rfl header_rules_t0)
theorem header_rules_runs {v : Value} {h : Heap} {R : RP} {X : XP} (k : RunC Try.prog T0 header_rules_c ⟨[undef, undef, undef, undef, undef], [], h, none⟩ (bodyQ Try.prog T0 [(0, none)] R X)) :
    Runs Try.prog T0 (.fn 46) [] h R X := Runs.fn header_rules_t rfl k


/-! 54 slices.Clone[[]byte,byte] -/
abbrev fn_slices_Clone___byte_byte_ : FuncId := 54
noncomputable def slices_Clone___byte_byte__c : ACode :=
  (.seq (.region [
      ⟨(some 2), .mov (.const (.slice none 0 0)), none, [], false⟩]) (.seq (.seq (.region [
      ⟨(some 3), .mov (.tmp 0), none, [], false⟩,
      ⟨(some 4), .eq .slice false (so (.binOp .eql 22 (.tmp 3) (.const (.slice none 0 0)) 22) 4) (.tmp 3) (.const (.slice none 0 0)), none, [], false⟩]) (.cond (.tmp 4)
    (.seq (.region [
      ⟨(some 2), .mov (.const (.slice none 0 0)), none, [], false⟩]) .ret)
    .skip)) (.seq (.region [
      ⟨(some 5), .buildSlice 5 [] 0 [], none, [], false⟩,
      ⟨(some 6), .mov (.tmp 0), none, [], false⟩,
      ⟨(some 7), .append 5 1 1 [(.int .u8 0)] false (.tmp 5) (.tmp 6), none, [], false⟩,
      ⟨(some 2), .mov (.tmp 7), none, [], false⟩]) .ret)))
noncomputable def slices_Clone___byte_byte_ : AFunc := ⟨8, [(2, none)], slices_Clone___byte_byte__c, none⟩
theorem slices_Clone___byte_byte__t0 : tableOf Try.prog 54 = some slices_Clone___byte_byte_ := by kernel_rfl
theorem slices_Clone___byte_byte__t : T0 54 = some slices_Clone___byte_byte_ := withKept_t rfl (withTrue_t rfl slices_Clone___byte_byte__t0)
theorem slices_Clone___byte_byte__runs {v0 : Value} {h : Heap} {R : RP} {X : XP} (k : RunC Try.prog T0 slices_Clone___byte_byte__c ⟨[v0, undef, undef, undef, undef, undef, undef, undef], [], h, none⟩ (bodyQ Try.prog T0 [(2, none)] R X)) :
    Runs Try.prog T0 (.fn 54) [v0] h R X := Runs.fn slices_Clone___byte_byte__t rfl k


/-! 55 (*landfall/wire.Reader).Bytes -/
abbrev fn_wire_Reader_Bytes : FuncId := 55
noncomputable def wire_Reader_Bytes_c : ACode :=
  (.seq (.region [
      ⟨(some 2), .box 51 (.tmp 0), none, [], false⟩,
      ⟨(some 3), .box 3 (.tmp 1), none, [], false⟩,
      ⟨(some 4), .mov (.const (.slice none 0 0)), none, [], false⟩]) (.seq (.region [
      ⟨(some 5), .load none (.tmp 2), none, [], false⟩,
      ⟨(some 6), .mkFunc (.func 82) [] [(.tmp 2), (.tmp 3)], none, [], false⟩,
      ⟨(some 7), .callV (.func 81) [(.tmp 5), (.tmp 6)], none, [], false⟩,
      ⟨(some 4), .mov (.tmp 7), none, [], false⟩]) .ret))
noncomputable def wire_Reader_Bytes : AFunc := ⟨8, [(4, none)], wire_Reader_Bytes_c, none⟩
theorem wire_Reader_Bytes_t0 : tableOf Try.prog 55 = some wire_Reader_Bytes := by kernel_rfl
theorem wire_Reader_Bytes_t : T0 55 = some wire_Reader_Bytes := withKept_t rfl (withTrue_t rfl wire_Reader_Bytes_t0)
theorem wire_Reader_Bytes_runs {v0 v1 : Value} {h : Heap} {R : RP} {X : XP} (k : RunC Try.prog T0 wire_Reader_Bytes_c ⟨[v0, v1, undef, undef, undef, undef, undef, undef], [], h, none⟩ (bodyQ Try.prog T0 [(4, none)] R X)) :
    Runs Try.prog T0 (.fn 55) [v0, v1] h R X := Runs.fn wire_Reader_Bytes_t rfl k


/-! 56 landfall/wire.reads[int] -/
abbrev fn_wire_reads_int_ : FuncId := 56
noncomputable def wire_reads_int__c : ACode :=
  (.seq (.region [
      ⟨(some 4), .mov (.const (.int .i64 0)), none, [], false⟩]) (.seq (.seq (.region [
      ⟨(some 5), .mov (.tmp 0), none, [], false⟩,
      ⟨(some 6), .eq .ptr false (so (.binOp .eql 51 (.tmp 5) (.const (.pointer none)) 51) 4) (.tmp 5) (.const (.pointer none)), none, [], false⟩,
      ⟨(some 7), .mov (.tmp 6), none, [], false⟩,
      ⟨(some 8), .mov (.tmp 0), (some (7, false)), [], false⟩,
      ⟨(some 9), .nilCheck (.tmp 8), (some (7, false)), [], false⟩,
      ⟨(some 10), .fieldAddr 4 (.tmp 9), (some (7, false)), [], false⟩,
      ⟨(some 11), .load none (.tmp 10), (some (7, false)), [], false⟩,
      ⟨(some 12), .raw (so (.unOp .not 4 (.tmp 11)) 4), (some (7, false)), [], false⟩,
      ⟨(some 13), .pick (.tmp 7) (.const (.bool true)) (.tmp 12), none, [], false⟩,
      ⟨(some 14), .mov (.tmp 13), none, [], false⟩,
      ⟨(some 15), .mov (.tmp 0), (some (14, false)), [], false⟩,
      ⟨(some 16), .nilCheck (.tmp 15), (some (14, false)), [], false⟩,
      ⟨(some 17), .fieldAddr 2 (.tmp 16), (some (14, false)), [], false⟩,
      ⟨(some 18), .fieldAddr 0 (.tmp 17), (some (14, false)), [], false⟩,
      ⟨(some 19), .load none (.tmp 18), (some (14, false)), [], false⟩,
      ⟨(some 20), .bin .neq (so (.binOp .neq 29 (.tmp 19) (.const (.int .i64 0)) 29) 4) (.tmp 19) (.const (.int .i64 0)), (some (14, false)), [], false⟩,
      ⟨(some 21), .pick (.tmp 14) (.const (.bool true)) (.tmp 20), none, [], false⟩]) (.cond (.tmp 21)
    (.seq (.region [
      ⟨(some 22), .mov (.tmp 4), none, [], false⟩,
      ⟨(some 4), .mov (.tmp 22), none, [], false⟩]) .ret)
    .skip)) (.seq (.region [
      ⟨(some 23), .mov (.tmp 0), none, [], false⟩,
      ⟨none, .defer (.func 85) [(.tmp 23)], none, [], false⟩]) (.seq (.region [
      ⟨(some 24), .mov (.tmp 1), none, [], false⟩,
      ⟨(some 25), .mov (.tmp 0), none, [], false⟩,
      ⟨(some 26), .nilCheck (.tmp 25), none, [], false⟩,
      ⟨(some 27), .fieldAddr 1 (.tmp 26), none, [], false⟩,
      ⟨(some 28), .load none (.tmp 27), none, [], false⟩,
      ⟨(some 29), .callV (.tmp 24) [(.tmp 28)], none, [], false⟩,
      ⟨(some 4), .mov (.tmp 29), none, [], false⟩]) .ret))))
noncomputable def wire_reads_int_ : AFunc := ⟨30, [(4, none)], wire_reads_int__c, none⟩
theorem wire_reads_int__t0 : tableOf Try.prog 56 = some wire_reads_int_ := by kernel_rfl
theorem wire_reads_int__t : T0 56 = some wire_reads_int_ := withKept_t rfl (withTrue_t rfl wire_reads_int__t0)
theorem wire_reads_int__runs {v0 v1 : Value} {h : Heap} {R : RP} {X : XP} (k : RunC Try.prog T0 wire_reads_int__c ⟨[v0, v1, undef, undef, undef, undef, undef, undef, undef, undef, undef, undef, undef, undef, undef, undef, undef, undef, undef, undef, undef, undef, undef, undef, undef, undef, undef, undef, undef, undef], [], h, none⟩ (bodyQ Try.prog T0 [(4, none)] R X)) :
    Runs Try.prog T0 (.fn 56) [v0, v1] h R X := Runs.fn wire_reads_int__t rfl k


/-! 57 (*landfall/wire.Reader).num -/
abbrev fn_wire_Reader_num : FuncId := 57
noncomputable def wire_Reader_num_c : ACode :=
  (.seq (.region [
      ⟨(some 4), .mov (.const (.int .i64 0)), none, [], false⟩]) (.seq (.region [
      ⟨(some 8), .mov (.tmp 0), none, [], false⟩,
      ⟨(some 9), .mov (.tmp 1), none, [], false⟩,
      ⟨(some 10), .callV (.func 86) [(.tmp 8), (.const (.int .i64 1)), (.tmp 9), (.func 87)], none, [], false⟩,
      ⟨(some 11), .conv .i64 (so (.convert 117 3 (.tmp 10)) 3) (.tmp 10), none, [], false⟩,
      ⟨(some 5), .alloc 3 [(.int .i64 0)], none, [], false⟩,
      ⟨none, .store 1 (.tmp 5) (.tmp 11), none, [], false⟩]) (.seq (.region [
      ⟨(some 12), .load none (.tmp 5), none, [], false⟩,
      ⟨(some 13), .bin .leq (so (.binOp .leq 3 (.tmp 12) (.const (.int .i64 8)) 3) 4) (.tmp 12) (.const (.int .i64 8)), none, [], false⟩,
      ⟨(some 14), .mov (.tmp 1), none, [], false⟩,
      ⟨(some 15), .callV (.func 83) [(.tmp 13), (.const (.int .i64 5)), (.tmp 14)], none, [], false⟩]) (.seq (.region [
      ⟨(some 6), .alloc 5 [(.int .u8 0)], none, [], false⟩,
      ⟨none, .store 1 (.tmp 6) (.const (.int .u8 1)), none, [], false⟩]) (.seq (.region [
      ⟨(some 16), .mov (.tmp 0), none, [], false⟩,
      ⟨(some 17), .load none (.tmp 5), none, [], false⟩,
      ⟨(some 18), .mov (.tmp 1), none, [], false⟩,
      ⟨(some 19), .mkFunc (.func 88) [] [(.tmp 5), (.tmp 6)], none, [], false⟩,
      ⟨(some 20), .callV (.func 86) [(.tmp 16), (.tmp 17), (.tmp 18), (.tmp 19)], none, [], false⟩,
      ⟨(some 7), .mov (.tmp 20), none, [], false⟩]) (.seq (.region [
      ⟨(some 21), .load none (.tmp 6), none, [], false⟩,
      ⟨(some 22), .bin .neq (so (.binOp .neq 5 (.tmp 21) (.const (.int .u8 0)) 5) 4) (.tmp 21) (.const (.int .u8 0)), none, [], false⟩,
      ⟨(some 23), .mov (.tmp 22), none, [], false⟩,
      ⟨(some 24), .mov (.tmp 7), (some (23, true)), [], false⟩,
      ⟨(some 25), .bin .leq (so (.binOp .leq 117 (.tmp 24) (.const (.int .u64 9223372036854775807)) 117) 4) (.tmp 24) (.const (.int .u64 9223372036854775807)), (some (23, true)), [], false⟩,
      ⟨(some 26), .pick (.tmp 23) (.tmp 25) (.const (.bool false)), none, [], false⟩,
      ⟨(some 27), .mov (.tmp 1), none, [], false⟩,
      ⟨(some 28), .callV (.func 83) [(.tmp 26), (.const (.int .i64 5)), (.tmp 27)], none, [], false⟩]) (.seq (.region [
      ⟨(some 29), .mov (.tmp 7), none, [], false⟩,
      ⟨(some 30), .conv .i64 (so (.convert 117 3 (.tmp 29)) 3) (.tmp 29), none, [], false⟩,
      ⟨(some 4), .mov (.tmp 30), none, [], false⟩]) .ret)))))))
noncomputable def wire_Reader_num : AFunc := ⟨31, [(4, none)], wire_Reader_num_c, none⟩
theorem wire_Reader_num_t0 : tableOf Try.prog 57 = some wire_Reader_num := by kernel_rfl
theorem wire_Reader_num_t : T0 57 = some wire_Reader_num := withKept_t rfl (withTrue_t rfl wire_Reader_num_t0)
theorem wire_Reader_num_runs {v0 v1 : Value} {h : Heap} {R : RP} {X : XP} (k : RunC Try.prog T0 wire_Reader_num_c ⟨[v0, v1, undef, undef, undef, undef, undef, undef, undef, undef, undef, undef, undef, undef, undef, undef, undef, undef, undef, undef, undef, undef, undef, undef, undef, undef, undef, undef, undef, undef, undef], [], h, none⟩ (bodyQ Try.prog T0 [(4, none)] R X)) :
    Runs Try.prog T0 (.fn 57) [v0, v1] h R X := Runs.fn wire_Reader_num_t rfl k


/-! 58 landfall/wire.reads[landfall/api.Hash] -/
abbrev fn_wire_reads_api_Hash_ : FuncId := 58
noncomputable def wire_reads_api_Hash__c : ACode :=
  (.seq (.region [
      ⟨(some 4), .alloc 26 z32, none, [], false⟩]) (.seq (.seq (.region [
      ⟨(some 5), .mov (.tmp 0), none, [], false⟩,
      ⟨(some 6), .eq .ptr false (so (.binOp .eql 51 (.tmp 5) (.const (.pointer none)) 51) 4) (.tmp 5) (.const (.pointer none)), none, [], false⟩,
      ⟨(some 7), .mov (.tmp 6), none, [], false⟩,
      ⟨(some 8), .mov (.tmp 0), (some (7, false)), [], false⟩,
      ⟨(some 9), .nilCheck (.tmp 8), (some (7, false)), [], false⟩,
      ⟨(some 10), .fieldAddr 4 (.tmp 9), (some (7, false)), [], false⟩,
      ⟨(some 11), .load none (.tmp 10), (some (7, false)), [], false⟩,
      ⟨(some 12), .raw (so (.unOp .not 4 (.tmp 11)) 4), (some (7, false)), [], false⟩,
      ⟨(some 13), .pick (.tmp 7) (.const (.bool true)) (.tmp 12), none, [], false⟩,
      ⟨(some 14), .mov (.tmp 13), none, [], false⟩,
      ⟨(some 15), .mov (.tmp 0), (some (14, false)), [], false⟩,
      ⟨(some 16), .nilCheck (.tmp 15), (some (14, false)), [], false⟩,
      ⟨(some 17), .fieldAddr 2 (.tmp 16), (some (14, false)), [], false⟩,
      ⟨(some 18), .fieldAddr 0 (.tmp 17), (some (14, false)), [], false⟩,
      ⟨(some 19), .load none (.tmp 18), (some (14, false)), [], false⟩,
      ⟨(some 20), .bin .neq (so (.binOp .neq 29 (.tmp 19) (.const (.int .i64 0)) 29) 4) (.tmp 19) (.const (.int .i64 0)), (some (14, false)), [], false⟩,
      ⟨(some 21), .pick (.tmp 14) (.const (.bool true)) (.tmp 20), none, [], false⟩]) (.cond (.tmp 21)
    (.seq (.region [
      ⟨(some 22), .load (some 32) (.tmp 4), none, [], false⟩,
      ⟨none, .store 32 (.tmp 4) (.tmp 22), none, [], false⟩]) .ret)
    .skip)) (.seq (.region [
      ⟨(some 23), .mov (.tmp 0), none, [], false⟩,
      ⟨none, .defer (.func 85) [(.tmp 23)], none, [], false⟩]) (.seq (.region [
      ⟨(some 24), .mov (.tmp 1), none, [], false⟩,
      ⟨(some 25), .mov (.tmp 0), none, [], false⟩,
      ⟨(some 26), .nilCheck (.tmp 25), none, [], false⟩,
      ⟨(some 27), .fieldAddr 1 (.tmp 26), none, [], false⟩,
      ⟨(some 28), .load none (.tmp 27), none, [], false⟩,
      ⟨(some 29), .callV (.tmp 24) [(.tmp 28)], none, [], false⟩,
      ⟨none, .store 32 (.tmp 4) (.tmp 29), none, [], false⟩]) .ret))))
noncomputable def wire_reads_api_Hash_ : AFunc := ⟨30, [(4, some (some 32))], wire_reads_api_Hash__c, none⟩
theorem wire_reads_api_Hash__t0 : tableOf Try.prog 58 = some wire_reads_api_Hash_ := by kernel_rfl
theorem wire_reads_api_Hash__t : T0 58 = some wire_reads_api_Hash_ := withKept_t rfl (withTrue_t rfl wire_reads_api_Hash__t0)
theorem wire_reads_api_Hash__runs {v0 v1 : Value} {h : Heap} {R : RP} {X : XP} (k : RunC Try.prog T0 wire_reads_api_Hash__c ⟨[v0, v1, undef, undef, undef, undef, undef, undef, undef, undef, undef, undef, undef, undef, undef, undef, undef, undef, undef, undef, undef, undef, undef, undef, undef, undef, undef, undef, undef, undef], [], h, none⟩ (bodyQ Try.prog T0 [(4, some (some 32))] R X)) :
    Runs Try.prog T0 (.fn 58) [v0, v1] h R X := Runs.fn wire_reads_api_Hash__t rfl k


/-! 59 (*landfall/wire.Reader).Hash$1 -/
abbrev fn_wire_Reader_Hash_1 : FuncId := 59
noncomputable def wire_Reader_Hash_1_c : ACode :=
  (.seq (.region [
      ⟨(some 3), .alloc 26 z32, none, [], false⟩]) (.seq (.region [
      ⟨(some 4), .load none (.tmp 1), none, [], false⟩,
      ⟨(some 5), .mov (.tmp 0), none, [], false⟩,
      ⟨(some 6), .callV (.func 60) [(.tmp 4), (.const (.int .i64 32)), (.tmp 5), (.func 61)], none, [], false⟩,
      ⟨none, .store 32 (.tmp 3) (.tmp 6), none, [], false⟩]) .ret))
noncomputable def wire_Reader_Hash_1 : AFunc := ⟨7, [(3, some (some 32))], wire_Reader_Hash_1_c, none⟩
theorem wire_Reader_Hash_1_t0 : tableOf Try.prog 59 = some wire_Reader_Hash_1 := by kernel_rfl
theorem wire_Reader_Hash_1_t : T0 59 = some wire_Reader_Hash_1 := withKept_t rfl (withTrue_t rfl wire_Reader_Hash_1_t0)
theorem wire_Reader_Hash_1_runs {v0 v1 : Value} {h : Heap} {R : RP} {X : XP} (k : RunC Try.prog T0 wire_Reader_Hash_1_c ⟨[v0, v1, undef, undef, undef, undef, undef], [], h, none⟩ (bodyQ Try.prog T0 [(3, some (some 32))] R X)) :
    Runs Try.prog T0 (.fn 59) [v0, v1] h R X := Runs.fn wire_Reader_Hash_1_t rfl k


/-! 60 landfall/wire.take[landfall/api.Hash] -/
abbrev fn_wire_take_api_Hash_ : FuncId := 60
noncomputable def wire_take_api_Hash__c : ACode :=
  (.seq (.region [
      ⟨(some 8), .alloc 26 z32, none, [], false⟩]) (.seq (.regionD [
      ⟨(some 9), .mov (.tmp 1), none, [], false⟩,
      ⟨(some 10), .mov (.tmp 0), none, [], false⟩,
      ⟨(some 11), .nilCheck (.tmp 10), none, [], false⟩,
      ⟨(some 12), .fieldAddr 0 (.tmp 11), none, [], false⟩,
      ⟨(some 13), .load none (.tmp 12), none, [], false⟩,
      ⟨(some 14), .lenSl (.tmp 13), none, [], false⟩,
      ⟨(some 15), .mov (.tmp 0), none, [], false⟩,
      ⟨(some 16), .nilCheck (.tmp 15), none, [], false⟩,
      ⟨(some 17), .fieldAddr 1 (.tmp 16), none, [], false⟩,
      ⟨(some 18), .load none (.tmp 17), none, [], false⟩,
      ⟨(some 19), .bin .sub (so (.binOp .sub 3 (.tmp 14) (.tmp 18) 3) 3) (.tmp 14) (.tmp 18), none, [], false⟩,
      ⟨(some 20), .bin .leq (so (.binOp .leq 3 (.tmp 9) (.tmp 19) 3) 4) (.tmp 9) (.tmp 19), none, [], false⟩,
      ⟨(some 21), .mov (.tmp 2), none, [], false⟩,
      ⟨(some 22), .callV (.func 83) [(.tmp 20), (.const (.int .i64 6)), (.tmp 21)], none, [], true⟩]) (.seq (.region [
      ⟨(some 23), .mov (.tmp 0), none, [], false⟩,
      ⟨(some 24), .nilCheck (.tmp 23), none, [], false⟩,
      ⟨(some 25), .fieldAddr 1 (.tmp 24), none, [], false⟩,
      ⟨(some 26), .load none (.tmp 25), none, [], false⟩,
      ⟨(some 27), .mov (.tmp 1), none, [], false⟩,
      ⟨(some 28), .bin .add (so (.binOp .add 3 (.tmp 26) (.tmp 27) 3) 3) (.tmp 26) (.tmp 27), none, [], false⟩,
      ⟨(some 29), .nilCheck (.tmp 23), none, [], false⟩,
      ⟨(some 30), .fieldAddr 1 (.tmp 29), none, [], false⟩,
      ⟨none, .store 1 (.tmp 30) (.tmp 28), none, [], false⟩]) (.seq (.regionD [
      ⟨(some 31), .mov (.tmp 3), none, [], false⟩,
      ⟨(some 32), .mov (.tmp 0), none, [], false⟩,
      ⟨(some 33), .nilCheck (.tmp 32), none, [], false⟩,
      ⟨(some 34), .fieldAddr 0 (.tmp 33), none, [], false⟩,
      ⟨(some 35), .load none (.tmp 34), none, [], false⟩,
      ⟨(some 36), .mov (.tmp 0), none, [], false⟩,
      ⟨(some 37), .nilCheck (.tmp 36), none, [], false⟩,
      ⟨(some 38), .fieldAddr 1 (.tmp 37), none, [], false⟩,
      ⟨(some 39), .load none (.tmp 38), none, [], false⟩,
      ⟨(some 40), .mov (.tmp 1), none, [], false⟩,
      ⟨(some 41), .bin .sub (so (.binOp .sub 3 (.tmp 39) (.tmp 40) 3) 3) (.tmp 39) (.tmp 40), none, [], false⟩,
      ⟨(some 42), .mov (.tmp 0), none, [], false⟩,
      ⟨(some 43), .nilCheck (.tmp 42), none, [], false⟩,
      ⟨(some 44), .fieldAddr 1 (.tmp 43), none, [], false⟩,
      ⟨(some 45), .load none (.tmp 44), none, [], false⟩,
      ⟨(some 46), .sliceSl 1 (.tmp 35) (some (.tmp 41)) (some (.tmp 45)) none, none, [], false⟩,
      ⟨(some 47), .callV (.tmp 31) [(.tmp 46)], none, [], true⟩,
      ⟨none, .store 32 (.tmp 8) (.tmp 47), none, [], true⟩]) .ret))))
noncomputable def wire_take_api_Hash_ : AFunc := ⟨48, [(8, some (some 32))], wire_take_api_Hash__c, none⟩
theorem wire_take_api_Hash__t0 : tableOf Try.prog 60 = some wire_take_api_Hash_ := by kernel_rfl
theorem wire_take_api_Hash__t : T0 60 = some wire_take_api_Hash_ := withKept_t rfl (withTrue_t rfl wire_take_api_Hash__t0)
theorem wire_take_api_Hash__runs {v0 v1 v2 v3 : Value} {h : Heap} {R : RP} {X : XP} (k : RunC Try.prog T0 wire_take_api_Hash__c ⟨[v0, v1, v2, v3, undef, undef, undef, undef, undef, undef, undef, undef, undef, undef, undef, undef, undef, undef, undef, undef, undef, undef, undef, undef, undef, undef, undef, undef, undef, undef, undef, undef, undef, undef, undef, undef, undef, undef, undef, undef, undef, undef, undef, undef, undef, undef, undef, undef], [], h, none⟩ (bodyQ Try.prog T0 [(8, some (some 32))] R X)) :
    Runs Try.prog T0 (.fn 60) [v0, v1, v2, v3] h R X := Runs.fn wire_take_api_Hash__t rfl k


/-! 61 (*landfall/wire.Reader).Hash$1$1 -/
abbrev fn_wire_Reader_Hash_1_1 : FuncId := 61
noncomputable def wire_Reader_Hash_1_1_c : ACode :=
  (.seq (.region [
      ⟨(some 2), .alloc 26 z32, none, [], false⟩]) (.seq (.region [
      ⟨(some 3), .mov (.tmp 0), none, [], false⟩,
      ⟨(some 4), .arrayAt 32 (.tmp 3), none, [], false⟩,
      ⟨(some 5), .load (some 32) (.tmp 4), none, [], false⟩,
      ⟨none, .store 32 (.tmp 2) (.tmp 5), none, [], false⟩]) .ret))
noncomputable def wire_Reader_Hash_1_1 : AFunc := ⟨6, [(2, some (some 32))], wire_Reader_Hash_1_1_c, none⟩
theorem wire_Reader_Hash_1_1_t0 : tableOf Try.prog 61 = some wire_Reader_Hash_1_1 := by kernel_rfl
theorem wire_Reader_Hash_1_1_t : T0 61 = some wire_Reader_Hash_1_1 := withKept_t rfl (withTrue_t rfl wire_Reader_Hash_1_1_t0)
theorem wire_Reader_Hash_1_1_runs {v0 : Value} {h : Heap} {R : RP} {X : XP} (k : RunC Try.prog T0 wire_Reader_Hash_1_1_c ⟨[v0, undef, undef, undef, undef, undef], [], h, none⟩ (bodyQ Try.prog T0 [(2, some (some 32))] R X)) :
    Runs Try.prog T0 (.fn 61) [v0] h R X := Runs.fn wire_Reader_Hash_1_1_t rfl k


/-! 62 (*landfall/landfallref04.Reader).Text -/
abbrev fn_landfallref04_Reader_Text : FuncId := 62
noncomputable def landfallref04_Reader_Text_c : ACode :=
  (.seq (.region [
      ⟨(some 4), .mov (.const (.string ⟨⟨[]⟩⟩)), none, [], false⟩]) (.seq (.region [
      ⟨(some 5), .mov (.tmp 0), none, [], false⟩,
      ⟨(some 6), .mov (.tmp 1), none, [], false⟩,
      ⟨(some 7), .callV (.func 89) [(.tmp 5), (.tmp 6)], none, [], false⟩,
      ⟨(some 8), .bytesToStr (.tmp 7), none, [], false⟩,
      ⟨(some 4), .mov (.tmp 8), none, [], false⟩]) .ret))
noncomputable def landfallref04_Reader_Text : AFunc := ⟨9, [(4, none)], landfallref04_Reader_Text_c, none⟩
theorem landfallref04_Reader_Text_t0 : tableOf Try.prog 62 = some landfallref04_Reader_Text := by kernel_rfl
theorem landfallref04_Reader_Text_t : T0 62 = some landfallref04_Reader_Text := withKept_t rfl (withTrue_t rfl landfallref04_Reader_Text_t0)
theorem landfallref04_Reader_Text_runs {v0 v1 : Value} {h : Heap} {R : RP} {X : XP} (k : RunC Try.prog T0 landfallref04_Reader_Text_c ⟨[v0, v1, undef, undef, undef, undef, undef, undef, undef], [], h, none⟩ (bodyQ Try.prog T0 [(4, none)] R X)) :
    Runs Try.prog T0 (.fn 62) [v0, v1] h R X := Runs.fn landfallref04_Reader_Text_t rfl k


/-! 63 (*landfall/landfallref04.Reader).Num -/
abbrev fn_landfallref04_Reader_Num : FuncId := 63
noncomputable def landfallref04_Reader_Num_l0 : ACode :=
  (.seq (.seq (.region [
      ⟨(some 40), .mov (.tmp 7), none, [], false⟩,
      ⟨(some 41), .mov (.tmp 5), none, [], false⟩,
      ⟨(some 42), .lenSl (.tmp 41), none, [], false⟩,
      ⟨(some 43), .bin .lss (so (.binOp .lss 3 (.tmp 40) (.tmp 42) 3) 4) (.tmp 40) (.tmp 42), none, [], false⟩]) (.cond (.tmp 43)
    .skip
    (.exit 0))) (.seq (.block 1 (.region [
      ⟨(some 46), .mov (.tmp 6), none, [], false⟩,
      ⟨(some 47), .bin .shl (so (.binOp .shl 117 (.tmp 46) (.const (.int .u64 8)) 104) 117) (.tmp 46) (.const (.int .u64 8)), none, [], false⟩,
      ⟨(some 48), .mov (.tmp 5), none, [], false⟩,
      ⟨(some 49), .mov (.tmp 7), none, [], false⟩,
      ⟨(some 50), .indexSl 1 (.tmp 48) (.tmp 49), none, [], false⟩,
      ⟨(some 51), .load none (.tmp 50), none, [], false⟩,
      ⟨(some 52), .conv .u64 (so (.convert 5 117 (.tmp 51)) 117) (.tmp 51), none, [], false⟩,
      ⟨(some 53), .bin .or (so (.binOp .or 117 (.tmp 47) (.tmp 52) 117) 117) (.tmp 47) (.tmp 52), none, [], false⟩,
      ⟨(some 6), .mov (.tmp 53), none, [], false⟩])) (.region [
      ⟨(some 44), .mov (.tmp 7), none, [], false⟩,
      ⟨(some 45), .bin .add (so (.binOp .add 3 (.tmp 44) (.const (.int .i64 1)) 3) 3) (.tmp 44) (.const (.int .i64 1)), none, [], false⟩,
      ⟨(some 7), .mov (.tmp 45), none, [], false⟩])))
noncomputable def landfallref04_Reader_Num_c : ACode :=
  (.seq (.region [
      ⟨(some 2), .mov (.const (.int .i64 0)), none, [], false⟩]) (.seq (.region [
      ⟨(some 8), .mov (.tmp 0), none, [], false⟩,
      ⟨(some 9), .nilCheck (.tmp 8), none, [], false⟩,
      ⟨(some 10), .fieldAddr 1 (.tmp 9), none, [], false⟩,
      ⟨(some 11), .load none (.tmp 10), none, [], false⟩,
      ⟨(some 3), .mov (.tmp 11), none, [], false⟩]) (.seq (.region [
      ⟨(some 12), .mov (.tmp 0), none, [], false⟩,
      ⟨(some 13), .mov (.tmp 3), none, [], false⟩,
      ⟨(some 14), .callV (.func 90) [(.tmp 12), (.const (.int .i64 1)), (.tmp 13)], none, [], false⟩,
      ⟨(some 4), .mov (.tmp 14), none, [], false⟩]) (.seq (.seq (.region [
      ⟨(some 15), .mov (.tmp 4), none, [], false⟩,
      ⟨(some 16), .lenSl (.tmp 15), none, [], false⟩,
      ⟨(some 17), .bin .eql (so (.binOp .eql 3 (.tmp 16) (.const (.int .i64 1)) 3) 4) (.tmp 16) (.const (.int .i64 1)), none, [], false⟩,
      ⟨(some 18), .mov (.tmp 17), none, [], false⟩,
      ⟨(some 19), .mov (.tmp 4), (some (18, true)), [], false⟩,
      ⟨(some 20), .indexSl 1 (.tmp 19) (.const (.int .i64 0)), (some (18, true)), [], false⟩,
      ⟨(some 21), .load none (.tmp 20), (some (18, true)), [], false⟩,
      ⟨(some 22), .bin .gtr (so (.binOp .gtr 5 (.tmp 21) (.const (.int .u8 8)) 5) 4) (.tmp 21) (.const (.int .u8 8)), (some (18, true)), [], false⟩,
      ⟨(some 23), .pick (.tmp 18) (.tmp 22) (.const (.bool false)), none, [], false⟩]) (.cond (.tmp 23)
    (.region [
      ⟨(some 24), .mov (.tmp 0), none, [], false⟩,
      ⟨(some 25), .mov (.tmp 3), none, [], false⟩,
      ⟨(some 26), .callV (.func 91) [(.tmp 24), (.const (.int .i64 5)), (.tmp 25)], none, [], false⟩])
    .skip)) (.seq (.seq (.region [
      ⟨(some 27), .mov (.tmp 0), none, [], false⟩,
      ⟨(some 28), .nilCheck (.tmp 27), none, [], false⟩,
      ⟨(some 29), .fieldAddr 2 (.tmp 28), none, [], false⟩,
      ⟨(some 30), .fieldAddr 0 (.tmp 29), none, [], false⟩,
      ⟨(some 31), .load none (.tmp 30), none, [], false⟩,
      ⟨(some 32), .bin .neq (so (.binOp .neq 29 (.tmp 31) (.const (.int .i64 0)) 29) 4) (.tmp 31) (.const (.int .i64 0)), none, [], false⟩]) (.cond (.tmp 32)
    (.seq (.region [
      ⟨(some 2), .mov (.const (.int .i64 0)), none, [], false⟩]) .ret)
    .skip)) (.seq (.region [
      ⟨(some 33), .mov (.tmp 0), none, [], false⟩,
      ⟨(some 34), .mov (.tmp 4), none, [], false⟩,
      ⟨(some 35), .indexSl 1 (.tmp 34) (.const (.int .i64 0)), none, [], false⟩,
      ⟨(some 36), .load none (.tmp 35), none, [], false⟩,
      ⟨(some 37), .conv .i64 (so (.convert 5 3 (.tmp 36)) 3) (.tmp 36), none, [], false⟩,
      ⟨(some 38), .mov (.tmp 3), none, [], false⟩,
      ⟨(some 39), .callV (.func 90) [(.tmp 33), (.tmp 37), (.tmp 38)], none, [], false⟩,
      ⟨(some 5), .mov (.tmp 39), none, [], false⟩]) (.seq (.region [
      ⟨(some 6), .mov (.const (.int .u64 0)), none, [], false⟩]) (.seq (.seq (.region [
      ⟨(some 7), .mov (.const (.int .i64 0)), none, [], false⟩]) (.block 0 (.loop landfallref04_Reader_Num_l0))) (.seq (.seq (.region [
      ⟨(some 54), .mov (.tmp 5), none, [], false⟩,
      ⟨(some 55), .lenSl (.tmp 54), none, [], false⟩,
      ⟨(some 56), .bin .gtr (so (.binOp .gtr 3 (.tmp 55) (.const (.int .i64 0)) 3) 4) (.tmp 55) (.const (.int .i64 0)), none, [], false⟩,
      ⟨(some 57), .mov (.tmp 56), none, [], false⟩,
      ⟨(some 58), .mov (.tmp 5), (some (57, true)), [], false⟩,
      ⟨(some 59), .indexSl 1 (.tmp 58) (.const (.int .i64 0)), (some (57, true)), [], false⟩,
      ⟨(some 60), .load none (.tmp 59), (some (57, true)), [], false⟩,
      ⟨(some 61), .bin .eql (so (.binOp .eql 5 (.tmp 60) (.const (.int .u8 0)) 5) 4) (.tmp 60) (.const (.int .u8 0)), (some (57, true)), [], false⟩,
      ⟨(some 62), .pick (.tmp 57) (.tmp 61) (.const (.bool false)), none, [], false⟩,
      ⟨(some 63), .mov (.tmp 62), none, [], false⟩,
      ⟨(some 64), .mov (.tmp 6), (some (63, false)), [], false⟩,
      ⟨(some 65), .bin .shr (so (.binOp .shr 117 (.tmp 64) (.const (.int .u64 63)) 104) 117) (.tmp 64) (.const (.int .u64 63)), (some (63, false)), [], false⟩,
      ⟨(some 66), .bin .eql (so (.binOp .eql 117 (.tmp 65) (.const (.int .u64 1)) 117) 4) (.tmp 65) (.const (.int .u64 1)), (some (63, false)), [], false⟩,
      ⟨(some 67), .pick (.tmp 63) (.const (.bool true)) (.tmp 66), none, [], false⟩]) (.cond (.tmp 67)
    (.region [
      ⟨(some 68), .mov (.tmp 0), none, [], false⟩,
      ⟨(some 69), .mov (.tmp 3), none, [], false⟩,
      ⟨(some 70), .callV (.func 91) [(.tmp 68), (.const (.int .i64 5)), (.tmp 69)], none, [], false⟩])
    .skip)) (.seq (.seq (.region [
      ⟨(some 71), .mov (.tmp 0), none, [], false⟩,
      ⟨(some 72), .nilCheck (.tmp 71), none, [], false⟩,
      ⟨(some 73), .fieldAddr 2 (.tmp 72), none, [], false⟩,
      ⟨(some 74), .fieldAddr 0 (.tmp 73), none, [], false⟩,
      ⟨(some 75), .load none (.tmp 74), none, [], false⟩,
      ⟨(some 76), .bin .neq (so (.binOp .neq 29 (.tmp 75) (.const (.int .i64 0)) 29) 4) (.tmp 75) (.const (.int .i64 0)), none, [], false⟩]) (.cond (.tmp 76)
    (.seq (.region [
      ⟨(some 2), .mov (.const (.int .i64 0)), none, [], false⟩]) .ret)
    .skip)) (.seq (.region [
      ⟨(some 77), .mov (.tmp 6), none, [], false⟩,
      ⟨(some 78), .conv .i64 (so (.convert 117 3 (.tmp 77)) 3) (.tmp 77), none, [], false⟩,
      ⟨(some 2), .mov (.tmp 78), none, [], false⟩]) .ret)))))))))))
noncomputable def landfallref04_Reader_Num : AFunc := ⟨79, [(2, none)], landfallref04_Reader_Num_c, none⟩
theorem landfallref04_Reader_Num_t0 : tableOf Try.prog 63 = some landfallref04_Reader_Num := by kernel_rfl
theorem landfallref04_Reader_Num_t : T0 63 = some landfallref04_Reader_Num := withKept_t rfl (withTrue_t rfl landfallref04_Reader_Num_t0)
theorem landfallref04_Reader_Num_runs {v0 : Value} {h : Heap} {R : RP} {X : XP} (k : RunC Try.prog T0 landfallref04_Reader_Num_c ⟨[v0, undef, undef, undef, undef, undef, undef, undef, undef, undef, undef, undef, undef, undef, undef, undef, undef, undef, undef, undef, undef, undef, undef, undef, undef, undef, undef, undef, undef, undef, undef, undef, undef, undef, undef, undef, undef, undef, undef, undef, undef, undef, undef, undef, undef, undef, undef, undef, undef, undef, undef, undef, undef, undef, undef, undef, undef, undef, undef, undef, undef, undef, undef, undef, undef, undef, undef, undef, undef, undef, undef, undef, undef, undef, undef, undef, undef, undef, undef], [], h, none⟩ (bodyQ Try.prog T0 [(2, none)] R X)) :
    Runs Try.prog T0 (.fn 63) [v0] h R X := Runs.fn landfallref04_Reader_Num_t rfl k
/-- the slots that turn in the loop: v6 v7 -/
noncomputable def landfallref04_Reader_Num_l0_J (f0 f1 f2 f3 f4 f5 f8 f9 f10 f11 f12 f13 f14 f15 f16 f17 f18 f19 f20 f21 f22 f23 f24 f25 f26 f27 f28 f29 f30 f31 f32 f33 f34 f35 f36 f37 f38 f39 f54 f55 f56 f57 f58 f59 f60 f61 f62 f63 f64 f65 f66 f67 f68 f69 f70 f71 f72 f73 f74 f75 f76 f77 f78 : Value) (ds : List Deferred) (rd : Option Nat) (I : Nat → Value → Value → Heap → Prop) (m : Nat) (s : St) : Prop := ∃ (v6 v7 : Value), ∃ h : Heap, ∃ (x40 x41 x42 x43 x44 x45 x46 x47 x48 x49 x50 x51 x52 x53 : Value), s = ⟨[f0, f1, f2, f3, f4, f5, v6, v7, f8, f9, f10, f11, f12, f13, f14, f15, f16, f17, f18, f19, f20, f21, f22, f23, f24, f25, f26, f27, f28, f29, f30, f31, f32, f33, f34, f35, f36, f37, f38, f39, x40, x41, x42, x43, x44, x45, x46, x47, x48, x49, x50, x51, x52, x53, f54, f55, f56, f57, f58, f59, f60, f61, f62, f63, f64, f65, f66, f67, f68, f69, f70, f71, f72, f73, f74, f75, f76, f77, f78], ds, h, rd⟩ ∧ I m v6 v7 h
theorem landfallref04_Reader_Num_l0_rule {f0 f1 f2 f3 f4 f5 f8 f9 f10 f11 f12 f13 f14 f15 f16 f17 f18 f19 f20 f21 f22 f23 f24 f25 f26 f27 f28 f29 f30 f31 f32 f33 f34 f35 f36 f37 f38 f39 f54 f55 f56 f57 f58 f59 f60 f61 f62 f63 f64 f65 f66 f67 f68 f69 f70 f71 f72 f73 f74 f75 f76 f77 f78 : Value} {ds : List Deferred} {rd : Option Nat} {Q : QP} (I : Nat → Value → Value → Heap → Prop) (hb : ∀ (m : Nat) (v6 v7 : Value) (h : Heap) (x40 x41 x42 x43 x44 x45 x46 x47 x48 x49 x50 x51 x52 x53 : Value) , I m v6 v7 h → RunC Try.prog T0 landfallref04_Reader_Num_l0 ⟨[f0, f1, f2, f3, f4, f5, v6, v7, f8, f9, f10, f11, f12, f13, f14, f15, f16, f17, f18, f19, f20, f21, f22, f23, f24, f25, f26, f27, f28, f29, f30, f31, f32, f33, f34, f35, f36, f37, f38, f39, x40, x41, x42, x43, x44, x45, x46, x47, x48, x49, x50, x51, x52, x53, f54, f55, f56, f57, f58, f59, f60, f61, f62, f63, f64, f65, f66, f67, f68, f69, f70, f71, f72, f73, f74, f75, f76, f77, f78], ds, h, rd⟩ (loopQ (landfallref04_Reader_Num_l0_J f0 f1 f2 f3 f4 f5 f8 f9 f10 f11 f12 f13 f14 f15 f16 f17 f18 f19 f20 f21 f22 f23 f24 f25 f26 f27 f28 f29 f30 f31 f32 f33 f34 f35 f36 f37 f38 f39 f54 f55 f56 f57 f58 f59 f60 f61 f62 f63 f64 f65 f66 f67 f68 f69 f70 f71 f72 f73 f74 f75 f76 f77 f78 ds rd I) m Q))
    (m : Nat) {v6 v7 : Value} {h : Heap} {x40 x41 x42 x43 x44 x45 x46 x47 x48 x49 x50 x51 x52 x53 : Value} (hi : I m v6 v7 h) : RunC Try.prog T0 (.loop landfallref04_Reader_Num_l0) ⟨[f0, f1, f2, f3, f4, f5, v6, v7, f8, f9, f10, f11, f12, f13, f14, f15, f16, f17, f18, f19, f20, f21, f22, f23, f24, f25, f26, f27, f28, f29, f30, f31, f32, f33, f34, f35, f36, f37, f38, f39, x40, x41, x42, x43, x44, x45, x46, x47, x48, x49, x50, x51, x52, x53, f54, f55, f56, f57, f58, f59, f60, f61, f62, f63, f64, f65, f66, f67, f68, f69, f70, f71, f72, f73, f74, f75, f76, f77, f78], ds, h, rd⟩ Q :=
  RunC.loopJ (landfallref04_Reader_Num_l0_J f0 f1 f2 f3 f4 f5 f8 f9 f10 f11 f12 f13 f14 f15 f16 f17 f18 f19 f20 f21 f22 f23 f24 f25 f26 f27 f28 f29 f30 f31 f32 f33 f34 f35 f36 f37 f38 f39 f54 f55 f56 f57 f58 f59 f60 f61 f62 f63 f64 f65 f66 f67 f68 f69 f70 f71 f72 f73 f74 f75 f76 f77 f78 ds rd I) (fun m s hj => by obtain ⟨v6, v7, h, x40, x41, x42, x43, x44, x45, x46, x47, x48, x49, x50, x51, x52, x53, rfl, hi⟩ := hj; exact hb m v6 v7 h x40 x41 x42 x43 x44 x45 x46 x47 x48 x49 x50 x51 x52 x53 hi) m _ ⟨_, _, h, _, _, _, _, _, _, _, _, _, _, _, _, _, _, rfl, hi⟩
theorem landfallref04_Reader_Num_l0_again {f0 f1 f2 f3 f4 f5 f8 f9 f10 f11 f12 f13 f14 f15 f16 f17 f18 f19 f20 f21 f22 f23 f24 f25 f26 f27 f28 f29 f30 f31 f32 f33 f34 f35 f36 f37 f38 f39 f54 f55 f56 f57 f58 f59 f60 f61 f62 f63 f64 f65 f66 f67 f68 f69 f70 f71 f72 f73 f74 f75 f76 f77 f78 : Value} {ds : List Deferred} {rd : Option Nat} {Q : QP} {I : Nat → Value → Value → Heap → Prop} {m : Nat} (m' : Nat) {v6 v7 : Value} {h : Heap} {x40 x41 x42 x43 x44 x45 x46 x47 x48 x49 x50 x51 x52 x53 : Value} (hm : m' < m) (hi : I m' v6 v7 h) : loopQ (landfallref04_Reader_Num_l0_J f0 f1 f2 f3 f4 f5 f8 f9 f10 f11 f12 f13 f14 f15 f16 f17 f18 f19 f20 f21 f22 f23 f24 f25 f26 f27 f28 f29 f30 f31 f32 f33 f34 f35 f36 f37 f38 f39 f54 f55 f56 f57 f58 f59 f60 f61 f62 f63 f64 f65 f66 f67 f68 f69 f70 f71 f72 f73 f74 f75 f76 f77 f78 ds rd I) m Q .normal ⟨[f0, f1, f2, f3, f4, f5, v6, v7, f8, f9, f10, f11, f12, f13, f14, f15, f16, f17, f18, f19, f20, f21, f22, f23, f24, f25, f26, f27, f28, f29, f30, f31, f32, f33, f34, f35, f36, f37, f38, f39, x40, x41, x42, x43, x44, x45, x46, x47, x48, x49, x50, x51, x52, x53, f54, f55, f56, f57, f58, f59, f60, f61, f62, f63, f64, f65, f66, f67, f68, f69, f70, f71, f72, f73, f74, f75, f76, f77, f78], ds, h, rd⟩ :=
  loopQ.again m' hm ⟨_, _, h, _, _, _, _, _, _, _, _, _, _, _, _, _, _, rfl, hi⟩

/-! 64 (*landfall/landfallref04.Reader).Hash -/
abbrev fn_landfallref04_Reader_Hash : FuncId := 64
noncomputable def landfallref04_Reader_Hash_l0 : ACode :=
  (.seq (.seq (.region [
      ⟨(some 12), .mov (.tmp 5), none, [], false⟩,
      ⟨(some 13), .mov (.tmp 4), none, [], false⟩,
      ⟨(some 14), .lenSl (.tmp 13), none, [], false⟩,
      ⟨(some 15), .bin .lss (so (.binOp .lss 3 (.tmp 12) (.tmp 14) 3) 4) (.tmp 12) (.tmp 14), none, [], false⟩]) (.cond (.tmp 15)
    .skip
    (.exit 0))) (.seq (.block 1 (.region [
      ⟨(some 18), .mov (.tmp 5), none, [], false⟩,
      ⟨(some 19), .mov (.tmp 4), none, [], false⟩,
      ⟨(some 20), .mov (.tmp 5), none, [], false⟩,
      ⟨(some 21), .indexSl 1 (.tmp 19) (.tmp 20), none, [], false⟩,
      ⟨(some 22), .load none (.tmp 21), none, [], false⟩,
      ⟨(some 23), .indexArr 32 1 (.tmp 3) (.tmp 18), none, [], false⟩,
      ⟨none, .store 1 (.tmp 23) (.tmp 22), none, [], false⟩])) (.region [
      ⟨(some 16), .mov (.tmp 5), none, [], false⟩,
      ⟨(some 17), .bin .add (so (.binOp .add 3 (.tmp 16) (.const (.int .i64 1)) 3) 3) (.tmp 16) (.const (.int .i64 1)), none, [], false⟩,
      ⟨(some 5), .mov (.tmp 17), none, [], false⟩])))
noncomputable def landfallref04_Reader_Hash_c : ACode :=
  (.seq (.region [
      ⟨(some 2), .alloc 26 z32, none, [], false⟩]) (.seq (.region [
      ⟨(some 3), .alloc 26 z32, none, [], false⟩]) (.seq (.region [
      ⟨(some 6), .mov (.tmp 0), none, [], false⟩,
      ⟨(some 7), .mov (.tmp 0), none, [], false⟩,
      ⟨(some 8), .nilCheck (.tmp 7), none, [], false⟩,
      ⟨(some 9), .fieldAddr 1 (.tmp 8), none, [], false⟩,
      ⟨(some 10), .load none (.tmp 9), none, [], false⟩,
      ⟨(some 11), .callV (.func 90) [(.tmp 6), (.const (.int .i64 32)), (.tmp 10)], none, [], false⟩,
      ⟨(some 4), .mov (.tmp 11), none, [], false⟩]) (.seq (.seq (.region [
      ⟨(some 5), .mov (.const (.int .i64 0)), none, [], false⟩]) (.block 0 (.loop landfallref04_Reader_Hash_l0))) (.seq (.region [
      ⟨(some 24), .load (some 32) (.tmp 3), none, [], false⟩,
      ⟨none, .store 32 (.tmp 2) (.tmp 24), none, [], false⟩]) .ret)))))
noncomputable def landfallref04_Reader_Hash : AFunc := ⟨25, [(2, some (some 32))], landfallref04_Reader_Hash_c, none⟩
theorem landfallref04_Reader_Hash_t0 : tableOf Try.prog 64 = some landfallref04_Reader_Hash := by kernel_rfl
theorem landfallref04_Reader_Hash_t : T0 64 = some landfallref04_Reader_Hash := withKept_t rfl (withTrue_t rfl landfallref04_Reader_Hash_t0)
theorem landfallref04_Reader_Hash_runs {v0 : Value} {h : Heap} {R : RP} {X : XP} (k : RunC Try.prog T0 landfallref04_Reader_Hash_c ⟨[v0, undef, undef, undef, undef, undef, undef, undef, undef, undef, undef, undef, undef, undef, undef, undef, undef, undef, undef, undef, undef, undef, undef, undef, undef], [], h, none⟩ (bodyQ Try.prog T0 [(2, some (some 32))] R X)) :
    Runs Try.prog T0 (.fn 64) [v0] h R X := Runs.fn landfallref04_Reader_Hash_t rfl k
/-- the slots that turn in the loop: v5 -/
noncomputable def landfallref04_Reader_Hash_l0_J (f0 f1 f2 f3 f4 f6 f7 f8 f9 f10 f11 f24 : Value) (ds : List Deferred) (rd : Option Nat) (I : Nat → Value → Heap → Prop) (m : Nat) (s : St) : Prop := ∃ (v5 : Value), ∃ h : Heap, ∃ (x12 x13 x14 x15 x16 x17 x18 x19 x20 x21 x22 x23 : Value), s = ⟨[f0, f1, f2, f3, f4, v5, f6, f7, f8, f9, f10, f11, x12, x13, x14, x15, x16, x17, x18, x19, x20, x21, x22, x23, f24], ds, h, rd⟩ ∧ I m v5 h
theorem landfallref04_Reader_Hash_l0_rule {f0 f1 f2 f3 f4 f6 f7 f8 f9 f10 f11 f24 : Value} {ds : List Deferred} {rd : Option Nat} {Q : QP} (I : Nat → Value → Heap → Prop) (hb : ∀ (m : Nat) (v5 : Value) (h : Heap) (x12 x13 x14 x15 x16 x17 x18 x19 x20 x21 x22 x23 : Value) , I m v5 h → RunC Try.prog T0 landfallref04_Reader_Hash_l0 ⟨[f0, f1, f2, f3, f4, v5, f6, f7, f8, f9, f10, f11, x12, x13, x14, x15, x16, x17, x18, x19, x20, x21, x22, x23, f24], ds, h, rd⟩ (loopQ (landfallref04_Reader_Hash_l0_J f0 f1 f2 f3 f4 f6 f7 f8 f9 f10 f11 f24 ds rd I) m Q))
    (m : Nat) {v5 : Value} {h : Heap} {x12 x13 x14 x15 x16 x17 x18 x19 x20 x21 x22 x23 : Value} (hi : I m v5 h) : RunC Try.prog T0 (.loop landfallref04_Reader_Hash_l0) ⟨[f0, f1, f2, f3, f4, v5, f6, f7, f8, f9, f10, f11, x12, x13, x14, x15, x16, x17, x18, x19, x20, x21, x22, x23, f24], ds, h, rd⟩ Q :=
  RunC.loopJ (landfallref04_Reader_Hash_l0_J f0 f1 f2 f3 f4 f6 f7 f8 f9 f10 f11 f24 ds rd I) (fun m s hj => by obtain ⟨v5, h, x12, x13, x14, x15, x16, x17, x18, x19, x20, x21, x22, x23, rfl, hi⟩ := hj; exact hb m v5 h x12 x13 x14 x15 x16 x17 x18 x19 x20 x21 x22 x23 hi) m _ ⟨_, h, _, _, _, _, _, _, _, _, _, _, _, _, rfl, hi⟩
theorem landfallref04_Reader_Hash_l0_again {f0 f1 f2 f3 f4 f6 f7 f8 f9 f10 f11 f24 : Value} {ds : List Deferred} {rd : Option Nat} {Q : QP} {I : Nat → Value → Heap → Prop} {m : Nat} (m' : Nat) {v5 : Value} {h : Heap} {x12 x13 x14 x15 x16 x17 x18 x19 x20 x21 x22 x23 : Value} (hm : m' < m) (hi : I m' v5 h) : loopQ (landfallref04_Reader_Hash_l0_J f0 f1 f2 f3 f4 f6 f7 f8 f9 f10 f11 f24 ds rd I) m Q .normal ⟨[f0, f1, f2, f3, f4, v5, f6, f7, f8, f9, f10, f11, x12, x13, x14, x15, x16, x17, x18, x19, x20, x21, x22, x23, f24], ds, h, rd⟩ :=
  loopQ.again m' hm ⟨_, h, _, _, _, _, _, _, _, _, _, _, _, _, rfl, hi⟩

/-! 68 landfall/header.rules$1 -/
abbrev fn_header_rules_1 : FuncId := 68
noncomputable def header_rules_1_c : ACode :=
  (.seq (.region [
      ⟨(some 1), .box 28 (.tmp 0), none, [], false⟩,
      ⟨(some 2), .mov (.const (.bool false)), none, [], false⟩]) (.seq (.region [
      ⟨(some 3), .fieldAddr 0 (.tmp 1), none, [], false⟩,
      ⟨(some 4), .load none (.tmp 3), none, [], false⟩,
      ⟨(some 5), .callV (.func 17) [(.tmp 4)], none, [], false⟩,
      ⟨(some 2), .mov (.tmp 5), none, [], false⟩]) .ret))
noncomputable def header_rules_1 : AFunc := ⟨6, [(2, none)], header_rules_1_c, none⟩
theorem header_rules_1_t0 : tableOf Try.prog 68 = some header_rules_1 := by kernel_rfl
theorem header_rules_1_t : T0 68 = some header_rules_1 := withKept_t rfl (withTrue_t rfl header_rules_1_t0)
theorem header_rules_1_runs {v0 : Value} {h : Heap} {R : RP} {X : XP} (k : RunC Try.prog T0 header_rules_1_c ⟨[v0, undef, undef, undef, undef, undef], [], h, none⟩ (bodyQ Try.prog T0 [(2, none)] R X)) :
    Runs Try.prog T0 (.fn 68) [v0] h R X := Runs.fn header_rules_1_t rfl k


/-! 69 landfall/header.rules$2 -/
abbrev fn_header_rules_2 : FuncId := 69
noncomputable def header_rules_2_c : ACode :=
  (.seq (.region [
      ⟨(some 1), .box 28 (.tmp 0), none, [], false⟩,
      ⟨(some 2), .mov (.const (.bool false)), none, [], false⟩]) (.seq (.region [
      ⟨(some 3), .fieldAddr 1 (.tmp 1), none, [], false⟩,
      ⟨(some 4), .load none (.tmp 3), none, [], false⟩,
      ⟨(some 5), .bin .geq (so (.binOp .geq 3 (.tmp 4) (.const (.int .i64 1)) 3) 4) (.tmp 4) (.const (.int .i64 1)), none, [], false⟩,
      ⟨(some 6), .mov (.tmp 5), none, [], false⟩,
      ⟨(some 7), .fieldAddr 1 (.tmp 1), (some (6, true)), [], false⟩,
      ⟨(some 8), .load none (.tmp 7), (some (6, true)), [], false⟩,
      ⟨(some 9), .bin .leq (so (.binOp .leq 3 (.tmp 8) (.const (.int .i64 1073741824)) 3) 4) (.tmp 8) (.const (.int .i64 1073741824)), (some (6, true)), [], false⟩,
      ⟨(some 10), .pick (.tmp 6) (.tmp 9) (.const (.bool false)), none, [], false⟩,
      ⟨(some 2), .mov (.tmp 10), none, [], false⟩]) .ret))
noncomputable def header_rules_2 : AFunc := ⟨11, [(2, none)], header_rules_2_c, none⟩
theorem header_rules_2_t0 : tableOf Try.prog 69 = some header_rules_2 := by kernel_rfl
theorem header_rules_2_t : T0 69 = some header_rules_2 := withKept_t rfl (withTrue_t rfl header_rules_2_t0)
theorem header_rules_2_runs {v0 : Value} {h : Heap} {R : RP} {X : XP} (k : RunC Try.prog T0 header_rules_2_c ⟨[v0, undef, undef, undef, undef, undef, undef, undef, undef, undef, undef], [], h, none⟩ (bodyQ Try.prog T0 [(2, none)] R X)) :
    Runs Try.prog T0 (.fn 69) [v0] h R X := Runs.fn header_rules_2_t rfl k


/-! 70 landfall/header.rules$3 -/
abbrev fn_header_rules_3 : FuncId := 70
noncomputable def header_rules_3_c : ACode :=
  (.seq (.region [
      ⟨(some 1), .box 28 (.tmp 0), none, [], false⟩,
      ⟨(some 2), .mov (.const (.bool false)), none, [], false⟩]) (.seq (.region [
      ⟨(some 3), .fieldAddr 2 (.tmp 1), none, [], false⟩,
      ⟨(some 4), .load none (.tmp 3), none, [], false⟩,
      ⟨(some 5), .bin .geq (so (.binOp .geq 3 (.tmp 4) (.const (.int .i64 0)) 3) 4) (.tmp 4) (.const (.int .i64 0)), none, [], false⟩,
      ⟨(some 6), .mov (.tmp 5), none, [], false⟩,
      ⟨(some 7), .fieldAddr 2 (.tmp 1), (some (6, true)), [], false⟩,
      ⟨(some 8), .load none (.tmp 7), (some (6, true)), [], false⟩,
      ⟨(some 9), .bin .leq (so (.binOp .leq 3 (.tmp 8) (.const (.int .i64 1099511627776)) 3) 4) (.tmp 8) (.const (.int .i64 1099511627776)), (some (6, true)), [], false⟩,
      ⟨(some 10), .pick (.tmp 6) (.tmp 9) (.const (.bool false)), none, [], false⟩,
      ⟨(some 2), .mov (.tmp 10), none, [], false⟩]) .ret))
noncomputable def header_rules_3 : AFunc := ⟨11, [(2, none)], header_rules_3_c, none⟩
theorem header_rules_3_t0 : tableOf Try.prog 70 = some header_rules_3 := by kernel_rfl
theorem header_rules_3_t : T0 70 = some header_rules_3 := withKept_t rfl (withTrue_t rfl header_rules_3_t0)
theorem header_rules_3_runs {v0 : Value} {h : Heap} {R : RP} {X : XP} (k : RunC Try.prog T0 header_rules_3_c ⟨[v0, undef, undef, undef, undef, undef, undef, undef, undef, undef, undef], [], h, none⟩ (bodyQ Try.prog T0 [(2, none)] R X)) :
    Runs Try.prog T0 (.fn 70) [v0] h R X := Runs.fn header_rules_3_t rfl k


/-! 81 landfall/wire.reads[[]byte] -/
abbrev fn_wire_reads___byte_ : FuncId := 81
noncomputable def wire_reads___byte__c : ACode :=
  (.seq (.region [
      ⟨(some 4), .mov (.const (.slice none 0 0)), none, [], false⟩]) (.seq (.seq (.region [
      ⟨(some 5), .mov (.tmp 0), none, [], false⟩,
      ⟨(some 6), .eq .ptr false (so (.binOp .eql 51 (.tmp 5) (.const (.pointer none)) 51) 4) (.tmp 5) (.const (.pointer none)), none, [], false⟩,
      ⟨(some 7), .mov (.tmp 6), none, [], false⟩,
      ⟨(some 8), .mov (.tmp 0), (some (7, false)), [], false⟩,
      ⟨(some 9), .nilCheck (.tmp 8), (some (7, false)), [], false⟩,
      ⟨(some 10), .fieldAddr 4 (.tmp 9), (some (7, false)), [], false⟩,
      ⟨(some 11), .load none (.tmp 10), (some (7, false)), [], false⟩,
      ⟨(some 12), .raw (so (.unOp .not 4 (.tmp 11)) 4), (some (7, false)), [], false⟩,
      ⟨(some 13), .pick (.tmp 7) (.const (.bool true)) (.tmp 12), none, [], false⟩,
      ⟨(some 14), .mov (.tmp 13), none, [], false⟩,
      ⟨(some 15), .mov (.tmp 0), (some (14, false)), [], false⟩,
      ⟨(some 16), .nilCheck (.tmp 15), (some (14, false)), [], false⟩,
      ⟨(some 17), .fieldAddr 2 (.tmp 16), (some (14, false)), [], false⟩,
      ⟨(some 18), .fieldAddr 0 (.tmp 17), (some (14, false)), [], false⟩,
      ⟨(some 19), .load none (.tmp 18), (some (14, false)), [], false⟩,
      ⟨(some 20), .bin .neq (so (.binOp .neq 29 (.tmp 19) (.const (.int .i64 0)) 29) 4) (.tmp 19) (.const (.int .i64 0)), (some (14, false)), [], false⟩,
      ⟨(some 21), .pick (.tmp 14) (.const (.bool true)) (.tmp 20), none, [], false⟩]) (.cond (.tmp 21)
    (.seq (.region [
      ⟨(some 22), .mov (.tmp 4), none, [], false⟩,
      ⟨(some 4), .mov (.tmp 22), none, [], false⟩]) .ret)
    .skip)) (.seq (.region [
      ⟨(some 23), .mov (.tmp 0), none, [], false⟩,
      ⟨none, .defer (.func 85) [(.tmp 23)], none, [], false⟩]) (.seq (.region [
      ⟨(some 24), .mov (.tmp 1), none, [], false⟩,
      ⟨(some 25), .mov (.tmp 0), none, [], false⟩,
      ⟨(some 26), .nilCheck (.tmp 25), none, [], false⟩,
      ⟨(some 27), .fieldAddr 1 (.tmp 26), none, [], false⟩,
      ⟨(some 28), .load none (.tmp 27), none, [], false⟩,
      ⟨(some 29), .callV (.tmp 24) [(.tmp 28)], none, [], false⟩,
      ⟨(some 4), .mov (.tmp 29), none, [], false⟩]) .ret))))
noncomputable def wire_reads___byte_ : AFunc := ⟨30, [(4, none)], wire_reads___byte__c, none⟩
theorem wire_reads___byte__t0 : tableOf Try.prog 81 = some wire_reads___byte_ := by kernel_rfl
theorem wire_reads___byte__t : T0 81 = some wire_reads___byte_ := withKept_t rfl (withTrue_t rfl wire_reads___byte__t0)
theorem wire_reads___byte__runs {v0 v1 : Value} {h : Heap} {R : RP} {X : XP} (k : RunC Try.prog T0 wire_reads___byte__c ⟨[v0, v1, undef, undef, undef, undef, undef, undef, undef, undef, undef, undef, undef, undef, undef, undef, undef, undef, undef, undef, undef, undef, undef, undef, undef, undef, undef, undef, undef, undef], [], h, none⟩ (bodyQ Try.prog T0 [(4, none)] R X)) :
    Runs Try.prog T0 (.fn 81) [v0, v1] h R X := Runs.fn wire_reads___byte__t rfl k


/-! 82 (*landfall/wire.Reader).Bytes$1 -/
abbrev fn_wire_Reader_Bytes_1 : FuncId := 82
noncomputable def wire_Reader_Bytes_1_c : ACode :=
  (.seq (.region [
      ⟨(some 4), .mov (.const (.slice none 0 0)), none, [], false⟩]) (.seq (.region [
      ⟨(some 6), .load none (.tmp 1), none, [], false⟩,
      ⟨(some 7), .mov (.tmp 0), none, [], false⟩,
      ⟨(some 8), .callV (.func 57) [(.tmp 6), (.tmp 7)], none, [], false⟩,
      ⟨(some 5), .mov (.tmp 8), none, [], false⟩]) (.seq (.region [
      ⟨(some 9), .mov (.tmp 5), none, [], false⟩,
      ⟨(some 10), .load none (.tmp 2), none, [], false⟩,
      ⟨(some 11), .raw (so (.call ⟨.builtin .max, #[(.tmp 10), (.const (.int .i64 0))], #[3, 3]⟩) 3), none, [], false⟩,
      ⟨(some 12), .bin .leq (so (.binOp .leq 3 (.tmp 9) (.tmp 11) 3) 4) (.tmp 9) (.tmp 11), none, [], false⟩,
      ⟨(some 13), .mov (.tmp 0), none, [], false⟩,
      ⟨(some 14), .callV (.func 83) [(.tmp 12), (.const (.int .i64 4)), (.tmp 13)], none, [], false⟩]) (.seq (.region [
      ⟨(some 15), .load none (.tmp 1), none, [], false⟩,
      ⟨(some 16), .mov (.tmp 5), none, [], false⟩,
      ⟨(some 17), .mov (.tmp 0), none, [], false⟩,
      ⟨(some 18), .callV (.func 84) [(.tmp 15), (.tmp 16), (.tmp 17), (.func 54)], none, [], false⟩,
      ⟨(some 4), .mov (.tmp 18), none, [], false⟩]) .ret))))
noncomputable def wire_Reader_Bytes_1 : AFunc := ⟨19, [(4, none)], wire_Reader_Bytes_1_c, none⟩
theorem wire_Reader_Bytes_1_t0 : tableOf Try.prog 82 = some wire_Reader_Bytes_1 := by kernel_rfl
theorem wire_Reader_Bytes_1_t : T0 82 = some wire_Reader_Bytes_1 := withKept_t rfl (withTrue_t rfl wire_Reader_Bytes_1_t0)
theorem wire_Reader_Bytes_1_runs {v0 v1 v2 : Value} {h : Heap} {R : RP} {X : XP} (k : RunC Try.prog T0 wire_Reader_Bytes_1_c ⟨[v0, v1, v2, undef, undef, undef, undef, undef, undef, undef, undef, undef, undef, undef, undef, undef, undef, undef, undef], [], h, none⟩ (bodyQ Try.prog T0 [(4, none)] R X)) :
    Runs Try.prog T0 (.fn 82) [v0, v1, v2] h R X := Runs.fn wire_Reader_Bytes_1_t rfl k


/-! 83 landfall/wire.must -/
abbrev fn_wire_must : FuncId := 83
noncomputable def wire_must_c : ACode :=
  (.seq (.region [
      ⟨(some 6), .mov (.tmp 0), none, [], false⟩,
      ⟨(some 7), .raw (so (.unOp .not 4 (.tmp 6)) 4), none, [], false⟩]) (.cond (.tmp 7)
    (.region [
      ⟨(some 8), .mov (.tmp 1), none, [], false⟩,
      ⟨(some 9), .mov (.tmp 2), none, [], false⟩,
      ⟨(some 10), .build [(.int .i64 0), (.int .i64 0)] [(0, 1, (.tmp 8)), (1, 1, (.tmp 9))], none, [], false⟩,
      ⟨(some 11), .build [(.int .i64 0), (.int .i64 0)] [(0, 2, (.tmp 10))], none, [], false⟩,
      ⟨(some 12), .mkIface 137 (.tmp 11), none, [], false⟩,
      ⟨none, .panic (.tmp 12), none, [], false⟩])
    .skip))
noncomputable def wire_must : AFunc := ⟨13, [], wire_must_c, none⟩
theorem wire_must_t0 : tableOf Try.prog 83 = some wire_must := by kernel_rfl
theorem wire_must_t : T0 83 = some wire_must := withKept_t rfl (withTrue_t rfl wire_must_t0)
theorem wire_must_runs {v0 v1 v2 : Value} {h : Heap} {R : RP} {X : XP} (k : RunC Try.prog T0 wire_must_c ⟨[v0, v1, v2, undef, undef, undef, undef, undef, undef, undef, undef, undef, undef], [], h, none⟩ (bodyQ Try.prog T0 [] R X)) :
    Runs Try.prog T0 (.fn 83) [v0, v1, v2] h R X := Runs.fn wire_must_t rfl k


/-! 84 landfall/wire.take[[]byte] -/
abbrev fn_wire_take___byte_ : FuncId := 84
noncomputable def wire_take___byte__c : ACode :=
  (.seq (.region [
      ⟨(some 8), .mov (.const (.slice none 0 0)), none, [], false⟩]) (.seq (.regionD [
      ⟨(some 9), .mov (.tmp 1), none, [], false⟩,
      ⟨(some 10), .mov (.tmp 0), none, [], false⟩,
      ⟨(some 11), .nilCheck (.tmp 10), none, [], false⟩,
      ⟨(some 12), .fieldAddr 0 (.tmp 11), none, [], false⟩,
      ⟨(some 13), .load none (.tmp 12), none, [], false⟩,
      ⟨(some 14), .lenSl (.tmp 13), none, [], false⟩,
      ⟨(some 15), .mov (.tmp 0), none, [], false⟩,
      ⟨(some 16), .nilCheck (.tmp 15), none, [], false⟩,
      ⟨(some 17), .fieldAddr 1 (.tmp 16), none, [], false⟩,
      ⟨(some 18), .load none (.tmp 17), none, [], false⟩,
      ⟨(some 19), .bin .sub (so (.binOp .sub 3 (.tmp 14) (.tmp 18) 3) 3) (.tmp 14) (.tmp 18), none, [], false⟩,
      ⟨(some 20), .bin .leq (so (.binOp .leq 3 (.tmp 9) (.tmp 19) 3) 4) (.tmp 9) (.tmp 19), none, [], false⟩,
      ⟨(some 21), .mov (.tmp 2), none, [], false⟩,
      ⟨(some 22), .callV (.func 83) [(.tmp 20), (.const (.int .i64 6)), (.tmp 21)], none, [], true⟩]) (.seq (.region [
      ⟨(some 23), .mov (.tmp 0), none, [], false⟩,
      ⟨(some 24), .nilCheck (.tmp 23), none, [], false⟩,
      ⟨(some 25), .fieldAddr 1 (.tmp 24), none, [], false⟩,
      ⟨(some 26), .load none (.tmp 25), none, [], false⟩,
      ⟨(some 27), .mov (.tmp 1), none, [], false⟩,
      ⟨(some 28), .bin .add (so (.binOp .add 3 (.tmp 26) (.tmp 27) 3) 3) (.tmp 26) (.tmp 27), none, [], false⟩,
      ⟨(some 29), .nilCheck (.tmp 23), none, [], false⟩,
      ⟨(some 30), .fieldAddr 1 (.tmp 29), none, [], false⟩,
      ⟨none, .store 1 (.tmp 30) (.tmp 28), none, [], false⟩]) (.seq (.regionD [
      ⟨(some 31), .mov (.tmp 3), none, [], false⟩,
      ⟨(some 32), .mov (.tmp 0), none, [], false⟩,
      ⟨(some 33), .nilCheck (.tmp 32), none, [], false⟩,
      ⟨(some 34), .fieldAddr 0 (.tmp 33), none, [], false⟩,
      ⟨(some 35), .load none (.tmp 34), none, [], false⟩,
      ⟨(some 36), .mov (.tmp 0), none, [], false⟩,
      ⟨(some 37), .nilCheck (.tmp 36), none, [], false⟩,
      ⟨(some 38), .fieldAddr 1 (.tmp 37), none, [], false⟩,
      ⟨(some 39), .load none (.tmp 38), none, [], false⟩,
      ⟨(some 40), .mov (.tmp 1), none, [], false⟩,
      ⟨(some 41), .bin .sub (so (.binOp .sub 3 (.tmp 39) (.tmp 40) 3) 3) (.tmp 39) (.tmp 40), none, [], false⟩,
      ⟨(some 42), .mov (.tmp 0), none, [], false⟩,
      ⟨(some 43), .nilCheck (.tmp 42), none, [], false⟩,
      ⟨(some 44), .fieldAddr 1 (.tmp 43), none, [], false⟩,
      ⟨(some 45), .load none (.tmp 44), none, [], false⟩,
      ⟨(some 46), .sliceSl 1 (.tmp 35) (some (.tmp 41)) (some (.tmp 45)) none, none, [], false⟩,
      ⟨(some 47), .callV (.tmp 31) [(.tmp 46)], none, [], true⟩,
      ⟨(some 8), .mov (.tmp 47), none, [], true⟩]) .ret))))
noncomputable def wire_take___byte_ : AFunc := ⟨48, [(8, none)], wire_take___byte__c, none⟩
theorem wire_take___byte__t0 : tableOf Try.prog 84 = some wire_take___byte_ := by kernel_rfl
theorem wire_take___byte__t : T0 84 = some wire_take___byte_ := withKept_t rfl (withTrue_t rfl wire_take___byte__t0)
theorem wire_take___byte__runs {v0 v1 v2 v3 : Value} {h : Heap} {R : RP} {X : XP} (k : RunC Try.prog T0 wire_take___byte__c ⟨[v0, v1, v2, v3, undef, undef, undef, undef, undef, undef, undef, undef, undef, undef, undef, undef, undef, undef, undef, undef, undef, undef, undef, undef, undef, undef, undef, undef, undef, undef, undef, undef, undef, undef, undef, undef, undef, undef, undef, undef, undef, undef, undef, undef, undef, undef, undef, undef], [], h, none⟩ (bodyQ Try.prog T0 [(8, none)] R X)) :
    Runs Try.prog T0 (.fn 84) [v0, v1, v2, v3] h R X := Runs.fn wire_take___byte__t rfl k


/-! 85 (*landfall/wire.Reader).caught -/
abbrev fn_wire_Reader_caught : FuncId := 85
noncomputable def wire_Reader_caught_c : ACode :=
  (.seq (.region [
      ⟨(some 5), .recover, none, [], false⟩,
      ⟨(some 2), .mov (.tmp 5), none, [], false⟩]) (.seq (.region [
      ⟨(some 6), .mov (.tmp 2), none, [], false⟩,
      ⟨(some 7), .eq .iface true (so (.binOp .neq 20 (.tmp 6) (.const .nilIface) 20) 4) (.tmp 6) (.const .nilIface), none, [], false⟩]) (.cond (.tmp 7)
    (.seq (.region [
      ⟨(some 9), .mov (.tmp 2), none, [], false⟩,
      ⟨(some 10), .assertTo 137 (.agg ⟨[(.int .i64 0), (.int .i64 0)]⟩) true (.tmp 9), none, [], false⟩,
      ⟨(some 8), .mov (.tmp 10), none, [], false⟩,
      ⟨(some 11), .extract 0 (.tmp 8), none, [], false⟩,
      ⟨(some 12), .extract 1 (.tmp 8), none, [], false⟩,
      ⟨(some 3), .alloc 137 [(.int .i64 0), (.int .i64 0)], none, [], false⟩,
      ⟨none, .store 2 (.tmp 3) (.tmp 11), none, [], false⟩,
      ⟨(some 4), .mov (.tmp 12), none, [], false⟩]) (.seq (.seq (.region [
      ⟨(some 13), .mov (.tmp 4), none, [], false⟩,
      ⟨(some 14), .raw (so (.unOp .not 4 (.tmp 13)) 4), none, [], false⟩]) (.cond (.tmp 14)
    (.region [
      ⟨(some 15), .mov (.tmp 2), none, [], false⟩,
      ⟨none, .panic (.tmp 15), none, [], false⟩])
    .skip)) (.region [
      ⟨(some 16), .mov (.tmp 0), none, [], false⟩,
      ⟨(some 17), .fieldAddr 0 (.tmp 3), none, [], false⟩,
      ⟨(some 18), .load (some 2) (.tmp 17), none, [], false⟩,
      ⟨(some 19), .nilCheck (.tmp 16), none, [], false⟩,
      ⟨(some 20), .fieldAddr 2 (.tmp 19), none, [], false⟩,
      ⟨none, .store 2 (.tmp 20) (.tmp 18), none, [], false⟩])))
    .skip)))
noncomputable def wire_Reader_caught : AFunc := ⟨21, [], wire_Reader_caught_c, none⟩
theorem wire_Reader_caught_t0 : tableOf Try.prog 85 = some wire_Reader_caught := by kernel_rfl
theorem wire_Reader_caught_t : T0 85 = some wire_Reader_caught := withKept_t rfl (withTrue_t rfl wire_Reader_caught_t0)
theorem wire_Reader_caught_runs {v0 : Value} {h : Heap} {R : RP} {X : XP} (k : RunC Try.prog T0 wire_Reader_caught_c ⟨[v0, undef, undef, undef, undef, undef, undef, undef, undef, undef, undef, undef, undef, undef, undef, undef, undef, undef, undef, undef, undef], [], h, none⟩ (bodyQ Try.prog T0 [] R X)) :
    Runs Try.prog T0 (.fn 85) [v0] h R X := Runs.fn wire_Reader_caught_t rfl k
theorem wire_Reader_caught_df {v0 : Value} {u : FrameMode} {h : Heap} {R : FrameMode → Heap → Prop} {X : List PanicEntry → FrameMode → Heap → Prop} (k : RunT Try.prog T0 wire_Reader_caught_c ⟨⟨[v0, undef, undef, undef, undef, undef, undef, undef, undef, undef, undef, undef, undef, undef, undef, undef, undef, undef, undef, undef, undef], [], h, none⟩, u⟩ (doneQ [] R X)) :
    RunDf Try.prog T0 85 [v0] u h R X := RunDf.fn wire_Reader_caught_t rfl k


/-! 86 landfall/wire.take[uint64] -/
abbrev fn_wire_take_uint64_ : FuncId := 86
noncomputable def wire_take_uint64__c : ACode :=
  (.seq (.region [
      ⟨(some 8), .mov (.const (.int .u64 0)), none, [], false⟩]) (.seq (.regionD [
      ⟨(some 9), .mov (.tmp 1), none, [], false⟩,
      ⟨(some 10), .mov (.tmp 0), none, [], false⟩,
      ⟨(some 11), .nilCheck (.tmp 10), none, [], false⟩,
      ⟨(some 12), .fieldAddr 0 (.tmp 11), none, [], false⟩,
      ⟨(some 13), .load none (.tmp 12), none, [], false⟩,
      ⟨(some 14), .lenSl (.tmp 13), none, [], false⟩,
      ⟨(some 15), .mov (.tmp 0), none, [], false⟩,
      ⟨(some 16), .nilCheck (.tmp 15), none, [], false⟩,
      ⟨(some 17), .fieldAddr 1 (.tmp 16), none, [], false⟩,
      ⟨(some 18), .load none (.tmp 17), none, [], false⟩,
      ⟨(some 19), .bin .sub (so (.binOp .sub 3 (.tmp 14) (.tmp 18) 3) 3) (.tmp 14) (.tmp 18), none, [], false⟩,
      ⟨(some 20), .bin .leq (so (.binOp .leq 3 (.tmp 9) (.tmp 19) 3) 4) (.tmp 9) (.tmp 19), none, [], false⟩,
      ⟨(some 21), .mov (.tmp 2), none, [], false⟩,
      ⟨(some 22), .callV (.func 83) [(.tmp 20), (.const (.int .i64 6)), (.tmp 21)], none, [], true⟩]) (.seq (.region [
      ⟨(some 23), .mov (.tmp 0), none, [], false⟩,
      ⟨(some 24), .nilCheck (.tmp 23), none, [], false⟩,
      ⟨(some 25), .fieldAddr 1 (.tmp 24), none, [], false⟩,
      ⟨(some 26), .load none (.tmp 25), none, [], false⟩,
      ⟨(some 27), .mov (.tmp 1), none, [], false⟩,
      ⟨(some 28), .bin .add (so (.binOp .add 3 (.tmp 26) (.tmp 27) 3) 3) (.tmp 26) (.tmp 27), none, [], false⟩,
      ⟨(some 29), .nilCheck (.tmp 23), none, [], false⟩,
      ⟨(some 30), .fieldAddr 1 (.tmp 29), none, [], false⟩,
      ⟨none, .store 1 (.tmp 30) (.tmp 28), none, [], false⟩]) (.seq (.regionD [
      ⟨(some 31), .mov (.tmp 3), none, [], false⟩,
      ⟨(some 32), .mov (.tmp 0), none, [], false⟩,
      ⟨(some 33), .nilCheck (.tmp 32), none, [], false⟩,
      ⟨(some 34), .fieldAddr 0 (.tmp 33), none, [], false⟩,
      ⟨(some 35), .load none (.tmp 34), none, [], false⟩,
      ⟨(some 36), .mov (.tmp 0), none, [], false⟩,
      ⟨(some 37), .nilCheck (.tmp 36), none, [], false⟩,
      ⟨(some 38), .fieldAddr 1 (.tmp 37), none, [], false⟩,
      ⟨(some 39), .load none (.tmp 38), none, [], false⟩,
      ⟨(some 40), .mov (.tmp 1), none, [], false⟩,
      ⟨(some 41), .bin .sub (so (.binOp .sub 3 (.tmp 39) (.tmp 40) 3) 3) (.tmp 39) (.tmp 40), none, [], false⟩,
      ⟨(some 42), .mov (.tmp 0), none, [], false⟩,
      ⟨(some 43), .nilCheck (.tmp 42), none, [], false⟩,
      ⟨(some 44), .fieldAddr 1 (.tmp 43), none, [], false⟩,
      ⟨(some 45), .load none (.tmp 44), none, [], false⟩,
      ⟨(some 46), .sliceSl 1 (.tmp 35) (some (.tmp 41)) (some (.tmp 45)) none, none, [], false⟩,
      ⟨(some 47), .callV (.tmp 31) [(.tmp 46)], none, [], true⟩,
      ⟨(some 8), .mov (.tmp 47), none, [], true⟩]) .ret))))
noncomputable def wire_take_uint64_ : AFunc := ⟨48, [(8, none)], wire_take_uint64__c, none⟩
theorem wire_take_uint64__t0 : tableOf Try.prog 86 = some wire_take_uint64_ := by kernel_rfl
theorem wire_take_uint64__t : T0 86 = some wire_take_uint64_ := withKept_t rfl (withTrue_t rfl wire_take_uint64__t0)
theorem wire_take_uint64__runs {v0 v1 v2 v3 : Value} {h : Heap} {R : RP} {X : XP} (k : RunC Try.prog T0 wire_take_uint64__c ⟨[v0, v1, v2, v3, undef, undef, undef, undef, undef, undef, undef, undef, undef, undef, undef, undef, undef, undef, undef, undef, undef, undef, undef, undef, undef, undef, undef, undef, undef, undef, undef, undef, undef, undef, undef, undef, undef, undef, undef, undef, undef, undef, undef, undef, undef, undef, undef, undef], [], h, none⟩ (bodyQ Try.prog T0 [(8, none)] R X)) :
    Runs Try.prog T0 (.fn 86) [v0, v1, v2, v3] h R X := Runs.fn wire_take_uint64__t rfl k


/-! 87 landfall/wire.big -/
abbrev fn_wire_big : FuncId := 87
noncomputable def wire_big_l0 : ACode :=
  (.seq (.region [
      ⟨(some 8), .bin .lss (so (.binOp .lss 3 (.tmp 7) (.tmp 6) 3) 0) (.tmp 7) (.tmp 6), none, [], false⟩]) (.seq (.cond (.tmp 8)
    .skip
    (.exit 0)) (.seq (.block 1 (.seq (.region [
      ⟨(some 9), .indexSl 1 (.tmp 5) (.tmp 7), none, [], false⟩,
      ⟨(some 10), .load none (.tmp 9), none, [], false⟩,
      ⟨(some 4), .mov (.tmp 10), none, [], false⟩]) (.region [
      ⟨(some 11), .mov (.tmp 2), none, [], false⟩,
      ⟨(some 12), .bin .shl (so (.binOp .shl 117 (.tmp 11) (.const (.int .u64 8)) 104) 117) (.tmp 11) (.const (.int .u64 8)), none, [], false⟩,
      ⟨(some 13), .mov (.tmp 4), none, [], false⟩,
      ⟨(some 14), .conv .u64 (so (.convert 5 117 (.tmp 13)) 117) (.tmp 13), none, [], false⟩,
      ⟨(some 15), .bin .or (so (.binOp .or 117 (.tmp 12) (.tmp 14) 117) 117) (.tmp 12) (.tmp 14), none, [], false⟩,
      ⟨(some 2), .mov (.tmp 15), none, [], false⟩]))) (.region [
      ⟨(some 16), .bin .add (so (.binOp .add 3 (.tmp 7) (.const (.int .i64 1)) 3) 3) (.tmp 7) (.const (.int .i64 1)), none, [], false⟩,
      ⟨(some 7), .mov (.tmp 16), none, [], false⟩]))))
noncomputable def wire_big_c : ACode :=
  (.seq (.region [
      ⟨(some 2), .mov (.const (.int .u64 0)), none, [], false⟩]) (.seq (.seq (.region [
      ⟨(some 5), .mov (.tmp 0), none, [], false⟩,
      ⟨(some 6), .lenSl (.tmp 5), none, [], false⟩,
      ⟨(some 7), .mov (.const (.int .i64 0)), none, [], false⟩]) (.block 0 (.loop wire_big_l0))) (.seq (.region [
      ⟨(some 17), .mov (.tmp 2), none, [], false⟩,
      ⟨(some 2), .mov (.tmp 17), none, [], false⟩]) .ret)))
noncomputable def wire_big : AFunc := ⟨18, [(2, none)], wire_big_c, none⟩
theorem wire_big_t0 : tableOf Try.prog 87 = some wire_big := by kernel_rfl
theorem wire_big_t : T0 87 = some wire_big := withKept_t rfl (withTrue_t rfl wire_big_t0)
theorem wire_big_runs {v0 : Value} {h : Heap} {R : RP} {X : XP} (k : RunC Try.prog T0 wire_big_c ⟨[v0, undef, undef, undef, undef, undef, undef, undef, undef, undef, undef, undef, undef, undef, undef, undef, undef, undef], [], h, none⟩ (bodyQ Try.prog T0 [(2, none)] R X)) :
    Runs Try.prog T0 (.fn 87) [v0] h R X := Runs.fn wire_big_t rfl k
/-- the slots that turn in the loop: v2 v7 -/
noncomputable def wire_big_l0_J (f0 f1 f3 f5 f6 f17 : Value) (ds : List Deferred) (rd : Option Nat) (I : Nat → Value → Value → Heap → Prop) (m : Nat) (s : St) : Prop := ∃ (v2 v7 : Value), ∃ h : Heap, ∃ (x4 x8 x9 x10 x11 x12 x13 x14 x15 x16 : Value), s = ⟨[f0, f1, v2, f3, x4, f5, f6, v7, x8, x9, x10, x11, x12, x13, x14, x15, x16, f17], ds, h, rd⟩ ∧ I m v2 v7 h
theorem wire_big_l0_rule {f0 f1 f3 f5 f6 f17 : Value} {ds : List Deferred} {rd : Option Nat} {Q : QP} (I : Nat → Value → Value → Heap → Prop) (hb : ∀ (m : Nat) (v2 v7 : Value) (h : Heap) (x4 x8 x9 x10 x11 x12 x13 x14 x15 x16 : Value) , I m v2 v7 h → RunC Try.prog T0 wire_big_l0 ⟨[f0, f1, v2, f3, x4, f5, f6, v7, x8, x9, x10, x11, x12, x13, x14, x15, x16, f17], ds, h, rd⟩ (loopQ (wire_big_l0_J f0 f1 f3 f5 f6 f17 ds rd I) m Q))
    (m : Nat) {v2 v7 : Value} {h : Heap} {x4 x8 x9 x10 x11 x12 x13 x14 x15 x16 : Value} (hi : I m v2 v7 h) : RunC Try.prog T0 (.loop wire_big_l0) ⟨[f0, f1, v2, f3, x4, f5, f6, v7, x8, x9, x10, x11, x12, x13, x14, x15, x16, f17], ds, h, rd⟩ Q :=
  RunC.loopJ (wire_big_l0_J f0 f1 f3 f5 f6 f17 ds rd I) (fun m s hj => by obtain ⟨v2, v7, h, x4, x8, x9, x10, x11, x12, x13, x14, x15, x16, rfl, hi⟩ := hj; exact hb m v2 v7 h x4 x8 x9 x10 x11 x12 x13 x14 x15 x16 hi) m _ ⟨_, _, h, _, _, _, _, _, _, _, _, _, _, rfl, hi⟩
theorem wire_big_l0_again {f0 f1 f3 f5 f6 f17 : Value} {ds : List Deferred} {rd : Option Nat} {Q : QP} {I : Nat → Value → Value → Heap → Prop} {m : Nat} (m' : Nat) {v2 v7 : Value} {h : Heap} {x4 x8 x9 x10 x11 x12 x13 x14 x15 x16 : Value} (hm : m' < m) (hi : I m' v2 v7 h) : loopQ (wire_big_l0_J f0 f1 f3 f5 f6 f17 ds rd I) m Q .normal ⟨[f0, f1, v2, f3, x4, f5, f6, v7, x8, x9, x10, x11, x12, x13, x14, x15, x16, f17], ds, h, rd⟩ :=
  loopQ.again m' hm ⟨_, _, h, _, _, _, _, _, _, _, _, _, _, rfl, hi⟩

/-! 88 (*landfall/wire.Reader).num$1 -/
abbrev fn_wire_Reader_num_1 : FuncId := 88
noncomputable def wire_Reader_num_1_c : ACode :=
  (.seq (.region [
      ⟨(some 4), .mov (.const (.int .u64 0)), none, [], false⟩]) (.seq (.seq (.region [
      ⟨(some 5), .load none (.tmp 1), none, [], false⟩,
      ⟨(some 6), .bin .gtr (so (.binOp .gtr 3 (.tmp 5) (.const (.int .i64 0)) 3) 4) (.tmp 5) (.const (.int .i64 0)), none, [], false⟩]) (.cond (.tmp 6)
    (.region [
      ⟨(some 7), .mov (.tmp 0), none, [], false⟩,
      ⟨(some 8), .indexSl 1 (.tmp 7) (.const (.int .i64 0)), none, [], false⟩,
      ⟨(some 9), .load none (.tmp 8), none, [], false⟩,
      ⟨none, .store 1 (.tmp 2) (.tmp 9), none, [], false⟩])
    .skip)) (.seq (.region [
      ⟨(some 10), .mov (.tmp 0), none, [], false⟩,
      ⟨(some 11), .callV (.func 87) [(.tmp 10)], none, [], false⟩,
      ⟨(some 4), .mov (.tmp 11), none, [], false⟩]) .ret)))
noncomputable def wire_Reader_num_1 : AFunc := ⟨12, [(4, none)], wire_Reader_num_1_c, none⟩
theorem wire_Reader_num_1_t0 : tableOf Try.prog 88 = some wire_Reader_num_1 := by kernel_rfl
theorem wire_Reader_num_1_t : T0 88 = some wire_Reader_num_1 := withKept_t rfl (withTrue_t rfl wire_Reader_num_1_t0)
theorem wire_Reader_num_1_runs {v0 v1 v2 : Value} {h : Heap} {R : RP} {X : XP} (k : RunC Try.prog T0 wire_Reader_num_1_c ⟨[v0, v1, v2, undef, undef, undef, undef, undef, undef, undef, undef, undef], [], h, none⟩ (bodyQ Try.prog T0 [(4, none)] R X)) :
    Runs Try.prog T0 (.fn 88) [v0, v1, v2] h R X := Runs.fn wire_Reader_num_1_t rfl k


/-! 89 (*landfall/landfallref04.Reader).Bytes -/
abbrev fn_landfallref04_Reader_Bytes : FuncId := 89
noncomputable def landfallref04_Reader_Bytes_c : ACode :=
  (.seq (.region [
      ⟨(some 4), .mov (.const (.slice none 0 0)), none, [], false⟩]) (.seq (.region [
      ⟨(some 7), .mov (.tmp 0), none, [], false⟩,
      ⟨(some 8), .nilCheck (.tmp 7), none, [], false⟩,
      ⟨(some 9), .fieldAddr 1 (.tmp 8), none, [], false⟩,
      ⟨(some 10), .load none (.tmp 9), none, [], false⟩,
      ⟨(some 5), .mov (.tmp 10), none, [], false⟩]) (.seq (.region [
      ⟨(some 11), .mov (.tmp 0), none, [], false⟩,
      ⟨(some 12), .callV (.func 63) [(.tmp 11)], none, [], false⟩,
      ⟨(some 6), .mov (.tmp 12), none, [], false⟩]) (.seq (.seq (.region [
      ⟨(some 13), .mov (.tmp 6), none, [], false⟩,
      ⟨(some 14), .mov (.tmp 1), none, [], false⟩,
      ⟨(some 15), .raw (so (.call ⟨.builtin .max, #[(.tmp 14), (.const (.int .i64 0))], #[3, 3]⟩) 3), none, [], false⟩,
      ⟨(some 16), .bin .gtr (so (.binOp .gtr 3 (.tmp 13) (.tmp 15) 3) 4) (.tmp 13) (.tmp 15), none, [], false⟩]) (.cond (.tmp 16)
    (.region [
      ⟨(some 17), .mov (.tmp 0), none, [], false⟩,
      ⟨(some 18), .mov (.tmp 5), none, [], false⟩,
      ⟨(some 19), .callV (.func 91) [(.tmp 17), (.const (.int .i64 4)), (.tmp 18)], none, [], false⟩])
    .skip)) (.seq (.region [
      ⟨(some 20), .mov (.tmp 0), none, [], false⟩,
      ⟨(some 21), .mov (.tmp 6), none, [], false⟩,
      ⟨(some 22), .mov (.tmp 5), none, [], false⟩,
      ⟨(some 23), .callV (.func 90) [(.tmp 20), (.tmp 21), (.tmp 22)], none, [], false⟩,
      ⟨(some 4), .mov (.tmp 23), none, [], false⟩]) .ret)))))
noncomputable def landfallref04_Reader_Bytes : AFunc := ⟨24, [(4, none)], landfallref04_Reader_Bytes_c, none⟩
theorem landfallref04_Reader_Bytes_t0 : tableOf Try.prog 89 = some landfallref04_Reader_Bytes := by kernel_rfl
theorem landfallref04_Reader_Bytes_t : T0 89 = some landfallref04_Reader_Bytes := withKept_t rfl (withTrue_t rfl landfallref04_Reader_Bytes_t0)
theorem landfallref04_Reader_Bytes_runs {v0 v1 : Value} {h : Heap} {R : RP} {X : XP} (k : RunC Try.prog T0 landfallref04_Reader_Bytes_c ⟨[v0, v1, undef, undef, undef, undef, undef, undef, undef, undef, undef, undef, undef, undef, undef, undef, undef, undef, undef, undef, undef, undef, undef, undef], [], h, none⟩ (bodyQ Try.prog T0 [(4, none)] R X)) :
    Runs Try.prog T0 (.fn 89) [v0, v1] h R X := Runs.fn landfallref04_Reader_Bytes_t rfl k


/-! 90 (*landfall/landfallref04.Reader).take -/
abbrev fn_landfallref04_Reader_take : FuncId := 90
noncomputable def landfallref04_Reader_take_c : ACode :=
  (.seq (.region [
      ⟨(some 6), .mov (.const (.slice none 0 0)), none, [], false⟩]) (.seq (.seq (.region [
      ⟨(some 8), .mov (.tmp 0), none, [], false⟩,
      ⟨(some 9), .nilCheck (.tmp 8), none, [], false⟩,
      ⟨(some 10), .fieldAddr 2 (.tmp 9), none, [], false⟩,
      ⟨(some 11), .fieldAddr 0 (.tmp 10), none, [], false⟩,
      ⟨(some 12), .load none (.tmp 11), none, [], false⟩,
      ⟨(some 13), .bin .neq (so (.binOp .neq 29 (.tmp 12) (.const (.int .i64 0)) 29) 4) (.tmp 12) (.const (.int .i64 0)), none, [], false⟩]) (.cond (.tmp 13)
    (.seq (.region [
      ⟨(some 6), .mov (.const (.slice none 0 0)), none, [], false⟩]) .ret)
    .skip)) (.seq (.seq (.regionD [
      ⟨(some 14), .mov (.tmp 1), none, [], false⟩,
      ⟨(some 15), .mov (.tmp 0), none, [], false⟩,
      ⟨(some 16), .nilCheck (.tmp 15), none, [], false⟩,
      ⟨(some 17), .fieldAddr 0 (.tmp 16), none, [], false⟩,
      ⟨(some 18), .load none (.tmp 17), none, [], false⟩,
      ⟨(some 19), .lenSl (.tmp 18), none, [], false⟩,
      ⟨(some 20), .mov (.tmp 0), none, [], false⟩,
      ⟨(some 21), .nilCheck (.tmp 20), none, [], false⟩,
      ⟨(some 22), .fieldAddr 1 (.tmp 21), none, [], false⟩,
      ⟨(some 23), .load none (.tmp 22), none, [], false⟩,
      ⟨(some 24), .bin .sub (so (.binOp .sub 3 (.tmp 19) (.tmp 23) 3) 3) (.tmp 19) (.tmp 23), none, [], false⟩,
      ⟨(some 25), .bin .gtr (so (.binOp .gtr 3 (.tmp 14) (.tmp 24) 3) 4) (.tmp 14) (.tmp 24), none, [], true⟩]) (.cond (.tmp 25)
    (.seq (.region [
      ⟨(some 26), .mov (.tmp 0), none, [], false⟩,
      ⟨(some 27), .mov (.tmp 2), none, [], false⟩,
      ⟨(some 28), .callV (.func 91) [(.tmp 26), (.const (.int .i64 6)), (.tmp 27)], none, [], false⟩]) (.seq (.region [
      ⟨(some 6), .mov (.const (.slice none 0 0)), none, [], false⟩]) .ret))
    .skip)) (.seq (.regionD [
      ⟨(some 30), .mov (.tmp 0), none, [], false⟩,
      ⟨(some 31), .nilCheck (.tmp 30), none, [], false⟩,
      ⟨(some 32), .fieldAddr 0 (.tmp 31), none, [], false⟩,
      ⟨(some 33), .load none (.tmp 32), none, [], false⟩,
      ⟨(some 34), .mov (.tmp 0), none, [], false⟩,
      ⟨(some 35), .nilCheck (.tmp 34), none, [], false⟩,
      ⟨(some 36), .fieldAddr 1 (.tmp 35), none, [], false⟩,
      ⟨(some 37), .load none (.tmp 36), none, [], false⟩,
      ⟨(some 38), .mov (.tmp 0), none, [], false⟩,
      ⟨(some 39), .nilCheck (.tmp 38), none, [], false⟩,
      ⟨(some 40), .fieldAddr 1 (.tmp 39), none, [], false⟩,
      ⟨(some 41), .load none (.tmp 40), none, [], false⟩,
      ⟨(some 42), .mov (.tmp 1), none, [], false⟩,
      ⟨(some 43), .bin .add (so (.binOp .add 3 (.tmp 41) (.tmp 42) 3) 3) (.tmp 41) (.tmp 42), none, [], false⟩,
      ⟨(some 44), .sliceSl 1 (.tmp 33) (some (.tmp 37)) (some (.tmp 43)) none, none, [], false⟩,
      ⟨(some 29), .buildSlice 5 [] 0 [], none, [((some 44), .sliceSl 1 (.tmp 33) (some (.tmp 37)) (some (.tmp 43)) none, none), ((some 43), .bin .add (so (.binOp .add 3 (.tmp 41) (.tmp 42) 3) 3) (.tmp 41) (.tmp 42), none), ((some 42), .mov (.tmp 1), none), ((some 41), .load none (.tmp 40), none), ((some 40), .fieldAddr 1 (.tmp 39), none), ((some 39), .nilCheck (.tmp 38), none), ((some 38), .mov (.tmp 0), none), ((some 37), .load none (.tmp 36), none), ((some 36), .fieldAddr 1 (.tmp 35), none), ((some 35), .nilCheck (.tmp 34), none), ((some 34), .mov (.tmp 0), none), ((some 33), .load none (.tmp 32), none), ((some 32), .fieldAddr 0 (.tmp 31), none), ((some 31), .nilCheck (.tmp 30), none), ((some 30), .mov (.tmp 0), none)], false⟩,
      ⟨(some 45), .append 5 1 1 [(.int .u8 0)] false (.tmp 29) (.tmp 44), none, [], true⟩,
      ⟨(some 7), .mov (.tmp 45), none, [], true⟩]) (.seq (.region [
      ⟨(some 46), .mov (.tmp 0), none, [], false⟩,
      ⟨(some 47), .mov (.tmp 0), none, [], false⟩,
      ⟨(some 48), .nilCheck (.tmp 47), none, [], false⟩,
      ⟨(some 49), .fieldAddr 1 (.tmp 48), none, [], false⟩,
      ⟨(some 50), .load none (.tmp 49), none, [], false⟩,
      ⟨(some 51), .mov (.tmp 1), none, [], false⟩,
      ⟨(some 52), .bin .add (so (.binOp .add 3 (.tmp 50) (.tmp 51) 3) 3) (.tmp 50) (.tmp 51), none, [], false⟩,
      ⟨(some 53), .nilCheck (.tmp 46), none, [], false⟩,
      ⟨(some 54), .fieldAddr 1 (.tmp 53), none, [], false⟩,
      ⟨none, .store 1 (.tmp 54) (.tmp 52), none, [], false⟩]) (.seq (.region [
      ⟨(some 55), .mov (.tmp 7), none, [], false⟩,
      ⟨(some 6), .mov (.tmp 55), none, [], false⟩]) .ret))))))
noncomputable def landfallref04_Reader_take : AFunc := ⟨56, [(6, none)], landfallref04_Reader_take_c, none⟩
theorem landfallref04_Reader_take_t0 : tableOf Try.prog 90 = some landfallref04_Reader_take := by kernel_rfl
theorem landfallref04_Reader_take_t : T0 90 = some landfallref04_Reader_take := withKept_t rfl (withTrue_t rfl landfallref04_Reader_take_t0)
theorem landfallref04_Reader_take_runs {v0 v1 v2 : Value} {h : Heap} {R : RP} {X : XP} (k : RunC Try.prog T0 landfallref04_Reader_take_c ⟨[v0, v1, v2, undef, undef, undef, undef, undef, undef, undef, undef, undef, undef, undef, undef, undef, undef, undef, undef, undef, undef, undef, undef, undef, undef, undef, undef, undef, undef, undef, undef, undef, undef, undef, undef, undef, undef, undef, undef, undef, undef, undef, undef, undef, undef, undef, undef, undef, undef, undef, undef, undef, undef, undef, undef, undef], [], h, none⟩ (bodyQ Try.prog T0 [(6, none)] R X)) :
    Runs Try.prog T0 (.fn 90) [v0, v1, v2] h R X := Runs.fn landfallref04_Reader_take_t rfl k


/-! 91 (*landfall/landfallref04.Reader).Fails -/
abbrev fn_landfallref04_Reader_Fails : FuncId := 91
noncomputable def landfallref04_Reader_Fails_c : ACode :=
  (.seq (.region [
      ⟨(some 6), .mov (.tmp 0), none, [], false⟩,
      ⟨(some 7), .nilCheck (.tmp 6), none, [], false⟩,
      ⟨(some 8), .fieldAddr 2 (.tmp 7), none, [], false⟩,
      ⟨(some 9), .fieldAddr 0 (.tmp 8), none, [], false⟩,
      ⟨(some 10), .load none (.tmp 9), none, [], false⟩,
      ⟨(some 11), .bin .eql (so (.binOp .eql 29 (.tmp 10) (.const (.int .i64 0)) 29) 4) (.tmp 10) (.const (.int .i64 0)), none, [], false⟩]) (.cond (.tmp 11)
    (.region [
      ⟨(some 12), .mov (.tmp 0), none, [], false⟩,
      ⟨(some 13), .mov (.tmp 1), none, [], false⟩,
      ⟨(some 14), .mov (.tmp 2), none, [], false⟩,
      ⟨(some 15), .build [(.int .i64 0), (.int .i64 0)] [(0, 1, (.tmp 13)), (1, 1, (.tmp 14))], none, [], false⟩,
      ⟨(some 16), .nilCheck (.tmp 12), none, [], false⟩,
      ⟨(some 17), .fieldAddr 2 (.tmp 16), none, [], false⟩,
      ⟨none, .store 2 (.tmp 17) (.tmp 15), none, [], false⟩])
    .skip))
noncomputable def landfallref04_Reader_Fails : AFunc := ⟨18, [], landfallref04_Reader_Fails_c, none⟩
theorem landfallref04_Reader_Fails_t0 : tableOf Try.prog 91 = some landfallref04_Reader_Fails := by kernel_rfl
theorem landfallref04_Reader_Fails_t : T0 91 = some landfallref04_Reader_Fails := withKept_t rfl (withTrue_t rfl landfallref04_Reader_Fails_t0)
theorem landfallref04_Reader_Fails_runs {v0 v1 v2 : Value} {h : Heap} {R : RP} {X : XP} (k : RunC Try.prog T0 landfallref04_Reader_Fails_c ⟨[v0, v1, v2, undef, undef, undef, undef, undef, undef, undef, undef, undef, undef, undef, undef, undef, undef, undef], [], h, none⟩ (bodyQ Try.prog T0 [] R X)) :
    Runs Try.prog T0 (.fn 91) [v0, v1, v2] h R X := Runs.fn landfallref04_Reader_Fails_t rfl k


noncomputable def table : TT :=
  (.node (.node (.node (.node (.node (.node .nil 3 landfalllaw06_HeaderDecodes .nil) 10 landfallkit_LentBytes .nil) 11 header_Decode (.node (.node .nil 12 landfallref06_Decode .nil) 13 landfallkit_KeptBytes .nil)) 17 header_Name (.node (.node (.node .nil 19 header_Check .nil) 26 landfallref06_Check .nil) 27 landfallref06_Name (.node (.node .nil 30 wire_NewReader .nil) 31 wire_Reader_Text .nil))) 32 wire_Reader_Num (.node (.node (.node (.node .nil 33 header_hashes .nil) 34 wire_Reader_Hash .nil) 35 wire_Reader_End (.node (.node .nil 36 landfallref04_NewReader .nil) 37 landfallref06_Get .nil)) 38 landfallref04_Reader_End (.node (.node (.node .nil 44 header_each .nil) 45 header_plain .nil) 46 header_rules (.node (.node .nil 54 slices_Clone___byte_byte_ .nil) 55 wire_Reader_Bytes .nil)))) 56 wire_reads_int_ (.node (.node (.node (.node (.node .nil 57 wire_Reader_num .nil) 58 wire_reads_api_Hash_ .nil) 59 wire_Reader_Hash_1 (.node (.node .nil 60 wire_take_api_Hash_ .nil) 61 wire_Reader_Hash_1_1 .nil)) 62 landfallref04_Reader_Text (.node (.node (.node .nil 63 landfallref04_Reader_Num .nil) 64 landfallref04_Reader_Hash .nil) 68 header_rules_1 (.node (.node .nil 69 header_rules_2 .nil) 70 header_rules_3 .nil))) 81 wire_reads___byte_ (.node (.node (.node (.node .nil 82 wire_Reader_Bytes_1 .nil) 83 wire_must .nil) 84 wire_take___byte_ (.node (.node .nil 85 wire_Reader_caught .nil) 86 wire_take_uint64_ .nil)) 87 wire_big (.node (.node (.node .nil 88 wire_Reader_num_1 .nil) 89 landfallref04_Reader_Bytes .nil) 90 landfallref04_Reader_take (.node .nil 91 landfallref04_Reader_Fails .nil)))))
theorem table_all : table.All Try.prog := ⟨wire_reads_int__t0, ⟨wire_Reader_Num_t0, ⟨header_Name_t0, ⟨header_Decode_t0, ⟨landfallkit_LentBytes_t0, ⟨landfalllaw06_HeaderDecodes_t0, trivial, trivial⟩, trivial⟩, ⟨landfallkit_KeptBytes_t0, ⟨landfallref06_Decode_t0, trivial, trivial⟩, trivial⟩⟩, ⟨landfallref06_Name_t0, ⟨landfallref06_Check_t0, ⟨header_Check_t0, trivial, trivial⟩, trivial⟩, ⟨wire_Reader_Text_t0, ⟨wire_NewReader_t0, trivial, trivial⟩, trivial⟩⟩⟩, ⟨landfallref04_Reader_End_t0, ⟨wire_Reader_End_t0, ⟨wire_Reader_Hash_t0, ⟨header_hashes_t0, trivial, trivial⟩, trivial⟩, ⟨landfallref06_Get_t0, ⟨landfallref04_NewReader_t0, trivial, trivial⟩, trivial⟩⟩, ⟨header_rules_t0, ⟨header_plain_t0, ⟨header_each_t0, trivial, trivial⟩, trivial⟩, ⟨wire_Reader_Bytes_t0, ⟨slices_Clone___byte_byte__t0, trivial, trivial⟩, trivial⟩⟩⟩⟩, ⟨wire_reads___byte__t0, ⟨landfallref04_Reader_Text_t0, ⟨wire_Reader_Hash_1_t0, ⟨wire_reads_api_Hash__t0, ⟨wire_Reader_num_t0, trivial, trivial⟩, trivial⟩, ⟨wire_Reader_Hash_1_1_t0, ⟨wire_take_api_Hash__t0, trivial, trivial⟩, trivial⟩⟩, ⟨header_rules_1_t0, ⟨landfallref04_Reader_Hash_t0, ⟨landfallref04_Reader_Num_t0, trivial, trivial⟩, trivial⟩, ⟨header_rules_3_t0, ⟨header_rules_2_t0, trivial, trivial⟩, trivial⟩⟩⟩, ⟨wire_big_t0, ⟨wire_take___byte__t0, ⟨wire_must_t0, ⟨wire_Reader_Bytes_1_t0, trivial, trivial⟩, trivial⟩, ⟨wire_take_uint64__t0, ⟨wire_Reader_caught_t0, trivial, trivial⟩, trivial⟩⟩, ⟨landfallref04_Reader_take_t0, ⟨landfallref04_Reader_Bytes_t0, ⟨wire_Reader_num_1_t0, trivial, trivial⟩, trivial⟩, ⟨landfallref04_Reader_Fails_t0, trivial, trivial⟩⟩⟩⟩⟩
end Go.Proofs.Ytcapkoclbmaahaa.A
