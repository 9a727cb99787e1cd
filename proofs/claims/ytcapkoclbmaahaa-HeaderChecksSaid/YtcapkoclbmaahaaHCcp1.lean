/- Functions of the program, as the machine has them: written by a program of mine (GenVm.lean), each held against the given program by the kernel. -/
import Derived.Test.YtcapkoclbmaahaaRows
import Derived.Test.YtcapkoclbmaahaaVJ
set_option maxRecDepth 100000
set_option linter.unusedVariables false
namespace Go.Proofs.Ytcapkoclbmaahaa.A
open Go Go.Vm

abbrev ty_internal_abi_BoundsErrorCode : TypeId := 6
abbrev ty_runtime_boundsError : TypeId := 8
abbrev ty_runtime_errorString : TypeId := 10
abbrev ty_runtime_plainError : TypeId := 11
abbrev ty_runtime_errorAddressString : TypeId := 14
abbrev ty_internal_runtime_maps_unhashableTypeError : TypeId := 19
abbrev ty_api_Hash : TypeId := 26
abbrev ty_api_Header : TypeId := 28
abbrev ty_api_Errno : TypeId := 29
abbrev ty_api_Fault : TypeId := 31
abbrev ty_header_rule : TypeId := 76
abbrev ty_wire_Reader : TypeId := 86
abbrev ty_landfallref04_Reader : TypeId := 94
abbrev ty_wire_Writer : TypeId := 96
abbrev ty_landfallref04_Writer : TypeId := 99
abbrev ty_blake_words : TypeId := 105
abbrev ty_blake_counter : TypeId := 109
abbrev ty_blake_State : TypeId := 111
abbrev ty_blake_four : TypeId := 135
abbrev ty_wire_wrong : TypeId := 137
abbrev ty_runtime_TypeAssertionError : TypeId := 147
abbrev ty_runtime_PanicNilError : TypeId := 150
abbrev ty_internal_abi_TFlag : TypeId := 151
abbrev ty_internal_abi_Kind : TypeId := 152
abbrev ty_internal_abi_NameOff : TypeId := 155
abbrev ty_internal_abi_TypeOff : TypeId := 156
abbrev ty_internal_abi_Type : TypeId := 158
instance : IsIface Try.prog 20 := ⟨by kernel_rfl⟩
/-- functions that are known to come to true -/
abbrev prims : List FuncId := [9]
abbrev kepts : List FuncId := []
noncomputable def T0 : Table := withKept (withTrue Try.prog prims) kepts
abbrev fn_landfalllaw06_awake : FuncId := 9
theorem landfalllaw06_awake_known {h : Heap} : Runs Try.prog T0 (.fn 9) [] h (fun r h' => r = .bool true ∧ h' = h) (fun _ _ => False) := known_runs rfl
instance : IsBoolT Try.prog 4 := ⟨by kernel_rfl⟩
instance : TLeaves Try.prog 25 (u8s 32) := ⟨by kernel_rfl, by kernel_rfl, by kernel_rfl⟩
instance : TLeaves Try.prog 26 (u8s 32) := ⟨by kernel_rfl, by kernel_rfl, by kernel_rfl⟩
instance : TLeaves Try.prog 28 (.s :: (.i .i64 :: (.i .i64 :: (u8s 32 ++ (u8s 32 ++ (u8s 32 ++ (u8s 32))))))) := ⟨by kernel_rfl, by kernel_rfl, by kernel_rfl⟩
instance : TLeaves Try.prog 31 (.i .i64 :: (.i .i64 :: [])) := ⟨by kernel_rfl, by kernel_rfl, by kernel_rfl⟩

/-! 7 landfall/landfalllaw06.HeaderChecks -/
abbrev fn_landfalllaw06_HeaderChecks : FuncId := 7
noncomputable def landfalllaw06_HeaderChecks_c : ACode :=
  (.seq (.region [
      ⟨(some 1), .box 28 (.tmp 0), none, [], false⟩,
      ⟨(some 2), .mov (.const (.bool false)), none, [], false⟩]) (.seq (.seq (.region [
      ⟨(some 12), .fieldAddr 0 (.tmp 1), none, [], false⟩,
      ⟨(some 13), .load none (.tmp 12), none, [], false⟩,
      ⟨(some 14), .lenStr (.tmp 13), none, [], false⟩,
      ⟨(some 15), .bin .gtr (so (.binOp .gtr 3 (.tmp 14) (.const (.int .i64 60)) 3) 4) (.tmp 14) (.const (.int .i64 60)), none, [], false⟩]) (.cond (.tmp 15)
    (.seq (.region [
      ⟨(some 16), .callV (.func 9) [], none, [], false⟩,
      ⟨(some 2), .mov (.tmp 16), none, [], false⟩]) .ret)
    .skip)) (.seq (.region [
      ⟨(some 18), .load (some 131) (.tmp 1), none, [], false⟩,
      ⟨(some 19), .callV (.func 14) [(.tmp 18)], none, [], false⟩,
      ⟨(some 17), .mov (.tmp 19), none, [], false⟩,
      ⟨(some 20), .extract 0 (.tmp 17), none, [], false⟩,
      ⟨(some 21), .extract 1 (.tmp 17), none, [], false⟩,
      ⟨(some 3), .mov (.tmp 20), none, [], false⟩,
      ⟨(some 4), .mov (.tmp 21), none, [], false⟩]) (.seq (.region [
      ⟨(some 23), .load (some 131) (.tmp 1), none, [], false⟩,
      ⟨(some 24), .callV (.func 23) [(.tmp 23)], none, [], false⟩,
      ⟨(some 22), .mov (.tmp 24), none, [], false⟩,
      ⟨(some 25), .extract 0 (.tmp 22), none, [], false⟩,
      ⟨(some 26), .extract 1 (.tmp 22), none, [], false⟩,
      ⟨(some 5), .mov (.tmp 25), none, [], false⟩,
      ⟨(some 6), .mov (.tmp 26), none, [], false⟩]) (.seq (.region [
      ⟨(some 28), .load (some 131) (.tmp 1), none, [], false⟩,
      ⟨(some 29), .callV (.func 24) [(.tmp 28)], none, [], false⟩,
      ⟨(some 27), .mov (.tmp 29), none, [], false⟩,
      ⟨(some 30), .extract 0 (.tmp 27), none, [], false⟩,
      ⟨(some 31), .extract 1 (.tmp 27), none, [], false⟩,
      ⟨(some 7), .alloc 26 z32, none, [], false⟩,
      ⟨none, .store 32 (.tmp 7) (.tmp 30), none, [], false⟩,
      ⟨(some 8), .mov (.tmp 31), none, [], false⟩]) (.seq (.region [
      ⟨(some 33), .load (some 131) (.tmp 1), none, [], false⟩,
      ⟨(some 34), .callV (.func 25) [(.tmp 33)], none, [], false⟩,
      ⟨(some 32), .mov (.tmp 34), none, [], false⟩,
      ⟨(some 35), .extract 0 (.tmp 32), none, [], false⟩,
      ⟨(some 36), .extract 1 (.tmp 32), none, [], false⟩,
      ⟨(some 9), .alloc 26 z32, none, [], false⟩,
      ⟨none, .store 32 (.tmp 9) (.tmp 35), none, [], false⟩,
      ⟨(some 10), .mov (.tmp 36), none, [], false⟩]) (.seq (.regionD [
      ⟨(some 37), .mov (.tmp 3), none, [], false⟩,
      ⟨(some 38), .mov (.tmp 5), none, [], false⟩,
      ⟨(some 39), .callV (.func 16) [(.tmp 37), (.tmp 38)], none, [], true⟩,
      ⟨(some 40), .mov (.tmp 39), none, [], true⟩,
      ⟨(some 41), .mov (.tmp 4), (some (40, true)), [], false⟩,
      ⟨(some 42), .mov (.tmp 6), (some (40, true)), [], false⟩,
      ⟨(some 43), .bin .eql (so (.binOp .eql 29 (.tmp 41) (.tmp 42) 29) 4) (.tmp 41) (.tmp 42), (some (40, true)), [], true⟩,
      ⟨(some 44), .pick (.tmp 40) (.tmp 43) (.const (.bool false)), none, [], true⟩,
      ⟨(some 45), .mov (.tmp 44), none, [], true⟩,
      ⟨(some 46), .load (some 32) (.tmp 7), (some (45, true)), [], false⟩,
      ⟨(some 47), .load (some 32) (.tmp 9), (some (45, true)), [], false⟩,
      ⟨(some 48), .bin .eql (so (.binOp .eql 26 (.tmp 46) (.tmp 47) 26) 4) (.tmp 46) (.tmp 47), (some (45, true)), [], true⟩,
      ⟨(some 49), .pick (.tmp 45) (.tmp 48) (.const (.bool false)), none, [], true⟩,
      ⟨(some 50), .mov (.tmp 49), none, [], true⟩,
      ⟨(some 51), .mov (.tmp 8), (some (50, true)), [], false⟩,
      ⟨(some 52), .mov (.tmp 10), (some (50, true)), [], false⟩,
      ⟨(some 53), .bin .eql (so (.binOp .eql 29 (.tmp 51) (.tmp 52) 29) 4) (.tmp 51) (.tmp 52), (some (50, true)), [], true⟩,
      ⟨(some 54), .pick (.tmp 50) (.tmp 53) (.const (.bool false)), none, [], true⟩,
      ⟨(some 55), .mov (.tmp 54), none, [], true⟩,
      ⟨(some 56), .load (some 131) (.tmp 1), (some (55, true)), [], false⟩,
      ⟨(some 58), .load (some 131) (.tmp 1), (some (55, true)), [], false⟩,
      ⟨(some 57), .callV (.func 19) [(.tmp 56)], (some (55, true)), [((some 58), .load (some 131) (.tmp 1), (some (55, true)))], false⟩,
      ⟨(some 59), .callV (.func 26) [(.tmp 58)], (some (55, true)), [], true⟩,
      ⟨(some 60), .bin .eql (so (.binOp .eql 29 (.tmp 57) (.tmp 59) 29) 4) (.tmp 57) (.tmp 59), (some (55, true)), [], true⟩,
      ⟨(some 61), .pick (.tmp 55) (.tmp 60) (.const (.bool false)), none, [], true⟩,
      ⟨(some 62), .mov (.tmp 61), none, [], true⟩,
      ⟨(some 63), .fieldAddr 0 (.tmp 1), (some (62, true)), [], false⟩,
      ⟨(some 64), .load none (.tmp 63), (some (62, true)), [], false⟩,
      ⟨(some 66), .fieldAddr 0 (.tmp 1), (some (62, true)), [], false⟩,
      ⟨(some 67), .load none (.tmp 66), (some (62, true)), [], false⟩,
      ⟨(some 65), .callV (.func 17) [(.tmp 64)], (some (62, true)), [((some 67), .load none (.tmp 66), (some (62, true))), ((some 66), .fieldAddr 0 (.tmp 1), (some (62, true)))], false⟩,
      ⟨(some 68), .callV (.func 27) [(.tmp 67)], (some (62, true)), [], true⟩,
      ⟨(some 69), .bin .eql (so (.binOp .eql 4 (.tmp 65) (.tmp 68) 4) 4) (.tmp 65) (.tmp 68), (some (62, true)), [], true⟩,
      ⟨(some 70), .pick (.tmp 62) (.tmp 69) (.const (.bool false)), none, [], true⟩,
      ⟨(some 11), .mov (.tmp 70), none, [], true⟩]) (.seq (.region [
      ⟨(some 71), .mov (.tmp 3), none, [], false⟩,
      ⟨(some 72), .callV (.func 28) [(.tmp 71)], none, [], false⟩]) (.seq (.region [
      ⟨(some 73), .mov (.tmp 11), none, [], false⟩,
      ⟨(some 74), .mov (.tmp 73), none, [], false⟩,
      ⟨(some 75), .callV (.func 9) [], (some (74, true)), [], false⟩,
      ⟨(some 76), .pick (.tmp 74) (.tmp 75) (.const (.bool false)), none, [], false⟩,
      ⟨(some 2), .mov (.tmp 76), none, [], false⟩]) .ret)))))))))
noncomputable def landfalllaw06_HeaderChecks : AFunc := ⟨77, [(2, none)], landfalllaw06_HeaderChecks_c, none⟩
theorem landfalllaw06_HeaderChecks_t0 : tableOf Try.prog 7 = some landfalllaw06_HeaderChecks := by kernel_rfl
theorem landfalllaw06_HeaderChecks_t : T0 7 = some landfalllaw06_HeaderChecks := withKept_t rfl (withTrue_t rfl landfalllaw06_HeaderChecks_t0)
theorem landfalllaw06_HeaderChecks_runs {v0 : Value} {h : Heap} {R : RP} {X : XP} (k : RunC Try.prog T0 landfalllaw06_HeaderChecks_c ⟨[v0, undef, undef, undef, undef, undef, undef, undef, undef, undef, undef, undef, undef, undef, undef, undef, undef, undef, undef, undef, undef, undef, undef, undef, undef, undef, undef, undef, undef, undef, undef, undef, undef, undef, undef, undef, undef, undef, undef, undef, undef, undef, undef, undef, undef, undef, undef, undef, undef, undef, undef, undef, undef, undef, undef, undef, undef, undef, undef, undef, undef, undef, undef, undef, undef, undef, undef, undef, undef, undef, undef, undef, undef, undef, undef, undef, undef], [], h, none⟩ (bodyQ Try.prog T0 [(2, none)] R X)) :
    Runs Try.prog T0 (.fn 7) [v0] h R X := Runs.fn landfalllaw06_HeaderChecks_t rfl k


/-! 14 landfall/header.Encode -/
abbrev fn_header_Encode : FuncId := 14
noncomputable def header_Encode_l0 : ACode :=
  (.seq (.region [
      ⟨(some 32), .bin .lss (so (.binOp .lss 3 (.tmp 31) (.const (.int .i64 4)) 3) 0) (.tmp 31) (.const (.int .i64 4)), none, [], false⟩]) (.seq (.cond (.tmp 32)
    .skip
    (.exit 0)) (.seq (.block 1 (.seq (.region [
      ⟨(some 33), .index 4 1 none (.tmp 30) (.tmp 31), none, [], false⟩,
      ⟨(some 8), .mov (.tmp 33), none, [], false⟩]) (.region [
      ⟨(some 34), .mov (.tmp 5), none, [], false⟩,
      ⟨(some 35), .mov (.tmp 8), none, [], false⟩,
      ⟨(some 36), .nilCheck (.tmp 35), none, [], false⟩,
      ⟨(some 37), .load (some 32) (.tmp 36), none, [], false⟩,
      ⟨(some 38), .callV (.func 42) [(.tmp 34), (.tmp 37)], none, [], false⟩]))) (.region [
      ⟨(some 39), .bin .add (so (.binOp .add 3 (.tmp 31) (.const (.int .i64 1)) 3) 3) (.tmp 31) (.const (.int .i64 1)), none, [], false⟩,
      ⟨(some 31), .mov (.tmp 39), none, [], false⟩]))))
noncomputable def header_Encode_c : ACode :=
  (.seq (.region [
      ⟨(some 1), .box 28 (.tmp 0), none, [], false⟩,
      ⟨(some 2), .mov (.const (.slice none 0 0)), none, [], false⟩,
      ⟨(some 3), .mov (.const (.int .i64 0)), none, [], false⟩]) (.seq (.seq (.region [
      ⟨(some 9), .load (some 131) (.tmp 1), none, [], false⟩,
      ⟨(some 10), .callV (.func 19) [(.tmp 9)], none, [], false⟩,
      ⟨(some 4), .mov (.tmp 10), none, [], false⟩]) (.seq (.region [
      ⟨(some 11), .mov (.tmp 4), none, [], false⟩,
      ⟨(some 12), .bin .neq (so (.binOp .neq 29 (.tmp 11) (.const (.int .i64 0)) 29) 4) (.tmp 11) (.const (.int .i64 0)), none, [], false⟩]) (.cond (.tmp 12)
    (.seq (.region [
      ⟨(some 13), .mov (.tmp 4), none, [], false⟩,
      ⟨(some 2), .mov (.const (.slice none 0 0)), none, [], false⟩,
      ⟨(some 3), .mov (.tmp 13), none, [], false⟩]) .ret)
    .skip))) (.seq (.region [
      ⟨(some 15), .callV (.func 39) [(.const (.int .i64 65536))], none, [], false⟩,
      ⟨(some 14), .mov (.tmp 15), none, [], false⟩,
      ⟨(some 16), .extract 0 (.tmp 14), none, [], false⟩,
      ⟨(some 17), .extract 1 (.tmp 14), none, [], false⟩,
      ⟨(some 5), .mov (.tmp 16), none, [], false⟩,
      ⟨(some 6), .mov (.tmp 17), none, [], false⟩]) (.seq (.region [
      ⟨(some 18), .mov (.tmp 5), none, [], false⟩,
      ⟨(some 19), .fieldAddr 0 (.tmp 1), none, [], false⟩,
      ⟨(some 20), .load none (.tmp 19), none, [], false⟩,
      ⟨(some 21), .callV (.func 40) [(.tmp 18), (.tmp 20)], none, [], false⟩]) (.seq (.region [
      ⟨(some 22), .mov (.tmp 5), none, [], false⟩,
      ⟨(some 23), .fieldAddr 1 (.tmp 1), none, [], false⟩,
      ⟨(some 24), .load none (.tmp 23), none, [], false⟩,
      ⟨(some 25), .callV (.func 41) [(.tmp 22), (.tmp 24)], none, [], false⟩]) (.seq (.region [
      ⟨(some 26), .mov (.tmp 5), none, [], false⟩,
      ⟨(some 27), .fieldAddr 2 (.tmp 1), none, [], false⟩,
      ⟨(some 28), .load none (.tmp 27), none, [], false⟩,
      ⟨(some 29), .callV (.func 41) [(.tmp 26), (.tmp 28)], none, [], false⟩]) (.seq (.seq (.region [
      ⟨(some 30), .callV (.func 33) [(.tmp 1)], none, [], false⟩,
      ⟨(some 31), .mov (.const (.int .i64 0)), none, [], false⟩]) (.block 0 (.loop header_Encode_l0))) (.seq (.region [
      ⟨(some 40), .mov (.tmp 5), none, [], false⟩,
      ⟨(some 41), .callV (.func 43) [(.tmp 40)], none, [], false⟩,
      ⟨(some 42), .extract 0 (.tmp 41), none, [], false⟩,
      ⟨(some 43), .extract 1 (.tmp 41), none, [], false⟩,
      ⟨(some 2), .mov (.tmp 42), none, [], false⟩,
      ⟨(some 3), .mov (.tmp 43), none, [], false⟩]) .ret))))))))
noncomputable def header_Encode : AFunc := ⟨44, [(2, none), (3, none)], header_Encode_c, none⟩
theorem header_Encode_t0 : tableOf Try.prog 14 = some header_Encode := by kernel_rfl
theorem header_Encode_t : T0 14 = some header_Encode := withKept_t rfl (withTrue_t rfl header_Encode_t0)
theorem header_Encode_runs {v0 : Value} {h : Heap} {R : RP} {X : XP} (k : RunC Try.prog T0 header_Encode_c ⟨[v0, undef, undef, undef, undef, undef, undef, undef, undef, undef, undef, undef, undef, undef, undef, undef, undef, undef, undef, undef, undef, undef, undef, undef, undef, undef, undef, undef, undef, undef, undef, undef, undef, undef, undef, undef, undef, undef, undef, undef, undef, undef, undef, undef], [], h, none⟩ (bodyQ Try.prog T0 [(2, none), (3, none)] R X)) :
    Runs Try.prog T0 (.fn 14) [v0] h R X := Runs.fn header_Encode_t rfl k
/-- the slots that turn in the loop: v31 -/
noncomputable def header_Encode_l0_J (f0 f1 f2 f3 f4 f5 f6 f7 f9 f10 f11 f12 f13 f14 f15 f16 f17 f18 f19 f20 f21 f22 f23 f24 f25 f26 f27 f28 f29 f30 f40 f41 f42 f43 : Value) (ds : List Deferred) (rd : Option Nat) (I : Nat → Value → Heap → Prop) (m : Nat) (s : St) : Prop := ∃ (v31 : Value), ∃ h : Heap, ∃ (x8 x32 x33 x34 x35 x36 x37 x38 x39 : Value), s = ⟨[f0, f1, f2, f3, f4, f5, f6, f7, x8, f9, f10, f11, f12, f13, f14, f15, f16, f17, f18, f19, f20, f21, f22, f23, f24, f25, f26, f27, f28, f29, f30, v31, x32, x33, x34, x35, x36, x37, x38, x39, f40, f41, f42, f43], ds, h, rd⟩ ∧ I m v31 h
theorem header_Encode_l0_rule {f0 f1 f2 f3 f4 f5 f6 f7 f9 f10 f11 f12 f13 f14 f15 f16 f17 f18 f19 f20 f21 f22 f23 f24 f25 f26 f27 f28 f29 f30 f40 f41 f42 f43 : Value} {ds : List Deferred} {rd : Option Nat} {Q : QP} (I : Nat → Value → Heap → Prop) (hb : ∀ (m : Nat) (v31 : Value) (h : Heap) (x8 x32 x33 x34 x35 x36 x37 x38 x39 : Value) , I m v31 h → RunC Try.prog T0 header_Encode_l0 ⟨[f0, f1, f2, f3, f4, f5, f6, f7, x8, f9, f10, f11, f12, f13, f14, f15, f16, f17, f18, f19, f20, f21, f22, f23, f24, f25, f26, f27, f28, f29, f30, v31, x32, x33, x34, x35, x36, x37, x38, x39, f40, f41, f42, f43], ds, h, rd⟩ (loopQ (header_Encode_l0_J f0 f1 f2 f3 f4 f5 f6 f7 f9 f10 f11 f12 f13 f14 f15 f16 f17 f18 f19 f20 f21 f22 f23 f24 f25 f26 f27 f28 f29 f30 f40 f41 f42 f43 ds rd I) m Q))
    (m : Nat) {v31 : Value} {h : Heap} {x8 x32 x33 x34 x35 x36 x37 x38 x39 : Value} (hi : I m v31 h) : RunC Try.prog T0 (.loop header_Encode_l0) ⟨[f0, f1, f2, f3, f4, f5, f6, f7, x8, f9, f10, f11, f12, f13, f14, f15, f16, f17, f18, f19, f20, f21, f22, f23, f24, f25, f26, f27, f28, f29, f30, v31, x32, x33, x34, x35, x36, x37, x38, x39, f40, f41, f42, f43], ds, h, rd⟩ Q :=
  RunC.loopJ (header_Encode_l0_J f0 f1 f2 f3 f4 f5 f6 f7 f9 f10 f11 f12 f13 f14 f15 f16 f17 f18 f19 f20 f21 f22 f23 f24 f25 f26 f27 f28 f29 f30 f40 f41 f42 f43 ds rd I) (fun m s hj => by obtain ⟨v31, h, x8, x32, x33, x34, x35, x36, x37, x38, x39, rfl, hi⟩ := hj; exact hb m v31 h x8 x32 x33 x34 x35 x36 x37 x38 x39 hi) m _ ⟨_, h, _, _, _, _, _, _, _, _, _, rfl, hi⟩
theorem header_Encode_l0_again {f0 f1 f2 f3 f4 f5 f6 f7 f9 f10 f11 f12 f13 f14 f15 f16 f17 f18 f19 f20 f21 f22 f23 f24 f25 f26 f27 f28 f29 f30 f40 f41 f42 f43 : Value} {ds : List Deferred} {rd : Option Nat} {Q : QP} {I : Nat → Value → Heap → Prop} {m : Nat} (m' : Nat) {v31 : Value} {h : Heap} {x8 x32 x33 x34 x35 x36 x37 x38 x39 : Value} (hm : m' < m) (hi : I m' v31 h) : loopQ (header_Encode_l0_J f0 f1 f2 f3 f4 f5 f6 f7 f9 f10 f11 f12 f13 f14 f15 f16 f17 f18 f19 f20 f21 f22 f23 f24 f25 f26 f27 f28 f29 f30 f40 f41 f42 f43 ds rd I) m Q .normal ⟨[f0, f1, f2, f3, f4, f5, f6, f7, x8, f9, f10, f11, f12, f13, f14, f15, f16, f17, f18, f19, f20, f21, f22, f23, f24, f25, f26, f27, f28, f29, f30, v31, x32, x33, x34, x35, x36, x37, x38, x39, f40, f41, f42, f43], ds, h, rd⟩ :=
  loopQ.again m' hm ⟨_, h, _, _, _, _, _, _, _, _, _, rfl, hi⟩

/-! 16 landfall/landfallkit.SameBytes -/
abbrev fn_landfallkit_SameBytes : FuncId := 16
noncomputable def landfallkit_SameBytes_c : ACode :=
  (.seq (.region [
      ⟨(some 4), .mov (.const (.bool false)), none, [], false⟩]) (.seq (.region [
      ⟨(some 5), .mov (.tmp 0), none, [], false⟩,
      ⟨(some 6), .bytesToStr (.tmp 5), none, [], false⟩,
      ⟨(some 7), .mov (.tmp 1), none, [], false⟩,
      ⟨(some 8), .bytesToStr (.tmp 7), none, [], false⟩,
      ⟨(some 9), .bin .eql (so (.binOp .eql 9 (.tmp 6) (.tmp 8) 9) 4) (.tmp 6) (.tmp 8), none, [], false⟩,
      ⟨(some 4), .mov (.tmp 9), none, [], false⟩]) .ret))
noncomputable def landfallkit_SameBytes : AFunc := ⟨10, [(4, none)], landfallkit_SameBytes_c, none⟩
theorem landfallkit_SameBytes_t0 : tableOf Try.prog 16 = some landfallkit_SameBytes := by kernel_rfl
theorem landfallkit_SameBytes_t : T0 16 = some landfallkit_SameBytes := withKept_t rfl (withTrue_t rfl landfallkit_SameBytes_t0)
theorem landfallkit_SameBytes_runs {v0 v1 : Value} {h : Heap} {R : RP} {X : XP} (k : RunC Try.prog T0 landfallkit_SameBytes_c ⟨[v0, v1, undef, undef, undef, undef, undef, undef, undef, undef], [], h, none⟩ (bodyQ Try.prog T0 [(4, none)] R X)) :
    Runs Try.prog T0 (.fn 16) [v0, v1] h R X := Runs.fn landfallkit_SameBytes_t rfl k


/-! 17 landfall/header.Name -/
abbrev fn_header_Name : FuncId := 17
noncomputable def header_Name_c : ACode :=
  (.seq (.region [
      ⟨(some 2), .mov (.const (.bool false)), none, [], false⟩]) (.seq (.region [
      ⟨(some 3), .mov (.tmp 0), none, [], false⟩,
      ⟨(some 4), .lenStr (.tmp 3), none, [], false⟩,
      ⟨(some 5), .bin .geq (so (.binOp .geq 3 (.tmp 4) (.const (.int .i64 1)) 3) 4) (.tmp 4) (.const (.int .i64 1)), none, [], false⟩,
      ⟨(some 6), .mov (.tmp 5), none, [], false⟩,
      ⟨(some 7), .mov (.tmp 0), (some (6, true)), [], false⟩,
      ⟨(some 8), .lenStr (.tmp 7), (some (6, true)), [], false⟩,
      ⟨(some 9), .bin .leq (so (.binOp .leq 3 (.tmp 8) (.const (.int .i64 32)) 3) 4) (.tmp 8) (.const (.int .i64 32)), (some (6, true)), [], false⟩,
      ⟨(some 10), .pick (.tmp 6) (.tmp 9) (.const (.bool false)), none, [], false⟩,
      ⟨(some 11), .mov (.tmp 10), none, [], false⟩,
      ⟨(some 12), .mov (.tmp 0), (some (11, true)), [], false⟩,
      ⟨(some 13), .callV (.func 44) [(.tmp 12), (.func 45)], (some (11, true)), [], false⟩,
      ⟨(some 14), .pick (.tmp 11) (.tmp 13) (.const (.bool false)), none, [], false⟩,
      ⟨(some 2), .mov (.tmp 14), none, [], false⟩]) .ret))
noncomputable def header_Name : AFunc := ⟨15, [(2, none)], header_Name_c, none⟩
theorem header_Name_t0 : tableOf Try.prog 17 = some header_Name := by kernel_rfl
theorem header_Name_t : T0 17 = some header_Name := withKept_t rfl (withTrue_t rfl header_Name_t0)
theorem header_Name_runs {v0 : Value} {h : Heap} {R : RP} {X : XP} (k : RunC Try.prog T0 header_Name_c ⟨[v0, undef, undef, undef, undef, undef, undef, undef, undef, undef, undef, undef, undef, undef, undef], [], h, none⟩ (bodyQ Try.prog T0 [(2, none)] R X)) :
    Runs Try.prog T0 (.fn 17) [v0] h R X := Runs.fn header_Name_t rfl k


/-! 19 landfall/header.Check -/
abbrev fn_header_Check : FuncId := 19
noncomputable def header_Check_l0 : ACode :=
  (.seq (.region [
      ⟨(some 8), .bin .lss (so (.binOp .lss 3 (.tmp 7) (.tmp 6) 3) 0) (.tmp 7) (.tmp 6), none, [], false⟩]) (.seq (.cond (.tmp 8)
    .skip
    (.exit 0)) (.seq (.block 1 (.seq (.region [
      ⟨(some 9), .indexSl 2 (.tmp 5) (.tmp 7), none, [], false⟩,
      ⟨(some 10), .load (some 2) (.tmp 9), none, [], false⟩,
      ⟨(some 4), .alloc 76 [.nilFunc, (.int .i64 0)], none, [], false⟩,
      ⟨none, .store 2 (.tmp 4) (.tmp 10), none, [], false⟩]) (.seq (.region [
      ⟨(some 11), .fieldAddr 0 (.tmp 4), none, [], false⟩,
      ⟨(some 12), .load none (.tmp 11), none, [], false⟩,
      ⟨(some 13), .load (some 131) (.tmp 1), none, [], false⟩,
      ⟨(some 14), .callV (.tmp 12) [(.tmp 13)], none, [], false⟩,
      ⟨(some 15), .raw (so (.unOp .not 4 (.tmp 14)) 4), none, [], false⟩]) (.cond (.tmp 15)
    (.seq (.region [
      ⟨(some 16), .fieldAddr 1 (.tmp 4), none, [], false⟩,
      ⟨(some 17), .load none (.tmp 16), none, [], false⟩,
      ⟨(some 2), .mov (.tmp 17), none, [], false⟩]) .ret)
    .skip)))) (.region [
      ⟨(some 18), .bin .add (so (.binOp .add 3 (.tmp 7) (.const (.int .i64 1)) 3) 3) (.tmp 7) (.const (.int .i64 1)), none, [], false⟩,
      ⟨(some 7), .mov (.tmp 18), none, [], false⟩]))))
noncomputable def header_Check_c : ACode :=
  (.seq (.region [
      ⟨(some 1), .box 28 (.tmp 0), none, [], false⟩,
      ⟨(some 2), .mov (.const (.int .i64 0)), none, [], false⟩]) (.seq (.seq (.region [
      ⟨(some 5), .callV (.func 46) [], none, [], false⟩,
      ⟨(some 6), .lenSl (.tmp 5), none, [], false⟩,
      ⟨(some 7), .mov (.const (.int .i64 0)), none, [], false⟩]) (.block 0 (.loop header_Check_l0))) (.seq (.region [
      ⟨(some 2), .mov (.const (.int .i64 0)), none, [], false⟩]) .ret)))
noncomputable def header_Check : AFunc := ⟨19, [(2, none)], header_Check_c, none⟩
theorem header_Check_t0 : tableOf Try.prog 19 = some header_Check := by kernel_rfl
theorem header_Check_t : T0 19 = some header_Check := withKept_t rfl (withTrue_t rfl header_Check_t0)
theorem header_Check_runs {v0 : Value} {h : Heap} {R : RP} {X : XP} (k : RunC Try.prog T0 header_Check_c ⟨[v0, undef, undef, undef, undef, undef, undef, undef, undef, undef, undef, undef, undef, undef, undef, undef, undef, undef, undef], [], h, none⟩ (bodyQ Try.prog T0 [(2, none)] R X)) :
    Runs Try.prog T0 (.fn 19) [v0] h R X := Runs.fn header_Check_t rfl k
/-- the slots that turn in the loop: v7 -/
noncomputable def header_Check_l0_J (f0 f1 f3 f5 f6 : Value) (ds : List Deferred) (rd : Option Nat) (I : Nat → Value → Heap → Prop) (m : Nat) (s : St) : Prop := ∃ (v7 : Value), ∃ h : Heap, ∃ (x2 x4 x8 x9 x10 x11 x12 x13 x14 x15 x16 x17 x18 : Value), s = ⟨[f0, f1, x2, f3, x4, f5, f6, v7, x8, x9, x10, x11, x12, x13, x14, x15, x16, x17, x18], ds, h, rd⟩ ∧ I m v7 h
theorem header_Check_l0_rule {f0 f1 f3 f5 f6 : Value} {ds : List Deferred} {rd : Option Nat} {Q : QP} (I : Nat → Value → Heap → Prop) (hb : ∀ (m : Nat) (v7 : Value) (h : Heap) (x2 x4 x8 x9 x10 x11 x12 x13 x14 x15 x16 x17 x18 : Value) , I m v7 h → RunC Try.prog T0 header_Check_l0 ⟨[f0, f1, x2, f3, x4, f5, f6, v7, x8, x9, x10, x11, x12, x13, x14, x15, x16, x17, x18], ds, h, rd⟩ (loopQ (header_Check_l0_J f0 f1 f3 f5 f6 ds rd I) m Q))
    (m : Nat) {v7 : Value} {h : Heap} {x2 x4 x8 x9 x10 x11 x12 x13 x14 x15 x16 x17 x18 : Value} (hi : I m v7 h) : RunC Try.prog T0 (.loop header_Check_l0) ⟨[f0, f1, x2, f3, x4, f5, f6, v7, x8, x9, x10, x11, x12, x13, x14, x15, x16, x17, x18], ds, h, rd⟩ Q :=
  RunC.loopJ (header_Check_l0_J f0 f1 f3 f5 f6 ds rd I) (fun m s hj => by obtain ⟨v7, h, x2, x4, x8, x9, x10, x11, x12, x13, x14, x15, x16, x17, x18, rfl, hi⟩ := hj; exact hb m v7 h x2 x4 x8 x9 x10 x11 x12 x13 x14 x15 x16 x17 x18 hi) m _ ⟨_, h, _, _, _, _, _, _, _, _, _, _, _, _, _, rfl, hi⟩
theorem header_Check_l0_again {f0 f1 f3 f5 f6 : Value} {ds : List Deferred} {rd : Option Nat} {Q : QP} {I : Nat → Value → Heap → Prop} {m : Nat} (m' : Nat) {v7 : Value} {h : Heap} {x2 x4 x8 x9 x10 x11 x12 x13 x14 x15 x16 x17 x18 : Value} (hm : m' < m) (hi : I m' v7 h) : loopQ (header_Check_l0_J f0 f1 f3 f5 f6 ds rd I) m Q .normal ⟨[f0, f1, x2, f3, x4, f5, f6, v7, x8, x9, x10, x11, x12, x13, x14, x15, x16, x17, x18], ds, h, rd⟩ :=
  loopQ.again m' hm ⟨_, h, _, _, _, _, _, _, _, _, _, _, _, _, _, rfl, hi⟩

/-! 23 landfall/landfallref06.Encode -/
abbrev fn_landfallref06_Encode : FuncId := 23
noncomputable def landfallref06_Encode_c : ACode :=
  (.seq (.region [
      ⟨(some 1), .box 28 (.tmp 0), none, [], false⟩,
      ⟨(some 2), .mov (.const (.slice none 0 0)), none, [], false⟩,
      ⟨(some 3), .mov (.const (.int .i64 0)), none, [], false⟩]) (.seq (.region [
      ⟨(some 7), .load (some 131) (.tmp 1), none, [], false⟩,
      ⟨(some 8), .callV (.func 26) [(.tmp 7)], none, [], false⟩,
      ⟨(some 4), .mov (.tmp 8), none, [], false⟩]) (.seq (.seq (.region [
      ⟨(some 9), .mov (.tmp 4), none, [], false⟩,
      ⟨(some 10), .bin .neq (so (.binOp .neq 29 (.tmp 9) (.const (.int .i64 0)) 29) 4) (.tmp 9) (.const (.int .i64 0)), none, [], false⟩]) (.cond (.tmp 10)
    (.seq (.region [
      ⟨(some 11), .mov (.tmp 4), none, [], false⟩,
      ⟨(some 2), .mov (.const (.slice none 0 0)), none, [], false⟩,
      ⟨(some 3), .mov (.tmp 11), none, [], false⟩]) .ret)
    .skip)) (.seq (.region [
      ⟨(some 13), .callV (.func 47) [(.const (.int .i64 1048576))], none, [], false⟩,
      ⟨(some 12), .mov (.tmp 13), none, [], false⟩,
      ⟨(some 14), .extract 0 (.tmp 12), none, [], false⟩,
      ⟨(some 15), .extract 1 (.tmp 12), none, [], false⟩,
      ⟨(some 5), .mov (.tmp 14), none, [], false⟩,
      ⟨(some 6), .mov (.tmp 15), none, [], false⟩]) (.seq (.region [
      ⟨(some 16), .mov (.tmp 5), none, [], false⟩,
      ⟨(some 17), .load (some 131) (.tmp 1), none, [], false⟩,
      ⟨(some 18), .callV (.func 48) [(.tmp 16), (.tmp 17)], none, [], false⟩]) (.seq (.region [
      ⟨(some 19), .mov (.tmp 5), none, [], false⟩,
      ⟨(some 20), .callV (.func 49) [(.tmp 19)], none, [], false⟩,
      ⟨(some 21), .extract 0 (.tmp 20), none, [], false⟩,
      ⟨(some 22), .extract 1 (.tmp 20), none, [], false⟩,
      ⟨(some 2), .mov (.tmp 21), none, [], false⟩,
      ⟨(some 3), .mov (.tmp 22), none, [], false⟩]) .ret))))))
noncomputable def landfallref06_Encode : AFunc := ⟨23, [(2, none), (3, none)], landfallref06_Encode_c, none⟩
theorem landfallref06_Encode_t0 : tableOf Try.prog 23 = some landfallref06_Encode := by kernel_rfl
theorem landfallref06_Encode_t : T0 23 = some landfallref06_Encode := withKept_t rfl (withTrue_t rfl landfallref06_Encode_t0)
theorem landfallref06_Encode_runs {v0 : Value} {h : Heap} {R : RP} {X : XP} (k : RunC Try.prog T0 landfallref06_Encode_c ⟨[v0, undef, undef, undef, undef, undef, undef, undef, undef, undef, undef, undef, undef, undef, undef, undef, undef, undef, undef, undef, undef, undef, undef], [], h, none⟩ (bodyQ Try.prog T0 [(2, none), (3, none)] R X)) :
    Runs Try.prog T0 (.fn 23) [v0] h R X := Runs.fn landfallref06_Encode_t rfl k


/-! 24 landfall/header.Hash -/
abbrev fn_header_Hash : FuncId := 24
noncomputable def header_Hash_c : ACode :=
  (.seq (.region [
      ⟨(some 1), .box 28 (.tmp 0), none, [], false⟩,
      ⟨(some 2), .alloc 26 z32, none, [], false⟩,
      ⟨(some 3), .mov (.const (.int .i64 0)), none, [], false⟩]) (.seq (.region [
      ⟨(some 7), .load (some 131) (.tmp 1), none, [], false⟩,
      ⟨(some 8), .callV (.func 14) [(.tmp 7)], none, [], false⟩,
      ⟨(some 6), .mov (.tmp 8), none, [], false⟩,
      ⟨(some 9), .extract 0 (.tmp 6), none, [], false⟩,
      ⟨(some 10), .extract 1 (.tmp 6), none, [], false⟩,
      ⟨(some 4), .mov (.tmp 9), none, [], false⟩,
      ⟨(some 5), .mov (.tmp 10), none, [], false⟩]) (.seq (.seq (.region [
      ⟨(some 11), .mov (.tmp 5), none, [], false⟩,
      ⟨(some 12), .bin .neq (so (.binOp .neq 29 (.tmp 11) (.const (.int .i64 0)) 29) 4) (.tmp 11) (.const (.int .i64 0)), none, [], false⟩]) (.cond (.tmp 12)
    (.seq (.region [
      ⟨(some 13), .build z32 [], none, [], false⟩,
      ⟨(some 14), .mov (.tmp 5), none, [], false⟩,
      ⟨none, .store 32 (.tmp 2) (.tmp 13), none, [], false⟩,
      ⟨(some 3), .mov (.tmp 14), none, [], false⟩]) .ret)
    .skip)) (.seq (.region [
      ⟨(some 15), .buildSlice 5 [(.int .u8 0)] 1 [(0, 1, (.const (.int .u8 72)))], none, [], false⟩,
      ⟨(some 16), .mov (.tmp 4), none, [], false⟩,
      ⟨(some 17), .append 5 1 1 [(.int .u8 0)] false (.tmp 15) (.tmp 16), none, [], false⟩,
      ⟨(some 18), .callV (.func 29) [(.tmp 17)], none, [], false⟩,
      ⟨none, .store 32 (.tmp 2) (.tmp 18), none, [], false⟩,
      ⟨(some 3), .mov (.const (.int .i64 0)), none, [], false⟩]) .ret))))
noncomputable def header_Hash : AFunc := ⟨19, [(2, some (some 32)), (3, none)], header_Hash_c, none⟩
theorem header_Hash_t0 : tableOf Try.prog 24 = some header_Hash := by kernel_rfl
theorem header_Hash_t : T0 24 = some header_Hash := withKept_t rfl (withTrue_t rfl header_Hash_t0)
theorem header_Hash_runs {v0 : Value} {h : Heap} {R : RP} {X : XP} (k : RunC Try.prog T0 header_Hash_c ⟨[v0, undef, undef, undef, undef, undef, undef, undef, undef, undef, undef, undef, undef, undef, undef, undef, undef, undef, undef], [], h, none⟩ (bodyQ Try.prog T0 [(2, some (some 32)), (3, none)] R X)) :
    Runs Try.prog T0 (.fn 24) [v0] h R X := Runs.fn header_Hash_t rfl k


/-! 25 landfall/landfallref06.Hash -/
abbrev fn_landfallref06_Hash : FuncId := 25
noncomputable def landfallref06_Hash_c : ACode :=
  (.seq (.region [
      ⟨(some 1), .box 28 (.tmp 0), none, [], false⟩,
      ⟨(some 2), .alloc 26 z32, none, [], false⟩,
      ⟨(some 3), .mov (.const (.int .i64 0)), none, [], false⟩]) (.seq (.region [
      ⟨(some 7), .load (some 131) (.tmp 1), none, [], false⟩,
      ⟨(some 8), .callV (.func 23) [(.tmp 7)], none, [], false⟩,
      ⟨(some 6), .mov (.tmp 8), none, [], false⟩,
      ⟨(some 9), .extract 0 (.tmp 6), none, [], false⟩,
      ⟨(some 10), .extract 1 (.tmp 6), none, [], false⟩,
      ⟨(some 4), .mov (.tmp 9), none, [], false⟩,
      ⟨(some 5), .mov (.tmp 10), none, [], false⟩]) (.seq (.seq (.region [
      ⟨(some 11), .mov (.tmp 5), none, [], false⟩,
      ⟨(some 12), .bin .neq (so (.binOp .neq 29 (.tmp 11) (.const (.int .i64 0)) 29) 4) (.tmp 11) (.const (.int .i64 0)), none, [], false⟩]) (.cond (.tmp 12)
    (.seq (.region [
      ⟨(some 13), .build z32 [], none, [], false⟩,
      ⟨(some 14), .mov (.tmp 5), none, [], false⟩,
      ⟨none, .store 32 (.tmp 2) (.tmp 13), none, [], false⟩,
      ⟨(some 3), .mov (.tmp 14), none, [], false⟩]) .ret)
    .skip)) (.seq (.region [
      ⟨(some 15), .buildSlice 5 [(.int .u8 0)] 1 [(0, 1, (.const (.int .u8 72)))], none, [], false⟩,
      ⟨(some 16), .mov (.tmp 4), none, [], false⟩,
      ⟨(some 17), .append 5 1 1 [(.int .u8 0)] false (.tmp 15) (.tmp 16), none, [], false⟩,
      ⟨(some 18), .callV (.func 50) [(.tmp 17)], none, [], false⟩,
      ⟨none, .store 32 (.tmp 2) (.tmp 18), none, [], false⟩,
      ⟨(some 3), .mov (.const (.int .i64 0)), none, [], false⟩]) .ret))))
noncomputable def landfallref06_Hash : AFunc := ⟨19, [(2, some (some 32)), (3, none)], landfallref06_Hash_c, none⟩
theorem landfallref06_Hash_t0 : tableOf Try.prog 25 = some landfallref06_Hash := by kernel_rfl
theorem landfallref06_Hash_t : T0 25 = some landfallref06_Hash := withKept_t rfl (withTrue_t rfl landfallref06_Hash_t0)
theorem landfallref06_Hash_runs {v0 : Value} {h : Heap} {R : RP} {X : XP} (k : RunC Try.prog T0 landfallref06_Hash_c ⟨[v0, undef, undef, undef, undef, undef, undef, undef, undef, undef, undef, undef, undef, undef, undef, undef, undef, undef, undef], [], h, none⟩ (bodyQ Try.prog T0 [(2, some (some 32)), (3, none)] R X)) :
    Runs Try.prog T0 (.fn 25) [v0] h R X := Runs.fn landfallref06_Hash_t rfl k


/-! 26 landfall/landfallref06.Check -/
abbrev fn_landfallref06_Check : FuncId := 26
noncomputable def landfallref06_Check_c : ACode :=
  (.seq (.region [
      ⟨(some 1), .box 28 (.tmp 0), none, [], false⟩,
      ⟨(some 2), .mov (.const (.int .i64 0)), none, [], false⟩]) (.seq (.block 0 (.seq (.region [
      ⟨(some 4), .fieldAddr 0 (.tmp 1), none, [], false⟩,
      ⟨(some 5), .load none (.tmp 4), none, [], false⟩,
      ⟨(some 6), .callV (.func 27) [(.tmp 5)], none, [], false⟩,
      ⟨(some 7), .raw (so (.unOp .not 4 (.tmp 6)) 4), none, [], false⟩,
      ⟨(some 3), .mov (.tmp 7), none, [], false⟩]) (.cond (.tmp 3)
    (.seq (.region [
      ⟨(some 2), .mov (.const (.int .i64 5)), none, [], false⟩]) .ret)
    (.seq (.region [
      ⟨(some 9), .fieldAddr 1 (.tmp 1), none, [], false⟩,
      ⟨(some 10), .load none (.tmp 9), none, [], false⟩,
      ⟨(some 11), .bin .lss (so (.binOp .lss 3 (.tmp 10) (.const (.int .i64 1)) 3) 4) (.tmp 10) (.const (.int .i64 1)), none, [], false⟩,
      ⟨(some 12), .mov (.tmp 11), none, [], false⟩,
      ⟨(some 13), .fieldAddr 1 (.tmp 1), (some (12, false)), [], false⟩,
      ⟨(some 14), .load none (.tmp 13), (some (12, false)), [], false⟩,
      ⟨(some 15), .bin .gtr (so (.binOp .gtr 3 (.tmp 14) (.const (.int .i64 1073741824)) 3) 4) (.tmp 14) (.const (.int .i64 1073741824)), (some (12, false)), [], false⟩,
      ⟨(some 16), .pick (.tmp 12) (.const (.bool true)) (.tmp 15), none, [], false⟩,
      ⟨(some 17), .mov (.tmp 16), none, [], false⟩,
      ⟨(some 18), .fieldAddr 2 (.tmp 1), (some (17, false)), [], false⟩,
      ⟨(some 19), .load none (.tmp 18), (some (17, false)), [], false⟩,
      ⟨(some 20), .bin .lss (so (.binOp .lss 3 (.tmp 19) (.const (.int .i64 0)) 3) 4) (.tmp 19) (.const (.int .i64 0)), (some (17, false)), [], false⟩,
      ⟨(some 21), .pick (.tmp 17) (.const (.bool true)) (.tmp 20), none, [], false⟩,
      ⟨(some 22), .mov (.tmp 21), none, [], false⟩,
      ⟨(some 23), .fieldAddr 2 (.tmp 1), (some (22, false)), [], false⟩,
      ⟨(some 24), .load none (.tmp 23), (some (22, false)), [], false⟩,
      ⟨(some 25), .bin .gtr (so (.binOp .gtr 3 (.tmp 24) (.const (.int .i64 1099511627776)) 3) 4) (.tmp 24) (.const (.int .i64 1099511627776)), (some (22, false)), [], false⟩,
      ⟨(some 26), .pick (.tmp 22) (.const (.bool true)) (.tmp 25), none, [], false⟩,
      ⟨(some 8), .mov (.tmp 26), none, [], false⟩]) (.cond (.tmp 8)
    (.seq (.region [
      ⟨(some 2), .mov (.const (.int .i64 3)), none, [], false⟩]) .ret)
    .skip))))) (.seq (.region [
      ⟨(some 2), .mov (.const (.int .i64 0)), none, [], false⟩]) .ret)))
noncomputable def landfallref06_Check : AFunc := ⟨27, [(2, none)], landfallref06_Check_c, none⟩
theorem landfallref06_Check_t0 : tableOf Try.prog 26 = some landfallref06_Check := by kernel_rfl
theorem landfallref06_Check_t : T0 26 = some landfallref06_Check := withKept_t rfl (withTrue_t rfl landfallref06_Check_t0)
theorem landfallref06_Check_runs {v0 : Value} {h : Heap} {R : RP} {X : XP} (k : RunC Try.prog T0 landfallref06_Check_c ⟨[v0, undef, undef, undef, undef, undef, undef, undef, undef, undef, undef, undef, undef, undef, undef, undef, undef, undef, undef, undef, undef, undef, undef, undef, undef, undef, undef], [], h, none⟩ (bodyQ Try.prog T0 [(2, none)] R X)) :
    Runs Try.prog T0 (.fn 26) [v0] h R X := Runs.fn landfallref06_Check_t rfl k


/-! 27 landfall/landfallref06.Name -/
abbrev fn_landfallref06_Name : FuncId := 27
noncomputable def landfallref06_Name_l0 : ACode :=
  (.seq (.seq (.region [
      ⟨(some 5), .mov (.tmp 3), none, [], false⟩,
      ⟨(some 6), .mov (.tmp 0), none, [], false⟩,
      ⟨(some 7), .lenStr (.tmp 6), none, [], false⟩,
      ⟨(some 8), .bin .lss (so (.binOp .lss 3 (.tmp 5) (.tmp 7) 3) 4) (.tmp 5) (.tmp 7), none, [], false⟩]) (.cond (.tmp 8)
    .skip
    (.exit 0))) (.seq (.block 1 (.seq (.region [
      ⟨(some 11), .mov (.tmp 0), none, [], false⟩,
      ⟨(some 12), .mov (.tmp 3), none, [], false⟩,
      ⟨(some 13), .raw (so (.index 9 (.tmp 11) (.tmp 12)) 5), none, [], false⟩,
      ⟨(some 4), .mov (.tmp 13), none, [], false⟩]) (.seq (.region [
      ⟨(some 14), .mov (.tmp 4), none, [], false⟩,
      ⟨(some 15), .bin .lss (so (.binOp .lss 5 (.tmp 14) (.const (.int .u8 97)) 5) 4) (.tmp 14) (.const (.int .u8 97)), none, [], false⟩,
      ⟨(some 16), .mov (.tmp 15), none, [], false⟩,
      ⟨(some 17), .mov (.tmp 4), (some (16, false)), [], false⟩,
      ⟨(some 18), .bin .gtr (so (.binOp .gtr 5 (.tmp 17) (.const (.int .u8 122)) 5) 4) (.tmp 17) (.const (.int .u8 122)), (some (16, false)), [], false⟩,
      ⟨(some 19), .pick (.tmp 16) (.const (.bool true)) (.tmp 18), none, [], false⟩,
      ⟨(some 20), .mov (.tmp 19), none, [], false⟩,
      ⟨(some 21), .mov (.tmp 4), (some (20, true)), [], false⟩,
      ⟨(some 22), .bin .lss (so (.binOp .lss 5 (.tmp 21) (.const (.int .u8 48)) 5) 4) (.tmp 21) (.const (.int .u8 48)), (some (20, true)), [], false⟩,
      ⟨(some 23), .mov (.tmp 22), (some (20, true)), [], false⟩,
      ⟨(some 24), .mov (.tmp 4), (some (23, false)), [], false⟩,
      ⟨(some 25), .bin .gtr (so (.binOp .gtr 5 (.tmp 24) (.const (.int .u8 57)) 5) 4) (.tmp 24) (.const (.int .u8 57)), (some (23, false)), [], false⟩,
      ⟨(some 26), .pick (.tmp 23) (.const (.bool true)) (.tmp 25), (some (20, true)), [], false⟩,
      ⟨(some 27), .pick (.tmp 20) (.tmp 26) (.const (.bool false)), none, [], false⟩,
      ⟨(some 28), .mov (.tmp 27), none, [], false⟩,
      ⟨(some 29), .mov (.tmp 4), (some (28, true)), [], false⟩,
      ⟨(some 30), .bin .neq (so (.binOp .neq 5 (.tmp 29) (.const (.int .u8 45)) 5) 4) (.tmp 29) (.const (.int .u8 45)), (some (28, true)), [], false⟩,
      ⟨(some 31), .pick (.tmp 28) (.tmp 30) (.const (.bool false)), none, [], false⟩]) (.cond (.tmp 31)
    (.seq (.region [
      ⟨(some 2), .mov (.const (.bool false)), none, [], false⟩]) .ret)
    .skip)))) (.region [
      ⟨(some 9), .mov (.tmp 3), none, [], false⟩,
      ⟨(some 10), .bin .add (so (.binOp .add 3 (.tmp 9) (.const (.int .i64 1)) 3) 3) (.tmp 9) (.const (.int .i64 1)), none, [], false⟩,
      ⟨(some 3), .mov (.tmp 10), none, [], false⟩])))
noncomputable def landfallref06_Name_c : ACode :=
  (.seq (.region [
      ⟨(some 2), .mov (.const (.bool false)), none, [], false⟩]) (.seq (.seq (.region [
      ⟨(some 3), .mov (.const (.int .i64 0)), none, [], false⟩]) (.block 0 (.loop landfallref06_Name_l0))) (.seq (.region [
      ⟨(some 32), .mov (.tmp 0), none, [], false⟩,
      ⟨(some 33), .lenStr (.tmp 32), none, [], false⟩,
      ⟨(some 34), .bin .geq (so (.binOp .geq 3 (.tmp 33) (.const (.int .i64 1)) 3) 4) (.tmp 33) (.const (.int .i64 1)), none, [], false⟩,
      ⟨(some 35), .mov (.tmp 34), none, [], false⟩,
      ⟨(some 36), .mov (.tmp 0), (some (35, true)), [], false⟩,
      ⟨(some 37), .lenStr (.tmp 36), (some (35, true)), [], false⟩,
      ⟨(some 38), .bin .leq (so (.binOp .leq 3 (.tmp 37) (.const (.int .i64 32)) 3) 4) (.tmp 37) (.const (.int .i64 32)), (some (35, true)), [], false⟩,
      ⟨(some 39), .pick (.tmp 35) (.tmp 38) (.const (.bool false)), none, [], false⟩,
      ⟨(some 2), .mov (.tmp 39), none, [], false⟩]) .ret)))
noncomputable def landfallref06_Name : AFunc := ⟨40, [(2, none)], landfallref06_Name_c, none⟩
theorem landfallref06_Name_t0 : tableOf Try.prog 27 = some landfallref06_Name := by kernel_rfl
theorem landfallref06_Name_t : T0 27 = some landfallref06_Name := withKept_t rfl (withTrue_t rfl landfallref06_Name_t0)
theorem landfallref06_Name_runs {v0 : Value} {h : Heap} {R : RP} {X : XP} (k : RunC Try.prog T0 landfallref06_Name_c ⟨[v0, undef, undef, undef, undef, undef, undef, undef, undef, undef, undef, undef, undef, undef, undef, undef, undef, undef, undef, undef, undef, undef, undef, undef, undef, undef, undef, undef, undef, undef, undef, undef, undef, undef, undef, undef, undef, undef, undef, undef], [], h, none⟩ (bodyQ Try.prog T0 [(2, none)] R X)) :
    Runs Try.prog T0 (.fn 27) [v0] h R X := Runs.fn landfallref06_Name_t rfl k
/-- the slots that turn in the loop: v3 -/
noncomputable def landfallref06_Name_l0_J (f0 f1 f32 f33 f34 f35 f36 f37 f38 f39 : Value) (ds : List Deferred) (rd : Option Nat) (I : Nat → Value → Heap → Prop) (m : Nat) (s : St) : Prop := ∃ (v3 : Value), ∃ h : Heap, ∃ (x2 x4 x5 x6 x7 x8 x9 x10 x11 x12 x13 x14 x15 x16 x17 x18 x19 x20 x21 x22 x23 x24 x25 x26 x27 x28 x29 x30 x31 : Value), s = ⟨[f0, f1, x2, v3, x4, x5, x6, x7, x8, x9, x10, x11, x12, x13, x14, x15, x16, x17, x18, x19, x20, x21, x22, x23, x24, x25, x26, x27, x28, x29, x30, x31, f32, f33, f34, f35, f36, f37, f38, f39], ds, h, rd⟩ ∧ I m v3 h
theorem landfallref06_Name_l0_rule {f0 f1 f32 f33 f34 f35 f36 f37 f38 f39 : Value} {ds : List Deferred} {rd : Option Nat} {Q : QP} (I : Nat → Value → Heap → Prop) (hb : ∀ (m : Nat) (v3 : Value) (h : Heap) (x2 x4 x5 x6 x7 x8 x9 x10 x11 x12 x13 x14 x15 x16 x17 x18 x19 x20 x21 x22 x23 x24 x25 x26 x27 x28 x29 x30 x31 : Value) , I m v3 h → RunC Try.prog T0 landfallref06_Name_l0 ⟨[f0, f1, x2, v3, x4, x5, x6, x7, x8, x9, x10, x11, x12, x13, x14, x15, x16, x17, x18, x19, x20, x21, x22, x23, x24, x25, x26, x27, x28, x29, x30, x31, f32, f33, f34, f35, f36, f37, f38, f39], ds, h, rd⟩ (loopQ (landfallref06_Name_l0_J f0 f1 f32 f33 f34 f35 f36 f37 f38 f39 ds rd I) m Q))
    (m : Nat) {v3 : Value} {h : Heap} {x2 x4 x5 x6 x7 x8 x9 x10 x11 x12 x13 x14 x15 x16 x17 x18 x19 x20 x21 x22 x23 x24 x25 x26 x27 x28 x29 x30 x31 : Value} (hi : I m v3 h) : RunC Try.prog T0 (.loop landfallref06_Name_l0) ⟨[f0, f1, x2, v3, x4, x5, x6, x7, x8, x9, x10, x11, x12, x13, x14, x15, x16, x17, x18, x19, x20, x21, x22, x23, x24, x25, x26, x27, x28, x29, x30, x31, f32, f33, f34, f35, f36, f37, f38, f39], ds, h, rd⟩ Q :=
  RunC.loopJ (landfallref06_Name_l0_J f0 f1 f32 f33 f34 f35 f36 f37 f38 f39 ds rd I) (fun m s hj => by obtain ⟨v3, h, x2, x4, x5, x6, x7, x8, x9, x10, x11, x12, x13, x14, x15, x16, x17, x18, x19, x20, x21, x22, x23, x24, x25, x26, x27, x28, x29, x30, x31, rfl, hi⟩ := hj; exact hb m v3 h x2 x4 x5 x6 x7 x8 x9 x10 x11 x12 x13 x14 x15 x16 x17 x18 x19 x20 x21 x22 x23 x24 x25 x26 x27 x28 x29 x30 x31 hi) m _ ⟨_, h, _, _, _, _, _, _, _, _, _, _, _, _, _, _, _, _, _, _, _, _, _, _, _, _, _, _, _, _, _, rfl, hi⟩
theorem landfallref06_Name_l0_again {f0 f1 f32 f33 f34 f35 f36 f37 f38 f39 : Value} {ds : List Deferred} {rd : Option Nat} {Q : QP} {I : Nat → Value → Heap → Prop} {m : Nat} (m' : Nat) {v3 : Value} {h : Heap} {x2 x4 x5 x6 x7 x8 x9 x10 x11 x12 x13 x14 x15 x16 x17 x18 x19 x20 x21 x22 x23 x24 x25 x26 x27 x28 x29 x30 x31 : Value} (hm : m' < m) (hi : I m' v3 h) : loopQ (landfallref06_Name_l0_J f0 f1 f32 f33 f34 f35 f36 f37 f38 f39 ds rd I) m Q .normal ⟨[f0, f1, x2, v3, x4, x5, x6, x7, x8, x9, x10, x11, x12, x13, x14, x15, x16, x17, x18, x19, x20, x21, x22, x23, x24, x25, x26, x27, x28, x29, x30, x31, f32, f33, f34, f35, f36, f37, f38, f39], ds, h, rd⟩ :=
  loopQ.again m' hm ⟨_, h, _, _, _, _, _, _, _, _, _, _, _, _, _, _, _, _, _, _, _, _, _, _, _, _, _, _, _, _, _, rfl, hi⟩

/-! 28 landfall/landfallkit.OverBytes -/
abbrev fn_landfallkit_OverBytes : FuncId := 28
noncomputable def landfallkit_OverBytes_l0 : ACode :=
  (.seq (.seq (.region [
      ⟨(some 3), .mov (.tmp 2), none, [], false⟩,
      ⟨(some 4), .mov (.tmp 0), none, [], false⟩,
      ⟨(some 5), .lenSl (.tmp 4), none, [], false⟩,
      ⟨(some 6), .bin .lss (so (.binOp .lss 3 (.tmp 3) (.tmp 5) 3) 4) (.tmp 3) (.tmp 5), none, [], false⟩]) (.cond (.tmp 6)
    .skip
    (.exit 0))) (.seq (.block 1 (.region [
      ⟨(some 9), .mov (.tmp 0), none, [], false⟩,
      ⟨(some 10), .mov (.tmp 2), none, [], false⟩,
      ⟨(some 11), .mov (.tmp 0), none, [], false⟩,
      ⟨(some 12), .mov (.tmp 2), none, [], false⟩,
      ⟨(some 13), .indexSl 1 (.tmp 11) (.tmp 12), none, [], false⟩,
      ⟨(some 14), .load none (.tmp 13), none, [], false⟩,
      ⟨(some 15), .bin .xor (so (.binOp .xor 5 (.tmp 14) (.const (.int .u8 165)) 5) 5) (.tmp 14) (.const (.int .u8 165)), none, [], false⟩,
      ⟨(some 16), .indexSl 1 (.tmp 9) (.tmp 10), none, [], false⟩,
      ⟨none, .store 1 (.tmp 16) (.tmp 15), none, [], false⟩])) (.region [
      ⟨(some 7), .mov (.tmp 2), none, [], false⟩,
      ⟨(some 8), .bin .add (so (.binOp .add 3 (.tmp 7) (.const (.int .i64 1)) 3) 3) (.tmp 7) (.const (.int .i64 1)), none, [], false⟩,
      ⟨(some 2), .mov (.tmp 8), none, [], false⟩])))
noncomputable def landfallkit_OverBytes_c : ACode :=
  (.seq (.region [
      ⟨(some 2), .mov (.const (.int .i64 0)), none, [], false⟩]) (.block 0 (.loop landfallkit_OverBytes_l0)))
noncomputable def landfallkit_OverBytes : AFunc := ⟨17, [], landfallkit_OverBytes_c, none⟩
theorem landfallkit_OverBytes_t0 : tableOf Try.prog 28 = some landfallkit_OverBytes := by kernel_rfl
theorem landfallkit_OverBytes_t : T0 28 = some landfallkit_OverBytes := withKept_t rfl (withTrue_t rfl landfallkit_OverBytes_t0)
theorem landfallkit_OverBytes_runs {v0 : Value} {h : Heap} {R : RP} {X : XP} (k : RunC Try.prog T0 landfallkit_OverBytes_c ⟨[v0, undef, undef, undef, undef, undef, undef, undef, undef, undef, undef, undef, undef, undef, undef, undef, undef], [], h, none⟩ (bodyQ Try.prog T0 [] R X)) :
    Runs Try.prog T0 (.fn 28) [v0] h R X := Runs.fn landfallkit_OverBytes_t rfl k
/-- the slots that turn in the loop: v2 -/
noncomputable def landfallkit_OverBytes_l0_J (f0 f1 : Value) (ds : List Deferred) (rd : Option Nat) (I : Nat → Value → Heap → Prop) (m : Nat) (s : St) : Prop := ∃ (v2 : Value), ∃ h : Heap, ∃ (x3 x4 x5 x6 x7 x8 x9 x10 x11 x12 x13 x14 x15 x16 : Value), s = ⟨[f0, f1, v2, x3, x4, x5, x6, x7, x8, x9, x10, x11, x12, x13, x14, x15, x16], ds, h, rd⟩ ∧ I m v2 h
theorem landfallkit_OverBytes_l0_rule {f0 f1 : Value} {ds : List Deferred} {rd : Option Nat} {Q : QP} (I : Nat → Value → Heap → Prop) (hb : ∀ (m : Nat) (v2 : Value) (h : Heap) (x3 x4 x5 x6 x7 x8 x9 x10 x11 x12 x13 x14 x15 x16 : Value) , I m v2 h → RunC Try.prog T0 landfallkit_OverBytes_l0 ⟨[f0, f1, v2, x3, x4, x5, x6, x7, x8, x9, x10, x11, x12, x13, x14, x15, x16], ds, h, rd⟩ (loopQ (landfallkit_OverBytes_l0_J f0 f1 ds rd I) m Q))
    (m : Nat) {v2 : Value} {h : Heap} {x3 x4 x5 x6 x7 x8 x9 x10 x11 x12 x13 x14 x15 x16 : Value} (hi : I m v2 h) : RunC Try.prog T0 (.loop landfallkit_OverBytes_l0) ⟨[f0, f1, v2, x3, x4, x5, x6, x7, x8, x9, x10, x11, x12, x13, x14, x15, x16], ds, h, rd⟩ Q :=
  RunC.loopJ (landfallkit_OverBytes_l0_J f0 f1 ds rd I) (fun m s hj => by obtain ⟨v2, h, x3, x4, x5, x6, x7, x8, x9, x10, x11, x12, x13, x14, x15, x16, rfl, hi⟩ := hj; exact hb m v2 h x3 x4 x5 x6 x7 x8 x9 x10 x11 x12 x13 x14 x15 x16 hi) m _ ⟨_, h, _, _, _, _, _, _, _, _, _, _, _, _, _, _, rfl, hi⟩
theorem landfallkit_OverBytes_l0_again {f0 f1 : Value} {ds : List Deferred} {rd : Option Nat} {Q : QP} {I : Nat → Value → Heap → Prop} {m : Nat} (m' : Nat) {v2 : Value} {h : Heap} {x3 x4 x5 x6 x7 x8 x9 x10 x11 x12 x13 x14 x15 x16 : Value} (hm : m' < m) (hi : I m' v2 h) : loopQ (landfallkit_OverBytes_l0_J f0 f1 ds rd I) m Q .normal ⟨[f0, f1, v2, x3, x4, x5, x6, x7, x8, x9, x10, x11, x12, x13, x14, x15, x16], ds, h, rd⟩ :=
  loopQ.again m' hm ⟨_, h, _, _, _, _, _, _, _, _, _, _, _, _, _, _, rfl, hi⟩

/-! 29 landfall/blake.Sum -/
abbrev fn_blake_Sum : FuncId := 29
noncomputable def blake_Sum_c : ACode :=
  (.seq (.region [
      ⟨(some 2), .alloc 26 z32, none, [], false⟩]) (.seq (.region [
      ⟨(some 6), .callV (.func 51) [], none, [], false⟩,
      ⟨(some 3), .mov (.tmp 6), none, [], false⟩]) (.seq (.region [
      ⟨(some 7), .mov (.tmp 3), none, [], false⟩,
      ⟨(some 8), .mov (.tmp 0), none, [], false⟩,
      ⟨(some 9), .callV (.func 52) [(.tmp 7), (.tmp 8)], none, [], false⟩]) (.seq (.region [
      ⟨(some 11), .mov (.tmp 3), none, [], false⟩,
      ⟨(some 12), .callV (.func 53) [(.tmp 11)], none, [], false⟩,
      ⟨(some 10), .mov (.tmp 12), none, [], false⟩,
      ⟨(some 13), .extract 0 (.tmp 10), none, [], false⟩,
      ⟨(some 14), .extract 1 (.tmp 10), none, [], false⟩,
      ⟨(some 4), .alloc 26 z32, none, [], false⟩,
      ⟨none, .store 32 (.tmp 4) (.tmp 13), none, [], false⟩,
      ⟨(some 5), .mov (.tmp 14), none, [], false⟩]) (.seq (.region [
      ⟨(some 15), .load (some 32) (.tmp 4), none, [], false⟩,
      ⟨none, .store 32 (.tmp 2) (.tmp 15), none, [], false⟩]) .ret)))))
noncomputable def blake_Sum : AFunc := ⟨16, [(2, some (some 32))], blake_Sum_c, none⟩
theorem blake_Sum_t0 : tableOf Try.prog 29 = some blake_Sum := by kernel_rfl
theorem blake_Sum_t : T0 29 = some blake_Sum := withKept_t rfl (withTrue_t rfl blake_Sum_t0)
theorem blake_Sum_runs {v0 : Value} {h : Heap} {R : RP} {X : XP} (k : RunC Try.prog T0 blake_Sum_c ⟨[v0, undef, undef, undef, undef, undef, undef, undef, undef, undef, undef, undef, undef, undef, undef, undef], [], h, none⟩ (bodyQ Try.prog T0 [(2, some (some 32))] R X)) :
    Runs Try.prog T0 (.fn 29) [v0] h R X := Runs.fn blake_Sum_t rfl k


/-! 33 landfall/header.hashes -/
abbrev fn_header_hashes : FuncId := 33
noncomputable def header_hashes_c : ACode :=
  (.seq (.region [
      ⟨(some 2), .alloc 56 [(.pointer none), (.pointer none), (.pointer none), (.pointer none)], none, [], false⟩]) (.seq (.regionD [
      ⟨(some 3), .mov (.tmp 0), none, [], false⟩,
      ⟨(some 4), .nilCheck (.tmp 3), none, [], false⟩,
      ⟨(some 5), .fieldAddr 3 (.tmp 4), none, [], false⟩,
      ⟨(some 6), .mov (.tmp 0), none, [], false⟩,
      ⟨(some 7), .nilCheck (.tmp 6), none, [], false⟩,
      ⟨(some 8), .fieldAddr 35 (.tmp 7), none, [], false⟩,
      ⟨(some 9), .mov (.tmp 0), none, [], false⟩,
      ⟨(some 10), .nilCheck (.tmp 9), none, [], false⟩,
      ⟨(some 11), .fieldAddr 67 (.tmp 10), none, [], false⟩,
      ⟨(some 12), .mov (.tmp 0), none, [], false⟩,
      ⟨(some 13), .nilCheck (.tmp 12), none, [], false⟩,
      ⟨(some 14), .fieldAddr 99 (.tmp 13), none, [], false⟩,
      ⟨(some 15), .build [(.pointer none), (.pointer none), (.pointer none), (.pointer none)] [(0, 1, (.tmp 5)), (1, 1, (.tmp 8)), (2, 1, (.tmp 11)), (3, 1, (.tmp 14))], none, [], true⟩,
      ⟨none, .store 4 (.tmp 2) (.tmp 15), none, [], true⟩]) .ret))
noncomputable def header_hashes : AFunc := ⟨16, [(2, some (some 4))], header_hashes_c, none⟩
theorem header_hashes_t0 : tableOf Try.prog 33 = some header_hashes := by kernel_rfl
theorem header_hashes_t : T0 33 = some header_hashes := withKept_t rfl (withTrue_t rfl header_hashes_t0)
theorem header_hashes_runs {v0 : Value} {h : Heap} {R : RP} {X : XP} (k : RunC Try.prog T0 header_hashes_c ⟨[v0, undef, undef, undef, undef, undef, undef, undef, undef, undef, undef, undef, undef, undef, undef, undef], [], h, none⟩ (bodyQ Try.prog T0 [(2, some (some 4))] R X)) :
    Runs Try.prog T0 (.fn 33) [v0] h R X := Runs.fn header_hashes_t rfl k


/-! 39 landfall/wire.NewWriter -/
abbrev fn_wire_NewWriter : FuncId := 39
noncomputable def wire_NewWriter_c : ACode :=
  (.seq (.region [
      ⟨(some 2), .mov (.const (.pointer none)), none, [], false⟩,
      ⟨(some 3), .mov (.const (.int .i64 0)), none, [], false⟩]) (.seq (.seq (.region [
      ⟨(some 4), .mov (.tmp 0), none, [], false⟩,
      ⟨(some 5), .bin .lss (so (.binOp .lss 3 (.tmp 4) (.const (.int .i64 0)) 3) 4) (.tmp 4) (.const (.int .i64 0)), none, [], false⟩,
      ⟨(some 6), .mov (.tmp 5), none, [], false⟩,
      ⟨(some 7), .mov (.tmp 0), (some (6, false)), [], false⟩,
      ⟨(some 8), .bin .gtr (so (.binOp .gtr 3 (.tmp 7) (.const (.int .i64 1048576)) 3) 4) (.tmp 7) (.const (.int .i64 1048576)), (some (6, false)), [], false⟩,
      ⟨(some 9), .pick (.tmp 6) (.const (.bool true)) (.tmp 8), none, [], false⟩]) (.cond (.tmp 9)
    (.seq (.region [
      ⟨(some 2), .mov (.const (.pointer none)), none, [], false⟩,
      ⟨(some 3), .mov (.const (.int .i64 3)), none, [], false⟩]) .ret)
    .skip)) (.seq (.region [
      ⟨(some 10), .mov (.tmp 0), none, [], false⟩,
      ⟨(some 11), .build [(.int .i64 0), (.slice none 0 0), (.int .i64 0), (.bool false)] [(0, 1, (.tmp 10)), (3, 1, (.const (.bool true)))], none, [], false⟩,
      ⟨(some 12), .box 96 (.tmp 11), none, [], false⟩,
      ⟨(some 2), .mov (.tmp 12), none, [], false⟩,
      ⟨(some 3), .mov (.const (.int .i64 0)), none, [], false⟩]) .ret)))
noncomputable def wire_NewWriter : AFunc := ⟨13, [(2, none), (3, none)], wire_NewWriter_c, none⟩
theorem wire_NewWriter_t0 : tableOf Try.prog 39 = some wire_NewWriter := by kernel_rfl
theorem wire_NewWriter_t : T0 39 = some wire_NewWriter := withKept_t rfl (withTrue_t rfl wire_NewWriter_t0)
theorem wire_NewWriter_runs {v0 : Value} {h : Heap} {R : RP} {X : XP} (k : RunC Try.prog T0 wire_NewWriter_c ⟨[v0, undef, undef, undef, undef, undef, undef, undef, undef, undef, undef, undef, undef], [], h, none⟩ (bodyQ Try.prog T0 [(2, none), (3, none)] R X)) :
    Runs Try.prog T0 (.fn 39) [v0] h R X := Runs.fn wire_NewWriter_t rfl k


/-! 40 (*landfall/wire.Writer).Text -/
abbrev fn_wire_Writer_Text : FuncId := 40
noncomputable def wire_Writer_Text_c : ACode :=
  (.seq (.region [
      ⟨(some 4), .mov (.const (.int .i64 0)), none, [], false⟩]) (.seq (.region [
      ⟨(some 5), .mov (.tmp 0), none, [], false⟩,
      ⟨(some 6), .mov (.tmp 1), none, [], false⟩,
      ⟨(some 7), .strToBytes 5 (.tmp 6), none, [], false⟩,
      ⟨(some 8), .callV (.func 65) [(.tmp 5), (.tmp 7)], none, [], false⟩,
      ⟨(some 4), .mov (.tmp 8), none, [], false⟩]) .ret))
noncomputable def wire_Writer_Text : AFunc := ⟨9, [(4, none)], wire_Writer_Text_c, none⟩
theorem wire_Writer_Text_t0 : tableOf Try.prog 40 = some wire_Writer_Text := by kernel_rfl
theorem wire_Writer_Text_t : T0 40 = some wire_Writer_Text := withKept_t rfl (withTrue_t rfl wire_Writer_Text_t0)
theorem wire_Writer_Text_runs {v0 v1 : Value} {h : Heap} {R : RP} {X : XP} (k : RunC Try.prog T0 wire_Writer_Text_c ⟨[v0, v1, undef, undef, undef, undef, undef, undef, undef], [], h, none⟩ (bodyQ Try.prog T0 [(4, none)] R X)) :
    Runs Try.prog T0 (.fn 40) [v0, v1] h R X := Runs.fn wire_Writer_Text_t rfl k


/-! 41 (*landfall/wire.Writer).Num -/
abbrev fn_wire_Writer_Num : FuncId := 41
noncomputable def wire_Writer_Num_c : ACode :=
  (.seq (.region [
      ⟨(some 4), .mov (.const (.int .i64 0)), none, [], false⟩]) (.seq (.region [
      ⟨(some 5), .mov (.tmp 0), none, [], false⟩,
      ⟨(some 6), .mov (.tmp 1), none, [], false⟩,
      ⟨(some 7), .bin .geq (so (.binOp .geq 3 (.tmp 6) (.const (.int .i64 0)) 3) 4) (.tmp 6) (.const (.int .i64 0)), none, [], false⟩,
      ⟨(some 8), .mov (.tmp 1), none, [], false⟩,
      ⟨(some 9), .raw (so (.call ⟨.builtin .max, #[(.tmp 8), (.const (.int .i64 0))], #[3, 3]⟩) 3), none, [], false⟩,
      ⟨(some 10), .callV (.func 67) [(.tmp 9)], none, [], false⟩,
      ⟨(some 11), .buildSlice 22 [(.slice none 0 0)] 1 [(0, 1, (.tmp 10))], none, [], false⟩,
      ⟨(some 12), .callV (.func 66) [(.tmp 5), (.tmp 7), (.tmp 11)], none, [], false⟩,
      ⟨(some 4), .mov (.tmp 12), none, [], false⟩]) .ret))
noncomputable def wire_Writer_Num : AFunc := ⟨13, [(4, none)], wire_Writer_Num_c, none⟩
theorem wire_Writer_Num_t0 : tableOf Try.prog 41 = some wire_Writer_Num := by kernel_rfl
theorem wire_Writer_Num_t : T0 41 = some wire_Writer_Num := withKept_t rfl (withTrue_t rfl wire_Writer_Num_t0)
theorem wire_Writer_Num_runs {v0 v1 : Value} {h : Heap} {R : RP} {X : XP} (k : RunC Try.prog T0 wire_Writer_Num_c ⟨[v0, v1, undef, undef, undef, undef, undef, undef, undef, undef, undef, undef, undef], [], h, none⟩ (bodyQ Try.prog T0 [(4, none)] R X)) :
    Runs Try.prog T0 (.fn 41) [v0, v1] h R X := Runs.fn wire_Writer_Num_t rfl k


/-! 42 (*landfall/wire.Writer).Hash -/
abbrev fn_wire_Writer_Hash : FuncId := 42
noncomputable def wire_Writer_Hash_c : ACode :=
  (.seq (.region [
      ⟨(some 3), .box 26 (.tmp 1), none, [], false⟩,
      ⟨(some 4), .mov (.const (.int .i64 0)), none, [], false⟩]) (.seq (.region [
      ⟨(some 5), .mov (.tmp 0), none, [], false⟩,
      ⟨(some 6), .sliceArr 32 1 (.tmp 3) none none, none, [], false⟩,
      ⟨(some 7), .buildSlice 22 [(.slice none 0 0)] 1 [(0, 1, (.tmp 6))], none, [], false⟩,
      ⟨(some 8), .callV (.func 66) [(.tmp 5), (.const (.bool true)), (.tmp 7)], none, [], false⟩,
      ⟨(some 4), .mov (.tmp 8), none, [], false⟩]) .ret))
noncomputable def wire_Writer_Hash : AFunc := ⟨9, [(4, none)], wire_Writer_Hash_c, none⟩
theorem wire_Writer_Hash_t0 : tableOf Try.prog 42 = some wire_Writer_Hash := by kernel_rfl
theorem wire_Writer_Hash_t : T0 42 = some wire_Writer_Hash := withKept_t rfl (withTrue_t rfl wire_Writer_Hash_t0)
theorem wire_Writer_Hash_runs {v0 v1 : Value} {h : Heap} {R : RP} {X : XP} (k : RunC Try.prog T0 wire_Writer_Hash_c ⟨[v0, v1, undef, undef, undef, undef, undef, undef, undef], [], h, none⟩ (bodyQ Try.prog T0 [(4, none)] R X)) :
    Runs Try.prog T0 (.fn 42) [v0, v1] h R X := Runs.fn wire_Writer_Hash_t rfl k


/-! 43 (*landfall/wire.Writer).Done -/
abbrev fn_wire_Writer_Done : FuncId := 43
noncomputable def wire_Writer_Done_c : ACode :=
  (.seq (.region [
      ⟨(some 2), .mov (.const (.slice none 0 0)), none, [], false⟩,
      ⟨(some 3), .mov (.const (.int .i64 0)), none, [], false⟩]) (.seq (.block 0 (.seq (.region [
      ⟨(some 5), .mov (.tmp 0), none, [], false⟩,
      ⟨(some 6), .eq .ptr false (so (.binOp .eql 64 (.tmp 5) (.const (.pointer none)) 64) 4) (.tmp 5) (.const (.pointer none)), none, [], false⟩,
      ⟨(some 7), .mov (.tmp 6), none, [], false⟩,
      ⟨(some 8), .mov (.tmp 0), (some (7, false)), [], false⟩,
      ⟨(some 9), .nilCheck (.tmp 8), (some (7, false)), [], false⟩,
      ⟨(some 10), .fieldAddr 3 (.tmp 9), (some (7, false)), [], false⟩,
      ⟨(some 11), .load none (.tmp 10), (some (7, false)), [], false⟩,
      ⟨(some 12), .raw (so (.unOp .not 4 (.tmp 11)) 4), (some (7, false)), [], false⟩,
      ⟨(some 13), .pick (.tmp 7) (.const (.bool true)) (.tmp 12), none, [], false⟩,
      ⟨(some 4), .mov (.tmp 13), none, [], false⟩]) (.cond (.tmp 4)
    (.seq (.region [
      ⟨(some 2), .mov (.const (.slice none 0 0)), none, [], false⟩,
      ⟨(some 3), .mov (.const (.int .i64 1)), none, [], false⟩]) .ret)
    (.seq (.region [
      ⟨(some 15), .mov (.tmp 0), none, [], false⟩,
      ⟨(some 16), .nilCheck (.tmp 15), none, [], false⟩,
      ⟨(some 17), .fieldAddr 2 (.tmp 16), none, [], false⟩,
      ⟨(some 18), .load none (.tmp 17), none, [], false⟩,
      ⟨(some 19), .bin .neq (so (.binOp .neq 29 (.tmp 18) (.const (.int .i64 0)) 29) 4) (.tmp 18) (.const (.int .i64 0)), none, [], false⟩,
      ⟨(some 14), .mov (.tmp 19), none, [], false⟩]) (.cond (.tmp 14)
    (.seq (.regionD [
      ⟨(some 20), .mov (.tmp 0), none, [], false⟩,
      ⟨(some 21), .nilCheck (.tmp 20), none, [], false⟩,
      ⟨(some 22), .fieldAddr 2 (.tmp 21), none, [], false⟩,
      ⟨(some 23), .load none (.tmp 22), none, [], false⟩,
      ⟨(some 2), .mov (.const (.slice none 0 0)), none, [], false⟩,
      ⟨(some 3), .mov (.tmp 23), none, [], true⟩]) .ret)
    .skip))))) (.seq (.region [
      ⟨(some 24), .mov (.tmp 0), none, [], false⟩,
      ⟨(some 25), .nilCheck (.tmp 24), none, [], false⟩,
      ⟨(some 26), .fieldAddr 1 (.tmp 25), none, [], false⟩,
      ⟨(some 27), .load none (.tmp 26), none, [], false⟩,
      ⟨(some 28), .callV (.func 54) [(.tmp 27)], none, [], false⟩,
      ⟨(some 2), .mov (.tmp 28), none, [], false⟩,
      ⟨(some 3), .mov (.const (.int .i64 0)), none, [], false⟩]) .ret)))
noncomputable def wire_Writer_Done : AFunc := ⟨29, [(2, none), (3, none)], wire_Writer_Done_c, none⟩
theorem wire_Writer_Done_t0 : tableOf Try.prog 43 = some wire_Writer_Done := by kernel_rfl
theorem wire_Writer_Done_t : T0 43 = some wire_Writer_Done := withKept_t rfl (withTrue_t rfl wire_Writer_Done_t0)
theorem wire_Writer_Done_runs {v0 : Value} {h : Heap} {R : RP} {X : XP} (k : RunC Try.prog T0 wire_Writer_Done_c ⟨[v0, undef, undef, undef, undef, undef, undef, undef, undef, undef, undef, undef, undef, undef, undef, undef, undef, undef, undef, undef, undef, undef, undef, undef, undef, undef, undef, undef, undef], [], h, none⟩ (bodyQ Try.prog T0 [(2, none), (3, none)] R X)) :
    Runs Try.prog T0 (.fn 43) [v0] h R X := Runs.fn wire_Writer_Done_t rfl k


/-! 44 landfall/header.each -/
abbrev fn_header_each : FuncId := 44
noncomputable def header_each_l0 : ACode :=
  (.seq (.region [
      ⟨(some 9), .nextStr (.tmp 8), none, [], false⟩,
      ⟨(some 10), .extract 0 (.tmp 9), none, [], false⟩]) (.seq (.cond (.tmp 10)
    .skip
    (.exit 0)) (.block 1 (.seq (.region [
      ⟨(some 11), .extract 2 (.tmp 9), none, [], false⟩,
      ⟨(some 6), .mov (.tmp 11), none, [], false⟩]) (.seq (.region [
      ⟨(some 12), .mov (.tmp 1), none, [], false⟩,
      ⟨(some 13), .mov (.tmp 6), none, [], false⟩,
      ⟨(some 14), .callV (.tmp 12) [(.tmp 13)], none, [], false⟩,
      ⟨(some 15), .raw (so (.unOp .not 4 (.tmp 14)) 4), none, [], false⟩]) (.cond (.tmp 15)
    (.seq (.region [
      ⟨(some 4), .mov (.const (.bool false)), none, [], false⟩]) .ret)
    .skip))))))
noncomputable def header_each_c : ACode :=
  (.seq (.region [
      ⟨(some 4), .mov (.const (.bool false)), none, [], false⟩]) (.seq (.seq (.region [
      ⟨(some 7), .mov (.tmp 0), none, [], false⟩,
      ⟨(some 8), .rangeStr (.tmp 7), none, [], false⟩]) (.block 0 (.loop header_each_l0))) (.seq (.region [
      ⟨(some 4), .mov (.const (.bool true)), none, [], false⟩]) .ret)))
noncomputable def header_each : AFunc := ⟨16, [(4, none)], header_each_c, none⟩
theorem header_each_t0 : tableOf Try.prog 44 = some header_each := by kernel_rfl
theorem header_each_t : T0 44 = some header_each := withKept_t rfl (withTrue_t rfl header_each_t0)
theorem header_each_runs {v0 v1 : Value} {h : Heap} {R : RP} {X : XP} (k : RunC Try.prog T0 header_each_c ⟨[v0, v1, undef, undef, undef, undef, undef, undef, undef, undef, undef, undef, undef, undef, undef, undef], [], h, none⟩ (bodyQ Try.prog T0 [(4, none)] R X)) :
    Runs Try.prog T0 (.fn 44) [v0, v1] h R X := Runs.fn header_each_t rfl k
/-- the slots that turn in the loop:  -/
noncomputable def header_each_l0_J (f0 f1 f2 f3 f5 f7 f8 : Value) (ds : List Deferred) (rd : Option Nat) (I : Nat → Heap → Prop) (m : Nat) (s : St) : Prop := ∃ h : Heap, ∃ (x4 x6 x9 x10 x11 x12 x13 x14 x15 : Value), s = ⟨[f0, f1, f2, f3, x4, f5, x6, f7, f8, x9, x10, x11, x12, x13, x14, x15], ds, h, rd⟩ ∧ I m  h
theorem header_each_l0_rule {f0 f1 f2 f3 f5 f7 f8 : Value} {ds : List Deferred} {rd : Option Nat} {Q : QP} (I : Nat → Heap → Prop) (hb : ∀ (m : Nat) (h : Heap) (x4 x6 x9 x10 x11 x12 x13 x14 x15 : Value) , I m  h → RunC Try.prog T0 header_each_l0 ⟨[f0, f1, f2, f3, x4, f5, x6, f7, f8, x9, x10, x11, x12, x13, x14, x15], ds, h, rd⟩ (loopQ (header_each_l0_J f0 f1 f2 f3 f5 f7 f8 ds rd I) m Q))
    (m : Nat) {v : Value} {h : Heap} {x4 x6 x9 x10 x11 x12 x13 x14 x15 : Value} (hi : I m  h) : RunC Try.prog T0 (.loop header_each_l0) ⟨[f0, f1, f2, f3, x4, f5, x6, f7, f8, x9, x10, x11, x12, x13, x14, x15], ds, h, rd⟩ Q :=
  RunC.loopJ (header_each_l0_J f0 f1 f2 f3 f5 f7 f8 ds rd I) (fun m s hj => by obtain ⟨h, x4, x6, x9, x10, x11, x12, x13, x14, x15, rfl, hi⟩ := hj; exact hb m  h x4 x6 x9 x10 x11 x12 x13 x14 x15 hi) m _ ⟨h, _, _, _, _, _, _, _, _, _, rfl, hi⟩
theorem header_each_l0_again {f0 f1 f2 f3 f5 f7 f8 : Value} {ds : List Deferred} {rd : Option Nat} {Q : QP} {I : Nat → Heap → Prop} {m : Nat} (m' : Nat) {v : Value} {h : Heap} {x4 x6 x9 x10 x11 x12 x13 x14 x15 : Value} (hm : m' < m) (hi : I m'  h) : loopQ (header_each_l0_J f0 f1 f2 f3 f5 f7 f8 ds rd I) m Q .normal ⟨[f0, f1, f2, f3, x4, f5, x6, f7, f8, x9, x10, x11, x12, x13, x14, x15], ds, h, rd⟩ :=
  loopQ.again m' hm ⟨h, _, _, _, _, _, _, _, _, _, rfl, hi⟩

/-! 45 landfall/header.plain -/
abbrev fn_header_plain : FuncId := 45
noncomputable def header_plain_c : ACode :=
  (.seq (.region [
      ⟨(some 2), .mov (.const (.bool false)), none, [], false⟩]) (.seq (.region [
      ⟨(some 3), .mov (.tmp 0), none, [], false⟩,
      ⟨(some 4), .bin .geq (so (.binOp .geq 21 (.tmp 3) (.const (.int .i32 97)) 21) 4) (.tmp 3) (.const (.int .i32 97)), none, [], false⟩,
      ⟨(some 5), .mov (.tmp 4), none, [], false⟩,
      ⟨(some 6), .mov (.tmp 0), (some (5, true)), [], false⟩,
      ⟨(some 7), .bin .leq (so (.binOp .leq 21 (.tmp 6) (.const (.int .i32 122)) 21) 4) (.tmp 6) (.const (.int .i32 122)), (some (5, true)), [], false⟩,
      ⟨(some 8), .pick (.tmp 5) (.tmp 7) (.const (.bool false)), none, [], false⟩,
      ⟨(some 9), .mov (.tmp 8), none, [], false⟩,
      ⟨(some 10), .mov (.tmp 0), (some (9, false)), [], false⟩,
      ⟨(some 11), .bin .geq (so (.binOp .geq 21 (.tmp 10) (.const (.int .i32 48)) 21) 4) (.tmp 10) (.const (.int .i32 48)), (some (9, false)), [], false⟩,
      ⟨(some 12), .mov (.tmp 11), (some (9, false)), [], false⟩,
      ⟨(some 13), .mov (.tmp 0), (some (12, true)), [], false⟩,
      ⟨(some 14), .bin .leq (so (.binOp .leq 21 (.tmp 13) (.const (.int .i32 57)) 21) 4) (.tmp 13) (.const (.int .i32 57)), (some (12, true)), [], false⟩,
      ⟨(some 15), .pick (.tmp 12) (.tmp 14) (.const (.bool false)), (some (9, false)), [], false⟩,
      ⟨(some 16), .pick (.tmp 9) (.const (.bool true)) (.tmp 15), none, [], false⟩,
      ⟨(some 17), .mov (.tmp 16), none, [], false⟩,
      ⟨(some 18), .mov (.tmp 0), (some (17, false)), [], false⟩,
      ⟨(some 19), .bin .eql (so (.binOp .eql 21 (.tmp 18) (.const (.int .i32 45)) 21) 4) (.tmp 18) (.const (.int .i32 45)), (some (17, false)), [], false⟩,
      ⟨(some 20), .pick (.tmp 17) (.const (.bool true)) (.tmp 19), none, [], false⟩,
      ⟨(some 2), .mov (.tmp 20), none, [], false⟩]) .ret))
noncomputable def header_plain : AFunc := ⟨21, [(2, none)], header_plain_c, none⟩
theorem header_plain_t0 : tableOf Try.prog 45 = some header_plain := by kernel_rfl
theorem header_plain_t : T0 45 = some header_plain := withKept_t rfl (withTrue_t rfl header_plain_t0)
theorem header_plain_runs {v0 : Value} {h : Heap} {R : RP} {X : XP} (k : RunC Try.prog T0 header_plain_c ⟨[v0, undef, undef, undef, undef, undef, undef, undef, undef, undef, undef, undef, undef, undef, undef, undef, undef, undef, undef, undef, undef], [], h, none⟩ (bodyQ Try.prog T0 [(2, none)] R X)) :
    Runs Try.prog T0 (.fn 45) [v0] h R X := Runs.fn header_plain_t rfl k


/-! 46 landfall/header.rules -/
abbrev fn_header_rules : FuncId := 46
noncomputable def header_rules_c : ACode :=
  (.seq (.region [
      ⟨(some 0), .mov (.const (.slice none 0 0)), none, [], false⟩]) (.seq (.region [
      ⟨(some 1), .build [.nilFunc, (.int .i64 0)] [(0, 1, (.func 68)), (1, 1, (.const (.int .i64 5)))], none, [], false⟩,
      ⟨(some 2), .build [.nilFunc, (.int .i64 0)] [(0, 1, (.func 69)), (1, 1, (.const (.int .i64 3)))], none, [], false⟩,
      ⟨(some 3), .build [.nilFunc, (.int .i64 0)] [(0, 1, (.func 70)), (1, 1, (.const (.int .i64 3)))], none, [], false⟩,
      ⟨(some 4), .buildSlice 76 [.nilFunc, (.int .i64 0), .nilFunc, (.int .i64 0), .nilFunc, (.int .i64 0)] 3 [(0, 2, (.tmp 1)), (2, 2, (.tmp 2)), (4, 2, (.tmp 3))], none, [], false⟩,
      ⟨(some 0), .mov (.tmp 4), none, [], false⟩]) .ret))
noncomputable def header_rules : AFunc := ⟨5, [(0, none)], header_rules_c, none⟩
theorem header_rules_t0 : tableOf Try.prog 46 = some header_rules := by kernel_rfl
theorem header_rules_t : T0 46 = some header_rules := withKept_t rfl (withTrue_t rfl header_rules_t0)
theorem header_rules_runs {v : Value} {h : Heap} {R : RP} {X : XP} (k : RunC Try.prog T0 header_rules_c ⟨[undef, undef, undef, undef, undef], [], h, none⟩ (bodyQ Try.prog T0 [(0, none)] R X)) :
    Runs Try.prog T0 (.fn 46) [] h R X := Runs.fn header_rules_t rfl k


/-! 47 landfall/landfallref04.NewWriter -/
abbrev fn_landfallref04_NewWriter : FuncId := 47
noncomputable def landfallref04_NewWriter_c : ACode :=
  (.seq (.region [
      ⟨(some 2), .mov (.const (.pointer none)), none, [], false⟩,
      ⟨(some 3), .mov (.const (.int .i64 0)), none, [], false⟩]) (.seq (.seq (.region [
      ⟨(some 4), .mov (.tmp 0), none, [], false⟩,
      ⟨(some 5), .bin .lss (so (.binOp .lss 3 (.tmp 4) (.const (.int .i64 0)) 3) 4) (.tmp 4) (.const (.int .i64 0)), none, [], false⟩,
      ⟨(some 6), .mov (.tmp 5), none, [], false⟩,
      ⟨(some 7), .mov (.tmp 0), (some (6, false)), [], false⟩,
      ⟨(some 8), .bin .gtr (so (.binOp .gtr 3 (.tmp 7) (.const (.int .i64 1048576)) 3) 4) (.tmp 7) (.const (.int .i64 1048576)), (some (6, false)), [], false⟩,
      ⟨(some 9), .pick (.tmp 6) (.const (.bool true)) (.tmp 8), none, [], false⟩]) (.cond (.tmp 9)
    (.seq (.region [
      ⟨(some 2), .mov (.const (.pointer none)), none, [], false⟩,
      ⟨(some 3), .mov (.const (.int .i64 3)), none, [], false⟩]) .ret)
    .skip)) (.seq (.region [
      ⟨(some 10), .mov (.tmp 0), none, [], false⟩,
      ⟨(some 11), .build [(.int .i64 0), (.slice none 0 0), (.int .i64 0)] [(0, 1, (.tmp 10))], none, [], false⟩,
      ⟨(some 12), .box 99 (.tmp 11), none, [], false⟩,
      ⟨(some 2), .mov (.tmp 12), none, [], false⟩,
      ⟨(some 3), .mov (.const (.int .i64 0)), none, [], false⟩]) .ret)))
noncomputable def landfallref04_NewWriter : AFunc := ⟨13, [(2, none), (3, none)], landfallref04_NewWriter_c, none⟩
theorem landfallref04_NewWriter_t0 : tableOf Try.prog 47 = some landfallref04_NewWriter := by kernel_rfl
theorem landfallref04_NewWriter_t : T0 47 = some landfallref04_NewWriter := withKept_t rfl (withTrue_t rfl landfallref04_NewWriter_t0)
theorem landfallref04_NewWriter_runs {v0 : Value} {h : Heap} {R : RP} {X : XP} (k : RunC Try.prog T0 landfallref04_NewWriter_c ⟨[v0, undef, undef, undef, undef, undef, undef, undef, undef, undef, undef, undef, undef], [], h, none⟩ (bodyQ Try.prog T0 [(2, none), (3, none)] R X)) :
    Runs Try.prog T0 (.fn 47) [v0] h R X := Runs.fn landfallref04_NewWriter_t rfl k


/-! 48 landfall/landfallref06.Put -/
abbrev fn_landfallref06_Put : FuncId := 48
noncomputable def landfallref06_Put_c : ACode :=
  (.seq (.region [
      ⟨(some 3), .box 28 (.tmp 1), none, [], false⟩]) (.seq (.region [
      ⟨(some 4), .mov (.tmp 0), none, [], false⟩,
      ⟨(some 5), .fieldAddr 0 (.tmp 3), none, [], false⟩,
      ⟨(some 6), .load none (.tmp 5), none, [], false⟩,
      ⟨(some 7), .callV (.func 71) [(.tmp 4), (.tmp 6)], none, [], false⟩]) (.seq (.region [
      ⟨(some 8), .mov (.tmp 0), none, [], false⟩,
      ⟨(some 9), .fieldAddr 1 (.tmp 3), none, [], false⟩,
      ⟨(some 10), .load none (.tmp 9), none, [], false⟩,
      ⟨(some 11), .callV (.func 72) [(.tmp 8), (.tmp 10)], none, [], false⟩]) (.seq (.region [
      ⟨(some 12), .mov (.tmp 0), none, [], false⟩,
      ⟨(some 13), .fieldAddr 2 (.tmp 3), none, [], false⟩,
      ⟨(some 14), .load none (.tmp 13), none, [], false⟩,
      ⟨(some 15), .callV (.func 72) [(.tmp 12), (.tmp 14)], none, [], false⟩]) (.seq (.region [
      ⟨(some 16), .mov (.tmp 0), none, [], false⟩,
      ⟨(some 17), .fieldAddr 3 (.tmp 3), none, [], false⟩,
      ⟨(some 18), .load (some 32) (.tmp 17), none, [], false⟩,
      ⟨(some 19), .callV (.func 73) [(.tmp 16), (.tmp 18)], none, [], false⟩]) (.seq (.region [
      ⟨(some 20), .mov (.tmp 0), none, [], false⟩,
      ⟨(some 21), .fieldAddr 35 (.tmp 3), none, [], false⟩,
      ⟨(some 22), .load (some 32) (.tmp 21), none, [], false⟩,
      ⟨(some 23), .callV (.func 73) [(.tmp 20), (.tmp 22)], none, [], false⟩]) (.seq (.region [
      ⟨(some 24), .mov (.tmp 0), none, [], false⟩,
      ⟨(some 25), .fieldAddr 67 (.tmp 3), none, [], false⟩,
      ⟨(some 26), .load (some 32) (.tmp 25), none, [], false⟩,
      ⟨(some 27), .callV (.func 73) [(.tmp 24), (.tmp 26)], none, [], false⟩]) (.region [
      ⟨(some 28), .mov (.tmp 0), none, [], false⟩,
      ⟨(some 29), .fieldAddr 99 (.tmp 3), none, [], false⟩,
      ⟨(some 30), .load (some 32) (.tmp 29), none, [], false⟩,
      ⟨(some 31), .callV (.func 73) [(.tmp 28), (.tmp 30)], none, [], false⟩]))))))))
noncomputable def landfallref06_Put : AFunc := ⟨32, [], landfallref06_Put_c, none⟩
theorem landfallref06_Put_t0 : tableOf Try.prog 48 = some landfallref06_Put := by kernel_rfl
theorem landfallref06_Put_t : T0 48 = some landfallref06_Put := withKept_t rfl (withTrue_t rfl landfallref06_Put_t0)
theorem landfallref06_Put_runs {v0 v1 : Value} {h : Heap} {R : RP} {X : XP} (k : RunC Try.prog T0 landfallref06_Put_c ⟨[v0, v1, undef, undef, undef, undef, undef, undef, undef, undef, undef, undef, undef, undef, undef, undef, undef, undef, undef, undef, undef, undef, undef, undef, undef, undef, undef, undef, undef, undef, undef, undef], [], h, none⟩ (bodyQ Try.prog T0 [] R X)) :
    Runs Try.prog T0 (.fn 48) [v0, v1] h R X := Runs.fn landfallref06_Put_t rfl k


/-! 49 (*landfall/landfallref04.Writer).Done -/
abbrev fn_landfallref04_Writer_Done : FuncId := 49
noncomputable def landfallref04_Writer_Done_c : ACode :=
  (.seq (.region [
      ⟨(some 2), .mov (.const (.slice none 0 0)), none, [], false⟩,
      ⟨(some 3), .mov (.const (.int .i64 0)), none, [], false⟩]) (.seq (.seq (.region [
      ⟨(some 4), .mov (.tmp 0), none, [], false⟩,
      ⟨(some 5), .nilCheck (.tmp 4), none, [], false⟩,
      ⟨(some 6), .fieldAddr 2 (.tmp 5), none, [], false⟩,
      ⟨(some 7), .load none (.tmp 6), none, [], false⟩,
      ⟨(some 8), .bin .neq (so (.binOp .neq 29 (.tmp 7) (.const (.int .i64 0)) 29) 4) (.tmp 7) (.const (.int .i64 0)), none, [], false⟩]) (.cond (.tmp 8)
    (.seq (.regionD [
      ⟨(some 9), .mov (.tmp 0), none, [], false⟩,
      ⟨(some 10), .nilCheck (.tmp 9), none, [], false⟩,
      ⟨(some 11), .fieldAddr 2 (.tmp 10), none, [], false⟩,
      ⟨(some 12), .load none (.tmp 11), none, [], false⟩,
      ⟨(some 2), .mov (.const (.slice none 0 0)), none, [], false⟩,
      ⟨(some 3), .mov (.tmp 12), none, [], true⟩]) .ret)
    .skip)) (.seq (.region [
      ⟨(some 13), .buildSlice 5 [] 0 [], none, [], false⟩,
      ⟨(some 14), .mov (.tmp 0), none, [], false⟩,
      ⟨(some 15), .nilCheck (.tmp 14), none, [], false⟩,
      ⟨(some 16), .fieldAddr 1 (.tmp 15), none, [], false⟩,
      ⟨(some 17), .load none (.tmp 16), none, [], false⟩,
      ⟨(some 18), .append 5 1 1 [(.int .u8 0)] false (.tmp 13) (.tmp 17), none, [], false⟩,
      ⟨(some 2), .mov (.tmp 18), none, [], false⟩,
      ⟨(some 3), .mov (.const (.int .i64 0)), none, [], false⟩]) .ret)))
noncomputable def landfallref04_Writer_Done : AFunc := ⟨19, [(2, none), (3, none)], landfallref04_Writer_Done_c, none⟩
theorem landfallref04_Writer_Done_t0 : tableOf Try.prog 49 = some landfallref04_Writer_Done := by kernel_rfl
theorem landfallref04_Writer_Done_t : T0 49 = some landfallref04_Writer_Done := withKept_t rfl (withTrue_t rfl landfallref04_Writer_Done_t0)
theorem landfallref04_Writer_Done_runs {v0 : Value} {h : Heap} {R : RP} {X : XP} (k : RunC Try.prog T0 landfallref04_Writer_Done_c ⟨[v0, undef, undef, undef, undef, undef, undef, undef, undef, undef, undef, undef, undef, undef, undef, undef, undef, undef, undef], [], h, none⟩ (bodyQ Try.prog T0 [(2, none), (3, none)] R X)) :
    Runs Try.prog T0 (.fn 49) [v0] h R X := Runs.fn landfallref04_Writer_Done_t rfl k


/-! 50 landfall/landfallref03.Sum -/
abbrev fn_landfallref03_Sum : FuncId := 50
noncomputable def landfallref03_Sum_l0 : ACode :=
  (.seq (.seq (.region [
      ⟨(some 11), .mov (.tmp 3), none, [], false⟩,
      ⟨(some 12), .lenSl (.tmp 11), none, [], false⟩,
      ⟨(some 13), .bin .eql (so (.binOp .eql 3 (.tmp 12) (.const (.int .i64 0)) 3) 4) (.tmp 12) (.const (.int .i64 0)), none, [], false⟩,
      ⟨(some 14), .mov (.tmp 13), none, [], false⟩,
      ⟨(some 15), .mov (.tmp 3), (some (14, false)), [], false⟩,
      ⟨(some 16), .lenSl (.tmp 15), (some (14, false)), [], false⟩,
      ⟨(some 17), .bin .rem (so (.binOp .rem 3 (.tmp 16) (.const (.int .i64 64)) 3) 3) (.tmp 16) (.const (.int .i64 64)), (some (14, false)), [], false⟩,
      ⟨(some 18), .bin .neq (so (.binOp .neq 3 (.tmp 17) (.const (.int .i64 0)) 3) 4) (.tmp 17) (.const (.int .i64 0)), (some (14, false)), [], false⟩,
      ⟨(some 19), .pick (.tmp 14) (.const (.bool true)) (.tmp 18), none, [], false⟩]) (.cond (.tmp 19)
    .skip
    (.exit 0))) (.block 1 (.region [
      ⟨(some 20), .mov (.tmp 3), none, [], false⟩,
      ⟨(some 21), .buildSlice 5 [(.int .u8 0)] 1 [(0, 1, (.const (.int .u8 0)))], none, [], false⟩,
      ⟨(some 22), .append 5 1 1 [(.int .u8 0)] false (.tmp 20) (.tmp 21), none, [], false⟩,
      ⟨(some 3), .mov (.tmp 22), none, [], false⟩])))
noncomputable def landfallref03_Sum_l1 : ACode :=
  (.seq (.seq (.region [
      ⟨(some 28), .mov (.tmp 5), none, [], false⟩,
      ⟨(some 29), .mov (.tmp 3), none, [], false⟩,
      ⟨(some 30), .lenSl (.tmp 29), none, [], false⟩,
      ⟨(some 31), .bin .lss (so (.binOp .lss 3 (.tmp 28) (.tmp 30) 3) 4) (.tmp 28) (.tmp 30), none, [], false⟩]) (.cond (.tmp 31)
    .skip
    (.exit 2))) (.seq (.block 3 (.regionD [
      ⟨(some 34), .load (some 8) (.tmp 4), none, [], false⟩,
      ⟨(some 35), .mov (.tmp 3), none, [], false⟩,
      ⟨(some 36), .mov (.tmp 5), none, [], false⟩,
      ⟨(some 37), .mov (.tmp 5), none, [], false⟩,
      ⟨(some 38), .bin .add (so (.binOp .add 3 (.tmp 37) (.const (.int .i64 64)) 3) 3) (.tmp 37) (.const (.int .i64 64)), none, [], false⟩,
      ⟨(some 39), .sliceSl 1 (.tmp 35) (some (.tmp 36)) (some (.tmp 38)) none, none, [], false⟩,
      ⟨(some 40), .mov (.tmp 0), none, [], false⟩,
      ⟨(some 41), .lenSl (.tmp 40), none, [], false⟩,
      ⟨(some 42), .mov (.tmp 5), none, [], false⟩,
      ⟨(some 43), .bin .add (so (.binOp .add 3 (.tmp 42) (.const (.int .i64 64)) 3) 3) (.tmp 42) (.const (.int .i64 64)), none, [], false⟩,
      ⟨(some 44), .raw (so (.call ⟨.builtin .min, #[(.tmp 41), (.tmp 43)], #[3, 3]⟩) 3), none, [], false⟩,
      ⟨(some 45), .mov (.tmp 5), none, [], false⟩,
      ⟨(some 46), .bin .add (so (.binOp .add 3 (.tmp 45) (.const (.int .i64 64)) 3) 3) (.tmp 45) (.const (.int .i64 64)), none, [], false⟩,
      ⟨(some 47), .mov (.tmp 3), none, [], false⟩,
      ⟨(some 48), .lenSl (.tmp 47), none, [], false⟩,
      ⟨(some 49), .bin .eql (so (.binOp .eql 3 (.tmp 46) (.tmp 48) 3) 4) (.tmp 46) (.tmp 48), none, [], false⟩,
      ⟨(some 50), .callV (.func 75) [(.tmp 34), (.tmp 39), (.tmp 44), (.tmp 49)], none, [], true⟩,
      ⟨none, .store 8 (.tmp 4) (.tmp 50), none, [], true⟩])) (.region [
      ⟨(some 32), .mov (.tmp 5), none, [], false⟩,
      ⟨(some 33), .bin .add (so (.binOp .add 3 (.tmp 32) (.const (.int .i64 64)) 3) 3) (.tmp 32) (.const (.int .i64 64)), none, [], false⟩,
      ⟨(some 5), .mov (.tmp 33), none, [], false⟩])))
noncomputable def landfallref03_Sum_l2 : ACode :=
  (.seq (.seq (.region [
      ⟨(some 51), .mov (.tmp 7), none, [], false⟩,
      ⟨(some 52), .bin .lss (so (.binOp .lss 3 (.tmp 51) (.const (.int .i64 32)) 3) 4) (.tmp 51) (.const (.int .i64 32)), none, [], false⟩]) (.cond (.tmp 52)
    .skip
    (.exit 4))) (.seq (.block 5 (.region [
      ⟨(some 55), .mov (.tmp 7), none, [], false⟩,
      ⟨(some 56), .mov (.tmp 7), none, [], false⟩,
      ⟨(some 57), .bin .quo (so (.binOp .quo 3 (.tmp 56) (.const (.int .i64 4)) 3) 3) (.tmp 56) (.const (.int .i64 4)), none, [], false⟩,
      ⟨(some 58), .indexArr 8 1 (.tmp 4) (.tmp 57), none, [], false⟩,
      ⟨(some 59), .load none (.tmp 58), none, [], false⟩,
      ⟨(some 60), .mov (.tmp 7), none, [], false⟩,
      ⟨(some 61), .bin .rem (so (.binOp .rem 3 (.tmp 60) (.const (.int .i64 4)) 3) 3) (.tmp 60) (.const (.int .i64 4)), none, [], false⟩,
      ⟨(some 62), .bin .mul (so (.binOp .mul 3 (.const (.int .i64 8)) (.tmp 61) 3) 3) (.const (.int .i64 8)) (.tmp 61), none, [], false⟩,
      ⟨(some 63), .conv .u64 (so (.convert 3 104 (.tmp 62)) 104) (.tmp 62), none, [], false⟩,
      ⟨(some 64), .bin .shr (so (.binOp .shr 100 (.tmp 59) (.tmp 63) 104) 100) (.tmp 59) (.tmp 63), none, [], false⟩,
      ⟨(some 65), .conv .u8 (so (.convert 100 5 (.tmp 64)) 5) (.tmp 64), none, [], false⟩,
      ⟨(some 66), .indexArr 32 1 (.tmp 6) (.tmp 55), none, [], false⟩,
      ⟨none, .store 1 (.tmp 66) (.tmp 65), none, [], false⟩])) (.region [
      ⟨(some 53), .mov (.tmp 7), none, [], false⟩,
      ⟨(some 54), .bin .add (so (.binOp .add 3 (.tmp 53) (.const (.int .i64 1)) 3) 3) (.tmp 53) (.const (.int .i64 1)), none, [], false⟩,
      ⟨(some 7), .mov (.tmp 54), none, [], false⟩])))
noncomputable def landfallref03_Sum_c : ACode :=
  (.seq (.region [
      ⟨(some 2), .alloc 26 z32, none, [], false⟩]) (.seq (.region [
      ⟨(some 8), .buildSlice 5 [] 0 [], none, [], false⟩,
      ⟨(some 9), .mov (.tmp 0), none, [], false⟩,
      ⟨(some 10), .append 5 1 1 [(.int .u8 0)] false (.tmp 8) (.tmp 9), none, [], false⟩,
      ⟨(some 3), .mov (.tmp 10), none, [], false⟩]) (.seq (.block 0 (.loop landfallref03_Sum_l0)) (.seq (.region [
      ⟨(some 23), .callV (.func 74) [], none, [], false⟩,
      ⟨(some 4), .alloc 101 [(.int .u32 0), (.int .u32 0), (.int .u32 0), (.int .u32 0), (.int .u32 0), (.int .u32 0), (.int .u32 0), (.int .u32 0)], none, [], false⟩,
      ⟨none, .store 8 (.tmp 4) (.tmp 23), none, [], false⟩]) (.seq (.region [
      ⟨(some 24), .indexArr 8 1 (.tmp 4) (.const (.int .i64 0)), none, [], false⟩,
      ⟨(some 25), .load none (.tmp 24), none, [], false⟩,
      ⟨(some 26), .bin .xor (so (.binOp .xor 100 (.tmp 25) (.const (.int .u32 16842784)) 100) 100) (.tmp 25) (.const (.int .u32 16842784)), none, [], false⟩,
      ⟨(some 27), .indexArr 8 1 (.tmp 4) (.const (.int .i64 0)), none, [], false⟩,
      ⟨none, .store 1 (.tmp 27) (.tmp 26), none, [], false⟩]) (.seq (.seq (.region [
      ⟨(some 5), .mov (.const (.int .i64 0)), none, [], false⟩]) (.block 2 (.loop landfallref03_Sum_l1))) (.seq (.region [
      ⟨(some 6), .alloc 26 z32, none, [], false⟩]) (.seq (.seq (.region [
      ⟨(some 7), .mov (.const (.int .i64 0)), none, [], false⟩]) (.block 4 (.loop landfallref03_Sum_l2))) (.seq (.region [
      ⟨(some 67), .load (some 32) (.tmp 6), none, [], false⟩,
      ⟨none, .store 32 (.tmp 2) (.tmp 67), none, [], false⟩]) .ret)))))))))
noncomputable def landfallref03_Sum : AFunc := ⟨68, [(2, some (some 32))], landfallref03_Sum_c, none⟩
theorem landfallref03_Sum_t0 : tableOf Try.prog 50 = some landfallref03_Sum := by kernel_rfl
theorem landfallref03_Sum_t : T0 50 = some landfallref03_Sum := withKept_t rfl (withTrue_t rfl landfallref03_Sum_t0)
theorem landfallref03_Sum_runs {v0 : Value} {h : Heap} {R : RP} {X : XP} (k : RunC Try.prog T0 landfallref03_Sum_c ⟨[v0, undef, undef, undef, undef, undef, undef, undef, undef, undef, undef, undef, undef, undef, undef, undef, undef, undef, undef, undef, undef, undef, undef, undef, undef, undef, undef, undef, undef, undef, undef, undef, undef, undef, undef, undef, undef, undef, undef, undef, undef, undef, undef, undef, undef, undef, undef, undef, undef, undef, undef, undef, undef, undef, undef, undef, undef, undef, undef, undef, undef, undef, undef, undef, undef, undef, undef, undef], [], h, none⟩ (bodyQ Try.prog T0 [(2, some (some 32))] R X)) :
    Runs Try.prog T0 (.fn 50) [v0] h R X := Runs.fn landfallref03_Sum_t rfl k
/-- the slots that turn in the loop: v3 -/
noncomputable def landfallref03_Sum_l0_J (f0 f1 f2 f4 f5 f6 f7 f8 f9 f10 f23 f24 f25 f26 f27 f28 f29 f30 f31 f32 f33 f34 f35 f36 f37 f38 f39 f40 f41 f42 f43 f44 f45 f46 f47 f48 f49 f50 f51 f52 f53 f54 f55 f56 f57 f58 f59 f60 f61 f62 f63 f64 f65 f66 f67 : Value) (ds : List Deferred) (rd : Option Nat) (I : Nat → Value → Heap → Prop) (m : Nat) (s : St) : Prop := ∃ (v3 : Value), ∃ h : Heap, ∃ (x11 x12 x13 x14 x15 x16 x17 x18 x19 x20 x21 x22 : Value), s = ⟨[f0, f1, f2, v3, f4, f5, f6, f7, f8, f9, f10, x11, x12, x13, x14, x15, x16, x17, x18, x19, x20, x21, x22, f23, f24, f25, f26, f27, f28, f29, f30, f31, f32, f33, f34, f35, f36, f37, f38, f39, f40, f41, f42, f43, f44, f45, f46, f47, f48, f49, f50, f51, f52, f53, f54, f55, f56, f57, f58, f59, f60, f61, f62, f63, f64, f65, f66, f67], ds, h, rd⟩ ∧ I m v3 h
theorem landfallref03_Sum_l0_rule {f0 f1 f2 f4 f5 f6 f7 f8 f9 f10 f23 f24 f25 f26 f27 f28 f29 f30 f31 f32 f33 f34 f35 f36 f37 f38 f39 f40 f41 f42 f43 f44 f45 f46 f47 f48 f49 f50 f51 f52 f53 f54 f55 f56 f57 f58 f59 f60 f61 f62 f63 f64 f65 f66 f67 : Value} {ds : List Deferred} {rd : Option Nat} {Q : QP} (I : Nat → Value → Heap → Prop) (hb : ∀ (m : Nat) (v3 : Value) (h : Heap) (x11 x12 x13 x14 x15 x16 x17 x18 x19 x20 x21 x22 : Value) , I m v3 h → RunC Try.prog T0 landfallref03_Sum_l0 ⟨[f0, f1, f2, v3, f4, f5, f6, f7, f8, f9, f10, x11, x12, x13, x14, x15, x16, x17, x18, x19, x20, x21, x22, f23, f24, f25, f26, f27, f28, f29, f30, f31, f32, f33, f34, f35, f36, f37, f38, f39, f40, f41, f42, f43, f44, f45, f46, f47, f48, f49, f50, f51, f52, f53, f54, f55, f56, f57, f58, f59, f60, f61, f62, f63, f64, f65, f66, f67], ds, h, rd⟩ (loopQ (landfallref03_Sum_l0_J f0 f1 f2 f4 f5 f6 f7 f8 f9 f10 f23 f24 f25 f26 f27 f28 f29 f30 f31 f32 f33 f34 f35 f36 f37 f38 f39 f40 f41 f42 f43 f44 f45 f46 f47 f48 f49 f50 f51 f52 f53 f54 f55 f56 f57 f58 f59 f60 f61 f62 f63 f64 f65 f66 f67 ds rd I) m Q))
    (m : Nat) {v3 : Value} {h : Heap} {x11 x12 x13 x14 x15 x16 x17 x18 x19 x20 x21 x22 : Value} (hi : I m v3 h) : RunC Try.prog T0 (.loop landfallref03_Sum_l0) ⟨[f0, f1, f2, v3, f4, f5, f6, f7, f8, f9, f10, x11, x12, x13, x14, x15, x16, x17, x18, x19, x20, x21, x22, f23, f24, f25, f26, f27, f28, f29, f30, f31, f32, f33, f34, f35, f36, f37, f38, f39, f40, f41, f42, f43, f44, f45, f46, f47, f48, f49, f50, f51, f52, f53, f54, f55, f56, f57, f58, f59, f60, f61, f62, f63, f64, f65, f66, f67], ds, h, rd⟩ Q :=
  RunC.loopJ (landfallref03_Sum_l0_J f0 f1 f2 f4 f5 f6 f7 f8 f9 f10 f23 f24 f25 f26 f27 f28 f29 f30 f31 f32 f33 f34 f35 f36 f37 f38 f39 f40 f41 f42 f43 f44 f45 f46 f47 f48 f49 f50 f51 f52 f53 f54 f55 f56 f57 f58 f59 f60 f61 f62 f63 f64 f65 f66 f67 ds rd I) (fun m s hj => by obtain ⟨v3, h, x11, x12, x13, x14, x15, x16, x17, x18, x19, x20, x21, x22, rfl, hi⟩ := hj; exact hb m v3 h x11 x12 x13 x14 x15 x16 x17 x18 x19 x20 x21 x22 hi) m _ ⟨_, h, _, _, _, _, _, _, _, _, _, _, _, _, rfl, hi⟩
theorem landfallref03_Sum_l0_again {f0 f1 f2 f4 f5 f6 f7 f8 f9 f10 f23 f24 f25 f26 f27 f28 f29 f30 f31 f32 f33 f34 f35 f36 f37 f38 f39 f40 f41 f42 f43 f44 f45 f46 f47 f48 f49 f50 f51 f52 f53 f54 f55 f56 f57 f58 f59 f60 f61 f62 f63 f64 f65 f66 f67 : Value} {ds : List Deferred} {rd : Option Nat} {Q : QP} {I : Nat → Value → Heap → Prop} {m : Nat} (m' : Nat) {v3 : Value} {h : Heap} {x11 x12 x13 x14 x15 x16 x17 x18 x19 x20 x21 x22 : Value} (hm : m' < m) (hi : I m' v3 h) : loopQ (landfallref03_Sum_l0_J f0 f1 f2 f4 f5 f6 f7 f8 f9 f10 f23 f24 f25 f26 f27 f28 f29 f30 f31 f32 f33 f34 f35 f36 f37 f38 f39 f40 f41 f42 f43 f44 f45 f46 f47 f48 f49 f50 f51 f52 f53 f54 f55 f56 f57 f58 f59 f60 f61 f62 f63 f64 f65 f66 f67 ds rd I) m Q .normal ⟨[f0, f1, f2, v3, f4, f5, f6, f7, f8, f9, f10, x11, x12, x13, x14, x15, x16, x17, x18, x19, x20, x21, x22, f23, f24, f25, f26, f27, f28, f29, f30, f31, f32, f33, f34, f35, f36, f37, f38, f39, f40, f41, f42, f43, f44, f45, f46, f47, f48, f49, f50, f51, f52, f53, f54, f55, f56, f57, f58, f59, f60, f61, f62, f63, f64, f65, f66, f67], ds, h, rd⟩ :=
  loopQ.again m' hm ⟨_, h, _, _, _, _, _, _, _, _, _, _, _, _, rfl, hi⟩
/-- the slots that turn in the loop: v5 -/
noncomputable def landfallref03_Sum_l1_J (f0 f1 f2 f3 f4 f6 f7 f8 f9 f10 f11 f12 f13 f14 f15 f16 f17 f18 f19 f20 f21 f22 f23 f24 f25 f26 f27 f51 f52 f53 f54 f55 f56 f57 f58 f59 f60 f61 f62 f63 f64 f65 f66 f67 : Value) (ds : List Deferred) (rd : Option Nat) (I : Nat → Value → Heap → Prop) (m : Nat) (s : St) : Prop := ∃ (v5 : Value), ∃ h : Heap, ∃ (x28 x29 x30 x31 x32 x33 x34 x35 x36 x37 x38 x39 x40 x41 x42 x43 x44 x45 x46 x47 x48 x49 x50 : Value), s = ⟨[f0, f1, f2, f3, f4, v5, f6, f7, f8, f9, f10, f11, f12, f13, f14, f15, f16, f17, f18, f19, f20, f21, f22, f23, f24, f25, f26, f27, x28, x29, x30, x31, x32, x33, x34, x35, x36, x37, x38, x39, x40, x41, x42, x43, x44, x45, x46, x47, x48, x49, x50, f51, f52, f53, f54, f55, f56, f57, f58, f59, f60, f61, f62, f63, f64, f65, f66, f67], ds, h, rd⟩ ∧ I m v5 h
theorem landfallref03_Sum_l1_rule {f0 f1 f2 f3 f4 f6 f7 f8 f9 f10 f11 f12 f13 f14 f15 f16 f17 f18 f19 f20 f21 f22 f23 f24 f25 f26 f27 f51 f52 f53 f54 f55 f56 f57 f58 f59 f60 f61 f62 f63 f64 f65 f66 f67 : Value} {ds : List Deferred} {rd : Option Nat} {Q : QP} (I : Nat → Value → Heap → Prop) (hb : ∀ (m : Nat) (v5 : Value) (h : Heap) (x28 x29 x30 x31 x32 x33 x34 x35 x36 x37 x38 x39 x40 x41 x42 x43 x44 x45 x46 x47 x48 x49 x50 : Value) , I m v5 h → RunC Try.prog T0 landfallref03_Sum_l1 ⟨[f0, f1, f2, f3, f4, v5, f6, f7, f8, f9, f10, f11, f12, f13, f14, f15, f16, f17, f18, f19, f20, f21, f22, f23, f24, f25, f26, f27, x28, x29, x30, x31, x32, x33, x34, x35, x36, x37, x38, x39, x40, x41, x42, x43, x44, x45, x46, x47, x48, x49, x50, f51, f52, f53, f54, f55, f56, f57, f58, f59, f60, f61, f62, f63, f64, f65, f66, f67], ds, h, rd⟩ (loopQ (landfallref03_Sum_l1_J f0 f1 f2 f3 f4 f6 f7 f8 f9 f10 f11 f12 f13 f14 f15 f16 f17 f18 f19 f20 f21 f22 f23 f24 f25 f26 f27 f51 f52 f53 f54 f55 f56 f57 f58 f59 f60 f61 f62 f63 f64 f65 f66 f67 ds rd I) m Q))
    (m : Nat) {v5 : Value} {h : Heap} {x28 x29 x30 x31 x32 x33 x34 x35 x36 x37 x38 x39 x40 x41 x42 x43 x44 x45 x46 x47 x48 x49 x50 : Value} (hi : I m v5 h) : RunC Try.prog T0 (.loop landfallref03_Sum_l1) ⟨[f0, f1, f2, f3, f4, v5, f6, f7, f8, f9, f10, f11, f12, f13, f14, f15, f16, f17, f18, f19, f20, f21, f22, f23, f24, f25, f26, f27, x28, x29, x30, x31, x32, x33, x34, x35, x36, x37, x38, x39, x40, x41, x42, x43, x44, x45, x46, x47, x48, x49, x50, f51, f52, f53, f54, f55, f56, f57, f58, f59, f60, f61, f62, f63, f64, f65, f66, f67], ds, h, rd⟩ Q :=
  RunC.loopJ (landfallref03_Sum_l1_J f0 f1 f2 f3 f4 f6 f7 f8 f9 f10 f11 f12 f13 f14 f15 f16 f17 f18 f19 f20 f21 f22 f23 f24 f25 f26 f27 f51 f52 f53 f54 f55 f56 f57 f58 f59 f60 f61 f62 f63 f64 f65 f66 f67 ds rd I) (fun m s hj => by obtain ⟨v5, h, x28, x29, x30, x31, x32, x33, x34, x35, x36, x37, x38, x39, x40, x41, x42, x43, x44, x45, x46, x47, x48, x49, x50, rfl, hi⟩ := hj; exact hb m v5 h x28 x29 x30 x31 x32 x33 x34 x35 x36 x37 x38 x39 x40 x41 x42 x43 x44 x45 x46 x47 x48 x49 x50 hi) m _ ⟨_, h, _, _, _, _, _, _, _, _, _, _, _, _, _, _, _, _, _, _, _, _, _, _, _, rfl, hi⟩
theorem landfallref03_Sum_l1_again {f0 f1 f2 f3 f4 f6 f7 f8 f9 f10 f11 f12 f13 f14 f15 f16 f17 f18 f19 f20 f21 f22 f23 f24 f25 f26 f27 f51 f52 f53 f54 f55 f56 f57 f58 f59 f60 f61 f62 f63 f64 f65 f66 f67 : Value} {ds : List Deferred} {rd : Option Nat} {Q : QP} {I : Nat → Value → Heap → Prop} {m : Nat} (m' : Nat) {v5 : Value} {h : Heap} {x28 x29 x30 x31 x32 x33 x34 x35 x36 x37 x38 x39 x40 x41 x42 x43 x44 x45 x46 x47 x48 x49 x50 : Value} (hm : m' < m) (hi : I m' v5 h) : loopQ (landfallref03_Sum_l1_J f0 f1 f2 f3 f4 f6 f7 f8 f9 f10 f11 f12 f13 f14 f15 f16 f17 f18 f19 f20 f21 f22 f23 f24 f25 f26 f27 f51 f52 f53 f54 f55 f56 f57 f58 f59 f60 f61 f62 f63 f64 f65 f66 f67 ds rd I) m Q .normal ⟨[f0, f1, f2, f3, f4, v5, f6, f7, f8, f9, f10, f11, f12, f13, f14, f15, f16, f17, f18, f19, f20, f21, f22, f23, f24, f25, f26, f27, x28, x29, x30, x31, x32, x33, x34, x35, x36, x37, x38, x39, x40, x41, x42, x43, x44, x45, x46, x47, x48, x49, x50, f51, f52, f53, f54, f55, f56, f57, f58, f59, f60, f61, f62, f63, f64, f65, f66, f67], ds, h, rd⟩ :=
  loopQ.again m' hm ⟨_, h, _, _, _, _, _, _, _, _, _, _, _, _, _, _, _, _, _, _, _, _, _, _, _, rfl, hi⟩
/-- the slots that turn in the loop: v7 -/
noncomputable def landfallref03_Sum_l2_J (f0 f1 f2 f3 f4 f5 f6 f8 f9 f10 f11 f12 f13 f14 f15 f16 f17 f18 f19 f20 f21 f22 f23 f24 f25 f26 f27 f28 f29 f30 f31 f32 f33 f34 f35 f36 f37 f38 f39 f40 f41 f42 f43 f44 f45 f46 f47 f48 f49 f50 f67 : Value) (ds : List Deferred) (rd : Option Nat) (I : Nat → Value → Heap → Prop) (m : Nat) (s : St) : Prop := ∃ (v7 : Value), ∃ h : Heap, ∃ (x51 x52 x53 x54 x55 x56 x57 x58 x59 x60 x61 x62 x63 x64 x65 x66 : Value), s = ⟨[f0, f1, f2, f3, f4, f5, f6, v7, f8, f9, f10, f11, f12, f13, f14, f15, f16, f17, f18, f19, f20, f21, f22, f23, f24, f25, f26, f27, f28, f29, f30, f31, f32, f33, f34, f35, f36, f37, f38, f39, f40, f41, f42, f43, f44, f45, f46, f47, f48, f49, f50, x51, x52, x53, x54, x55, x56, x57, x58, x59, x60, x61, x62, x63, x64, x65, x66, f67], ds, h, rd⟩ ∧ I m v7 h
theorem landfallref03_Sum_l2_rule {f0 f1 f2 f3 f4 f5 f6 f8 f9 f10 f11 f12 f13 f14 f15 f16 f17 f18 f19 f20 f21 f22 f23 f24 f25 f26 f27 f28 f29 f30 f31 f32 f33 f34 f35 f36 f37 f38 f39 f40 f41 f42 f43 f44 f45 f46 f47 f48 f49 f50 f67 : Value} {ds : List Deferred} {rd : Option Nat} {Q : QP} (I : Nat → Value → Heap → Prop) (hb : ∀ (m : Nat) (v7 : Value) (h : Heap) (x51 x52 x53 x54 x55 x56 x57 x58 x59 x60 x61 x62 x63 x64 x65 x66 : Value) , I m v7 h → RunC Try.prog T0 landfallref03_Sum_l2 ⟨[f0, f1, f2, f3, f4, f5, f6, v7, f8, f9, f10, f11, f12, f13, f14, f15, f16, f17, f18, f19, f20, f21, f22, f23, f24, f25, f26, f27, f28, f29, f30, f31, f32, f33, f34, f35, f36, f37, f38, f39, f40, f41, f42, f43, f44, f45, f46, f47, f48, f49, f50, x51, x52, x53, x54, x55, x56, x57, x58, x59, x60, x61, x62, x63, x64, x65, x66, f67], ds, h, rd⟩ (loopQ (landfallref03_Sum_l2_J f0 f1 f2 f3 f4 f5 f6 f8 f9 f10 f11 f12 f13 f14 f15 f16 f17 f18 f19 f20 f21 f22 f23 f24 f25 f26 f27 f28 f29 f30 f31 f32 f33 f34 f35 f36 f37 f38 f39 f40 f41 f42 f43 f44 f45 f46 f47 f48 f49 f50 f67 ds rd I) m Q))
    (m : Nat) {v7 : Value} {h : Heap} {x51 x52 x53 x54 x55 x56 x57 x58 x59 x60 x61 x62 x63 x64 x65 x66 : Value} (hi : I m v7 h) : RunC Try.prog T0 (.loop landfallref03_Sum_l2) ⟨[f0, f1, f2, f3, f4, f5, f6, v7, f8, f9, f10, f11, f12, f13, f14, f15, f16, f17, f18, f19, f20, f21, f22, f23, f24, f25, f26, f27, f28, f29, f30, f31, f32, f33, f34, f35, f36, f37, f38, f39, f40, f41, f42, f43, f44, f45, f46, f47, f48, f49, f50, x51, x52, x53, x54, x55, x56, x57, x58, x59, x60, x61, x62, x63, x64, x65, x66, f67], ds, h, rd⟩ Q :=
  RunC.loopJ (landfallref03_Sum_l2_J f0 f1 f2 f3 f4 f5 f6 f8 f9 f10 f11 f12 f13 f14 f15 f16 f17 f18 f19 f20 f21 f22 f23 f24 f25 f26 f27 f28 f29 f30 f31 f32 f33 f34 f35 f36 f37 f38 f39 f40 f41 f42 f43 f44 f45 f46 f47 f48 f49 f50 f67 ds rd I) (fun m s hj => by obtain ⟨v7, h, x51, x52, x53, x54, x55, x56, x57, x58, x59, x60, x61, x62, x63, x64, x65, x66, rfl, hi⟩ := hj; exact hb m v7 h x51 x52 x53 x54 x55 x56 x57 x58 x59 x60 x61 x62 x63 x64 x65 x66 hi) m _ ⟨_, h, _, _, _, _, _, _, _, _, _, _, _, _, _, _, _, _, rfl, hi⟩
theorem landfallref03_Sum_l2_again {f0 f1 f2 f3 f4 f5 f6 f8 f9 f10 f11 f12 f13 f14 f15 f16 f17 f18 f19 f20 f21 f22 f23 f24 f25 f26 f27 f28 f29 f30 f31 f32 f33 f34 f35 f36 f37 f38 f39 f40 f41 f42 f43 f44 f45 f46 f47 f48 f49 f50 f67 : Value} {ds : List Deferred} {rd : Option Nat} {Q : QP} {I : Nat → Value → Heap → Prop} {m : Nat} (m' : Nat) {v7 : Value} {h : Heap} {x51 x52 x53 x54 x55 x56 x57 x58 x59 x60 x61 x62 x63 x64 x65 x66 : Value} (hm : m' < m) (hi : I m' v7 h) : loopQ (landfallref03_Sum_l2_J f0 f1 f2 f3 f4 f5 f6 f8 f9 f10 f11 f12 f13 f14 f15 f16 f17 f18 f19 f20 f21 f22 f23 f24 f25 f26 f27 f28 f29 f30 f31 f32 f33 f34 f35 f36 f37 f38 f39 f40 f41 f42 f43 f44 f45 f46 f47 f48 f49 f50 f67 ds rd I) m Q .normal ⟨[f0, f1, f2, f3, f4, f5, f6, v7, f8, f9, f10, f11, f12, f13, f14, f15, f16, f17, f18, f19, f20, f21, f22, f23, f24, f25, f26, f27, f28, f29, f30, f31, f32, f33, f34, f35, f36, f37, f38, f39, f40, f41, f42, f43, f44, f45, f46, f47, f48, f49, f50, x51, x52, x53, x54, x55, x56, x57, x58, x59, x60, x61, x62, x63, x64, x65, x66, f67], ds, h, rd⟩ :=
  loopQ.again m' hm ⟨_, h, _, _, _, _, _, _, _, _, _, _, _, _, _, _, _, _, rfl, hi⟩

/-! 51 landfall/blake.New -/
abbrev fn_blake_New : FuncId := 51
noncomputable def blake_New_c : ACode :=
  (.seq (.region [
      ⟨(some 0), .mov (.const (.pointer none)), none, [], false⟩]) (.seq (.region [
      ⟨(some 2), .callV (.func 76) [], none, [], false⟩,
      ⟨(some 1), .alloc 105 [(.int .u32 0), (.int .u32 0), (.int .u32 0), (.int .u32 0), (.int .u32 0), (.int .u32 0), (.int .u32 0), (.int .u32 0)], none, [], false⟩,
      ⟨none, .store 8 (.tmp 1) (.tmp 2), none, [], false⟩]) (.seq (.region [
      ⟨(some 3), .indexArr 8 1 (.tmp 1) (.const (.int .i64 0)), none, [], false⟩,
      ⟨(some 4), .load none (.tmp 3), none, [], false⟩,
      ⟨(some 5), .bin .xor (so (.binOp .xor 100 (.tmp 4) (.const (.int .u32 16842784)) 100) 100) (.tmp 4) (.const (.int .u32 16842784)), none, [], false⟩,
      ⟨(some 6), .indexArr 8 1 (.tmp 1) (.const (.int .i64 0)), none, [], false⟩,
      ⟨none, .store 1 (.tmp 6) (.tmp 5), none, [], false⟩]) (.seq (.region [
      ⟨(some 7), .build [(.int .i64 0)] [], none, [], false⟩,
      ⟨(some 8), .box 109 (.tmp 7), none, [], false⟩,
      ⟨(some 9), .load (some 8) (.tmp 1), none, [], false⟩,
      ⟨(some 10), .build [(.pointer none), (.int .u32 0), (.int .u32 0), (.int .u32 0), (.int .u32 0), (.int .u32 0), (.int .u32 0), (.int .u32 0), (.int .u32 0), (.slice none 0 0)] [(0, 1, (.tmp 8)), (1, 8, (.tmp 9))], none, [], false⟩,
      ⟨(some 11), .box 111 (.tmp 10), none, [], false⟩,
      ⟨(some 0), .mov (.tmp 11), none, [], false⟩]) .ret))))
noncomputable def blake_New : AFunc := ⟨12, [(0, none)], blake_New_c, none⟩
theorem blake_New_t0 : tableOf Try.prog 51 = some blake_New := by kernel_rfl
theorem blake_New_t : T0 51 = some blake_New := withKept_t rfl (withTrue_t rfl blake_New_t0)
theorem blake_New_runs {v : Value} {h : Heap} {R : RP} {X : XP} (k : RunC Try.prog T0 blake_New_c ⟨[undef, undef, undef, undef, undef, undef, undef, undef, undef, undef, undef, undef], [], h, none⟩ (bodyQ Try.prog T0 [(0, none)] R X)) :
    Runs Try.prog T0 (.fn 51) [] h R X := Runs.fn blake_New_t rfl k


/-! 52 (*landfall/blake.State).Write -/
abbrev fn_blake_State_Write : FuncId := 52
noncomputable def blake_State_Write_l0 : ACode :=
  (.seq (.seq (.region [
      ⟨(some 16), .mov (.tmp 0), none, [], false⟩,
      ⟨(some 17), .nilCheck (.tmp 16), none, [], false⟩,
      ⟨(some 18), .fieldAddr 9 (.tmp 17), none, [], false⟩,
      ⟨(some 19), .load none (.tmp 18), none, [], false⟩,
      ⟨(some 20), .lenSl (.tmp 19), none, [], false⟩,
      ⟨(some 21), .bin .gtr (so (.binOp .gtr 3 (.tmp 20) (.const (.int .i64 64)) 3) 4) (.tmp 20) (.const (.int .i64 64)), none, [], false⟩]) (.cond (.tmp 21)
    .skip
    (.exit 0))) (.block 1 (.seq (.region [
      ⟨(some 22), .mov (.tmp 0), none, [], false⟩,
      ⟨(some 23), .nilCheck (.tmp 22), none, [], false⟩,
      ⟨(some 24), .fieldAddr 0 (.tmp 23), none, [], false⟩,
      ⟨(some 25), .load none (.tmp 24), none, [], false⟩,
      ⟨(some 26), .callV (.func 78) [(.tmp 25), (.const (.int .i64 64))], none, [], false⟩]) (.seq (.regionD [
      ⟨(some 27), .mov (.tmp 0), none, [], false⟩,
      ⟨(some 28), .nilCheck (.tmp 27), none, [], false⟩,
      ⟨(some 29), .fieldAddr 1 (.tmp 28), none, [], false⟩,
      ⟨(some 30), .mov (.tmp 0), none, [], false⟩,
      ⟨(some 31), .nilCheck (.tmp 30), none, [], false⟩,
      ⟨(some 32), .fieldAddr 9 (.tmp 31), none, [], false⟩,
      ⟨(some 33), .load none (.tmp 32), none, [], false⟩,
      ⟨(some 34), .sliceSl 1 (.tmp 33) none (some (.const (.int .i64 64))) none, none, [], false⟩,
      ⟨(some 35), .mov (.tmp 0), none, [], false⟩,
      ⟨(some 36), .nilCheck (.tmp 35), none, [], false⟩,
      ⟨(some 37), .fieldAddr 0 (.tmp 36), none, [], false⟩,
      ⟨(some 38), .load none (.tmp 37), none, [], false⟩,
      ⟨(some 39), .nilCheck (.tmp 38), none, [], false⟩,
      ⟨(some 40), .fieldAddr 0 (.tmp 39), none, [], false⟩,
      ⟨(some 41), .load none (.tmp 40), none, [], false⟩,
      ⟨(some 42), .callV (.func 79) [(.tmp 29), (.tmp 34), (.tmp 41), (.const (.bool false))], none, [], true⟩]) (.region [
      ⟨(some 43), .mov (.tmp 0), none, [], false⟩,
      ⟨(some 44), .mov (.tmp 0), none, [], false⟩,
      ⟨(some 45), .nilCheck (.tmp 44), none, [], false⟩,
      ⟨(some 46), .fieldAddr 9 (.tmp 45), none, [], false⟩,
      ⟨(some 47), .load none (.tmp 46), none, [], false⟩,
      ⟨(some 48), .sliceSl 1 (.tmp 47) (some (.const (.int .i64 64))) none none, none, [], false⟩,
      ⟨(some 49), .nilCheck (.tmp 43), none, [], false⟩,
      ⟨(some 50), .fieldAddr 9 (.tmp 49), none, [], false⟩,
      ⟨none, .store 1 (.tmp 50) (.tmp 48), none, [], false⟩])))))
noncomputable def blake_State_Write_c : ACode :=
  (.seq (.region [
      ⟨(some 4), .mov (.const (.int .i64 0)), none, [], false⟩]) (.seq (.seq (.region [
      ⟨(some 5), .mov (.tmp 0), none, [], false⟩,
      ⟨(some 6), .callV (.func 77) [(.tmp 5)], none, [], false⟩]) (.cond (.tmp 6)
    (.seq (.region [
      ⟨(some 4), .mov (.const (.int .i64 1)), none, [], false⟩]) .ret)
    .skip)) (.seq (.region [
      ⟨(some 7), .mov (.tmp 0), none, [], false⟩,
      ⟨(some 8), .mov (.tmp 0), none, [], false⟩,
      ⟨(some 9), .nilCheck (.tmp 8), none, [], false⟩,
      ⟨(some 10), .fieldAddr 9 (.tmp 9), none, [], false⟩,
      ⟨(some 11), .load none (.tmp 10), none, [], false⟩,
      ⟨(some 12), .mov (.tmp 1), none, [], false⟩,
      ⟨(some 13), .append 5 1 1 [(.int .u8 0)] false (.tmp 11) (.tmp 12), none, [], false⟩,
      ⟨(some 14), .nilCheck (.tmp 7), none, [], false⟩,
      ⟨(some 15), .fieldAddr 9 (.tmp 14), none, [], false⟩,
      ⟨none, .store 1 (.tmp 15) (.tmp 13), none, [], false⟩]) (.seq (.block 0 (.loop blake_State_Write_l0)) (.seq (.region [
      ⟨(some 4), .mov (.const (.int .i64 0)), none, [], false⟩]) .ret)))))
noncomputable def blake_State_Write : AFunc := ⟨51, [(4, none)], blake_State_Write_c, none⟩
theorem blake_State_Write_t0 : tableOf Try.prog 52 = some blake_State_Write := by kernel_rfl
theorem blake_State_Write_t : T0 52 = some blake_State_Write := withKept_t rfl (withTrue_t rfl blake_State_Write_t0)
theorem blake_State_Write_runs {v0 v1 : Value} {h : Heap} {R : RP} {X : XP} (k : RunC Try.prog T0 blake_State_Write_c ⟨[v0, v1, undef, undef, undef, undef, undef, undef, undef, undef, undef, undef, undef, undef, undef, undef, undef, undef, undef, undef, undef, undef, undef, undef, undef, undef, undef, undef, undef, undef, undef, undef, undef, undef, undef, undef, undef, undef, undef, undef, undef, undef, undef, undef, undef, undef, undef, undef, undef, undef, undef], [], h, none⟩ (bodyQ Try.prog T0 [(4, none)] R X)) :
    Runs Try.prog T0 (.fn 52) [v0, v1] h R X := Runs.fn blake_State_Write_t rfl k
/-- the slots that turn in the loop:  -/
noncomputable def blake_State_Write_l0_J (f0 f1 f2 f3 f4 f5 f6 f7 f8 f9 f10 f11 f12 f13 f14 f15 : Value) (ds : List Deferred) (rd : Option Nat) (I : Nat → Heap → Prop) (m : Nat) (s : St) : Prop := ∃ h : Heap, ∃ (x16 x17 x18 x19 x20 x21 x22 x23 x24 x25 x26 x27 x28 x29 x30 x31 x32 x33 x34 x35 x36 x37 x38 x39 x40 x41 x42 x43 x44 x45 x46 x47 x48 x49 x50 : Value), s = ⟨[f0, f1, f2, f3, f4, f5, f6, f7, f8, f9, f10, f11, f12, f13, f14, f15, x16, x17, x18, x19, x20, x21, x22, x23, x24, x25, x26, x27, x28, x29, x30, x31, x32, x33, x34, x35, x36, x37, x38, x39, x40, x41, x42, x43, x44, x45, x46, x47, x48, x49, x50], ds, h, rd⟩ ∧ I m  h
theorem blake_State_Write_l0_rule {f0 f1 f2 f3 f4 f5 f6 f7 f8 f9 f10 f11 f12 f13 f14 f15 : Value} {ds : List Deferred} {rd : Option Nat} {Q : QP} (I : Nat → Heap → Prop) (hb : ∀ (m : Nat) (h : Heap) (x16 x17 x18 x19 x20 x21 x22 x23 x24 x25 x26 x27 x28 x29 x30 x31 x32 x33 x34 x35 x36 x37 x38 x39 x40 x41 x42 x43 x44 x45 x46 x47 x48 x49 x50 : Value) , I m  h → RunC Try.prog T0 blake_State_Write_l0 ⟨[f0, f1, f2, f3, f4, f5, f6, f7, f8, f9, f10, f11, f12, f13, f14, f15, x16, x17, x18, x19, x20, x21, x22, x23, x24, x25, x26, x27, x28, x29, x30, x31, x32, x33, x34, x35, x36, x37, x38, x39, x40, x41, x42, x43, x44, x45, x46, x47, x48, x49, x50], ds, h, rd⟩ (loopQ (blake_State_Write_l0_J f0 f1 f2 f3 f4 f5 f6 f7 f8 f9 f10 f11 f12 f13 f14 f15 ds rd I) m Q))
    (m : Nat) {v : Value} {h : Heap} {x16 x17 x18 x19 x20 x21 x22 x23 x24 x25 x26 x27 x28 x29 x30 x31 x32 x33 x34 x35 x36 x37 x38 x39 x40 x41 x42 x43 x44 x45 x46 x47 x48 x49 x50 : Value} (hi : I m  h) : RunC Try.prog T0 (.loop blake_State_Write_l0) ⟨[f0, f1, f2, f3, f4, f5, f6, f7, f8, f9, f10, f11, f12, f13, f14, f15, x16, x17, x18, x19, x20, x21, x22, x23, x24, x25, x26, x27, x28, x29, x30, x31, x32, x33, x34, x35, x36, x37, x38, x39, x40, x41, x42, x43, x44, x45, x46, x47, x48, x49, x50], ds, h, rd⟩ Q :=
  RunC.loopJ (blake_State_Write_l0_J f0 f1 f2 f3 f4 f5 f6 f7 f8 f9 f10 f11 f12 f13 f14 f15 ds rd I) (fun m s hj => by obtain ⟨h, x16, x17, x18, x19, x20, x21, x22, x23, x24, x25, x26, x27, x28, x29, x30, x31, x32, x33, x34, x35, x36, x37, x38, x39, x40, x41, x42, x43, x44, x45, x46, x47, x48, x49, x50, rfl, hi⟩ := hj; exact hb m  h x16 x17 x18 x19 x20 x21 x22 x23 x24 x25 x26 x27 x28 x29 x30 x31 x32 x33 x34 x35 x36 x37 x38 x39 x40 x41 x42 x43 x44 x45 x46 x47 x48 x49 x50 hi) m _ ⟨h, _, _, _, _, _, _, _, _, _, _, _, _, _, _, _, _, _, _, _, _, _, _, _, _, _, _, _, _, _, _, _, _, _, _, _, rfl, hi⟩
theorem blake_State_Write_l0_again {f0 f1 f2 f3 f4 f5 f6 f7 f8 f9 f10 f11 f12 f13 f14 f15 : Value} {ds : List Deferred} {rd : Option Nat} {Q : QP} {I : Nat → Heap → Prop} {m : Nat} (m' : Nat) {v : Value} {h : Heap} {x16 x17 x18 x19 x20 x21 x22 x23 x24 x25 x26 x27 x28 x29 x30 x31 x32 x33 x34 x35 x36 x37 x38 x39 x40 x41 x42 x43 x44 x45 x46 x47 x48 x49 x50 : Value} (hm : m' < m) (hi : I m'  h) : loopQ (blake_State_Write_l0_J f0 f1 f2 f3 f4 f5 f6 f7 f8 f9 f10 f11 f12 f13 f14 f15 ds rd I) m Q .normal ⟨[f0, f1, f2, f3, f4, f5, f6, f7, f8, f9, f10, f11, f12, f13, f14, f15, x16, x17, x18, x19, x20, x21, x22, x23, x24, x25, x26, x27, x28, x29, x30, x31, x32, x33, x34, x35, x36, x37, x38, x39, x40, x41, x42, x43, x44, x45, x46, x47, x48, x49, x50], ds, h, rd⟩ :=
  loopQ.again m' hm ⟨h, _, _, _, _, _, _, _, _, _, _, _, _, _, _, _, _, _, _, _, _, _, _, _, _, _, _, _, _, _, _, _, _, _, _, _, rfl, hi⟩

/-! 53 (*landfall/blake.State).Sum -/
abbrev fn_blake_State_Sum : FuncId := 53
noncomputable def blake_State_Sum_l0 : ACode :=
  (.seq (.region [
      ⟨(some 31), .bin .lss (so (.binOp .lss 3 (.tmp 30) (.const (.int .i64 32)) 3) 0) (.tmp 30) (.const (.int .i64 32)), none, [], false⟩]) (.seq (.cond (.tmp 31)
    .skip
    (.exit 0)) (.seq (.block 1 (.seq (.region [
      ⟨(some 32), .mov (.tmp 30), none, [], false⟩,
      ⟨(some 6), .mov (.tmp 32), none, [], false⟩]) (.region [
      ⟨(some 33), .mov (.tmp 6), none, [], false⟩,
      ⟨(some 34), .mov (.tmp 6), none, [], false⟩,
      ⟨(some 35), .bin .quo (so (.binOp .quo 3 (.tmp 34) (.const (.int .i64 4)) 3) 3) (.tmp 34) (.const (.int .i64 4)), none, [], false⟩,
      ⟨(some 36), .indexArr 8 1 (.tmp 4) (.tmp 35), none, [], false⟩,
      ⟨(some 37), .load none (.tmp 36), none, [], false⟩,
      ⟨(some 38), .mov (.tmp 6), none, [], false⟩,
      ⟨(some 39), .bin .rem (so (.binOp .rem 3 (.tmp 38) (.const (.int .i64 4)) 3) 3) (.tmp 38) (.const (.int .i64 4)), none, [], false⟩,
      ⟨(some 40), .bin .mul (so (.binOp .mul 3 (.const (.int .i64 8)) (.tmp 39) 3) 3) (.const (.int .i64 8)) (.tmp 39), none, [], false⟩,
      ⟨(some 41), .bin .shr (so (.binOp .shr 100 (.tmp 37) (.tmp 40) 3) 100) (.tmp 37) (.tmp 40), none, [], false⟩,
      ⟨(some 42), .conv .u8 (so (.convert 100 5 (.tmp 41)) 5) (.tmp 41), none, [], false⟩,
      ⟨(some 43), .indexArr 32 1 (.tmp 2) (.tmp 33), none, [], false⟩,
      ⟨none, .store 1 (.tmp 43) (.tmp 42), none, [], false⟩]))) (.region [
      ⟨(some 44), .bin .add (so (.binOp .add 3 (.tmp 30) (.const (.int .i64 1)) 3) 3) (.tmp 30) (.const (.int .i64 1)), none, [], false⟩,
      ⟨(some 30), .mov (.tmp 44), none, [], false⟩]))))
noncomputable def blake_State_Sum_c : ACode :=
  (.seq (.region [
      ⟨(some 2), .alloc 26 z32, none, [], false⟩,
      ⟨(some 3), .mov (.const (.int .i64 0)), none, [], false⟩]) (.seq (.seq (.region [
      ⟨(some 7), .mov (.tmp 0), none, [], false⟩,
      ⟨(some 8), .callV (.func 77) [(.tmp 7)], none, [], false⟩]) (.cond (.tmp 8)
    (.seq (.region [
      ⟨(some 9), .build z32 [], none, [], false⟩,
      ⟨none, .store 32 (.tmp 2) (.tmp 9), none, [], false⟩,
      ⟨(some 3), .mov (.const (.int .i64 1)), none, [], false⟩]) .ret)
    .skip)) (.seq (.region [
      ⟨(some 10), .mov (.tmp 0), none, [], false⟩,
      ⟨(some 11), .nilCheck (.tmp 10), none, [], false⟩,
      ⟨(some 12), .fieldAddr 1 (.tmp 11), none, [], false⟩,
      ⟨(some 13), .load (some 8) (.tmp 12), none, [], false⟩,
      ⟨(some 4), .alloc 105 [(.int .u32 0), (.int .u32 0), (.int .u32 0), (.int .u32 0), (.int .u32 0), (.int .u32 0), (.int .u32 0), (.int .u32 0)], none, [], false⟩,
      ⟨none, .store 8 (.tmp 4) (.tmp 13), none, [], false⟩]) (.seq (.regionD [
      ⟨(some 14), .mov (.tmp 0), none, [], false⟩,
      ⟨(some 15), .nilCheck (.tmp 14), none, [], false⟩,
      ⟨(some 16), .fieldAddr 9 (.tmp 15), none, [], false⟩,
      ⟨(some 17), .load none (.tmp 16), none, [], false⟩,
      ⟨(some 19), .mov (.tmp 0), none, [], false⟩,
      ⟨(some 20), .nilCheck (.tmp 19), none, [], false⟩,
      ⟨(some 21), .fieldAddr 9 (.tmp 20), none, [], false⟩,
      ⟨(some 22), .load none (.tmp 21), none, [], false⟩,
      ⟨(some 23), .lenSl (.tmp 22), none, [], false⟩,
      ⟨(some 24), .bin .sub (so (.binOp .sub 3 (.const (.int .i64 64)) (.tmp 23) 3) 3) (.const (.int .i64 64)) (.tmp 23), none, [], false⟩,
      ⟨(some 18), .callV (.func 54) [(.tmp 17)], none, [((some 24), .bin .sub (so (.binOp .sub 3 (.const (.int .i64 64)) (.tmp 23) 3) 3) (.const (.int .i64 64)) (.tmp 23), none), ((some 23), .lenSl (.tmp 22), none), ((some 22), .load none (.tmp 21), none), ((some 21), .fieldAddr 9 (.tmp 20), none), ((some 20), .nilCheck (.tmp 19), none), ((some 19), .mov (.tmp 0), none)], false⟩,
      ⟨(some 25), .append 5 1 1 [(.int .u8 0)] true (.tmp 18) (.tmp 24), none, [], true⟩,
      ⟨(some 5), .mov (.tmp 25), none, [], true⟩]) (.seq (.region [
      ⟨(some 26), .mov (.tmp 5), none, [], false⟩,
      ⟨(some 27), .mov (.tmp 0), none, [], false⟩,
      ⟨(some 28), .callV (.func 80) [(.tmp 27)], none, [], false⟩,
      ⟨(some 29), .callV (.func 79) [(.tmp 4), (.tmp 26), (.tmp 28), (.const (.bool true))], none, [], false⟩]) (.seq (.seq (.region [
      ⟨(some 30), .mov (.const (.int .i64 0)), none, [], false⟩]) (.block 0 (.loop blake_State_Sum_l0))) (.seq (.region [
      ⟨(some 45), .load (some 32) (.tmp 2), none, [], false⟩,
      ⟨none, .store 32 (.tmp 2) (.tmp 45), none, [], false⟩,
      ⟨(some 3), .mov (.const (.int .i64 0)), none, [], false⟩]) .ret)))))))
noncomputable def blake_State_Sum : AFunc := ⟨46, [(2, some (some 32)), (3, none)], blake_State_Sum_c, none⟩
theorem blake_State_Sum_t0 : tableOf Try.prog 53 = some blake_State_Sum := by kernel_rfl
theorem blake_State_Sum_t : T0 53 = some blake_State_Sum := withKept_t rfl (withTrue_t rfl blake_State_Sum_t0)
theorem blake_State_Sum_runs {v0 : Value} {h : Heap} {R : RP} {X : XP} (k : RunC Try.prog T0 blake_State_Sum_c ⟨[v0, undef, undef, undef, undef, undef, undef, undef, undef, undef, undef, undef, undef, undef, undef, undef, undef, undef, undef, undef, undef, undef, undef, undef, undef, undef, undef, undef, undef, undef, undef, undef, undef, undef, undef, undef, undef, undef, undef, undef, undef, undef, undef, undef, undef, undef], [], h, none⟩ (bodyQ Try.prog T0 [(2, some (some 32)), (3, none)] R X)) :
    Runs Try.prog T0 (.fn 53) [v0] h R X := Runs.fn blake_State_Sum_t rfl k
/-- the slots that turn in the loop: v30 -/
noncomputable def blake_State_Sum_l0_J (f0 f1 f2 f3 f4 f5 f7 f8 f9 f10 f11 f12 f13 f14 f15 f16 f17 f18 f19 f20 f21 f22 f23 f24 f25 f26 f27 f28 f29 f45 : Value) (ds : List Deferred) (rd : Option Nat) (I : Nat → Value → Heap → Prop) (m : Nat) (s : St) : Prop := ∃ (v30 : Value), ∃ h : Heap, ∃ (x6 x31 x32 x33 x34 x35 x36 x37 x38 x39 x40 x41 x42 x43 x44 : Value), s = ⟨[f0, f1, f2, f3, f4, f5, x6, f7, f8, f9, f10, f11, f12, f13, f14, f15, f16, f17, f18, f19, f20, f21, f22, f23, f24, f25, f26, f27, f28, f29, v30, x31, x32, x33, x34, x35, x36, x37, x38, x39, x40, x41, x42, x43, x44, f45], ds, h, rd⟩ ∧ I m v30 h
theorem blake_State_Sum_l0_rule {f0 f1 f2 f3 f4 f5 f7 f8 f9 f10 f11 f12 f13 f14 f15 f16 f17 f18 f19 f20 f21 f22 f23 f24 f25 f26 f27 f28 f29 f45 : Value} {ds : List Deferred} {rd : Option Nat} {Q : QP} (I : Nat → Value → Heap → Prop) (hb : ∀ (m : Nat) (v30 : Value) (h : Heap) (x6 x31 x32 x33 x34 x35 x36 x37 x38 x39 x40 x41 x42 x43 x44 : Value) , I m v30 h → RunC Try.prog T0 blake_State_Sum_l0 ⟨[f0, f1, f2, f3, f4, f5, x6, f7, f8, f9, f10, f11, f12, f13, f14, f15, f16, f17, f18, f19, f20, f21, f22, f23, f24, f25, f26, f27, f28, f29, v30, x31, x32, x33, x34, x35, x36, x37, x38, x39, x40, x41, x42, x43, x44, f45], ds, h, rd⟩ (loopQ (blake_State_Sum_l0_J f0 f1 f2 f3 f4 f5 f7 f8 f9 f10 f11 f12 f13 f14 f15 f16 f17 f18 f19 f20 f21 f22 f23 f24 f25 f26 f27 f28 f29 f45 ds rd I) m Q))
    (m : Nat) {v30 : Value} {h : Heap} {x6 x31 x32 x33 x34 x35 x36 x37 x38 x39 x40 x41 x42 x43 x44 : Value} (hi : I m v30 h) : RunC Try.prog T0 (.loop blake_State_Sum_l0) ⟨[f0, f1, f2, f3, f4, f5, x6, f7, f8, f9, f10, f11, f12, f13, f14, f15, f16, f17, f18, f19, f20, f21, f22, f23, f24, f25, f26, f27, f28, f29, v30, x31, x32, x33, x34, x35, x36, x37, x38, x39, x40, x41, x42, x43, x44, f45], ds, h, rd⟩ Q :=
  RunC.loopJ (blake_State_Sum_l0_J f0 f1 f2 f3 f4 f5 f7 f8 f9 f10 f11 f12 f13 f14 f15 f16 f17 f18 f19 f20 f21 f22 f23 f24 f25 f26 f27 f28 f29 f45 ds rd I) (fun m s hj => by obtain ⟨v30, h, x6, x31, x32, x33, x34, x35, x36, x37, x38, x39, x40, x41, x42, x43, x44, rfl, hi⟩ := hj; exact hb m v30 h x6 x31 x32 x33 x34 x35 x36 x37 x38 x39 x40 x41 x42 x43 x44 hi) m _ ⟨_, h, _, _, _, _, _, _, _, _, _, _, _, _, _, _, _, rfl, hi⟩
theorem blake_State_Sum_l0_again {f0 f1 f2 f3 f4 f5 f7 f8 f9 f10 f11 f12 f13 f14 f15 f16 f17 f18 f19 f20 f21 f22 f23 f24 f25 f26 f27 f28 f29 f45 : Value} {ds : List Deferred} {rd : Option Nat} {Q : QP} {I : Nat → Value → Heap → Prop} {m : Nat} (m' : Nat) {v30 : Value} {h : Heap} {x6 x31 x32 x33 x34 x35 x36 x37 x38 x39 x40 x41 x42 x43 x44 : Value} (hm : m' < m) (hi : I m' v30 h) : loopQ (blake_State_Sum_l0_J f0 f1 f2 f3 f4 f5 f7 f8 f9 f10 f11 f12 f13 f14 f15 f16 f17 f18 f19 f20 f21 f22 f23 f24 f25 f26 f27 f28 f29 f45 ds rd I) m Q .normal ⟨[f0, f1, f2, f3, f4, f5, x6, f7, f8, f9, f10, f11, f12, f13, f14, f15, f16, f17, f18, f19, f20, f21, f22, f23, f24, f25, f26, f27, f28, f29, v30, x31, x32, x33, x34, x35, x36, x37, x38, x39, x40, x41, x42, x43, x44, f45], ds, h, rd⟩ :=
  loopQ.again m' hm ⟨_, h, _, _, _, _, _, _, _, _, _, _, _, _, _, _, _, rfl, hi⟩

/-! 54 slices.Clone[[]byte,byte] -/
abbrev fn_slices_Clone___byte_byte_ : FuncId := 54
noncomputable def slices_Clone___byte_byte__c : ACode :=
  (.seq (.region [
      ⟨(some 2), .mov (.const (.slice none 0 0)), none, [], false⟩]) (.seq (.seq (.region [
      ⟨(some 3), .mov (.tmp 0), none, [], false⟩,
      ⟨(some 4), .eq .slice false (so (.binOp .eql 22 (.tmp 3) (.const (.slice none 0 0)) 22) 4) (.tmp 3) (.const (.slice none 0 0)), none, [], false⟩]) (.cond (.tmp 4)
    (.seq (.region [
      ⟨(some 2), .mov (.const (.slice none 0 0)), none, [], false⟩]) .ret)
    .skip)) (.seq (.region [
      ⟨(some 5), .buildSlice 5 [] 0 [], none, [], false⟩,
      ⟨(some 6), .mov (.tmp 0), none, [], false⟩,
      ⟨(some 7), .append 5 1 1 [(.int .u8 0)] false (.tmp 5) (.tmp 6), none, [], false⟩,
      ⟨(some 2), .mov (.tmp 7), none, [], false⟩]) .ret)))
noncomputable def slices_Clone___byte_byte_ : AFunc := ⟨8, [(2, none)], slices_Clone___byte_byte__c, none⟩
theorem slices_Clone___byte_byte__t0 : tableOf Try.prog 54 = some slices_Clone___byte_byte_ := by kernel_rfl
theorem slices_Clone___byte_byte__t : T0 54 = some slices_Clone___byte_byte_ := withKept_t rfl (withTrue_t rfl slices_Clone___byte_byte__t0)
theorem slices_Clone___byte_byte__runs {v0 : Value} {h : Heap} {R : RP} {X : XP} (k : RunC Try.prog T0 slices_Clone___byte_byte__c ⟨[v0, undef, undef, undef, undef, undef, undef, undef], [], h, none⟩ (bodyQ Try.prog T0 [(2, none)] R X)) :
    Runs Try.prog T0 (.fn 54) [v0] h R X := Runs.fn slices_Clone___byte_byte__t rfl k


/-! 65 (*landfall/wire.Writer).Bytes -/
abbrev fn_wire_Writer_Bytes : FuncId := 65
noncomputable def wire_Writer_Bytes_c : ACode :=
  (.seq (.region [
      ⟨(some 4), .mov (.const (.int .i64 0)), none, [], false⟩]) (.seq (.region [
      ⟨(some 5), .mov (.tmp 0), none, [], false⟩,
      ⟨(some 6), .mov (.tmp 1), none, [], false⟩,
      ⟨(some 7), .lenSl (.tmp 6), none, [], false⟩,
      ⟨(some 8), .callV (.func 67) [(.tmp 7)], none, [], false⟩,
      ⟨(some 9), .mov (.tmp 1), none, [], false⟩,
      ⟨(some 10), .buildSlice 22 [(.slice none 0 0), (.slice none 0 0)] 2 [(0, 1, (.tmp 8)), (1, 1, (.tmp 9))], none, [], false⟩,
      ⟨(some 11), .callV (.func 66) [(.tmp 5), (.const (.bool true)), (.tmp 10)], none, [], false⟩,
      ⟨(some 4), .mov (.tmp 11), none, [], false⟩]) .ret))
noncomputable def wire_Writer_Bytes : AFunc := ⟨12, [(4, none)], wire_Writer_Bytes_c, none⟩
theorem wire_Writer_Bytes_t0 : tableOf Try.prog 65 = some wire_Writer_Bytes := by kernel_rfl
theorem wire_Writer_Bytes_t : T0 65 = some wire_Writer_Bytes := withKept_t rfl (withTrue_t rfl wire_Writer_Bytes_t0)
theorem wire_Writer_Bytes_runs {v0 v1 : Value} {h : Heap} {R : RP} {X : XP} (k : RunC Try.prog T0 wire_Writer_Bytes_c ⟨[v0, v1, undef, undef, undef, undef, undef, undef, undef, undef, undef, undef], [], h, none⟩ (bodyQ Try.prog T0 [(4, none)] R X)) :
    Runs Try.prog T0 (.fn 65) [v0, v1] h R X := Runs.fn wire_Writer_Bytes_t rfl k


/-! 66 (*landfall/wire.Writer).put -/
abbrev fn_wire_Writer_put : FuncId := 66
noncomputable def wire_Writer_put_c : ACode :=
  (.seq (.region [
      ⟨(some 6), .mov (.const (.int .i64 0)), none, [], false⟩]) (.seq (.seq (.region [
      ⟨(some 8), .mov (.tmp 0), none, [], false⟩,
      ⟨(some 9), .eq .ptr false (so (.binOp .eql 64 (.tmp 8) (.const (.pointer none)) 64) 4) (.tmp 8) (.const (.pointer none)), none, [], false⟩,
      ⟨(some 10), .mov (.tmp 9), none, [], false⟩,
      ⟨(some 11), .mov (.tmp 0), (some (10, false)), [], false⟩,
      ⟨(some 12), .nilCheck (.tmp 11), (some (10, false)), [], false⟩,
      ⟨(some 13), .fieldAddr 3 (.tmp 12), (some (10, false)), [], false⟩,
      ⟨(some 14), .load none (.tmp 13), (some (10, false)), [], false⟩,
      ⟨(some 15), .raw (so (.unOp .not 4 (.tmp 14)) 4), (some (10, false)), [], false⟩,
      ⟨(some 16), .pick (.tmp 10) (.const (.bool true)) (.tmp 15), none, [], false⟩]) (.cond (.tmp 16)
    (.seq (.region [
      ⟨(some 6), .mov (.const (.int .i64 1)), none, [], false⟩]) .ret)
    .skip)) (.seq (.region [
      ⟨(some 17), .mov (.tmp 2), none, [], false⟩,
      ⟨(some 18), .callV (.func 92) [(.tmp 17)], none, [], false⟩,
      ⟨(some 7), .mov (.tmp 18), none, [], false⟩]) (.seq (.block 0 (.seq (.region [
      ⟨(some 29), .mov (.tmp 0), none, [], false⟩,
      ⟨(some 30), .nilCheck (.tmp 29), none, [], false⟩,
      ⟨(some 31), .fieldAddr 2 (.tmp 30), none, [], false⟩,
      ⟨(some 32), .load none (.tmp 31), none, [], false⟩,
      ⟨(some 33), .bin .neq (so (.binOp .neq 29 (.tmp 32) (.const (.int .i64 0)) 29) 4) (.tmp 32) (.const (.int .i64 0)), none, [], false⟩,
      ⟨(some 28), .mov (.tmp 33), none, [], false⟩]) (.cond (.tmp 28)
    .skip
    (.seq (.region [
      ⟨(some 35), .mov (.tmp 1), none, [], false⟩,
      ⟨(some 36), .raw (so (.unOp .not 4 (.tmp 35)) 4), none, [], false⟩,
      ⟨(some 34), .mov (.tmp 36), none, [], false⟩]) (.cond (.tmp 34)
    (.region [
      ⟨(some 37), .mov (.tmp 0), none, [], false⟩,
      ⟨(some 38), .nilCheck (.tmp 37), none, [], false⟩,
      ⟨(some 39), .fieldAddr 2 (.tmp 38), none, [], false⟩,
      ⟨none, .store 1 (.tmp 39) (.const (.int .i64 3)), none, [], false⟩])
    (.seq (.regionD [
      ⟨(some 41), .mov (.tmp 0), none, [], false⟩,
      ⟨(some 42), .nilCheck (.tmp 41), none, [], false⟩,
      ⟨(some 43), .fieldAddr 1 (.tmp 42), none, [], false⟩,
      ⟨(some 44), .load none (.tmp 43), none, [], false⟩,
      ⟨(some 45), .lenSl (.tmp 44), none, [], false⟩,
      ⟨(some 46), .mov (.tmp 7), none, [], false⟩,
      ⟨(some 47), .lenSl (.tmp 46), none, [], false⟩,
      ⟨(some 48), .bin .add (so (.binOp .add 3 (.tmp 45) (.tmp 47) 3) 3) (.tmp 45) (.tmp 47), none, [], false⟩,
      ⟨(some 49), .mov (.tmp 0), none, [], false⟩,
      ⟨(some 50), .nilCheck (.tmp 49), none, [], false⟩,
      ⟨(some 51), .fieldAddr 0 (.tmp 50), none, [], false⟩,
      ⟨(some 52), .load none (.tmp 51), none, [], false⟩,
      ⟨(some 53), .bin .gtr (so (.binOp .gtr 3 (.tmp 48) (.tmp 52) 3) 4) (.tmp 48) (.tmp 52), none, [], true⟩,
      ⟨(some 40), .mov (.tmp 53), none, [], true⟩]) (.cond (.tmp 40)
    (.region [
      ⟨(some 54), .mov (.tmp 0), none, [], false⟩,
      ⟨(some 55), .nilCheck (.tmp 54), none, [], false⟩,
      ⟨(some 56), .fieldAddr 2 (.tmp 55), none, [], false⟩,
      ⟨none, .store 1 (.tmp 56) (.const (.int .i64 4)), none, [], false⟩])
    (.region [
      ⟨(some 19), .mov (.tmp 0), none, [], false⟩,
      ⟨(some 20), .mov (.tmp 0), none, [], false⟩,
      ⟨(some 21), .nilCheck (.tmp 20), none, [], false⟩,
      ⟨(some 22), .fieldAddr 1 (.tmp 21), none, [], false⟩,
      ⟨(some 23), .load none (.tmp 22), none, [], false⟩,
      ⟨(some 24), .mov (.tmp 7), none, [], false⟩,
      ⟨(some 25), .append 5 1 1 [(.int .u8 0)] false (.tmp 23) (.tmp 24), none, [], false⟩,
      ⟨(some 26), .nilCheck (.tmp 19), none, [], false⟩,
      ⟨(some 27), .fieldAddr 1 (.tmp 26), none, [], false⟩,
      ⟨none, .store 1 (.tmp 27) (.tmp 25), none, [], false⟩])))))))) (.seq (.region [
      ⟨(some 57), .mov (.tmp 0), none, [], false⟩,
      ⟨(some 58), .nilCheck (.tmp 57), none, [], false⟩,
      ⟨(some 59), .fieldAddr 2 (.tmp 58), none, [], false⟩,
      ⟨(some 60), .load none (.tmp 59), none, [], false⟩,
      ⟨(some 6), .mov (.tmp 60), none, [], false⟩]) .ret)))))
noncomputable def wire_Writer_put : AFunc := ⟨61, [(6, none)], wire_Writer_put_c, none⟩
theorem wire_Writer_put_t0 : tableOf Try.prog 66 = some wire_Writer_put := by kernel_rfl
theorem wire_Writer_put_t : T0 66 = some wire_Writer_put := withKept_t rfl (withTrue_t rfl wire_Writer_put_t0)
theorem wire_Writer_put_runs {v0 v1 v2 : Value} {h : Heap} {R : RP} {X : XP} (k : RunC Try.prog T0 wire_Writer_put_c ⟨[v0, v1, v2, undef, undef, undef, undef, undef, undef, undef, undef, undef, undef, undef, undef, undef, undef, undef, undef, undef, undef, undef, undef, undef, undef, undef, undef, undef, undef, undef, undef, undef, undef, undef, undef, undef, undef, undef, undef, undef, undef, undef, undef, undef, undef, undef, undef, undef, undef, undef, undef, undef, undef, undef, undef, undef, undef, undef, undef, undef, undef], [], h, none⟩ (bodyQ Try.prog T0 [(6, none)] R X)) :
    Runs Try.prog T0 (.fn 66) [v0, v1, v2] h R X := Runs.fn wire_Writer_put_t rfl k


/-! 67 landfall/wire.number -/
abbrev fn_wire_number : FuncId := 67
noncomputable def wire_number_l0 : ACode :=
  (.seq (.seq (.region [
      ⟨(some 5), .mov (.tmp 0), none, [], false⟩,
      ⟨(some 6), .bin .gtr (so (.binOp .gtr 3 (.tmp 5) (.const (.int .i64 0)) 3) 4) (.tmp 5) (.const (.int .i64 0)), none, [], false⟩]) (.cond (.tmp 6)
    .skip
    (.exit 0))) (.seq (.block 1 (.seq (.region [
      ⟨(some 9), .mov (.tmp 4), none, [], false⟩,
      ⟨(some 10), .bin .sub (so (.binOp .sub 3 (.const (.int .i64 8)) (.tmp 9) 3) 3) (.const (.int .i64 8)) (.tmp 9), none, [], false⟩,
      ⟨(some 11), .mov (.tmp 0), none, [], false⟩,
      ⟨(some 12), .conv .u8 (so (.convert 3 5 (.tmp 11)) 5) (.tmp 11), none, [], false⟩,
      ⟨(some 13), .indexArr 9 1 (.tmp 3) (.tmp 10), none, [], false⟩,
      ⟨none, .store 1 (.tmp 13) (.tmp 12), none, [], false⟩]) (.region [
      ⟨(some 14), .mov (.tmp 4), none, [], false⟩,
      ⟨(some 15), .bin .add (so (.binOp .add 3 (.tmp 14) (.const (.int .i64 1)) 3) 3) (.tmp 14) (.const (.int .i64 1)), none, [], false⟩,
      ⟨(some 4), .mov (.tmp 15), none, [], false⟩]))) (.region [
      ⟨(some 7), .mov (.tmp 0), none, [], false⟩,
      ⟨(some 8), .bin .shr (so (.binOp .shr 3 (.tmp 7) (.const (.int .u64 8)) 104) 3) (.tmp 7) (.const (.int .u64 8)), none, [], false⟩,
      ⟨(some 0), .mov (.tmp 8), none, [], false⟩])))
noncomputable def wire_number_c : ACode :=
  (.seq (.region [
      ⟨(some 2), .mov (.const (.slice none 0 0)), none, [], false⟩]) (.seq (.region [
      ⟨(some 3), .alloc 124 [(.int .u8 0), (.int .u8 0), (.int .u8 0), (.int .u8 0), (.int .u8 0), (.int .u8 0), (.int .u8 0), (.int .u8 0), (.int .u8 0)], none, [], false⟩]) (.seq (.region [
      ⟨(some 4), .mov (.const (.int .i64 0)), none, [], false⟩]) (.seq (.block 0 (.loop wire_number_l0)) (.seq (.region [
      ⟨(some 16), .mov (.tmp 4), none, [], false⟩,
      ⟨(some 17), .bin .sub (so (.binOp .sub 3 (.const (.int .i64 8)) (.tmp 16) 3) 3) (.const (.int .i64 8)) (.tmp 16), none, [], false⟩,
      ⟨(some 18), .mov (.tmp 4), none, [], false⟩,
      ⟨(some 19), .conv .u8 (so (.convert 3 5 (.tmp 18)) 5) (.tmp 18), none, [], false⟩,
      ⟨(some 20), .indexArr 9 1 (.tmp 3) (.tmp 17), none, [], false⟩,
      ⟨none, .store 1 (.tmp 20) (.tmp 19), none, [], false⟩]) (.seq (.region [
      ⟨(some 21), .mov (.tmp 4), none, [], false⟩,
      ⟨(some 22), .bin .sub (so (.binOp .sub 3 (.const (.int .i64 8)) (.tmp 21) 3) 3) (.const (.int .i64 8)) (.tmp 21), none, [], false⟩,
      ⟨(some 23), .sliceArr 9 1 (.tmp 3) (some (.tmp 22)) none, none, [], false⟩,
      ⟨(some 2), .mov (.tmp 23), none, [], false⟩]) .ret))))))
noncomputable def wire_number : AFunc := ⟨24, [(2, none)], wire_number_c, none⟩
theorem wire_number_t0 : tableOf Try.prog 67 = some wire_number := by kernel_rfl
theorem wire_number_t : T0 67 = some wire_number := withKept_t rfl (withTrue_t rfl wire_number_t0)
theorem wire_number_runs {v0 : Value} {h : Heap} {R : RP} {X : XP} (k : RunC Try.prog T0 wire_number_c ⟨[v0, undef, undef, undef, undef, undef, undef, undef, undef, undef, undef, undef, undef, undef, undef, undef, undef, undef, undef, undef, undef, undef, undef, undef], [], h, none⟩ (bodyQ Try.prog T0 [(2, none)] R X)) :
    Runs Try.prog T0 (.fn 67) [v0] h R X := Runs.fn wire_number_t rfl k
/-- the slots that turn in the loop: v0 v4 -/
noncomputable def wire_number_l0_J (f1 f2 f3 f16 f17 f18 f19 f20 f21 f22 f23 : Value) (ds : List Deferred) (rd : Option Nat) (I : Nat → Value → Value → Heap → Prop) (m : Nat) (s : St) : Prop := ∃ (v0 v4 : Value), ∃ h : Heap, ∃ (x5 x6 x7 x8 x9 x10 x11 x12 x13 x14 x15 : Value), s = ⟨[v0, f1, f2, f3, v4, x5, x6, x7, x8, x9, x10, x11, x12, x13, x14, x15, f16, f17, f18, f19, f20, f21, f22, f23], ds, h, rd⟩ ∧ I m v0 v4 h
theorem wire_number_l0_rule {f1 f2 f3 f16 f17 f18 f19 f20 f21 f22 f23 : Value} {ds : List Deferred} {rd : Option Nat} {Q : QP} (I : Nat → Value → Value → Heap → Prop) (hb : ∀ (m : Nat) (v0 v4 : Value) (h : Heap) (x5 x6 x7 x8 x9 x10 x11 x12 x13 x14 x15 : Value) , I m v0 v4 h → RunC Try.prog T0 wire_number_l0 ⟨[v0, f1, f2, f3, v4, x5, x6, x7, x8, x9, x10, x11, x12, x13, x14, x15, f16, f17, f18, f19, f20, f21, f22, f23], ds, h, rd⟩ (loopQ (wire_number_l0_J f1 f2 f3 f16 f17 f18 f19 f20 f21 f22 f23 ds rd I) m Q))
    (m : Nat) {v0 v4 : Value} {h : Heap} {x5 x6 x7 x8 x9 x10 x11 x12 x13 x14 x15 : Value} (hi : I m v0 v4 h) : RunC Try.prog T0 (.loop wire_number_l0) ⟨[v0, f1, f2, f3, v4, x5, x6, x7, x8, x9, x10, x11, x12, x13, x14, x15, f16, f17, f18, f19, f20, f21, f22, f23], ds, h, rd⟩ Q :=
  RunC.loopJ (wire_number_l0_J f1 f2 f3 f16 f17 f18 f19 f20 f21 f22 f23 ds rd I) (fun m s hj => by obtain ⟨v0, v4, h, x5, x6, x7, x8, x9, x10, x11, x12, x13, x14, x15, rfl, hi⟩ := hj; exact hb m v0 v4 h x5 x6 x7 x8 x9 x10 x11 x12 x13 x14 x15 hi) m _ ⟨_, _, h, _, _, _, _, _, _, _, _, _, _, _, rfl, hi⟩
theorem wire_number_l0_again {f1 f2 f3 f16 f17 f18 f19 f20 f21 f22 f23 : Value} {ds : List Deferred} {rd : Option Nat} {Q : QP} {I : Nat → Value → Value → Heap → Prop} {m : Nat} (m' : Nat) {v0 v4 : Value} {h : Heap} {x5 x6 x7 x8 x9 x10 x11 x12 x13 x14 x15 : Value} (hm : m' < m) (hi : I m' v0 v4 h) : loopQ (wire_number_l0_J f1 f2 f3 f16 f17 f18 f19 f20 f21 f22 f23 ds rd I) m Q .normal ⟨[v0, f1, f2, f3, v4, x5, x6, x7, x8, x9, x10, x11, x12, x13, x14, x15, f16, f17, f18, f19, f20, f21, f22, f23], ds, h, rd⟩ :=
  loopQ.again m' hm ⟨_, _, h, _, _, _, _, _, _, _, _, _, _, _, rfl, hi⟩

/-! 68 landfall/header.rules$1 -/
abbrev fn_header_rules_1 : FuncId := 68
noncomputable def header_rules_1_c : ACode :=
  (.seq (.region [
      ⟨(some 1), .box 28 (.tmp 0), none, [], false⟩,
      ⟨(some 2), .mov (.const (.bool false)), none, [], false⟩]) (.seq (.region [
      ⟨(some 3), .fieldAddr 0 (.tmp 1), none, [], false⟩,
      ⟨(some 4), .load none (.tmp 3), none, [], false⟩,
      ⟨(some 5), .callV (.func 17) [(.tmp 4)], none, [], false⟩,
      ⟨(some 2), .mov (.tmp 5), none, [], false⟩]) .ret))
noncomputable def header_rules_1 : AFunc := ⟨6, [(2, none)], header_rules_1_c, none⟩
theorem header_rules_1_t0 : tableOf Try.prog 68 = some header_rules_1 := by kernel_rfl
theorem header_rules_1_t : T0 68 = some header_rules_1 := withKept_t rfl (withTrue_t rfl header_rules_1_t0)
theorem header_rules_1_runs {v0 : Value} {h : Heap} {R : RP} {X : XP} (k : RunC Try.prog T0 header_rules_1_c ⟨[v0, undef, undef, undef, undef, undef], [], h, none⟩ (bodyQ Try.prog T0 [(2, none)] R X)) :
    Runs Try.prog T0 (.fn 68) [v0] h R X := Runs.fn header_rules_1_t rfl k


/-! 69 landfall/header.rules$2 -/
abbrev fn_header_rules_2 : FuncId := 69
noncomputable def header_rules_2_c : ACode :=
  (.seq (.region [
      ⟨(some 1), .box 28 (.tmp 0), none, [], false⟩,
      ⟨(some 2), .mov (.const (.bool false)), none, [], false⟩]) (.seq (.region [
      ⟨(some 3), .fieldAddr 1 (.tmp 1), none, [], false⟩,
      ⟨(some 4), .load none (.tmp 3), none, [], false⟩,
      ⟨(some 5), .bin .geq (so (.binOp .geq 3 (.tmp 4) (.const (.int .i64 1)) 3) 4) (.tmp 4) (.const (.int .i64 1)), none, [], false⟩,
      ⟨(some 6), .mov (.tmp 5), none, [], false⟩,
      ⟨(some 7), .fieldAddr 1 (.tmp 1), (some (6, true)), [], false⟩,
      ⟨(some 8), .load none (.tmp 7), (some (6, true)), [], false⟩,
      ⟨(some 9), .bin .leq (so (.binOp .leq 3 (.tmp 8) (.const (.int .i64 1073741824)) 3) 4) (.tmp 8) (.const (.int .i64 1073741824)), (some (6, true)), [], false⟩,
      ⟨(some 10), .pick (.tmp 6) (.tmp 9) (.const (.bool false)), none, [], false⟩,
      ⟨(some 2), .mov (.tmp 10), none, [], false⟩]) .ret))
noncomputable def header_rules_2 : AFunc := ⟨11, [(2, none)], header_rules_2_c, none⟩
theorem header_rules_2_t0 : tableOf Try.prog 69 = some header_rules_2 := by kernel_rfl
theorem header_rules_2_t : T0 69 = some header_rules_2 := withKept_t rfl (withTrue_t rfl header_rules_2_t0)
theorem header_rules_2_runs {v0 : Value} {h : Heap} {R : RP} {X : XP} (k : RunC Try.prog T0 header_rules_2_c ⟨[v0, undef, undef, undef, undef, undef, undef, undef, undef, undef, undef], [], h, none⟩ (bodyQ Try.prog T0 [(2, none)] R X)) :
    Runs Try.prog T0 (.fn 69) [v0] h R X := Runs.fn header_rules_2_t rfl k


/-! 70 landfall/header.rules$3 -/
abbrev fn_header_rules_3 : FuncId := 70
noncomputable def header_rules_3_c : ACode :=
  (.seq (.region [
      ⟨(some 1), .box 28 (.tmp 0), none, [], false⟩,
      ⟨(some 2), .mov (.const (.bool false)), none, [], false⟩]) (.seq (.region [
      ⟨(some 3), .fieldAddr 2 (.tmp 1), none, [], false⟩,
      ⟨(some 4), .load none (.tmp 3), none, [], false⟩,
      ⟨(some 5), .bin .geq (so (.binOp .geq 3 (.tmp 4) (.const (.int .i64 0)) 3) 4) (.tmp 4) (.const (.int .i64 0)), none, [], false⟩,
      ⟨(some 6), .mov (.tmp 5), none, [], false⟩,
      ⟨(some 7), .fieldAddr 2 (.tmp 1), (some (6, true)), [], false⟩,
      ⟨(some 8), .load none (.tmp 7), (some (6, true)), [], false⟩,
      ⟨(some 9), .bin .leq (so (.binOp .leq 3 (.tmp 8) (.const (.int .i64 1099511627776)) 3) 4) (.tmp 8) (.const (.int .i64 1099511627776)), (some (6, true)), [], false⟩,
      ⟨(some 10), .pick (.tmp 6) (.tmp 9) (.const (.bool false)), none, [], false⟩,
      ⟨(some 2), .mov (.tmp 10), none, [], false⟩]) .ret))
noncomputable def header_rules_3 : AFunc := ⟨11, [(2, none)], header_rules_3_c, none⟩
theorem header_rules_3_t0 : tableOf Try.prog 70 = some header_rules_3 := by kernel_rfl
theorem header_rules_3_t : T0 70 = some header_rules_3 := withKept_t rfl (withTrue_t rfl header_rules_3_t0)
theorem header_rules_3_runs {v0 : Value} {h : Heap} {R : RP} {X : XP} (k : RunC Try.prog T0 header_rules_3_c ⟨[v0, undef, undef, undef, undef, undef, undef, undef, undef, undef, undef], [], h, none⟩ (bodyQ Try.prog T0 [(2, none)] R X)) :
    Runs Try.prog T0 (.fn 70) [v0] h R X := Runs.fn header_rules_3_t rfl k


/-! 71 (*landfall/landfallref04.Writer).Text -/
abbrev fn_landfallref04_Writer_Text : FuncId := 71
noncomputable def landfallref04_Writer_Text_c : ACode :=
  (.seq (.region [
      ⟨(some 4), .mov (.const (.int .i64 0)), none, [], false⟩]) (.seq (.region [
      ⟨(some 5), .mov (.tmp 0), none, [], false⟩,
      ⟨(some 6), .mov (.tmp 1), none, [], false⟩,
      ⟨(some 7), .strToBytes 5 (.tmp 6), none, [], false⟩,
      ⟨(some 8), .callV (.func 94) [(.tmp 7)], none, [], false⟩,
      ⟨(some 9), .callV (.func 93) [(.tmp 5), (.tmp 8)], none, [], false⟩,
      ⟨(some 4), .mov (.tmp 9), none, [], false⟩]) .ret))
noncomputable def landfallref04_Writer_Text : AFunc := ⟨10, [(4, none)], landfallref04_Writer_Text_c, none⟩
theorem landfallref04_Writer_Text_t0 : tableOf Try.prog 71 = some landfallref04_Writer_Text := by kernel_rfl
theorem landfallref04_Writer_Text_t : T0 71 = some landfallref04_Writer_Text := withKept_t rfl (withTrue_t rfl landfallref04_Writer_Text_t0)
theorem landfallref04_Writer_Text_runs {v0 v1 : Value} {h : Heap} {R : RP} {X : XP} (k : RunC Try.prog T0 landfallref04_Writer_Text_c ⟨[v0, v1, undef, undef, undef, undef, undef, undef, undef, undef], [], h, none⟩ (bodyQ Try.prog T0 [(4, none)] R X)) :
    Runs Try.prog T0 (.fn 71) [v0, v1] h R X := Runs.fn landfallref04_Writer_Text_t rfl k


/-! 72 (*landfall/landfallref04.Writer).Num -/
abbrev fn_landfallref04_Writer_Num : FuncId := 72
noncomputable def landfallref04_Writer_Num_c : ACode :=
  (.seq (.region [
      ⟨(some 4), .mov (.const (.int .i64 0)), none, [], false⟩]) (.seq (.seq (.region [
      ⟨(some 5), .mov (.tmp 1), none, [], false⟩,
      ⟨(some 6), .bin .lss (so (.binOp .lss 3 (.tmp 5) (.const (.int .i64 0)) 3) 4) (.tmp 5) (.const (.int .i64 0)), none, [], false⟩,
      ⟨(some 7), .mov (.tmp 6), none, [], false⟩,
      ⟨(some 8), .mov (.tmp 0), (some (7, true)), [], false⟩,
      ⟨(some 9), .nilCheck (.tmp 8), (some (7, true)), [], false⟩,
      ⟨(some 10), .fieldAddr 2 (.tmp 9), (some (7, true)), [], false⟩,
      ⟨(some 11), .load none (.tmp 10), (some (7, true)), [], false⟩,
      ⟨(some 12), .bin .eql (so (.binOp .eql 29 (.tmp 11) (.const (.int .i64 0)) 29) 4) (.tmp 11) (.const (.int .i64 0)), (some (7, true)), [], false⟩,
      ⟨(some 13), .pick (.tmp 7) (.tmp 12) (.const (.bool false)), none, [], false⟩]) (.cond (.tmp 13)
    (.region [
      ⟨(some 14), .mov (.tmp 0), none, [], false⟩,
      ⟨(some 15), .nilCheck (.tmp 14), none, [], false⟩,
      ⟨(some 16), .fieldAddr 2 (.tmp 15), none, [], false⟩,
      ⟨none, .store 1 (.tmp 16) (.const (.int .i64 3)), none, [], false⟩])
    .skip)) (.seq (.seq (.region [
      ⟨(some 17), .mov (.tmp 0), none, [], false⟩,
      ⟨(some 18), .nilCheck (.tmp 17), none, [], false⟩,
      ⟨(some 19), .fieldAddr 2 (.tmp 18), none, [], false⟩,
      ⟨(some 20), .load none (.tmp 19), none, [], false⟩,
      ⟨(some 21), .bin .neq (so (.binOp .neq 29 (.tmp 20) (.const (.int .i64 0)) 29) 4) (.tmp 20) (.const (.int .i64 0)), none, [], false⟩]) (.cond (.tmp 21)
    (.seq (.region [
      ⟨(some 22), .mov (.tmp 0), none, [], false⟩,
      ⟨(some 23), .nilCheck (.tmp 22), none, [], false⟩,
      ⟨(some 24), .fieldAddr 2 (.tmp 23), none, [], false⟩,
      ⟨(some 25), .load none (.tmp 24), none, [], false⟩,
      ⟨(some 4), .mov (.tmp 25), none, [], false⟩]) .ret)
    .skip)) (.seq (.region [
      ⟨(some 26), .mov (.tmp 0), none, [], false⟩,
      ⟨(some 27), .mov (.tmp 1), none, [], false⟩,
      ⟨(some 28), .callV (.func 95) [(.tmp 27)], none, [], false⟩,
      ⟨(some 29), .callV (.func 93) [(.tmp 26), (.tmp 28)], none, [], false⟩,
      ⟨(some 4), .mov (.tmp 29), none, [], false⟩]) .ret))))
noncomputable def landfallref04_Writer_Num : AFunc := ⟨30, [(4, none)], landfallref04_Writer_Num_c, none⟩
theorem landfallref04_Writer_Num_t0 : tableOf Try.prog 72 = some landfallref04_Writer_Num := by kernel_rfl
theorem landfallref04_Writer_Num_t : T0 72 = some landfallref04_Writer_Num := withKept_t rfl (withTrue_t rfl landfallref04_Writer_Num_t0)
theorem landfallref04_Writer_Num_runs {v0 v1 : Value} {h : Heap} {R : RP} {X : XP} (k : RunC Try.prog T0 landfallref04_Writer_Num_c ⟨[v0, v1, undef, undef, undef, undef, undef, undef, undef, undef, undef, undef, undef, undef, undef, undef, undef, undef, undef, undef, undef, undef, undef, undef, undef, undef, undef, undef, undef, undef], [], h, none⟩ (bodyQ Try.prog T0 [(4, none)] R X)) :
    Runs Try.prog T0 (.fn 72) [v0, v1] h R X := Runs.fn landfallref04_Writer_Num_t rfl k


/-! 73 (*landfall/landfallref04.Writer).Hash -/
abbrev fn_landfallref04_Writer_Hash : FuncId := 73
noncomputable def landfallref04_Writer_Hash_c : ACode :=
  (.seq (.region [
      ⟨(some 3), .box 26 (.tmp 1), none, [], false⟩,
      ⟨(some 4), .mov (.const (.int .i64 0)), none, [], false⟩]) (.seq (.region [
      ⟨(some 5), .mov (.tmp 0), none, [], false⟩,
      ⟨(some 6), .buildSlice 5 [] 0 [], none, [], false⟩,
      ⟨(some 7), .sliceArr 32 1 (.tmp 3) none none, none, [], false⟩,
      ⟨(some 8), .append 5 1 1 [(.int .u8 0)] false (.tmp 6) (.tmp 7), none, [], false⟩,
      ⟨(some 9), .callV (.func 93) [(.tmp 5), (.tmp 8)], none, [], false⟩,
      ⟨(some 4), .mov (.tmp 9), none, [], false⟩]) .ret))
noncomputable def landfallref04_Writer_Hash : AFunc := ⟨10, [(4, none)], landfallref04_Writer_Hash_c, none⟩
theorem landfallref04_Writer_Hash_t0 : tableOf Try.prog 73 = some landfallref04_Writer_Hash := by kernel_rfl
theorem landfallref04_Writer_Hash_t : T0 73 = some landfallref04_Writer_Hash := withKept_t rfl (withTrue_t rfl landfallref04_Writer_Hash_t0)
theorem landfallref04_Writer_Hash_runs {v0 v1 : Value} {h : Heap} {R : RP} {X : XP} (k : RunC Try.prog T0 landfallref04_Writer_Hash_c ⟨[v0, v1, undef, undef, undef, undef, undef, undef, undef, undef], [], h, none⟩ (bodyQ Try.prog T0 [(4, none)] R X)) :
    Runs Try.prog T0 (.fn 73) [v0, v1] h R X := Runs.fn landfallref04_Writer_Hash_t rfl k


/-! 74 landfall/landfallref03.begin -/
abbrev fn_landfallref03_begin : FuncId := 74
noncomputable def landfallref03_begin_c : ACode :=
  (.seq (.region [
      ⟨(some 0), .alloc 101 [(.int .u32 0), (.int .u32 0), (.int .u32 0), (.int .u32 0), (.int .u32 0), (.int .u32 0), (.int .u32 0), (.int .u32 0)], none, [], false⟩]) (.seq (.region [
      ⟨(some 1), .build [(.int .u32 0), (.int .u32 0), (.int .u32 0), (.int .u32 0), (.int .u32 0), (.int .u32 0), (.int .u32 0), (.int .u32 0)] [(0, 1, (.const (.int .u32 1779033703))), (1, 1, (.const (.int .u32 3144134277))), (2, 1, (.const (.int .u32 1013904242))), (3, 1, (.const (.int .u32 2773480762))), (4, 1, (.const (.int .u32 1359893119))), (5, 1, (.const (.int .u32 2600822924))), (6, 1, (.const (.int .u32 528734635))), (7, 1, (.const (.int .u32 1541459225)))], none, [], false⟩,
      ⟨none, .store 8 (.tmp 0) (.tmp 1), none, [], false⟩]) .ret))
noncomputable def landfallref03_begin : AFunc := ⟨2, [(0, some (some 8))], landfallref03_begin_c, none⟩
theorem landfallref03_begin_t0 : tableOf Try.prog 74 = some landfallref03_begin := by kernel_rfl
theorem landfallref03_begin_t : T0 74 = some landfallref03_begin := withKept_t rfl (withTrue_t rfl landfallref03_begin_t0)
theorem landfallref03_begin_runs {v : Value} {h : Heap} {R : RP} {X : XP} (k : RunC Try.prog T0 landfallref03_begin_c ⟨[undef, undef], [], h, none⟩ (bodyQ Try.prog T0 [(0, some (some 8))] R X)) :
    Runs Try.prog T0 (.fn 74) [] h R X := Runs.fn landfallref03_begin_t rfl k


/-! 75 landfall/landfallref03.block -/
abbrev fn_landfallref03_block : FuncId := 75
noncomputable def landfallref03_block_l0 : ACode :=
  (.seq (.seq (.region [
      ⟨(some 18), .mov (.tmp 10), none, [], false⟩,
      ⟨(some 19), .bin .lss (so (.binOp .lss 3 (.tmp 18) (.const (.int .i64 16)) 3) 4) (.tmp 18) (.const (.int .i64 16)), none, [], false⟩]) (.cond (.tmp 19)
    .skip
    (.exit 0))) (.seq (.block 1 (.regionD [
      ⟨(some 22), .mov (.tmp 10), none, [], false⟩,
      ⟨(some 23), .mov (.tmp 1), none, [], false⟩,
      ⟨(some 24), .mov (.tmp 10), none, [], false⟩,
      ⟨(some 25), .bin .mul (so (.binOp .mul 3 (.const (.int .i64 4)) (.tmp 24) 3) 3) (.const (.int .i64 4)) (.tmp 24), none, [], false⟩,
      ⟨(some 26), .indexSl 1 (.tmp 23) (.tmp 25), none, [], false⟩,
      ⟨(some 27), .load none (.tmp 26), none, [], false⟩,
      ⟨(some 28), .conv .u32 (so (.convert 5 100 (.tmp 27)) 100) (.tmp 27), none, [], false⟩,
      ⟨(some 29), .mov (.tmp 1), none, [], false⟩,
      ⟨(some 30), .mov (.tmp 10), none, [], false⟩,
      ⟨(some 31), .bin .mul (so (.binOp .mul 3 (.const (.int .i64 4)) (.tmp 30) 3) 3) (.const (.int .i64 4)) (.tmp 30), none, [], false⟩,
      ⟨(some 32), .bin .add (so (.binOp .add 3 (.tmp 31) (.const (.int .i64 1)) 3) 3) (.tmp 31) (.const (.int .i64 1)), none, [], false⟩,
      ⟨(some 33), .indexSl 1 (.tmp 29) (.tmp 32), none, [], false⟩,
      ⟨(some 34), .load none (.tmp 33), none, [], false⟩,
      ⟨(some 35), .conv .u32 (so (.convert 5 100 (.tmp 34)) 100) (.tmp 34), none, [], false⟩,
      ⟨(some 36), .bin .shl (so (.binOp .shl 100 (.tmp 35) (.const (.int .u64 8)) 104) 100) (.tmp 35) (.const (.int .u64 8)), none, [], false⟩,
      ⟨(some 37), .bin .or (so (.binOp .or 100 (.tmp 28) (.tmp 36) 100) 100) (.tmp 28) (.tmp 36), none, [], false⟩,
      ⟨(some 38), .mov (.tmp 1), none, [], false⟩,
      ⟨(some 39), .mov (.tmp 10), none, [], false⟩,
      ⟨(some 40), .bin .mul (so (.binOp .mul 3 (.const (.int .i64 4)) (.tmp 39) 3) 3) (.const (.int .i64 4)) (.tmp 39), none, [], false⟩,
      ⟨(some 41), .bin .add (so (.binOp .add 3 (.tmp 40) (.const (.int .i64 2)) 3) 3) (.tmp 40) (.const (.int .i64 2)), none, [], false⟩,
      ⟨(some 42), .indexSl 1 (.tmp 38) (.tmp 41), none, [], false⟩,
      ⟨(some 43), .load none (.tmp 42), none, [], false⟩,
      ⟨(some 44), .conv .u32 (so (.convert 5 100 (.tmp 43)) 100) (.tmp 43), none, [], false⟩,
      ⟨(some 45), .bin .shl (so (.binOp .shl 100 (.tmp 44) (.const (.int .u64 16)) 104) 100) (.tmp 44) (.const (.int .u64 16)), none, [], false⟩,
      ⟨(some 46), .bin .or (so (.binOp .or 100 (.tmp 37) (.tmp 45) 100) 100) (.tmp 37) (.tmp 45), none, [], false⟩,
      ⟨(some 47), .mov (.tmp 1), none, [], false⟩,
      ⟨(some 48), .mov (.tmp 10), none, [], false⟩,
      ⟨(some 49), .bin .mul (so (.binOp .mul 3 (.const (.int .i64 4)) (.tmp 48) 3) 3) (.const (.int .i64 4)) (.tmp 48), none, [], false⟩,
      ⟨(some 50), .bin .add (so (.binOp .add 3 (.tmp 49) (.const (.int .i64 3)) 3) 3) (.tmp 49) (.const (.int .i64 3)), none, [], false⟩,
      ⟨(some 51), .indexSl 1 (.tmp 47) (.tmp 50), none, [], false⟩,
      ⟨(some 52), .load none (.tmp 51), none, [], false⟩,
      ⟨(some 53), .conv .u32 (so (.convert 5 100 (.tmp 52)) 100) (.tmp 52), none, [], false⟩,
      ⟨(some 54), .bin .shl (so (.binOp .shl 100 (.tmp 53) (.const (.int .u64 24)) 104) 100) (.tmp 53) (.const (.int .u64 24)), none, [], false⟩,
      ⟨(some 55), .bin .or (so (.binOp .or 100 (.tmp 46) (.tmp 54) 100) 100) (.tmp 46) (.tmp 54), none, [], false⟩,
      ⟨(some 56), .indexArr 16 1 (.tmp 9) (.tmp 22), none, [], true⟩,
      ⟨none, .store 1 (.tmp 56) (.tmp 55), none, [], true⟩])) (.region [
      ⟨(some 20), .mov (.tmp 10), none, [], false⟩,
      ⟨(some 21), .bin .add (so (.binOp .add 3 (.tmp 20) (.const (.int .i64 1)) 3) 3) (.tmp 20) (.const (.int .i64 1)), none, [], false⟩,
      ⟨(some 10), .mov (.tmp 21), none, [], false⟩])))
noncomputable def landfallref03_block_l1 : ACode :=
  (.seq (.seq (.region [
      ⟨(some 57), .mov (.tmp 12), none, [], false⟩,
      ⟨(some 58), .bin .lss (so (.binOp .lss 3 (.tmp 57) (.const (.int .i64 8)) 3) 4) (.tmp 57) (.const (.int .i64 8)), none, [], false⟩]) (.cond (.tmp 58)
    .skip
    (.exit 2))) (.seq (.block 3 (.seq (.region [
      ⟨(some 61), .mov (.tmp 12), none, [], false⟩,
      ⟨(some 62), .mov (.tmp 12), none, [], false⟩,
      ⟨(some 63), .indexArr 8 1 (.tmp 4) (.tmp 62), none, [], false⟩,
      ⟨(some 64), .load none (.tmp 63), none, [], false⟩,
      ⟨(some 65), .indexArr 16 1 (.tmp 11) (.tmp 61), none, [], false⟩,
      ⟨none, .store 1 (.tmp 65) (.tmp 64), none, [], false⟩]) (.region [
      ⟨(some 66), .mov (.tmp 12), none, [], false⟩,
      ⟨(some 67), .bin .add (so (.binOp .add 3 (.tmp 66) (.const (.int .i64 8)) 3) 3) (.tmp 66) (.const (.int .i64 8)), none, [], false⟩,
      ⟨(some 68), .callV (.func 74) [], none, [], false⟩,
      ⟨(some 69), .mov (.tmp 12), none, [], false⟩,
      ⟨(some 70), .index 8 1 none (.tmp 68) (.tmp 69), none, [], false⟩,
      ⟨(some 71), .indexArr 16 1 (.tmp 11) (.tmp 67), none, [], false⟩,
      ⟨none, .store 1 (.tmp 71) (.tmp 70), none, [], false⟩]))) (.region [
      ⟨(some 59), .mov (.tmp 12), none, [], false⟩,
      ⟨(some 60), .bin .add (so (.binOp .add 3 (.tmp 59) (.const (.int .i64 1)) 3) 3) (.tmp 59) (.const (.int .i64 1)), none, [], false⟩,
      ⟨(some 12), .mov (.tmp 60), none, [], false⟩])))
noncomputable def landfallref03_block_l2 : ACode :=
  (.seq (.seq (.region [
      ⟨(some 98), .mov (.tmp 15), none, [], false⟩,
      ⟨(some 99), .bin .lss (so (.binOp .lss 3 (.tmp 98) (.const (.int .i64 4)) 3) 4) (.tmp 98) (.const (.int .i64 4)), none, [], false⟩]) (.cond (.tmp 99)
    .skip
    (.exit 6))) (.seq (.block 7 (.regionD [
      ⟨(some 102), .load (some 16) (.tmp 11), none, [], false⟩,
      ⟨(some 103), .mov (.tmp 15), none, [], false⟩,
      ⟨(some 104), .mov (.tmp 15), none, [], false⟩,
      ⟨(some 105), .bin .add (so (.binOp .add 3 (.tmp 104) (.const (.int .i64 4)) 3) 3) (.tmp 104) (.const (.int .i64 4)), none, [], false⟩,
      ⟨(some 106), .mov (.tmp 15), none, [], false⟩,
      ⟨(some 107), .bin .add (so (.binOp .add 3 (.tmp 106) (.const (.int .i64 8)) 3) 3) (.tmp 106) (.const (.int .i64 8)), none, [], false⟩,
      ⟨(some 108), .mov (.tmp 15), none, [], false⟩,
      ⟨(some 109), .bin .add (so (.binOp .add 3 (.tmp 108) (.const (.int .i64 12)) 3) 3) (.tmp 108) (.const (.int .i64 12)), none, [], false⟩,
      ⟨(some 110), .mov (.tmp 15), none, [], false⟩,
      ⟨(some 111), .bin .mul (so (.binOp .mul 3 (.const (.int .i64 2)) (.tmp 110) 3) 3) (.const (.int .i64 2)) (.tmp 110), none, [], false⟩,
      ⟨(some 112), .indexArr 16 1 (.tmp 14) (.tmp 111), none, [], false⟩,
      ⟨(some 113), .load none (.tmp 112), none, [], false⟩,
      ⟨(some 114), .indexArr 16 1 (.tmp 9) (.tmp 113), none, [], false⟩,
      ⟨(some 115), .load none (.tmp 114), none, [], false⟩,
      ⟨(some 116), .mov (.tmp 15), none, [], false⟩,
      ⟨(some 117), .bin .mul (so (.binOp .mul 3 (.const (.int .i64 2)) (.tmp 116) 3) 3) (.const (.int .i64 2)) (.tmp 116), none, [], false⟩,
      ⟨(some 118), .bin .add (so (.binOp .add 3 (.tmp 117) (.const (.int .i64 1)) 3) 3) (.tmp 117) (.const (.int .i64 1)), none, [], false⟩,
      ⟨(some 119), .indexArr 16 1 (.tmp 14) (.tmp 118), none, [], false⟩,
      ⟨(some 120), .load none (.tmp 119), none, [], false⟩,
      ⟨(some 121), .indexArr 16 1 (.tmp 9) (.tmp 120), none, [], false⟩,
      ⟨(some 122), .load none (.tmp 121), none, [], false⟩,
      ⟨(some 123), .callV (.func 97) [(.tmp 102), (.tmp 103), (.tmp 105), (.tmp 107), (.tmp 109), (.tmp 115), (.tmp 122)], none, [], true⟩,
      ⟨none, .store 16 (.tmp 11) (.tmp 123), none, [], true⟩])) (.region [
      ⟨(some 100), .mov (.tmp 15), none, [], false⟩,
      ⟨(some 101), .bin .add (so (.binOp .add 3 (.tmp 100) (.const (.int .i64 1)) 3) 3) (.tmp 100) (.const (.int .i64 1)), none, [], false⟩,
      ⟨(some 15), .mov (.tmp 101), none, [], false⟩])))
noncomputable def landfallref03_block_l3 : ACode :=
  (.seq (.seq (.region [
      ⟨(some 124), .mov (.tmp 16), none, [], false⟩,
      ⟨(some 125), .bin .lss (so (.binOp .lss 3 (.tmp 124) (.const (.int .i64 4)) 3) 4) (.tmp 124) (.const (.int .i64 4)), none, [], false⟩]) (.cond (.tmp 125)
    .skip
    (.exit 8))) (.seq (.block 9 (.regionD [
      ⟨(some 128), .load (some 16) (.tmp 11), none, [], false⟩,
      ⟨(some 129), .mov (.tmp 16), none, [], false⟩,
      ⟨(some 130), .mov (.tmp 16), none, [], false⟩,
      ⟨(some 131), .bin .add (so (.binOp .add 3 (.tmp 130) (.const (.int .i64 1)) 3) 3) (.tmp 130) (.const (.int .i64 1)), none, [], false⟩,
      ⟨(some 132), .bin .rem (so (.binOp .rem 3 (.tmp 131) (.const (.int .i64 4)) 3) 3) (.tmp 131) (.const (.int .i64 4)), none, [], false⟩,
      ⟨(some 133), .bin .add (so (.binOp .add 3 (.const (.int .i64 4)) (.tmp 132) 3) 3) (.const (.int .i64 4)) (.tmp 132), none, [], false⟩,
      ⟨(some 134), .mov (.tmp 16), none, [], false⟩,
      ⟨(some 135), .bin .add (so (.binOp .add 3 (.tmp 134) (.const (.int .i64 2)) 3) 3) (.tmp 134) (.const (.int .i64 2)), none, [], false⟩,
      ⟨(some 136), .bin .rem (so (.binOp .rem 3 (.tmp 135) (.const (.int .i64 4)) 3) 3) (.tmp 135) (.const (.int .i64 4)), none, [], false⟩,
      ⟨(some 137), .bin .add (so (.binOp .add 3 (.const (.int .i64 8)) (.tmp 136) 3) 3) (.const (.int .i64 8)) (.tmp 136), none, [], false⟩,
      ⟨(some 138), .mov (.tmp 16), none, [], false⟩,
      ⟨(some 139), .bin .add (so (.binOp .add 3 (.tmp 138) (.const (.int .i64 3)) 3) 3) (.tmp 138) (.const (.int .i64 3)), none, [], false⟩,
      ⟨(some 140), .bin .rem (so (.binOp .rem 3 (.tmp 139) (.const (.int .i64 4)) 3) 3) (.tmp 139) (.const (.int .i64 4)), none, [], false⟩,
      ⟨(some 141), .bin .add (so (.binOp .add 3 (.const (.int .i64 12)) (.tmp 140) 3) 3) (.const (.int .i64 12)) (.tmp 140), none, [], false⟩,
      ⟨(some 142), .mov (.tmp 16), none, [], false⟩,
      ⟨(some 143), .bin .mul (so (.binOp .mul 3 (.const (.int .i64 2)) (.tmp 142) 3) 3) (.const (.int .i64 2)) (.tmp 142), none, [], false⟩,
      ⟨(some 144), .bin .add (so (.binOp .add 3 (.const (.int .i64 8)) (.tmp 143) 3) 3) (.const (.int .i64 8)) (.tmp 143), none, [], false⟩,
      ⟨(some 145), .indexArr 16 1 (.tmp 14) (.tmp 144), none, [], false⟩,
      ⟨(some 146), .load none (.tmp 145), none, [], false⟩,
      ⟨(some 147), .indexArr 16 1 (.tmp 9) (.tmp 146), none, [], false⟩,
      ⟨(some 148), .load none (.tmp 147), none, [], false⟩,
      ⟨(some 149), .mov (.tmp 16), none, [], false⟩,
      ⟨(some 150), .bin .mul (so (.binOp .mul 3 (.const (.int .i64 2)) (.tmp 149) 3) 3) (.const (.int .i64 2)) (.tmp 149), none, [], false⟩,
      ⟨(some 151), .bin .add (so (.binOp .add 3 (.const (.int .i64 9)) (.tmp 150) 3) 3) (.const (.int .i64 9)) (.tmp 150), none, [], false⟩,
      ⟨(some 152), .indexArr 16 1 (.tmp 14) (.tmp 151), none, [], false⟩,
      ⟨(some 153), .load none (.tmp 152), none, [], false⟩,
      ⟨(some 154), .indexArr 16 1 (.tmp 9) (.tmp 153), none, [], false⟩,
      ⟨(some 155), .load none (.tmp 154), none, [], false⟩,
      ⟨(some 156), .callV (.func 97) [(.tmp 128), (.tmp 129), (.tmp 133), (.tmp 137), (.tmp 141), (.tmp 148), (.tmp 155)], none, [], true⟩,
      ⟨none, .store 16 (.tmp 11) (.tmp 156), none, [], true⟩])) (.region [
      ⟨(some 126), .mov (.tmp 16), none, [], false⟩,
      ⟨(some 127), .bin .add (so (.binOp .add 3 (.tmp 126) (.const (.int .i64 1)) 3) 3) (.tmp 126) (.const (.int .i64 1)), none, [], false⟩,
      ⟨(some 16), .mov (.tmp 127), none, [], false⟩])))
noncomputable def landfallref03_block_l4 : ACode :=
  (.seq (.seq (.region [
      ⟨(some 92), .mov (.tmp 13), none, [], false⟩,
      ⟨(some 93), .bin .lss (so (.binOp .lss 3 (.tmp 92) (.const (.int .i64 10)) 3) 4) (.tmp 92) (.const (.int .i64 10)), none, [], false⟩]) (.cond (.tmp 93)
    .skip
    (.exit 4))) (.seq (.block 5 (.seq (.region [
      ⟨(some 96), .mov (.tmp 13), none, [], false⟩,
      ⟨(some 97), .callV (.func 96) [(.tmp 96)], none, [], false⟩,
      ⟨(some 14), .alloc 126 [(.int .i64 0), (.int .i64 0), (.int .i64 0), (.int .i64 0), (.int .i64 0), (.int .i64 0), (.int .i64 0), (.int .i64 0), (.int .i64 0), (.int .i64 0), (.int .i64 0), (.int .i64 0), (.int .i64 0), (.int .i64 0), (.int .i64 0), (.int .i64 0)], none, [], false⟩,
      ⟨none, .store 16 (.tmp 14) (.tmp 97), none, [], false⟩]) (.seq (.seq (.region [
      ⟨(some 15), .mov (.const (.int .i64 0)), none, [], false⟩]) (.block 6 (.loop landfallref03_block_l2))) (.seq (.region [
      ⟨(some 16), .mov (.const (.int .i64 0)), none, [], false⟩]) (.block 8 (.loop landfallref03_block_l3)))))) (.region [
      ⟨(some 94), .mov (.tmp 13), none, [], false⟩,
      ⟨(some 95), .bin .add (so (.binOp .add 3 (.tmp 94) (.const (.int .i64 1)) 3) 3) (.tmp 94) (.const (.int .i64 1)), none, [], false⟩,
      ⟨(some 13), .mov (.tmp 95), none, [], false⟩])))
noncomputable def landfallref03_block_l5 : ACode :=
  (.seq (.seq (.region [
      ⟨(some 157), .mov (.tmp 17), none, [], false⟩,
      ⟨(some 158), .bin .lss (so (.binOp .lss 3 (.tmp 157) (.const (.int .i64 8)) 3) 4) (.tmp 157) (.const (.int .i64 8)), none, [], false⟩]) (.cond (.tmp 158)
    .skip
    (.exit 10))) (.seq (.block 11 (.regionD [
      ⟨(some 161), .mov (.tmp 17), none, [], false⟩,
      ⟨(some 162), .mov (.tmp 17), none, [], false⟩,
      ⟨(some 163), .indexArr 8 1 (.tmp 4) (.tmp 162), none, [], false⟩,
      ⟨(some 164), .load none (.tmp 163), none, [], false⟩,
      ⟨(some 165), .mov (.tmp 17), none, [], false⟩,
      ⟨(some 166), .indexArr 16 1 (.tmp 11) (.tmp 165), none, [], false⟩,
      ⟨(some 167), .load none (.tmp 166), none, [], false⟩,
      ⟨(some 168), .bin .xor (so (.binOp .xor 100 (.tmp 164) (.tmp 167) 100) 100) (.tmp 164) (.tmp 167), none, [], false⟩,
      ⟨(some 169), .mov (.tmp 17), none, [], false⟩,
      ⟨(some 170), .bin .add (so (.binOp .add 3 (.tmp 169) (.const (.int .i64 8)) 3) 3) (.tmp 169) (.const (.int .i64 8)), none, [], false⟩,
      ⟨(some 171), .indexArr 16 1 (.tmp 11) (.tmp 170), none, [], false⟩,
      ⟨(some 172), .load none (.tmp 171), none, [], false⟩,
      ⟨(some 173), .bin .xor (so (.binOp .xor 100 (.tmp 168) (.tmp 172) 100) 100) (.tmp 168) (.tmp 172), none, [], false⟩,
      ⟨(some 174), .indexArr 8 1 (.tmp 4) (.tmp 161), none, [], true⟩,
      ⟨none, .store 1 (.tmp 174) (.tmp 173), none, [], true⟩])) (.region [
      ⟨(some 159), .mov (.tmp 17), none, [], false⟩,
      ⟨(some 160), .bin .add (so (.binOp .add 3 (.tmp 159) (.const (.int .i64 1)) 3) 3) (.tmp 159) (.const (.int .i64 1)), none, [], false⟩,
      ⟨(some 17), .mov (.tmp 160), none, [], false⟩])))
noncomputable def landfallref03_block_c : ACode :=
  (.seq (.region [
      ⟨(some 4), .box 101 (.tmp 0), none, [], false⟩,
      ⟨(some 8), .alloc 101 [(.int .u32 0), (.int .u32 0), (.int .u32 0), (.int .u32 0), (.int .u32 0), (.int .u32 0), (.int .u32 0), (.int .u32 0)], none, [], false⟩]) (.seq (.region [
      ⟨(some 9), .alloc 125 [(.int .u32 0), (.int .u32 0), (.int .u32 0), (.int .u32 0), (.int .u32 0), (.int .u32 0), (.int .u32 0), (.int .u32 0), (.int .u32 0), (.int .u32 0), (.int .u32 0), (.int .u32 0), (.int .u32 0), (.int .u32 0), (.int .u32 0), (.int .u32 0)], none, [], false⟩]) (.seq (.seq (.region [
      ⟨(some 10), .mov (.const (.int .i64 0)), none, [], false⟩]) (.block 0 (.loop landfallref03_block_l0))) (.seq (.region [
      ⟨(some 11), .alloc 125 [(.int .u32 0), (.int .u32 0), (.int .u32 0), (.int .u32 0), (.int .u32 0), (.int .u32 0), (.int .u32 0), (.int .u32 0), (.int .u32 0), (.int .u32 0), (.int .u32 0), (.int .u32 0), (.int .u32 0), (.int .u32 0), (.int .u32 0), (.int .u32 0)], none, [], false⟩]) (.seq (.seq (.region [
      ⟨(some 12), .mov (.const (.int .i64 0)), none, [], false⟩]) (.block 2 (.loop landfallref03_block_l1))) (.seq (.region [
      ⟨(some 72), .indexArr 16 1 (.tmp 11) (.const (.int .i64 12)), none, [], false⟩,
      ⟨(some 73), .load none (.tmp 72), none, [], false⟩,
      ⟨(some 74), .mov (.tmp 2), none, [], false⟩,
      ⟨(some 75), .conv .u64 (so (.convert 3 117 (.tmp 74)) 117) (.tmp 74), none, [], false⟩,
      ⟨(some 76), .conv .u32 (so (.convert 117 100 (.tmp 75)) 100) (.tmp 75), none, [], false⟩,
      ⟨(some 77), .bin .xor (so (.binOp .xor 100 (.tmp 73) (.tmp 76) 100) 100) (.tmp 73) (.tmp 76), none, [], false⟩,
      ⟨(some 78), .indexArr 16 1 (.tmp 11) (.const (.int .i64 12)), none, [], false⟩,
      ⟨none, .store 1 (.tmp 78) (.tmp 77), none, [], false⟩]) (.seq (.region [
      ⟨(some 79), .indexArr 16 1 (.tmp 11) (.const (.int .i64 13)), none, [], false⟩,
      ⟨(some 80), .load none (.tmp 79), none, [], false⟩,
      ⟨(some 81), .mov (.tmp 2), none, [], false⟩,
      ⟨(some 82), .conv .u64 (so (.convert 3 117 (.tmp 81)) 117) (.tmp 81), none, [], false⟩,
      ⟨(some 83), .bin .shr (so (.binOp .shr 117 (.tmp 82) (.const (.int .u64 32)) 104) 117) (.tmp 82) (.const (.int .u64 32)), none, [], false⟩,
      ⟨(some 84), .conv .u32 (so (.convert 117 100 (.tmp 83)) 100) (.tmp 83), none, [], false⟩,
      ⟨(some 85), .bin .xor (so (.binOp .xor 100 (.tmp 80) (.tmp 84) 100) 100) (.tmp 80) (.tmp 84), none, [], false⟩,
      ⟨(some 86), .indexArr 16 1 (.tmp 11) (.const (.int .i64 13)), none, [], false⟩,
      ⟨none, .store 1 (.tmp 86) (.tmp 85), none, [], false⟩]) (.seq (.seq (.region [
      ⟨(some 87), .mov (.tmp 3), none, [], false⟩]) (.cond (.tmp 87)
    (.region [
      ⟨(some 88), .indexArr 16 1 (.tmp 11) (.const (.int .i64 14)), none, [], false⟩,
      ⟨(some 89), .load none (.tmp 88), none, [], false⟩,
      ⟨(some 90), .raw (so (.unOp .xor 100 (.tmp 89)) 100), none, [], false⟩,
      ⟨(some 91), .indexArr 16 1 (.tmp 11) (.const (.int .i64 14)), none, [], false⟩,
      ⟨none, .store 1 (.tmp 91) (.tmp 90), none, [], false⟩])
    .skip)) (.seq (.seq (.region [
      ⟨(some 13), .mov (.const (.int .i64 0)), none, [], false⟩]) (.block 4 (.loop landfallref03_block_l4))) (.seq (.seq (.region [
      ⟨(some 17), .mov (.const (.int .i64 0)), none, [], false⟩]) (.block 10 (.loop landfallref03_block_l5))) (.seq (.region [
      ⟨(some 175), .load (some 8) (.tmp 4), none, [], false⟩,
      ⟨none, .store 8 (.tmp 8) (.tmp 175), none, [], false⟩]) .ret)))))))))))
noncomputable def landfallref03_block : AFunc := ⟨176, [(8, some (some 8))], landfallref03_block_c, none⟩
theorem landfallref03_block_t0 : tableOf Try.prog 75 = some landfallref03_block := by kernel_rfl
theorem landfallref03_block_t : T0 75 = some landfallref03_block := withKept_t rfl (withTrue_t rfl landfallref03_block_t0)
theorem landfallref03_block_runs {v0 v1 v2 v3 : Value} {h : Heap} {R : RP} {X : XP} (k : RunC Try.prog T0 landfallref03_block_c ⟨[v0, v1, v2, v3, undef, undef, undef, undef, undef, undef, undef, undef, undef, undef, undef, undef, undef, undef, undef, undef, undef, undef, undef, undef, undef, undef, undef, undef, undef, undef, undef, undef, undef, undef, undef, undef, undef, undef, undef, undef, undef, undef, undef, undef, undef, undef, undef, undef, undef, undef, undef, undef, undef, undef, undef, undef, undef, undef, undef, undef, undef, undef, undef, undef, undef, undef, undef, undef, undef, undef, undef, undef, undef, undef, undef, undef, undef, undef, undef, undef, undef, undef, undef, undef, undef, undef, undef, undef, undef, undef, undef, undef, undef, undef, undef, undef, undef, undef, undef, undef, undef, undef, undef, undef, undef, undef, undef, undef, undef, undef, undef, undef, undef, undef, undef, undef, undef, undef, undef, undef, undef, undef, undef, undef, undef, undef, undef, undef, undef, undef, undef, undef, undef, undef, undef, undef, undef, undef, undef, undef, undef, undef, undef, undef, undef, undef, undef, undef, undef, undef, undef, undef, undef, undef, undef, undef, undef, undef, undef, undef, undef, undef, undef, undef, undef, undef, undef, undef, undef, undef, undef, undef, undef, undef, undef, undef], [], h, none⟩ (bodyQ Try.prog T0 [(8, some (some 8))] R X)) :
    Runs Try.prog T0 (.fn 75) [v0, v1, v2, v3] h R X := Runs.fn landfallref03_block_t rfl k
/-- the slots that turn in the loop: v10 -/
noncomputable def landfallref03_block_l0_J (f0 f1 f2 f3 f4 f5 f6 f7 f8 f9 f11 f12 f13 f14 f15 f16 f17 f57 f58 f59 f60 f61 f62 f63 f64 f65 f66 f67 f68 f69 f70 f71 f72 f73 f74 f75 f76 f77 f78 f79 f80 f81 f82 f83 f84 f85 f86 f87 f88 f89 f90 f91 f92 f93 f94 f95 f96 f97 f98 f99 f100 f101 f102 f103 f104 f105 f106 f107 f108 f109 f110 f111 f112 f113 f114 f115 f116 f117 f118 f119 f120 f121 f122 f123 f124 f125 f126 f127 f128 f129 f130 f131 f132 f133 f134 f135 f136 f137 f138 f139 f140 f141 f142 f143 f144 f145 f146 f147 f148 f149 f150 f151 f152 f153 f154 f155 f156 f157 f158 f159 f160 f161 f162 f163 f164 f165 f166 f167 f168 f169 f170 f171 f172 f173 f174 f175 : Value) (ds : List Deferred) (rd : Option Nat) (I : Nat → Value → Heap → Prop) (m : Nat) (s : St) : Prop := ∃ (v10 : Value), ∃ h : Heap, ∃ (x18 x19 x20 x21 x22 x23 x24 x25 x26 x27 x28 x29 x30 x31 x32 x33 x34 x35 x36 x37 x38 x39 x40 x41 x42 x43 x44 x45 x46 x47 x48 x49 x50 x51 x52 x53 x54 x55 x56 : Value), s = ⟨[f0, f1, f2, f3, f4, f5, f6, f7, f8, f9, v10, f11, f12, f13, f14, f15, f16, f17, x18, x19, x20, x21, x22, x23, x24, x25, x26, x27, x28, x29, x30, x31, x32, x33, x34, x35, x36, x37, x38, x39, x40, x41, x42, x43, x44, x45, x46, x47, x48, x49, x50, x51, x52, x53, x54, x55, x56, f57, f58, f59, f60, f61, f62, f63, f64, f65, f66, f67, f68, f69, f70, f71, f72, f73, f74, f75, f76, f77, f78, f79, f80, f81, f82, f83, f84, f85, f86, f87, f88, f89, f90, f91, f92, f93, f94, f95, f96, f97, f98, f99, f100, f101, f102, f103, f104, f105, f106, f107, f108, f109, f110, f111, f112, f113, f114, f115, f116, f117, f118, f119, f120, f121, f122, f123, f124, f125, f126, f127, f128, f129, f130, f131, f132, f133, f134, f135, f136, f137, f138, f139, f140, f141, f142, f143, f144, f145, f146, f147, f148, f149, f150, f151, f152, f153, f154, f155, f156, f157, f158, f159, f160, f161, f162, f163, f164, f165, f166, f167, f168, f169, f170, f171, f172, f173, f174, f175], ds, h, rd⟩ ∧ I m v10 h
theorem landfallref03_block_l0_rule {f0 f1 f2 f3 f4 f5 f6 f7 f8 f9 f11 f12 f13 f14 f15 f16 f17 f57 f58 f59 f60 f61 f62 f63 f64 f65 f66 f67 f68 f69 f70 f71 f72 f73 f74 f75 f76 f77 f78 f79 f80 f81 f82 f83 f84 f85 f86 f87 f88 f89 f90 f91 f92 f93 f94 f95 f96 f97 f98 f99 f100 f101 f102 f103 f104 f105 f106 f107 f108 f109 f110 f111 f112 f113 f114 f115 f116 f117 f118 f119 f120 f121 f122 f123 f124 f125 f126 f127 f128 f129 f130 f131 f132 f133 f134 f135 f136 f137 f138 f139 f140 f141 f142 f143 f144 f145 f146 f147 f148 f149 f150 f151 f152 f153 f154 f155 f156 f157 f158 f159 f160 f161 f162 f163 f164 f165 f166 f167 f168 f169 f170 f171 f172 f173 f174 f175 : Value} {ds : List Deferred} {rd : Option Nat} {Q : QP} (I : Nat → Value → Heap → Prop) (hb : ∀ (m : Nat) (v10 : Value) (h : Heap) (x18 x19 x20 x21 x22 x23 x24 x25 x26 x27 x28 x29 x30 x31 x32 x33 x34 x35 x36 x37 x38 x39 x40 x41 x42 x43 x44 x45 x46 x47 x48 x49 x50 x51 x52 x53 x54 x55 x56 : Value) , I m v10 h → RunC Try.prog T0 landfallref03_block_l0 ⟨[f0, f1, f2, f3, f4, f5, f6, f7, f8, f9, v10, f11, f12, f13, f14, f15, f16, f17, x18, x19, x20, x21, x22, x23, x24, x25, x26, x27, x28, x29, x30, x31, x32, x33, x34, x35, x36, x37, x38, x39, x40, x41, x42, x43, x44, x45, x46, x47, x48, x49, x50, x51, x52, x53, x54, x55, x56, f57, f58, f59, f60, f61, f62, f63, f64, f65, f66, f67, f68, f69, f70, f71, f72, f73, f74, f75, f76, f77, f78, f79, f80, f81, f82, f83, f84, f85, f86, f87, f88, f89, f90, f91, f92, f93, f94, f95, f96, f97, f98, f99, f100, f101, f102, f103, f104, f105, f106, f107, f108, f109, f110, f111, f112, f113, f114, f115, f116, f117, f118, f119, f120, f121, f122, f123, f124, f125, f126, f127, f128, f129, f130, f131, f132, f133, f134, f135, f136, f137, f138, f139, f140, f141, f142, f143, f144, f145, f146, f147, f148, f149, f150, f151, f152, f153, f154, f155, f156, f157, f158, f159, f160, f161, f162, f163, f164, f165, f166, f167, f168, f169, f170, f171, f172, f173, f174, f175], ds, h, rd⟩ (loopQ (landfallref03_block_l0_J f0 f1 f2 f3 f4 f5 f6 f7 f8 f9 f11 f12 f13 f14 f15 f16 f17 f57 f58 f59 f60 f61 f62 f63 f64 f65 f66 f67 f68 f69 f70 f71 f72 f73 f74 f75 f76 f77 f78 f79 f80 f81 f82 f83 f84 f85 f86 f87 f88 f89 f90 f91 f92 f93 f94 f95 f96 f97 f98 f99 f100 f101 f102 f103 f104 f105 f106 f107 f108 f109 f110 f111 f112 f113 f114 f115 f116 f117 f118 f119 f120 f121 f122 f123 f124 f125 f126 f127 f128 f129 f130 f131 f132 f133 f134 f135 f136 f137 f138 f139 f140 f141 f142 f143 f144 f145 f146 f147 f148 f149 f150 f151 f152 f153 f154 f155 f156 f157 f158 f159 f160 f161 f162 f163 f164 f165 f166 f167 f168 f169 f170 f171 f172 f173 f174 f175 ds rd I) m Q))
    (m : Nat) {v10 : Value} {h : Heap} {x18 x19 x20 x21 x22 x23 x24 x25 x26 x27 x28 x29 x30 x31 x32 x33 x34 x35 x36 x37 x38 x39 x40 x41 x42 x43 x44 x45 x46 x47 x48 x49 x50 x51 x52 x53 x54 x55 x56 : Value} (hi : I m v10 h) : RunC Try.prog T0 (.loop landfallref03_block_l0) ⟨[f0, f1, f2, f3, f4, f5, f6, f7, f8, f9, v10, f11, f12, f13, f14, f15, f16, f17, x18, x19, x20, x21, x22, x23, x24, x25, x26, x27, x28, x29, x30, x31, x32, x33, x34, x35, x36, x37, x38, x39, x40, x41, x42, x43, x44, x45, x46, x47, x48, x49, x50, x51, x52, x53, x54, x55, x56, f57, f58, f59, f60, f61, f62, f63, f64, f65, f66, f67, f68, f69, f70, f71, f72, f73, f74, f75, f76, f77, f78, f79, f80, f81, f82, f83, f84, f85, f86, f87, f88, f89, f90, f91, f92, f93, f94, f95, f96, f97, f98, f99, f100, f101, f102, f103, f104, f105, f106, f107, f108, f109, f110, f111, f112, f113, f114, f115, f116, f117, f118, f119, f120, f121, f122, f123, f124, f125, f126, f127, f128, f129, f130, f131, f132, f133, f134, f135, f136, f137, f138, f139, f140, f141, f142, f143, f144, f145, f146, f147, f148, f149, f150, f151, f152, f153, f154, f155, f156, f157, f158, f159, f160, f161, f162, f163, f164, f165, f166, f167, f168, f169, f170, f171, f172, f173, f174, f175], ds, h, rd⟩ Q :=
  RunC.loopJ (landfallref03_block_l0_J f0 f1 f2 f3 f4 f5 f6 f7 f8 f9 f11 f12 f13 f14 f15 f16 f17 f57 f58 f59 f60 f61 f62 f63 f64 f65 f66 f67 f68 f69 f70 f71 f72 f73 f74 f75 f76 f77 f78 f79 f80 f81 f82 f83 f84 f85 f86 f87 f88 f89 f90 f91 f92 f93 f94 f95 f96 f97 f98 f99 f100 f101 f102 f103 f104 f105 f106 f107 f108 f109 f110 f111 f112 f113 f114 f115 f116 f117 f118 f119 f120 f121 f122 f123 f124 f125 f126 f127 f128 f129 f130 f131 f132 f133 f134 f135 f136 f137 f138 f139 f140 f141 f142 f143 f144 f145 f146 f147 f148 f149 f150 f151 f152 f153 f154 f155 f156 f157 f158 f159 f160 f161 f162 f163 f164 f165 f166 f167 f168 f169 f170 f171 f172 f173 f174 f175 ds rd I) (fun m s hj => by obtain ⟨v10, h, x18, x19, x20, x21, x22, x23, x24, x25, x26, x27, x28, x29, x30, x31, x32, x33, x34, x35, x36, x37, x38, x39, x40, x41, x42, x43, x44, x45, x46, x47, x48, x49, x50, x51, x52, x53, x54, x55, x56, rfl, hi⟩ := hj; exact hb m v10 h x18 x19 x20 x21 x22 x23 x24 x25 x26 x27 x28 x29 x30 x31 x32 x33 x34 x35 x36 x37 x38 x39 x40 x41 x42 x43 x44 x45 x46 x47 x48 x49 x50 x51 x52 x53 x54 x55 x56 hi) m _ ⟨_, h, _, _, _, _, _, _, _, _, _, _, _, _, _, _, _, _, _, _, _, _, _, _, _, _, _, _, _, _, _, _, _, _, _, _, _, _, _, _, _, rfl, hi⟩
theorem landfallref03_block_l0_again {f0 f1 f2 f3 f4 f5 f6 f7 f8 f9 f11 f12 f13 f14 f15 f16 f17 f57 f58 f59 f60 f61 f62 f63 f64 f65 f66 f67 f68 f69 f70 f71 f72 f73 f74 f75 f76 f77 f78 f79 f80 f81 f82 f83 f84 f85 f86 f87 f88 f89 f90 f91 f92 f93 f94 f95 f96 f97 f98 f99 f100 f101 f102 f103 f104 f105 f106 f107 f108 f109 f110 f111 f112 f113 f114 f115 f116 f117 f118 f119 f120 f121 f122 f123 f124 f125 f126 f127 f128 f129 f130 f131 f132 f133 f134 f135 f136 f137 f138 f139 f140 f141 f142 f143 f144 f145 f146 f147 f148 f149 f150 f151 f152 f153 f154 f155 f156 f157 f158 f159 f160 f161 f162 f163 f164 f165 f166 f167 f168 f169 f170 f171 f172 f173 f174 f175 : Value} {ds : List Deferred} {rd : Option Nat} {Q : QP} {I : Nat → Value → Heap → Prop} {m : Nat} (m' : Nat) {v10 : Value} {h : Heap} {x18 x19 x20 x21 x22 x23 x24 x25 x26 x27 x28 x29 x30 x31 x32 x33 x34 x35 x36 x37 x38 x39 x40 x41 x42 x43 x44 x45 x46 x47 x48 x49 x50 x51 x52 x53 x54 x55 x56 : Value} (hm : m' < m) (hi : I m' v10 h) : loopQ (landfallref03_block_l0_J f0 f1 f2 f3 f4 f5 f6 f7 f8 f9 f11 f12 f13 f14 f15 f16 f17 f57 f58 f59 f60 f61 f62 f63 f64 f65 f66 f67 f68 f69 f70 f71 f72 f73 f74 f75 f76 f77 f78 f79 f80 f81 f82 f83 f84 f85 f86 f87 f88 f89 f90 f91 f92 f93 f94 f95 f96 f97 f98 f99 f100 f101 f102 f103 f104 f105 f106 f107 f108 f109 f110 f111 f112 f113 f114 f115 f116 f117 f118 f119 f120 f121 f122 f123 f124 f125 f126 f127 f128 f129 f130 f131 f132 f133 f134 f135 f136 f137 f138 f139 f140 f141 f142 f143 f144 f145 f146 f147 f148 f149 f150 f151 f152 f153 f154 f155 f156 f157 f158 f159 f160 f161 f162 f163 f164 f165 f166 f167 f168 f169 f170 f171 f172 f173 f174 f175 ds rd I) m Q .normal ⟨[f0, f1, f2, f3, f4, f5, f6, f7, f8, f9, v10, f11, f12, f13, f14, f15, f16, f17, x18, x19, x20, x21, x22, x23, x24, x25, x26, x27, x28, x29, x30, x31, x32, x33, x34, x35, x36, x37, x38, x39, x40, x41, x42, x43, x44, x45, x46, x47, x48, x49, x50, x51, x52, x53, x54, x55, x56, f57, f58, f59, f60, f61, f62, f63, f64, f65, f66, f67, f68, f69, f70, f71, f72, f73, f74, f75, f76, f77, f78, f79, f80, f81, f82, f83, f84, f85, f86, f87, f88, f89, f90, f91, f92, f93, f94, f95, f96, f97, f98, f99, f100, f101, f102, f103, f104, f105, f106, f107, f108, f109, f110, f111, f112, f113, f114, f115, f116, f117, f118, f119, f120, f121, f122, f123, f124, f125, f126, f127, f128, f129, f130, f131, f132, f133, f134, f135, f136, f137, f138, f139, f140, f141, f142, f143, f144, f145, f146, f147, f148, f149, f150, f151, f152, f153, f154, f155, f156, f157, f158, f159, f160, f161, f162, f163, f164, f165, f166, f167, f168, f169, f170, f171, f172, f173, f174, f175], ds, h, rd⟩ :=
  loopQ.again m' hm ⟨_, h, _, _, _, _, _, _, _, _, _, _, _, _, _, _, _, _, _, _, _, _, _, _, _, _, _, _, _, _, _, _, _, _, _, _, _, _, _, _, _, rfl, hi⟩
/-- the slots that turn in the loop: v12 -/
noncomputable def landfallref03_block_l1_J (f0 f1 f2 f3 f4 f5 f6 f7 f8 f9 f10 f11 f13 f14 f15 f16 f17 f18 f19 f20 f21 f22 f23 f24 f25 f26 f27 f28 f29 f30 f31 f32 f33 f34 f35 f36 f37 f38 f39 f40 f41 f42 f43 f44 f45 f46 f47 f48 f49 f50 f51 f52 f53 f54 f55 f56 f72 f73 f74 f75 f76 f77 f78 f79 f80 f81 f82 f83 f84 f85 f86 f87 f88 f89 f90 f91 f92 f93 f94 f95 f96 f97 f98 f99 f100 f101 f102 f103 f104 f105 f106 f107 f108 f109 f110 f111 f112 f113 f114 f115 f116 f117 f118 f119 f120 f121 f122 f123 f124 f125 f126 f127 f128 f129 f130 f131 f132 f133 f134 f135 f136 f137 f138 f139 f140 f141 f142 f143 f144 f145 f146 f147 f148 f149 f150 f151 f152 f153 f154 f155 f156 f157 f158 f159 f160 f161 f162 f163 f164 f165 f166 f167 f168 f169 f170 f171 f172 f173 f174 f175 : Value) (ds : List Deferred) (rd : Option Nat) (I : Nat → Value → Heap → Prop) (m : Nat) (s : St) : Prop := ∃ (v12 : Value), ∃ h : Heap, ∃ (x57 x58 x59 x60 x61 x62 x63 x64 x65 x66 x67 x68 x69 x70 x71 : Value), s = ⟨[f0, f1, f2, f3, f4, f5, f6, f7, f8, f9, f10, f11, v12, f13, f14, f15, f16, f17, f18, f19, f20, f21, f22, f23, f24, f25, f26, f27, f28, f29, f30, f31, f32, f33, f34, f35, f36, f37, f38, f39, f40, f41, f42, f43, f44, f45, f46, f47, f48, f49, f50, f51, f52, f53, f54, f55, f56, x57, x58, x59, x60, x61, x62, x63, x64, x65, x66, x67, x68, x69, x70, x71, f72, f73, f74, f75, f76, f77, f78, f79, f80, f81, f82, f83, f84, f85, f86, f87, f88, f89, f90, f91, f92, f93, f94, f95, f96, f97, f98, f99, f100, f101, f102, f103, f104, f105, f106, f107, f108, f109, f110, f111, f112, f113, f114, f115, f116, f117, f118, f119, f120, f121, f122, f123, f124, f125, f126, f127, f128, f129, f130, f131, f132, f133, f134, f135, f136, f137, f138, f139, f140, f141, f142, f143, f144, f145, f146, f147, f148, f149, f150, f151, f152, f153, f154, f155, f156, f157, f158, f159, f160, f161, f162, f163, f164, f165, f166, f167, f168, f169, f170, f171, f172, f173, f174, f175], ds, h, rd⟩ ∧ I m v12 h
theorem landfallref03_block_l1_rule {f0 f1 f2 f3 f4 f5 f6 f7 f8 f9 f10 f11 f13 f14 f15 f16 f17 f18 f19 f20 f21 f22 f23 f24 f25 f26 f27 f28 f29 f30 f31 f32 f33 f34 f35 f36 f37 f38 f39 f40 f41 f42 f43 f44 f45 f46 f47 f48 f49 f50 f51 f52 f53 f54 f55 f56 f72 f73 f74 f75 f76 f77 f78 f79 f80 f81 f82 f83 f84 f85 f86 f87 f88 f89 f90 f91 f92 f93 f94 f95 f96 f97 f98 f99 f100 f101 f102 f103 f104 f105 f106 f107 f108 f109 f110 f111 f112 f113 f114 f115 f116 f117 f118 f119 f120 f121 f122 f123 f124 f125 f126 f127 f128 f129 f130 f131 f132 f133 f134 f135 f136 f137 f138 f139 f140 f141 f142 f143 f144 f145 f146 f147 f148 f149 f150 f151 f152 f153 f154 f155 f156 f157 f158 f159 f160 f161 f162 f163 f164 f165 f166 f167 f168 f169 f170 f171 f172 f173 f174 f175 : Value} {ds : List Deferred} {rd : Option Nat} {Q : QP} (I : Nat → Value → Heap → Prop) (hb : ∀ (m : Nat) (v12 : Value) (h : Heap) (x57 x58 x59 x60 x61 x62 x63 x64 x65 x66 x67 x68 x69 x70 x71 : Value) , I m v12 h → RunC Try.prog T0 landfallref03_block_l1 ⟨[f0, f1, f2, f3, f4, f5, f6, f7, f8, f9, f10, f11, v12, f13, f14, f15, f16, f17, f18, f19, f20, f21, f22, f23, f24, f25, f26, f27, f28, f29, f30, f31, f32, f33, f34, f35, f36, f37, f38, f39, f40, f41, f42, f43, f44, f45, f46, f47, f48, f49, f50, f51, f52, f53, f54, f55, f56, x57, x58, x59, x60, x61, x62, x63, x64, x65, x66, x67, x68, x69, x70, x71, f72, f73, f74, f75, f76, f77, f78, f79, f80, f81, f82, f83, f84, f85, f86, f87, f88, f89, f90, f91, f92, f93, f94, f95, f96, f97, f98, f99, f100, f101, f102, f103, f104, f105, f106, f107, f108, f109, f110, f111, f112, f113, f114, f115, f116, f117, f118, f119, f120, f121, f122, f123, f124, f125, f126, f127, f128, f129, f130, f131, f132, f133, f134, f135, f136, f137, f138, f139, f140, f141, f142, f143, f144, f145, f146, f147, f148, f149, f150, f151, f152, f153, f154, f155, f156, f157, f158, f159, f160, f161, f162, f163, f164, f165, f166, f167, f168, f169, f170, f171, f172, f173, f174, f175], ds, h, rd⟩ (loopQ (landfallref03_block_l1_J f0 f1 f2 f3 f4 f5 f6 f7 f8 f9 f10 f11 f13 f14 f15 f16 f17 f18 f19 f20 f21 f22 f23 f24 f25 f26 f27 f28 f29 f30 f31 f32 f33 f34 f35 f36 f37 f38 f39 f40 f41 f42 f43 f44 f45 f46 f47 f48 f49 f50 f51 f52 f53 f54 f55 f56 f72 f73 f74 f75 f76 f77 f78 f79 f80 f81 f82 f83 f84 f85 f86 f87 f88 f89 f90 f91 f92 f93 f94 f95 f96 f97 f98 f99 f100 f101 f102 f103 f104 f105 f106 f107 f108 f109 f110 f111 f112 f113 f114 f115 f116 f117 f118 f119 f120 f121 f122 f123 f124 f125 f126 f127 f128 f129 f130 f131 f132 f133 f134 f135 f136 f137 f138 f139 f140 f141 f142 f143 f144 f145 f146 f147 f148 f149 f150 f151 f152 f153 f154 f155 f156 f157 f158 f159 f160 f161 f162 f163 f164 f165 f166 f167 f168 f169 f170 f171 f172 f173 f174 f175 ds rd I) m Q))
    (m : Nat) {v12 : Value} {h : Heap} {x57 x58 x59 x60 x61 x62 x63 x64 x65 x66 x67 x68 x69 x70 x71 : Value} (hi : I m v12 h) : RunC Try.prog T0 (.loop landfallref03_block_l1) ⟨[f0, f1, f2, f3, f4, f5, f6, f7, f8, f9, f10, f11, v12, f13, f14, f15, f16, f17, f18, f19, f20, f21, f22, f23, f24, f25, f26, f27, f28, f29, f30, f31, f32, f33, f34, f35, f36, f37, f38, f39, f40, f41, f42, f43, f44, f45, f46, f47, f48, f49, f50, f51, f52, f53, f54, f55, f56, x57, x58, x59, x60, x61, x62, x63, x64, x65, x66, x67, x68, x69, x70, x71, f72, f73, f74, f75, f76, f77, f78, f79, f80, f81, f82, f83, f84, f85, f86, f87, f88, f89, f90, f91, f92, f93, f94, f95, f96, f97, f98, f99, f100, f101, f102, f103, f104, f105, f106, f107, f108, f109, f110, f111, f112, f113, f114, f115, f116, f117, f118, f119, f120, f121, f122, f123, f124, f125, f126, f127, f128, f129, f130, f131, f132, f133, f134, f135, f136, f137, f138, f139, f140, f141, f142, f143, f144, f145, f146, f147, f148, f149, f150, f151, f152, f153, f154, f155, f156, f157, f158, f159, f160, f161, f162, f163, f164, f165, f166, f167, f168, f169, f170, f171, f172, f173, f174, f175], ds, h, rd⟩ Q :=
  RunC.loopJ (landfallref03_block_l1_J f0 f1 f2 f3 f4 f5 f6 f7 f8 f9 f10 f11 f13 f14 f15 f16 f17 f18 f19 f20 f21 f22 f23 f24 f25 f26 f27 f28 f29 f30 f31 f32 f33 f34 f35 f36 f37 f38 f39 f40 f41 f42 f43 f44 f45 f46 f47 f48 f49 f50 f51 f52 f53 f54 f55 f56 f72 f73 f74 f75 f76 f77 f78 f79 f80 f81 f82 f83 f84 f85 f86 f87 f88 f89 f90 f91 f92 f93 f94 f95 f96 f97 f98 f99 f100 f101 f102 f103 f104 f105 f106 f107 f108 f109 f110 f111 f112 f113 f114 f115 f116 f117 f118 f119 f120 f121 f122 f123 f124 f125 f126 f127 f128 f129 f130 f131 f132 f133 f134 f135 f136 f137 f138 f139 f140 f141 f142 f143 f144 f145 f146 f147 f148 f149 f150 f151 f152 f153 f154 f155 f156 f157 f158 f159 f160 f161 f162 f163 f164 f165 f166 f167 f168 f169 f170 f171 f172 f173 f174 f175 ds rd I) (fun m s hj => by obtain ⟨v12, h, x57, x58, x59, x60, x61, x62, x63, x64, x65, x66, x67, x68, x69, x70, x71, rfl, hi⟩ := hj; exact hb m v12 h x57 x58 x59 x60 x61 x62 x63 x64 x65 x66 x67 x68 x69 x70 x71 hi) m _ ⟨_, h, _, _, _, _, _, _, _, _, _, _, _, _, _, _, _, rfl, hi⟩
theorem landfallref03_block_l1_again {f0 f1 f2 f3 f4 f5 f6 f7 f8 f9 f10 f11 f13 f14 f15 f16 f17 f18 f19 f20 f21 f22 f23 f24 f25 f26 f27 f28 f29 f30 f31 f32 f33 f34 f35 f36 f37 f38 f39 f40 f41 f42 f43 f44 f45 f46 f47 f48 f49 f50 f51 f52 f53 f54 f55 f56 f72 f73 f74 f75 f76 f77 f78 f79 f80 f81 f82 f83 f84 f85 f86 f87 f88 f89 f90 f91 f92 f93 f94 f95 f96 f97 f98 f99 f100 f101 f102 f103 f104 f105 f106 f107 f108 f109 f110 f111 f112 f113 f114 f115 f116 f117 f118 f119 f120 f121 f122 f123 f124 f125 f126 f127 f128 f129 f130 f131 f132 f133 f134 f135 f136 f137 f138 f139 f140 f141 f142 f143 f144 f145 f146 f147 f148 f149 f150 f151 f152 f153 f154 f155 f156 f157 f158 f159 f160 f161 f162 f163 f164 f165 f166 f167 f168 f169 f170 f171 f172 f173 f174 f175 : Value} {ds : List Deferred} {rd : Option Nat} {Q : QP} {I : Nat → Value → Heap → Prop} {m : Nat} (m' : Nat) {v12 : Value} {h : Heap} {x57 x58 x59 x60 x61 x62 x63 x64 x65 x66 x67 x68 x69 x70 x71 : Value} (hm : m' < m) (hi : I m' v12 h) : loopQ (landfallref03_block_l1_J f0 f1 f2 f3 f4 f5 f6 f7 f8 f9 f10 f11 f13 f14 f15 f16 f17 f18 f19 f20 f21 f22 f23 f24 f25 f26 f27 f28 f29 f30 f31 f32 f33 f34 f35 f36 f37 f38 f39 f40 f41 f42 f43 f44 f45 f46 f47 f48 f49 f50 f51 f52 f53 f54 f55 f56 f72 f73 f74 f75 f76 f77 f78 f79 f80 f81 f82 f83 f84 f85 f86 f87 f88 f89 f90 f91 f92 f93 f94 f95 f96 f97 f98 f99 f100 f101 f102 f103 f104 f105 f106 f107 f108 f109 f110 f111 f112 f113 f114 f115 f116 f117 f118 f119 f120 f121 f122 f123 f124 f125 f126 f127 f128 f129 f130 f131 f132 f133 f134 f135 f136 f137 f138 f139 f140 f141 f142 f143 f144 f145 f146 f147 f148 f149 f150 f151 f152 f153 f154 f155 f156 f157 f158 f159 f160 f161 f162 f163 f164 f165 f166 f167 f168 f169 f170 f171 f172 f173 f174 f175 ds rd I) m Q .normal ⟨[f0, f1, f2, f3, f4, f5, f6, f7, f8, f9, f10, f11, v12, f13, f14, f15, f16, f17, f18, f19, f20, f21, f22, f23, f24, f25, f26, f27, f28, f29, f30, f31, f32, f33, f34, f35, f36, f37, f38, f39, f40, f41, f42, f43, f44, f45, f46, f47, f48, f49, f50, f51, f52, f53, f54, f55, f56, x57, x58, x59, x60, x61, x62, x63, x64, x65, x66, x67, x68, x69, x70, x71, f72, f73, f74, f75, f76, f77, f78, f79, f80, f81, f82, f83, f84, f85, f86, f87, f88, f89, f90, f91, f92, f93, f94, f95, f96, f97, f98, f99, f100, f101, f102, f103, f104, f105, f106, f107, f108, f109, f110, f111, f112, f113, f114, f115, f116, f117, f118, f119, f120, f121, f122, f123, f124, f125, f126, f127, f128, f129, f130, f131, f132, f133, f134, f135, f136, f137, f138, f139, f140, f141, f142, f143, f144, f145, f146, f147, f148, f149, f150, f151, f152, f153, f154, f155, f156, f157, f158, f159, f160, f161, f162, f163, f164, f165, f166, f167, f168, f169, f170, f171, f172, f173, f174, f175], ds, h, rd⟩ :=
  loopQ.again m' hm ⟨_, h, _, _, _, _, _, _, _, _, _, _, _, _, _, _, _, rfl, hi⟩
/-- the slots that turn in the loop: v15 -/
noncomputable def landfallref03_block_l2_J (f0 f1 f2 f3 f4 f5 f6 f7 f8 f9 f10 f11 f12 f13 f14 f16 f17 f18 f19 f20 f21 f22 f23 f24 f25 f26 f27 f28 f29 f30 f31 f32 f33 f34 f35 f36 f37 f38 f39 f40 f41 f42 f43 f44 f45 f46 f47 f48 f49 f50 f51 f52 f53 f54 f55 f56 f57 f58 f59 f60 f61 f62 f63 f64 f65 f66 f67 f68 f69 f70 f71 f72 f73 f74 f75 f76 f77 f78 f79 f80 f81 f82 f83 f84 f85 f86 f87 f88 f89 f90 f91 f92 f93 f94 f95 f96 f97 f124 f125 f126 f127 f128 f129 f130 f131 f132 f133 f134 f135 f136 f137 f138 f139 f140 f141 f142 f143 f144 f145 f146 f147 f148 f149 f150 f151 f152 f153 f154 f155 f156 f157 f158 f159 f160 f161 f162 f163 f164 f165 f166 f167 f168 f169 f170 f171 f172 f173 f174 f175 : Value) (ds : List Deferred) (rd : Option Nat) (I : Nat → Value → Heap → Prop) (m : Nat) (s : St) : Prop := ∃ (v15 : Value), ∃ h : Heap, ∃ (x98 x99 x100 x101 x102 x103 x104 x105 x106 x107 x108 x109 x110 x111 x112 x113 x114 x115 x116 x117 x118 x119 x120 x121 x122 x123 : Value), s = ⟨[f0, f1, f2, f3, f4, f5, f6, f7, f8, f9, f10, f11, f12, f13, f14, v15, f16, f17, f18, f19, f20, f21, f22, f23, f24, f25, f26, f27, f28, f29, f30, f31, f32, f33, f34, f35, f36, f37, f38, f39, f40, f41, f42, f43, f44, f45, f46, f47, f48, f49, f50, f51, f52, f53, f54, f55, f56, f57, f58, f59, f60, f61, f62, f63, f64, f65, f66, f67, f68, f69, f70, f71, f72, f73, f74, f75, f76, f77, f78, f79, f80, f81, f82, f83, f84, f85, f86, f87, f88, f89, f90, f91, f92, f93, f94, f95, f96, f97, x98, x99, x100, x101, x102, x103, x104, x105, x106, x107, x108, x109, x110, x111, x112, x113, x114, x115, x116, x117, x118, x119, x120, x121, x122, x123, f124, f125, f126, f127, f128, f129, f130, f131, f132, f133, f134, f135, f136, f137, f138, f139, f140, f141, f142, f143, f144, f145, f146, f147, f148, f149, f150, f151, f152, f153, f154, f155, f156, f157, f158, f159, f160, f161, f162, f163, f164, f165, f166, f167, f168, f169, f170, f171, f172, f173, f174, f175], ds, h, rd⟩ ∧ I m v15 h
theorem landfallref03_block_l2_rule {f0 f1 f2 f3 f4 f5 f6 f7 f8 f9 f10 f11 f12 f13 f14 f16 f17 f18 f19 f20 f21 f22 f23 f24 f25 f26 f27 f28 f29 f30 f31 f32 f33 f34 f35 f36 f37 f38 f39 f40 f41 f42 f43 f44 f45 f46 f47 f48 f49 f50 f51 f52 f53 f54 f55 f56 f57 f58 f59 f60 f61 f62 f63 f64 f65 f66 f67 f68 f69 f70 f71 f72 f73 f74 f75 f76 f77 f78 f79 f80 f81 f82 f83 f84 f85 f86 f87 f88 f89 f90 f91 f92 f93 f94 f95 f96 f97 f124 f125 f126 f127 f128 f129 f130 f131 f132 f133 f134 f135 f136 f137 f138 f139 f140 f141 f142 f143 f144 f145 f146 f147 f148 f149 f150 f151 f152 f153 f154 f155 f156 f157 f158 f159 f160 f161 f162 f163 f164 f165 f166 f167 f168 f169 f170 f171 f172 f173 f174 f175 : Value} {ds : List Deferred} {rd : Option Nat} {Q : QP} (I : Nat → Value → Heap → Prop) (hb : ∀ (m : Nat) (v15 : Value) (h : Heap) (x98 x99 x100 x101 x102 x103 x104 x105 x106 x107 x108 x109 x110 x111 x112 x113 x114 x115 x116 x117 x118 x119 x120 x121 x122 x123 : Value) , I m v15 h → RunC Try.prog T0 landfallref03_block_l2 ⟨[f0, f1, f2, f3, f4, f5, f6, f7, f8, f9, f10, f11, f12, f13, f14, v15, f16, f17, f18, f19, f20, f21, f22, f23, f24, f25, f26, f27, f28, f29, f30, f31, f32, f33, f34, f35, f36, f37, f38, f39, f40, f41, f42, f43, f44, f45, f46, f47, f48, f49, f50, f51, f52, f53, f54, f55, f56, f57, f58, f59, f60, f61, f62, f63, f64, f65, f66, f67, f68, f69, f70, f71, f72, f73, f74, f75, f76, f77, f78, f79, f80, f81, f82, f83, f84, f85, f86, f87, f88, f89, f90, f91, f92, f93, f94, f95, f96, f97, x98, x99, x100, x101, x102, x103, x104, x105, x106, x107, x108, x109, x110, x111, x112, x113, x114, x115, x116, x117, x118, x119, x120, x121, x122, x123, f124, f125, f126, f127, f128, f129, f130, f131, f132, f133, f134, f135, f136, f137, f138, f139, f140, f141, f142, f143, f144, f145, f146, f147, f148, f149, f150, f151, f152, f153, f154, f155, f156, f157, f158, f159, f160, f161, f162, f163, f164, f165, f166, f167, f168, f169, f170, f171, f172, f173, f174, f175], ds, h, rd⟩ (loopQ (landfallref03_block_l2_J f0 f1 f2 f3 f4 f5 f6 f7 f8 f9 f10 f11 f12 f13 f14 f16 f17 f18 f19 f20 f21 f22 f23 f24 f25 f26 f27 f28 f29 f30 f31 f32 f33 f34 f35 f36 f37 f38 f39 f40 f41 f42 f43 f44 f45 f46 f47 f48 f49 f50 f51 f52 f53 f54 f55 f56 f57 f58 f59 f60 f61 f62 f63 f64 f65 f66 f67 f68 f69 f70 f71 f72 f73 f74 f75 f76 f77 f78 f79 f80 f81 f82 f83 f84 f85 f86 f87 f88 f89 f90 f91 f92 f93 f94 f95 f96 f97 f124 f125 f126 f127 f128 f129 f130 f131 f132 f133 f134 f135 f136 f137 f138 f139 f140 f141 f142 f143 f144 f145 f146 f147 f148 f149 f150 f151 f152 f153 f154 f155 f156 f157 f158 f159 f160 f161 f162 f163 f164 f165 f166 f167 f168 f169 f170 f171 f172 f173 f174 f175 ds rd I) m Q))
    (m : Nat) {v15 : Value} {h : Heap} {x98 x99 x100 x101 x102 x103 x104 x105 x106 x107 x108 x109 x110 x111 x112 x113 x114 x115 x116 x117 x118 x119 x120 x121 x122 x123 : Value} (hi : I m v15 h) : RunC Try.prog T0 (.loop landfallref03_block_l2) ⟨[f0, f1, f2, f3, f4, f5, f6, f7, f8, f9, f10, f11, f12, f13, f14, v15, f16, f17, f18, f19, f20, f21, f22, f23, f24, f25, f26, f27, f28, f29, f30, f31, f32, f33, f34, f35, f36, f37, f38, f39, f40, f41, f42, f43, f44, f45, f46, f47, f48, f49, f50, f51, f52, f53, f54, f55, f56, f57, f58, f59, f60, f61, f62, f63, f64, f65, f66, f67, f68, f69, f70, f71, f72, f73, f74, f75, f76, f77, f78, f79, f80, f81, f82, f83, f84, f85, f86, f87, f88, f89, f90, f91, f92, f93, f94, f95, f96, f97, x98, x99, x100, x101, x102, x103, x104, x105, x106, x107, x108, x109, x110, x111, x112, x113, x114, x115, x116, x117, x118, x119, x120, x121, x122, x123, f124, f125, f126, f127, f128, f129, f130, f131, f132, f133, f134, f135, f136, f137, f138, f139, f140, f141, f142, f143, f144, f145, f146, f147, f148, f149, f150, f151, f152, f153, f154, f155, f156, f157, f158, f159, f160, f161, f162, f163, f164, f165, f166, f167, f168, f169, f170, f171, f172, f173, f174, f175], ds, h, rd⟩ Q :=
  RunC.loopJ (landfallref03_block_l2_J f0 f1 f2 f3 f4 f5 f6 f7 f8 f9 f10 f11 f12 f13 f14 f16 f17 f18 f19 f20 f21 f22 f23 f24 f25 f26 f27 f28 f29 f30 f31 f32 f33 f34 f35 f36 f37 f38 f39 f40 f41 f42 f43 f44 f45 f46 f47 f48 f49 f50 f51 f52 f53 f54 f55 f56 f57 f58 f59 f60 f61 f62 f63 f64 f65 f66 f67 f68 f69 f70 f71 f72 f73 f74 f75 f76 f77 f78 f79 f80 f81 f82 f83 f84 f85 f86 f87 f88 f89 f90 f91 f92 f93 f94 f95 f96 f97 f124 f125 f126 f127 f128 f129 f130 f131 f132 f133 f134 f135 f136 f137 f138 f139 f140 f141 f142 f143 f144 f145 f146 f147 f148 f149 f150 f151 f152 f153 f154 f155 f156 f157 f158 f159 f160 f161 f162 f163 f164 f165 f166 f167 f168 f169 f170 f171 f172 f173 f174 f175 ds rd I) (fun m s hj => by obtain ⟨v15, h, x98, x99, x100, x101, x102, x103, x104, x105, x106, x107, x108, x109, x110, x111, x112, x113, x114, x115, x116, x117, x118, x119, x120, x121, x122, x123, rfl, hi⟩ := hj; exact hb m v15 h x98 x99 x100 x101 x102 x103 x104 x105 x106 x107 x108 x109 x110 x111 x112 x113 x114 x115 x116 x117 x118 x119 x120 x121 x122 x123 hi) m _ ⟨_, h, _, _, _, _, _, _, _, _, _, _, _, _, _, _, _, _, _, _, _, _, _, _, _, _, _, _, rfl, hi⟩
theorem landfallref03_block_l2_again {f0 f1 f2 f3 f4 f5 f6 f7 f8 f9 f10 f11 f12 f13 f14 f16 f17 f18 f19 f20 f21 f22 f23 f24 f25 f26 f27 f28 f29 f30 f31 f32 f33 f34 f35 f36 f37 f38 f39 f40 f41 f42 f43 f44 f45 f46 f47 f48 f49 f50 f51 f52 f53 f54 f55 f56 f57 f58 f59 f60 f61 f62 f63 f64 f65 f66 f67 f68 f69 f70 f71 f72 f73 f74 f75 f76 f77 f78 f79 f80 f81 f82 f83 f84 f85 f86 f87 f88 f89 f90 f91 f92 f93 f94 f95 f96 f97 f124 f125 f126 f127 f128 f129 f130 f131 f132 f133 f134 f135 f136 f137 f138 f139 f140 f141 f142 f143 f144 f145 f146 f147 f148 f149 f150 f151 f152 f153 f154 f155 f156 f157 f158 f159 f160 f161 f162 f163 f164 f165 f166 f167 f168 f169 f170 f171 f172 f173 f174 f175 : Value} {ds : List Deferred} {rd : Option Nat} {Q : QP} {I : Nat → Value → Heap → Prop} {m : Nat} (m' : Nat) {v15 : Value} {h : Heap} {x98 x99 x100 x101 x102 x103 x104 x105 x106 x107 x108 x109 x110 x111 x112 x113 x114 x115 x116 x117 x118 x119 x120 x121 x122 x123 : Value} (hm : m' < m) (hi : I m' v15 h) : loopQ (landfallref03_block_l2_J f0 f1 f2 f3 f4 f5 f6 f7 f8 f9 f10 f11 f12 f13 f14 f16 f17 f18 f19 f20 f21 f22 f23 f24 f25 f26 f27 f28 f29 f30 f31 f32 f33 f34 f35 f36 f37 f38 f39 f40 f41 f42 f43 f44 f45 f46 f47 f48 f49 f50 f51 f52 f53 f54 f55 f56 f57 f58 f59 f60 f61 f62 f63 f64 f65 f66 f67 f68 f69 f70 f71 f72 f73 f74 f75 f76 f77 f78 f79 f80 f81 f82 f83 f84 f85 f86 f87 f88 f89 f90 f91 f92 f93 f94 f95 f96 f97 f124 f125 f126 f127 f128 f129 f130 f131 f132 f133 f134 f135 f136 f137 f138 f139 f140 f141 f142 f143 f144 f145 f146 f147 f148 f149 f150 f151 f152 f153 f154 f155 f156 f157 f158 f159 f160 f161 f162 f163 f164 f165 f166 f167 f168 f169 f170 f171 f172 f173 f174 f175 ds rd I) m Q .normal ⟨[f0, f1, f2, f3, f4, f5, f6, f7, f8, f9, f10, f11, f12, f13, f14, v15, f16, f17, f18, f19, f20, f21, f22, f23, f24, f25, f26, f27, f28, f29, f30, f31, f32, f33, f34, f35, f36, f37, f38, f39, f40, f41, f42, f43, f44, f45, f46, f47, f48, f49, f50, f51, f52, f53, f54, f55, f56, f57, f58, f59, f60, f61, f62, f63, f64, f65, f66, f67, f68, f69, f70, f71, f72, f73, f74, f75, f76, f77, f78, f79, f80, f81, f82, f83, f84, f85, f86, f87, f88, f89, f90, f91, f92, f93, f94, f95, f96, f97, x98, x99, x100, x101, x102, x103, x104, x105, x106, x107, x108, x109, x110, x111, x112, x113, x114, x115, x116, x117, x118, x119, x120, x121, x122, x123, f124, f125, f126, f127, f128, f129, f130, f131, f132, f133, f134, f135, f136, f137, f138, f139, f140, f141, f142, f143, f144, f145, f146, f147, f148, f149, f150, f151, f152, f153, f154, f155, f156, f157, f158, f159, f160, f161, f162, f163, f164, f165, f166, f167, f168, f169, f170, f171, f172, f173, f174, f175], ds, h, rd⟩ :=
  loopQ.again m' hm ⟨_, h, _, _, _, _, _, _, _, _, _, _, _, _, _, _, _, _, _, _, _, _, _, _, _, _, _, _, rfl, hi⟩
/-- the slots that turn in the loop: v16 -/
noncomputable def landfallref03_block_l3_J (f0 f1 f2 f3 f4 f5 f6 f7 f8 f9 f10 f11 f12 f13 f14 f15 f17 f18 f19 f20 f21 f22 f23 f24 f25 f26 f27 f28 f29 f30 f31 f32 f33 f34 f35 f36 f37 f38 f39 f40 f41 f42 f43 f44 f45 f46 f47 f48 f49 f50 f51 f52 f53 f54 f55 f56 f57 f58 f59 f60 f61 f62 f63 f64 f65 f66 f67 f68 f69 f70 f71 f72 f73 f74 f75 f76 f77 f78 f79 f80 f81 f82 f83 f84 f85 f86 f87 f88 f89 f90 f91 f92 f93 f94 f95 f96 f97 f98 f99 f100 f101 f102 f103 f104 f105 f106 f107 f108 f109 f110 f111 f112 f113 f114 f115 f116 f117 f118 f119 f120 f121 f122 f123 f157 f158 f159 f160 f161 f162 f163 f164 f165 f166 f167 f168 f169 f170 f171 f172 f173 f174 f175 : Value) (ds : List Deferred) (rd : Option Nat) (I : Nat → Value → Heap → Prop) (m : Nat) (s : St) : Prop := ∃ (v16 : Value), ∃ h : Heap, ∃ (x124 x125 x126 x127 x128 x129 x130 x131 x132 x133 x134 x135 x136 x137 x138 x139 x140 x141 x142 x143 x144 x145 x146 x147 x148 x149 x150 x151 x152 x153 x154 x155 x156 : Value), s = ⟨[f0, f1, f2, f3, f4, f5, f6, f7, f8, f9, f10, f11, f12, f13, f14, f15, v16, f17, f18, f19, f20, f21, f22, f23, f24, f25, f26, f27, f28, f29, f30, f31, f32, f33, f34, f35, f36, f37, f38, f39, f40, f41, f42, f43, f44, f45, f46, f47, f48, f49, f50, f51, f52, f53, f54, f55, f56, f57, f58, f59, f60, f61, f62, f63, f64, f65, f66, f67, f68, f69, f70, f71, f72, f73, f74, f75, f76, f77, f78, f79, f80, f81, f82, f83, f84, f85, f86, f87, f88, f89, f90, f91, f92, f93, f94, f95, f96, f97, f98, f99, f100, f101, f102, f103, f104, f105, f106, f107, f108, f109, f110, f111, f112, f113, f114, f115, f116, f117, f118, f119, f120, f121, f122, f123, x124, x125, x126, x127, x128, x129, x130, x131, x132, x133, x134, x135, x136, x137, x138, x139, x140, x141, x142, x143, x144, x145, x146, x147, x148, x149, x150, x151, x152, x153, x154, x155, x156, f157, f158, f159, f160, f161, f162, f163, f164, f165, f166, f167, f168, f169, f170, f171, f172, f173, f174, f175], ds, h, rd⟩ ∧ I m v16 h
theorem landfallref03_block_l3_rule {f0 f1 f2 f3 f4 f5 f6 f7 f8 f9 f10 f11 f12 f13 f14 f15 f17 f18 f19 f20 f21 f22 f23 f24 f25 f26 f27 f28 f29 f30 f31 f32 f33 f34 f35 f36 f37 f38 f39 f40 f41 f42 f43 f44 f45 f46 f47 f48 f49 f50 f51 f52 f53 f54 f55 f56 f57 f58 f59 f60 f61 f62 f63 f64 f65 f66 f67 f68 f69 f70 f71 f72 f73 f74 f75 f76 f77 f78 f79 f80 f81 f82 f83 f84 f85 f86 f87 f88 f89 f90 f91 f92 f93 f94 f95 f96 f97 f98 f99 f100 f101 f102 f103 f104 f105 f106 f107 f108 f109 f110 f111 f112 f113 f114 f115 f116 f117 f118 f119 f120 f121 f122 f123 f157 f158 f159 f160 f161 f162 f163 f164 f165 f166 f167 f168 f169 f170 f171 f172 f173 f174 f175 : Value} {ds : List Deferred} {rd : Option Nat} {Q : QP} (I : Nat → Value → Heap → Prop) (hb : ∀ (m : Nat) (v16 : Value) (h : Heap) (x124 x125 x126 x127 x128 x129 x130 x131 x132 x133 x134 x135 x136 x137 x138 x139 x140 x141 x142 x143 x144 x145 x146 x147 x148 x149 x150 x151 x152 x153 x154 x155 x156 : Value) , I m v16 h → RunC Try.prog T0 landfallref03_block_l3 ⟨[f0, f1, f2, f3, f4, f5, f6, f7, f8, f9, f10, f11, f12, f13, f14, f15, v16, f17, f18, f19, f20, f21, f22, f23, f24, f25, f26, f27, f28, f29, f30, f31, f32, f33, f34, f35, f36, f37, f38, f39, f40, f41, f42, f43, f44, f45, f46, f47, f48, f49, f50, f51, f52, f53, f54, f55, f56, f57, f58, f59, f60, f61, f62, f63, f64, f65, f66, f67, f68, f69, f70, f71, f72, f73, f74, f75, f76, f77, f78, f79, f80, f81, f82, f83, f84, f85, f86, f87, f88, f89, f90, f91, f92, f93, f94, f95, f96, f97, f98, f99, f100, f101, f102, f103, f104, f105, f106, f107, f108, f109, f110, f111, f112, f113, f114, f115, f116, f117, f118, f119, f120, f121, f122, f123, x124, x125, x126, x127, x128, x129, x130, x131, x132, x133, x134, x135, x136, x137, x138, x139, x140, x141, x142, x143, x144, x145, x146, x147, x148, x149, x150, x151, x152, x153, x154, x155, x156, f157, f158, f159, f160, f161, f162, f163, f164, f165, f166, f167, f168, f169, f170, f171, f172, f173, f174, f175], ds, h, rd⟩ (loopQ (landfallref03_block_l3_J f0 f1 f2 f3 f4 f5 f6 f7 f8 f9 f10 f11 f12 f13 f14 f15 f17 f18 f19 f20 f21 f22 f23 f24 f25 f26 f27 f28 f29 f30 f31 f32 f33 f34 f35 f36 f37 f38 f39 f40 f41 f42 f43 f44 f45 f46 f47 f48 f49 f50 f51 f52 f53 f54 f55 f56 f57 f58 f59 f60 f61 f62 f63 f64 f65 f66 f67 f68 f69 f70 f71 f72 f73 f74 f75 f76 f77 f78 f79 f80 f81 f82 f83 f84 f85 f86 f87 f88 f89 f90 f91 f92 f93 f94 f95 f96 f97 f98 f99 f100 f101 f102 f103 f104 f105 f106 f107 f108 f109 f110 f111 f112 f113 f114 f115 f116 f117 f118 f119 f120 f121 f122 f123 f157 f158 f159 f160 f161 f162 f163 f164 f165 f166 f167 f168 f169 f170 f171 f172 f173 f174 f175 ds rd I) m Q))
    (m : Nat) {v16 : Value} {h : Heap} {x124 x125 x126 x127 x128 x129 x130 x131 x132 x133 x134 x135 x136 x137 x138 x139 x140 x141 x142 x143 x144 x145 x146 x147 x148 x149 x150 x151 x152 x153 x154 x155 x156 : Value} (hi : I m v16 h) : RunC Try.prog T0 (.loop landfallref03_block_l3) ⟨[f0, f1, f2, f3, f4, f5, f6, f7, f8, f9, f10, f11, f12, f13, f14, f15, v16, f17, f18, f19, f20, f21, f22, f23, f24, f25, f26, f27, f28, f29, f30, f31, f32, f33, f34, f35, f36, f37, f38, f39, f40, f41, f42, f43, f44, f45, f46, f47, f48, f49, f50, f51, f52, f53, f54, f55, f56, f57, f58, f59, f60, f61, f62, f63, f64, f65, f66, f67, f68, f69, f70, f71, f72, f73, f74, f75, f76, f77, f78, f79, f80, f81, f82, f83, f84, f85, f86, f87, f88, f89, f90, f91, f92, f93, f94, f95, f96, f97, f98, f99, f100, f101, f102, f103, f104, f105, f106, f107, f108, f109, f110, f111, f112, f113, f114, f115, f116, f117, f118, f119, f120, f121, f122, f123, x124, x125, x126, x127, x128, x129, x130, x131, x132, x133, x134, x135, x136, x137, x138, x139, x140, x141, x142, x143, x144, x145, x146, x147, x148, x149, x150, x151, x152, x153, x154, x155, x156, f157, f158, f159, f160, f161, f162, f163, f164, f165, f166, f167, f168, f169, f170, f171, f172, f173, f174, f175], ds, h, rd⟩ Q :=
  RunC.loopJ (landfallref03_block_l3_J f0 f1 f2 f3 f4 f5 f6 f7 f8 f9 f10 f11 f12 f13 f14 f15 f17 f18 f19 f20 f21 f22 f23 f24 f25 f26 f27 f28 f29 f30 f31 f32 f33 f34 f35 f36 f37 f38 f39 f40 f41 f42 f43 f44 f45 f46 f47 f48 f49 f50 f51 f52 f53 f54 f55 f56 f57 f58 f59 f60 f61 f62 f63 f64 f65 f66 f67 f68 f69 f70 f71 f72 f73 f74 f75 f76 f77 f78 f79 f80 f81 f82 f83 f84 f85 f86 f87 f88 f89 f90 f91 f92 f93 f94 f95 f96 f97 f98 f99 f100 f101 f102 f103 f104 f105 f106 f107 f108 f109 f110 f111 f112 f113 f114 f115 f116 f117 f118 f119 f120 f121 f122 f123 f157 f158 f159 f160 f161 f162 f163 f164 f165 f166 f167 f168 f169 f170 f171 f172 f173 f174 f175 ds rd I) (fun m s hj => by obtain ⟨v16, h, x124, x125, x126, x127, x128, x129, x130, x131, x132, x133, x134, x135, x136, x137, x138, x139, x140, x141, x142, x143, x144, x145, x146, x147, x148, x149, x150, x151, x152, x153, x154, x155, x156, rfl, hi⟩ := hj; exact hb m v16 h x124 x125 x126 x127 x128 x129 x130 x131 x132 x133 x134 x135 x136 x137 x138 x139 x140 x141 x142 x143 x144 x145 x146 x147 x148 x149 x150 x151 x152 x153 x154 x155 x156 hi) m _ ⟨_, h, _, _, _, _, _, _, _, _, _, _, _, _, _, _, _, _, _, _, _, _, _, _, _, _, _, _, _, _, _, _, _, _, _, rfl, hi⟩
theorem landfallref03_block_l3_again {f0 f1 f2 f3 f4 f5 f6 f7 f8 f9 f10 f11 f12 f13 f14 f15 f17 f18 f19 f20 f21 f22 f23 f24 f25 f26 f27 f28 f29 f30 f31 f32 f33 f34 f35 f36 f37 f38 f39 f40 f41 f42 f43 f44 f45 f46 f47 f48 f49 f50 f51 f52 f53 f54 f55 f56 f57 f58 f59 f60 f61 f62 f63 f64 f65 f66 f67 f68 f69 f70 f71 f72 f73 f74 f75 f76 f77 f78 f79 f80 f81 f82 f83 f84 f85 f86 f87 f88 f89 f90 f91 f92 f93 f94 f95 f96 f97 f98 f99 f100 f101 f102 f103 f104 f105 f106 f107 f108 f109 f110 f111 f112 f113 f114 f115 f116 f117 f118 f119 f120 f121 f122 f123 f157 f158 f159 f160 f161 f162 f163 f164 f165 f166 f167 f168 f169 f170 f171 f172 f173 f174 f175 : Value} {ds : List Deferred} {rd : Option Nat} {Q : QP} {I : Nat → Value → Heap → Prop} {m : Nat} (m' : Nat) {v16 : Value} {h : Heap} {x124 x125 x126 x127 x128 x129 x130 x131 x132 x133 x134 x135 x136 x137 x138 x139 x140 x141 x142 x143 x144 x145 x146 x147 x148 x149 x150 x151 x152 x153 x154 x155 x156 : Value} (hm : m' < m) (hi : I m' v16 h) : loopQ (landfallref03_block_l3_J f0 f1 f2 f3 f4 f5 f6 f7 f8 f9 f10 f11 f12 f13 f14 f15 f17 f18 f19 f20 f21 f22 f23 f24 f25 f26 f27 f28 f29 f30 f31 f32 f33 f34 f35 f36 f37 f38 f39 f40 f41 f42 f43 f44 f45 f46 f47 f48 f49 f50 f51 f52 f53 f54 f55 f56 f57 f58 f59 f60 f61 f62 f63 f64 f65 f66 f67 f68 f69 f70 f71 f72 f73 f74 f75 f76 f77 f78 f79 f80 f81 f82 f83 f84 f85 f86 f87 f88 f89 f90 f91 f92 f93 f94 f95 f96 f97 f98 f99 f100 f101 f102 f103 f104 f105 f106 f107 f108 f109 f110 f111 f112 f113 f114 f115 f116 f117 f118 f119 f120 f121 f122 f123 f157 f158 f159 f160 f161 f162 f163 f164 f165 f166 f167 f168 f169 f170 f171 f172 f173 f174 f175 ds rd I) m Q .normal ⟨[f0, f1, f2, f3, f4, f5, f6, f7, f8, f9, f10, f11, f12, f13, f14, f15, v16, f17, f18, f19, f20, f21, f22, f23, f24, f25, f26, f27, f28, f29, f30, f31, f32, f33, f34, f35, f36, f37, f38, f39, f40, f41, f42, f43, f44, f45, f46, f47, f48, f49, f50, f51, f52, f53, f54, f55, f56, f57, f58, f59, f60, f61, f62, f63, f64, f65, f66, f67, f68, f69, f70, f71, f72, f73, f74, f75, f76, f77, f78, f79, f80, f81, f82, f83, f84, f85, f86, f87, f88, f89, f90, f91, f92, f93, f94, f95, f96, f97, f98, f99, f100, f101, f102, f103, f104, f105, f106, f107, f108, f109, f110, f111, f112, f113, f114, f115, f116, f117, f118, f119, f120, f121, f122, f123, x124, x125, x126, x127, x128, x129, x130, x131, x132, x133, x134, x135, x136, x137, x138, x139, x140, x141, x142, x143, x144, x145, x146, x147, x148, x149, x150, x151, x152, x153, x154, x155, x156, f157, f158, f159, f160, f161, f162, f163, f164, f165, f166, f167, f168, f169, f170, f171, f172, f173, f174, f175], ds, h, rd⟩ :=
  loopQ.again m' hm ⟨_, h, _, _, _, _, _, _, _, _, _, _, _, _, _, _, _, _, _, _, _, _, _, _, _, _, _, _, _, _, _, _, _, _, _, rfl, hi⟩
/-- the slots that turn in the loop: v13 -/
noncomputable def landfallref03_block_l4_J (f0 f1 f2 f3 f4 f5 f6 f7 f8 f9 f10 f11 f12 f17 f18 f19 f20 f21 f22 f23 f24 f25 f26 f27 f28 f29 f30 f31 f32 f33 f34 f35 f36 f37 f38 f39 f40 f41 f42 f43 f44 f45 f46 f47 f48 f49 f50 f51 f52 f53 f54 f55 f56 f57 f58 f59 f60 f61 f62 f63 f64 f65 f66 f67 f68 f69 f70 f71 f72 f73 f74 f75 f76 f77 f78 f79 f80 f81 f82 f83 f84 f85 f86 f87 f88 f89 f90 f91 f157 f158 f159 f160 f161 f162 f163 f164 f165 f166 f167 f168 f169 f170 f171 f172 f173 f174 f175 : Value) (ds : List Deferred) (rd : Option Nat) (I : Nat → Value → Heap → Prop) (m : Nat) (s : St) : Prop := ∃ (v13 : Value), ∃ h : Heap, ∃ (x14 x15 x16 x92 x93 x94 x95 x96 x97 x98 x99 x100 x101 x102 x103 x104 x105 x106 x107 x108 x109 x110 x111 x112 x113 x114 x115 x116 x117 x118 x119 x120 x121 x122 x123 x124 x125 x126 x127 x128 x129 x130 x131 x132 x133 x134 x135 x136 x137 x138 x139 x140 x141 x142 x143 x144 x145 x146 x147 x148 x149 x150 x151 x152 x153 x154 x155 x156 : Value), s = ⟨[f0, f1, f2, f3, f4, f5, f6, f7, f8, f9, f10, f11, f12, v13, x14, x15, x16, f17, f18, f19, f20, f21, f22, f23, f24, f25, f26, f27, f28, f29, f30, f31, f32, f33, f34, f35, f36, f37, f38, f39, f40, f41, f42, f43, f44, f45, f46, f47, f48, f49, f50, f51, f52, f53, f54, f55, f56, f57, f58, f59, f60, f61, f62, f63, f64, f65, f66, f67, f68, f69, f70, f71, f72, f73, f74, f75, f76, f77, f78, f79, f80, f81, f82, f83, f84, f85, f86, f87, f88, f89, f90, f91, x92, x93, x94, x95, x96, x97, x98, x99, x100, x101, x102, x103, x104, x105, x106, x107, x108, x109, x110, x111, x112, x113, x114, x115, x116, x117, x118, x119, x120, x121, x122, x123, x124, x125, x126, x127, x128, x129, x130, x131, x132, x133, x134, x135, x136, x137, x138, x139, x140, x141, x142, x143, x144, x145, x146, x147, x148, x149, x150, x151, x152, x153, x154, x155, x156, f157, f158, f159, f160, f161, f162, f163, f164, f165, f166, f167, f168, f169, f170, f171, f172, f173, f174, f175], ds, h, rd⟩ ∧ I m v13 h
theorem landfallref03_block_l4_rule {f0 f1 f2 f3 f4 f5 f6 f7 f8 f9 f10 f11 f12 f17 f18 f19 f20 f21 f22 f23 f24 f25 f26 f27 f28 f29 f30 f31 f32 f33 f34 f35 f36 f37 f38 f39 f40 f41 f42 f43 f44 f45 f46 f47 f48 f49 f50 f51 f52 f53 f54 f55 f56 f57 f58 f59 f60 f61 f62 f63 f64 f65 f66 f67 f68 f69 f70 f71 f72 f73 f74 f75 f76 f77 f78 f79 f80 f81 f82 f83 f84 f85 f86 f87 f88 f89 f90 f91 f157 f158 f159 f160 f161 f162 f163 f164 f165 f166 f167 f168 f169 f170 f171 f172 f173 f174 f175 : Value} {ds : List Deferred} {rd : Option Nat} {Q : QP} (I : Nat → Value → Heap → Prop) (hb : ∀ (m : Nat) (v13 : Value) (h : Heap) (x14 x15 x16 x92 x93 x94 x95 x96 x97 x98 x99 x100 x101 x102 x103 x104 x105 x106 x107 x108 x109 x110 x111 x112 x113 x114 x115 x116 x117 x118 x119 x120 x121 x122 x123 x124 x125 x126 x127 x128 x129 x130 x131 x132 x133 x134 x135 x136 x137 x138 x139 x140 x141 x142 x143 x144 x145 x146 x147 x148 x149 x150 x151 x152 x153 x154 x155 x156 : Value) , I m v13 h → RunC Try.prog T0 landfallref03_block_l4 ⟨[f0, f1, f2, f3, f4, f5, f6, f7, f8, f9, f10, f11, f12, v13, x14, x15, x16, f17, f18, f19, f20, f21, f22, f23, f24, f25, f26, f27, f28, f29, f30, f31, f32, f33, f34, f35, f36, f37, f38, f39, f40, f41, f42, f43, f44, f45, f46, f47, f48, f49, f50, f51, f52, f53, f54, f55, f56, f57, f58, f59, f60, f61, f62, f63, f64, f65, f66, f67, f68, f69, f70, f71, f72, f73, f74, f75, f76, f77, f78, f79, f80, f81, f82, f83, f84, f85, f86, f87, f88, f89, f90, f91, x92, x93, x94, x95, x96, x97, x98, x99, x100, x101, x102, x103, x104, x105, x106, x107, x108, x109, x110, x111, x112, x113, x114, x115, x116, x117, x118, x119, x120, x121, x122, x123, x124, x125, x126, x127, x128, x129, x130, x131, x132, x133, x134, x135, x136, x137, x138, x139, x140, x141, x142, x143, x144, x145, x146, x147, x148, x149, x150, x151, x152, x153, x154, x155, x156, f157, f158, f159, f160, f161, f162, f163, f164, f165, f166, f167, f168, f169, f170, f171, f172, f173, f174, f175], ds, h, rd⟩ (loopQ (landfallref03_block_l4_J f0 f1 f2 f3 f4 f5 f6 f7 f8 f9 f10 f11 f12 f17 f18 f19 f20 f21 f22 f23 f24 f25 f26 f27 f28 f29 f30 f31 f32 f33 f34 f35 f36 f37 f38 f39 f40 f41 f42 f43 f44 f45 f46 f47 f48 f49 f50 f51 f52 f53 f54 f55 f56 f57 f58 f59 f60 f61 f62 f63 f64 f65 f66 f67 f68 f69 f70 f71 f72 f73 f74 f75 f76 f77 f78 f79 f80 f81 f82 f83 f84 f85 f86 f87 f88 f89 f90 f91 f157 f158 f159 f160 f161 f162 f163 f164 f165 f166 f167 f168 f169 f170 f171 f172 f173 f174 f175 ds rd I) m Q))
    (m : Nat) {v13 : Value} {h : Heap} {x14 x15 x16 x92 x93 x94 x95 x96 x97 x98 x99 x100 x101 x102 x103 x104 x105 x106 x107 x108 x109 x110 x111 x112 x113 x114 x115 x116 x117 x118 x119 x120 x121 x122 x123 x124 x125 x126 x127 x128 x129 x130 x131 x132 x133 x134 x135 x136 x137 x138 x139 x140 x141 x142 x143 x144 x145 x146 x147 x148 x149 x150 x151 x152 x153 x154 x155 x156 : Value} (hi : I m v13 h) : RunC Try.prog T0 (.loop landfallref03_block_l4) ⟨[f0, f1, f2, f3, f4, f5, f6, f7, f8, f9, f10, f11, f12, v13, x14, x15, x16, f17, f18, f19, f20, f21, f22, f23, f24, f25, f26, f27, f28, f29, f30, f31, f32, f33, f34, f35, f36, f37, f38, f39, f40, f41, f42, f43, f44, f45, f46, f47, f48, f49, f50, f51, f52, f53, f54, f55, f56, f57, f58, f59, f60, f61, f62, f63, f64, f65, f66, f67, f68, f69, f70, f71, f72, f73, f74, f75, f76, f77, f78, f79, f80, f81, f82, f83, f84, f85, f86, f87, f88, f89, f90, f91, x92, x93, x94, x95, x96, x97, x98, x99, x100, x101, x102, x103, x104, x105, x106, x107, x108, x109, x110, x111, x112, x113, x114, x115, x116, x117, x118, x119, x120, x121, x122, x123, x124, x125, x126, x127, x128, x129, x130, x131, x132, x133, x134, x135, x136, x137, x138, x139, x140, x141, x142, x143, x144, x145, x146, x147, x148, x149, x150, x151, x152, x153, x154, x155, x156, f157, f158, f159, f160, f161, f162, f163, f164, f165, f166, f167, f168, f169, f170, f171, f172, f173, f174, f175], ds, h, rd⟩ Q :=
  RunC.loopJ (landfallref03_block_l4_J f0 f1 f2 f3 f4 f5 f6 f7 f8 f9 f10 f11 f12 f17 f18 f19 f20 f21 f22 f23 f24 f25 f26 f27 f28 f29 f30 f31 f32 f33 f34 f35 f36 f37 f38 f39 f40 f41 f42 f43 f44 f45 f46 f47 f48 f49 f50 f51 f52 f53 f54 f55 f56 f57 f58 f59 f60 f61 f62 f63 f64 f65 f66 f67 f68 f69 f70 f71 f72 f73 f74 f75 f76 f77 f78 f79 f80 f81 f82 f83 f84 f85 f86 f87 f88 f89 f90 f91 f157 f158 f159 f160 f161 f162 f163 f164 f165 f166 f167 f168 f169 f170 f171 f172 f173 f174 f175 ds rd I) (fun m s hj => by obtain ⟨v13, h, x14, x15, x16, x92, x93, x94, x95, x96, x97, x98, x99, x100, x101, x102, x103, x104, x105, x106, x107, x108, x109, x110, x111, x112, x113, x114, x115, x116, x117, x118, x119, x120, x121, x122, x123, x124, x125, x126, x127, x128, x129, x130, x131, x132, x133, x134, x135, x136, x137, x138, x139, x140, x141, x142, x143, x144, x145, x146, x147, x148, x149, x150, x151, x152, x153, x154, x155, x156, rfl, hi⟩ := hj; exact hb m v13 h x14 x15 x16 x92 x93 x94 x95 x96 x97 x98 x99 x100 x101 x102 x103 x104 x105 x106 x107 x108 x109 x110 x111 x112 x113 x114 x115 x116 x117 x118 x119 x120 x121 x122 x123 x124 x125 x126 x127 x128 x129 x130 x131 x132 x133 x134 x135 x136 x137 x138 x139 x140 x141 x142 x143 x144 x145 x146 x147 x148 x149 x150 x151 x152 x153 x154 x155 x156 hi) m _ ⟨_, h, _, _, _, _, _, _, _, _, _, _, _, _, _, _, _, _, _, _, _, _, _, _, _, _, _, _, _, _, _, _, _, _, _, _, _, _, _, _, _, _, _, _, _, _, _, _, _, _, _, _, _, _, _, _, _, _, _, _, _, _, _, _, _, _, _, _, _, _, rfl, hi⟩
theorem landfallref03_block_l4_again {f0 f1 f2 f3 f4 f5 f6 f7 f8 f9 f10 f11 f12 f17 f18 f19 f20 f21 f22 f23 f24 f25 f26 f27 f28 f29 f30 f31 f32 f33 f34 f35 f36 f37 f38 f39 f40 f41 f42 f43 f44 f45 f46 f47 f48 f49 f50 f51 f52 f53 f54 f55 f56 f57 f58 f59 f60 f61 f62 f63 f64 f65 f66 f67 f68 f69 f70 f71 f72 f73 f74 f75 f76 f77 f78 f79 f80 f81 f82 f83 f84 f85 f86 f87 f88 f89 f90 f91 f157 f158 f159 f160 f161 f162 f163 f164 f165 f166 f167 f168 f169 f170 f171 f172 f173 f174 f175 : Value} {ds : List Deferred} {rd : Option Nat} {Q : QP} {I : Nat → Value → Heap → Prop} {m : Nat} (m' : Nat) {v13 : Value} {h : Heap} {x14 x15 x16 x92 x93 x94 x95 x96 x97 x98 x99 x100 x101 x102 x103 x104 x105 x106 x107 x108 x109 x110 x111 x112 x113 x114 x115 x116 x117 x118 x119 x120 x121 x122 x123 x124 x125 x126 x127 x128 x129 x130 x131 x132 x133 x134 x135 x136 x137 x138 x139 x140 x141 x142 x143 x144 x145 x146 x147 x148 x149 x150 x151 x152 x153 x154 x155 x156 : Value} (hm : m' < m) (hi : I m' v13 h) : loopQ (landfallref03_block_l4_J f0 f1 f2 f3 f4 f5 f6 f7 f8 f9 f10 f11 f12 f17 f18 f19 f20 f21 f22 f23 f24 f25 f26 f27 f28 f29 f30 f31 f32 f33 f34 f35 f36 f37 f38 f39 f40 f41 f42 f43 f44 f45 f46 f47 f48 f49 f50 f51 f52 f53 f54 f55 f56 f57 f58 f59 f60 f61 f62 f63 f64 f65 f66 f67 f68 f69 f70 f71 f72 f73 f74 f75 f76 f77 f78 f79 f80 f81 f82 f83 f84 f85 f86 f87 f88 f89 f90 f91 f157 f158 f159 f160 f161 f162 f163 f164 f165 f166 f167 f168 f169 f170 f171 f172 f173 f174 f175 ds rd I) m Q .normal ⟨[f0, f1, f2, f3, f4, f5, f6, f7, f8, f9, f10, f11, f12, v13, x14, x15, x16, f17, f18, f19, f20, f21, f22, f23, f24, f25, f26, f27, f28, f29, f30, f31, f32, f33, f34, f35, f36, f37, f38, f39, f40, f41, f42, f43, f44, f45, f46, f47, f48, f49, f50, f51, f52, f53, f54, f55, f56, f57, f58, f59, f60, f61, f62, f63, f64, f65, f66, f67, f68, f69, f70, f71, f72, f73, f74, f75, f76, f77, f78, f79, f80, f81, f82, f83, f84, f85, f86, f87, f88, f89, f90, f91, x92, x93, x94, x95, x96, x97, x98, x99, x100, x101, x102, x103, x104, x105, x106, x107, x108, x109, x110, x111, x112, x113, x114, x115, x116, x117, x118, x119, x120, x121, x122, x123, x124, x125, x126, x127, x128, x129, x130, x131, x132, x133, x134, x135, x136, x137, x138, x139, x140, x141, x142, x143, x144, x145, x146, x147, x148, x149, x150, x151, x152, x153, x154, x155, x156, f157, f158, f159, f160, f161, f162, f163, f164, f165, f166, f167, f168, f169, f170, f171, f172, f173, f174, f175], ds, h, rd⟩ :=
  loopQ.again m' hm ⟨_, h, _, _, _, _, _, _, _, _, _, _, _, _, _, _, _, _, _, _, _, _, _, _, _, _, _, _, _, _, _, _, _, _, _, _, _, _, _, _, _, _, _, _, _, _, _, _, _, _, _, _, _, _, _, _, _, _, _, _, _, _, _, _, _, _, _, _, _, _, rfl, hi⟩
/-- the slots that turn in the loop: v17 -/
noncomputable def landfallref03_block_l5_J (f0 f1 f2 f3 f4 f5 f6 f7 f8 f9 f10 f11 f12 f13 f14 f15 f16 f18 f19 f20 f21 f22 f23 f24 f25 f26 f27 f28 f29 f30 f31 f32 f33 f34 f35 f36 f37 f38 f39 f40 f41 f42 f43 f44 f45 f46 f47 f48 f49 f50 f51 f52 f53 f54 f55 f56 f57 f58 f59 f60 f61 f62 f63 f64 f65 f66 f67 f68 f69 f70 f71 f72 f73 f74 f75 f76 f77 f78 f79 f80 f81 f82 f83 f84 f85 f86 f87 f88 f89 f90 f91 f92 f93 f94 f95 f96 f97 f98 f99 f100 f101 f102 f103 f104 f105 f106 f107 f108 f109 f110 f111 f112 f113 f114 f115 f116 f117 f118 f119 f120 f121 f122 f123 f124 f125 f126 f127 f128 f129 f130 f131 f132 f133 f134 f135 f136 f137 f138 f139 f140 f141 f142 f143 f144 f145 f146 f147 f148 f149 f150 f151 f152 f153 f154 f155 f156 f175 : Value) (ds : List Deferred) (rd : Option Nat) (I : Nat → Value → Heap → Prop) (m : Nat) (s : St) : Prop := ∃ (v17 : Value), ∃ h : Heap, ∃ (x157 x158 x159 x160 x161 x162 x163 x164 x165 x166 x167 x168 x169 x170 x171 x172 x173 x174 : Value), s = ⟨[f0, f1, f2, f3, f4, f5, f6, f7, f8, f9, f10, f11, f12, f13, f14, f15, f16, v17, f18, f19, f20, f21, f22, f23, f24, f25, f26, f27, f28, f29, f30, f31, f32, f33, f34, f35, f36, f37, f38, f39, f40, f41, f42, f43, f44, f45, f46, f47, f48, f49, f50, f51, f52, f53, f54, f55, f56, f57, f58, f59, f60, f61, f62, f63, f64, f65, f66, f67, f68, f69, f70, f71, f72, f73, f74, f75, f76, f77, f78, f79, f80, f81, f82, f83, f84, f85, f86, f87, f88, f89, f90, f91, f92, f93, f94, f95, f96, f97, f98, f99, f100, f101, f102, f103, f104, f105, f106, f107, f108, f109, f110, f111, f112, f113, f114, f115, f116, f117, f118, f119, f120, f121, f122, f123, f124, f125, f126, f127, f128, f129, f130, f131, f132, f133, f134, f135, f136, f137, f138, f139, f140, f141, f142, f143, f144, f145, f146, f147, f148, f149, f150, f151, f152, f153, f154, f155, f156, x157, x158, x159, x160, x161, x162, x163, x164, x165, x166, x167, x168, x169, x170, x171, x172, x173, x174, f175], ds, h, rd⟩ ∧ I m v17 h
theorem landfallref03_block_l5_rule {f0 f1 f2 f3 f4 f5 f6 f7 f8 f9 f10 f11 f12 f13 f14 f15 f16 f18 f19 f20 f21 f22 f23 f24 f25 f26 f27 f28 f29 f30 f31 f32 f33 f34 f35 f36 f37 f38 f39 f40 f41 f42 f43 f44 f45 f46 f47 f48 f49 f50 f51 f52 f53 f54 f55 f56 f57 f58 f59 f60 f61 f62 f63 f64 f65 f66 f67 f68 f69 f70 f71 f72 f73 f74 f75 f76 f77 f78 f79 f80 f81 f82 f83 f84 f85 f86 f87 f88 f89 f90 f91 f92 f93 f94 f95 f96 f97 f98 f99 f100 f101 f102 f103 f104 f105 f106 f107 f108 f109 f110 f111 f112 f113 f114 f115 f116 f117 f118 f119 f120 f121 f122 f123 f124 f125 f126 f127 f128 f129 f130 f131 f132 f133 f134 f135 f136 f137 f138 f139 f140 f141 f142 f143 f144 f145 f146 f147 f148 f149 f150 f151 f152 f153 f154 f155 f156 f175 : Value} {ds : List Deferred} {rd : Option Nat} {Q : QP} (I : Nat → Value → Heap → Prop) (hb : ∀ (m : Nat) (v17 : Value) (h : Heap) (x157 x158 x159 x160 x161 x162 x163 x164 x165 x166 x167 x168 x169 x170 x171 x172 x173 x174 : Value) , I m v17 h → RunC Try.prog T0 landfallref03_block_l5 ⟨[f0, f1, f2, f3, f4, f5, f6, f7, f8, f9, f10, f11, f12, f13, f14, f15, f16, v17, f18, f19, f20, f21, f22, f23, f24, f25, f26, f27, f28, f29, f30, f31, f32, f33, f34, f35, f36, f37, f38, f39, f40, f41, f42, f43, f44, f45, f46, f47, f48, f49, f50, f51, f52, f53, f54, f55, f56, f57, f58, f59, f60, f61, f62, f63, f64, f65, f66, f67, f68, f69, f70, f71, f72, f73, f74, f75, f76, f77, f78, f79, f80, f81, f82, f83, f84, f85, f86, f87, f88, f89, f90, f91, f92, f93, f94, f95, f96, f97, f98, f99, f100, f101, f102, f103, f104, f105, f106, f107, f108, f109, f110, f111, f112, f113, f114, f115, f116, f117, f118, f119, f120, f121, f122, f123, f124, f125, f126, f127, f128, f129, f130, f131, f132, f133, f134, f135, f136, f137, f138, f139, f140, f141, f142, f143, f144, f145, f146, f147, f148, f149, f150, f151, f152, f153, f154, f155, f156, x157, x158, x159, x160, x161, x162, x163, x164, x165, x166, x167, x168, x169, x170, x171, x172, x173, x174, f175], ds, h, rd⟩ (loopQ (landfallref03_block_l5_J f0 f1 f2 f3 f4 f5 f6 f7 f8 f9 f10 f11 f12 f13 f14 f15 f16 f18 f19 f20 f21 f22 f23 f24 f25 f26 f27 f28 f29 f30 f31 f32 f33 f34 f35 f36 f37 f38 f39 f40 f41 f42 f43 f44 f45 f46 f47 f48 f49 f50 f51 f52 f53 f54 f55 f56 f57 f58 f59 f60 f61 f62 f63 f64 f65 f66 f67 f68 f69 f70 f71 f72 f73 f74 f75 f76 f77 f78 f79 f80 f81 f82 f83 f84 f85 f86 f87 f88 f89 f90 f91 f92 f93 f94 f95 f96 f97 f98 f99 f100 f101 f102 f103 f104 f105 f106 f107 f108 f109 f110 f111 f112 f113 f114 f115 f116 f117 f118 f119 f120 f121 f122 f123 f124 f125 f126 f127 f128 f129 f130 f131 f132 f133 f134 f135 f136 f137 f138 f139 f140 f141 f142 f143 f144 f145 f146 f147 f148 f149 f150 f151 f152 f153 f154 f155 f156 f175 ds rd I) m Q))
    (m : Nat) {v17 : Value} {h : Heap} {x157 x158 x159 x160 x161 x162 x163 x164 x165 x166 x167 x168 x169 x170 x171 x172 x173 x174 : Value} (hi : I m v17 h) : RunC Try.prog T0 (.loop landfallref03_block_l5) ⟨[f0, f1, f2, f3, f4, f5, f6, f7, f8, f9, f10, f11, f12, f13, f14, f15, f16, v17, f18, f19, f20, f21, f22, f23, f24, f25, f26, f27, f28, f29, f30, f31, f32, f33, f34, f35, f36, f37, f38, f39, f40, f41, f42, f43, f44, f45, f46, f47, f48, f49, f50, f51, f52, f53, f54, f55, f56, f57, f58, f59, f60, f61, f62, f63, f64, f65, f66, f67, f68, f69, f70, f71, f72, f73, f74, f75, f76, f77, f78, f79, f80, f81, f82, f83, f84, f85, f86, f87, f88, f89, f90, f91, f92, f93, f94, f95, f96, f97, f98, f99, f100, f101, f102, f103, f104, f105, f106, f107, f108, f109, f110, f111, f112, f113, f114, f115, f116, f117, f118, f119, f120, f121, f122, f123, f124, f125, f126, f127, f128, f129, f130, f131, f132, f133, f134, f135, f136, f137, f138, f139, f140, f141, f142, f143, f144, f145, f146, f147, f148, f149, f150, f151, f152, f153, f154, f155, f156, x157, x158, x159, x160, x161, x162, x163, x164, x165, x166, x167, x168, x169, x170, x171, x172, x173, x174, f175], ds, h, rd⟩ Q :=
  RunC.loopJ (landfallref03_block_l5_J f0 f1 f2 f3 f4 f5 f6 f7 f8 f9 f10 f11 f12 f13 f14 f15 f16 f18 f19 f20 f21 f22 f23 f24 f25 f26 f27 f28 f29 f30 f31 f32 f33 f34 f35 f36 f37 f38 f39 f40 f41 f42 f43 f44 f45 f46 f47 f48 f49 f50 f51 f52 f53 f54 f55 f56 f57 f58 f59 f60 f61 f62 f63 f64 f65 f66 f67 f68 f69 f70 f71 f72 f73 f74 f75 f76 f77 f78 f79 f80 f81 f82 f83 f84 f85 f86 f87 f88 f89 f90 f91 f92 f93 f94 f95 f96 f97 f98 f99 f100 f101 f102 f103 f104 f105 f106 f107 f108 f109 f110 f111 f112 f113 f114 f115 f116 f117 f118 f119 f120 f121 f122 f123 f124 f125 f126 f127 f128 f129 f130 f131 f132 f133 f134 f135 f136 f137 f138 f139 f140 f141 f142 f143 f144 f145 f146 f147 f148 f149 f150 f151 f152 f153 f154 f155 f156 f175 ds rd I) (fun m s hj => by obtain ⟨v17, h, x157, x158, x159, x160, x161, x162, x163, x164, x165, x166, x167, x168, x169, x170, x171, x172, x173, x174, rfl, hi⟩ := hj; exact hb m v17 h x157 x158 x159 x160 x161 x162 x163 x164 x165 x166 x167 x168 x169 x170 x171 x172 x173 x174 hi) m _ ⟨_, h, _, _, _, _, _, _, _, _, _, _, _, _, _, _, _, _, _, _, rfl, hi⟩
theorem landfallref03_block_l5_again {f0 f1 f2 f3 f4 f5 f6 f7 f8 f9 f10 f11 f12 f13 f14 f15 f16 f18 f19 f20 f21 f22 f23 f24 f25 f26 f27 f28 f29 f30 f31 f32 f33 f34 f35 f36 f37 f38 f39 f40 f41 f42 f43 f44 f45 f46 f47 f48 f49 f50 f51 f52 f53 f54 f55 f56 f57 f58 f59 f60 f61 f62 f63 f64 f65 f66 f67 f68 f69 f70 f71 f72 f73 f74 f75 f76 f77 f78 f79 f80 f81 f82 f83 f84 f85 f86 f87 f88 f89 f90 f91 f92 f93 f94 f95 f96 f97 f98 f99 f100 f101 f102 f103 f104 f105 f106 f107 f108 f109 f110 f111 f112 f113 f114 f115 f116 f117 f118 f119 f120 f121 f122 f123 f124 f125 f126 f127 f128 f129 f130 f131 f132 f133 f134 f135 f136 f137 f138 f139 f140 f141 f142 f143 f144 f145 f146 f147 f148 f149 f150 f151 f152 f153 f154 f155 f156 f175 : Value} {ds : List Deferred} {rd : Option Nat} {Q : QP} {I : Nat → Value → Heap → Prop} {m : Nat} (m' : Nat) {v17 : Value} {h : Heap} {x157 x158 x159 x160 x161 x162 x163 x164 x165 x166 x167 x168 x169 x170 x171 x172 x173 x174 : Value} (hm : m' < m) (hi : I m' v17 h) : loopQ (landfallref03_block_l5_J f0 f1 f2 f3 f4 f5 f6 f7 f8 f9 f10 f11 f12 f13 f14 f15 f16 f18 f19 f20 f21 f22 f23 f24 f25 f26 f27 f28 f29 f30 f31 f32 f33 f34 f35 f36 f37 f38 f39 f40 f41 f42 f43 f44 f45 f46 f47 f48 f49 f50 f51 f52 f53 f54 f55 f56 f57 f58 f59 f60 f61 f62 f63 f64 f65 f66 f67 f68 f69 f70 f71 f72 f73 f74 f75 f76 f77 f78 f79 f80 f81 f82 f83 f84 f85 f86 f87 f88 f89 f90 f91 f92 f93 f94 f95 f96 f97 f98 f99 f100 f101 f102 f103 f104 f105 f106 f107 f108 f109 f110 f111 f112 f113 f114 f115 f116 f117 f118 f119 f120 f121 f122 f123 f124 f125 f126 f127 f128 f129 f130 f131 f132 f133 f134 f135 f136 f137 f138 f139 f140 f141 f142 f143 f144 f145 f146 f147 f148 f149 f150 f151 f152 f153 f154 f155 f156 f175 ds rd I) m Q .normal ⟨[f0, f1, f2, f3, f4, f5, f6, f7, f8, f9, f10, f11, f12, f13, f14, f15, f16, v17, f18, f19, f20, f21, f22, f23, f24, f25, f26, f27, f28, f29, f30, f31, f32, f33, f34, f35, f36, f37, f38, f39, f40, f41, f42, f43, f44, f45, f46, f47, f48, f49, f50, f51, f52, f53, f54, f55, f56, f57, f58, f59, f60, f61, f62, f63, f64, f65, f66, f67, f68, f69, f70, f71, f72, f73, f74, f75, f76, f77, f78, f79, f80, f81, f82, f83, f84, f85, f86, f87, f88, f89, f90, f91, f92, f93, f94, f95, f96, f97, f98, f99, f100, f101, f102, f103, f104, f105, f106, f107, f108, f109, f110, f111, f112, f113, f114, f115, f116, f117, f118, f119, f120, f121, f122, f123, f124, f125, f126, f127, f128, f129, f130, f131, f132, f133, f134, f135, f136, f137, f138, f139, f140, f141, f142, f143, f144, f145, f146, f147, f148, f149, f150, f151, f152, f153, f154, f155, f156, x157, x158, x159, x160, x161, x162, x163, x164, x165, x166, x167, x168, x169, x170, x171, x172, x173, x174, f175], ds, h, rd⟩ :=
  loopQ.again m' hm ⟨_, h, _, _, _, _, _, _, _, _, _, _, _, _, _, _, _, _, _, _, rfl, hi⟩

/-! 76 landfall/blake.begin -/
abbrev fn_blake_begin : FuncId := 76
noncomputable def blake_begin_c : ACode :=
  (.seq (.region [
      ⟨(some 0), .alloc 105 [(.int .u32 0), (.int .u32 0), (.int .u32 0), (.int .u32 0), (.int .u32 0), (.int .u32 0), (.int .u32 0), (.int .u32 0)], none, [], false⟩]) (.seq (.region [
      ⟨(some 1), .build [(.int .u32 0), (.int .u32 0), (.int .u32 0), (.int .u32 0), (.int .u32 0), (.int .u32 0), (.int .u32 0), (.int .u32 0)] [(0, 1, (.const (.int .u32 1779033703))), (1, 1, (.const (.int .u32 3144134277))), (2, 1, (.const (.int .u32 1013904242))), (3, 1, (.const (.int .u32 2773480762))), (4, 1, (.const (.int .u32 1359893119))), (5, 1, (.const (.int .u32 2600822924))), (6, 1, (.const (.int .u32 528734635))), (7, 1, (.const (.int .u32 1541459225)))], none, [], false⟩,
      ⟨none, .store 8 (.tmp 0) (.tmp 1), none, [], false⟩]) .ret))
noncomputable def blake_begin : AFunc := ⟨2, [(0, some (some 8))], blake_begin_c, none⟩
theorem blake_begin_t0 : tableOf Try.prog 76 = some blake_begin := by kernel_rfl
theorem blake_begin_t : T0 76 = some blake_begin := withKept_t rfl (withTrue_t rfl blake_begin_t0)
theorem blake_begin_runs {v : Value} {h : Heap} {R : RP} {X : XP} (k : RunC Try.prog T0 blake_begin_c ⟨[undef, undef], [], h, none⟩ (bodyQ Try.prog T0 [(0, some (some 8))] R X)) :
    Runs Try.prog T0 (.fn 76) [] h R X := Runs.fn blake_begin_t rfl k


/-! 77 (*landfall/blake.State).none -/
abbrev fn_blake_State_none : FuncId := 77
noncomputable def blake_State_none_c : ACode :=
  (.seq (.region [
      ⟨(some 2), .mov (.const (.bool false)), none, [], false⟩]) (.seq (.region [
      ⟨(some 3), .mov (.tmp 0), none, [], false⟩,
      ⟨(some 4), .eq .ptr false (so (.binOp .eql 81 (.tmp 3) (.const (.pointer none)) 81) 4) (.tmp 3) (.const (.pointer none)), none, [], false⟩,
      ⟨(some 5), .mov (.tmp 4), none, [], false⟩,
      ⟨(some 6), .mov (.tmp 0), (some (5, false)), [], false⟩,
      ⟨(some 7), .nilCheck (.tmp 6), (some (5, false)), [], false⟩,
      ⟨(some 8), .fieldAddr 0 (.tmp 7), (some (5, false)), [], false⟩,
      ⟨(some 9), .load none (.tmp 8), (some (5, false)), [], false⟩,
      ⟨(some 10), .eq .ptr false (so (.binOp .eql 107 (.tmp 9) (.const (.pointer none)) 107) 4) (.tmp 9) (.const (.pointer none)), (some (5, false)), [], false⟩,
      ⟨(some 11), .pick (.tmp 5) (.const (.bool true)) (.tmp 10), none, [], false⟩,
      ⟨(some 2), .mov (.tmp 11), none, [], false⟩]) .ret))
noncomputable def blake_State_none : AFunc := ⟨12, [(2, none)], blake_State_none_c, none⟩
theorem blake_State_none_t0 : tableOf Try.prog 77 = some blake_State_none := by kernel_rfl
theorem blake_State_none_t : T0 77 = some blake_State_none := withKept_t rfl (withTrue_t rfl blake_State_none_t0)
theorem blake_State_none_runs {v0 : Value} {h : Heap} {R : RP} {X : XP} (k : RunC Try.prog T0 blake_State_none_c ⟨[v0, undef, undef, undef, undef, undef, undef, undef, undef, undef, undef, undef], [], h, none⟩ (bodyQ Try.prog T0 [(2, none)] R X)) :
    Runs Try.prog T0 (.fn 77) [v0] h R X := Runs.fn blake_State_none_t rfl k


/-! 78 (*landfall/blake.counter).take -/
abbrev fn_blake_counter_take : FuncId := 78
noncomputable def blake_counter_take_c : ACode :=
  (.region [
      ⟨(some 4), .mov (.tmp 0), none, [], false⟩,
      ⟨(some 5), .nilCheck (.tmp 4), none, [], false⟩,
      ⟨(some 6), .fieldAddr 0 (.tmp 5), none, [], false⟩,
      ⟨(some 7), .load none (.tmp 6), none, [], false⟩,
      ⟨(some 8), .mov (.tmp 1), none, [], false⟩,
      ⟨(some 9), .bin .add (so (.binOp .add 3 (.tmp 7) (.tmp 8) 3) 3) (.tmp 7) (.tmp 8), none, [], false⟩,
      ⟨(some 10), .nilCheck (.tmp 4), none, [], false⟩,
      ⟨(some 11), .fieldAddr 0 (.tmp 10), none, [], false⟩,
      ⟨none, .store 1 (.tmp 11) (.tmp 9), none, [], false⟩])
noncomputable def blake_counter_take : AFunc := ⟨12, [], blake_counter_take_c, none⟩
theorem blake_counter_take_t0 : tableOf Try.prog 78 = some blake_counter_take := by kernel_rfl
theorem blake_counter_take_t : T0 78 = some blake_counter_take := withKept_t rfl (withTrue_t rfl blake_counter_take_t0)
theorem blake_counter_take_runs {v0 v1 : Value} {h : Heap} {R : RP} {X : XP} (k : RunC Try.prog T0 blake_counter_take_c ⟨[v0, v1, undef, undef, undef, undef, undef, undef, undef, undef, undef, undef], [], h, none⟩ (bodyQ Try.prog T0 [] R X)) :
    Runs Try.prog T0 (.fn 78) [v0, v1] h R X := Runs.fn blake_counter_take_t rfl k


end Go.Proofs.Ytcapkoclbmaahaa.A
