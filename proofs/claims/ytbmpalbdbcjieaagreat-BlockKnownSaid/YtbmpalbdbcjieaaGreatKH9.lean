/- Functions of the program, as the machine has them: written by a program of mine (GenVm.lean), each held against the given program by the kernel. -/
import Derived.Test.YtbmpalbdbcjieaaGreatRows
import Derived.Test.YtbmpalbdbcjieaaGreatVK
set_option maxRecDepth 100000
set_option linter.unusedVariables false
namespace Go.Proofs.YtbmpalbdbcjieaaGreat.K
open Go Go.Vm

abbrev ty_internal_abi_BoundsErrorCode : TypeId := 6
abbrev ty_runtime_boundsError : TypeId := 8
abbrev ty_runtime_errorString : TypeId := 10
abbrev ty_runtime_plainError : TypeId := 11
abbrev ty_runtime_errorAddressString : TypeId := 14
abbrev ty_internal_runtime_maps_unhashableTypeError : TypeId := 19
abbrev ty_api_Hash : TypeId := 23
abbrev ty_api_Header : TypeId := 25
abbrev ty_api_Commit : TypeId := 31
abbrev ty_api_Block : TypeId := 33
abbrev ty_api_Errno : TypeId := 34
abbrev ty_api_Fault : TypeId := 44
abbrev ty_api_Key : TypeId := 64
abbrev ty_api_Validator : TypeId := 66
abbrev ty_landfallref04_Reader : TypeId := 83
abbrev ty_iter_Seq_api_Errno_ : TypeId := 91
abbrev ty_api_Vote : TypeId := 109
abbrev ty_wire_Reader : TypeId := 115
abbrev ty_wire_Writer : TypeId := 137
abbrev ty_vals_look : TypeId := 143
abbrev ty_landfallref04_Writer : TypeId := 147
abbrev ty_header_rule : TypeId := 168
abbrev ty_blake_words : TypeId := 189
abbrev ty_blake_counter : TypeId := 193
abbrev ty_blake_State : TypeId := 195
abbrev ty_wire_wrong : TypeId := 203
abbrev ty_blake_four : TypeId := 211
abbrev ty_runtime_TypeAssertionError : TypeId := 222
abbrev ty_runtime_PanicNilError : TypeId := 225
abbrev ty_internal_abi_TFlag : TypeId := 226
abbrev ty_internal_abi_Kind : TypeId := 227
abbrev ty_internal_abi_NameOff : TypeId := 230
abbrev ty_internal_abi_TypeOff : TypeId := 231
abbrev ty_internal_abi_Type : TypeId := 233
instance : IsIface Tryz.prog 20 := ⟨by kernel_rfl⟩
/-- functions that are known to come to true -/
abbrev prims : List FuncId := [7]
abbrev kepts : List FuncId := []
noncomputable def T0 : Table := holed Tryz.prog prims
instance : IsBoolT Tryz.prog 4 := ⟨by kernel_rfl⟩

/-! 77 landfall/blake.Sum -/
abbrev fn_blake_Sum : FuncId := 77
noncomputable def blake_Sum_c : ACode :=
  (.seq (.region [
      ⟨(some 2), .alloc 23 z32, none, [], false⟩]) (.seq (.region [
      ⟨(some 6), .callV (.func 124) [], none, [], false⟩,
      ⟨(some 3), .mov (.tmp 6), none, [], false⟩]) (.seq (.region [
      ⟨(some 7), .mov (.tmp 3), none, [], false⟩,
      ⟨(some 8), .mov (.tmp 0), none, [], false⟩,
      ⟨(some 9), .callV (.func 125) [(.tmp 7), (.tmp 8)], none, [], false⟩]) (.seq (.region [
      ⟨(some 11), .mov (.tmp 3), none, [], false⟩,
      ⟨(some 12), .callV (.func 126) [(.tmp 11)], none, [], false⟩,
      ⟨(some 10), .mov (.tmp 12), none, [], false⟩,
      ⟨(some 13), .extract 0 (.tmp 10), none, [], false⟩,
      ⟨(some 14), .extract 1 (.tmp 10), none, [], false⟩,
      ⟨(some 4), .alloc 23 z32, none, [], false⟩,
      ⟨none, .store 32 (.tmp 4) (.tmp 13), none, [], false⟩,
      ⟨(some 5), .mov (.tmp 14), none, [], false⟩]) (.seq (.region [
      ⟨(some 15), .load (some 32) (.tmp 4), none, [], false⟩,
      ⟨none, .store 32 (.tmp 2) (.tmp 15), none, [], false⟩]) .ret)))))
noncomputable def blake_Sum : AFunc := ⟨16, [(2, some (some 32))], blake_Sum_c, none⟩
theorem blake_Sum_t0 : tableOf Tryz.prog 77 = some blake_Sum := by kernel_rfl
theorem blake_Sum_t : T0 77 = some blake_Sum := holed_t rfl blake_Sum_t0
theorem blake_Sum_runs {v0 : Value} {h : Heap} {R : RP} {X : XP} (k : RunC Tryz.prog T0 blake_Sum_c ⟨[v0, undef, undef, undef, undef, undef, undef, undef, undef, undef, undef, undef, undef, undef, undef, undef], [], h, none⟩ (bodyQ Tryz.prog T0 [(2, some (some 32))] R X)) :
    Runs Tryz.prog T0 (.fn 77) [v0] h R X := Runs.fn blake_Sum_t rfl k


/-! 80 slices.Clone[[]byte,byte] -/
abbrev fn_slices_Clone___byte_byte_ : FuncId := 80
noncomputable def slices_Clone___byte_byte__c : ACode :=
  (.seq (.region [
      ⟨(some 2), .mov (.const (.slice none 0 0)), none, [], false⟩]) (.seq (.seq (.region [
      ⟨(some 3), .mov (.tmp 0), none, [], false⟩,
      ⟨(some 4), .eq .slice false (so (.binOp .eql 41 (.tmp 3) (.const (.slice none 0 0)) 41) 4) (.tmp 3) (.const (.slice none 0 0)), none, [], false⟩]) (.cond (.tmp 4)
    (.seq (.region [
      ⟨(some 2), .mov (.const (.slice none 0 0)), none, [], false⟩]) .ret)
    .skip)) (.seq (.region [
      ⟨(some 5), .buildSlice 5 [] 0 [], none, [], false⟩,
      ⟨(some 6), .mov (.tmp 0), none, [], false⟩,
      ⟨(some 7), .append 5 1 1 [(.int .u8 0)] false (.tmp 5) (.tmp 6), none, [], false⟩,
      ⟨(some 2), .mov (.tmp 7), none, [], false⟩]) .ret)))
noncomputable def slices_Clone___byte_byte_ : AFunc := ⟨8, [(2, none)], slices_Clone___byte_byte__c, none⟩
theorem slices_Clone___byte_byte__t0 : tableOf Tryz.prog 80 = some slices_Clone___byte_byte_ := by kernel_rfl
theorem slices_Clone___byte_byte__t : T0 80 = some slices_Clone___byte_byte_ := holed_t rfl slices_Clone___byte_byte__t0
theorem slices_Clone___byte_byte__runs {v0 : Value} {h : Heap} {R : RP} {X : XP} (k : RunC Tryz.prog T0 slices_Clone___byte_byte__c ⟨[v0, undef, undef, undef, undef, undef, undef, undef], [], h, none⟩ (bodyQ Tryz.prog T0 [(2, none)] R X)) :
    Runs Tryz.prog T0 (.fn 80) [v0] h R X := Runs.fn slices_Clone___byte_byte__t rfl k


/-! 124 landfall/blake.New -/
abbrev fn_blake_New : FuncId := 124
noncomputable def blake_New_c : ACode :=
  (.seq (.region [
      ⟨(some 0), .mov (.const (.pointer none)), none, [], false⟩]) (.seq (.region [
      ⟨(some 2), .callV (.func 158) [], none, [], false⟩,
      ⟨(some 1), .alloc 189 [(.int .u32 0), (.int .u32 0), (.int .u32 0), (.int .u32 0), (.int .u32 0), (.int .u32 0), (.int .u32 0), (.int .u32 0)], none, [], false⟩,
      ⟨none, .store 8 (.tmp 1) (.tmp 2), none, [], false⟩]) (.seq (.region [
      ⟨(some 3), .indexArr 8 1 (.tmp 1) (.const (.int .i64 0)), none, [], false⟩,
      ⟨(some 4), .load none (.tmp 3), none, [], false⟩,
      ⟨(some 5), .bin .xor (so (.binOp .xor 151 (.tmp 4) (.const (.int .u32 16842784)) 151) 151) (.tmp 4) (.const (.int .u32 16842784)), none, [], false⟩,
      ⟨(some 6), .indexArr 8 1 (.tmp 1) (.const (.int .i64 0)), none, [], false⟩,
      ⟨none, .store 1 (.tmp 6) (.tmp 5), none, [], false⟩]) (.seq (.region [
      ⟨(some 7), .build [(.int .i64 0)] [], none, [], false⟩,
      ⟨(some 8), .box 193 (.tmp 7), none, [], false⟩,
      ⟨(some 9), .load (some 8) (.tmp 1), none, [], false⟩,
      ⟨(some 10), .build [(.pointer none), (.int .u32 0), (.int .u32 0), (.int .u32 0), (.int .u32 0), (.int .u32 0), (.int .u32 0), (.int .u32 0), (.int .u32 0), (.slice none 0 0)] [(0, 1, (.tmp 8)), (1, 8, (.tmp 9))], none, [], false⟩,
      ⟨(some 11), .box 195 (.tmp 10), none, [], false⟩,
      ⟨(some 0), .mov (.tmp 11), none, [], false⟩]) .ret))))
noncomputable def blake_New : AFunc := ⟨12, [(0, none)], blake_New_c, none⟩
theorem blake_New_t0 : tableOf Tryz.prog 124 = some blake_New := by kernel_rfl
theorem blake_New_t : T0 124 = some blake_New := holed_t rfl blake_New_t0
theorem blake_New_runs {v : Value} {h : Heap} {R : RP} {X : XP} (k : RunC Tryz.prog T0 blake_New_c ⟨[undef, undef, undef, undef, undef, undef, undef, undef, undef, undef, undef, undef], [], h, none⟩ (bodyQ Tryz.prog T0 [(0, none)] R X)) :
    Runs Tryz.prog T0 (.fn 124) [] h R X := Runs.fn blake_New_t rfl k


/-! 125 (*landfall/blake.State).Write -/
abbrev fn_blake_State_Write : FuncId := 125
noncomputable def blake_State_Write_l0 : ACode :=
  (.seq (.seq (.region [
      ⟨(some 16), .mov (.tmp 0), none, [], false⟩,
      ⟨(some 17), .nilCheck (.tmp 16), none, [], false⟩,
      ⟨(some 18), .fieldAddr 9 (.tmp 17), none, [], false⟩,
      ⟨(some 19), .load none (.tmp 18), none, [], false⟩,
      ⟨(some 20), .lenSl (.tmp 19), none, [], false⟩,
      ⟨(some 21), .bin .gtr (so (.binOp .gtr 3 (.tmp 20) (.const (.int .i64 64)) 3) 4) (.tmp 20) (.const (.int .i64 64)), none, [], false⟩]) (.cond (.tmp 21)
    .skip
    (.exit 0))) (.block 1 (.seq (.region [
      ⟨(some 22), .mov (.tmp 0), none, [], false⟩,
      ⟨(some 23), .nilCheck (.tmp 22), none, [], false⟩,
      ⟨(some 24), .fieldAddr 0 (.tmp 23), none, [], false⟩,
      ⟨(some 25), .load none (.tmp 24), none, [], false⟩,
      ⟨(some 26), .callV (.func 160) [(.tmp 25), (.const (.int .i64 64))], none, [], false⟩]) (.seq (.regionD [
      ⟨(some 27), .mov (.tmp 0), none, [], false⟩,
      ⟨(some 28), .nilCheck (.tmp 27), none, [], false⟩,
      ⟨(some 29), .fieldAddr 1 (.tmp 28), none, [], false⟩,
      ⟨(some 30), .mov (.tmp 0), none, [], false⟩,
      ⟨(some 31), .nilCheck (.tmp 30), none, [], false⟩,
      ⟨(some 32), .fieldAddr 9 (.tmp 31), none, [], false⟩,
      ⟨(some 33), .load none (.tmp 32), none, [], false⟩,
      ⟨(some 34), .sliceSl 1 (.tmp 33) none (some (.const (.int .i64 64))) none, none, [], false⟩,
      ⟨(some 35), .mov (.tmp 0), none, [], false⟩,
      ⟨(some 36), .nilCheck (.tmp 35), none, [], false⟩,
      ⟨(some 37), .fieldAddr 0 (.tmp 36), none, [], false⟩,
      ⟨(some 38), .load none (.tmp 37), none, [], false⟩,
      ⟨(some 39), .nilCheck (.tmp 38), none, [], false⟩,
      ⟨(some 40), .fieldAddr 0 (.tmp 39), none, [], false⟩,
      ⟨(some 41), .load none (.tmp 40), none, [], false⟩,
      ⟨(some 42), .callV (.func 161) [(.tmp 29), (.tmp 34), (.tmp 41), (.const (.bool false))], none, [], true⟩]) (.region [
      ⟨(some 43), .mov (.tmp 0), none, [], false⟩,
      ⟨(some 44), .mov (.tmp 0), none, [], false⟩,
      ⟨(some 45), .nilCheck (.tmp 44), none, [], false⟩,
      ⟨(some 46), .fieldAddr 9 (.tmp 45), none, [], false⟩,
      ⟨(some 47), .load none (.tmp 46), none, [], false⟩,
      ⟨(some 48), .sliceSl 1 (.tmp 47) (some (.const (.int .i64 64))) none none, none, [], false⟩,
      ⟨(some 49), .nilCheck (.tmp 43), none, [], false⟩,
      ⟨(some 50), .fieldAddr 9 (.tmp 49), none, [], false⟩,
      ⟨none, .store 1 (.tmp 50) (.tmp 48), none, [], false⟩])))))
noncomputable def blake_State_Write_c : ACode :=
  (.seq (.region [
      ⟨(some 4), .mov (.const (.int .i64 0)), none, [], false⟩]) (.seq (.seq (.region [
      ⟨(some 5), .mov (.tmp 0), none, [], false⟩,
      ⟨(some 6), .callV (.func 159) [(.tmp 5)], none, [], false⟩]) (.cond (.tmp 6)
    (.seq (.region [
      ⟨(some 4), .mov (.const (.int .i64 1)), none, [], false⟩]) .ret)
    .skip)) (.seq (.region [
      ⟨(some 7), .mov (.tmp 0), none, [], false⟩,
      ⟨(some 8), .mov (.tmp 0), none, [], false⟩,
      ⟨(some 9), .nilCheck (.tmp 8), none, [], false⟩,
      ⟨(some 10), .fieldAddr 9 (.tmp 9), none, [], false⟩,
      ⟨(some 11), .load none (.tmp 10), none, [], false⟩,
      ⟨(some 12), .mov (.tmp 1), none, [], false⟩,
      ⟨(some 13), .append 5 1 1 [(.int .u8 0)] false (.tmp 11) (.tmp 12), none, [], false⟩,
      ⟨(some 14), .nilCheck (.tmp 7), none, [], false⟩,
      ⟨(some 15), .fieldAddr 9 (.tmp 14), none, [], false⟩,
      ⟨none, .store 1 (.tmp 15) (.tmp 13), none, [], false⟩]) (.seq (.block 0 (.loop blake_State_Write_l0)) (.seq (.region [
      ⟨(some 4), .mov (.const (.int .i64 0)), none, [], false⟩]) .ret)))))
noncomputable def blake_State_Write : AFunc := ⟨51, [(4, none)], blake_State_Write_c, none⟩
theorem blake_State_Write_t0 : tableOf Tryz.prog 125 = some blake_State_Write := by kernel_rfl
theorem blake_State_Write_t : T0 125 = some blake_State_Write := holed_t rfl blake_State_Write_t0
theorem blake_State_Write_runs {v0 v1 : Value} {h : Heap} {R : RP} {X : XP} (k : RunC Tryz.prog T0 blake_State_Write_c ⟨[v0, v1, undef, undef, undef, undef, undef, undef, undef, undef, undef, undef, undef, undef, undef, undef, undef, undef, undef, undef, undef, undef, undef, undef, undef, undef, undef, undef, undef, undef, undef, undef, undef, undef, undef, undef, undef, undef, undef, undef, undef, undef, undef, undef, undef, undef, undef, undef, undef, undef, undef], [], h, none⟩ (bodyQ Tryz.prog T0 [(4, none)] R X)) :
    Runs Tryz.prog T0 (.fn 125) [v0, v1] h R X := Runs.fn blake_State_Write_t rfl k
/-- the slots that turn in the loop:  -/
noncomputable def blake_State_Write_l0_J (f0 f1 f2 f3 f4 f5 f6 f7 f8 f9 f10 f11 f12 f13 f14 f15 : Value) (ds : List Deferred) (rd : Option Nat) (I : Nat → Heap → Prop) (m : Nat) (s : St) : Prop := ∃ h : Heap, ∃ (x16 x17 x18 x19 x20 x21 x22 x23 x24 x25 x26 x27 x28 x29 x30 x31 x32 x33 x34 x35 x36 x37 x38 x39 x40 x41 x42 x43 x44 x45 x46 x47 x48 x49 x50 : Value), s = ⟨[f0, f1, f2, f3, f4, f5, f6, f7, f8, f9, f10, f11, f12, f13, f14, f15, x16, x17, x18, x19, x20, x21, x22, x23, x24, x25, x26, x27, x28, x29, x30, x31, x32, x33, x34, x35, x36, x37, x38, x39, x40, x41, x42, x43, x44, x45, x46, x47, x48, x49, x50], ds, h, rd⟩ ∧ I m  h
theorem blake_State_Write_l0_rule {f0 f1 f2 f3 f4 f5 f6 f7 f8 f9 f10 f11 f12 f13 f14 f15 : Value} {ds : List Deferred} {rd : Option Nat} {Q : QP} (I : Nat → Heap → Prop) (hb : ∀ (m : Nat) (h : Heap) (x16 x17 x18 x19 x20 x21 x22 x23 x24 x25 x26 x27 x28 x29 x30 x31 x32 x33 x34 x35 x36 x37 x38 x39 x40 x41 x42 x43 x44 x45 x46 x47 x48 x49 x50 : Value) , I m  h → RunC Tryz.prog T0 blake_State_Write_l0 ⟨[f0, f1, f2, f3, f4, f5, f6, f7, f8, f9, f10, f11, f12, f13, f14, f15, x16, x17, x18, x19, x20, x21, x22, x23, x24, x25, x26, x27, x28, x29, x30, x31, x32, x33, x34, x35, x36, x37, x38, x39, x40, x41, x42, x43, x44, x45, x46, x47, x48, x49, x50], ds, h, rd⟩ (loopQ (blake_State_Write_l0_J f0 f1 f2 f3 f4 f5 f6 f7 f8 f9 f10 f11 f12 f13 f14 f15 ds rd I) m Q))
    (m : Nat) {v : Value} {h : Heap} {x16 x17 x18 x19 x20 x21 x22 x23 x24 x25 x26 x27 x28 x29 x30 x31 x32 x33 x34 x35 x36 x37 x38 x39 x40 x41 x42 x43 x44 x45 x46 x47 x48 x49 x50 : Value} (hi : I m  h) : RunC Tryz.prog T0 (.loop blake_State_Write_l0) ⟨[f0, f1, f2, f3, f4, f5, f6, f7, f8, f9, f10, f11, f12, f13, f14, f15, x16, x17, x18, x19, x20, x21, x22, x23, x24, x25, x26, x27, x28, x29, x30, x31, x32, x33, x34, x35, x36, x37, x38, x39, x40, x41, x42, x43, x44, x45, x46, x47, x48, x49, x50], ds, h, rd⟩ Q :=
  RunC.loopJ (blake_State_Write_l0_J f0 f1 f2 f3 f4 f5 f6 f7 f8 f9 f10 f11 f12 f13 f14 f15 ds rd I) (fun m s hj => by obtain ⟨h, x16, x17, x18, x19, x20, x21, x22, x23, x24, x25, x26, x27, x28, x29, x30, x31, x32, x33, x34, x35, x36, x37, x38, x39, x40, x41, x42, x43, x44, x45, x46, x47, x48, x49, x50, rfl, hi⟩ := hj; exact hb m  h x16 x17 x18 x19 x20 x21 x22 x23 x24 x25 x26 x27 x28 x29 x30 x31 x32 x33 x34 x35 x36 x37 x38 x39 x40 x41 x42 x43 x44 x45 x46 x47 x48 x49 x50 hi) m _ ⟨h, _, _, _, _, _, _, _, _, _, _, _, _, _, _, _, _, _, _, _, _, _, _, _, _, _, _, _, _, _, _, _, _, _, _, _, rfl, hi⟩
theorem blake_State_Write_l0_again {f0 f1 f2 f3 f4 f5 f6 f7 f8 f9 f10 f11 f12 f13 f14 f15 : Value} {ds : List Deferred} {rd : Option Nat} {Q : QP} {I : Nat → Heap → Prop} {m : Nat} (m' : Nat) {v : Value} {h : Heap} {x16 x17 x18 x19 x20 x21 x22 x23 x24 x25 x26 x27 x28 x29 x30 x31 x32 x33 x34 x35 x36 x37 x38 x39 x40 x41 x42 x43 x44 x45 x46 x47 x48 x49 x50 : Value} (hm : m' < m) (hi : I m'  h) : loopQ (blake_State_Write_l0_J f0 f1 f2 f3 f4 f5 f6 f7 f8 f9 f10 f11 f12 f13 f14 f15 ds rd I) m Q .normal ⟨[f0, f1, f2, f3, f4, f5, f6, f7, f8, f9, f10, f11, f12, f13, f14, f15, x16, x17, x18, x19, x20, x21, x22, x23, x24, x25, x26, x27, x28, x29, x30, x31, x32, x33, x34, x35, x36, x37, x38, x39, x40, x41, x42, x43, x44, x45, x46, x47, x48, x49, x50], ds, h, rd⟩ :=
  loopQ.again m' hm ⟨h, _, _, _, _, _, _, _, _, _, _, _, _, _, _, _, _, _, _, _, _, _, _, _, _, _, _, _, _, _, _, _, _, _, _, _, rfl, hi⟩

/-! 126 (*landfall/blake.State).Sum -/
abbrev fn_blake_State_Sum : FuncId := 126
noncomputable def blake_State_Sum_l0 : ACode :=
  (.seq (.region [
      ⟨(some 31), .bin .lss (so (.binOp .lss 3 (.tmp 30) (.const (.int .i64 32)) 3) 0) (.tmp 30) (.const (.int .i64 32)), none, [], false⟩]) (.seq (.cond (.tmp 31)
    .skip
    (.exit 0)) (.seq (.block 1 (.seq (.region [
      ⟨(some 32), .mov (.tmp 30), none, [], false⟩,
      ⟨(some 6), .mov (.tmp 32), none, [], false⟩]) (.region [
      ⟨(some 33), .mov (.tmp 6), none, [], false⟩,
      ⟨(some 34), .mov (.tmp 6), none, [], false⟩,
      ⟨(some 35), .bin .quo (so (.binOp .quo 3 (.tmp 34) (.const (.int .i64 4)) 3) 3) (.tmp 34) (.const (.int .i64 4)), none, [], false⟩,
      ⟨(some 36), .indexArr 8 1 (.tmp 4) (.tmp 35), none, [], false⟩,
      ⟨(some 37), .load none (.tmp 36), none, [], false⟩,
      ⟨(some 38), .mov (.tmp 6), none, [], false⟩,
      ⟨(some 39), .bin .rem (so (.binOp .rem 3 (.tmp 38) (.const (.int .i64 4)) 3) 3) (.tmp 38) (.const (.int .i64 4)), none, [], false⟩,
      ⟨(some 40), .bin .mul (so (.binOp .mul 3 (.const (.int .i64 8)) (.tmp 39) 3) 3) (.const (.int .i64 8)) (.tmp 39), none, [], false⟩,
      ⟨(some 41), .bin .shr (so (.binOp .shr 151 (.tmp 37) (.tmp 40) 3) 151) (.tmp 37) (.tmp 40), none, [], false⟩,
      ⟨(some 42), .conv .u8 (so (.convert 151 5 (.tmp 41)) 5) (.tmp 41), none, [], false⟩,
      ⟨(some 43), .indexArr 32 1 (.tmp 2) (.tmp 33), none, [], false⟩,
      ⟨none, .store 1 (.tmp 43) (.tmp 42), none, [], false⟩]))) (.region [
      ⟨(some 44), .bin .add (so (.binOp .add 3 (.tmp 30) (.const (.int .i64 1)) 3) 3) (.tmp 30) (.const (.int .i64 1)), none, [], false⟩,
      ⟨(some 30), .mov (.tmp 44), none, [], false⟩]))))
noncomputable def blake_State_Sum_c : ACode :=
  (.seq (.region [
      ⟨(some 2), .alloc 23 z32, none, [], false⟩,
      ⟨(some 3), .mov (.const (.int .i64 0)), none, [], false⟩]) (.seq (.seq (.region [
      ⟨(some 7), .mov (.tmp 0), none, [], false⟩,
      ⟨(some 8), .callV (.func 159) [(.tmp 7)], none, [], false⟩]) (.cond (.tmp 8)
    (.seq (.region [
      ⟨(some 9), .build z32 [], none, [], false⟩,
      ⟨none, .store 32 (.tmp 2) (.tmp 9), none, [], false⟩,
      ⟨(some 3), .mov (.const (.int .i64 1)), none, [], false⟩]) .ret)
    .skip)) (.seq (.region [
      ⟨(some 10), .mov (.tmp 0), none, [], false⟩,
      ⟨(some 11), .nilCheck (.tmp 10), none, [], false⟩,
      ⟨(some 12), .fieldAddr 1 (.tmp 11), none, [], false⟩,
      ⟨(some 13), .load (some 8) (.tmp 12), none, [], false⟩,
      ⟨(some 4), .alloc 189 [(.int .u32 0), (.int .u32 0), (.int .u32 0), (.int .u32 0), (.int .u32 0), (.int .u32 0), (.int .u32 0), (.int .u32 0)], none, [], false⟩,
      ⟨none, .store 8 (.tmp 4) (.tmp 13), none, [], false⟩]) (.seq (.regionD [
      ⟨(some 14), .mov (.tmp 0), none, [], false⟩,
      ⟨(some 15), .nilCheck (.tmp 14), none, [], false⟩,
      ⟨(some 16), .fieldAddr 9 (.tmp 15), none, [], false⟩,
      ⟨(some 17), .load none (.tmp 16), none, [], false⟩,
      ⟨(some 19), .mov (.tmp 0), none, [], false⟩,
      ⟨(some 20), .nilCheck (.tmp 19), none, [], false⟩,
      ⟨(some 21), .fieldAddr 9 (.tmp 20), none, [], false⟩,
      ⟨(some 22), .load none (.tmp 21), none, [], false⟩,
      ⟨(some 23), .lenSl (.tmp 22), none, [], false⟩,
      ⟨(some 24), .bin .sub (so (.binOp .sub 3 (.const (.int .i64 64)) (.tmp 23) 3) 3) (.const (.int .i64 64)) (.tmp 23), none, [], false⟩,
      ⟨(some 18), .callV (.func 80) [(.tmp 17)], none, [((some 24), .bin .sub (so (.binOp .sub 3 (.const (.int .i64 64)) (.tmp 23) 3) 3) (.const (.int .i64 64)) (.tmp 23), none), ((some 23), .lenSl (.tmp 22), none), ((some 22), .load none (.tmp 21), none), ((some 21), .fieldAddr 9 (.tmp 20), none), ((some 20), .nilCheck (.tmp 19), none), ((some 19), .mov (.tmp 0), none)], false⟩,
      ⟨(some 25), .append 5 1 1 [(.int .u8 0)] true (.tmp 18) (.tmp 24), none, [], true⟩,
      ⟨(some 5), .mov (.tmp 25), none, [], true⟩]) (.seq (.region [
      ⟨(some 26), .mov (.tmp 5), none, [], false⟩,
      ⟨(some 27), .mov (.tmp 0), none, [], false⟩,
      ⟨(some 28), .callV (.func 162) [(.tmp 27)], none, [], false⟩,
      ⟨(some 29), .callV (.func 161) [(.tmp 4), (.tmp 26), (.tmp 28), (.const (.bool true))], none, [], false⟩]) (.seq (.seq (.region [
      ⟨(some 30), .mov (.const (.int .i64 0)), none, [], false⟩]) (.block 0 (.loop blake_State_Sum_l0))) (.seq (.region [
      ⟨(some 45), .load (some 32) (.tmp 2), none, [], false⟩,
      ⟨none, .store 32 (.tmp 2) (.tmp 45), none, [], false⟩,
      ⟨(some 3), .mov (.const (.int .i64 0)), none, [], false⟩]) .ret)))))))
noncomputable def blake_State_Sum : AFunc := ⟨46, [(2, some (some 32)), (3, none)], blake_State_Sum_c, none⟩
theorem blake_State_Sum_t0 : tableOf Tryz.prog 126 = some blake_State_Sum := by kernel_rfl
theorem blake_State_Sum_t : T0 126 = some blake_State_Sum := holed_t rfl blake_State_Sum_t0
theorem blake_State_Sum_runs {v0 : Value} {h : Heap} {R : RP} {X : XP} (k : RunC Tryz.prog T0 blake_State_Sum_c ⟨[v0, undef, undef, undef, undef, undef, undef, undef, undef, undef, undef, undef, undef, undef, undef, undef, undef, undef, undef, undef, undef, undef, undef, undef, undef, undef, undef, undef, undef, undef, undef, undef, undef, undef, undef, undef, undef, undef, undef, undef, undef, undef, undef, undef, undef, undef], [], h, none⟩ (bodyQ Tryz.prog T0 [(2, some (some 32)), (3, none)] R X)) :
    Runs Tryz.prog T0 (.fn 126) [v0] h R X := Runs.fn blake_State_Sum_t rfl k
/-- the slots that turn in the loop: v30 -/
noncomputable def blake_State_Sum_l0_J (f0 f1 f2 f3 f4 f5 f7 f8 f9 f10 f11 f12 f13 f14 f15 f16 f17 f18 f19 f20 f21 f22 f23 f24 f25 f26 f27 f28 f29 f45 : Value) (ds : List Deferred) (rd : Option Nat) (I : Nat → Value → Heap → Prop) (m : Nat) (s : St) : Prop := ∃ (v30 : Value), ∃ h : Heap, ∃ (x6 x31 x32 x33 x34 x35 x36 x37 x38 x39 x40 x41 x42 x43 x44 : Value), s = ⟨[f0, f1, f2, f3, f4, f5, x6, f7, f8, f9, f10, f11, f12, f13, f14, f15, f16, f17, f18, f19, f20, f21, f22, f23, f24, f25, f26, f27, f28, f29, v30, x31, x32, x33, x34, x35, x36, x37, x38, x39, x40, x41, x42, x43, x44, f45], ds, h, rd⟩ ∧ I m v30 h
theorem blake_State_Sum_l0_rule {f0 f1 f2 f3 f4 f5 f7 f8 f9 f10 f11 f12 f13 f14 f15 f16 f17 f18 f19 f20 f21 f22 f23 f24 f25 f26 f27 f28 f29 f45 : Value} {ds : List Deferred} {rd : Option Nat} {Q : QP} (I : Nat → Value → Heap → Prop) (hb : ∀ (m : Nat) (v30 : Value) (h : Heap) (x6 x31 x32 x33 x34 x35 x36 x37 x38 x39 x40 x41 x42 x43 x44 : Value) , I m v30 h → RunC Tryz.prog T0 blake_State_Sum_l0 ⟨[f0, f1, f2, f3, f4, f5, x6, f7, f8, f9, f10, f11, f12, f13, f14, f15, f16, f17, f18, f19, f20, f21, f22, f23, f24, f25, f26, f27, f28, f29, v30, x31, x32, x33, x34, x35, x36, x37, x38, x39, x40, x41, x42, x43, x44, f45], ds, h, rd⟩ (loopQ (blake_State_Sum_l0_J f0 f1 f2 f3 f4 f5 f7 f8 f9 f10 f11 f12 f13 f14 f15 f16 f17 f18 f19 f20 f21 f22 f23 f24 f25 f26 f27 f28 f29 f45 ds rd I) m Q))
    (m : Nat) {v30 : Value} {h : Heap} {x6 x31 x32 x33 x34 x35 x36 x37 x38 x39 x40 x41 x42 x43 x44 : Value} (hi : I m v30 h) : RunC Tryz.prog T0 (.loop blake_State_Sum_l0) ⟨[f0, f1, f2, f3, f4, f5, x6, f7, f8, f9, f10, f11, f12, f13, f14, f15, f16, f17, f18, f19, f20, f21, f22, f23, f24, f25, f26, f27, f28, f29, v30, x31, x32, x33, x34, x35, x36, x37, x38, x39, x40, x41, x42, x43, x44, f45], ds, h, rd⟩ Q :=
  RunC.loopJ (blake_State_Sum_l0_J f0 f1 f2 f3 f4 f5 f7 f8 f9 f10 f11 f12 f13 f14 f15 f16 f17 f18 f19 f20 f21 f22 f23 f24 f25 f26 f27 f28 f29 f45 ds rd I) (fun m s hj => by obtain ⟨v30, h, x6, x31, x32, x33, x34, x35, x36, x37, x38, x39, x40, x41, x42, x43, x44, rfl, hi⟩ := hj; exact hb m v30 h x6 x31 x32 x33 x34 x35 x36 x37 x38 x39 x40 x41 x42 x43 x44 hi) m _ ⟨_, h, _, _, _, _, _, _, _, _, _, _, _, _, _, _, _, rfl, hi⟩
theorem blake_State_Sum_l0_again {f0 f1 f2 f3 f4 f5 f7 f8 f9 f10 f11 f12 f13 f14 f15 f16 f17 f18 f19 f20 f21 f22 f23 f24 f25 f26 f27 f28 f29 f45 : Value} {ds : List Deferred} {rd : Option Nat} {Q : QP} {I : Nat → Value → Heap → Prop} {m : Nat} (m' : Nat) {v30 : Value} {h : Heap} {x6 x31 x32 x33 x34 x35 x36 x37 x38 x39 x40 x41 x42 x43 x44 : Value} (hm : m' < m) (hi : I m' v30 h) : loopQ (blake_State_Sum_l0_J f0 f1 f2 f3 f4 f5 f7 f8 f9 f10 f11 f12 f13 f14 f15 f16 f17 f18 f19 f20 f21 f22 f23 f24 f25 f26 f27 f28 f29 f45 ds rd I) m Q .normal ⟨[f0, f1, f2, f3, f4, f5, x6, f7, f8, f9, f10, f11, f12, f13, f14, f15, f16, f17, f18, f19, f20, f21, f22, f23, f24, f25, f26, f27, f28, f29, v30, x31, x32, x33, x34, x35, x36, x37, x38, x39, x40, x41, x42, x43, x44, f45], ds, h, rd⟩ :=
  loopQ.again m' hm ⟨_, h, _, _, _, _, _, _, _, _, _, _, _, _, _, _, _, rfl, hi⟩

/-! 158 landfall/blake.begin -/
abbrev fn_blake_begin : FuncId := 158
noncomputable def blake_begin_c : ACode :=
  (.seq (.region [
      ⟨(some 0), .alloc 189 [(.int .u32 0), (.int .u32 0), (.int .u32 0), (.int .u32 0), (.int .u32 0), (.int .u32 0), (.int .u32 0), (.int .u32 0)], none, [], false⟩]) (.seq (.region [
      ⟨(some 1), .build [(.int .u32 0), (.int .u32 0), (.int .u32 0), (.int .u32 0), (.int .u32 0), (.int .u32 0), (.int .u32 0), (.int .u32 0)] [(0, 1, (.const (.int .u32 1779033703))), (1, 1, (.const (.int .u32 3144134277))), (2, 1, (.const (.int .u32 1013904242))), (3, 1, (.const (.int .u32 2773480762))), (4, 1, (.const (.int .u32 1359893119))), (5, 1, (.const (.int .u32 2600822924))), (6, 1, (.const (.int .u32 528734635))), (7, 1, (.const (.int .u32 1541459225)))], none, [], false⟩,
      ⟨none, .store 8 (.tmp 0) (.tmp 1), none, [], false⟩]) .ret))
noncomputable def blake_begin : AFunc := ⟨2, [(0, some (some 8))], blake_begin_c, none⟩
theorem blake_begin_t0 : tableOf Tryz.prog 158 = some blake_begin := by kernel_rfl
theorem blake_begin_t : T0 158 = some blake_begin := holed_t rfl blake_begin_t0
theorem blake_begin_runs {v : Value} {h : Heap} {R : RP} {X : XP} (k : RunC Tryz.prog T0 blake_begin_c ⟨[undef, undef], [], h, none⟩ (bodyQ Tryz.prog T0 [(0, some (some 8))] R X)) :
    Runs Tryz.prog T0 (.fn 158) [] h R X := Runs.fn blake_begin_t rfl k


/-! 159 (*landfall/blake.State).none -/
abbrev fn_blake_State_none : FuncId := 159
noncomputable def blake_State_none_c : ACode :=
  (.seq (.region [
      ⟨(some 2), .mov (.const (.bool false)), none, [], false⟩]) (.seq (.region [
      ⟨(some 3), .mov (.tmp 0), none, [], false⟩,
      ⟨(some 4), .eq .ptr false (so (.binOp .eql 148 (.tmp 3) (.const (.pointer none)) 148) 4) (.tmp 3) (.const (.pointer none)), none, [], false⟩,
      ⟨(some 5), .mov (.tmp 4), none, [], false⟩,
      ⟨(some 6), .mov (.tmp 0), (some (5, false)), [], false⟩,
      ⟨(some 7), .nilCheck (.tmp 6), (some (5, false)), [], false⟩,
      ⟨(some 8), .fieldAddr 0 (.tmp 7), (some (5, false)), [], false⟩,
      ⟨(some 9), .load none (.tmp 8), (some (5, false)), [], false⟩,
      ⟨(some 10), .eq .ptr false (so (.binOp .eql 191 (.tmp 9) (.const (.pointer none)) 191) 4) (.tmp 9) (.const (.pointer none)), (some (5, false)), [], false⟩,
      ⟨(some 11), .pick (.tmp 5) (.const (.bool true)) (.tmp 10), none, [], false⟩,
      ⟨(some 2), .mov (.tmp 11), none, [], false⟩]) .ret))
noncomputable def blake_State_none : AFunc := ⟨12, [(2, none)], blake_State_none_c, none⟩
theorem blake_State_none_t0 : tableOf Tryz.prog 159 = some blake_State_none := by kernel_rfl
theorem blake_State_none_t : T0 159 = some blake_State_none := holed_t rfl blake_State_none_t0
theorem blake_State_none_runs {v0 : Value} {h : Heap} {R : RP} {X : XP} (k : RunC Tryz.prog T0 blake_State_none_c ⟨[v0, undef, undef, undef, undef, undef, undef, undef, undef, undef, undef, undef], [], h, none⟩ (bodyQ Tryz.prog T0 [(2, none)] R X)) :
    Runs Tryz.prog T0 (.fn 159) [v0] h R X := Runs.fn blake_State_none_t rfl k


/-! 160 (*landfall/blake.counter).take -/
abbrev fn_blake_counter_take : FuncId := 160
noncomputable def blake_counter_take_c : ACode :=
  (.region [
      ⟨(some 4), .mov (.tmp 0), none, [], false⟩,
      ⟨(some 5), .nilCheck (.tmp 4), none, [], false⟩,
      ⟨(some 6), .fieldAddr 0 (.tmp 5), none, [], false⟩,
      ⟨(some 7), .load none (.tmp 6), none, [], false⟩,
      ⟨(some 8), .mov (.tmp 1), none, [], false⟩,
      ⟨(some 9), .bin .add (so (.binOp .add 3 (.tmp 7) (.tmp 8) 3) 3) (.tmp 7) (.tmp 8), none, [], false⟩,
      ⟨(some 10), .nilCheck (.tmp 4), none, [], false⟩,
      ⟨(some 11), .fieldAddr 0 (.tmp 10), none, [], false⟩,
      ⟨none, .store 1 (.tmp 11) (.tmp 9), none, [], false⟩])
noncomputable def blake_counter_take : AFunc := ⟨12, [], blake_counter_take_c, none⟩
theorem blake_counter_take_t0 : tableOf Tryz.prog 160 = some blake_counter_take := by kernel_rfl
theorem blake_counter_take_t : T0 160 = some blake_counter_take := holed_t rfl blake_counter_take_t0
theorem blake_counter_take_runs {v0 v1 : Value} {h : Heap} {R : RP} {X : XP} (k : RunC Tryz.prog T0 blake_counter_take_c ⟨[v0, v1, undef, undef, undef, undef, undef, undef, undef, undef, undef, undef], [], h, none⟩ (bodyQ Tryz.prog T0 [] R X)) :
    Runs Tryz.prog T0 (.fn 160) [v0, v1] h R X := Runs.fn blake_counter_take_t rfl k


/-! 161 (*landfall/blake.words).block -/
abbrev fn_blake_words_block : FuncId := 161
noncomputable def blake_words_block_l0 : ACode :=
  (.seq (.region [
      ⟨(some 32), .bin .lss (so (.binOp .lss 3 (.tmp 31) (.tmp 30) 3) 0) (.tmp 31) (.tmp 30), none, [], false⟩]) (.seq (.cond (.tmp 32)
    .skip
    (.exit 2)) (.seq (.block 3 (.seq (.region [
      ⟨(some 33), .mov (.tmp 31), none, [], false⟩,
      ⟨(some 34), .indexSl 1 (.tmp 29) (.tmp 31), none, [], false⟩,
      ⟨(some 35), .load none (.tmp 34), none, [], false⟩,
      ⟨(some 11), .mov (.tmp 33), none, [], false⟩,
      ⟨(some 12), .mov (.tmp 35), none, [], false⟩]) (.regionD [
      ⟨(some 36), .mov (.tmp 10), none, [], false⟩,
      ⟨(some 37), .indexArr 16 1 (.tmp 8) (.tmp 36), none, [], false⟩,
      ⟨(some 38), .load none (.tmp 37), none, [], false⟩,
      ⟨(some 39), .mov (.tmp 12), none, [], false⟩,
      ⟨(some 40), .conv .u32 (so (.convert 5 151 (.tmp 39)) 151) (.tmp 39), none, [], false⟩,
      ⟨(some 41), .mov (.tmp 11), none, [], false⟩,
      ⟨(some 42), .bin .mul (so (.binOp .mul 3 (.const (.int .i64 8)) (.tmp 41) 3) 3) (.const (.int .i64 8)) (.tmp 41), none, [], false⟩,
      ⟨(some 43), .bin .shl (so (.binOp .shl 151 (.tmp 40) (.tmp 42) 3) 151) (.tmp 40) (.tmp 42), none, [], false⟩,
      ⟨(some 44), .bin .or (so (.binOp .or 151 (.tmp 38) (.tmp 43) 151) 151) (.tmp 38) (.tmp 43), none, [], true⟩,
      ⟨(some 45), .indexArr 16 1 (.tmp 8) (.tmp 36), none, [], true⟩,
      ⟨none, .store 1 (.tmp 45) (.tmp 44), none, [], true⟩]))) (.region [
      ⟨(some 46), .bin .add (so (.binOp .add 3 (.tmp 31) (.const (.int .i64 1)) 3) 3) (.tmp 31) (.const (.int .i64 1)), none, [], false⟩,
      ⟨(some 31), .mov (.tmp 46), none, [], false⟩]))))
noncomputable def blake_words_block_l1 : ACode :=
  (.seq (.region [
      ⟨(some 21), .bin .lss (so (.binOp .lss 3 (.tmp 20) (.const (.int .i64 16)) 3) 0) (.tmp 20) (.const (.int .i64 16)), none, [], false⟩]) (.seq (.cond (.tmp 21)
    .skip
    (.exit 0)) (.seq (.block 1 (.seq (.region [
      ⟨(some 22), .mov (.tmp 20), none, [], false⟩,
      ⟨(some 10), .mov (.tmp 22), none, [], false⟩]) (.seq (.region [
      ⟨(some 23), .mov (.tmp 1), none, [], false⟩,
      ⟨(some 24), .mov (.tmp 10), none, [], false⟩,
      ⟨(some 25), .bin .mul (so (.binOp .mul 3 (.const (.int .i64 4)) (.tmp 24) 3) 3) (.const (.int .i64 4)) (.tmp 24), none, [], false⟩,
      ⟨(some 26), .mov (.tmp 10), none, [], false⟩,
      ⟨(some 27), .bin .mul (so (.binOp .mul 3 (.const (.int .i64 4)) (.tmp 26) 3) 3) (.const (.int .i64 4)) (.tmp 26), none, [], false⟩,
      ⟨(some 28), .bin .add (so (.binOp .add 3 (.tmp 27) (.const (.int .i64 4)) 3) 3) (.tmp 27) (.const (.int .i64 4)), none, [], false⟩,
      ⟨(some 29), .sliceSl 1 (.tmp 23) (some (.tmp 25)) (some (.tmp 28)) none, none, [], false⟩,
      ⟨(some 30), .lenSl (.tmp 29), none, [], false⟩,
      ⟨(some 31), .mov (.const (.int .i64 0)), none, [], false⟩]) (.block 2 (.loop blake_words_block_l0))))) (.region [
      ⟨(some 47), .bin .add (so (.binOp .add 3 (.tmp 20) (.const (.int .i64 1)) 3) 3) (.tmp 20) (.const (.int .i64 1)), none, [], false⟩,
      ⟨(some 20), .mov (.tmp 47), none, [], false⟩]))))
noncomputable def blake_words_block_l2 : ACode :=
  (.seq (.region [
      ⟨(some 91), .bin .lss (so (.binOp .lss 3 (.tmp 90) (.const (.int .i64 4)) 3) 4) (.tmp 90) (.const (.int .i64 4)), none, [], false⟩]) (.seq (.cond (.tmp 91)
    .skip
    (.exit 6)) (.seq (.block 7 (.seq (.region [
      ⟨(some 92), .mov (.tmp 90), none, [], false⟩,
      ⟨(some 17), .mov (.tmp 92), none, [], false⟩]) (.regionD [
      ⟨(some 93), .mov (.tmp 17), none, [], false⟩,
      ⟨(some 94), .indexArr 16 1 (.tmp 9) (.tmp 93), none, [], false⟩,
      ⟨(some 95), .mov (.tmp 17), none, [], false⟩,
      ⟨(some 96), .bin .add (so (.binOp .add 3 (.const (.int .i64 4)) (.tmp 95) 3) 3) (.const (.int .i64 4)) (.tmp 95), none, [], false⟩,
      ⟨(some 97), .indexArr 16 1 (.tmp 9) (.tmp 96), none, [], false⟩,
      ⟨(some 98), .mov (.tmp 17), none, [], false⟩,
      ⟨(some 99), .bin .add (so (.binOp .add 3 (.const (.int .i64 8)) (.tmp 98) 3) 3) (.const (.int .i64 8)) (.tmp 98), none, [], false⟩,
      ⟨(some 100), .indexArr 16 1 (.tmp 9) (.tmp 99), none, [], false⟩,
      ⟨(some 101), .mov (.tmp 17), none, [], false⟩,
      ⟨(some 102), .bin .add (so (.binOp .add 3 (.const (.int .i64 12)) (.tmp 101) 3) 3) (.const (.int .i64 12)) (.tmp 101), none, [], false⟩,
      ⟨(some 103), .indexArr 16 1 (.tmp 9) (.tmp 102), none, [], false⟩,
      ⟨(some 104), .build [(.pointer none), (.pointer none), (.pointer none), (.pointer none)] [(0, 1, (.tmp 94)), (1, 1, (.tmp 97)), (2, 1, (.tmp 100)), (3, 1, (.tmp 103))], none, [], false⟩,
      ⟨(some 105), .mov (.tmp 14), none, [], false⟩,
      ⟨(some 106), .mov (.tmp 17), none, [], false⟩,
      ⟨(some 107), .bin .mul (so (.binOp .mul 3 (.const (.int .i64 2)) (.tmp 106) 3) 3) (.const (.int .i64 2)) (.tmp 106), none, [], false⟩,
      ⟨(some 108), .indexSl 1 (.tmp 105) (.tmp 107), none, [], false⟩,
      ⟨(some 109), .load none (.tmp 108), none, [], false⟩,
      ⟨(some 110), .mov (.tmp 14), none, [], false⟩,
      ⟨(some 111), .mov (.tmp 17), none, [], false⟩,
      ⟨(some 112), .bin .mul (so (.binOp .mul 3 (.const (.int .i64 2)) (.tmp 111) 3) 3) (.const (.int .i64 2)) (.tmp 111), none, [], false⟩,
      ⟨(some 113), .bin .add (so (.binOp .add 3 (.tmp 112) (.const (.int .i64 1)) 3) 3) (.tmp 112) (.const (.int .i64 1)), none, [], false⟩,
      ⟨(some 114), .indexSl 1 (.tmp 110) (.tmp 113), none, [], false⟩,
      ⟨(some 115), .load none (.tmp 114), none, [], false⟩,
      ⟨(some 116), .callV (.func 175) [(.tmp 104), (.tmp 109), (.tmp 115)], none, [], true⟩]))) (.region [
      ⟨(some 117), .bin .add (so (.binOp .add 3 (.tmp 90) (.const (.int .i64 1)) 3) 3) (.tmp 90) (.const (.int .i64 1)), none, [], false⟩,
      ⟨(some 90), .mov (.tmp 117), none, [], false⟩]))))
noncomputable def blake_words_block_l3 : ACode :=
  (.seq (.region [
      ⟨(some 119), .bin .lss (so (.binOp .lss 3 (.tmp 118) (.const (.int .i64 4)) 3) 4) (.tmp 118) (.const (.int .i64 4)), none, [], false⟩]) (.seq (.cond (.tmp 119)
    .skip
    (.exit 8)) (.seq (.block 9 (.seq (.region [
      ⟨(some 120), .mov (.tmp 118), none, [], false⟩,
      ⟨(some 18), .mov (.tmp 120), none, [], false⟩]) (.regionD [
      ⟨(some 121), .mov (.tmp 18), none, [], false⟩,
      ⟨(some 122), .indexArr 16 1 (.tmp 9) (.tmp 121), none, [], false⟩,
      ⟨(some 123), .mov (.tmp 18), none, [], false⟩,
      ⟨(some 124), .bin .add (so (.binOp .add 3 (.tmp 123) (.const (.int .i64 1)) 3) 3) (.tmp 123) (.const (.int .i64 1)), none, [], false⟩,
      ⟨(some 125), .bin .rem (so (.binOp .rem 3 (.tmp 124) (.const (.int .i64 4)) 3) 3) (.tmp 124) (.const (.int .i64 4)), none, [], false⟩,
      ⟨(some 126), .bin .add (so (.binOp .add 3 (.const (.int .i64 4)) (.tmp 125) 3) 3) (.const (.int .i64 4)) (.tmp 125), none, [], false⟩,
      ⟨(some 127), .indexArr 16 1 (.tmp 9) (.tmp 126), none, [], false⟩,
      ⟨(some 128), .mov (.tmp 18), none, [], false⟩,
      ⟨(some 129), .bin .add (so (.binOp .add 3 (.tmp 128) (.const (.int .i64 2)) 3) 3) (.tmp 128) (.const (.int .i64 2)), none, [], false⟩,
      ⟨(some 130), .bin .rem (so (.binOp .rem 3 (.tmp 129) (.const (.int .i64 4)) 3) 3) (.tmp 129) (.const (.int .i64 4)), none, [], false⟩,
      ⟨(some 131), .bin .add (so (.binOp .add 3 (.const (.int .i64 8)) (.tmp 130) 3) 3) (.const (.int .i64 8)) (.tmp 130), none, [], false⟩,
      ⟨(some 132), .indexArr 16 1 (.tmp 9) (.tmp 131), none, [], false⟩,
      ⟨(some 133), .mov (.tmp 18), none, [], false⟩,
      ⟨(some 134), .bin .add (so (.binOp .add 3 (.tmp 133) (.const (.int .i64 3)) 3) 3) (.tmp 133) (.const (.int .i64 3)), none, [], false⟩,
      ⟨(some 135), .bin .rem (so (.binOp .rem 3 (.tmp 134) (.const (.int .i64 4)) 3) 3) (.tmp 134) (.const (.int .i64 4)), none, [], false⟩,
      ⟨(some 136), .bin .add (so (.binOp .add 3 (.const (.int .i64 12)) (.tmp 135) 3) 3) (.const (.int .i64 12)) (.tmp 135), none, [], false⟩,
      ⟨(some 137), .indexArr 16 1 (.tmp 9) (.tmp 136), none, [], false⟩,
      ⟨(some 138), .build [(.pointer none), (.pointer none), (.pointer none), (.pointer none)] [(0, 1, (.tmp 122)), (1, 1, (.tmp 127)), (2, 1, (.tmp 132)), (3, 1, (.tmp 137))], none, [], false⟩,
      ⟨(some 139), .mov (.tmp 14), none, [], false⟩,
      ⟨(some 140), .mov (.tmp 18), none, [], false⟩,
      ⟨(some 141), .bin .mul (so (.binOp .mul 3 (.const (.int .i64 2)) (.tmp 140) 3) 3) (.const (.int .i64 2)) (.tmp 140), none, [], false⟩,
      ⟨(some 142), .bin .add (so (.binOp .add 3 (.const (.int .i64 8)) (.tmp 141) 3) 3) (.const (.int .i64 8)) (.tmp 141), none, [], false⟩,
      ⟨(some 143), .indexSl 1 (.tmp 139) (.tmp 142), none, [], false⟩,
      ⟨(some 144), .load none (.tmp 143), none, [], false⟩,
      ⟨(some 145), .mov (.tmp 14), none, [], false⟩,
      ⟨(some 146), .mov (.tmp 18), none, [], false⟩,
      ⟨(some 147), .bin .mul (so (.binOp .mul 3 (.const (.int .i64 2)) (.tmp 146) 3) 3) (.const (.int .i64 2)) (.tmp 146), none, [], false⟩,
      ⟨(some 148), .bin .add (so (.binOp .add 3 (.const (.int .i64 9)) (.tmp 147) 3) 3) (.const (.int .i64 9)) (.tmp 147), none, [], false⟩,
      ⟨(some 149), .indexSl 1 (.tmp 145) (.tmp 148), none, [], false⟩,
      ⟨(some 150), .load none (.tmp 149), none, [], false⟩,
      ⟨(some 151), .callV (.func 175) [(.tmp 138), (.tmp 144), (.tmp 150)], none, [], true⟩]))) (.region [
      ⟨(some 152), .bin .add (so (.binOp .add 3 (.tmp 118) (.const (.int .i64 1)) 3) 3) (.tmp 118) (.const (.int .i64 1)), none, [], false⟩,
      ⟨(some 118), .mov (.tmp 152), none, [], false⟩]))))
noncomputable def blake_words_block_l4 : ACode :=
  (.seq (.region [
      ⟨(some 77), .nextStr (.tmp 76), none, [], false⟩,
      ⟨(some 78), .extract 0 (.tmp 77), none, [], false⟩]) (.seq (.cond (.tmp 78)
    .skip
    (.exit 4)) (.block 5 (.seq (.region [
      ⟨(some 79), .extract 2 (.tmp 77), none, [], false⟩,
      ⟨(some 16), .mov (.tmp 79), none, [], false⟩]) (.seq (.seq (.region [
      ⟨(some 80), .mov (.tmp 14), none, [], false⟩,
      ⟨(some 81), .mov (.tmp 16), none, [], false⟩,
      ⟨(some 82), .callV (.func 174) [(.const (.string ⟨⟨[48, 49, 50, 51, 52, 53, 54, 55, 56, 57, 97, 98, 99, 100, 101, 102]⟩⟩)), (.tmp 81)], none, [], false⟩,
      ⟨(some 83), .indexArr 16 1 (.tmp 8) (.tmp 82), none, [], false⟩,
      ⟨(some 84), .load none (.tmp 83), none, [], false⟩,
      ⟨(some 85), .buildSlice 151 [(.int .u32 0)] 1 [(0, 1, (.tmp 84))], none, [], false⟩,
      ⟨(some 86), .append 151 1 4 [(.int .u32 0)] false (.tmp 80) (.tmp 85), none, [], false⟩,
      ⟨(some 14), .mov (.tmp 86), none, [], false⟩]) (.seq (.region [
      ⟨(some 87), .mov (.tmp 14), none, [], false⟩,
      ⟨(some 88), .lenSl (.tmp 87), none, [], false⟩,
      ⟨(some 89), .bin .lss (so (.binOp .lss 3 (.tmp 88) (.const (.int .i64 16)) 3) 4) (.tmp 88) (.const (.int .i64 16)), none, [], false⟩]) (.cond (.tmp 89)
    (.exit 5)
    .skip))) (.seq (.seq (.region [
      ⟨(some 90), .mov (.const (.int .i64 0)), none, [], false⟩]) (.block 6 (.loop blake_words_block_l2))) (.seq (.seq (.region [
      ⟨(some 118), .mov (.const (.int .i64 0)), none, [], false⟩]) (.block 8 (.loop blake_words_block_l3))) (.region [
      ⟨(some 14), .mov (.const (.slice none 0 0)), none, [], false⟩]))))))))
noncomputable def blake_words_block_l5 : ACode :=
  (.seq (.region [
      ⟨(some 154), .bin .lss (so (.binOp .lss 3 (.tmp 153) (.const (.int .i64 8)) 3) 0) (.tmp 153) (.const (.int .i64 8)), none, [], false⟩]) (.seq (.cond (.tmp 154)
    .skip
    (.exit 10)) (.seq (.block 11 (.seq (.region [
      ⟨(some 155), .mov (.tmp 153), none, [], false⟩,
      ⟨(some 19), .mov (.tmp 155), none, [], false⟩]) (.regionD [
      ⟨(some 156), .mov (.tmp 0), none, [], false⟩,
      ⟨(some 157), .mov (.tmp 19), none, [], false⟩,
      ⟨(some 158), .nilCheck (.tmp 156), none, [], false⟩,
      ⟨(some 159), .indexArr 8 1 (.tmp 158) (.tmp 157), none, [], false⟩,
      ⟨(some 160), .load none (.tmp 159), none, [], false⟩,
      ⟨(some 161), .mov (.tmp 19), none, [], false⟩,
      ⟨(some 162), .indexArr 16 1 (.tmp 9) (.tmp 161), none, [], false⟩,
      ⟨(some 163), .load none (.tmp 162), none, [], false⟩,
      ⟨(some 164), .mov (.tmp 19), none, [], false⟩,
      ⟨(some 165), .bin .add (so (.binOp .add 3 (.tmp 164) (.const (.int .i64 8)) 3) 3) (.tmp 164) (.const (.int .i64 8)), none, [], false⟩,
      ⟨(some 166), .indexArr 16 1 (.tmp 9) (.tmp 165), none, [], false⟩,
      ⟨(some 167), .load none (.tmp 166), none, [], false⟩,
      ⟨(some 168), .bin .xor (so (.binOp .xor 151 (.tmp 163) (.tmp 167) 151) 151) (.tmp 163) (.tmp 167), none, [], false⟩,
      ⟨(some 169), .bin .xor (so (.binOp .xor 151 (.tmp 160) (.tmp 168) 151) 151) (.tmp 160) (.tmp 168), none, [], false⟩,
      ⟨(some 170), .nilCheck (.tmp 156), none, [], false⟩,
      ⟨(some 171), .indexArr 8 1 (.tmp 170) (.tmp 157), none, [], true⟩,
      ⟨none, .store 1 (.tmp 171) (.tmp 169), none, [], true⟩]))) (.region [
      ⟨(some 172), .bin .add (so (.binOp .add 3 (.tmp 153) (.const (.int .i64 1)) 3) 3) (.tmp 153) (.const (.int .i64 1)), none, [], false⟩,
      ⟨(some 153), .mov (.tmp 172), none, [], false⟩]))))
noncomputable def blake_words_block_c : ACode :=
  (.seq (.region [
      ⟨(some 8), .alloc 198 [(.int .u32 0), (.int .u32 0), (.int .u32 0), (.int .u32 0), (.int .u32 0), (.int .u32 0), (.int .u32 0), (.int .u32 0), (.int .u32 0), (.int .u32 0), (.int .u32 0), (.int .u32 0), (.int .u32 0), (.int .u32 0), (.int .u32 0), (.int .u32 0)], none, [], false⟩,
      ⟨(some 9), .alloc 198 [(.int .u32 0), (.int .u32 0), (.int .u32 0), (.int .u32 0), (.int .u32 0), (.int .u32 0), (.int .u32 0), (.int .u32 0), (.int .u32 0), (.int .u32 0), (.int .u32 0), (.int .u32 0), (.int .u32 0), (.int .u32 0), (.int .u32 0), (.int .u32 0)], none, [], false⟩]) (.seq (.seq (.region [
      ⟨(some 20), .mov (.const (.int .i64 0)), none, [], false⟩]) (.block 0 (.loop blake_words_block_l1))) (.seq (.region [
      ⟨(some 48), .callV (.func 158) [], none, [], false⟩,
      ⟨(some 13), .alloc 189 [(.int .u32 0), (.int .u32 0), (.int .u32 0), (.int .u32 0), (.int .u32 0), (.int .u32 0), (.int .u32 0), (.int .u32 0)], none, [], false⟩,
      ⟨none, .store 8 (.tmp 13) (.tmp 48), none, [], false⟩]) (.seq (.regionD [
      ⟨(some 49), .sliceArr 16 1 (.tmp 9) none (some (.const (.int .i64 8))), none, [], false⟩,
      ⟨(some 50), .mov (.tmp 0), none, [], false⟩,
      ⟨(some 51), .nilCheck (.tmp 50), none, [], false⟩,
      ⟨(some 52), .sliceArr 8 1 (.tmp 51) none none, none, [], false⟩,
      ⟨(some 53), .copy 1 (.tmp 49) (.tmp 52), none, [], true⟩]) (.seq (.regionD [
      ⟨(some 54), .sliceArr 16 1 (.tmp 9) (some (.const (.int .i64 8))) none, none, [], false⟩,
      ⟨(some 55), .sliceArr 8 1 (.tmp 13) none none, none, [], false⟩,
      ⟨(some 56), .copy 1 (.tmp 54) (.tmp 55), none, [], true⟩]) (.seq (.region [
      ⟨(some 57), .indexArr 16 1 (.tmp 9) (.const (.int .i64 12)), none, [], false⟩,
      ⟨(some 58), .load none (.tmp 57), none, [], false⟩,
      ⟨(some 59), .mov (.tmp 2), none, [], false⟩,
      ⟨(some 60), .conv .u32 (so (.convert 3 151 (.tmp 59)) 151) (.tmp 59), none, [], false⟩,
      ⟨(some 61), .bin .xor (so (.binOp .xor 151 (.tmp 58) (.tmp 60) 151) 151) (.tmp 58) (.tmp 60), none, [], false⟩,
      ⟨(some 62), .indexArr 16 1 (.tmp 9) (.const (.int .i64 12)), none, [], false⟩,
      ⟨none, .store 1 (.tmp 62) (.tmp 61), none, [], false⟩]) (.seq (.region [
      ⟨(some 63), .indexArr 16 1 (.tmp 9) (.const (.int .i64 13)), none, [], false⟩,
      ⟨(some 64), .load none (.tmp 63), none, [], false⟩,
      ⟨(some 65), .mov (.tmp 2), none, [], false⟩,
      ⟨(some 66), .conv .u64 (so (.convert 3 107 (.tmp 65)) 107) (.tmp 65), none, [], false⟩,
      ⟨(some 67), .bin .shr (so (.binOp .shr 107 (.tmp 66) (.const (.int .u64 32)) 155) 107) (.tmp 66) (.const (.int .u64 32)), none, [], false⟩,
      ⟨(some 68), .conv .u32 (so (.convert 107 151 (.tmp 67)) 151) (.tmp 67), none, [], false⟩,
      ⟨(some 69), .bin .xor (so (.binOp .xor 151 (.tmp 64) (.tmp 68) 151) 151) (.tmp 64) (.tmp 68), none, [], false⟩,
      ⟨(some 70), .indexArr 16 1 (.tmp 9) (.const (.int .i64 13)), none, [], false⟩,
      ⟨none, .store 1 (.tmp 70) (.tmp 69), none, [], false⟩]) (.seq (.seq (.region [
      ⟨(some 71), .mov (.tmp 3), none, [], false⟩]) (.cond (.tmp 71)
    (.region [
      ⟨(some 72), .indexArr 16 1 (.tmp 9) (.const (.int .i64 14)), none, [], false⟩,
      ⟨(some 73), .load none (.tmp 72), none, [], false⟩,
      ⟨(some 74), .raw (so (.unOp .xor 151 (.tmp 73)) 151), none, [], false⟩,
      ⟨(some 75), .indexArr 16 1 (.tmp 9) (.const (.int .i64 14)), none, [], false⟩,
      ⟨none, .store 1 (.tmp 75) (.tmp 74), none, [], false⟩])
    .skip)) (.seq (.region [
      ⟨(some 14), .mov (.const (.slice none 0 0)), none, [], false⟩]) (.seq (.seq (.region [
      ⟨(some 76), .rangeStr (.const (.string ⟨⟨[48, 49, 50, 51, 52, 53, 54, 55, 56, 57, 97, 98, 99, 100, 101, 102, 101, 97, 52, 56, 57, 102, 100, 54, 49, 99, 48, 50, 98, 55, 53, 51, 98, 56, 99, 48, 53, 50, 102, 100, 97, 101, 51, 54, 55, 49, 57, 52, 55, 57, 51, 49, 100, 99, 98, 101, 50, 54, 53, 97, 52, 48, 102, 56, 57, 48, 53, 55, 50, 52, 97, 102, 101, 49, 98, 99, 54, 56, 51, 100, 50, 99, 54, 97, 48, 98, 56, 51, 52, 100, 55, 53, 102, 101, 49, 57, 99, 53, 49, 102, 101, 100, 52, 97, 48, 55, 54, 51, 57, 50, 56, 98, 100, 98, 55, 101, 99, 49, 51, 57, 53, 48, 102, 52, 56, 54, 50, 97, 54, 102, 101, 57, 98, 51, 48, 56, 99, 50, 100, 55, 49, 52, 97, 53, 97, 50, 56, 52, 55, 54, 49, 53, 102, 98, 57, 101, 51, 99, 100, 48]⟩⟩)), none, [], false⟩]) (.block 4 (.loop blake_words_block_l4))) (.seq (.region [
      ⟨(some 153), .mov (.const (.int .i64 0)), none, [], false⟩]) (.block 10 (.loop blake_words_block_l5)))))))))))))
noncomputable def blake_words_block : AFunc := ⟨173, [], blake_words_block_c, none⟩
theorem blake_words_block_t0 : tableOf Tryz.prog 161 = some blake_words_block := by kernel_rfl
theorem blake_words_block_t : T0 161 = some blake_words_block := holed_t rfl blake_words_block_t0
theorem blake_words_block_runs {v0 v1 v2 v3 : Value} {h : Heap} {R : RP} {X : XP} (k : RunC Tryz.prog T0 blake_words_block_c ⟨[v0, v1, v2, v3, undef, undef, undef, undef, undef, undef, undef, undef, undef, undef, undef, undef, undef, undef, undef, undef, undef, undef, undef, undef, undef, undef, undef, undef, undef, undef, undef, undef, undef, undef, undef, undef, undef, undef, undef, undef, undef, undef, undef, undef, undef, undef, undef, undef, undef, undef, undef, undef, undef, undef, undef, undef, undef, undef, undef, undef, undef, undef, undef, undef, undef, undef, undef, undef, undef, undef, undef, undef, undef, undef, undef, undef, undef, undef, undef, undef, undef, undef, undef, undef, undef, undef, undef, undef, undef, undef, undef, undef, undef, undef, undef, undef, undef, undef, undef, undef, undef, undef, undef, undef, undef, undef, undef, undef, undef, undef, undef, undef, undef, undef, undef, undef, undef, undef, undef, undef, undef, undef, undef, undef, undef, undef, undef, undef, undef, undef, undef, undef, undef, undef, undef, undef, undef, undef, undef, undef, undef, undef, undef, undef, undef, undef, undef, undef, undef, undef, undef, undef, undef, undef, undef, undef, undef, undef, undef, undef, undef, undef, undef, undef, undef, undef, undef, undef, undef, undef, undef, undef, undef], [], h, none⟩ (bodyQ Tryz.prog T0 [] R X)) :
    Runs Tryz.prog T0 (.fn 161) [v0, v1, v2, v3] h R X := Runs.fn blake_words_block_t rfl k
/-- the slots that turn in the loop: v31 -/
noncomputable def blake_words_block_l0_J (f0 f1 f2 f3 f4 f5 f6 f7 f8 f9 f10 f13 f14 f15 f16 f17 f18 f19 f20 f21 f22 f23 f24 f25 f26 f27 f28 f29 f30 f47 f48 f49 f50 f51 f52 f53 f54 f55 f56 f57 f58 f59 f60 f61 f62 f63 f64 f65 f66 f67 f68 f69 f70 f71 f72 f73 f74 f75 f76 f77 f78 f79 f80 f81 f82 f83 f84 f85 f86 f87 f88 f89 f90 f91 f92 f93 f94 f95 f96 f97 f98 f99 f100 f101 f102 f103 f104 f105 f106 f107 f108 f109 f110 f111 f112 f113 f114 f115 f116 f117 f118 f119 f120 f121 f122 f123 f124 f125 f126 f127 f128 f129 f130 f131 f132 f133 f134 f135 f136 f137 f138 f139 f140 f141 f142 f143 f144 f145 f146 f147 f148 f149 f150 f151 f152 f153 f154 f155 f156 f157 f158 f159 f160 f161 f162 f163 f164 f165 f166 f167 f168 f169 f170 f171 f172 : Value) (ds : List Deferred) (rd : Option Nat) (I : Nat → Value → Heap → Prop) (m : Nat) (s : St) : Prop := ∃ (v31 : Value), ∃ h : Heap, ∃ (x11 x12 x32 x33 x34 x35 x36 x37 x38 x39 x40 x41 x42 x43 x44 x45 x46 : Value), s = ⟨[f0, f1, f2, f3, f4, f5, f6, f7, f8, f9, f10, x11, x12, f13, f14, f15, f16, f17, f18, f19, f20, f21, f22, f23, f24, f25, f26, f27, f28, f29, f30, v31, x32, x33, x34, x35, x36, x37, x38, x39, x40, x41, x42, x43, x44, x45, x46, f47, f48, f49, f50, f51, f52, f53, f54, f55, f56, f57, f58, f59, f60, f61, f62, f63, f64, f65, f66, f67, f68, f69, f70, f71, f72, f73, f74, f75, f76, f77, f78, f79, f80, f81, f82, f83, f84, f85, f86, f87, f88, f89, f90, f91, f92, f93, f94, f95, f96, f97, f98, f99, f100, f101, f102, f103, f104, f105, f106, f107, f108, f109, f110, f111, f112, f113, f114, f115, f116, f117, f118, f119, f120, f121, f122, f123, f124, f125, f126, f127, f128, f129, f130, f131, f132, f133, f134, f135, f136, f137, f138, f139, f140, f141, f142, f143, f144, f145, f146, f147, f148, f149, f150, f151, f152, f153, f154, f155, f156, f157, f158, f159, f160, f161, f162, f163, f164, f165, f166, f167, f168, f169, f170, f171, f172], ds, h, rd⟩ ∧ I m v31 h
theorem blake_words_block_l0_rule {f0 f1 f2 f3 f4 f5 f6 f7 f8 f9 f10 f13 f14 f15 f16 f17 f18 f19 f20 f21 f22 f23 f24 f25 f26 f27 f28 f29 f30 f47 f48 f49 f50 f51 f52 f53 f54 f55 f56 f57 f58 f59 f60 f61 f62 f63 f64 f65 f66 f67 f68 f69 f70 f71 f72 f73 f74 f75 f76 f77 f78 f79 f80 f81 f82 f83 f84 f85 f86 f87 f88 f89 f90 f91 f92 f93 f94 f95 f96 f97 f98 f99 f100 f101 f102 f103 f104 f105 f106 f107 f108 f109 f110 f111 f112 f113 f114 f115 f116 f117 f118 f119 f120 f121 f122 f123 f124 f125 f126 f127 f128 f129 f130 f131 f132 f133 f134 f135 f136 f137 f138 f139 f140 f141 f142 f143 f144 f145 f146 f147 f148 f149 f150 f151 f152 f153 f154 f155 f156 f157 f158 f159 f160 f161 f162 f163 f164 f165 f166 f167 f168 f169 f170 f171 f172 : Value} {ds : List Deferred} {rd : Option Nat} {Q : QP} (I : Nat → Value → Heap → Prop) (hb : ∀ (m : Nat) (v31 : Value) (h : Heap) (x11 x12 x32 x33 x34 x35 x36 x37 x38 x39 x40 x41 x42 x43 x44 x45 x46 : Value) , I m v31 h → RunC Tryz.prog T0 blake_words_block_l0 ⟨[f0, f1, f2, f3, f4, f5, f6, f7, f8, f9, f10, x11, x12, f13, f14, f15, f16, f17, f18, f19, f20, f21, f22, f23, f24, f25, f26, f27, f28, f29, f30, v31, x32, x33, x34, x35, x36, x37, x38, x39, x40, x41, x42, x43, x44, x45, x46, f47, f48, f49, f50, f51, f52, f53, f54, f55, f56, f57, f58, f59, f60, f61, f62, f63, f64, f65, f66, f67, f68, f69, f70, f71, f72, f73, f74, f75, f76, f77, f78, f79, f80, f81, f82, f83, f84, f85, f86, f87, f88, f89, f90, f91, f92, f93, f94, f95, f96, f97, f98, f99, f100, f101, f102, f103, f104, f105, f106, f107, f108, f109, f110, f111, f112, f113, f114, f115, f116, f117, f118, f119, f120, f121, f122, f123, f124, f125, f126, f127, f128, f129, f130, f131, f132, f133, f134, f135, f136, f137, f138, f139, f140, f141, f142, f143, f144, f145, f146, f147, f148, f149, f150, f151, f152, f153, f154, f155, f156, f157, f158, f159, f160, f161, f162, f163, f164, f165, f166, f167, f168, f169, f170, f171, f172], ds, h, rd⟩ (loopQ (blake_words_block_l0_J f0 f1 f2 f3 f4 f5 f6 f7 f8 f9 f10 f13 f14 f15 f16 f17 f18 f19 f20 f21 f22 f23 f24 f25 f26 f27 f28 f29 f30 f47 f48 f49 f50 f51 f52 f53 f54 f55 f56 f57 f58 f59 f60 f61 f62 f63 f64 f65 f66 f67 f68 f69 f70 f71 f72 f73 f74 f75 f76 f77 f78 f79 f80 f81 f82 f83 f84 f85 f86 f87 f88 f89 f90 f91 f92 f93 f94 f95 f96 f97 f98 f99 f100 f101 f102 f103 f104 f105 f106 f107 f108 f109 f110 f111 f112 f113 f114 f115 f116 f117 f118 f119 f120 f121 f122 f123 f124 f125 f126 f127 f128 f129 f130 f131 f132 f133 f134 f135 f136 f137 f138 f139 f140 f141 f142 f143 f144 f145 f146 f147 f148 f149 f150 f151 f152 f153 f154 f155 f156 f157 f158 f159 f160 f161 f162 f163 f164 f165 f166 f167 f168 f169 f170 f171 f172 ds rd I) m Q))
    (m : Nat) {v31 : Value} {h : Heap} {x11 x12 x32 x33 x34 x35 x36 x37 x38 x39 x40 x41 x42 x43 x44 x45 x46 : Value} (hi : I m v31 h) : RunC Tryz.prog T0 (.loop blake_words_block_l0) ⟨[f0, f1, f2, f3, f4, f5, f6, f7, f8, f9, f10, x11, x12, f13, f14, f15, f16, f17, f18, f19, f20, f21, f22, f23, f24, f25, f26, f27, f28, f29, f30, v31, x32, x33, x34, x35, x36, x37, x38, x39, x40, x41, x42, x43, x44, x45, x46, f47, f48, f49, f50, f51, f52, f53, f54, f55, f56, f57, f58, f59, f60, f61, f62, f63, f64, f65, f66, f67, f68, f69, f70, f71, f72, f73, f74, f75, f76, f77, f78, f79, f80, f81, f82, f83, f84, f85, f86, f87, f88, f89, f90, f91, f92, f93, f94, f95, f96, f97, f98, f99, f100, f101, f102, f103, f104, f105, f106, f107, f108, f109, f110, f111, f112, f113, f114, f115, f116, f117, f118, f119, f120, f121, f122, f123, f124, f125, f126, f127, f128, f129, f130, f131, f132, f133, f134, f135, f136, f137, f138, f139, f140, f141, f142, f143, f144, f145, f146, f147, f148, f149, f150, f151, f152, f153, f154, f155, f156, f157, f158, f159, f160, f161, f162, f163, f164, f165, f166, f167, f168, f169, f170, f171, f172], ds, h, rd⟩ Q :=
  RunC.loopJ (blake_words_block_l0_J f0 f1 f2 f3 f4 f5 f6 f7 f8 f9 f10 f13 f14 f15 f16 f17 f18 f19 f20 f21 f22 f23 f24 f25 f26 f27 f28 f29 f30 f47 f48 f49 f50 f51 f52 f53 f54 f55 f56 f57 f58 f59 f60 f61 f62 f63 f64 f65 f66 f67 f68 f69 f70 f71 f72 f73 f74 f75 f76 f77 f78 f79 f80 f81 f82 f83 f84 f85 f86 f87 f88 f89 f90 f91 f92 f93 f94 f95 f96 f97 f98 f99 f100 f101 f102 f103 f104 f105 f106 f107 f108 f109 f110 f111 f112 f113 f114 f115 f116 f117 f118 f119 f120 f121 f122 f123 f124 f125 f126 f127 f128 f129 f130 f131 f132 f133 f134 f135 f136 f137 f138 f139 f140 f141 f142 f143 f144 f145 f146 f147 f148 f149 f150 f151 f152 f153 f154 f155 f156 f157 f158 f159 f160 f161 f162 f163 f164 f165 f166 f167 f168 f169 f170 f171 f172 ds rd I) (fun m s hj => by obtain ⟨v31, h, x11, x12, x32, x33, x34, x35, x36, x37, x38, x39, x40, x41, x42, x43, x44, x45, x46, rfl, hi⟩ := hj; exact hb m v31 h x11 x12 x32 x33 x34 x35 x36 x37 x38 x39 x40 x41 x42 x43 x44 x45 x46 hi) m _ ⟨_, h, _, _, _, _, _, _, _, _, _, _, _, _, _, _, _, _, _, rfl, hi⟩
theorem blake_words_block_l0_again {f0 f1 f2 f3 f4 f5 f6 f7 f8 f9 f10 f13 f14 f15 f16 f17 f18 f19 f20 f21 f22 f23 f24 f25 f26 f27 f28 f29 f30 f47 f48 f49 f50 f51 f52 f53 f54 f55 f56 f57 f58 f59 f60 f61 f62 f63 f64 f65 f66 f67 f68 f69 f70 f71 f72 f73 f74 f75 f76 f77 f78 f79 f80 f81 f82 f83 f84 f85 f86 f87 f88 f89 f90 f91 f92 f93 f94 f95 f96 f97 f98 f99 f100 f101 f102 f103 f104 f105 f106 f107 f108 f109 f110 f111 f112 f113 f114 f115 f116 f117 f118 f119 f120 f121 f122 f123 f124 f125 f126 f127 f128 f129 f130 f131 f132 f133 f134 f135 f136 f137 f138 f139 f140 f141 f142 f143 f144 f145 f146 f147 f148 f149 f150 f151 f152 f153 f154 f155 f156 f157 f158 f159 f160 f161 f162 f163 f164 f165 f166 f167 f168 f169 f170 f171 f172 : Value} {ds : List Deferred} {rd : Option Nat} {Q : QP} {I : Nat → Value → Heap → Prop} {m : Nat} (m' : Nat) {v31 : Value} {h : Heap} {x11 x12 x32 x33 x34 x35 x36 x37 x38 x39 x40 x41 x42 x43 x44 x45 x46 : Value} (hm : m' < m) (hi : I m' v31 h) : loopQ (blake_words_block_l0_J f0 f1 f2 f3 f4 f5 f6 f7 f8 f9 f10 f13 f14 f15 f16 f17 f18 f19 f20 f21 f22 f23 f24 f25 f26 f27 f28 f29 f30 f47 f48 f49 f50 f51 f52 f53 f54 f55 f56 f57 f58 f59 f60 f61 f62 f63 f64 f65 f66 f67 f68 f69 f70 f71 f72 f73 f74 f75 f76 f77 f78 f79 f80 f81 f82 f83 f84 f85 f86 f87 f88 f89 f90 f91 f92 f93 f94 f95 f96 f97 f98 f99 f100 f101 f102 f103 f104 f105 f106 f107 f108 f109 f110 f111 f112 f113 f114 f115 f116 f117 f118 f119 f120 f121 f122 f123 f124 f125 f126 f127 f128 f129 f130 f131 f132 f133 f134 f135 f136 f137 f138 f139 f140 f141 f142 f143 f144 f145 f146 f147 f148 f149 f150 f151 f152 f153 f154 f155 f156 f157 f158 f159 f160 f161 f162 f163 f164 f165 f166 f167 f168 f169 f170 f171 f172 ds rd I) m Q .normal ⟨[f0, f1, f2, f3, f4, f5, f6, f7, f8, f9, f10, x11, x12, f13, f14, f15, f16, f17, f18, f19, f20, f21, f22, f23, f24, f25, f26, f27, f28, f29, f30, v31, x32, x33, x34, x35, x36, x37, x38, x39, x40, x41, x42, x43, x44, x45, x46, f47, f48, f49, f50, f51, f52, f53, f54, f55, f56, f57, f58, f59, f60, f61, f62, f63, f64, f65, f66, f67, f68, f69, f70, f71, f72, f73, f74, f75, f76, f77, f78, f79, f80, f81, f82, f83, f84, f85, f86, f87, f88, f89, f90, f91, f92, f93, f94, f95, f96, f97, f98, f99, f100, f101, f102, f103, f104, f105, f106, f107, f108, f109, f110, f111, f112, f113, f114, f115, f116, f117, f118, f119, f120, f121, f122, f123, f124, f125, f126, f127, f128, f129, f130, f131, f132, f133, f134, f135, f136, f137, f138, f139, f140, f141, f142, f143, f144, f145, f146, f147, f148, f149, f150, f151, f152, f153, f154, f155, f156, f157, f158, f159, f160, f161, f162, f163, f164, f165, f166, f167, f168, f169, f170, f171, f172], ds, h, rd⟩ :=
  loopQ.again m' hm ⟨_, h, _, _, _, _, _, _, _, _, _, _, _, _, _, _, _, _, _, rfl, hi⟩
/-- the slots that turn in the loop: v20 -/
noncomputable def blake_words_block_l1_J (f0 f1 f2 f3 f4 f5 f6 f7 f8 f9 f13 f14 f15 f16 f17 f18 f19 f48 f49 f50 f51 f52 f53 f54 f55 f56 f57 f58 f59 f60 f61 f62 f63 f64 f65 f66 f67 f68 f69 f70 f71 f72 f73 f74 f75 f76 f77 f78 f79 f80 f81 f82 f83 f84 f85 f86 f87 f88 f89 f90 f91 f92 f93 f94 f95 f96 f97 f98 f99 f100 f101 f102 f103 f104 f105 f106 f107 f108 f109 f110 f111 f112 f113 f114 f115 f116 f117 f118 f119 f120 f121 f122 f123 f124 f125 f126 f127 f128 f129 f130 f131 f132 f133 f134 f135 f136 f137 f138 f139 f140 f141 f142 f143 f144 f145 f146 f147 f148 f149 f150 f151 f152 f153 f154 f155 f156 f157 f158 f159 f160 f161 f162 f163 f164 f165 f166 f167 f168 f169 f170 f171 f172 : Value) (ds : List Deferred) (rd : Option Nat) (I : Nat → Value → Heap → Prop) (m : Nat) (s : St) : Prop := ∃ (v20 : Value), ∃ h : Heap, ∃ (x10 x11 x12 x21 x22 x23 x24 x25 x26 x27 x28 x29 x30 x31 x32 x33 x34 x35 x36 x37 x38 x39 x40 x41 x42 x43 x44 x45 x46 x47 : Value), s = ⟨[f0, f1, f2, f3, f4, f5, f6, f7, f8, f9, x10, x11, x12, f13, f14, f15, f16, f17, f18, f19, v20, x21, x22, x23, x24, x25, x26, x27, x28, x29, x30, x31, x32, x33, x34, x35, x36, x37, x38, x39, x40, x41, x42, x43, x44, x45, x46, x47, f48, f49, f50, f51, f52, f53, f54, f55, f56, f57, f58, f59, f60, f61, f62, f63, f64, f65, f66, f67, f68, f69, f70, f71, f72, f73, f74, f75, f76, f77, f78, f79, f80, f81, f82, f83, f84, f85, f86, f87, f88, f89, f90, f91, f92, f93, f94, f95, f96, f97, f98, f99, f100, f101, f102, f103, f104, f105, f106, f107, f108, f109, f110, f111, f112, f113, f114, f115, f116, f117, f118, f119, f120, f121, f122, f123, f124, f125, f126, f127, f128, f129, f130, f131, f132, f133, f134, f135, f136, f137, f138, f139, f140, f141, f142, f143, f144, f145, f146, f147, f148, f149, f150, f151, f152, f153, f154, f155, f156, f157, f158, f159, f160, f161, f162, f163, f164, f165, f166, f167, f168, f169, f170, f171, f172], ds, h, rd⟩ ∧ I m v20 h
theorem blake_words_block_l1_rule {f0 f1 f2 f3 f4 f5 f6 f7 f8 f9 f13 f14 f15 f16 f17 f18 f19 f48 f49 f50 f51 f52 f53 f54 f55 f56 f57 f58 f59 f60 f61 f62 f63 f64 f65 f66 f67 f68 f69 f70 f71 f72 f73 f74 f75 f76 f77 f78 f79 f80 f81 f82 f83 f84 f85 f86 f87 f88 f89 f90 f91 f92 f93 f94 f95 f96 f97 f98 f99 f100 f101 f102 f103 f104 f105 f106 f107 f108 f109 f110 f111 f112 f113 f114 f115 f116 f117 f118 f119 f120 f121 f122 f123 f124 f125 f126 f127 f128 f129 f130 f131 f132 f133 f134 f135 f136 f137 f138 f139 f140 f141 f142 f143 f144 f145 f146 f147 f148 f149 f150 f151 f152 f153 f154 f155 f156 f157 f158 f159 f160 f161 f162 f163 f164 f165 f166 f167 f168 f169 f170 f171 f172 : Value} {ds : List Deferred} {rd : Option Nat} {Q : QP} (I : Nat → Value → Heap → Prop) (hb : ∀ (m : Nat) (v20 : Value) (h : Heap) (x10 x11 x12 x21 x22 x23 x24 x25 x26 x27 x28 x29 x30 x31 x32 x33 x34 x35 x36 x37 x38 x39 x40 x41 x42 x43 x44 x45 x46 x47 : Value) , I m v20 h → RunC Tryz.prog T0 blake_words_block_l1 ⟨[f0, f1, f2, f3, f4, f5, f6, f7, f8, f9, x10, x11, x12, f13, f14, f15, f16, f17, f18, f19, v20, x21, x22, x23, x24, x25, x26, x27, x28, x29, x30, x31, x32, x33, x34, x35, x36, x37, x38, x39, x40, x41, x42, x43, x44, x45, x46, x47, f48, f49, f50, f51, f52, f53, f54, f55, f56, f57, f58, f59, f60, f61, f62, f63, f64, f65, f66, f67, f68, f69, f70, f71, f72, f73, f74, f75, f76, f77, f78, f79, f80, f81, f82, f83, f84, f85, f86, f87, f88, f89, f90, f91, f92, f93, f94, f95, f96, f97, f98, f99, f100, f101, f102, f103, f104, f105, f106, f107, f108, f109, f110, f111, f112, f113, f114, f115, f116, f117, f118, f119, f120, f121, f122, f123, f124, f125, f126, f127, f128, f129, f130, f131, f132, f133, f134, f135, f136, f137, f138, f139, f140, f141, f142, f143, f144, f145, f146, f147, f148, f149, f150, f151, f152, f153, f154, f155, f156, f157, f158, f159, f160, f161, f162, f163, f164, f165, f166, f167, f168, f169, f170, f171, f172], ds, h, rd⟩ (loopQ (blake_words_block_l1_J f0 f1 f2 f3 f4 f5 f6 f7 f8 f9 f13 f14 f15 f16 f17 f18 f19 f48 f49 f50 f51 f52 f53 f54 f55 f56 f57 f58 f59 f60 f61 f62 f63 f64 f65 f66 f67 f68 f69 f70 f71 f72 f73 f74 f75 f76 f77 f78 f79 f80 f81 f82 f83 f84 f85 f86 f87 f88 f89 f90 f91 f92 f93 f94 f95 f96 f97 f98 f99 f100 f101 f102 f103 f104 f105 f106 f107 f108 f109 f110 f111 f112 f113 f114 f115 f116 f117 f118 f119 f120 f121 f122 f123 f124 f125 f126 f127 f128 f129 f130 f131 f132 f133 f134 f135 f136 f137 f138 f139 f140 f141 f142 f143 f144 f145 f146 f147 f148 f149 f150 f151 f152 f153 f154 f155 f156 f157 f158 f159 f160 f161 f162 f163 f164 f165 f166 f167 f168 f169 f170 f171 f172 ds rd I) m Q))
    (m : Nat) {v20 : Value} {h : Heap} {x10 x11 x12 x21 x22 x23 x24 x25 x26 x27 x28 x29 x30 x31 x32 x33 x34 x35 x36 x37 x38 x39 x40 x41 x42 x43 x44 x45 x46 x47 : Value} (hi : I m v20 h) : RunC Tryz.prog T0 (.loop blake_words_block_l1) ⟨[f0, f1, f2, f3, f4, f5, f6, f7, f8, f9, x10, x11, x12, f13, f14, f15, f16, f17, f18, f19, v20, x21, x22, x23, x24, x25, x26, x27, x28, x29, x30, x31, x32, x33, x34, x35, x36, x37, x38, x39, x40, x41, x42, x43, x44, x45, x46, x47, f48, f49, f50, f51, f52, f53, f54, f55, f56, f57, f58, f59, f60, f61, f62, f63, f64, f65, f66, f67, f68, f69, f70, f71, f72, f73, f74, f75, f76, f77, f78, f79, f80, f81, f82, f83, f84, f85, f86, f87, f88, f89, f90, f91, f92, f93, f94, f95, f96, f97, f98, f99, f100, f101, f102, f103, f104, f105, f106, f107, f108, f109, f110, f111, f112, f113, f114, f115, f116, f117, f118, f119, f120, f121, f122, f123, f124, f125, f126, f127, f128, f129, f130, f131, f132, f133, f134, f135, f136, f137, f138, f139, f140, f141, f142, f143, f144, f145, f146, f147, f148, f149, f150, f151, f152, f153, f154, f155, f156, f157, f158, f159, f160, f161, f162, f163, f164, f165, f166, f167, f168, f169, f170, f171, f172], ds, h, rd⟩ Q :=
  RunC.loopJ (blake_words_block_l1_J f0 f1 f2 f3 f4 f5 f6 f7 f8 f9 f13 f14 f15 f16 f17 f18 f19 f48 f49 f50 f51 f52 f53 f54 f55 f56 f57 f58 f59 f60 f61 f62 f63 f64 f65 f66 f67 f68 f69 f70 f71 f72 f73 f74 f75 f76 f77 f78 f79 f80 f81 f82 f83 f84 f85 f86 f87 f88 f89 f90 f91 f92 f93 f94 f95 f96 f97 f98 f99 f100 f101 f102 f103 f104 f105 f106 f107 f108 f109 f110 f111 f112 f113 f114 f115 f116 f117 f118 f119 f120 f121 f122 f123 f124 f125 f126 f127 f128 f129 f130 f131 f132 f133 f134 f135 f136 f137 f138 f139 f140 f141 f142 f143 f144 f145 f146 f147 f148 f149 f150 f151 f152 f153 f154 f155 f156 f157 f158 f159 f160 f161 f162 f163 f164 f165 f166 f167 f168 f169 f170 f171 f172 ds rd I) (fun m s hj => by obtain ⟨v20, h, x10, x11, x12, x21, x22, x23, x24, x25, x26, x27, x28, x29, x30, x31, x32, x33, x34, x35, x36, x37, x38, x39, x40, x41, x42, x43, x44, x45, x46, x47, rfl, hi⟩ := hj; exact hb m v20 h x10 x11 x12 x21 x22 x23 x24 x25 x26 x27 x28 x29 x30 x31 x32 x33 x34 x35 x36 x37 x38 x39 x40 x41 x42 x43 x44 x45 x46 x47 hi) m _ ⟨_, h, _, _, _, _, _, _, _, _, _, _, _, _, _, _, _, _, _, _, _, _, _, _, _, _, _, _, _, _, _, _, rfl, hi⟩
theorem blake_words_block_l1_again {f0 f1 f2 f3 f4 f5 f6 f7 f8 f9 f13 f14 f15 f16 f17 f18 f19 f48 f49 f50 f51 f52 f53 f54 f55 f56 f57 f58 f59 f60 f61 f62 f63 f64 f65 f66 f67 f68 f69 f70 f71 f72 f73 f74 f75 f76 f77 f78 f79 f80 f81 f82 f83 f84 f85 f86 f87 f88 f89 f90 f91 f92 f93 f94 f95 f96 f97 f98 f99 f100 f101 f102 f103 f104 f105 f106 f107 f108 f109 f110 f111 f112 f113 f114 f115 f116 f117 f118 f119 f120 f121 f122 f123 f124 f125 f126 f127 f128 f129 f130 f131 f132 f133 f134 f135 f136 f137 f138 f139 f140 f141 f142 f143 f144 f145 f146 f147 f148 f149 f150 f151 f152 f153 f154 f155 f156 f157 f158 f159 f160 f161 f162 f163 f164 f165 f166 f167 f168 f169 f170 f171 f172 : Value} {ds : List Deferred} {rd : Option Nat} {Q : QP} {I : Nat → Value → Heap → Prop} {m : Nat} (m' : Nat) {v20 : Value} {h : Heap} {x10 x11 x12 x21 x22 x23 x24 x25 x26 x27 x28 x29 x30 x31 x32 x33 x34 x35 x36 x37 x38 x39 x40 x41 x42 x43 x44 x45 x46 x47 : Value} (hm : m' < m) (hi : I m' v20 h) : loopQ (blake_words_block_l1_J f0 f1 f2 f3 f4 f5 f6 f7 f8 f9 f13 f14 f15 f16 f17 f18 f19 f48 f49 f50 f51 f52 f53 f54 f55 f56 f57 f58 f59 f60 f61 f62 f63 f64 f65 f66 f67 f68 f69 f70 f71 f72 f73 f74 f75 f76 f77 f78 f79 f80 f81 f82 f83 f84 f85 f86 f87 f88 f89 f90 f91 f92 f93 f94 f95 f96 f97 f98 f99 f100 f101 f102 f103 f104 f105 f106 f107 f108 f109 f110 f111 f112 f113 f114 f115 f116 f117 f118 f119 f120 f121 f122 f123 f124 f125 f126 f127 f128 f129 f130 f131 f132 f133 f134 f135 f136 f137 f138 f139 f140 f141 f142 f143 f144 f145 f146 f147 f148 f149 f150 f151 f152 f153 f154 f155 f156 f157 f158 f159 f160 f161 f162 f163 f164 f165 f166 f167 f168 f169 f170 f171 f172 ds rd I) m Q .normal ⟨[f0, f1, f2, f3, f4, f5, f6, f7, f8, f9, x10, x11, x12, f13, f14, f15, f16, f17, f18, f19, v20, x21, x22, x23, x24, x25, x26, x27, x28, x29, x30, x31, x32, x33, x34, x35, x36, x37, x38, x39, x40, x41, x42, x43, x44, x45, x46, x47, f48, f49, f50, f51, f52, f53, f54, f55, f56, f57, f58, f59, f60, f61, f62, f63, f64, f65, f66, f67, f68, f69, f70, f71, f72, f73, f74, f75, f76, f77, f78, f79, f80, f81, f82, f83, f84, f85, f86, f87, f88, f89, f90, f91, f92, f93, f94, f95, f96, f97, f98, f99, f100, f101, f102, f103, f104, f105, f106, f107, f108, f109, f110, f111, f112, f113, f114, f115, f116, f117, f118, f119, f120, f121, f122, f123, f124, f125, f126, f127, f128, f129, f130, f131, f132, f133, f134, f135, f136, f137, f138, f139, f140, f141, f142, f143, f144, f145, f146, f147, f148, f149, f150, f151, f152, f153, f154, f155, f156, f157, f158, f159, f160, f161, f162, f163, f164, f165, f166, f167, f168, f169, f170, f171, f172], ds, h, rd⟩ :=
  loopQ.again m' hm ⟨_, h, _, _, _, _, _, _, _, _, _, _, _, _, _, _, _, _, _, _, _, _, _, _, _, _, _, _, _, _, _, _, rfl, hi⟩
/-- the slots that turn in the loop: v90 -/
noncomputable def blake_words_block_l2_J (f0 f1 f2 f3 f4 f5 f6 f7 f8 f9 f10 f11 f12 f13 f14 f15 f16 f18 f19 f20 f21 f22 f23 f24 f25 f26 f27 f28 f29 f30 f31 f32 f33 f34 f35 f36 f37 f38 f39 f40 f41 f42 f43 f44 f45 f46 f47 f48 f49 f50 f51 f52 f53 f54 f55 f56 f57 f58 f59 f60 f61 f62 f63 f64 f65 f66 f67 f68 f69 f70 f71 f72 f73 f74 f75 f76 f77 f78 f79 f80 f81 f82 f83 f84 f85 f86 f87 f88 f89 f118 f119 f120 f121 f122 f123 f124 f125 f126 f127 f128 f129 f130 f131 f132 f133 f134 f135 f136 f137 f138 f139 f140 f141 f142 f143 f144 f145 f146 f147 f148 f149 f150 f151 f152 f153 f154 f155 f156 f157 f158 f159 f160 f161 f162 f163 f164 f165 f166 f167 f168 f169 f170 f171 f172 : Value) (ds : List Deferred) (rd : Option Nat) (I : Nat → Value → Heap → Prop) (m : Nat) (s : St) : Prop := ∃ (v90 : Value), ∃ h : Heap, ∃ (x17 x91 x92 x93 x94 x95 x96 x97 x98 x99 x100 x101 x102 x103 x104 x105 x106 x107 x108 x109 x110 x111 x112 x113 x114 x115 x116 x117 : Value), s = ⟨[f0, f1, f2, f3, f4, f5, f6, f7, f8, f9, f10, f11, f12, f13, f14, f15, f16, x17, f18, f19, f20, f21, f22, f23, f24, f25, f26, f27, f28, f29, f30, f31, f32, f33, f34, f35, f36, f37, f38, f39, f40, f41, f42, f43, f44, f45, f46, f47, f48, f49, f50, f51, f52, f53, f54, f55, f56, f57, f58, f59, f60, f61, f62, f63, f64, f65, f66, f67, f68, f69, f70, f71, f72, f73, f74, f75, f76, f77, f78, f79, f80, f81, f82, f83, f84, f85, f86, f87, f88, f89, v90, x91, x92, x93, x94, x95, x96, x97, x98, x99, x100, x101, x102, x103, x104, x105, x106, x107, x108, x109, x110, x111, x112, x113, x114, x115, x116, x117, f118, f119, f120, f121, f122, f123, f124, f125, f126, f127, f128, f129, f130, f131, f132, f133, f134, f135, f136, f137, f138, f139, f140, f141, f142, f143, f144, f145, f146, f147, f148, f149, f150, f151, f152, f153, f154, f155, f156, f157, f158, f159, f160, f161, f162, f163, f164, f165, f166, f167, f168, f169, f170, f171, f172], ds, h, rd⟩ ∧ I m v90 h
theorem blake_words_block_l2_rule {f0 f1 f2 f3 f4 f5 f6 f7 f8 f9 f10 f11 f12 f13 f14 f15 f16 f18 f19 f20 f21 f22 f23 f24 f25 f26 f27 f28 f29 f30 f31 f32 f33 f34 f35 f36 f37 f38 f39 f40 f41 f42 f43 f44 f45 f46 f47 f48 f49 f50 f51 f52 f53 f54 f55 f56 f57 f58 f59 f60 f61 f62 f63 f64 f65 f66 f67 f68 f69 f70 f71 f72 f73 f74 f75 f76 f77 f78 f79 f80 f81 f82 f83 f84 f85 f86 f87 f88 f89 f118 f119 f120 f121 f122 f123 f124 f125 f126 f127 f128 f129 f130 f131 f132 f133 f134 f135 f136 f137 f138 f139 f140 f141 f142 f143 f144 f145 f146 f147 f148 f149 f150 f151 f152 f153 f154 f155 f156 f157 f158 f159 f160 f161 f162 f163 f164 f165 f166 f167 f168 f169 f170 f171 f172 : Value} {ds : List Deferred} {rd : Option Nat} {Q : QP} (I : Nat → Value → Heap → Prop) (hb : ∀ (m : Nat) (v90 : Value) (h : Heap) (x17 x91 x92 x93 x94 x95 x96 x97 x98 x99 x100 x101 x102 x103 x104 x105 x106 x107 x108 x109 x110 x111 x112 x113 x114 x115 x116 x117 : Value) , I m v90 h → RunC Tryz.prog T0 blake_words_block_l2 ⟨[f0, f1, f2, f3, f4, f5, f6, f7, f8, f9, f10, f11, f12, f13, f14, f15, f16, x17, f18, f19, f20, f21, f22, f23, f24, f25, f26, f27, f28, f29, f30, f31, f32, f33, f34, f35, f36, f37, f38, f39, f40, f41, f42, f43, f44, f45, f46, f47, f48, f49, f50, f51, f52, f53, f54, f55, f56, f57, f58, f59, f60, f61, f62, f63, f64, f65, f66, f67, f68, f69, f70, f71, f72, f73, f74, f75, f76, f77, f78, f79, f80, f81, f82, f83, f84, f85, f86, f87, f88, f89, v90, x91, x92, x93, x94, x95, x96, x97, x98, x99, x100, x101, x102, x103, x104, x105, x106, x107, x108, x109, x110, x111, x112, x113, x114, x115, x116, x117, f118, f119, f120, f121, f122, f123, f124, f125, f126, f127, f128, f129, f130, f131, f132, f133, f134, f135, f136, f137, f138, f139, f140, f141, f142, f143, f144, f145, f146, f147, f148, f149, f150, f151, f152, f153, f154, f155, f156, f157, f158, f159, f160, f161, f162, f163, f164, f165, f166, f167, f168, f169, f170, f171, f172], ds, h, rd⟩ (loopQ (blake_words_block_l2_J f0 f1 f2 f3 f4 f5 f6 f7 f8 f9 f10 f11 f12 f13 f14 f15 f16 f18 f19 f20 f21 f22 f23 f24 f25 f26 f27 f28 f29 f30 f31 f32 f33 f34 f35 f36 f37 f38 f39 f40 f41 f42 f43 f44 f45 f46 f47 f48 f49 f50 f51 f52 f53 f54 f55 f56 f57 f58 f59 f60 f61 f62 f63 f64 f65 f66 f67 f68 f69 f70 f71 f72 f73 f74 f75 f76 f77 f78 f79 f80 f81 f82 f83 f84 f85 f86 f87 f88 f89 f118 f119 f120 f121 f122 f123 f124 f125 f126 f127 f128 f129 f130 f131 f132 f133 f134 f135 f136 f137 f138 f139 f140 f141 f142 f143 f144 f145 f146 f147 f148 f149 f150 f151 f152 f153 f154 f155 f156 f157 f158 f159 f160 f161 f162 f163 f164 f165 f166 f167 f168 f169 f170 f171 f172 ds rd I) m Q))
    (m : Nat) {v90 : Value} {h : Heap} {x17 x91 x92 x93 x94 x95 x96 x97 x98 x99 x100 x101 x102 x103 x104 x105 x106 x107 x108 x109 x110 x111 x112 x113 x114 x115 x116 x117 : Value} (hi : I m v90 h) : RunC Tryz.prog T0 (.loop blake_words_block_l2) ⟨[f0, f1, f2, f3, f4, f5, f6, f7, f8, f9, f10, f11, f12, f13, f14, f15, f16, x17, f18, f19, f20, f21, f22, f23, f24, f25, f26, f27, f28, f29, f30, f31, f32, f33, f34, f35, f36, f37, f38, f39, f40, f41, f42, f43, f44, f45, f46, f47, f48, f49, f50, f51, f52, f53, f54, f55, f56, f57, f58, f59, f60, f61, f62, f63, f64, f65, f66, f67, f68, f69, f70, f71, f72, f73, f74, f75, f76, f77, f78, f79, f80, f81, f82, f83, f84, f85, f86, f87, f88, f89, v90, x91, x92, x93, x94, x95, x96, x97, x98, x99, x100, x101, x102, x103, x104, x105, x106, x107, x108, x109, x110, x111, x112, x113, x114, x115, x116, x117, f118, f119, f120, f121, f122, f123, f124, f125, f126, f127, f128, f129, f130, f131, f132, f133, f134, f135, f136, f137, f138, f139, f140, f141, f142, f143, f144, f145, f146, f147, f148, f149, f150, f151, f152, f153, f154, f155, f156, f157, f158, f159, f160, f161, f162, f163, f164, f165, f166, f167, f168, f169, f170, f171, f172], ds, h, rd⟩ Q :=
  RunC.loopJ (blake_words_block_l2_J f0 f1 f2 f3 f4 f5 f6 f7 f8 f9 f10 f11 f12 f13 f14 f15 f16 f18 f19 f20 f21 f22 f23 f24 f25 f26 f27 f28 f29 f30 f31 f32 f33 f34 f35 f36 f37 f38 f39 f40 f41 f42 f43 f44 f45 f46 f47 f48 f49 f50 f51 f52 f53 f54 f55 f56 f57 f58 f59 f60 f61 f62 f63 f64 f65 f66 f67 f68 f69 f70 f71 f72 f73 f74 f75 f76 f77 f78 f79 f80 f81 f82 f83 f84 f85 f86 f87 f88 f89 f118 f119 f120 f121 f122 f123 f124 f125 f126 f127 f128 f129 f130 f131 f132 f133 f134 f135 f136 f137 f138 f139 f140 f141 f142 f143 f144 f145 f146 f147 f148 f149 f150 f151 f152 f153 f154 f155 f156 f157 f158 f159 f160 f161 f162 f163 f164 f165 f166 f167 f168 f169 f170 f171 f172 ds rd I) (fun m s hj => by obtain ⟨v90, h, x17, x91, x92, x93, x94, x95, x96, x97, x98, x99, x100, x101, x102, x103, x104, x105, x106, x107, x108, x109, x110, x111, x112, x113, x114, x115, x116, x117, rfl, hi⟩ := hj; exact hb m v90 h x17 x91 x92 x93 x94 x95 x96 x97 x98 x99 x100 x101 x102 x103 x104 x105 x106 x107 x108 x109 x110 x111 x112 x113 x114 x115 x116 x117 hi) m _ ⟨_, h, _, _, _, _, _, _, _, _, _, _, _, _, _, _, _, _, _, _, _, _, _, _, _, _, _, _, _, _, rfl, hi⟩
theorem blake_words_block_l2_again {f0 f1 f2 f3 f4 f5 f6 f7 f8 f9 f10 f11 f12 f13 f14 f15 f16 f18 f19 f20 f21 f22 f23 f24 f25 f26 f27 f28 f29 f30 f31 f32 f33 f34 f35 f36 f37 f38 f39 f40 f41 f42 f43 f44 f45 f46 f47 f48 f49 f50 f51 f52 f53 f54 f55 f56 f57 f58 f59 f60 f61 f62 f63 f64 f65 f66 f67 f68 f69 f70 f71 f72 f73 f74 f75 f76 f77 f78 f79 f80 f81 f82 f83 f84 f85 f86 f87 f88 f89 f118 f119 f120 f121 f122 f123 f124 f125 f126 f127 f128 f129 f130 f131 f132 f133 f134 f135 f136 f137 f138 f139 f140 f141 f142 f143 f144 f145 f146 f147 f148 f149 f150 f151 f152 f153 f154 f155 f156 f157 f158 f159 f160 f161 f162 f163 f164 f165 f166 f167 f168 f169 f170 f171 f172 : Value} {ds : List Deferred} {rd : Option Nat} {Q : QP} {I : Nat → Value → Heap → Prop} {m : Nat} (m' : Nat) {v90 : Value} {h : Heap} {x17 x91 x92 x93 x94 x95 x96 x97 x98 x99 x100 x101 x102 x103 x104 x105 x106 x107 x108 x109 x110 x111 x112 x113 x114 x115 x116 x117 : Value} (hm : m' < m) (hi : I m' v90 h) : loopQ (blake_words_block_l2_J f0 f1 f2 f3 f4 f5 f6 f7 f8 f9 f10 f11 f12 f13 f14 f15 f16 f18 f19 f20 f21 f22 f23 f24 f25 f26 f27 f28 f29 f30 f31 f32 f33 f34 f35 f36 f37 f38 f39 f40 f41 f42 f43 f44 f45 f46 f47 f48 f49 f50 f51 f52 f53 f54 f55 f56 f57 f58 f59 f60 f61 f62 f63 f64 f65 f66 f67 f68 f69 f70 f71 f72 f73 f74 f75 f76 f77 f78 f79 f80 f81 f82 f83 f84 f85 f86 f87 f88 f89 f118 f119 f120 f121 f122 f123 f124 f125 f126 f127 f128 f129 f130 f131 f132 f133 f134 f135 f136 f137 f138 f139 f140 f141 f142 f143 f144 f145 f146 f147 f148 f149 f150 f151 f152 f153 f154 f155 f156 f157 f158 f159 f160 f161 f162 f163 f164 f165 f166 f167 f168 f169 f170 f171 f172 ds rd I) m Q .normal ⟨[f0, f1, f2, f3, f4, f5, f6, f7, f8, f9, f10, f11, f12, f13, f14, f15, f16, x17, f18, f19, f20, f21, f22, f23, f24, f25, f26, f27, f28, f29, f30, f31, f32, f33, f34, f35, f36, f37, f38, f39, f40, f41, f42, f43, f44, f45, f46, f47, f48, f49, f50, f51, f52, f53, f54, f55, f56, f57, f58, f59, f60, f61, f62, f63, f64, f65, f66, f67, f68, f69, f70, f71, f72, f73, f74, f75, f76, f77, f78, f79, f80, f81, f82, f83, f84, f85, f86, f87, f88, f89, v90, x91, x92, x93, x94, x95, x96, x97, x98, x99, x100, x101, x102, x103, x104, x105, x106, x107, x108, x109, x110, x111, x112, x113, x114, x115, x116, x117, f118, f119, f120, f121, f122, f123, f124, f125, f126, f127, f128, f129, f130, f131, f132, f133, f134, f135, f136, f137, f138, f139, f140, f141, f142, f143, f144, f145, f146, f147, f148, f149, f150, f151, f152, f153, f154, f155, f156, f157, f158, f159, f160, f161, f162, f163, f164, f165, f166, f167, f168, f169, f170, f171, f172], ds, h, rd⟩ :=
  loopQ.again m' hm ⟨_, h, _, _, _, _, _, _, _, _, _, _, _, _, _, _, _, _, _, _, _, _, _, _, _, _, _, _, _, _, rfl, hi⟩
/-- the slots that turn in the loop: v118 -/
noncomputable def blake_words_block_l3_J (f0 f1 f2 f3 f4 f5 f6 f7 f8 f9 f10 f11 f12 f13 f14 f15 f16 f17 f19 f20 f21 f22 f23 f24 f25 f26 f27 f28 f29 f30 f31 f32 f33 f34 f35 f36 f37 f38 f39 f40 f41 f42 f43 f44 f45 f46 f47 f48 f49 f50 f51 f52 f53 f54 f55 f56 f57 f58 f59 f60 f61 f62 f63 f64 f65 f66 f67 f68 f69 f70 f71 f72 f73 f74 f75 f76 f77 f78 f79 f80 f81 f82 f83 f84 f85 f86 f87 f88 f89 f90 f91 f92 f93 f94 f95 f96 f97 f98 f99 f100 f101 f102 f103 f104 f105 f106 f107 f108 f109 f110 f111 f112 f113 f114 f115 f116 f117 f153 f154 f155 f156 f157 f158 f159 f160 f161 f162 f163 f164 f165 f166 f167 f168 f169 f170 f171 f172 : Value) (ds : List Deferred) (rd : Option Nat) (I : Nat → Value → Heap → Prop) (m : Nat) (s : St) : Prop := ∃ (v118 : Value), ∃ h : Heap, ∃ (x18 x119 x120 x121 x122 x123 x124 x125 x126 x127 x128 x129 x130 x131 x132 x133 x134 x135 x136 x137 x138 x139 x140 x141 x142 x143 x144 x145 x146 x147 x148 x149 x150 x151 x152 : Value), s = ⟨[f0, f1, f2, f3, f4, f5, f6, f7, f8, f9, f10, f11, f12, f13, f14, f15, f16, f17, x18, f19, f20, f21, f22, f23, f24, f25, f26, f27, f28, f29, f30, f31, f32, f33, f34, f35, f36, f37, f38, f39, f40, f41, f42, f43, f44, f45, f46, f47, f48, f49, f50, f51, f52, f53, f54, f55, f56, f57, f58, f59, f60, f61, f62, f63, f64, f65, f66, f67, f68, f69, f70, f71, f72, f73, f74, f75, f76, f77, f78, f79, f80, f81, f82, f83, f84, f85, f86, f87, f88, f89, f90, f91, f92, f93, f94, f95, f96, f97, f98, f99, f100, f101, f102, f103, f104, f105, f106, f107, f108, f109, f110, f111, f112, f113, f114, f115, f116, f117, v118, x119, x120, x121, x122, x123, x124, x125, x126, x127, x128, x129, x130, x131, x132, x133, x134, x135, x136, x137, x138, x139, x140, x141, x142, x143, x144, x145, x146, x147, x148, x149, x150, x151, x152, f153, f154, f155, f156, f157, f158, f159, f160, f161, f162, f163, f164, f165, f166, f167, f168, f169, f170, f171, f172], ds, h, rd⟩ ∧ I m v118 h
theorem blake_words_block_l3_rule {f0 f1 f2 f3 f4 f5 f6 f7 f8 f9 f10 f11 f12 f13 f14 f15 f16 f17 f19 f20 f21 f22 f23 f24 f25 f26 f27 f28 f29 f30 f31 f32 f33 f34 f35 f36 f37 f38 f39 f40 f41 f42 f43 f44 f45 f46 f47 f48 f49 f50 f51 f52 f53 f54 f55 f56 f57 f58 f59 f60 f61 f62 f63 f64 f65 f66 f67 f68 f69 f70 f71 f72 f73 f74 f75 f76 f77 f78 f79 f80 f81 f82 f83 f84 f85 f86 f87 f88 f89 f90 f91 f92 f93 f94 f95 f96 f97 f98 f99 f100 f101 f102 f103 f104 f105 f106 f107 f108 f109 f110 f111 f112 f113 f114 f115 f116 f117 f153 f154 f155 f156 f157 f158 f159 f160 f161 f162 f163 f164 f165 f166 f167 f168 f169 f170 f171 f172 : Value} {ds : List Deferred} {rd : Option Nat} {Q : QP} (I : Nat → Value → Heap → Prop) (hb : ∀ (m : Nat) (v118 : Value) (h : Heap) (x18 x119 x120 x121 x122 x123 x124 x125 x126 x127 x128 x129 x130 x131 x132 x133 x134 x135 x136 x137 x138 x139 x140 x141 x142 x143 x144 x145 x146 x147 x148 x149 x150 x151 x152 : Value) , I m v118 h → RunC Tryz.prog T0 blake_words_block_l3 ⟨[f0, f1, f2, f3, f4, f5, f6, f7, f8, f9, f10, f11, f12, f13, f14, f15, f16, f17, x18, f19, f20, f21, f22, f23, f24, f25, f26, f27, f28, f29, f30, f31, f32, f33, f34, f35, f36, f37, f38, f39, f40, f41, f42, f43, f44, f45, f46, f47, f48, f49, f50, f51, f52, f53, f54, f55, f56, f57, f58, f59, f60, f61, f62, f63, f64, f65, f66, f67, f68, f69, f70, f71, f72, f73, f74, f75, f76, f77, f78, f79, f80, f81, f82, f83, f84, f85, f86, f87, f88, f89, f90, f91, f92, f93, f94, f95, f96, f97, f98, f99, f100, f101, f102, f103, f104, f105, f106, f107, f108, f109, f110, f111, f112, f113, f114, f115, f116, f117, v118, x119, x120, x121, x122, x123, x124, x125, x126, x127, x128, x129, x130, x131, x132, x133, x134, x135, x136, x137, x138, x139, x140, x141, x142, x143, x144, x145, x146, x147, x148, x149, x150, x151, x152, f153, f154, f155, f156, f157, f158, f159, f160, f161, f162, f163, f164, f165, f166, f167, f168, f169, f170, f171, f172], ds, h, rd⟩ (loopQ (blake_words_block_l3_J f0 f1 f2 f3 f4 f5 f6 f7 f8 f9 f10 f11 f12 f13 f14 f15 f16 f17 f19 f20 f21 f22 f23 f24 f25 f26 f27 f28 f29 f30 f31 f32 f33 f34 f35 f36 f37 f38 f39 f40 f41 f42 f43 f44 f45 f46 f47 f48 f49 f50 f51 f52 f53 f54 f55 f56 f57 f58 f59 f60 f61 f62 f63 f64 f65 f66 f67 f68 f69 f70 f71 f72 f73 f74 f75 f76 f77 f78 f79 f80 f81 f82 f83 f84 f85 f86 f87 f88 f89 f90 f91 f92 f93 f94 f95 f96 f97 f98 f99 f100 f101 f102 f103 f104 f105 f106 f107 f108 f109 f110 f111 f112 f113 f114 f115 f116 f117 f153 f154 f155 f156 f157 f158 f159 f160 f161 f162 f163 f164 f165 f166 f167 f168 f169 f170 f171 f172 ds rd I) m Q))
    (m : Nat) {v118 : Value} {h : Heap} {x18 x119 x120 x121 x122 x123 x124 x125 x126 x127 x128 x129 x130 x131 x132 x133 x134 x135 x136 x137 x138 x139 x140 x141 x142 x143 x144 x145 x146 x147 x148 x149 x150 x151 x152 : Value} (hi : I m v118 h) : RunC Tryz.prog T0 (.loop blake_words_block_l3) ⟨[f0, f1, f2, f3, f4, f5, f6, f7, f8, f9, f10, f11, f12, f13, f14, f15, f16, f17, x18, f19, f20, f21, f22, f23, f24, f25, f26, f27, f28, f29, f30, f31, f32, f33, f34, f35, f36, f37, f38, f39, f40, f41, f42, f43, f44, f45, f46, f47, f48, f49, f50, f51, f52, f53, f54, f55, f56, f57, f58, f59, f60, f61, f62, f63, f64, f65, f66, f67, f68, f69, f70, f71, f72, f73, f74, f75, f76, f77, f78, f79, f80, f81, f82, f83, f84, f85, f86, f87, f88, f89, f90, f91, f92, f93, f94, f95, f96, f97, f98, f99, f100, f101, f102, f103, f104, f105, f106, f107, f108, f109, f110, f111, f112, f113, f114, f115, f116, f117, v118, x119, x120, x121, x122, x123, x124, x125, x126, x127, x128, x129, x130, x131, x132, x133, x134, x135, x136, x137, x138, x139, x140, x141, x142, x143, x144, x145, x146, x147, x148, x149, x150, x151, x152, f153, f154, f155, f156, f157, f158, f159, f160, f161, f162, f163, f164, f165, f166, f167, f168, f169, f170, f171, f172], ds, h, rd⟩ Q :=
  RunC.loopJ (blake_words_block_l3_J f0 f1 f2 f3 f4 f5 f6 f7 f8 f9 f10 f11 f12 f13 f14 f15 f16 f17 f19 f20 f21 f22 f23 f24 f25 f26 f27 f28 f29 f30 f31 f32 f33 f34 f35 f36 f37 f38 f39 f40 f41 f42 f43 f44 f45 f46 f47 f48 f49 f50 f51 f52 f53 f54 f55 f56 f57 f58 f59 f60 f61 f62 f63 f64 f65 f66 f67 f68 f69 f70 f71 f72 f73 f74 f75 f76 f77 f78 f79 f80 f81 f82 f83 f84 f85 f86 f87 f88 f89 f90 f91 f92 f93 f94 f95 f96 f97 f98 f99 f100 f101 f102 f103 f104 f105 f106 f107 f108 f109 f110 f111 f112 f113 f114 f115 f116 f117 f153 f154 f155 f156 f157 f158 f159 f160 f161 f162 f163 f164 f165 f166 f167 f168 f169 f170 f171 f172 ds rd I) (fun m s hj => by obtain ⟨v118, h, x18, x119, x120, x121, x122, x123, x124, x125, x126, x127, x128, x129, x130, x131, x132, x133, x134, x135, x136, x137, x138, x139, x140, x141, x142, x143, x144, x145, x146, x147, x148, x149, x150, x151, x152, rfl, hi⟩ := hj; exact hb m v118 h x18 x119 x120 x121 x122 x123 x124 x125 x126 x127 x128 x129 x130 x131 x132 x133 x134 x135 x136 x137 x138 x139 x140 x141 x142 x143 x144 x145 x146 x147 x148 x149 x150 x151 x152 hi) m _ ⟨_, h, _, _, _, _, _, _, _, _, _, _, _, _, _, _, _, _, _, _, _, _, _, _, _, _, _, _, _, _, _, _, _, _, _, _, _, rfl, hi⟩
theorem blake_words_block_l3_again {f0 f1 f2 f3 f4 f5 f6 f7 f8 f9 f10 f11 f12 f13 f14 f15 f16 f17 f19 f20 f21 f22 f23 f24 f25 f26 f27 f28 f29 f30 f31 f32 f33 f34 f35 f36 f37 f38 f39 f40 f41 f42 f43 f44 f45 f46 f47 f48 f49 f50 f51 f52 f53 f54 f55 f56 f57 f58 f59 f60 f61 f62 f63 f64 f65 f66 f67 f68 f69 f70 f71 f72 f73 f74 f75 f76 f77 f78 f79 f80 f81 f82 f83 f84 f85 f86 f87 f88 f89 f90 f91 f92 f93 f94 f95 f96 f97 f98 f99 f100 f101 f102 f103 f104 f105 f106 f107 f108 f109 f110 f111 f112 f113 f114 f115 f116 f117 f153 f154 f155 f156 f157 f158 f159 f160 f161 f162 f163 f164 f165 f166 f167 f168 f169 f170 f171 f172 : Value} {ds : List Deferred} {rd : Option Nat} {Q : QP} {I : Nat → Value → Heap → Prop} {m : Nat} (m' : Nat) {v118 : Value} {h : Heap} {x18 x119 x120 x121 x122 x123 x124 x125 x126 x127 x128 x129 x130 x131 x132 x133 x134 x135 x136 x137 x138 x139 x140 x141 x142 x143 x144 x145 x146 x147 x148 x149 x150 x151 x152 : Value} (hm : m' < m) (hi : I m' v118 h) : loopQ (blake_words_block_l3_J f0 f1 f2 f3 f4 f5 f6 f7 f8 f9 f10 f11 f12 f13 f14 f15 f16 f17 f19 f20 f21 f22 f23 f24 f25 f26 f27 f28 f29 f30 f31 f32 f33 f34 f35 f36 f37 f38 f39 f40 f41 f42 f43 f44 f45 f46 f47 f48 f49 f50 f51 f52 f53 f54 f55 f56 f57 f58 f59 f60 f61 f62 f63 f64 f65 f66 f67 f68 f69 f70 f71 f72 f73 f74 f75 f76 f77 f78 f79 f80 f81 f82 f83 f84 f85 f86 f87 f88 f89 f90 f91 f92 f93 f94 f95 f96 f97 f98 f99 f100 f101 f102 f103 f104 f105 f106 f107 f108 f109 f110 f111 f112 f113 f114 f115 f116 f117 f153 f154 f155 f156 f157 f158 f159 f160 f161 f162 f163 f164 f165 f166 f167 f168 f169 f170 f171 f172 ds rd I) m Q .normal ⟨[f0, f1, f2, f3, f4, f5, f6, f7, f8, f9, f10, f11, f12, f13, f14, f15, f16, f17, x18, f19, f20, f21, f22, f23, f24, f25, f26, f27, f28, f29, f30, f31, f32, f33, f34, f35, f36, f37, f38, f39, f40, f41, f42, f43, f44, f45, f46, f47, f48, f49, f50, f51, f52, f53, f54, f55, f56, f57, f58, f59, f60, f61, f62, f63, f64, f65, f66, f67, f68, f69, f70, f71, f72, f73, f74, f75, f76, f77, f78, f79, f80, f81, f82, f83, f84, f85, f86, f87, f88, f89, f90, f91, f92, f93, f94, f95, f96, f97, f98, f99, f100, f101, f102, f103, f104, f105, f106, f107, f108, f109, f110, f111, f112, f113, f114, f115, f116, f117, v118, x119, x120, x121, x122, x123, x124, x125, x126, x127, x128, x129, x130, x131, x132, x133, x134, x135, x136, x137, x138, x139, x140, x141, x142, x143, x144, x145, x146, x147, x148, x149, x150, x151, x152, f153, f154, f155, f156, f157, f158, f159, f160, f161, f162, f163, f164, f165, f166, f167, f168, f169, f170, f171, f172], ds, h, rd⟩ :=
  loopQ.again m' hm ⟨_, h, _, _, _, _, _, _, _, _, _, _, _, _, _, _, _, _, _, _, _, _, _, _, _, _, _, _, _, _, _, _, _, _, _, _, _, rfl, hi⟩
/-- the slots that turn in the loop: v14 -/
noncomputable def blake_words_block_l4_J (f0 f1 f2 f3 f4 f5 f6 f7 f8 f9 f10 f11 f12 f13 f15 f19 f20 f21 f22 f23 f24 f25 f26 f27 f28 f29 f30 f31 f32 f33 f34 f35 f36 f37 f38 f39 f40 f41 f42 f43 f44 f45 f46 f47 f48 f49 f50 f51 f52 f53 f54 f55 f56 f57 f58 f59 f60 f61 f62 f63 f64 f65 f66 f67 f68 f69 f70 f71 f72 f73 f74 f75 f76 f153 f154 f155 f156 f157 f158 f159 f160 f161 f162 f163 f164 f165 f166 f167 f168 f169 f170 f171 f172 : Value) (ds : List Deferred) (rd : Option Nat) (I : Nat → Value → Heap → Prop) (m : Nat) (s : St) : Prop := ∃ (v14 : Value), ∃ h : Heap, ∃ (x16 x17 x18 x77 x78 x79 x80 x81 x82 x83 x84 x85 x86 x87 x88 x89 x90 x91 x92 x93 x94 x95 x96 x97 x98 x99 x100 x101 x102 x103 x104 x105 x106 x107 x108 x109 x110 x111 x112 x113 x114 x115 x116 x117 x118 x119 x120 x121 x122 x123 x124 x125 x126 x127 x128 x129 x130 x131 x132 x133 x134 x135 x136 x137 x138 x139 x140 x141 x142 x143 x144 x145 x146 x147 x148 x149 x150 x151 x152 : Value), s = ⟨[f0, f1, f2, f3, f4, f5, f6, f7, f8, f9, f10, f11, f12, f13, v14, f15, x16, x17, x18, f19, f20, f21, f22, f23, f24, f25, f26, f27, f28, f29, f30, f31, f32, f33, f34, f35, f36, f37, f38, f39, f40, f41, f42, f43, f44, f45, f46, f47, f48, f49, f50, f51, f52, f53, f54, f55, f56, f57, f58, f59, f60, f61, f62, f63, f64, f65, f66, f67, f68, f69, f70, f71, f72, f73, f74, f75, f76, x77, x78, x79, x80, x81, x82, x83, x84, x85, x86, x87, x88, x89, x90, x91, x92, x93, x94, x95, x96, x97, x98, x99, x100, x101, x102, x103, x104, x105, x106, x107, x108, x109, x110, x111, x112, x113, x114, x115, x116, x117, x118, x119, x120, x121, x122, x123, x124, x125, x126, x127, x128, x129, x130, x131, x132, x133, x134, x135, x136, x137, x138, x139, x140, x141, x142, x143, x144, x145, x146, x147, x148, x149, x150, x151, x152, f153, f154, f155, f156, f157, f158, f159, f160, f161, f162, f163, f164, f165, f166, f167, f168, f169, f170, f171, f172], ds, h, rd⟩ ∧ I m v14 h
theorem blake_words_block_l4_rule {f0 f1 f2 f3 f4 f5 f6 f7 f8 f9 f10 f11 f12 f13 f15 f19 f20 f21 f22 f23 f24 f25 f26 f27 f28 f29 f30 f31 f32 f33 f34 f35 f36 f37 f38 f39 f40 f41 f42 f43 f44 f45 f46 f47 f48 f49 f50 f51 f52 f53 f54 f55 f56 f57 f58 f59 f60 f61 f62 f63 f64 f65 f66 f67 f68 f69 f70 f71 f72 f73 f74 f75 f76 f153 f154 f155 f156 f157 f158 f159 f160 f161 f162 f163 f164 f165 f166 f167 f168 f169 f170 f171 f172 : Value} {ds : List Deferred} {rd : Option Nat} {Q : QP} (I : Nat → Value → Heap → Prop) (hb : ∀ (m : Nat) (v14 : Value) (h : Heap) (x16 x17 x18 x77 x78 x79 x80 x81 x82 x83 x84 x85 x86 x87 x88 x89 x90 x91 x92 x93 x94 x95 x96 x97 x98 x99 x100 x101 x102 x103 x104 x105 x106 x107 x108 x109 x110 x111 x112 x113 x114 x115 x116 x117 x118 x119 x120 x121 x122 x123 x124 x125 x126 x127 x128 x129 x130 x131 x132 x133 x134 x135 x136 x137 x138 x139 x140 x141 x142 x143 x144 x145 x146 x147 x148 x149 x150 x151 x152 : Value) , I m v14 h → RunC Tryz.prog T0 blake_words_block_l4 ⟨[f0, f1, f2, f3, f4, f5, f6, f7, f8, f9, f10, f11, f12, f13, v14, f15, x16, x17, x18, f19, f20, f21, f22, f23, f24, f25, f26, f27, f28, f29, f30, f31, f32, f33, f34, f35, f36, f37, f38, f39, f40, f41, f42, f43, f44, f45, f46, f47, f48, f49, f50, f51, f52, f53, f54, f55, f56, f57, f58, f59, f60, f61, f62, f63, f64, f65, f66, f67, f68, f69, f70, f71, f72, f73, f74, f75, f76, x77, x78, x79, x80, x81, x82, x83, x84, x85, x86, x87, x88, x89, x90, x91, x92, x93, x94, x95, x96, x97, x98, x99, x100, x101, x102, x103, x104, x105, x106, x107, x108, x109, x110, x111, x112, x113, x114, x115, x116, x117, x118, x119, x120, x121, x122, x123, x124, x125, x126, x127, x128, x129, x130, x131, x132, x133, x134, x135, x136, x137, x138, x139, x140, x141, x142, x143, x144, x145, x146, x147, x148, x149, x150, x151, x152, f153, f154, f155, f156, f157, f158, f159, f160, f161, f162, f163, f164, f165, f166, f167, f168, f169, f170, f171, f172], ds, h, rd⟩ (loopQ (blake_words_block_l4_J f0 f1 f2 f3 f4 f5 f6 f7 f8 f9 f10 f11 f12 f13 f15 f19 f20 f21 f22 f23 f24 f25 f26 f27 f28 f29 f30 f31 f32 f33 f34 f35 f36 f37 f38 f39 f40 f41 f42 f43 f44 f45 f46 f47 f48 f49 f50 f51 f52 f53 f54 f55 f56 f57 f58 f59 f60 f61 f62 f63 f64 f65 f66 f67 f68 f69 f70 f71 f72 f73 f74 f75 f76 f153 f154 f155 f156 f157 f158 f159 f160 f161 f162 f163 f164 f165 f166 f167 f168 f169 f170 f171 f172 ds rd I) m Q))
    (m : Nat) {v14 : Value} {h : Heap} {x16 x17 x18 x77 x78 x79 x80 x81 x82 x83 x84 x85 x86 x87 x88 x89 x90 x91 x92 x93 x94 x95 x96 x97 x98 x99 x100 x101 x102 x103 x104 x105 x106 x107 x108 x109 x110 x111 x112 x113 x114 x115 x116 x117 x118 x119 x120 x121 x122 x123 x124 x125 x126 x127 x128 x129 x130 x131 x132 x133 x134 x135 x136 x137 x138 x139 x140 x141 x142 x143 x144 x145 x146 x147 x148 x149 x150 x151 x152 : Value} (hi : I m v14 h) : RunC Tryz.prog T0 (.loop blake_words_block_l4) ⟨[f0, f1, f2, f3, f4, f5, f6, f7, f8, f9, f10, f11, f12, f13, v14, f15, x16, x17, x18, f19, f20, f21, f22, f23, f24, f25, f26, f27, f28, f29, f30, f31, f32, f33, f34, f35, f36, f37, f38, f39, f40, f41, f42, f43, f44, f45, f46, f47, f48, f49, f50, f51, f52, f53, f54, f55, f56, f57, f58, f59, f60, f61, f62, f63, f64, f65, f66, f67, f68, f69, f70, f71, f72, f73, f74, f75, f76, x77, x78, x79, x80, x81, x82, x83, x84, x85, x86, x87, x88, x89, x90, x91, x92, x93, x94, x95, x96, x97, x98, x99, x100, x101, x102, x103, x104, x105, x106, x107, x108, x109, x110, x111, x112, x113, x114, x115, x116, x117, x118, x119, x120, x121, x122, x123, x124, x125, x126, x127, x128, x129, x130, x131, x132, x133, x134, x135, x136, x137, x138, x139, x140, x141, x142, x143, x144, x145, x146, x147, x148, x149, x150, x151, x152, f153, f154, f155, f156, f157, f158, f159, f160, f161, f162, f163, f164, f165, f166, f167, f168, f169, f170, f171, f172], ds, h, rd⟩ Q :=
  RunC.loopJ (blake_words_block_l4_J f0 f1 f2 f3 f4 f5 f6 f7 f8 f9 f10 f11 f12 f13 f15 f19 f20 f21 f22 f23 f24 f25 f26 f27 f28 f29 f30 f31 f32 f33 f34 f35 f36 f37 f38 f39 f40 f41 f42 f43 f44 f45 f46 f47 f48 f49 f50 f51 f52 f53 f54 f55 f56 f57 f58 f59 f60 f61 f62 f63 f64 f65 f66 f67 f68 f69 f70 f71 f72 f73 f74 f75 f76 f153 f154 f155 f156 f157 f158 f159 f160 f161 f162 f163 f164 f165 f166 f167 f168 f169 f170 f171 f172 ds rd I) (fun m s hj => by obtain ⟨v14, h, x16, x17, x18, x77, x78, x79, x80, x81, x82, x83, x84, x85, x86, x87, x88, x89, x90, x91, x92, x93, x94, x95, x96, x97, x98, x99, x100, x101, x102, x103, x104, x105, x106, x107, x108, x109, x110, x111, x112, x113, x114, x115, x116, x117, x118, x119, x120, x121, x122, x123, x124, x125, x126, x127, x128, x129, x130, x131, x132, x133, x134, x135, x136, x137, x138, x139, x140, x141, x142, x143, x144, x145, x146, x147, x148, x149, x150, x151, x152, rfl, hi⟩ := hj; exact hb m v14 h x16 x17 x18 x77 x78 x79 x80 x81 x82 x83 x84 x85 x86 x87 x88 x89 x90 x91 x92 x93 x94 x95 x96 x97 x98 x99 x100 x101 x102 x103 x104 x105 x106 x107 x108 x109 x110 x111 x112 x113 x114 x115 x116 x117 x118 x119 x120 x121 x122 x123 x124 x125 x126 x127 x128 x129 x130 x131 x132 x133 x134 x135 x136 x137 x138 x139 x140 x141 x142 x143 x144 x145 x146 x147 x148 x149 x150 x151 x152 hi) m _ ⟨_, h, _, _, _, _, _, _, _, _, _, _, _, _, _, _, _, _, _, _, _, _, _, _, _, _, _, _, _, _, _, _, _, _, _, _, _, _, _, _, _, _, _, _, _, _, _, _, _, _, _, _, _, _, _, _, _, _, _, _, _, _, _, _, _, _, _, _, _, _, _, _, _, _, _, _, _, _, _, _, _, rfl, hi⟩
theorem blake_words_block_l4_again {f0 f1 f2 f3 f4 f5 f6 f7 f8 f9 f10 f11 f12 f13 f15 f19 f20 f21 f22 f23 f24 f25 f26 f27 f28 f29 f30 f31 f32 f33 f34 f35 f36 f37 f38 f39 f40 f41 f42 f43 f44 f45 f46 f47 f48 f49 f50 f51 f52 f53 f54 f55 f56 f57 f58 f59 f60 f61 f62 f63 f64 f65 f66 f67 f68 f69 f70 f71 f72 f73 f74 f75 f76 f153 f154 f155 f156 f157 f158 f159 f160 f161 f162 f163 f164 f165 f166 f167 f168 f169 f170 f171 f172 : Value} {ds : List Deferred} {rd : Option Nat} {Q : QP} {I : Nat → Value → Heap → Prop} {m : Nat} (m' : Nat) {v14 : Value} {h : Heap} {x16 x17 x18 x77 x78 x79 x80 x81 x82 x83 x84 x85 x86 x87 x88 x89 x90 x91 x92 x93 x94 x95 x96 x97 x98 x99 x100 x101 x102 x103 x104 x105 x106 x107 x108 x109 x110 x111 x112 x113 x114 x115 x116 x117 x118 x119 x120 x121 x122 x123 x124 x125 x126 x127 x128 x129 x130 x131 x132 x133 x134 x135 x136 x137 x138 x139 x140 x141 x142 x143 x144 x145 x146 x147 x148 x149 x150 x151 x152 : Value} (hm : m' < m) (hi : I m' v14 h) : loopQ (blake_words_block_l4_J f0 f1 f2 f3 f4 f5 f6 f7 f8 f9 f10 f11 f12 f13 f15 f19 f20 f21 f22 f23 f24 f25 f26 f27 f28 f29 f30 f31 f32 f33 f34 f35 f36 f37 f38 f39 f40 f41 f42 f43 f44 f45 f46 f47 f48 f49 f50 f51 f52 f53 f54 f55 f56 f57 f58 f59 f60 f61 f62 f63 f64 f65 f66 f67 f68 f69 f70 f71 f72 f73 f74 f75 f76 f153 f154 f155 f156 f157 f158 f159 f160 f161 f162 f163 f164 f165 f166 f167 f168 f169 f170 f171 f172 ds rd I) m Q .normal ⟨[f0, f1, f2, f3, f4, f5, f6, f7, f8, f9, f10, f11, f12, f13, v14, f15, x16, x17, x18, f19, f20, f21, f22, f23, f24, f25, f26, f27, f28, f29, f30, f31, f32, f33, f34, f35, f36, f37, f38, f39, f40, f41, f42, f43, f44, f45, f46, f47, f48, f49, f50, f51, f52, f53, f54, f55, f56, f57, f58, f59, f60, f61, f62, f63, f64, f65, f66, f67, f68, f69, f70, f71, f72, f73, f74, f75, f76, x77, x78, x79, x80, x81, x82, x83, x84, x85, x86, x87, x88, x89, x90, x91, x92, x93, x94, x95, x96, x97, x98, x99, x100, x101, x102, x103, x104, x105, x106, x107, x108, x109, x110, x111, x112, x113, x114, x115, x116, x117, x118, x119, x120, x121, x122, x123, x124, x125, x126, x127, x128, x129, x130, x131, x132, x133, x134, x135, x136, x137, x138, x139, x140, x141, x142, x143, x144, x145, x146, x147, x148, x149, x150, x151, x152, f153, f154, f155, f156, f157, f158, f159, f160, f161, f162, f163, f164, f165, f166, f167, f168, f169, f170, f171, f172], ds, h, rd⟩ :=
  loopQ.again m' hm ⟨_, h, _, _, _, _, _, _, _, _, _, _, _, _, _, _, _, _, _, _, _, _, _, _, _, _, _, _, _, _, _, _, _, _, _, _, _, _, _, _, _, _, _, _, _, _, _, _, _, _, _, _, _, _, _, _, _, _, _, _, _, _, _, _, _, _, _, _, _, _, _, _, _, _, _, _, _, _, _, _, _, rfl, hi⟩
/-- the slots that turn in the loop: v153 -/
noncomputable def blake_words_block_l5_J (f0 f1 f2 f3 f4 f5 f6 f7 f8 f9 f10 f11 f12 f13 f14 f15 f16 f17 f18 f20 f21 f22 f23 f24 f25 f26 f27 f28 f29 f30 f31 f32 f33 f34 f35 f36 f37 f38 f39 f40 f41 f42 f43 f44 f45 f46 f47 f48 f49 f50 f51 f52 f53 f54 f55 f56 f57 f58 f59 f60 f61 f62 f63 f64 f65 f66 f67 f68 f69 f70 f71 f72 f73 f74 f75 f76 f77 f78 f79 f80 f81 f82 f83 f84 f85 f86 f87 f88 f89 f90 f91 f92 f93 f94 f95 f96 f97 f98 f99 f100 f101 f102 f103 f104 f105 f106 f107 f108 f109 f110 f111 f112 f113 f114 f115 f116 f117 f118 f119 f120 f121 f122 f123 f124 f125 f126 f127 f128 f129 f130 f131 f132 f133 f134 f135 f136 f137 f138 f139 f140 f141 f142 f143 f144 f145 f146 f147 f148 f149 f150 f151 f152 : Value) (ds : List Deferred) (rd : Option Nat) (I : Nat → Value → Heap → Prop) (m : Nat) (s : St) : Prop := ∃ (v153 : Value), ∃ h : Heap, ∃ (x19 x154 x155 x156 x157 x158 x159 x160 x161 x162 x163 x164 x165 x166 x167 x168 x169 x170 x171 x172 : Value), s = ⟨[f0, f1, f2, f3, f4, f5, f6, f7, f8, f9, f10, f11, f12, f13, f14, f15, f16, f17, f18, x19, f20, f21, f22, f23, f24, f25, f26, f27, f28, f29, f30, f31, f32, f33, f34, f35, f36, f37, f38, f39, f40, f41, f42, f43, f44, f45, f46, f47, f48, f49, f50, f51, f52, f53, f54, f55, f56, f57, f58, f59, f60, f61, f62, f63, f64, f65, f66, f67, f68, f69, f70, f71, f72, f73, f74, f75, f76, f77, f78, f79, f80, f81, f82, f83, f84, f85, f86, f87, f88, f89, f90, f91, f92, f93, f94, f95, f96, f97, f98, f99, f100, f101, f102, f103, f104, f105, f106, f107, f108, f109, f110, f111, f112, f113, f114, f115, f116, f117, f118, f119, f120, f121, f122, f123, f124, f125, f126, f127, f128, f129, f130, f131, f132, f133, f134, f135, f136, f137, f138, f139, f140, f141, f142, f143, f144, f145, f146, f147, f148, f149, f150, f151, f152, v153, x154, x155, x156, x157, x158, x159, x160, x161, x162, x163, x164, x165, x166, x167, x168, x169, x170, x171, x172], ds, h, rd⟩ ∧ I m v153 h
theorem blake_words_block_l5_rule {f0 f1 f2 f3 f4 f5 f6 f7 f8 f9 f10 f11 f12 f13 f14 f15 f16 f17 f18 f20 f21 f22 f23 f24 f25 f26 f27 f28 f29 f30 f31 f32 f33 f34 f35 f36 f37 f38 f39 f40 f41 f42 f43 f44 f45 f46 f47 f48 f49 f50 f51 f52 f53 f54 f55 f56 f57 f58 f59 f60 f61 f62 f63 f64 f65 f66 f67 f68 f69 f70 f71 f72 f73 f74 f75 f76 f77 f78 f79 f80 f81 f82 f83 f84 f85 f86 f87 f88 f89 f90 f91 f92 f93 f94 f95 f96 f97 f98 f99 f100 f101 f102 f103 f104 f105 f106 f107 f108 f109 f110 f111 f112 f113 f114 f115 f116 f117 f118 f119 f120 f121 f122 f123 f124 f125 f126 f127 f128 f129 f130 f131 f132 f133 f134 f135 f136 f137 f138 f139 f140 f141 f142 f143 f144 f145 f146 f147 f148 f149 f150 f151 f152 : Value} {ds : List Deferred} {rd : Option Nat} {Q : QP} (I : Nat → Value → Heap → Prop) (hb : ∀ (m : Nat) (v153 : Value) (h : Heap) (x19 x154 x155 x156 x157 x158 x159 x160 x161 x162 x163 x164 x165 x166 x167 x168 x169 x170 x171 x172 : Value) , I m v153 h → RunC Tryz.prog T0 blake_words_block_l5 ⟨[f0, f1, f2, f3, f4, f5, f6, f7, f8, f9, f10, f11, f12, f13, f14, f15, f16, f17, f18, x19, f20, f21, f22, f23, f24, f25, f26, f27, f28, f29, f30, f31, f32, f33, f34, f35, f36, f37, f38, f39, f40, f41, f42, f43, f44, f45, f46, f47, f48, f49, f50, f51, f52, f53, f54, f55, f56, f57, f58, f59, f60, f61, f62, f63, f64, f65, f66, f67, f68, f69, f70, f71, f72, f73, f74, f75, f76, f77, f78, f79, f80, f81, f82, f83, f84, f85, f86, f87, f88, f89, f90, f91, f92, f93, f94, f95, f96, f97, f98, f99, f100, f101, f102, f103, f104, f105, f106, f107, f108, f109, f110, f111, f112, f113, f114, f115, f116, f117, f118, f119, f120, f121, f122, f123, f124, f125, f126, f127, f128, f129, f130, f131, f132, f133, f134, f135, f136, f137, f138, f139, f140, f141, f142, f143, f144, f145, f146, f147, f148, f149, f150, f151, f152, v153, x154, x155, x156, x157, x158, x159, x160, x161, x162, x163, x164, x165, x166, x167, x168, x169, x170, x171, x172], ds, h, rd⟩ (loopQ (blake_words_block_l5_J f0 f1 f2 f3 f4 f5 f6 f7 f8 f9 f10 f11 f12 f13 f14 f15 f16 f17 f18 f20 f21 f22 f23 f24 f25 f26 f27 f28 f29 f30 f31 f32 f33 f34 f35 f36 f37 f38 f39 f40 f41 f42 f43 f44 f45 f46 f47 f48 f49 f50 f51 f52 f53 f54 f55 f56 f57 f58 f59 f60 f61 f62 f63 f64 f65 f66 f67 f68 f69 f70 f71 f72 f73 f74 f75 f76 f77 f78 f79 f80 f81 f82 f83 f84 f85 f86 f87 f88 f89 f90 f91 f92 f93 f94 f95 f96 f97 f98 f99 f100 f101 f102 f103 f104 f105 f106 f107 f108 f109 f110 f111 f112 f113 f114 f115 f116 f117 f118 f119 f120 f121 f122 f123 f124 f125 f126 f127 f128 f129 f130 f131 f132 f133 f134 f135 f136 f137 f138 f139 f140 f141 f142 f143 f144 f145 f146 f147 f148 f149 f150 f151 f152 ds rd I) m Q))
    (m : Nat) {v153 : Value} {h : Heap} {x19 x154 x155 x156 x157 x158 x159 x160 x161 x162 x163 x164 x165 x166 x167 x168 x169 x170 x171 x172 : Value} (hi : I m v153 h) : RunC Tryz.prog T0 (.loop blake_words_block_l5) ⟨[f0, f1, f2, f3, f4, f5, f6, f7, f8, f9, f10, f11, f12, f13, f14, f15, f16, f17, f18, x19, f20, f21, f22, f23, f24, f25, f26, f27, f28, f29, f30, f31, f32, f33, f34, f35, f36, f37, f38, f39, f40, f41, f42, f43, f44, f45, f46, f47, f48, f49, f50, f51, f52, f53, f54, f55, f56, f57, f58, f59, f60, f61, f62, f63, f64, f65, f66, f67, f68, f69, f70, f71, f72, f73, f74, f75, f76, f77, f78, f79, f80, f81, f82, f83, f84, f85, f86, f87, f88, f89, f90, f91, f92, f93, f94, f95, f96, f97, f98, f99, f100, f101, f102, f103, f104, f105, f106, f107, f108, f109, f110, f111, f112, f113, f114, f115, f116, f117, f118, f119, f120, f121, f122, f123, f124, f125, f126, f127, f128, f129, f130, f131, f132, f133, f134, f135, f136, f137, f138, f139, f140, f141, f142, f143, f144, f145, f146, f147, f148, f149, f150, f151, f152, v153, x154, x155, x156, x157, x158, x159, x160, x161, x162, x163, x164, x165, x166, x167, x168, x169, x170, x171, x172], ds, h, rd⟩ Q :=
  RunC.loopJ (blake_words_block_l5_J f0 f1 f2 f3 f4 f5 f6 f7 f8 f9 f10 f11 f12 f13 f14 f15 f16 f17 f18 f20 f21 f22 f23 f24 f25 f26 f27 f28 f29 f30 f31 f32 f33 f34 f35 f36 f37 f38 f39 f40 f41 f42 f43 f44 f45 f46 f47 f48 f49 f50 f51 f52 f53 f54 f55 f56 f57 f58 f59 f60 f61 f62 f63 f64 f65 f66 f67 f68 f69 f70 f71 f72 f73 f74 f75 f76 f77 f78 f79 f80 f81 f82 f83 f84 f85 f86 f87 f88 f89 f90 f91 f92 f93 f94 f95 f96 f97 f98 f99 f100 f101 f102 f103 f104 f105 f106 f107 f108 f109 f110 f111 f112 f113 f114 f115 f116 f117 f118 f119 f120 f121 f122 f123 f124 f125 f126 f127 f128 f129 f130 f131 f132 f133 f134 f135 f136 f137 f138 f139 f140 f141 f142 f143 f144 f145 f146 f147 f148 f149 f150 f151 f152 ds rd I) (fun m s hj => by obtain ⟨v153, h, x19, x154, x155, x156, x157, x158, x159, x160, x161, x162, x163, x164, x165, x166, x167, x168, x169, x170, x171, x172, rfl, hi⟩ := hj; exact hb m v153 h x19 x154 x155 x156 x157 x158 x159 x160 x161 x162 x163 x164 x165 x166 x167 x168 x169 x170 x171 x172 hi) m _ ⟨_, h, _, _, _, _, _, _, _, _, _, _, _, _, _, _, _, _, _, _, _, _, rfl, hi⟩
theorem blake_words_block_l5_again {f0 f1 f2 f3 f4 f5 f6 f7 f8 f9 f10 f11 f12 f13 f14 f15 f16 f17 f18 f20 f21 f22 f23 f24 f25 f26 f27 f28 f29 f30 f31 f32 f33 f34 f35 f36 f37 f38 f39 f40 f41 f42 f43 f44 f45 f46 f47 f48 f49 f50 f51 f52 f53 f54 f55 f56 f57 f58 f59 f60 f61 f62 f63 f64 f65 f66 f67 f68 f69 f70 f71 f72 f73 f74 f75 f76 f77 f78 f79 f80 f81 f82 f83 f84 f85 f86 f87 f88 f89 f90 f91 f92 f93 f94 f95 f96 f97 f98 f99 f100 f101 f102 f103 f104 f105 f106 f107 f108 f109 f110 f111 f112 f113 f114 f115 f116 f117 f118 f119 f120 f121 f122 f123 f124 f125 f126 f127 f128 f129 f130 f131 f132 f133 f134 f135 f136 f137 f138 f139 f140 f141 f142 f143 f144 f145 f146 f147 f148 f149 f150 f151 f152 : Value} {ds : List Deferred} {rd : Option Nat} {Q : QP} {I : Nat → Value → Heap → Prop} {m : Nat} (m' : Nat) {v153 : Value} {h : Heap} {x19 x154 x155 x156 x157 x158 x159 x160 x161 x162 x163 x164 x165 x166 x167 x168 x169 x170 x171 x172 : Value} (hm : m' < m) (hi : I m' v153 h) : loopQ (blake_words_block_l5_J f0 f1 f2 f3 f4 f5 f6 f7 f8 f9 f10 f11 f12 f13 f14 f15 f16 f17 f18 f20 f21 f22 f23 f24 f25 f26 f27 f28 f29 f30 f31 f32 f33 f34 f35 f36 f37 f38 f39 f40 f41 f42 f43 f44 f45 f46 f47 f48 f49 f50 f51 f52 f53 f54 f55 f56 f57 f58 f59 f60 f61 f62 f63 f64 f65 f66 f67 f68 f69 f70 f71 f72 f73 f74 f75 f76 f77 f78 f79 f80 f81 f82 f83 f84 f85 f86 f87 f88 f89 f90 f91 f92 f93 f94 f95 f96 f97 f98 f99 f100 f101 f102 f103 f104 f105 f106 f107 f108 f109 f110 f111 f112 f113 f114 f115 f116 f117 f118 f119 f120 f121 f122 f123 f124 f125 f126 f127 f128 f129 f130 f131 f132 f133 f134 f135 f136 f137 f138 f139 f140 f141 f142 f143 f144 f145 f146 f147 f148 f149 f150 f151 f152 ds rd I) m Q .normal ⟨[f0, f1, f2, f3, f4, f5, f6, f7, f8, f9, f10, f11, f12, f13, f14, f15, f16, f17, f18, x19, f20, f21, f22, f23, f24, f25, f26, f27, f28, f29, f30, f31, f32, f33, f34, f35, f36, f37, f38, f39, f40, f41, f42, f43, f44, f45, f46, f47, f48, f49, f50, f51, f52, f53, f54, f55, f56, f57, f58, f59, f60, f61, f62, f63, f64, f65, f66, f67, f68, f69, f70, f71, f72, f73, f74, f75, f76, f77, f78, f79, f80, f81, f82, f83, f84, f85, f86, f87, f88, f89, f90, f91, f92, f93, f94, f95, f96, f97, f98, f99, f100, f101, f102, f103, f104, f105, f106, f107, f108, f109, f110, f111, f112, f113, f114, f115, f116, f117, f118, f119, f120, f121, f122, f123, f124, f125, f126, f127, f128, f129, f130, f131, f132, f133, f134, f135, f136, f137, f138, f139, f140, f141, f142, f143, f144, f145, f146, f147, f148, f149, f150, f151, f152, v153, x154, x155, x156, x157, x158, x159, x160, x161, x162, x163, x164, x165, x166, x167, x168, x169, x170, x171, x172], ds, h, rd⟩ :=
  loopQ.again m' hm ⟨_, h, _, _, _, _, _, _, _, _, _, _, _, _, _, _, _, _, _, _, _, _, rfl, hi⟩

/-! 162 (*landfall/blake.State).Len -/
abbrev fn_blake_State_Len : FuncId := 162
noncomputable def blake_State_Len_c : ACode :=
  (.seq (.region [
      ⟨(some 2), .mov (.const (.int .i64 0)), none, [], false⟩]) (.seq (.seq (.region [
      ⟨(some 3), .mov (.tmp 0), none, [], false⟩,
      ⟨(some 4), .callV (.func 159) [(.tmp 3)], none, [], false⟩]) (.cond (.tmp 4)
    (.seq (.region [
      ⟨(some 2), .mov (.const (.int .i64 0)), none, [], false⟩]) .ret)
    .skip)) (.seq (.regionD [
      ⟨(some 5), .mov (.tmp 0), none, [], false⟩,
      ⟨(some 6), .nilCheck (.tmp 5), none, [], false⟩,
      ⟨(some 7), .fieldAddr 0 (.tmp 6), none, [], false⟩,
      ⟨(some 8), .load none (.tmp 7), none, [], false⟩,
      ⟨(some 10), .mov (.tmp 0), none, [], false⟩,
      ⟨(some 11), .nilCheck (.tmp 10), none, [], false⟩,
      ⟨(some 12), .fieldAddr 9 (.tmp 11), none, [], false⟩,
      ⟨(some 13), .load none (.tmp 12), none, [], false⟩,
      ⟨(some 14), .lenSl (.tmp 13), none, [], false⟩,
      ⟨(some 9), .callV (.func 176) [(.tmp 8)], none, [((some 14), .lenSl (.tmp 13), none), ((some 13), .load none (.tmp 12), none), ((some 12), .fieldAddr 9 (.tmp 11), none), ((some 11), .nilCheck (.tmp 10), none), ((some 10), .mov (.tmp 0), none)], false⟩,
      ⟨(some 15), .bin .add (so (.binOp .add 3 (.tmp 9) (.tmp 14) 3) 3) (.tmp 9) (.tmp 14), none, [], true⟩,
      ⟨(some 2), .mov (.tmp 15), none, [], true⟩]) .ret)))
noncomputable def blake_State_Len : AFunc := ⟨16, [(2, none)], blake_State_Len_c, none⟩
theorem blake_State_Len_t0 : tableOf Tryz.prog 162 = some blake_State_Len := by kernel_rfl
theorem blake_State_Len_t : T0 162 = some blake_State_Len := holed_t rfl blake_State_Len_t0
theorem blake_State_Len_runs {v0 : Value} {h : Heap} {R : RP} {X : XP} (k : RunC Tryz.prog T0 blake_State_Len_c ⟨[v0, undef, undef, undef, undef, undef, undef, undef, undef, undef, undef, undef, undef, undef, undef, undef], [], h, none⟩ (bodyQ Tryz.prog T0 [(2, none)] R X)) :
    Runs Tryz.prog T0 (.fn 162) [v0] h R X := Runs.fn blake_State_Len_t rfl k


/-! 174 strings.IndexRune -/
abbrev fn_strings_IndexRune : FuncId := 174
noncomputable def strings_IndexRune_l0 : ACode :=
  (.seq (.region [
      ⟨(some 176), .nextStr (.tmp 175), none, [], false⟩,
      ⟨(some 177), .extract 0 (.tmp 176), none, [], false⟩]) (.seq (.cond (.tmp 177)
    .skip
    (.exit 9)) (.block 10 (.seq (.region [
      ⟨(some 178), .extract 1 (.tmp 176), none, [], false⟩,
      ⟨(some 179), .extract 2 (.tmp 176), none, [], false⟩,
      ⟨(some 5), .mov (.tmp 178), none, [], false⟩,
      ⟨(some 6), .mov (.tmp 179), none, [], false⟩]) (.seq (.region [
      ⟨(some 180), .mov (.tmp 6), none, [], false⟩,
      ⟨(some 181), .bin .eql (so (.binOp .eql 21 (.tmp 180) (.const (.int .i32 65533)) 21) 4) (.tmp 180) (.const (.int .i32 65533)), none, [], false⟩]) (.cond (.tmp 181)
    (.seq (.region [
      ⟨(some 182), .mov (.tmp 5), none, [], false⟩,
      ⟨(some 4), .mov (.tmp 182), none, [], false⟩]) .ret)
    .skip))))))
noncomputable def strings_IndexRune_l1 : ACode :=
  (.seq (.seq (.region [
      ⟨(some 48), .mov (.tmp 12), none, [], false⟩,
      ⟨(some 49), .mov (.tmp 7), none, [], false⟩,
      ⟨(some 50), .lenStr (.tmp 49), none, [], false⟩,
      ⟨(some 51), .bin .lss (so (.binOp .lss 3 (.tmp 48) (.tmp 50) 3) 4) (.tmp 48) (.tmp 50), none, [], false⟩]) (.cond (.tmp 51)
    .skip
    (.exit 3))) (.seq (.block 4 (.seq (.regionD [
      ⟨(some 54), .mov (.tmp 0), none, [], false⟩,
      ⟨(some 55), .mov (.tmp 9), none, [], false⟩,
      ⟨(some 56), .mov (.tmp 12), none, [], false⟩,
      ⟨(some 57), .bin .sub (so (.binOp .sub 3 (.tmp 55) (.tmp 56) 3) 3) (.tmp 55) (.tmp 56), none, [], false⟩,
      ⟨(some 58), .raw (so (.index 9 (.tmp 54) (.tmp 57)) 5), none, [], false⟩,
      ⟨(some 59), .mov (.tmp 7), none, [], false⟩,
      ⟨(some 60), .mov (.tmp 8), none, [], false⟩,
      ⟨(some 61), .mov (.tmp 12), none, [], false⟩,
      ⟨(some 62), .bin .sub (so (.binOp .sub 3 (.tmp 60) (.tmp 61) 3) 3) (.tmp 60) (.tmp 61), none, [], false⟩,
      ⟨(some 63), .raw (so (.index 9 (.tmp 59) (.tmp 62)) 5), none, [], false⟩,
      ⟨(some 64), .bin .neq (so (.binOp .neq 5 (.tmp 58) (.tmp 63) 5) 4) (.tmp 58) (.tmp 63), none, [], true⟩]) (.cond (.tmp 64)
    .stuck
    .skip))) (.region [
      ⟨(some 52), .mov (.tmp 12), none, [], false⟩,
      ⟨(some 53), .bin .add (so (.binOp .add 3 (.tmp 52) (.const (.int .i64 1)) 3) 3) (.tmp 52) (.const (.int .i64 1)), none, [], false⟩,
      ⟨(some 12), .mov (.tmp 53), none, [], false⟩])))
noncomputable def strings_IndexRune_l2 : ACode :=
  (.seq (.seq (.region [
      ⟨(some 23), .mov (.tmp 9), none, [], false⟩,
      ⟨(some 24), .mov (.tmp 0), none, [], false⟩,
      ⟨(some 25), .lenStr (.tmp 24), none, [], false⟩,
      ⟨(some 26), .bin .lss (so (.binOp .lss 3 (.tmp 23) (.tmp 25) 3) 4) (.tmp 23) (.tmp 25), none, [], false⟩]) (.cond (.tmp 26)
    .skip
    (.exit 1))) (.block 2 (.scope (.seq (.seq (.regionD [
      ⟨(some 27), .mov (.tmp 0), none, [], false⟩,
      ⟨(some 28), .mov (.tmp 9), none, [], false⟩,
      ⟨(some 29), .raw (so (.index 9 (.tmp 27) (.tmp 28)) 5), none, [], false⟩,
      ⟨(some 30), .mov (.tmp 7), none, [], false⟩,
      ⟨(some 31), .mov (.tmp 8), none, [], false⟩,
      ⟨(some 32), .raw (so (.index 9 (.tmp 30) (.tmp 31)) 5), none, [], false⟩,
      ⟨(some 33), .bin .neq (so (.binOp .neq 5 (.tmp 29) (.tmp 32) 5) 4) (.tmp 29) (.tmp 32), none, [], true⟩]) (.cond (.tmp 33)
    (.seq (.regionD [
      ⟨(some 34), .mov (.tmp 0), none, [], false⟩,
      ⟨(some 35), .mov (.tmp 9), none, [], false⟩,
      ⟨(some 36), .bin .add (so (.binOp .add 3 (.tmp 35) (.const (.int .i64 1)) 3) 3) (.tmp 35) (.const (.int .i64 1)), none, [], false⟩,
      ⟨(some 37), .sliceStr (.tmp 34) (some (.tmp 36)) none, none, [], false⟩,
      ⟨(some 38), .mov (.tmp 7), none, [], false⟩,
      ⟨(some 39), .mov (.tmp 8), none, [], false⟩,
      ⟨(some 40), .raw (so (.index 9 (.tmp 38) (.tmp 39)) 5), none, [], false⟩,
      ⟨(some 41), .callV (.func 180) [(.tmp 37), (.tmp 40)], none, [], true⟩,
      ⟨(some 11), .mov (.tmp 41), none, [], true⟩]) (.seq (.seq (.region [
      ⟨(some 42), .mov (.tmp 11), none, [], false⟩,
      ⟨(some 43), .bin .lss (so (.binOp .lss 3 (.tmp 42) (.const (.int .i64 0)) 3) 4) (.tmp 42) (.const (.int .i64 0)), none, [], false⟩]) (.cond (.tmp 43)
    (.seq (.region [
      ⟨(some 4), .mov (.const (.int .i64 (-1))), none, [], false⟩]) .ret)
    .skip)) (.region [
      ⟨(some 44), .mov (.tmp 9), none, [], false⟩,
      ⟨(some 45), .mov (.tmp 11), none, [], false⟩,
      ⟨(some 46), .bin .add (so (.binOp .add 3 (.tmp 45) (.const (.int .i64 1)) 3) 3) (.tmp 45) (.const (.int .i64 1)), none, [], false⟩,
      ⟨(some 47), .bin .add (so (.binOp .add 3 (.tmp 44) (.tmp 46) 3) 3) (.tmp 44) (.tmp 46), none, [], false⟩,
      ⟨(some 9), .mov (.tmp 47), none, [], false⟩])))
    .skip)) (.seq (.seq (.region [
      ⟨(some 12), .mov (.const (.int .i64 1)), none, [], false⟩]) (.block 3 (.loop strings_IndexRune_l1))) (.seq (.seq (.region [
      ⟨(some 65), .mov (.tmp 9), none, [], false⟩,
      ⟨(some 66), .mov (.tmp 8), none, [], false⟩,
      ⟨(some 67), .bin .sub (so (.binOp .sub 3 (.tmp 65) (.tmp 66) 3) 3) (.tmp 65) (.tmp 66), none, [], false⟩,
      ⟨(some 4), .mov (.tmp 67), none, [], false⟩]) .ret) (.seq .skip (.seq (.region [
      ⟨(some 68), .mov (.tmp 10), none, [], false⟩,
      ⟨(some 69), .bin .add (so (.binOp .add 3 (.tmp 68) (.const (.int .i64 1)) 3) 3) (.tmp 68) (.const (.int .i64 1)), none, [], false⟩,
      ⟨(some 10), .mov (.tmp 69), none, [], false⟩]) (.seq (.region [
      ⟨(some 70), .mov (.tmp 9), none, [], false⟩,
      ⟨(some 71), .bin .add (so (.binOp .add 3 (.tmp 70) (.const (.int .i64 1)) 3) 3) (.tmp 70) (.const (.int .i64 1)), none, [], false⟩,
      ⟨(some 9), .mov (.tmp 71), none, [], false⟩]) (.seq (.region [
      ⟨(some 72), .mov (.const (.bool true)), none, [], false⟩,
      ⟨(some 73), .mov (.tmp 10), (some (72, true)), [], false⟩,
      ⟨(some 74), .mov (.tmp 9), (some (72, true)), [], false⟩,
      ⟨(some 75), .callV (.func 182) [(.tmp 74)], (some (72, true)), [], false⟩,
      ⟨(some 76), .bin .gtr (so (.binOp .gtr 3 (.tmp 73) (.tmp 75) 3) 4) (.tmp 73) (.tmp 75), (some (72, true)), [], false⟩,
      ⟨(some 77), .pick (.tmp 72) (.tmp 76) (.const (.bool false)), none, [], false⟩,
      ⟨(some 78), .mov (.tmp 77), none, [], false⟩,
      ⟨(some 79), .mov (.tmp 9), (some (78, true)), [], false⟩,
      ⟨(some 80), .mov (.tmp 0), (some (78, true)), [], false⟩,
      ⟨(some 81), .lenStr (.tmp 80), (some (78, true)), [], false⟩,
      ⟨(some 82), .bin .lss (so (.binOp .lss 3 (.tmp 79) (.tmp 81) 3) 4) (.tmp 79) (.tmp 81), (some (78, true)), [], false⟩,
      ⟨(some 83), .pick (.tmp 78) (.tmp 82) (.const (.bool false)), none, [], false⟩,
      ⟨(some 84), .mov (.tmp 83), none, [], false⟩,
      ⟨(some 85), .mov (.const (.bool false)), (some (84, false)), [], false⟩,
      ⟨(some 86), .mov (.tmp 10), (some (85, true)), [], false⟩,
      ⟨(some 87), .mov (.tmp 9), (some (85, true)), [], false⟩,
      ⟨(some 88), .bin .shr (so (.binOp .shr 3 (.tmp 87) (.const (.int .u64 4)) 155) 3) (.tmp 87) (.const (.int .u64 4)), (some (85, true)), [], false⟩,
      ⟨(some 89), .bin .add (so (.binOp .add 3 (.const (.int .i64 4)) (.tmp 88) 3) 3) (.const (.int .i64 4)) (.tmp 88), (some (85, true)), [], false⟩,
      ⟨(some 90), .bin .geq (so (.binOp .geq 3 (.tmp 86) (.tmp 89) 3) 4) (.tmp 86) (.tmp 89), (some (85, true)), [], false⟩,
      ⟨(some 91), .pick (.tmp 85) (.tmp 90) (.const (.bool false)), (some (84, false)), [], false⟩,
      ⟨(some 92), .mov (.tmp 91), (some (84, false)), [], false⟩,
      ⟨(some 93), .mov (.tmp 9), (some (92, true)), [], false⟩,
      ⟨(some 94), .mov (.tmp 0), (some (92, true)), [], false⟩,
      ⟨(some 95), .lenStr (.tmp 94), (some (92, true)), [], false⟩,
      ⟨(some 96), .bin .lss (so (.binOp .lss 3 (.tmp 93) (.tmp 95) 3) 4) (.tmp 93) (.tmp 95), (some (92, true)), [], false⟩,
      ⟨(some 97), .pick (.tmp 92) (.tmp 96) (.const (.bool false)), (some (84, false)), [], false⟩,
      ⟨(some 98), .pick (.tmp 84) (.const (.bool true)) (.tmp 97), none, [], false⟩]) (.cond (.tmp 98)
    .stuck
    .skip)))))))))))
noncomputable def strings_IndexRune_l3 : ACode :=
  (.seq (.seq (.region [
      ⟨(some 140), .mov (.tmp 16), none, [], false⟩,
      ⟨(some 141), .mov (.tmp 7), none, [], false⟩,
      ⟨(some 142), .lenStr (.tmp 141), none, [], false⟩,
      ⟨(some 143), .bin .lss (so (.binOp .lss 3 (.tmp 140) (.tmp 142) 3) 4) (.tmp 140) (.tmp 142), none, [], false⟩]) (.cond (.tmp 143)
    .skip
    (.exit 7))) (.seq (.block 8 (.seq (.regionD [
      ⟨(some 146), .mov (.tmp 0), none, [], false⟩,
      ⟨(some 147), .mov (.tmp 9), none, [], false⟩,
      ⟨(some 148), .mov (.tmp 16), none, [], false⟩,
      ⟨(some 149), .bin .sub (so (.binOp .sub 3 (.tmp 147) (.tmp 148) 3) 3) (.tmp 147) (.tmp 148), none, [], false⟩,
      ⟨(some 150), .raw (so (.index 9 (.tmp 146) (.tmp 149)) 5), none, [], false⟩,
      ⟨(some 151), .mov (.tmp 7), none, [], false⟩,
      ⟨(some 152), .mov (.tmp 8), none, [], false⟩,
      ⟨(some 153), .mov (.tmp 16), none, [], false⟩,
      ⟨(some 154), .bin .sub (so (.binOp .sub 3 (.tmp 152) (.tmp 153) 3) 3) (.tmp 152) (.tmp 153), none, [], false⟩,
      ⟨(some 155), .raw (so (.index 9 (.tmp 151) (.tmp 154)) 5), none, [], false⟩,
      ⟨(some 156), .bin .neq (so (.binOp .neq 5 (.tmp 150) (.tmp 155) 5) 4) (.tmp 150) (.tmp 155), none, [], true⟩]) (.cond (.tmp 156)
    (.exit 6)
    .skip))) (.region [
      ⟨(some 144), .mov (.tmp 16), none, [], false⟩,
      ⟨(some 145), .bin .add (so (.binOp .add 3 (.tmp 144) (.const (.int .i64 1)) 3) 3) (.tmp 144) (.const (.int .i64 1)), none, [], false⟩,
      ⟨(some 16), .mov (.tmp 145), none, [], false⟩])))
noncomputable def strings_IndexRune_l4 : ACode :=
  (.seq (.seq (.region [
      ⟨(some 121), .mov (.tmp 9), none, [], false⟩,
      ⟨(some 122), .mov (.tmp 0), none, [], false⟩,
      ⟨(some 123), .lenStr (.tmp 122), none, [], false⟩,
      ⟨(some 124), .bin .lss (so (.binOp .lss 3 (.tmp 121) (.tmp 123) 3) 4) (.tmp 121) (.tmp 123), none, [], false⟩]) (.cond (.tmp 124)
    .skip
    (.exit 5))) (.seq (.block 6 (.seq (.region [
      ⟨(some 127), .mov (.tmp 0), none, [], false⟩,
      ⟨(some 128), .mov (.tmp 9), none, [], false⟩,
      ⟨(some 129), .raw (so (.index 9 (.tmp 127) (.tmp 128)) 5), none, [], false⟩,
      ⟨(some 130), .mov (.tmp 14), none, [], false⟩,
      ⟨(some 131), .bin .eql (so (.binOp .eql 5 (.tmp 129) (.tmp 130) 5) 4) (.tmp 129) (.tmp 130), none, [], false⟩,
      ⟨(some 132), .mov (.tmp 131), none, [], false⟩,
      ⟨(some 133), .mov (.tmp 0), (some (132, true)), [], false⟩,
      ⟨(some 134), .mov (.tmp 9), (some (132, true)), [], false⟩,
      ⟨(some 135), .bin .sub (so (.binOp .sub 3 (.tmp 134) (.const (.int .i64 1)) 3) 3) (.tmp 134) (.const (.int .i64 1)), (some (132, true)), [], false⟩,
      ⟨(some 136), .raw (so (.index 9 (.tmp 133) (.tmp 135)) 5), (some (132, true)), [], false⟩,
      ⟨(some 137), .mov (.tmp 15), (some (132, true)), [], false⟩,
      ⟨(some 138), .bin .eql (so (.binOp .eql 5 (.tmp 136) (.tmp 137) 5) 4) (.tmp 136) (.tmp 137), (some (132, true)), [], false⟩,
      ⟨(some 139), .pick (.tmp 132) (.tmp 138) (.const (.bool false)), none, [], false⟩]) (.cond (.tmp 139)
    (.seq (.seq (.region [
      ⟨(some 16), .mov (.const (.int .i64 2)), none, [], false⟩]) (.block 7 (.loop strings_IndexRune_l3))) (.seq (.region [
      ⟨(some 157), .mov (.tmp 9), none, [], false⟩,
      ⟨(some 158), .mov (.tmp 8), none, [], false⟩,
      ⟨(some 159), .bin .sub (so (.binOp .sub 3 (.tmp 157) (.tmp 158) 3) 3) (.tmp 157) (.tmp 158), none, [], false⟩,
      ⟨(some 4), .mov (.tmp 159), none, [], false⟩]) .ret))
    .skip))) (.region [
      ⟨(some 125), .mov (.tmp 9), none, [], false⟩,
      ⟨(some 126), .bin .add (so (.binOp .add 3 (.tmp 125) (.const (.int .i64 1)) 3) 3) (.tmp 125) (.const (.int .i64 1)), none, [], false⟩,
      ⟨(some 9), .mov (.tmp 126), none, [], false⟩])))
noncomputable def strings_IndexRune_c : ACode :=
  (.seq (.region [
      ⟨(some 4), .mov (.const (.int .i64 0)), none, [], false⟩]) (.block 0 (.seq (.region [
      ⟨(some 161), .mov (.tmp 1), none, [], false⟩,
      ⟨(some 162), .bin .leq (so (.binOp .leq 21 (.const (.int .i32 0)) (.tmp 161) 21) 4) (.const (.int .i32 0)) (.tmp 161), none, [], false⟩,
      ⟨(some 163), .mov (.tmp 162), none, [], false⟩,
      ⟨(some 164), .mov (.tmp 1), (some (163, true)), [], false⟩,
      ⟨(some 165), .bin .lss (so (.binOp .lss 21 (.tmp 164) (.const (.int .i32 128)) 21) 4) (.tmp 164) (.const (.int .i32 128)), (some (163, true)), [], false⟩,
      ⟨(some 166), .pick (.tmp 163) (.tmp 165) (.const (.bool false)), none, [], false⟩,
      ⟨(some 160), .mov (.tmp 166), none, [], false⟩]) (.cond (.tmp 160)
    (.seq (.region [
      ⟨(some 167), .mov (.tmp 0), none, [], false⟩,
      ⟨(some 168), .mov (.tmp 1), none, [], false⟩,
      ⟨(some 169), .conv .u8 (so (.convert 21 5 (.tmp 168)) 5) (.tmp 168), none, [], false⟩,
      ⟨(some 170), .callV (.func 180) [(.tmp 167), (.tmp 169)], none, [], false⟩,
      ⟨(some 4), .mov (.tmp 170), none, [], false⟩]) .ret)
    (.seq (.region [
      ⟨(some 172), .mov (.tmp 1), none, [], false⟩,
      ⟨(some 173), .bin .eql (so (.binOp .eql 21 (.tmp 172) (.const (.int .i32 65533)) 21) 4) (.tmp 172) (.const (.int .i32 65533)), none, [], false⟩,
      ⟨(some 171), .mov (.tmp 173), none, [], false⟩]) (.cond (.tmp 171)
    (.seq (.seq (.region [
      ⟨(some 174), .mov (.tmp 0), none, [], false⟩,
      ⟨(some 175), .rangeStr (.tmp 174), none, [], false⟩]) (.block 9 (.loop strings_IndexRune_l0))) (.seq (.region [
      ⟨(some 4), .mov (.const (.int .i64 (-1))), none, [], false⟩]) .ret))
    (.seq (.region [
      ⟨(some 184), .mov (.tmp 1), none, [], false⟩,
      ⟨(some 185), .callV (.func 181) [(.tmp 184)], none, [], false⟩,
      ⟨(some 186), .raw (so (.unOp .not 4 (.tmp 185)) 4), none, [], false⟩,
      ⟨(some 183), .mov (.tmp 186), none, [], false⟩]) (.cond (.tmp 183)
    (.seq (.region [
      ⟨(some 4), .mov (.const (.int .i64 (-1))), none, [], false⟩]) .ret)
    (.scope (.seq (.region [
      ⟨(some 17), .mov (.tmp 1), none, [], false⟩,
      ⟨(some 18), .raw (so (.convert 21 9 (.tmp 17)) 9), none, [], false⟩,
      ⟨(some 7), .mov (.tmp 18), none, [], false⟩]) (.seq (.region [
      ⟨(some 19), .mov (.tmp 7), none, [], false⟩,
      ⟨(some 20), .lenStr (.tmp 19), none, [], false⟩,
      ⟨(some 21), .bin .sub (so (.binOp .sub 3 (.tmp 20) (.const (.int .i64 1)) 3) 3) (.tmp 20) (.const (.int .i64 1)), none, [], false⟩,
      ⟨(some 8), .mov (.tmp 21), none, [], false⟩]) (.seq (.region [
      ⟨(some 22), .mov (.tmp 8), none, [], false⟩,
      ⟨(some 9), .mov (.tmp 22), none, [], false⟩]) (.seq (.region [
      ⟨(some 10), .mov (.const (.int .i64 0)), none, [], false⟩]) (.seq (.block 1 (.loop strings_IndexRune_l2)) (.seq (.seq (.region [
      ⟨(some 4), .mov (.const (.int .i64 (-1))), none, [], false⟩]) .ret) (.seq .skip (.seq (.cond (.const (.bool true))
    (.seq (.region [
      ⟨(some 99), .mov (.tmp 0), none, [], false⟩,
      ⟨(some 100), .mov (.tmp 9), none, [], false⟩,
      ⟨(some 101), .mov (.tmp 8), none, [], false⟩,
      ⟨(some 102), .bin .sub (so (.binOp .sub 3 (.tmp 100) (.tmp 101) 3) 3) (.tmp 100) (.tmp 101), none, [], false⟩,
      ⟨(some 103), .sliceStr (.tmp 99) (some (.tmp 102)) none, none, [], false⟩,
      ⟨(some 104), .mov (.tmp 1), none, [], false⟩,
      ⟨(some 105), .raw (so (.convert 21 9 (.tmp 104)) 9), none, [], false⟩,
      ⟨(some 106), .callV (.func 183) [(.tmp 103), (.tmp 105)], none, [], false⟩,
      ⟨(some 13), .mov (.tmp 106), none, [], false⟩]) (.seq (.region [
      ⟨(some 107), .mov (.tmp 13), none, [], false⟩,
      ⟨(some 108), .bin .geq (so (.binOp .geq 3 (.tmp 107) (.const (.int .i64 0)) 3) 4) (.tmp 107) (.const (.int .i64 0)), none, [], false⟩]) (.cond (.tmp 108)
    (.seq (.region [
      ⟨(some 109), .mov (.tmp 9), none, [], false⟩,
      ⟨(some 110), .mov (.tmp 13), none, [], false⟩,
      ⟨(some 111), .bin .add (so (.binOp .add 3 (.tmp 109) (.tmp 110) 3) 3) (.tmp 109) (.tmp 110), none, [], false⟩,
      ⟨(some 112), .mov (.tmp 8), none, [], false⟩,
      ⟨(some 113), .bin .sub (so (.binOp .sub 3 (.tmp 111) (.tmp 112) 3) 3) (.tmp 111) (.tmp 112), none, [], false⟩,
      ⟨(some 4), .mov (.tmp 113), none, [], false⟩]) .ret)
    .skip)))
    (.scope (.seq (.region [
      ⟨(some 114), .mov (.tmp 7), none, [], false⟩,
      ⟨(some 115), .mov (.tmp 8), none, [], false⟩,
      ⟨(some 116), .raw (so (.index 9 (.tmp 114) (.tmp 115)) 5), none, [], false⟩,
      ⟨(some 14), .mov (.tmp 116), none, [], false⟩]) (.seq (.region [
      ⟨(some 117), .mov (.tmp 7), none, [], false⟩,
      ⟨(some 118), .mov (.tmp 8), none, [], false⟩,
      ⟨(some 119), .bin .sub (so (.binOp .sub 3 (.tmp 118) (.const (.int .i64 1)) 3) 3) (.tmp 118) (.const (.int .i64 1)), none, [], false⟩,
      ⟨(some 120), .raw (so (.index 9 (.tmp 117) (.tmp 119)) 5), none, [], false⟩,
      ⟨(some 15), .mov (.tmp 120), none, [], false⟩]) (.seq .skip (.block 5 (.loop strings_IndexRune_l4))))))) (.seq (.region [
      ⟨(some 4), .mov (.const (.int .i64 (-1))), none, [], false⟩]) .ret))))))))))))))))))
noncomputable def strings_IndexRune : AFunc := ⟨187, [(4, none)], strings_IndexRune_c, none⟩
theorem strings_IndexRune_t0 : tableOf Tryz.prog 174 = some strings_IndexRune := by kernel_rfl
theorem strings_IndexRune_t : T0 174 = some strings_IndexRune := holed_t rfl strings_IndexRune_t0
theorem strings_IndexRune_runs {v0 v1 : Value} {h : Heap} {R : RP} {X : XP} (k : RunC Tryz.prog T0 strings_IndexRune_c ⟨[v0, v1, undef, undef, undef, undef, undef, undef, undef, undef, undef, undef, undef, undef, undef, undef, undef, undef, undef, undef, undef, undef, undef, undef, undef, undef, undef, undef, undef, undef, undef, undef, undef, undef, undef, undef, undef, undef, undef, undef, undef, undef, undef, undef, undef, undef, undef, undef, undef, undef, undef, undef, undef, undef, undef, undef, undef, undef, undef, undef, undef, undef, undef, undef, undef, undef, undef, undef, undef, undef, undef, undef, undef, undef, undef, undef, undef, undef, undef, undef, undef, undef, undef, undef, undef, undef, undef, undef, undef, undef, undef, undef, undef, undef, undef, undef, undef, undef, undef, undef, undef, undef, undef, undef, undef, undef, undef, undef, undef, undef, undef, undef, undef, undef, undef, undef, undef, undef, undef, undef, undef, undef, undef, undef, undef, undef, undef, undef, undef, undef, undef, undef, undef, undef, undef, undef, undef, undef, undef, undef, undef, undef, undef, undef, undef, undef, undef, undef, undef, undef, undef, undef, undef, undef, undef, undef, undef, undef, undef, undef, undef, undef, undef, undef, undef, undef, undef, undef, undef, undef, undef, undef, undef, undef, undef, undef, undef, undef, undef, undef, undef, undef, undef, undef, undef, undef, undef], [], h, none⟩ (bodyQ Tryz.prog T0 [(4, none)] R X)) :
    Runs Tryz.prog T0 (.fn 174) [v0, v1] h R X := Runs.fn strings_IndexRune_t rfl k
/-! 175 landfall/blake.mix -/
abbrev fn_blake_mix : FuncId := 175
noncomputable def blake_mix_c : ACode :=
  (.seq (.region [
      ⟨(some 3), .box 211 (.tmp 0), none, [], false⟩]) (.seq (.regionD [
      ⟨(some 10), .indexArr 4 1 (.tmp 3) (.const (.int .i64 0)), none, [], false⟩,
      ⟨(some 11), .load none (.tmp 10), none, [], false⟩,
      ⟨(some 12), .indexArr 4 1 (.tmp 3) (.const (.int .i64 1)), none, [], false⟩,
      ⟨(some 13), .load none (.tmp 12), none, [], false⟩,
      ⟨(some 14), .indexArr 4 1 (.tmp 3) (.const (.int .i64 2)), none, [], false⟩,
      ⟨(some 15), .load none (.tmp 14), none, [], false⟩,
      ⟨(some 16), .indexArr 4 1 (.tmp 3) (.const (.int .i64 3)), none, [], false⟩,
      ⟨(some 17), .load none (.tmp 16), none, [], false⟩,
      ⟨(some 6), .mov (.tmp 11), none, [], false⟩,
      ⟨(some 7), .mov (.tmp 13), none, [], false⟩,
      ⟨(some 8), .mov (.tmp 15), none, [], false⟩,
      ⟨(some 9), .mov (.tmp 17), none, [], true⟩]) (.seq (.regionD [
      ⟨(some 18), .mov (.tmp 6), none, [], false⟩,
      ⟨(some 19), .nilCheck (.tmp 18), none, [], false⟩,
      ⟨(some 20), .load none (.tmp 19), none, [], false⟩,
      ⟨(some 21), .mov (.tmp 7), none, [], false⟩,
      ⟨(some 22), .nilCheck (.tmp 21), none, [], false⟩,
      ⟨(some 23), .load none (.tmp 22), none, [], false⟩,
      ⟨(some 24), .mov (.tmp 1), none, [], false⟩,
      ⟨(some 25), .bin .add (so (.binOp .add 151 (.tmp 23) (.tmp 24) 151) 151) (.tmp 23) (.tmp 24), none, [], false⟩,
      ⟨(some 26), .bin .add (so (.binOp .add 151 (.tmp 20) (.tmp 25) 151) 151) (.tmp 20) (.tmp 25), none, [], true⟩,
      ⟨(some 27), .nilCheck (.tmp 18), none, [], true⟩,
      ⟨none, .store 1 (.tmp 27) (.tmp 26), none, [], true⟩]) (.seq (.regionD [
      ⟨(some 28), .mov (.tmp 9), none, [], false⟩,
      ⟨(some 29), .mov (.tmp 9), none, [], false⟩,
      ⟨(some 30), .nilCheck (.tmp 29), none, [], false⟩,
      ⟨(some 31), .load none (.tmp 30), none, [], false⟩,
      ⟨(some 32), .mov (.tmp 6), none, [], false⟩,
      ⟨(some 33), .nilCheck (.tmp 32), none, [], false⟩,
      ⟨(some 34), .load none (.tmp 33), none, [], false⟩,
      ⟨(some 35), .bin .xor (so (.binOp .xor 151 (.tmp 31) (.tmp 34) 151) 151) (.tmp 31) (.tmp 34), none, [], false⟩,
      ⟨(some 36), .callV (.func 184) [(.tmp 35), (.const (.int .i64 (-16)))], none, [((some 28), .mov (.tmp 9), none)], false⟩,
      ⟨(some 37), .nilCheck (.tmp 28), none, [], true⟩,
      ⟨none, .store 1 (.tmp 37) (.tmp 36), none, [], true⟩]) (.seq (.regionD [
      ⟨(some 38), .mov (.tmp 8), none, [], false⟩,
      ⟨(some 39), .nilCheck (.tmp 38), none, [], false⟩,
      ⟨(some 40), .load none (.tmp 39), none, [], false⟩,
      ⟨(some 41), .mov (.tmp 9), none, [], false⟩,
      ⟨(some 42), .nilCheck (.tmp 41), none, [], false⟩,
      ⟨(some 43), .load none (.tmp 42), none, [], false⟩,
      ⟨(some 44), .bin .add (so (.binOp .add 151 (.tmp 40) (.tmp 43) 151) 151) (.tmp 40) (.tmp 43), none, [], true⟩,
      ⟨(some 45), .nilCheck (.tmp 38), none, [], true⟩,
      ⟨none, .store 1 (.tmp 45) (.tmp 44), none, [], true⟩]) (.seq (.regionD [
      ⟨(some 46), .mov (.tmp 7), none, [], false⟩,
      ⟨(some 47), .mov (.tmp 7), none, [], false⟩,
      ⟨(some 48), .nilCheck (.tmp 47), none, [], false⟩,
      ⟨(some 49), .load none (.tmp 48), none, [], false⟩,
      ⟨(some 50), .mov (.tmp 8), none, [], false⟩,
      ⟨(some 51), .nilCheck (.tmp 50), none, [], false⟩,
      ⟨(some 52), .load none (.tmp 51), none, [], false⟩,
      ⟨(some 53), .bin .xor (so (.binOp .xor 151 (.tmp 49) (.tmp 52) 151) 151) (.tmp 49) (.tmp 52), none, [], false⟩,
      ⟨(some 54), .callV (.func 184) [(.tmp 53), (.const (.int .i64 (-12)))], none, [((some 46), .mov (.tmp 7), none)], false⟩,
      ⟨(some 55), .nilCheck (.tmp 46), none, [], true⟩,
      ⟨none, .store 1 (.tmp 55) (.tmp 54), none, [], true⟩]) (.seq (.regionD [
      ⟨(some 56), .mov (.tmp 6), none, [], false⟩,
      ⟨(some 57), .nilCheck (.tmp 56), none, [], false⟩,
      ⟨(some 58), .load none (.tmp 57), none, [], false⟩,
      ⟨(some 59), .mov (.tmp 7), none, [], false⟩,
      ⟨(some 60), .nilCheck (.tmp 59), none, [], false⟩,
      ⟨(some 61), .load none (.tmp 60), none, [], false⟩,
      ⟨(some 62), .mov (.tmp 2), none, [], false⟩,
      ⟨(some 63), .bin .add (so (.binOp .add 151 (.tmp 61) (.tmp 62) 151) 151) (.tmp 61) (.tmp 62), none, [], false⟩,
      ⟨(some 64), .bin .add (so (.binOp .add 151 (.tmp 58) (.tmp 63) 151) 151) (.tmp 58) (.tmp 63), none, [], true⟩,
      ⟨(some 65), .nilCheck (.tmp 56), none, [], true⟩,
      ⟨none, .store 1 (.tmp 65) (.tmp 64), none, [], true⟩]) (.seq (.regionD [
      ⟨(some 66), .mov (.tmp 9), none, [], false⟩,
      ⟨(some 67), .mov (.tmp 9), none, [], false⟩,
      ⟨(some 68), .nilCheck (.tmp 67), none, [], false⟩,
      ⟨(some 69), .load none (.tmp 68), none, [], false⟩,
      ⟨(some 70), .mov (.tmp 6), none, [], false⟩,
      ⟨(some 71), .nilCheck (.tmp 70), none, [], false⟩,
      ⟨(some 72), .load none (.tmp 71), none, [], false⟩,
      ⟨(some 73), .bin .xor (so (.binOp .xor 151 (.tmp 69) (.tmp 72) 151) 151) (.tmp 69) (.tmp 72), none, [], false⟩,
      ⟨(some 74), .callV (.func 184) [(.tmp 73), (.const (.int .i64 (-8)))], none, [((some 66), .mov (.tmp 9), none)], false⟩,
      ⟨(some 75), .nilCheck (.tmp 66), none, [], true⟩,
      ⟨none, .store 1 (.tmp 75) (.tmp 74), none, [], true⟩]) (.seq (.regionD [
      ⟨(some 76), .mov (.tmp 8), none, [], false⟩,
      ⟨(some 77), .nilCheck (.tmp 76), none, [], false⟩,
      ⟨(some 78), .load none (.tmp 77), none, [], false⟩,
      ⟨(some 79), .mov (.tmp 9), none, [], false⟩,
      ⟨(some 80), .nilCheck (.tmp 79), none, [], false⟩,
      ⟨(some 81), .load none (.tmp 80), none, [], false⟩,
      ⟨(some 82), .bin .add (so (.binOp .add 151 (.tmp 78) (.tmp 81) 151) 151) (.tmp 78) (.tmp 81), none, [], true⟩,
      ⟨(some 83), .nilCheck (.tmp 76), none, [], true⟩,
      ⟨none, .store 1 (.tmp 83) (.tmp 82), none, [], true⟩]) (.regionD [
      ⟨(some 84), .mov (.tmp 7), none, [], false⟩,
      ⟨(some 85), .mov (.tmp 7), none, [], false⟩,
      ⟨(some 86), .nilCheck (.tmp 85), none, [], false⟩,
      ⟨(some 87), .load none (.tmp 86), none, [], false⟩,
      ⟨(some 88), .mov (.tmp 8), none, [], false⟩,
      ⟨(some 89), .nilCheck (.tmp 88), none, [], false⟩,
      ⟨(some 90), .load none (.tmp 89), none, [], false⟩,
      ⟨(some 91), .bin .xor (so (.binOp .xor 151 (.tmp 87) (.tmp 90) 151) 151) (.tmp 87) (.tmp 90), none, [], false⟩,
      ⟨(some 92), .callV (.func 184) [(.tmp 91), (.const (.int .i64 (-7)))], none, [((some 84), .mov (.tmp 7), none)], false⟩,
      ⟨(some 93), .nilCheck (.tmp 84), none, [], true⟩,
      ⟨none, .store 1 (.tmp 93) (.tmp 92), none, [], true⟩]))))))))))
noncomputable def blake_mix : AFunc := ⟨94, [], blake_mix_c, none⟩
theorem blake_mix_t0 : tableOf Tryz.prog 175 = some blake_mix := by kernel_rfl
theorem blake_mix_t : T0 175 = some blake_mix := holed_t rfl blake_mix_t0
theorem blake_mix_runs {v0 v1 v2 : Value} {h : Heap} {R : RP} {X : XP} (k : RunC Tryz.prog T0 blake_mix_c ⟨[v0, v1, v2, undef, undef, undef, undef, undef, undef, undef, undef, undef, undef, undef, undef, undef, undef, undef, undef, undef, undef, undef, undef, undef, undef, undef, undef, undef, undef, undef, undef, undef, undef, undef, undef, undef, undef, undef, undef, undef, undef, undef, undef, undef, undef, undef, undef, undef, undef, undef, undef, undef, undef, undef, undef, undef, undef, undef, undef, undef, undef, undef, undef, undef, undef, undef, undef, undef, undef, undef, undef, undef, undef, undef, undef, undef, undef, undef, undef, undef, undef, undef, undef, undef, undef, undef, undef, undef, undef, undef, undef, undef, undef, undef], [], h, none⟩ (bodyQ Tryz.prog T0 [] R X)) :
    Runs Tryz.prog T0 (.fn 175) [v0, v1, v2] h R X := Runs.fn blake_mix_t rfl k


/-! 176 (*landfall/blake.counter).Len -/
abbrev fn_blake_counter_Len : FuncId := 176
noncomputable def blake_counter_Len_c : ACode :=
  (.seq (.region [
      ⟨(some 2), .mov (.const (.int .i64 0)), none, [], false⟩]) (.seq (.seq (.region [
      ⟨(some 3), .mov (.tmp 0), none, [], false⟩,
      ⟨(some 4), .eq .ptr false (so (.binOp .eql 191 (.tmp 3) (.const (.pointer none)) 191) 4) (.tmp 3) (.const (.pointer none)), none, [], false⟩]) (.cond (.tmp 4)
    (.seq (.region [
      ⟨(some 2), .mov (.const (.int .i64 0)), none, [], false⟩]) .ret)
    .skip)) (.seq (.region [
      ⟨(some 5), .mov (.tmp 0), none, [], false⟩,
      ⟨(some 6), .nilCheck (.tmp 5), none, [], false⟩,
      ⟨(some 7), .fieldAddr 0 (.tmp 6), none, [], false⟩,
      ⟨(some 8), .load none (.tmp 7), none, [], false⟩,
      ⟨(some 2), .mov (.tmp 8), none, [], false⟩]) .ret)))
noncomputable def blake_counter_Len : AFunc := ⟨9, [(2, none)], blake_counter_Len_c, none⟩
theorem blake_counter_Len_t0 : tableOf Tryz.prog 176 = some blake_counter_Len := by kernel_rfl
theorem blake_counter_Len_t : T0 176 = some blake_counter_Len := holed_t rfl blake_counter_Len_t0
theorem blake_counter_Len_runs {v0 : Value} {h : Heap} {R : RP} {X : XP} (k : RunC Tryz.prog T0 blake_counter_Len_c ⟨[v0, undef, undef, undef, undef, undef, undef, undef, undef], [], h, none⟩ (bodyQ Tryz.prog T0 [(2, none)] R X)) :
    Runs Tryz.prog T0 (.fn 176) [v0] h R X := Runs.fn blake_counter_Len_t rfl k


/-! 180 strings.IndexByte -/
abbrev fn_strings_IndexByte : FuncId := 180
noncomputable def strings_IndexByte_c : ACode :=
  (.seq (.region [
      ⟨(some 4), .mov (.const (.int .i64 0)), none, [], false⟩]) (.seq (.region [
      ⟨(some 5), .mov (.tmp 0), none, [], false⟩,
      ⟨(some 6), .mov (.tmp 1), none, [], false⟩,
      ⟨(some 7), .callV (.func 185) [(.tmp 5), (.tmp 6)], none, [], false⟩,
      ⟨(some 4), .mov (.tmp 7), none, [], false⟩]) .ret))
noncomputable def strings_IndexByte : AFunc := ⟨8, [(4, none)], strings_IndexByte_c, none⟩
theorem strings_IndexByte_t0 : tableOf Tryz.prog 180 = some strings_IndexByte := by kernel_rfl
theorem strings_IndexByte_t : T0 180 = some strings_IndexByte := holed_t rfl strings_IndexByte_t0
theorem strings_IndexByte_runs {v0 v1 : Value} {h : Heap} {R : RP} {X : XP} (k : RunC Tryz.prog T0 strings_IndexByte_c ⟨[v0, v1, undef, undef, undef, undef, undef, undef], [], h, none⟩ (bodyQ Tryz.prog T0 [(4, none)] R X)) :
    Runs Tryz.prog T0 (.fn 180) [v0, v1] h R X := Runs.fn strings_IndexByte_t rfl k


/-! 181 unicode/utf8.ValidRune -/
abbrev fn_unicode_utf8_ValidRune : FuncId := 181
noncomputable def unicode_utf8_ValidRune_c : ACode :=
  (.seq (.region [
      ⟨(some 2), .mov (.const (.bool false)), none, [], false⟩]) (.seq (.block 0 (.seq (.region [
      ⟨(some 4), .mov (.tmp 0), none, [], false⟩,
      ⟨(some 5), .bin .leq (so (.binOp .leq 21 (.const (.int .i32 0)) (.tmp 4) 21) 4) (.const (.int .i32 0)) (.tmp 4), none, [], false⟩,
      ⟨(some 6), .mov (.tmp 5), none, [], false⟩,
      ⟨(some 7), .mov (.tmp 0), (some (6, true)), [], false⟩,
      ⟨(some 8), .bin .lss (so (.binOp .lss 21 (.tmp 7) (.const (.int .i32 55296)) 21) 4) (.tmp 7) (.const (.int .i32 55296)), (some (6, true)), [], false⟩,
      ⟨(some 9), .pick (.tmp 6) (.tmp 8) (.const (.bool false)), none, [], false⟩,
      ⟨(some 3), .mov (.tmp 9), none, [], false⟩]) (.cond (.tmp 3)
    (.seq (.region [
      ⟨(some 2), .mov (.const (.bool true)), none, [], false⟩]) .ret)
    (.seq (.region [
      ⟨(some 11), .mov (.tmp 0), none, [], false⟩,
      ⟨(some 12), .bin .lss (so (.binOp .lss 21 (.const (.int .i32 57343)) (.tmp 11) 21) 4) (.const (.int .i32 57343)) (.tmp 11), none, [], false⟩,
      ⟨(some 13), .mov (.tmp 12), none, [], false⟩,
      ⟨(some 14), .mov (.tmp 0), (some (13, true)), [], false⟩,
      ⟨(some 15), .bin .leq (so (.binOp .leq 21 (.tmp 14) (.const (.int .i32 1114111)) 21) 4) (.tmp 14) (.const (.int .i32 1114111)), (some (13, true)), [], false⟩,
      ⟨(some 16), .pick (.tmp 13) (.tmp 15) (.const (.bool false)), none, [], false⟩,
      ⟨(some 10), .mov (.tmp 16), none, [], false⟩]) (.cond (.tmp 10)
    (.seq (.region [
      ⟨(some 2), .mov (.const (.bool true)), none, [], false⟩]) .ret)
    .skip))))) (.seq (.region [
      ⟨(some 2), .mov (.const (.bool false)), none, [], false⟩]) .ret)))
noncomputable def unicode_utf8_ValidRune : AFunc := ⟨17, [(2, none)], unicode_utf8_ValidRune_c, none⟩
theorem unicode_utf8_ValidRune_t0 : tableOf Tryz.prog 181 = some unicode_utf8_ValidRune := by kernel_rfl
theorem unicode_utf8_ValidRune_t : T0 181 = some unicode_utf8_ValidRune := holed_t rfl unicode_utf8_ValidRune_t0
theorem unicode_utf8_ValidRune_runs {v0 : Value} {h : Heap} {R : RP} {X : XP} (k : RunC Tryz.prog T0 unicode_utf8_ValidRune_c ⟨[v0, undef, undef, undef, undef, undef, undef, undef, undef, undef, undef, undef, undef, undef, undef, undef, undef], [], h, none⟩ (bodyQ Tryz.prog T0 [(2, none)] R X)) :
    Runs Tryz.prog T0 (.fn 181) [v0] h R X := Runs.fn unicode_utf8_ValidRune_t rfl k


/-! 182 internal/bytealg.Cutover -/
abbrev fn_internal_bytealg_Cutover : FuncId := 182
noncomputable def internal_bytealg_Cutover_c : ACode :=
  (.seq (.region [
      ⟨(some 2), .mov (.const (.int .i64 0)), none, [], false⟩]) (.seq (.region [
      ⟨(some 3), .mov (.tmp 0), none, [], false⟩,
      ⟨(some 4), .bin .add (so (.binOp .add 3 (.tmp 3) (.const (.int .i64 16)) 3) 3) (.tmp 3) (.const (.int .i64 16)), none, [], false⟩,
      ⟨(some 5), .bin .quo (so (.binOp .quo 3 (.tmp 4) (.const (.int .i64 8)) 3) 3) (.tmp 4) (.const (.int .i64 8)), none, [], false⟩,
      ⟨(some 2), .mov (.tmp 5), none, [], false⟩]) .ret))
noncomputable def internal_bytealg_Cutover : AFunc := ⟨6, [(2, none)], internal_bytealg_Cutover_c, none⟩
theorem internal_bytealg_Cutover_t0 : tableOf Tryz.prog 182 = some internal_bytealg_Cutover := by kernel_rfl
theorem internal_bytealg_Cutover_t : T0 182 = some internal_bytealg_Cutover := holed_t rfl internal_bytealg_Cutover_t0
theorem internal_bytealg_Cutover_runs {v0 : Value} {h : Heap} {R : RP} {X : XP} (k : RunC Tryz.prog T0 internal_bytealg_Cutover_c ⟨[v0, undef, undef, undef, undef, undef], [], h, none⟩ (bodyQ Tryz.prog T0 [(2, none)] R X)) :
    Runs Tryz.prog T0 (.fn 182) [v0] h R X := Runs.fn internal_bytealg_Cutover_t rfl k


/-! 184 math/bits.RotateLeft32 -/
abbrev fn_math_bits_RotateLeft32 : FuncId := 184
noncomputable def math_bits_RotateLeft32_c : ACode :=
  (.seq (.region [
      ⟨(some 4), .mov (.const (.int .u32 0)), none, [], false⟩]) (.seq (.region [
      ⟨(some 6), .mov (.tmp 1), none, [], false⟩,
      ⟨(some 7), .conv .u64 (so (.convert 3 155 (.tmp 6)) 155) (.tmp 6), none, [], false⟩,
      ⟨(some 8), .bin .and (so (.binOp .and 155 (.tmp 7) (.const (.int .u64 31)) 155) 155) (.tmp 7) (.const (.int .u64 31)), none, [], false⟩,
      ⟨(some 5), .mov (.tmp 8), none, [], false⟩]) (.seq (.region [
      ⟨(some 9), .mov (.tmp 0), none, [], false⟩,
      ⟨(some 10), .mov (.tmp 5), none, [], false⟩,
      ⟨(some 11), .bin .shl (so (.binOp .shl 151 (.tmp 9) (.tmp 10) 155) 151) (.tmp 9) (.tmp 10), none, [], false⟩,
      ⟨(some 12), .mov (.tmp 0), none, [], false⟩,
      ⟨(some 13), .mov (.tmp 5), none, [], false⟩,
      ⟨(some 14), .bin .sub (so (.binOp .sub 155 (.const (.int .u64 32)) (.tmp 13) 155) 155) (.const (.int .u64 32)) (.tmp 13), none, [], false⟩,
      ⟨(some 15), .bin .shr (so (.binOp .shr 151 (.tmp 12) (.tmp 14) 155) 151) (.tmp 12) (.tmp 14), none, [], false⟩,
      ⟨(some 16), .bin .or (so (.binOp .or 151 (.tmp 11) (.tmp 15) 151) 151) (.tmp 11) (.tmp 15), none, [], false⟩,
      ⟨(some 4), .mov (.tmp 16), none, [], false⟩]) .ret)))
noncomputable def math_bits_RotateLeft32 : AFunc := ⟨17, [(4, none)], math_bits_RotateLeft32_c, none⟩
theorem math_bits_RotateLeft32_t0 : tableOf Tryz.prog 184 = some math_bits_RotateLeft32 := by kernel_rfl
theorem math_bits_RotateLeft32_t : T0 184 = some math_bits_RotateLeft32 := holed_t rfl math_bits_RotateLeft32_t0
theorem math_bits_RotateLeft32_runs {v0 v1 : Value} {h : Heap} {R : RP} {X : XP} (k : RunC Tryz.prog T0 math_bits_RotateLeft32_c ⟨[v0, v1, undef, undef, undef, undef, undef, undef, undef, undef, undef, undef, undef, undef, undef, undef, undef], [], h, none⟩ (bodyQ Tryz.prog T0 [(4, none)] R X)) :
    Runs Tryz.prog T0 (.fn 184) [v0, v1] h R X := Runs.fn math_bits_RotateLeft32_t rfl k


/-! 185 internal/stringslite.IndexByte -/
abbrev fn_internal_stringslite_IndexByte : FuncId := 185
noncomputable def internal_stringslite_IndexByte_c : ACode :=
  (.seq (.region [
      ⟨(some 4), .mov (.const (.int .i64 0)), none, [], false⟩]) (.seq (.region [
      ⟨(some 5), .mov (.tmp 0), none, [], false⟩,
      ⟨(some 6), .mov (.tmp 1), none, [], false⟩,
      ⟨(some 7), .ext .indexByte (.func 186) [(.tmp 5), (.tmp 6)], none, [], false⟩,
      ⟨(some 4), .mov (.tmp 7), none, [], false⟩]) .ret))
noncomputable def internal_stringslite_IndexByte : AFunc := ⟨8, [(4, none)], internal_stringslite_IndexByte_c, none⟩
theorem internal_stringslite_IndexByte_t0 : tableOf Tryz.prog 185 = some internal_stringslite_IndexByte := by kernel_rfl
theorem internal_stringslite_IndexByte_t : T0 185 = some internal_stringslite_IndexByte := holed_t rfl internal_stringslite_IndexByte_t0
theorem internal_stringslite_IndexByte_runs {v0 v1 : Value} {h : Heap} {R : RP} {X : XP} (k : RunC Tryz.prog T0 internal_stringslite_IndexByte_c ⟨[v0, v1, undef, undef, undef, undef, undef, undef], [], h, none⟩ (bodyQ Tryz.prog T0 [(4, none)] R X)) :
    Runs Tryz.prog T0 (.fn 185) [v0, v1] h R X := Runs.fn internal_stringslite_IndexByte_t rfl k



end Go.Proofs.YtbmpalbdbcjieaaGreat.K
