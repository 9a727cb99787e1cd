/- Contracts of functions, over the machine. -/
import Derived.Test.YtmhnddkpiefkhaaRows
import Derived.Test.YtmhnddkpiefkhaaVJ
import Derived.Test.YtmhnddkpiefkhaaVL
namespace Go.Vm
abbrev U : Value := undef
abbrev tm (n : Nat) : Operand := .tmp n
abbrev k0 : Operand := .const (.int .i64 0)
abbrev o1 (d : Nat) (x : AOp) : AOper := ⟨some d, x, none, [], false⟩
abbrev o2 (d : Nat) (x : AOp) : AOper := ⟨some d, x, none, [], true⟩
abbrev o3 (x : AOp) : AOper := ⟨none, x, none, [], false⟩
abbrev o4 (d : Nat) (x : AOp) (t : Nat) : AOper := ⟨some d, x, some (t, true), [], false⟩
abbrev o5 (d : Nat) (x : AOp) (t : Nat) : AOper := ⟨some d, x, some (t, false), [], false⟩
end Go.Vm
set_option linter.unusedSimpArgs false
noncomputable section
set_option maxRecDepth 100000
set_option linter.unusedVariables false
namespace Go.Proofs.Ytmhnddkpiefkhaa.R
open Go Go.Vm
abbrev ty_internal_abi_BoundsErrorCode : TypeId := 6
abbrev ty_runtime_boundsError : TypeId := 8
abbrev ty_runtime_errorString : TypeId := 10
abbrev ty_runtime_plainError : TypeId := 11
abbrev ty_runtime_errorAddressString : TypeId := 14
abbrev ty_internal_runtime_maps_unhashableTypeError : TypeId := 19
abbrev ty_api_Errno : TypeId := 24
abbrev ty_api_Hash : TypeId := 28
abbrev ty_api_Header : TypeId := 30
abbrev ty_api_Commit : TypeId := 33
abbrev ty_api_Block : TypeId := 36
abbrev ty_api_Kept : TypeId := 47
abbrev ty_ll22_Act : TypeId := 53
abbrev ty_lr22_Store : TypeId := 69
abbrev ty_store_Store : TypeId := 75
abbrev ty_store_kept : TypeId := 82
abbrev ty_store_heights : TypeId := 101
abbrev ty_iter_Seq_int_ : TypeId := 104
abbrev ty_api_Key : TypeId := 111
abbrev ty_api_Validator : TypeId := 113
abbrev ty_api_Vote : TypeId := 117
abbrev ty_iter_Seq__store_kept_ : TypeId := 119
abbrev ty_container_heap_Interface : TypeId := 126
abbrev ty_runtime_TypeAssertionError : TypeId := 134
abbrev ty_runtime_PanicNilError : TypeId := 137
abbrev ty_internal_abi_TFlag : TypeId := 139
abbrev ty_internal_abi_Kind : TypeId := 140
abbrev ty_internal_abi_NameOff : TypeId := 143
abbrev ty_internal_abi_TypeOff : TypeId := 144
abbrev ty_internal_abi_Type : TypeId := 146
instance : IsIface Try.prog 20 := ⟨by kernel_rfl⟩
instance : IsIface Try.prog 125 := ⟨by kernel_rfl⟩
instance : IsIface Try.prog 126 := ⟨by kernel_rfl⟩
abbrev prims : List FuncId := []
abbrev kepts : List FuncId := []
def T0 : Table := withKept (withTrue Try.prog prims) kepts
instance : IsBoolT Try.prog 4 := ⟨by kernel_rfl⟩
instance : TLeaves Try.prog 7 (.i .i64 :: (.i .i64 :: (.b :: (.i .u8 :: [])))) := ⟨by kernel_rfl, by kernel_rfl, by kernel_rfl⟩
instance : TLeaves Try.prog 8 (.i .i64 :: (.i .i64 :: (.b :: (.i .u8 :: [])))) := ⟨by kernel_rfl, by kernel_rfl, by kernel_rfl⟩
instance : TLeaves Try.prog 27 (u8s 32) := ⟨by kernel_rfl, by kernel_rfl, by kernel_rfl⟩
instance : TLeaves Try.prog 28 (u8s 32) := ⟨by kernel_rfl, by kernel_rfl, by kernel_rfl⟩
instance : TLeaves Try.prog 29 (.s :: (.i .i64 :: (.i .i64 :: (u8s 32 ++ (u8s 32 ++ (u8s 32 ++ (u8s 32))))))) := ⟨by kernel_rfl, by kernel_rfl, by kernel_rfl⟩
instance : TLeaves Try.prog 30 (.s :: (.i .i64 :: (.i .i64 :: (u8s 32 ++ (u8s 32 ++ (u8s 32 ++ (u8s 32))))))) := ⟨by kernel_rfl, by kernel_rfl, by kernel_rfl⟩
instance : TLeaves Try.prog 46 (.i .i64 :: (.b :: (.b :: []))) := ⟨by kernel_rfl, by kernel_rfl, by kernel_rfl⟩
instance : TLeaves Try.prog 47 (.i .i64 :: (.b :: (.b :: []))) := ⟨by kernel_rfl, by kernel_rfl, by kernel_rfl⟩
instance : TLeaves Try.prog 110 (u8s 4) := ⟨by kernel_rfl, by kernel_rfl, by kernel_rfl⟩
instance : TLeaves Try.prog 111 (u8s 4) := ⟨by kernel_rfl, by kernel_rfl, by kernel_rfl⟩
instance : TLeaves Try.prog 112 (u8s 4 ++ (.i .i64 :: [])) := ⟨by kernel_rfl, by kernel_rfl, by kernel_rfl⟩
instance : TLeaves Try.prog 113 (u8s 4 ++ (.i .i64 :: [])) := ⟨by kernel_rfl, by kernel_rfl, by kernel_rfl⟩
instance : TLeaves Try.prog 116 (.i .i64 :: (.i .u64 :: [])) := ⟨by kernel_rfl, by kernel_rfl, by kernel_rfl⟩
instance : TLeaves Try.prog 117 (.i .i64 :: (.i .u64 :: [])) := ⟨by kernel_rfl, by kernel_rfl, by kernel_rfl⟩
def zvQ_c : ACode :=
  (.seq (.region [
      ⟨(some 0), .mov (.const (.pointer none)), none, [], false⟩]) (.seq (.region [
      ⟨(some 4), .callV (.func 9) [(.const (.int .i64 3))], none, [], false⟩,
      ⟨(some 3), .mov (.tmp 4), none, [], false⟩,
      ⟨(some 5), .extract 0 (.tmp 3), none, [], false⟩,
      ⟨(some 6), .extract 1 (.tmp 3), none, [], false⟩,
      ⟨(some 1), .mov (.tmp 5), none, [], false⟩,
      ⟨(some 2), .mov (.tmp 6), none, [], false⟩]) (.seq (.seq (.region [
      ⟨(some 7), .mov (.tmp 2), none, [], false⟩,
      ⟨(some 8), .bin .neq (so (.binOp .neq 24 (.tmp 7) (.const (.int .i64 0)) 24) 4) (.tmp 7) (.const (.int .i64 0)), none, [], false⟩,
      ⟨(some 9), .mov (.tmp 8), none, [], false⟩,
      ⟨(some 10), .mov (.tmp 1), (some (9, false)), [], false⟩,
      ⟨(some 11), .eq .ptr false (so (.binOp .eql 22 (.tmp 10) (.const (.pointer none)) 22) 4) (.tmp 10) (.const (.pointer none)), (some (9, false)), [], false⟩,
      ⟨(some 12), .pick (.tmp 9) (.const (.bool true)) (.tmp 11), none, [], false⟩,
      ⟨(some 13), .mov (.tmp 12), none, [], false⟩,
      ⟨(some 14), .mov (.tmp 1), (some (13, false)), [], false⟩,
      ⟨(some 15), .callV (.func 11) [(.tmp 14), (.const (.int .i64 5)), (.const (.int .i64 0)), (.const (.int .i64 0))], (some (13, false)), [], false⟩,
      ⟨(some 16), .raw (so (.unOp .not 4 (.tmp 15)) 4), (some (13, false)), [], false⟩,
      ⟨(some 17), .pick (.tmp 13) (.const (.bool true)) (.tmp 16), none, [], false⟩,
      ⟨(some 18), .mov (.tmp 17), none, [], false⟩,
      ⟨(some 19), .mov (.tmp 1), (some (18, false)), [], false⟩,
      ⟨(some 20), .callV (.func 11) [(.tmp 19), (.const (.int .i64 2)), (.const (.int .i64 0)), (.const (.int .i64 0))], (some (18, false)), [], false⟩,
      ⟨(some 21), .raw (so (.unOp .not 4 (.tmp 20)) 4), (some (18, false)), [], false⟩,
      ⟨(some 22), .pick (.tmp 18) (.const (.bool true)) (.tmp 21), none, [], false⟩,
      ⟨(some 23), .mov (.tmp 22), none, [], false⟩,
      ⟨(some 24), .mov (.tmp 1), (some (23, false)), [], false⟩,
      ⟨(some 25), .callV (.func 11) [(.tmp 24), (.const (.int .i64 9)), (.const (.int .i64 0)), (.const (.int .i64 0))], (some (23, false)), [], false⟩,
      ⟨(some 26), .raw (so (.unOp .not 4 (.tmp 25)) 4), (some (23, false)), [], false⟩,
      ⟨(some 27), .pick (.tmp 23) (.const (.bool true)) (.tmp 26), none, [], false⟩,
      ⟨(some 28), .mov (.tmp 27), none, [], false⟩,
      ⟨(some 29), .mov (.tmp 1), (some (28, false)), [], false⟩,
      ⟨(some 30), .callV (.func 12) [(.tmp 29), (.const (.int .i64 2)), (.const (.bool true))], (some (28, false)), [], false⟩,
      ⟨(some 31), .bin .neq (so (.binOp .neq 24 (.tmp 30) (.const (.int .i64 0)) 24) 4) (.tmp 30) (.const (.int .i64 0)), (some (28, false)), [], false⟩,
      ⟨(some 32), .pick (.tmp 28) (.const (.bool true)) (.tmp 31), none, [], false⟩,
      ⟨(some 33), .mov (.tmp 32), none, [], false⟩,
      ⟨(some 34), .mov (.tmp 1), (some (33, false)), [], false⟩,
      ⟨(some 35), .callV (.func 18) [(.tmp 34), (.const (.int .i64 5))], (some (33, false)), [], false⟩,
      ⟨(some 36), .bin .neq (so (.binOp .neq 24 (.tmp 35) (.const (.int .i64 0)) 24) 4) (.tmp 35) (.const (.int .i64 0)), (some (33, false)), [], false⟩,
      ⟨(some 37), .pick (.tmp 33) (.const (.bool true)) (.tmp 36), none, [], false⟩,
      ⟨(some 38), .mov (.tmp 37), none, [], false⟩,
      ⟨(some 39), .mov (.tmp 1), (some (38, false)), [], false⟩,
      ⟨(some 40), .callV (.func 11) [(.tmp 39), (.const (.int .i64 7)), (.const (.int .i64 9)), (.const (.int .i64 0))], (some (38, false)), [], false⟩,
      ⟨(some 41), .raw (so (.unOp .not 4 (.tmp 40)) 4), (some (38, false)), [], false⟩,
      ⟨(some 42), .pick (.tmp 38) (.const (.bool true)) (.tmp 41), none, [], false⟩]) (.cond (.tmp 42)
    (.seq (.region [
      ⟨(some 0), .mov (.const (.pointer none)), none, [], false⟩]) .ret)
    .skip)) (.seq (.region [
      ⟨(some 43), .mov (.tmp 1), none, [], false⟩,
      ⟨(some 0), .mov (.tmp 43), none, [], false⟩]) .ret))))
def zvQ : AFunc := ⟨44, [(0, none)], zvQ_c, none⟩
theorem zvQ_t0 : tableOf Try.prog 8 = some zvQ := by kernel_rfl
abbrev fn_ztbQ : FuncId := 9
def ztbQ_c : ACode :=
  (.seq (.region [
      ⟨(some 2), .mov (.const (.pointer none)), none, [], false⟩,
      ⟨(some 3), .mov (.const (.int .i64 0)), none, [], false⟩]) (.seq (.seq (.region [
      ⟨(some 4), .mov (.tmp 0), none, [], false⟩,
      ⟨(some 5), .bin .lss (so (.binOp .lss 3 (.tmp 4) (.const (.int .i64 1)) 3) 4) (.tmp 4) (.const (.int .i64 1)), none, [], false⟩,
      ⟨(some 6), .mov (.tmp 5), none, [], false⟩,
      ⟨(some 7), .mov (.tmp 0), (some (6, false)), [], false⟩,
      ⟨(some 8), .bin .gtr (so (.binOp .gtr 3 (.tmp 7) (.const (.int .i64 4096)) 3) 4) (.tmp 7) (.const (.int .i64 4096)), (some (6, false)), [], false⟩,
      ⟨(some 9), .pick (.tmp 6) (.const (.bool true)) (.tmp 8), none, [], false⟩]) (.cond (.tmp 9)
    (.seq (.region [
      ⟨(some 2), .mov (.const (.pointer none)), none, [], false⟩,
      ⟨(some 3), .mov (.const (.int .i64 3)), none, [], false⟩]) .ret)
    .skip)) (.seq (.region [
      ⟨(some 10), .mov (.tmp 0), none, [], false⟩,
      ⟨(some 11), .mkMap, none, [], false⟩,
      ⟨(some 12), .build [(.int .i64 0), (.map none)] [(0, 1, (.tmp 10)), (1, 1, (.tmp 11))], none, [], false⟩,
      ⟨(some 13), .box 75 (.tmp 12), none, [], false⟩,
      ⟨(some 2), .mov (.tmp 13), none, [], false⟩,
      ⟨(some 3), .mov (.const (.int .i64 0)), none, [], false⟩]) .ret)))
def ztbQ : AFunc := ⟨14, [(2, none), (3, none)], ztbQ_c, none⟩
theorem ztbQ_t0 : tableOf Try.prog 9 = some ztbQ := by kernel_rfl
theorem ztbQ_t : T0 9 = some ztbQ := withKept_t rfl (withTrue_t rfl ztbQ_t0)
def zyQ_c : ACode :=
  (.seq (.region [
      ⟨(some 8), .mov (.const (.bool false)), none, [], false⟩]) (.seq (.region [
      ⟨(some 12), .mov (.tmp 0), none, [], false⟩,
      ⟨(some 13), .mov (.tmp 1), none, [], false⟩,
      ⟨(some 14), .callV (.func 40) [(.tmp 13)], none, [], false⟩,
      ⟨(some 15), .callV (.func 21) [(.tmp 12), (.tmp 14)], none, [], false⟩,
      ⟨(some 11), .mov (.tmp 15), none, [], false⟩,
      ⟨(some 16), .extract 0 (.tmp 11), none, [], false⟩,
      ⟨(some 17), .extract 1 (.tmp 11), none, [], false⟩,
      ⟨(some 9), .mov (.tmp 16), none, [], false⟩,
      ⟨(some 10), .mov (.tmp 17), none, [], false⟩]) (.seq (.region [
      ⟨(some 18), .mov (.tmp 9), none, [], false⟩,
      ⟨(some 19), .mov (.tmp 2), none, [], false⟩,
      ⟨(some 20), .bin .eql (so (.binOp .eql 3 (.tmp 18) (.tmp 19) 3) 4) (.tmp 18) (.tmp 19), none, [], false⟩,
      ⟨(some 21), .mov (.tmp 20), none, [], false⟩,
      ⟨(some 22), .mov (.tmp 10), (some (21, true)), [], false⟩,
      ⟨(some 23), .mov (.tmp 3), (some (21, true)), [], false⟩,
      ⟨(some 24), .bin .eql (so (.binOp .eql 24 (.tmp 22) (.tmp 23) 24) 4) (.tmp 22) (.tmp 23), (some (21, true)), [], false⟩,
      ⟨(some 25), .pick (.tmp 21) (.tmp 24) (.const (.bool false)), none, [], false⟩,
      ⟨(some 8), .mov (.tmp 25), none, [], false⟩]) .ret)))
def zyQ : AFunc := ⟨26, [(8, none)], zyQ_c, none⟩
theorem zyQ_t0 : tableOf Try.prog 11 = some zyQ := by kernel_rfl
abbrev fn_zzbQ : FuncId := 12
def zzbQ_c : ACode :=
  (.seq (.region [
      ⟨(some 5), .box 4 (.tmp 2), none, [], false⟩,
      ⟨(some 6), .mov (.const (.int .i64 0)), none, [], false⟩]) (.seq (.region [
      ⟨(some 7), .mov (.tmp 0), none, [], false⟩,
      ⟨(some 8), .mov (.tmp 1), none, [], false⟩,
      ⟨(some 9), .mkFunc (.func 42) [] [(.tmp 5)], none, [], false⟩,
      ⟨(some 10), .callV (.func 41) [(.tmp 7), (.tmp 8), (.tmp 9)], none, [], false⟩,
      ⟨(some 6), .mov (.tmp 10), none, [], false⟩]) .ret))
def zzbQ : AFunc := ⟨11, [(6, none)], zzbQ_c, none⟩
theorem zzbQ_t0 : tableOf Try.prog 12 = some zzbQ := by kernel_rfl
theorem zzbQ_t : T0 12 = some zzbQ := withKept_t rfl (withTrue_t rfl zzbQ_t0)
abbrev fn_zuQ : FuncId := 15
def zuQ_c : ACode :=
  (.seq (.region [
      ⟨(some 0), .mov (.const (.bool false)), none, [], false⟩]) (.seq (.region [
      ⟨(some 2), .callV (.func 8) [], none, [], false⟩,
      ⟨(some 1), .mov (.tmp 2), none, [], false⟩]) (.seq (.region [
      ⟨(some 3), .mov (.tmp 1), none, [], false⟩,
      ⟨(some 4), .eq .ptr true (so (.binOp .neq 22 (.tmp 3) (.const (.pointer none)) 22) 4) (.tmp 3) (.const (.pointer none)), none, [], false⟩,
      ⟨(some 5), .mov (.tmp 4), none, [], false⟩,
      ⟨(some 6), .mov (.tmp 1), (some (5, true)), [], false⟩,
      ⟨(some 7), .callV (.func 17) [(.tmp 6)], (some (5, true)), [], false⟩,
      ⟨(some 8), .build [(.int .i64 0), (.bool false), (.bool false)] [(0, 1, (.const (.int .i64 2))), (2, 1, (.const (.bool true)))], (some (5, true)), [], false⟩,
      ⟨(some 9), .build [(.int .i64 0), (.bool false), (.bool false)] [(0, 1, (.const (.int .i64 5))), (1, 1, (.const (.bool true)))], (some (5, true)), [], false⟩,
      ⟨(some 10), .build [(.int .i64 0), (.bool false), (.bool false)] [(0, 1, (.const (.int .i64 7)))], (some (5, true)), [], false⟩,
      ⟨(some 11), .buildSlice 47 [(.int .i64 0), (.bool false), (.bool false), (.int .i64 0), (.bool false), (.bool false), (.int .i64 0), (.bool false), (.bool false)] 3 [(0, 3, (.tmp 8)), (3, 3, (.tmp 9)), (6, 3, (.tmp 10))], (some (5, true)), [], false⟩,
      ⟨(some 12), .callV (.func 16) [(.tmp 7), (.tmp 11)], (some (5, true)), [], false⟩,
      ⟨(some 13), .pick (.tmp 5) (.tmp 12) (.const (.bool false)), none, [], false⟩,
      ⟨(some 14), .mov (.tmp 13), none, [], false⟩,
      ⟨(some 15), .mov (.tmp 1), (some (14, true)), [], false⟩,
      ⟨(some 16), .callV (.func 11) [(.tmp 15), (.const (.int .i64 7)), (.const (.int .i64 0)), (.const (.int .i64 8))], (some (14, true)), [], false⟩,
      ⟨(some 17), .pick (.tmp 14) (.tmp 16) (.const (.bool false)), none, [], false⟩,
      ⟨(some 18), .mov (.tmp 17), none, [], false⟩,
      ⟨(some 19), .mov (.tmp 1), (some (18, true)), [], false⟩,
      ⟨(some 20), .callV (.func 11) [(.tmp 19), (.const (.int .i64 3)), (.const (.int .i64 7)), (.const (.int .i64 0))], (some (18, true)), [], false⟩,
      ⟨(some 21), .pick (.tmp 18) (.tmp 20) (.const (.bool false)), none, [], false⟩,
      ⟨(some 0), .mov (.tmp 21), none, [], false⟩]) .ret)))
def zuQ : AFunc := ⟨22, [(0, none)], zuQ_c, none⟩
theorem zuQ_t0 : tableOf Try.prog 15 = some zuQ := by kernel_rfl
abbrev fn_zqQ : FuncId := 16
def zqQ_l0 : ACode :=
  (.seq (.seq (.region [
      ⟨(some 12), .mov (.tmp 5), none, [], false⟩,
      ⟨(some 13), .mov (.tmp 12), none, [], false⟩,
      ⟨(some 14), .mov (.tmp 6), (some (13, true)), [], false⟩,
      ⟨(some 15), .mov (.tmp 0), (some (13, true)), [], false⟩,
      ⟨(some 16), .lenSl (.tmp 15), (some (13, true)), [], false⟩,
      ⟨(some 17), .bin .lss (so (.binOp .lss 3 (.tmp 14) (.tmp 16) 3) 4) (.tmp 14) (.tmp 16), (some (13, true)), [], false⟩,
      ⟨(some 18), .pick (.tmp 13) (.tmp 17) (.const (.bool false)), none, [], false⟩]) (.cond (.tmp 18)
    .skip
    (.exit 0))) (.seq (.block 1 (.regionD [
      ⟨(some 21), .mov (.tmp 0), none, [], false⟩,
      ⟨(some 22), .mov (.tmp 6), none, [], false⟩,
      ⟨(some 23), .indexSl 3 (.tmp 21) (.tmp 22), none, [], false⟩,
      ⟨(some 24), .load (some 3) (.tmp 23), none, [], false⟩,
      ⟨(some 25), .mov (.tmp 1), none, [], false⟩,
      ⟨(some 26), .mov (.tmp 6), none, [], false⟩,
      ⟨(some 27), .indexSl 3 (.tmp 25) (.tmp 26), none, [], false⟩,
      ⟨(some 28), .load (some 3) (.tmp 27), none, [], false⟩,
      ⟨(some 29), .bin .eql (so (.binOp .eql 47 (.tmp 24) (.tmp 28) 47) 4) (.tmp 24) (.tmp 28), none, [], true⟩,
      ⟨(some 5), .mov (.tmp 29), none, [], true⟩])) (.region [
      ⟨(some 19), .mov (.tmp 6), none, [], false⟩,
      ⟨(some 20), .bin .add (so (.binOp .add 3 (.tmp 19) (.const (.int .i64 1)) 3) 3) (.tmp 19) (.const (.int .i64 1)), none, [], false⟩,
      ⟨(some 6), .mov (.tmp 20), none, [], false⟩])))
def zqQ_c : ACode :=
  (.seq (.region [
      ⟨(some 4), .mov (.const (.bool false)), none, [], false⟩]) (.seq (.region [
      ⟨(some 7), .mov (.tmp 0), none, [], false⟩,
      ⟨(some 8), .lenSl (.tmp 7), none, [], false⟩,
      ⟨(some 9), .mov (.tmp 1), none, [], false⟩,
      ⟨(some 10), .lenSl (.tmp 9), none, [], false⟩,
      ⟨(some 11), .bin .eql (so (.binOp .eql 3 (.tmp 8) (.tmp 10) 3) 4) (.tmp 8) (.tmp 10), none, [], false⟩,
      ⟨(some 5), .mov (.tmp 11), none, [], false⟩]) (.seq (.seq (.region [
      ⟨(some 6), .mov (.const (.int .i64 0)), none, [], false⟩]) (.block 0 (.loop zqQ_l0))) (.seq (.region [
      ⟨(some 30), .mov (.tmp 5), none, [], false⟩,
      ⟨(some 4), .mov (.tmp 30), none, [], false⟩]) .ret))))
def zqQ : AFunc := ⟨31, [(4, none)], zqQ_c, none⟩
theorem zqQ_t0 : tableOf Try.prog 16 = some zqQ := by kernel_rfl
theorem zqQ_t : T0 16 = some zqQ := withKept_t rfl (withTrue_t rfl zqQ_t0)
abbrev fn_zybQ : FuncId := 17
def zybQ_l0 : ACode :=
  (.seq (.region [
      ⟨(some 12), .bin .lss (so (.binOp .lss 3 (.tmp 11) (.tmp 10) 3) 0) (.tmp 11) (.tmp 10), none, [], false⟩]) (.seq (.cond (.tmp 12)
    .skip
    (.exit 0)) (.seq (.block 1 (.seq (.region [
      ⟨(some 13), .indexSl 1 (.tmp 9) (.tmp 11), none, [], false⟩,
      ⟨(some 14), .load none (.tmp 13), none, [], false⟩,
      ⟨(some 4), .mov (.tmp 14), none, [], false⟩]) (.seq (.region [
      ⟨(some 15), .mov (.tmp 0), none, [], false⟩,
      ⟨(some 16), .nilCheck (.tmp 15), none, [], false⟩,
      ⟨(some 17), .fieldAddr 1 (.tmp 16), none, [], false⟩,
      ⟨(some 18), .load none (.tmp 17), none, [], false⟩,
      ⟨(some 19), .mov (.tmp 4), none, [], false⟩,
      ⟨(some 20), .lookup (.int .i64) (.pointer none) false (.tmp 18) (.tmp 19), none, [], false⟩,
      ⟨(some 5), .mov (.tmp 20), none, [], false⟩]) (.regionD [
      ⟨(some 21), .mov (.tmp 2), none, [], false⟩,
      ⟨(some 22), .mov (.tmp 4), none, [], false⟩,
      ⟨(some 23), .mov (.tmp 5), none, [], false⟩,
      ⟨(some 24), .nilCheck (.tmp 23), none, [], false⟩,
      ⟨(some 25), .fieldAddr 166 (.tmp 24), none, [], false⟩,
      ⟨(some 26), .load none (.tmp 25), none, [], false⟩,
      ⟨(some 27), .mov (.tmp 5), none, [], false⟩,
      ⟨(some 28), .nilCheck (.tmp 27), none, [], false⟩,
      ⟨(some 29), .fieldAddr 167 (.tmp 28), none, [], false⟩,
      ⟨(some 30), .load none (.tmp 29), none, [], false⟩,
      ⟨(some 31), .build [(.int .i64 0), (.bool false), (.bool false)] [(0, 1, (.tmp 22)), (1, 1, (.tmp 26)), (2, 1, (.tmp 30))], none, [], false⟩,
      ⟨(some 32), .buildSlice 47 [(.int .i64 0), (.bool false), (.bool false)] 1 [(0, 3, (.tmp 31))], none, [((some 21), .mov (.tmp 2), none)], false⟩,
      ⟨(some 33), .append 47 3 16 [(.int .i64 0), (.bool false), (.bool false)] false (.tmp 21) (.tmp 32), none, [], true⟩,
      ⟨(some 2), .mov (.tmp 33), none, [], true⟩])))) (.region [
      ⟨(some 34), .bin .add (so (.binOp .add 3 (.tmp 11) (.const (.int .i64 1)) 3) 3) (.tmp 11) (.const (.int .i64 1)), none, [], false⟩,
      ⟨(some 11), .mov (.tmp 34), none, [], false⟩]))))
def zybQ_c : ACode :=
  (.seq (.region [
      ⟨(some 2), .mov (.const (.slice none 0 0)), none, [], false⟩]) (.seq (.seq (.region [
      ⟨(some 6), .mov (.tmp 0), none, [], false⟩,
      ⟨(some 7), .callV (.func 37) [(.tmp 6)], none, [], false⟩]) (.cond (.tmp 7)
    (.seq (.region [
      ⟨(some 2), .mov (.const (.slice none 0 0)), none, [], false⟩]) .ret)
    .skip)) (.seq (.seq (.region [
      ⟨(some 8), .mov (.tmp 0), none, [], false⟩,
      ⟨(some 9), .callV (.func 38) [(.tmp 8)], none, [], false⟩,
      ⟨(some 10), .lenSl (.tmp 9), none, [], false⟩,
      ⟨(some 11), .mov (.const (.int .i64 0)), none, [], false⟩]) (.block 0 (.loop zybQ_l0))) (.seq (.region [
      ⟨(some 35), .mov (.tmp 2), none, [], false⟩,
      ⟨(some 2), .mov (.tmp 35), none, [], false⟩]) .ret))))
def zybQ : AFunc := ⟨36, [(2, none)], zybQ_c, none⟩
theorem zybQ_t0 : tableOf Try.prog 17 = some zybQ := by kernel_rfl
theorem zybQ_t : T0 17 = some zybQ := withKept_t rfl (withTrue_t rfl zybQ_t0)
abbrev fn_zdcQ : FuncId := 18
def zdcQ_c : ACode :=
  (.seq (.region [
      ⟨(some 4), .mov (.const (.int .i64 0)), none, [], false⟩]) (.seq (.region [
      ⟨(some 5), .mov (.tmp 0), none, [], false⟩,
      ⟨(some 6), .mov (.tmp 1), none, [], false⟩,
      ⟨(some 7), .callV (.func 41) [(.tmp 5), (.tmp 6), (.func 45)], none, [], false⟩,
      ⟨(some 4), .mov (.tmp 7), none, [], false⟩]) .ret))
def zdcQ : AFunc := ⟨8, [(4, none)], zdcQ_c, none⟩
theorem zdcQ_t0 : tableOf Try.prog 18 = some zdcQ := by kernel_rfl
theorem zdcQ_t : T0 18 = some zdcQ := withKept_t rfl (withTrue_t rfl zdcQ_t0)
abbrev fn_zbcQ : FuncId := 21
def zbcQ_c : ACode :=
  (.seq (.region [
      ⟨(some 3), .box 36 (.tmp 1), none, [], false⟩,
      ⟨(some 4), .mov (.const (.int .i64 0)), none, [], false⟩,
      ⟨(some 5), .mov (.const (.int .i64 0)), none, [], false⟩]) (.seq (.seq (.region [
      ⟨(some 10), .mov (.tmp 0), none, [], false⟩,
      ⟨(some 11), .callV (.func 37) [(.tmp 10)], none, [], false⟩]) (.cond (.tmp 11)
    (.seq (.region [
      ⟨(some 4), .mov (.const (.int .i64 0)), none, [], false⟩,
      ⟨(some 5), .mov (.const (.int .i64 1)), none, [], false⟩]) .ret)
    .skip)) (.seq (.regionD [
      ⟨(some 13), .mov (.tmp 0), none, [], false⟩,
      ⟨(some 14), .nilCheck (.tmp 13), none, [], false⟩,
      ⟨(some 15), .fieldAddr 1 (.tmp 14), none, [], false⟩,
      ⟨(some 16), .load none (.tmp 15), none, [], false⟩,
      ⟨(some 17), .fieldAddr 0 (.tmp 3), none, [], false⟩,
      ⟨(some 18), .fieldAddr 1 (.tmp 17), none, [], false⟩,
      ⟨(some 19), .load none (.tmp 18), none, [], false⟩,
      ⟨(some 20), .lookup (.int .i64) (.pointer none) true (.tmp 16) (.tmp 19), none, [], true⟩,
      ⟨(some 12), .mov (.tmp 20), none, [], true⟩,
      ⟨(some 21), .extract 0 (.tmp 12), none, [], false⟩,
      ⟨(some 22), .extract 1 (.tmp 12), none, [], false⟩,
      ⟨(some 6), .mov (.tmp 21), none, [], false⟩,
      ⟨(some 7), .mov (.tmp 22), none, [], true⟩]) (.seq (.block 0 (.seq (.region [
      ⟨(some 24), .fieldAddr 0 (.tmp 3), none, [], false⟩,
      ⟨(some 25), .fieldAddr 1 (.tmp 24), none, [], false⟩,
      ⟨(some 26), .load none (.tmp 25), none, [], false⟩,
      ⟨(some 27), .bin .lss (so (.binOp .lss 3 (.tmp 26) (.const (.int .i64 1)) 3) 4) (.tmp 26) (.const (.int .i64 1)), none, [], false⟩,
      ⟨(some 28), .mov (.tmp 27), none, [], false⟩,
      ⟨(some 29), .fieldAddr 0 (.tmp 3), (some (28, false)), [], false⟩,
      ⟨(some 30), .fieldAddr 1 (.tmp 29), (some (28, false)), [], false⟩,
      ⟨(some 31), .load none (.tmp 30), (some (28, false)), [], false⟩,
      ⟨(some 32), .bin .gtr (so (.binOp .gtr 3 (.tmp 31) (.const (.int .i64 1073741824)) 3) 4) (.tmp 31) (.const (.int .i64 1073741824)), (some (28, false)), [], false⟩,
      ⟨(some 33), .pick (.tmp 28) (.const (.bool true)) (.tmp 32), none, [], false⟩,
      ⟨(some 23), .mov (.tmp 33), none, [], false⟩]) (.cond (.tmp 23)
    (.seq (.region [
      ⟨(some 4), .mov (.const (.int .i64 0)), none, [], false⟩,
      ⟨(some 5), .mov (.const (.int .i64 13)), none, [], false⟩]) .ret)
    (.seq (.region [
      ⟨(some 35), .mov (.tmp 7), none, [], false⟩,
      ⟨(some 34), .mov (.tmp 35), none, [], false⟩]) (.cond (.tmp 34)
    (.seq (.region [
      ⟨(some 4), .mov (.const (.int .i64 0)), none, [], false⟩,
      ⟨(some 5), .mov (.const (.int .i64 8)), none, [], false⟩]) .ret)
    .skip))))) (.seq (.region [
      ⟨(some 8), .mov (.const (.int .i64 0)), none, [], false⟩]) (.seq (.seq (.regionD [
      ⟨(some 36), .mov (.tmp 0), none, [], false⟩,
      ⟨(some 37), .nilCheck (.tmp 36), none, [], false⟩,
      ⟨(some 38), .fieldAddr 1 (.tmp 37), none, [], false⟩,
      ⟨(some 39), .load none (.tmp 38), none, [], false⟩,
      ⟨(some 40), .lenMap (.tmp 39), none, [], false⟩,
      ⟨(some 41), .mov (.tmp 0), none, [], false⟩,
      ⟨(some 42), .nilCheck (.tmp 41), none, [], false⟩,
      ⟨(some 43), .fieldAddr 0 (.tmp 42), none, [], false⟩,
      ⟨(some 44), .load none (.tmp 43), none, [], false⟩,
      ⟨(some 45), .bin .geq (so (.binOp .geq 3 (.tmp 40) (.tmp 44) 3) 4) (.tmp 40) (.tmp 44), none, [], true⟩]) (.cond (.tmp 45)
    (.seq (.region [
      ⟨(some 46), .mov (.tmp 0), none, [], false⟩,
      ⟨(some 47), .callV (.func 46) [(.tmp 46)], none, [], false⟩,
      ⟨(some 9), .mov (.tmp 47), none, [], false⟩]) (.seq (.seq (.region [
      ⟨(some 48), .mov (.tmp 9), none, [], false⟩,
      ⟨(some 49), .lenSl (.tmp 48), none, [], false⟩,
      ⟨(some 50), .bin .eql (so (.binOp .eql 3 (.tmp 49) (.const (.int .i64 0)) 3) 4) (.tmp 49) (.const (.int .i64 0)), none, [], false⟩]) (.cond (.tmp 50)
    (.seq (.region [
      ⟨(some 4), .mov (.const (.int .i64 0)), none, [], false⟩,
      ⟨(some 5), .mov (.const (.int .i64 7)), none, [], false⟩]) .ret)
    .skip)) (.seq (.region [
      ⟨(some 51), .mov (.tmp 9), none, [], false⟩,
      ⟨(some 52), .callV (.func 47) [(.tmp 51), (.func 48)], none, [], false⟩,
      ⟨(some 53), .nilCheck (.tmp 52), none, [], false⟩,
      ⟨(some 54), .fieldAddr 0 (.tmp 53), none, [], false⟩,
      ⟨(some 55), .fieldAddr 0 (.tmp 54), none, [], false⟩,
      ⟨(some 56), .fieldAddr 1 (.tmp 55), none, [], false⟩,
      ⟨(some 57), .load none (.tmp 56), none, [], false⟩,
      ⟨(some 8), .mov (.tmp 57), none, [], false⟩]) (.region [
      ⟨(some 58), .mov (.tmp 0), none, [], false⟩,
      ⟨(some 59), .nilCheck (.tmp 58), none, [], false⟩,
      ⟨(some 60), .fieldAddr 1 (.tmp 59), none, [], false⟩,
      ⟨(some 61), .load none (.tmp 60), none, [], false⟩,
      ⟨(some 62), .mov (.tmp 8), none, [], false⟩,
      ⟨none, .delete (.int .i64) (.tmp 61) (.tmp 62), none, [], false⟩]))))
    .skip)) (.seq (.regionD [
      ⟨(some 63), .mov (.tmp 0), none, [], false⟩,
      ⟨(some 64), .nilCheck (.tmp 63), none, [], false⟩,
      ⟨(some 65), .fieldAddr 1 (.tmp 64), none, [], false⟩,
      ⟨(some 66), .load none (.tmp 65), none, [], false⟩,
      ⟨(some 67), .fieldAddr 0 (.tmp 3), none, [], false⟩,
      ⟨(some 68), .fieldAddr 1 (.tmp 67), none, [], false⟩,
      ⟨(some 69), .load none (.tmp 68), none, [], false⟩,
      ⟨(some 70), .load (some 166) (.tmp 3), none, [], false⟩,
      ⟨(some 71), .callV (.func 39) [(.tmp 70)], none, [((some 69), .load none (.tmp 68), none), ((some 68), .fieldAddr 1 (.tmp 67), none), ((some 67), .fieldAddr 0 (.tmp 3), none), ((some 66), .load none (.tmp 65), none), ((some 65), .fieldAddr 1 (.tmp 64), none), ((some 64), .nilCheck (.tmp 63), none), ((some 63), .mov (.tmp 0), none)], false⟩,
      ⟨(some 72), .build ((.string ⟨⟨[]⟩⟩) :: ((.int .i64 0) :: ((.int .i64 0) :: (z32 ++ (z32 ++ (z32 ++ (z32 ++ ((.int .i64 0) :: (z32 ++ [(.slice none 0 0), (.slice none 0 0), (.bool false), (.bool false)]))))))))) [(0, 166, (.tmp 71))], none, [], false⟩,
      ⟨(some 73), .box 82 (.tmp 72), none, [((some 69), .load none (.tmp 68), none), ((some 68), .fieldAddr 1 (.tmp 67), none), ((some 67), .fieldAddr 0 (.tmp 3), none), ((some 66), .load none (.tmp 65), none), ((some 65), .fieldAddr 1 (.tmp 64), none), ((some 64), .nilCheck (.tmp 63), none), ((some 63), .mov (.tmp 0), none)], false⟩,
      ⟨none, .mapUpdate (.int .i64) (.tmp 66) (.tmp 69) (.tmp 73), none, [], true⟩]) (.seq (.region [
      ⟨(some 74), .mov (.tmp 8), none, [], false⟩,
      ⟨(some 4), .mov (.tmp 74), none, [], false⟩,
      ⟨(some 5), .mov (.const (.int .i64 0)), none, [], false⟩]) .ret))))))))
def zbcQ : AFunc := ⟨75, [(4, none), (5, none)], zbcQ_c, none⟩
theorem zbcQ_t0 : tableOf Try.prog 21 = some zbcQ := by kernel_rfl
theorem zbcQ_t : T0 21 = some zbcQ := withKept_t rfl (withTrue_t rfl zbcQ_t0)
abbrev fn_zgcQ : FuncId := 37
def zgcQ_c : ACode :=
  (.seq (.region [
      ⟨(some 2), .mov (.const (.bool false)), none, [], false⟩]) (.seq (.region [
      ⟨(some 3), .mov (.tmp 0), none, [], false⟩,
      ⟨(some 4), .eq .ptr false (so (.binOp .eql 22 (.tmp 3) (.const (.pointer none)) 22) 4) (.tmp 3) (.const (.pointer none)), none, [], false⟩,
      ⟨(some 5), .mov (.tmp 4), none, [], false⟩,
      ⟨(some 6), .mov (.tmp 0), (some (5, false)), [], false⟩,
      ⟨(some 7), .nilCheck (.tmp 6), (some (5, false)), [], false⟩,
      ⟨(some 8), .fieldAddr 1 (.tmp 7), (some (5, false)), [], false⟩,
      ⟨(some 9), .load none (.tmp 8), (some (5, false)), [], false⟩,
      ⟨(some 10), .eq .map false (so (.binOp .eql 73 (.tmp 9) (.const (.map none)) 73) 4) (.tmp 9) (.const (.map none)), (some (5, false)), [], false⟩,
      ⟨(some 11), .pick (.tmp 5) (.const (.bool true)) (.tmp 10), none, [], false⟩,
      ⟨(some 2), .mov (.tmp 11), none, [], false⟩]) .ret))
def zgcQ : AFunc := ⟨12, [(2, none)], zgcQ_c, none⟩
theorem zgcQ_t0 : tableOf Try.prog 37 = some zgcQ := by kernel_rfl
theorem zgcQ_t : T0 37 = some zgcQ := withKept_t rfl (withTrue_t rfl zgcQ_t0)
abbrev fn_zhcQ : FuncId := 38
def zhcQ_l0 : ACode :=
  (.seq (.seq (.region [
      ⟨(some 14), .load none (.tmp 3), none, [], false⟩,
      ⟨(some 15), .callV (.func 61) [(.tmp 14)], none, [], false⟩,
      ⟨(some 16), .bin .gtr (so (.binOp .gtr 3 (.tmp 15) (.const (.int .i64 0)) 3) 4) (.tmp 15) (.const (.int .i64 0)), none, [], false⟩]) (.cond (.tmp 16)
    .skip
    (.exit 0))) (.block 1 (.seq (.region [
      ⟨(some 18), .mkIface 107 (.tmp 3), none, [], false⟩,
      ⟨(some 19), .callV (.func 62) [(.tmp 18)], none, [], false⟩,
      ⟨(some 20), .assertTo 3 (.int .i64 0) true (.tmp 19), none, [], false⟩,
      ⟨(some 17), .mov (.tmp 20), none, [], false⟩,
      ⟨(some 21), .extract 0 (.tmp 17), none, [], false⟩,
      ⟨(some 22), .extract 1 (.tmp 17), none, [], false⟩,
      ⟨(some 4), .mov (.tmp 21), none, [], false⟩,
      ⟨(some 5), .mov (.tmp 22), none, [], false⟩]) (.seq (.region [
      ⟨(some 23), .mov (.tmp 5), none, [], false⟩]) (.cond (.tmp 23)
    (.region [
      ⟨(some 24), .mov (.tmp 2), none, [], false⟩,
      ⟨(some 25), .mov (.tmp 4), none, [], false⟩,
      ⟨(some 26), .buildSlice 3 [(.int .i64 0)] 1 [(0, 1, (.tmp 25))], none, [], false⟩,
      ⟨(some 27), .append 3 1 8 [(.int .i64 0)] false (.tmp 24) (.tmp 26), none, [], false⟩,
      ⟨(some 2), .mov (.tmp 27), none, [], false⟩])
    .skip)))))
def zhcQ_c : ACode :=
  (.seq (.region [
      ⟨(some 2), .mov (.const (.slice none 0 0)), none, [], false⟩]) (.seq (.region [
      ⟨(some 6), .mov (.tmp 0), none, [], false⟩,
      ⟨(some 7), .nilCheck (.tmp 6), none, [], false⟩,
      ⟨(some 8), .fieldAddr 1 (.tmp 7), none, [], false⟩,
      ⟨(some 9), .load none (.tmp 8), none, [], false⟩,
      ⟨(some 10), .callV (.func 59) [(.tmp 9)], none, [], false⟩,
      ⟨(some 11), .callV (.func 58) [(.tmp 10)], none, [], false⟩,
      ⟨(some 3), .alloc 101 [(.slice none 0 0)], none, [], false⟩,
      ⟨none, .store 1 (.tmp 3) (.tmp 11), none, [], false⟩]) (.seq (.region [
      ⟨(some 12), .mkIface 107 (.tmp 3), none, [], false⟩,
      ⟨(some 13), .callV (.func 60) [(.tmp 12)], none, [], false⟩]) (.seq (.block 0 (.loop zhcQ_l0)) (.seq (.region [
      ⟨(some 28), .mov (.tmp 2), none, [], false⟩,
      ⟨(some 2), .mov (.tmp 28), none, [], false⟩]) .ret)))))
def zhcQ : AFunc := ⟨29, [(2, none)], zhcQ_c, none⟩
theorem zhcQ_t0 : tableOf Try.prog 38 = some zhcQ := by kernel_rfl
theorem zhcQ_t : T0 38 = some zhcQ := withKept_t rfl (withTrue_t rfl zhcQ_t0)
abbrev fn_zpcQ : FuncId := 39
def zpcQ_c : ACode :=
  (.seq (.region [
      ⟨(some 1), .box 36 (.tmp 0), none, [], false⟩,
      ⟨(some 2), .alloc 36 ((.string ⟨⟨[]⟩⟩) :: ((.int .i64 0) :: ((.int .i64 0) :: (z32 ++ (z32 ++ (z32 ++ (z32 ++ ((.int .i64 0) :: (z32 ++ [(.slice none 0 0), (.slice none 0 0)]))))))))), none, [], false⟩]) (.seq (.regionD [
      ⟨(some 3), .fieldAddr 165 (.tmp 1), none, [], false⟩,
      ⟨(some 4), .load none (.tmp 3), none, [], false⟩,
      ⟨(some 6), .fieldAddr 131 (.tmp 1), none, [], false⟩,
      ⟨(some 7), .fieldAddr 33 (.tmp 6), none, [], false⟩,
      ⟨(some 8), .load none (.tmp 7), none, [], false⟩,
      ⟨(some 5), .callV (.func 63) [(.tmp 4)], none, [((some 8), .load none (.tmp 7), none), ((some 7), .fieldAddr 33 (.tmp 6), none), ((some 6), .fieldAddr 131 (.tmp 1), none)], false⟩,
      ⟨(some 10), .fieldAddr 165 (.tmp 1), none, [], false⟩,
      ⟨(some 9), .callV (.func 64) [(.tmp 8)], none, [((some 10), .fieldAddr 165 (.tmp 1), none)], false⟩,
      ⟨none, .store 1 (.tmp 10) (.tmp 5), none, [], true⟩,
      ⟨(some 11), .fieldAddr 131 (.tmp 1), none, [], true⟩,
      ⟨(some 12), .fieldAddr 33 (.tmp 11), none, [], true⟩,
      ⟨none, .store 1 (.tmp 12) (.tmp 9), none, [], true⟩]) (.seq (.region [
      ⟨(some 13), .load (some 166) (.tmp 1), none, [], false⟩,
      ⟨none, .store 166 (.tmp 2) (.tmp 13), none, [], false⟩]) .ret)))
def zpcQ : AFunc := ⟨14, [(2, some (some 166))], zpcQ_c, none⟩
theorem zpcQ_t0 : tableOf Try.prog 39 = some zpcQ := by kernel_rfl
theorem zpcQ_t : T0 39 = some zpcQ := withKept_t rfl (withTrue_t rfl zpcQ_t0)
def zxQ_c : ACode :=
  (.seq (.region [
      ⟨(some 2), .alloc 36 ((.string ⟨⟨[]⟩⟩) :: ((.int .i64 0) :: ((.int .i64 0) :: (z32 ++ (z32 ++ (z32 ++ (z32 ++ ((.int .i64 0) :: (z32 ++ [(.slice none 0 0), (.slice none 0 0)]))))))))), none, [], false⟩]) (.seq (.region [
      ⟨(some 3), .mov (.tmp 0), none, [], false⟩,
      ⟨(some 4), .build ((.string ⟨⟨[]⟩⟩) :: ((.int .i64 0) :: ((.int .i64 0) :: (z32 ++ (z32 ++ (z32 ++ z32)))))) [(1, 1, (.tmp 3))], none, [], false⟩,
      ⟨(some 5), .build ((.string ⟨⟨[]⟩⟩) :: ((.int .i64 0) :: ((.int .i64 0) :: (z32 ++ (z32 ++ (z32 ++ (z32 ++ ((.int .i64 0) :: (z32 ++ [(.slice none 0 0), (.slice none 0 0)]))))))))) [(0, 131, (.tmp 4))], none, [], false⟩,
      ⟨none, .store 166 (.tmp 2) (.tmp 5), none, [], false⟩]) .ret))
def zxQ : AFunc := ⟨6, [(2, some (some 166))], zxQ_c, none⟩
theorem zxQ_t0 : tableOf Try.prog 40 = some zxQ := by kernel_rfl
abbrev fn_zicQ : FuncId := 41
def zicQ_c : ACode :=
  (.seq (.region [
      ⟨(some 6), .mov (.const (.int .i64 0)), none, [], false⟩]) (.seq (.seq (.region [
      ⟨(some 9), .mov (.tmp 0), none, [], false⟩,
      ⟨(some 10), .callV (.func 37) [(.tmp 9)], none, [], false⟩]) (.cond (.tmp 10)
    (.seq (.region [
      ⟨(some 6), .mov (.const (.int .i64 1)), none, [], false⟩]) .ret)
    .skip)) (.seq (.region [
      ⟨(some 12), .mov (.tmp 0), none, [], false⟩,
      ⟨(some 13), .nilCheck (.tmp 12), none, [], false⟩,
      ⟨(some 14), .fieldAddr 1 (.tmp 13), none, [], false⟩,
      ⟨(some 15), .load none (.tmp 14), none, [], false⟩,
      ⟨(some 16), .mov (.tmp 1), none, [], false⟩,
      ⟨(some 17), .lookup (.int .i64) (.pointer none) true (.tmp 15) (.tmp 16), none, [], false⟩,
      ⟨(some 11), .mov (.tmp 17), none, [], false⟩,
      ⟨(some 18), .extract 0 (.tmp 11), none, [], false⟩,
      ⟨(some 19), .extract 1 (.tmp 11), none, [], false⟩,
      ⟨(some 7), .mov (.tmp 18), none, [], false⟩,
      ⟨(some 8), .mov (.tmp 19), none, [], false⟩]) (.seq (.seq (.region [
      ⟨(some 20), .mov (.tmp 8), none, [], false⟩,
      ⟨(some 21), .raw (so (.unOp .not 4 (.tmp 20)) 4), none, [], false⟩]) (.cond (.tmp 21)
    (.seq (.region [
      ⟨(some 6), .mov (.const (.int .i64 10)), none, [], false⟩]) .ret)
    .skip)) (.seq (.region [
      ⟨(some 22), .mov (.tmp 2), none, [], false⟩,
      ⟨(some 23), .mov (.tmp 7), none, [], false⟩,
      ⟨(some 24), .callV (.tmp 22) [(.tmp 23)], none, [], false⟩]) (.seq (.region [
      ⟨(some 6), .mov (.const (.int .i64 0)), none, [], false⟩]) .ret))))))
def zicQ : AFunc := ⟨25, [(6, none)], zicQ_c, none⟩
theorem zicQ_t0 : tableOf Try.prog 41 = some zicQ := by kernel_rfl
theorem zicQ_t : T0 41 = some zicQ := withKept_t rfl (withTrue_t rfl zicQ_t0)
abbrev fn_zacQ : FuncId := 42
def zacQ_c : ACode :=
  (.region [
      ⟨(some 3), .mov (.tmp 0), none, [], false⟩,
      ⟨(some 4), .load none (.tmp 1), none, [], false⟩,
      ⟨(some 5), .nilCheck (.tmp 3), none, [], false⟩,
      ⟨(some 6), .fieldAddr 167 (.tmp 5), none, [], false⟩,
      ⟨none, .store 1 (.tmp 6) (.tmp 4), none, [], false⟩])
def zacQ : AFunc := ⟨7, [], zacQ_c, none⟩
theorem zacQ_t0 : tableOf Try.prog 42 = some zacQ := by kernel_rfl
theorem zacQ_t : T0 42 = some zacQ := withKept_t rfl (withTrue_t rfl zacQ_t0)
abbrev fn_zecQ : FuncId := 45
def zecQ_c : ACode :=
  (.region [
      ⟨(some 2), .mov (.tmp 0), none, [], false⟩,
      ⟨(some 3), .nilCheck (.tmp 2), none, [], false⟩,
      ⟨(some 4), .fieldAddr 166 (.tmp 3), none, [], false⟩,
      ⟨none, .store 1 (.tmp 4) (.const (.bool true)), none, [], false⟩])
def zecQ : AFunc := ⟨5, [], zecQ_c, none⟩
theorem zecQ_t0 : tableOf Try.prog 45 = some zecQ := by kernel_rfl
theorem zecQ_t : T0 45 = some zecQ := withKept_t rfl (withTrue_t rfl zecQ_t0)
abbrev fn_zfcQ : FuncId := 46
def zfcQ_ra0 : Code := (rangeParts (subCode ((Try.prog.funcs[46]?).bind (·.body)) [true, false, true, false])).1
def zfcQ_rb0 : Code := (rangeParts (subCode ((Try.prog.funcs[46]?).bind (·.body)) [true, false, true, false])).2
def zfcQ_a0 : ACode :=
  (.region [
      ⟨(some 3), .mov (.tmp 9), none, [], false⟩])
def zfcQ_b0 : ACode :=
  (.block 1 (.seq (.region [
      ⟨(some 10), .mov (.tmp 3), none, [], false⟩,
      ⟨(some 11), .nilCheck (.tmp 10), none, [], false⟩,
      ⟨(some 12), .fieldAddr 167 (.tmp 11), none, [], false⟩,
      ⟨(some 13), .load none (.tmp 12), none, [], false⟩,
      ⟨(some 14), .raw (so (.unOp .not 4 (.tmp 13)) 4), none, [], false⟩]) (.cond (.tmp 14)
    (.region [
      ⟨(some 15), .load none (.tmp 2), none, [], false⟩,
      ⟨(some 16), .mov (.tmp 3), none, [], false⟩,
      ⟨(some 17), .buildSlice 80 [(.pointer none)] 1 [(0, 1, (.tmp 16))], none, [], false⟩,
      ⟨(some 18), .append 80 1 8 [(.pointer none)] false (.tmp 15) (.tmp 17), none, [], false⟩,
      ⟨none, .store 1 (.tmp 2) (.tmp 18), none, [], false⟩])
    .skip)))
theorem zfcQ_ca0 : comp Try.prog zfcQ_ra0 = some zfcQ_a0 := by kernel_rfl
theorem zfcQ_cb0 : comp Try.prog zfcQ_rb0 = some zfcQ_b0 := by kernel_rfl
theorem zfcQ_na0 : noDefer zfcQ_ra0 = true := by kernel_rfl
theorem zfcQ_nb0 : noDefer zfcQ_rb0 = true := by kernel_rfl
def zfcQ_c : ACode :=
  (.seq (.region [
      ⟨(some 2), .alloc 89 [(.slice none 0 0)], none, [], false⟩]) (.seq (.seq (.region [
      ⟨(some 4), .mov (.tmp 0), none, [], false⟩,
      ⟨(some 5), .nilCheck (.tmp 4), none, [], false⟩,
      ⟨(some 6), .fieldAddr 1 (.tmp 5), none, [], false⟩,
      ⟨(some 7), .load none (.tmp 6), none, [], false⟩,
      ⟨(some 8), .callV (.func 65) [(.tmp 7)], none, [], false⟩]) (.block 0 (.rangeFunc (.tmp 8) [9] zfcQ_ra0 zfcQ_rb0))) (.seq (.region [
      ⟨(some 19), .load none (.tmp 2), none, [], false⟩,
      ⟨none, .store 1 (.tmp 2) (.tmp 19), none, [], false⟩]) .ret)))
def zfcQ : AFunc := ⟨20, [(2, some none)], zfcQ_c, none⟩
theorem zfcQ_t0 : tableOf Try.prog 46 = some zfcQ := by kernel_rfl
theorem zfcQ_t : T0 46 = some zfcQ := withKept_t rfl (withTrue_t rfl zfcQ_t0)
abbrev fn_zsbQ : FuncId := 47
def zsbQ_l0 : ACode :=
  (.seq (.seq (.region [
      ⟨(some 14), .mov (.tmp 6), none, [], false⟩,
      ⟨(some 15), .mov (.tmp 0), none, [], false⟩,
      ⟨(some 16), .lenSl (.tmp 15), none, [], false⟩,
      ⟨(some 17), .bin .lss (so (.binOp .lss 3 (.tmp 14) (.tmp 16) 3) 4) (.tmp 14) (.tmp 16), none, [], false⟩]) (.cond (.tmp 17)
    .skip
    (.exit 0))) (.seq (.block 1 (.seq (.region [
      ⟨(some 20), .mov (.tmp 1), none, [], false⟩,
      ⟨(some 21), .mov (.tmp 0), none, [], false⟩,
      ⟨(some 22), .mov (.tmp 6), none, [], false⟩,
      ⟨(some 23), .indexSl 1 (.tmp 21) (.tmp 22), none, [], false⟩,
      ⟨(some 24), .load none (.tmp 23), none, [], false⟩,
      ⟨(some 25), .mov (.tmp 5), none, [], false⟩,
      ⟨(some 26), .callV (.tmp 20) [(.tmp 24), (.tmp 25)], none, [], false⟩,
      ⟨(some 27), .bin .lss (so (.binOp .lss 3 (.tmp 26) (.const (.int .i64 0)) 3) 4) (.tmp 26) (.const (.int .i64 0)), none, [], false⟩]) (.cond (.tmp 27)
    (.region [
      ⟨(some 28), .mov (.tmp 0), none, [], false⟩,
      ⟨(some 29), .mov (.tmp 6), none, [], false⟩,
      ⟨(some 30), .indexSl 1 (.tmp 28) (.tmp 29), none, [], false⟩,
      ⟨(some 31), .load none (.tmp 30), none, [], false⟩,
      ⟨(some 5), .mov (.tmp 31), none, [], false⟩])
    .skip))) (.region [
      ⟨(some 18), .mov (.tmp 6), none, [], false⟩,
      ⟨(some 19), .bin .add (so (.binOp .add 3 (.tmp 18) (.const (.int .i64 1)) 3) 3) (.tmp 18) (.const (.int .i64 1)), none, [], false⟩,
      ⟨(some 6), .mov (.tmp 19), none, [], false⟩])))
def zsbQ_c : ACode :=
  (.seq (.region [
      ⟨(some 4), .mov (.const (.pointer none)), none, [], false⟩]) (.seq (.seq (.region [
      ⟨(some 7), .mov (.tmp 0), none, [], false⟩,
      ⟨(some 8), .lenSl (.tmp 7), none, [], false⟩,
      ⟨(some 9), .bin .lss (so (.binOp .lss 3 (.tmp 8) (.const (.int .i64 1)) 3) 4) (.tmp 8) (.const (.int .i64 1)), none, [], false⟩]) (.cond (.tmp 9)
    (.region [
      ⟨(some 10), .mkIface 9 (.const (.string ⟨⟨[115, 108, 105, 99, 101, 115, 46, 77, 105, 110, 70, 117, 110, 99, 58, 32, 101, 109, 112, 116, 121, 32, 108, 105, 115, 116]⟩⟩)), none, [], false⟩,
      ⟨none, .panic (.tmp 10), none, [], false⟩])
    .skip)) (.seq (.region [
      ⟨(some 11), .mov (.tmp 0), none, [], false⟩,
      ⟨(some 12), .indexSl 1 (.tmp 11) (.const (.int .i64 0)), none, [], false⟩,
      ⟨(some 13), .load none (.tmp 12), none, [], false⟩,
      ⟨(some 5), .mov (.tmp 13), none, [], false⟩]) (.seq (.seq (.region [
      ⟨(some 6), .mov (.const (.int .i64 1)), none, [], false⟩]) (.block 0 (.loop zsbQ_l0))) (.seq (.region [
      ⟨(some 32), .mov (.tmp 5), none, [], false⟩,
      ⟨(some 4), .mov (.tmp 32), none, [], false⟩]) .ret)))))
def zsbQ : AFunc := ⟨33, [(4, none)], zsbQ_c, none⟩
theorem zsbQ_t0 : tableOf Try.prog 47 = some zsbQ := by kernel_rfl
theorem zsbQ_t : T0 47 = some zsbQ := withKept_t rfl (withTrue_t rfl zsbQ_t0)
abbrev fn_zncQ : FuncId := 48
def zncQ_c : ACode :=
  (.seq (.region [
      ⟨(some 4), .mov (.const (.int .i64 0)), none, [], false⟩]) (.seq (.region [
      ⟨(some 5), .mov (.func 66), none, [], false⟩]) (.seq (.regionD [
      ⟨(some 6), .mov (.tmp 5), none, [], false⟩,
      ⟨(some 7), .mov (.tmp 0), none, [], false⟩,
      ⟨(some 9), .mov (.tmp 5), none, [], false⟩,
      ⟨(some 10), .mov (.tmp 1), none, [], false⟩,
      ⟨(some 13), .mov (.tmp 0), none, [], false⟩,
      ⟨(some 14), .nilCheck (.tmp 13), none, [], false⟩,
      ⟨(some 15), .fieldAddr 0 (.tmp 14), none, [], false⟩,
      ⟨(some 16), .fieldAddr 0 (.tmp 15), none, [], false⟩,
      ⟨(some 17), .fieldAddr 1 (.tmp 16), none, [], false⟩,
      ⟨(some 18), .load none (.tmp 17), none, [], false⟩,
      ⟨(some 19), .mov (.tmp 1), none, [], false⟩,
      ⟨(some 20), .nilCheck (.tmp 19), none, [], false⟩,
      ⟨(some 21), .fieldAddr 0 (.tmp 20), none, [], false⟩,
      ⟨(some 22), .fieldAddr 0 (.tmp 21), none, [], false⟩,
      ⟨(some 23), .fieldAddr 1 (.tmp 22), none, [], false⟩,
      ⟨(some 24), .load none (.tmp 23), none, [], false⟩,
      ⟨(some 8), .callV (.tmp 6) [(.tmp 7)], none, [((some 24), .load none (.tmp 23), none), ((some 23), .fieldAddr 1 (.tmp 22), none), ((some 22), .fieldAddr 0 (.tmp 21), none), ((some 21), .fieldAddr 0 (.tmp 20), none), ((some 20), .nilCheck (.tmp 19), none), ((some 19), .mov (.tmp 1), none), ((some 18), .load none (.tmp 17), none), ((some 17), .fieldAddr 1 (.tmp 16), none), ((some 16), .fieldAddr 0 (.tmp 15), none), ((some 15), .fieldAddr 0 (.tmp 14), none), ((some 14), .nilCheck (.tmp 13), none), ((some 13), .mov (.tmp 0), none), ((some 10), .mov (.tmp 1), none), ((some 9), .mov (.tmp 5), none)], false⟩,
      ⟨(some 11), .callV (.tmp 9) [(.tmp 10)], none, [((some 24), .load none (.tmp 23), none), ((some 23), .fieldAddr 1 (.tmp 22), none), ((some 22), .fieldAddr 0 (.tmp 21), none), ((some 21), .fieldAddr 0 (.tmp 20), none), ((some 20), .nilCheck (.tmp 19), none), ((some 19), .mov (.tmp 1), none), ((some 18), .load none (.tmp 17), none), ((some 17), .fieldAddr 1 (.tmp 16), none), ((some 16), .fieldAddr 0 (.tmp 15), none), ((some 15), .fieldAddr 0 (.tmp 14), none), ((some 14), .nilCheck (.tmp 13), none), ((some 13), .mov (.tmp 0), none)], false⟩,
      ⟨(some 12), .callV (.func 68) [(.tmp 8), (.tmp 11)], none, [((some 24), .load none (.tmp 23), none), ((some 23), .fieldAddr 1 (.tmp 22), none), ((some 22), .fieldAddr 0 (.tmp 21), none), ((some 21), .fieldAddr 0 (.tmp 20), none), ((some 20), .nilCheck (.tmp 19), none), ((some 19), .mov (.tmp 1), none), ((some 18), .load none (.tmp 17), none), ((some 17), .fieldAddr 1 (.tmp 16), none), ((some 16), .fieldAddr 0 (.tmp 15), none), ((some 15), .fieldAddr 0 (.tmp 14), none), ((some 14), .nilCheck (.tmp 13), none), ((some 13), .mov (.tmp 0), none)], false⟩,
      ⟨(some 25), .callV (.func 68) [(.tmp 18), (.tmp 24)], none, [], true⟩,
      ⟨(some 26), .buildSlice 3 [(.int .i64 0), (.int .i64 0)] 2 [(0, 1, (.tmp 12)), (1, 1, (.tmp 25))], none, [], true⟩,
      ⟨(some 27), .callV (.func 67) [(.tmp 26)], none, [], true⟩,
      ⟨(some 4), .mov (.tmp 27), none, [], true⟩]) .ret)))
def zncQ : AFunc := ⟨28, [(4, none)], zncQ_c, none⟩
theorem zncQ_t0 : tableOf Try.prog 48 = some zncQ := by kernel_rfl
theorem zncQ_t : T0 48 = some zncQ := withKept_t rfl (withTrue_t rfl zncQ_t0)
abbrev fn_zrbQ : FuncId := 58
def zrbQ_c : ACode :=
  (.seq (.region [
      ⟨(some 2), .mov (.const (.slice none 0 0)), none, [], false⟩]) (.seq (.region [
      ⟨(some 3), .mov (.tmp 0), none, [], false⟩,
      ⟨(some 4), .callV (.func 70) [(.const (.slice none 0 0)), (.tmp 3)], none, [], false⟩,
      ⟨(some 2), .mov (.tmp 4), none, [], false⟩]) .ret))
def zrbQ : AFunc := ⟨5, [(2, none)], zrbQ_c, none⟩
theorem zrbQ_t0 : tableOf Try.prog 58 = some zrbQ := by kernel_rfl
theorem zrbQ_t : T0 58 = some zrbQ := withKept_t rfl (withTrue_t rfl zrbQ_t0)
abbrev fn_zkbQ : FuncId := 59
def zkbQ_c : ACode :=
  (.seq (.region [
      ⟨(some 1), .box 73 (.tmp 0), none, [], false⟩,
      ⟨(some 2), .mov (.const .nilFunc), none, [], false⟩]) (.seq (.region [
      ⟨(some 3), .mkFunc (.func 71) [] [(.tmp 1)], none, [], false⟩,
      ⟨(some 2), .mov (.tmp 3), none, [], false⟩]) .ret))
def zkbQ : AFunc := ⟨4, [(2, none)], zkbQ_c, none⟩
theorem zkbQ_t0 : tableOf Try.prog 59 = some zkbQ := by kernel_rfl
theorem zkbQ_t : T0 59 = some zkbQ := withKept_t rfl (withTrue_t rfl zkbQ_t0)
abbrev fn_zdQ : FuncId := 60
def zdQ_l0 : ACode :=
  (.seq (.seq (.region [
      ⟨(some 9), .mov (.tmp 3), none, [], false⟩,
      ⟨(some 10), .bin .geq (so (.binOp .geq 3 (.tmp 9) (.const (.int .i64 0)) 3) 4) (.tmp 9) (.const (.int .i64 0)), none, [], false⟩]) (.cond (.tmp 10)
    .skip
    (.exit 0))) (.seq (.block 1 (.region [
      ⟨(some 13), .mov (.tmp 0), none, [], false⟩,
      ⟨(some 14), .mov (.tmp 3), none, [], false⟩,
      ⟨(some 15), .mov (.tmp 2), none, [], false⟩,
      ⟨(some 16), .callV (.func 72) [(.tmp 13), (.tmp 14), (.tmp 15)], none, [], false⟩])) (.region [
      ⟨(some 11), .mov (.tmp 3), none, [], false⟩,
      ⟨(some 12), .bin .sub (so (.binOp .sub 3 (.tmp 11) (.const (.int .i64 1)) 3) 3) (.tmp 11) (.const (.int .i64 1)), none, [], false⟩,
      ⟨(some 3), .mov (.tmp 12), none, [], false⟩])))
def zdQ_c : ACode :=
  (.seq (.region [
      ⟨(some 4), .mov (.tmp 0), none, [], false⟩,
      ⟨(some 5), .invoke (.tmp 4) "Len" [], none, [], false⟩,
      ⟨(some 2), .mov (.tmp 5), none, [], false⟩]) (.seq (.region [
      ⟨(some 6), .mov (.tmp 2), none, [], false⟩,
      ⟨(some 7), .bin .quo (so (.binOp .quo 3 (.tmp 6) (.const (.int .i64 2)) 3) 3) (.tmp 6) (.const (.int .i64 2)), none, [], false⟩,
      ⟨(some 8), .bin .sub (so (.binOp .sub 3 (.tmp 7) (.const (.int .i64 1)) 3) 3) (.tmp 7) (.const (.int .i64 1)), none, [], false⟩,
      ⟨(some 3), .mov (.tmp 8), none, [], false⟩]) (.block 0 (.loop zdQ_l0))))
def zdQ : AFunc := ⟨17, [], zdQ_c, none⟩
theorem zdQ_t0 : tableOf Try.prog 60 = some zdQ := by kernel_rfl
theorem zdQ_t : T0 60 = some zdQ := withKept_t rfl (withTrue_t rfl zdQ_t0)
abbrev fn_zjcQ : FuncId := 61
def zjcQ_c : ACode :=
  (.seq (.region [
      ⟨(some 2), .mov (.const (.int .i64 0)), none, [], false⟩]) (.seq (.region [
      ⟨(some 3), .mov (.tmp 0), none, [], false⟩,
      ⟨(some 4), .lenSl (.tmp 3), none, [], false⟩,
      ⟨(some 2), .mov (.tmp 4), none, [], false⟩]) .ret))
def zjcQ : AFunc := ⟨5, [(2, none)], zjcQ_c, none⟩
theorem zjcQ_t0 : tableOf Try.prog 61 = some zjcQ := by kernel_rfl
theorem zjcQ_t : T0 61 = some zjcQ := withKept_t rfl (withTrue_t rfl zjcQ_t0)
abbrev fn_zeQ : FuncId := 62
def zeQ_c : ACode :=
  (.seq (.region [
      ⟨(some 2), .mov (.const .nilIface), none, [], false⟩]) (.seq (.region [
      ⟨(some 4), .mov (.tmp 0), none, [], false⟩,
      ⟨(some 5), .invoke (.tmp 4) "Len" [], none, [], false⟩,
      ⟨(some 6), .bin .sub (so (.binOp .sub 3 (.tmp 5) (.const (.int .i64 1)) 3) 3) (.tmp 5) (.const (.int .i64 1)), none, [], false⟩,
      ⟨(some 3), .mov (.tmp 6), none, [], false⟩]) (.seq (.region [
      ⟨(some 7), .mov (.tmp 0), none, [], false⟩,
      ⟨(some 8), .mov (.tmp 3), none, [], false⟩,
      ⟨(some 9), .invoke (.tmp 7) "Swap" [(.const (.int .i64 0)), (.tmp 8)], none, [], false⟩]) (.seq (.region [
      ⟨(some 10), .mov (.tmp 0), none, [], false⟩,
      ⟨(some 11), .mov (.tmp 3), none, [], false⟩,
      ⟨(some 12), .callV (.func 72) [(.tmp 10), (.const (.int .i64 0)), (.tmp 11)], none, [], false⟩]) (.seq (.region [
      ⟨(some 13), .mov (.tmp 0), none, [], false⟩,
      ⟨(some 14), .invoke (.tmp 13) "Pop" [], none, [], false⟩,
      ⟨(some 2), .mov (.tmp 14), none, [], false⟩]) .ret)))))
def zeQ : AFunc := ⟨15, [(2, none)], zeQ_c, none⟩
theorem zeQ_t0 : tableOf Try.prog 62 = some zeQ := by kernel_rfl
theorem zeQ_t : T0 62 = some zeQ := withKept_t rfl (withTrue_t rfl zeQ_t0)
abbrev fn_zpbQ : FuncId := 63
def zpbQ_c : ACode :=
  (.seq (.region [
      ⟨(some 2), .mov (.const (.slice none 0 0)), none, [], false⟩]) (.seq (.seq (.region [
      ⟨(some 3), .mov (.tmp 0), none, [], false⟩,
      ⟨(some 4), .eq .slice false (so (.binOp .eql 34 (.tmp 3) (.const (.slice none 0 0)) 34) 4) (.tmp 3) (.const (.slice none 0 0)), none, [], false⟩]) (.cond (.tmp 4)
    (.seq (.region [
      ⟨(some 2), .mov (.const (.slice none 0 0)), none, [], false⟩]) .ret)
    .skip)) (.seq (.region [
      ⟨(some 5), .buildSlice 113 [] 0 [], none, [], false⟩,
      ⟨(some 6), .mov (.tmp 0), none, [], false⟩,
      ⟨(some 7), .append 113 5 16 [(.int .u8 0), (.int .u8 0), (.int .u8 0), (.int .u8 0), (.int .i64 0)] false (.tmp 5) (.tmp 6), none, [], false⟩,
      ⟨(some 2), .mov (.tmp 7), none, [], false⟩]) .ret)))
def zpbQ : AFunc := ⟨8, [(2, none)], zpbQ_c, none⟩
theorem zpbQ_t0 : tableOf Try.prog 63 = some zpbQ := by kernel_rfl
theorem zpbQ_t : T0 63 = some zpbQ := withKept_t rfl (withTrue_t rfl zpbQ_t0)
abbrev fn_zqbQ : FuncId := 64
def zqbQ_c : ACode :=
  (.seq (.region [
      ⟨(some 2), .mov (.const (.slice none 0 0)), none, [], false⟩]) (.seq (.seq (.region [
      ⟨(some 3), .mov (.tmp 0), none, [], false⟩,
      ⟨(some 4), .eq .slice false (so (.binOp .eql 31 (.tmp 3) (.const (.slice none 0 0)) 31) 4) (.tmp 3) (.const (.slice none 0 0)), none, [], false⟩]) (.cond (.tmp 4)
    (.seq (.region [
      ⟨(some 2), .mov (.const (.slice none 0 0)), none, [], false⟩]) .ret)
    .skip)) (.seq (.region [
      ⟨(some 5), .buildSlice 117 [] 0 [], none, [], false⟩,
      ⟨(some 6), .mov (.tmp 0), none, [], false⟩,
      ⟨(some 7), .append 117 2 16 [(.int .i64 0), (.int .u64 0)] false (.tmp 5) (.tmp 6), none, [], false⟩,
      ⟨(some 2), .mov (.tmp 7), none, [], false⟩]) .ret)))
def zqbQ : AFunc := ⟨8, [(2, none)], zqbQ_c, none⟩
theorem zqbQ_t0 : tableOf Try.prog 64 = some zqbQ := by kernel_rfl
theorem zqbQ_t : T0 64 = some zqbQ := withKept_t rfl (withTrue_t rfl zqbQ_t0)
abbrev fn_zmbQ : FuncId := 65
def zmbQ_c : ACode :=
  (.seq (.region [
      ⟨(some 1), .box 73 (.tmp 0), none, [], false⟩,
      ⟨(some 2), .mov (.const .nilFunc), none, [], false⟩]) (.seq (.region [
      ⟨(some 3), .mkFunc (.func 73) [] [(.tmp 1)], none, [], false⟩,
      ⟨(some 2), .mov (.tmp 3), none, [], false⟩]) .ret))
def zmbQ : AFunc := ⟨4, [(2, none)], zmbQ_c, none⟩
theorem zmbQ_t0 : tableOf Try.prog 65 = some zmbQ := by kernel_rfl
theorem zmbQ_t : T0 65 = some zmbQ := withKept_t rfl (withTrue_t rfl zmbQ_t0)
abbrev fn_zocQ : FuncId := 66
def zocQ_c : ACode :=
  (.seq (.region [
      ⟨(some 2), .mov (.const (.int .i64 0)), none, [], false⟩]) (.seq (.seq (.region [
      ⟨(some 3), .mov (.tmp 0), none, [], false⟩,
      ⟨(some 4), .nilCheck (.tmp 3), none, [], false⟩,
      ⟨(some 5), .fieldAddr 166 (.tmp 4), none, [], false⟩,
      ⟨(some 6), .load none (.tmp 5), none, [], false⟩]) (.cond (.tmp 6)
    (.seq (.region [
      ⟨(some 2), .mov (.const (.int .i64 1)), none, [], false⟩]) .ret)
    .skip)) (.seq (.region [
      ⟨(some 2), .mov (.const (.int .i64 0)), none, [], false⟩]) .ret)))
def zocQ : AFunc := ⟨7, [(2, none)], zocQ_c, none⟩
theorem zocQ_t0 : tableOf Try.prog 66 = some zocQ := by kernel_rfl
theorem zocQ_t : T0 66 = some zocQ := withKept_t rfl (withTrue_t rfl zocQ_t0)
abbrev fn_zbQ : FuncId := 67
def zbQ_l0 : ACode :=
  (.seq (.region [
      ⟨(some 9), .bin .lss (so (.binOp .lss 3 (.tmp 8) (.tmp 7) 3) 0) (.tmp 8) (.tmp 7), none, [], false⟩]) (.seq (.cond (.tmp 9)
    .skip
    (.exit 0)) (.seq (.block 1 (.seq (.region [
      ⟨(some 10), .indexSl 1 (.tmp 6) (.tmp 8), none, [], false⟩,
      ⟨(some 11), .load none (.tmp 10), none, [], false⟩,
      ⟨(some 5), .mov (.tmp 11), none, [], false⟩]) (.seq (.region [
      ⟨(some 12), .mov (.tmp 5), none, [], false⟩,
      ⟨(some 13), .mov (.tmp 3), none, [], false⟩,
      ⟨(some 14), .bin .neq (so (.binOp .neq 3 (.tmp 12) (.tmp 13) 3) 4) (.tmp 12) (.tmp 13), none, [], false⟩]) (.cond (.tmp 14)
    (.seq (.region [
      ⟨(some 15), .mov (.tmp 5), none, [], false⟩,
      ⟨(some 2), .mov (.tmp 15), none, [], false⟩]) .ret)
    .skip)))) (.region [
      ⟨(some 16), .bin .add (so (.binOp .add 3 (.tmp 8) (.const (.int .i64 1)) 3) 3) (.tmp 8) (.const (.int .i64 1)), none, [], false⟩,
      ⟨(some 8), .mov (.tmp 16), none, [], false⟩]))))
def zbQ_c : ACode :=
  (.seq (.region [
      ⟨(some 2), .mov (.const (.int .i64 0)), none, [], false⟩]) (.seq (.region [
      ⟨(some 3), .mov (.const (.int .i64 0)), none, [], false⟩]) (.seq (.seq (.region [
      ⟨(some 6), .mov (.tmp 0), none, [], false⟩,
      ⟨(some 7), .lenSl (.tmp 6), none, [], false⟩,
      ⟨(some 8), .mov (.const (.int .i64 0)), none, [], false⟩]) (.block 0 (.loop zbQ_l0))) (.seq (.region [
      ⟨(some 17), .mov (.tmp 3), none, [], false⟩,
      ⟨(some 2), .mov (.tmp 17), none, [], false⟩]) .ret))))
def zbQ : AFunc := ⟨18, [(2, none)], zbQ_c, none⟩
theorem zbQ_t0 : tableOf Try.prog 67 = some zbQ := by kernel_rfl
theorem zbQ_t : T0 67 = some zbQ := withKept_t rfl (withTrue_t rfl zbQ_t0)
abbrev fn_zaQ : FuncId := 68
def zaQ_c : ACode :=
  (.seq (.region [
      ⟨(some 4), .mov (.const (.int .i64 0)), none, [], false⟩]) (.seq (.region [
      ⟨(some 7), .mov (.tmp 0), none, [], false⟩,
      ⟨(some 8), .callV (.func 74) [(.tmp 7)], none, [], false⟩,
      ⟨(some 5), .mov (.tmp 8), none, [], false⟩]) (.seq (.region [
      ⟨(some 9), .mov (.tmp 1), none, [], false⟩,
      ⟨(some 10), .callV (.func 74) [(.tmp 9)], none, [], false⟩,
      ⟨(some 6), .mov (.tmp 10), none, [], false⟩]) (.seq (.seq (.region [
      ⟨(some 11), .mov (.tmp 5), none, [], false⟩]) (.cond (.tmp 11)
    (.seq (.seq (.region [
      ⟨(some 12), .mov (.tmp 6), none, [], false⟩]) (.cond (.tmp 12)
    (.seq (.region [
      ⟨(some 4), .mov (.const (.int .i64 0)), none, [], false⟩]) .ret)
    .skip)) (.seq (.region [
      ⟨(some 4), .mov (.const (.int .i64 (-1))), none, [], false⟩]) .ret))
    .skip)) (.seq (.seq (.region [
      ⟨(some 13), .mov (.tmp 6), none, [], false⟩]) (.cond (.tmp 13)
    (.seq (.region [
      ⟨(some 4), .mov (.const (.int .i64 1)), none, [], false⟩]) .ret)
    .skip)) (.seq (.seq (.region [
      ⟨(some 14), .mov (.tmp 0), none, [], false⟩,
      ⟨(some 15), .mov (.tmp 1), none, [], false⟩,
      ⟨(some 16), .bin .lss (so (.binOp .lss 3 (.tmp 14) (.tmp 15) 3) 4) (.tmp 14) (.tmp 15), none, [], false⟩]) (.cond (.tmp 16)
    (.seq (.region [
      ⟨(some 4), .mov (.const (.int .i64 (-1))), none, [], false⟩]) .ret)
    .skip)) (.seq (.seq (.region [
      ⟨(some 17), .mov (.tmp 0), none, [], false⟩,
      ⟨(some 18), .mov (.tmp 1), none, [], false⟩,
      ⟨(some 19), .bin .gtr (so (.binOp .gtr 3 (.tmp 17) (.tmp 18) 3) 4) (.tmp 17) (.tmp 18), none, [], false⟩]) (.cond (.tmp 19)
    (.seq (.region [
      ⟨(some 4), .mov (.const (.int .i64 1)), none, [], false⟩]) .ret)
    .skip)) (.seq (.region [
      ⟨(some 4), .mov (.const (.int .i64 0)), none, [], false⟩]) .ret))))))))
def zaQ : AFunc := ⟨20, [(4, none)], zaQ_c, none⟩
theorem zaQ_t0 : tableOf Try.prog 68 = some zaQ := by kernel_rfl
theorem zaQ_t : T0 68 = some zaQ := withKept_t rfl (withTrue_t rfl zaQ_t0)
abbrev fn_zobQ : FuncId := 70
def zobQ_ra0 : Code := (rangeParts (subCode ((Try.prog.funcs[70]?).bind (·.body)) [true, false, true, false])).1
def zobQ_rb0 : Code := (rangeParts (subCode ((Try.prog.funcs[70]?).bind (·.body)) [true, false, true, false])).2
def zobQ_a0 : ACode :=
  (.region [
      ⟨(some 5), .mov (.tmp 7), none, [], false⟩])
def zobQ_b0 : ACode :=
  (.block 1 (.region [
      ⟨(some 8), .load none (.tmp 2), none, [], false⟩,
      ⟨(some 9), .mov (.tmp 5), none, [], false⟩,
      ⟨(some 10), .buildSlice 3 [(.int .i64 0)] 1 [(0, 1, (.tmp 9))], none, [], false⟩,
      ⟨(some 11), .append 3 1 8 [(.int .i64 0)] false (.tmp 8) (.tmp 10), none, [], false⟩,
      ⟨none, .store 1 (.tmp 2) (.tmp 11), none, [], false⟩]))
theorem zobQ_ca0 : comp Try.prog zobQ_ra0 = some zobQ_a0 := by kernel_rfl
theorem zobQ_cb0 : comp Try.prog zobQ_rb0 = some zobQ_b0 := by kernel_rfl
theorem zobQ_na0 : noDefer zobQ_ra0 = true := by kernel_rfl
theorem zobQ_nb0 : noDefer zobQ_rb0 = true := by kernel_rfl
def zobQ_c : ACode :=
  (.seq (.region [
      ⟨(some 2), .box 78 (.tmp 0), none, [], false⟩,
      ⟨(some 4), .mov (.const (.slice none 0 0)), none, [], false⟩]) (.seq (.seq (.region [
      ⟨(some 6), .mov (.tmp 1), none, [], false⟩]) (.block 0 (.rangeFunc (.tmp 6) [7] zobQ_ra0 zobQ_rb0))) (.seq (.region [
      ⟨(some 12), .load none (.tmp 2), none, [], false⟩,
      ⟨(some 4), .mov (.tmp 12), none, [], false⟩]) .ret)))
def zobQ : AFunc := ⟨13, [(4, none)], zobQ_c, none⟩
theorem zobQ_t0 : tableOf Try.prog 70 = some zobQ := by kernel_rfl
theorem zobQ_t : T0 70 = some zobQ := withKept_t rfl (withTrue_t rfl zobQ_t0)
abbrev fn_zlbQ : FuncId := 71
def zlbQ_l0 : ACode :=
  (.seq (.region [
      ⟨(some 6), .nextMap (.tmp 5), none, [], false⟩,
      ⟨(some 7), .extract 0 (.tmp 6), none, [], false⟩]) (.seq (.cond (.tmp 7)
    .skip
    (.exit 0)) (.block 1 (.seq (.region [
      ⟨(some 8), .entryMap (.tmp 5), none, [], false⟩,
      ⟨(some 9), .extract 0 (.tmp 8), none, [], false⟩,
      ⟨(some 3), .mov (.tmp 9), none, [], false⟩]) (.seq (.region [
      ⟨(some 10), .mov (.tmp 0), none, [], false⟩,
      ⟨(some 11), .mov (.tmp 3), none, [], false⟩,
      ⟨(some 12), .callV (.tmp 10) [(.tmp 11)], none, [], false⟩,
      ⟨(some 13), .raw (so (.unOp .not 4 (.tmp 12)) 4), none, [], false⟩]) (.cond (.tmp 13)
    .ret
    .skip))))))
def zlbQ_c : ACode :=
  (.seq (.region [
      ⟨(some 4), .load none (.tmp 1), none, [], false⟩,
      ⟨(some 5), .rangeMap (.tmp 4), none, [], false⟩]) (.block 0 (.loop zlbQ_l0)))
def zlbQ : AFunc := ⟨14, [], zlbQ_c, none⟩
theorem zlbQ_t0 : tableOf Try.prog 71 = some zlbQ := by kernel_rfl
theorem zlbQ_t : T0 71 = some zlbQ := withKept_t rfl (withTrue_t rfl zlbQ_t0)
abbrev fn_zfQ : FuncId := 72
def zfQ_l0 : ACode :=
  (.block 1 (.seq (.region [
      ⟨(some 12), .mov (.tmp 7), none, [], false⟩,
      ⟨(some 13), .bin .mul (so (.binOp .mul 3 (.const (.int .i64 2)) (.tmp 12) 3) 3) (.const (.int .i64 2)) (.tmp 12), none, [], false⟩,
      ⟨(some 14), .bin .add (so (.binOp .add 3 (.tmp 13) (.const (.int .i64 1)) 3) 3) (.tmp 13) (.const (.int .i64 1)), none, [], false⟩,
      ⟨(some 8), .mov (.tmp 14), none, [], false⟩]) (.seq (.seq (.region [
      ⟨(some 15), .mov (.tmp 8), none, [], false⟩,
      ⟨(some 16), .mov (.tmp 2), none, [], false⟩,
      ⟨(some 17), .bin .geq (so (.binOp .geq 3 (.tmp 15) (.tmp 16) 3) 4) (.tmp 15) (.tmp 16), none, [], false⟩,
      ⟨(some 18), .mov (.tmp 17), none, [], false⟩,
      ⟨(some 19), .mov (.tmp 8), (some (18, false)), [], false⟩,
      ⟨(some 20), .bin .lss (so (.binOp .lss 3 (.tmp 19) (.const (.int .i64 0)) 3) 4) (.tmp 19) (.const (.int .i64 0)), (some (18, false)), [], false⟩,
      ⟨(some 21), .pick (.tmp 18) (.const (.bool true)) (.tmp 20), none, [], false⟩]) (.cond (.tmp 21)
    (.exit 0)
    .skip)) (.seq (.region [
      ⟨(some 22), .mov (.tmp 8), none, [], false⟩,
      ⟨(some 9), .mov (.tmp 22), none, [], false⟩]) (.seq (.seq (.region [
      ⟨(some 23), .mov (.tmp 8), none, [], false⟩,
      ⟨(some 24), .bin .add (so (.binOp .add 3 (.tmp 23) (.const (.int .i64 1)) 3) 3) (.tmp 23) (.const (.int .i64 1)), none, [], false⟩,
      ⟨(some 10), .mov (.tmp 24), none, [], false⟩]) (.seq (.region [
      ⟨(some 25), .mov (.tmp 10), none, [], false⟩,
      ⟨(some 26), .mov (.tmp 2), none, [], false⟩,
      ⟨(some 27), .bin .lss (so (.binOp .lss 3 (.tmp 25) (.tmp 26) 3) 4) (.tmp 25) (.tmp 26), none, [], false⟩,
      ⟨(some 28), .mov (.tmp 27), none, [], false⟩,
      ⟨(some 29), .mov (.tmp 0), (some (28, true)), [], false⟩,
      ⟨(some 30), .mov (.tmp 10), (some (28, true)), [], false⟩,
      ⟨(some 31), .mov (.tmp 8), (some (28, true)), [], false⟩,
      ⟨(some 32), .invoke (.tmp 29) "Less" [(.tmp 30), (.tmp 31)], (some (28, true)), [], false⟩,
      ⟨(some 33), .pick (.tmp 28) (.tmp 32) (.const (.bool false)), none, [], false⟩]) (.cond (.tmp 33)
    (.region [
      ⟨(some 34), .mov (.tmp 10), none, [], false⟩,
      ⟨(some 9), .mov (.tmp 34), none, [], false⟩])
    .skip))) (.seq (.seq (.region [
      ⟨(some 35), .mov (.tmp 0), none, [], false⟩,
      ⟨(some 36), .mov (.tmp 9), none, [], false⟩,
      ⟨(some 37), .mov (.tmp 7), none, [], false⟩,
      ⟨(some 38), .invoke (.tmp 35) "Less" [(.tmp 36), (.tmp 37)], none, [], false⟩,
      ⟨(some 39), .raw (so (.unOp .not 4 (.tmp 38)) 4), none, [], false⟩]) (.cond (.tmp 39)
    (.exit 0)
    .skip)) (.seq (.region [
      ⟨(some 40), .mov (.tmp 0), none, [], false⟩,
      ⟨(some 41), .mov (.tmp 7), none, [], false⟩,
      ⟨(some 42), .mov (.tmp 9), none, [], false⟩,
      ⟨(some 43), .invoke (.tmp 40) "Swap" [(.tmp 41), (.tmp 42)], none, [], false⟩]) (.region [
      ⟨(some 44), .mov (.tmp 9), none, [], false⟩,
      ⟨(some 7), .mov (.tmp 44), none, [], false⟩]))))))))
def zfQ_c : ACode :=
  (.seq (.region [
      ⟨(some 6), .mov (.const (.bool false)), none, [], false⟩]) (.seq (.region [
      ⟨(some 11), .mov (.tmp 1), none, [], false⟩,
      ⟨(some 7), .mov (.tmp 11), none, [], false⟩]) (.seq (.block 0 (.loop zfQ_l0)) (.seq (.region [
      ⟨(some 45), .mov (.tmp 7), none, [], false⟩,
      ⟨(some 46), .mov (.tmp 1), none, [], false⟩,
      ⟨(some 47), .bin .gtr (so (.binOp .gtr 3 (.tmp 45) (.tmp 46) 3) 4) (.tmp 45) (.tmp 46), none, [], false⟩,
      ⟨(some 6), .mov (.tmp 47), none, [], false⟩]) .ret))))
def zfQ : AFunc := ⟨48, [(6, none)], zfQ_c, none⟩
theorem zfQ_t0 : tableOf Try.prog 72 = some zfQ := by kernel_rfl
theorem zfQ_t : T0 72 = some zfQ := withKept_t rfl (withTrue_t rfl zfQ_t0)
abbrev fn_znbQ : FuncId := 73
def znbQ_l0 : ACode :=
  (.seq (.region [
      ⟨(some 7), .nextMap (.tmp 6), none, [], false⟩,
      ⟨(some 8), .extract 0 (.tmp 7), none, [], false⟩]) (.seq (.cond (.tmp 8)
    .skip
    (.exit 0)) (.block 1 (.seq (.region [
      ⟨(some 9), .entryMap (.tmp 6), none, [], false⟩,
      ⟨(some 10), .extract 1 (.tmp 9), none, [], false⟩,
      ⟨(some 4), .mov (.tmp 10), none, [], false⟩]) (.seq (.region [
      ⟨(some 11), .mov (.tmp 0), none, [], false⟩,
      ⟨(some 12), .mov (.tmp 4), none, [], false⟩,
      ⟨(some 13), .callV (.tmp 11) [(.tmp 12)], none, [], false⟩,
      ⟨(some 14), .raw (so (.unOp .not 4 (.tmp 13)) 4), none, [], false⟩]) (.cond (.tmp 14)
    .ret
    .skip))))))
def znbQ_c : ACode :=
  (.seq (.region [
      ⟨(some 5), .load none (.tmp 1), none, [], false⟩,
      ⟨(some 6), .rangeMap (.tmp 5), none, [], false⟩]) (.block 0 (.loop znbQ_l0)))
def znbQ : AFunc := ⟨15, [], znbQ_c, none⟩
theorem znbQ_t0 : tableOf Try.prog 73 = some znbQ := by kernel_rfl
theorem znbQ_t : T0 73 = some znbQ := withKept_t rfl (withTrue_t rfl znbQ_t0)
abbrev fn_zcQ : FuncId := 74
def zcQ_c : ACode :=
  (.seq (.region [
      ⟨(some 2), .mov (.const (.bool false)), none, [], false⟩]) (.seq (.region [
      ⟨(some 3), .mov (.tmp 0), none, [], false⟩,
      ⟨(some 4), .mov (.tmp 0), none, [], false⟩,
      ⟨(some 5), .bin .neq (so (.binOp .neq 3 (.tmp 3) (.tmp 4) 3) 4) (.tmp 3) (.tmp 4), none, [], false⟩,
      ⟨(some 2), .mov (.tmp 5), none, [], false⟩]) .ret))
def zcQ : AFunc := ⟨6, [(2, none)], zcQ_c, none⟩
theorem zcQ_t0 : tableOf Try.prog 74 = some zcQ := by kernel_rfl
theorem zcQ_t : T0 74 = some zcQ := withKept_t rfl (withTrue_t rfl zcQ_t0)
abbrev fn_zkcQ : FuncId := 92
def zkcQ_c : ACode :=
  (.seq (.region [
      ⟨(some 6), .mov (.const (.bool false)), none, [], false⟩]) (.seq (.regionD [
      ⟨(some 7), .mov (.tmp 0), none, [], false⟩,
      ⟨(some 8), .mov (.tmp 1), none, [], false⟩,
      ⟨(some 9), .indexSl 1 (.tmp 7) (.tmp 8), none, [], false⟩,
      ⟨(some 10), .load none (.tmp 9), none, [], false⟩,
      ⟨(some 11), .mov (.tmp 0), none, [], false⟩,
      ⟨(some 12), .mov (.tmp 2), none, [], false⟩,
      ⟨(some 13), .indexSl 1 (.tmp 11) (.tmp 12), none, [], false⟩,
      ⟨(some 14), .load none (.tmp 13), none, [], false⟩,
      ⟨(some 15), .bin .lss (so (.binOp .lss 3 (.tmp 10) (.tmp 14) 3) 4) (.tmp 10) (.tmp 14), none, [], true⟩,
      ⟨(some 6), .mov (.tmp 15), none, [], true⟩]) .ret))
def zkcQ : AFunc := ⟨16, [(6, none)], zkcQ_c, none⟩
theorem zkcQ_t0 : tableOf Try.prog 92 = some zkcQ := by kernel_rfl
theorem zkcQ_t : T0 92 = some zkcQ := withKept_t rfl (withTrue_t rfl zkcQ_t0)
abbrev fn_zmcQ : FuncId := 93
def zmcQ_c : ACode :=
  (.regionD [
      ⟨(some 6), .mov (.tmp 0), none, [], false⟩,
      ⟨(some 7), .mov (.tmp 1), none, [], false⟩,
      ⟨(some 8), .mov (.tmp 0), none, [], false⟩,
      ⟨(some 9), .mov (.tmp 2), none, [], false⟩,
      ⟨(some 10), .mov (.tmp 0), none, [], false⟩,
      ⟨(some 11), .mov (.tmp 2), none, [], false⟩,
      ⟨(some 12), .indexSl 1 (.tmp 10) (.tmp 11), none, [], false⟩,
      ⟨(some 13), .load none (.tmp 12), none, [], false⟩,
      ⟨(some 14), .mov (.tmp 0), none, [], false⟩,
      ⟨(some 15), .mov (.tmp 1), none, [], false⟩,
      ⟨(some 16), .indexSl 1 (.tmp 14) (.tmp 15), none, [], false⟩,
      ⟨(some 17), .load none (.tmp 16), none, [], false⟩,
      ⟨(some 18), .indexSl 1 (.tmp 6) (.tmp 7), none, [], false⟩,
      ⟨none, .store 1 (.tmp 18) (.tmp 13), none, [((some 9), .mov (.tmp 2), none), ((some 8), .mov (.tmp 0), none)], false⟩,
      ⟨(some 19), .indexSl 1 (.tmp 8) (.tmp 9), none, [], true⟩,
      ⟨none, .store 1 (.tmp 19) (.tmp 17), none, [], true⟩])
def zmcQ : AFunc := ⟨20, [], zmcQ_c, none⟩
theorem zmcQ_t0 : tableOf Try.prog 93 = some zmcQ := by kernel_rfl
theorem zmcQ_t : T0 93 = some zmcQ := withKept_t rfl (withTrue_t rfl zmcQ_t0)
abbrev fn_zlcQ : FuncId := 94
def zlcQ_c : ACode :=
  (.seq (.region [
      ⟨(some 2), .mov (.const .nilIface), none, [], false⟩]) (.seq (.region [
      ⟨(some 5), .mov (.tmp 0), none, [], false⟩,
      ⟨(some 6), .nilCheck (.tmp 5), none, [], false⟩,
      ⟨(some 7), .load none (.tmp 6), none, [], false⟩,
      ⟨(some 8), .lenSl (.tmp 7), none, [], false⟩,
      ⟨(some 9), .bin .sub (so (.binOp .sub 3 (.tmp 8) (.const (.int .i64 1)) 3) 3) (.tmp 8) (.const (.int .i64 1)), none, [], false⟩,
      ⟨(some 3), .mov (.tmp 9), none, [], false⟩]) (.seq (.region [
      ⟨(some 10), .mov (.tmp 0), none, [], false⟩,
      ⟨(some 11), .nilCheck (.tmp 10), none, [], false⟩,
      ⟨(some 12), .load none (.tmp 11), none, [], false⟩,
      ⟨(some 13), .mov (.tmp 3), none, [], false⟩,
      ⟨(some 14), .indexSl 1 (.tmp 12) (.tmp 13), none, [], false⟩,
      ⟨(some 15), .load none (.tmp 14), none, [], false⟩,
      ⟨(some 4), .mov (.tmp 15), none, [], false⟩]) (.seq (.region [
      ⟨(some 16), .mov (.tmp 0), none, [], false⟩,
      ⟨(some 17), .mov (.tmp 0), none, [], false⟩,
      ⟨(some 18), .nilCheck (.tmp 17), none, [], false⟩,
      ⟨(some 19), .load none (.tmp 18), none, [], false⟩,
      ⟨(some 20), .mov (.tmp 3), none, [], false⟩,
      ⟨(some 21), .sliceSl 1 (.tmp 19) none (some (.tmp 20)) none, none, [], false⟩,
      ⟨(some 22), .nilCheck (.tmp 16), none, [], false⟩,
      ⟨none, .store 1 (.tmp 22) (.tmp 21), none, [], false⟩]) (.seq (.region [
      ⟨(some 23), .mov (.tmp 4), none, [], false⟩,
      ⟨(some 24), .mkIface 3 (.tmp 23), none, [], false⟩,
      ⟨(some 2), .mov (.tmp 24), none, [], false⟩]) .ret)))))
def zlcQ : AFunc := ⟨25, [(2, none)], zlcQ_c, none⟩
theorem zlcQ_t0 : tableOf Try.prog 94 = some zlcQ := by kernel_rfl
theorem zlcQ_t : T0 94 = some zlcQ := withKept_t rfl (withTrue_t rfl zlcQ_t0)
def table : TT :=
  (.node (.node (.node (.node (.node (.node .nil 8 zvQ .nil) 9 ztbQ .nil) 11 zyQ (.node .nil 12 zzbQ .nil)) 15 zuQ (.node (.node (.node .nil 16 zqQ .nil) 17 zybQ .nil) 18 zdcQ (.node .nil 21 zbcQ .nil))) 37 zgcQ (.node (.node (.node (.node .nil 38 zhcQ .nil) 39 zpcQ .nil) 40 zxQ (.node .nil 41 zicQ .nil)) 42 zacQ (.node (.node (.node .nil 45 zecQ .nil) 46 zfcQ .nil) 47 zsbQ (.node .nil 48 zncQ .nil)))) 58 zrbQ (.node (.node (.node (.node (.node .nil 59 zkbQ .nil) 60 zdQ .nil) 61 zjcQ (.node .nil 62 zeQ .nil)) 63 zpbQ (.node (.node (.node .nil 64 zqbQ .nil) 65 zmbQ .nil) 66 zocQ (.node .nil 67 zbQ .nil))) 68 zaQ (.node (.node (.node (.node .nil 70 zobQ .nil) 71 zlbQ .nil) 72 zfQ (.node .nil 73 znbQ .nil)) 74 zcQ (.node (.node .nil 92 zkcQ .nil) 93 zmcQ (.node .nil 94 zlcQ .nil)))))
theorem table_all : table.All Try.prog := ⟨zrbQ_t0, ⟨zgcQ_t0, ⟨zuQ_t0, ⟨zyQ_t0, ⟨ztbQ_t0, ⟨zvQ_t0, trivial, trivial⟩, trivial⟩, ⟨zzbQ_t0, trivial, trivial⟩⟩, ⟨zdcQ_t0, ⟨zybQ_t0, ⟨zqQ_t0, trivial, trivial⟩, trivial⟩, ⟨zbcQ_t0, trivial, trivial⟩⟩⟩, ⟨zacQ_t0, ⟨zxQ_t0, ⟨zpcQ_t0, ⟨zhcQ_t0, trivial, trivial⟩, trivial⟩, ⟨zicQ_t0, trivial, trivial⟩⟩, ⟨zsbQ_t0, ⟨zfcQ_t0, ⟨zecQ_t0, trivial, trivial⟩, trivial⟩, ⟨zncQ_t0, trivial, trivial⟩⟩⟩⟩, ⟨zaQ_t0, ⟨zpbQ_t0, ⟨zjcQ_t0, ⟨zdQ_t0, ⟨zkbQ_t0, trivial, trivial⟩, trivial⟩, ⟨zeQ_t0, trivial, trivial⟩⟩, ⟨zocQ_t0, ⟨zmbQ_t0, ⟨zqbQ_t0, trivial, trivial⟩, trivial⟩, ⟨zbQ_t0, trivial, trivial⟩⟩⟩, ⟨zcQ_t0, ⟨zfQ_t0, ⟨zlbQ_t0, ⟨zobQ_t0, trivial, trivial⟩, trivial⟩, ⟨znbQ_t0, trivial, trivial⟩⟩, ⟨zmcQ_t0, ⟨zkcQ_t0, trivial, trivial⟩, ⟨zlcQ_t0, trivial, trivial⟩⟩⟩⟩⟩
end Go.Proofs.Ytmhnddkpiefkhaa.R

namespace Go.Proofs.Ytmhnddkpiefkhaa.R
open Go Go.Vm
set_option maxRecDepth 100000
def rep (n : Nat) (v : Value) (l : List Value) : List Value := List.replicate n v ++ l
def va_1 : Value := .agg ⟨(.string ⟨⟨[]⟩⟩) :: (.int .i64 5) :: (.int .i64 0) :: rep 128 (.int .u8 0) ((.int .i64 0) :: rep 32 (.int .u8 0) ((.slice none 0 0) :: (.slice none 0 0) :: []))⟩
def ob_2 : AObj := .cells ((.string ⟨⟨[]⟩⟩) :: (.int .i64 5) :: (.int .i64 0) :: rep 128 (.int .u8 0) ((.int .i64 0) :: rep 32 (.int .u8 0) ((.slice none 0 0) :: (.slice none 0 0) :: []))) 0
def ob_3 : AObj := .cells ((.string ⟨⟨[]⟩⟩) :: (.int .i64 5) :: (.int .i64 0) :: rep 128 (.int .u8 0) ((.int .i64 0) :: rep 32 (.int .u8 0) ((.slice none 0 0) :: (.slice none 0 0) :: (.bool false) :: (.bool false) :: []))) 0
def va_4 : Value := .agg ⟨(.string ⟨⟨[]⟩⟩) :: (.int .i64 2) :: (.int .i64 0) :: rep 128 (.int .u8 0) ((.int .i64 0) :: rep 32 (.int .u8 0) ((.slice none 0 0) :: (.slice none 0 0) :: []))⟩
def ob_5 : AObj := .cells ((.string ⟨⟨[]⟩⟩) :: (.int .i64 2) :: (.int .i64 0) :: rep 128 (.int .u8 0) ((.int .i64 0) :: rep 32 (.int .u8 0) ((.slice none 0 0) :: (.slice none 0 0) :: []))) 0
def ob_6 : AObj := .cells ((.string ⟨⟨[]⟩⟩) :: (.int .i64 2) :: (.int .i64 0) :: rep 128 (.int .u8 0) ((.int .i64 0) :: rep 32 (.int .u8 0) ((.slice none 0 0) :: (.slice none 0 0) :: (.bool false) :: (.bool false) :: []))) 0
def va_7 : Value := .agg ⟨(.string ⟨⟨[]⟩⟩) :: (.int .i64 9) :: (.int .i64 0) :: rep 128 (.int .u8 0) ((.int .i64 0) :: rep 32 (.int .u8 0) ((.slice none 0 0) :: (.slice none 0 0) :: []))⟩
def ob_8 : AObj := .cells ((.string ⟨⟨[]⟩⟩) :: (.int .i64 9) :: (.int .i64 0) :: rep 128 (.int .u8 0) ((.int .i64 0) :: rep 32 (.int .u8 0) ((.slice none 0 0) :: (.slice none 0 0) :: []))) 0
def ob_9 : AObj := .cells ((.string ⟨⟨[]⟩⟩) :: (.int .i64 9) :: (.int .i64 0) :: rep 128 (.int .u8 0) ((.int .i64 0) :: rep 32 (.int .u8 0) ((.slice none 0 0) :: (.slice none 0 0) :: (.bool false) :: (.bool false) :: []))) 0
def va_10 : Value := .agg ⟨(.string ⟨⟨[]⟩⟩) :: (.int .i64 7) :: (.int .i64 0) :: rep 128 (.int .u8 0) ((.int .i64 0) :: rep 32 (.int .u8 0) ((.slice none 0 0) :: (.slice none 0 0) :: []))⟩
def ob_11 : AObj := .cells ((.string ⟨⟨[]⟩⟩) :: (.int .i64 5) :: (.int .i64 0) :: rep 128 (.int .u8 0) ((.int .i64 0) :: rep 32 (.int .u8 0) ((.slice none 0 0) :: (.slice none 0 0) :: (.bool true) :: (.bool false) :: []))) 0
def ob_12 : AObj := .cells ((.string ⟨⟨[]⟩⟩) :: (.int .i64 7) :: (.int .i64 0) :: rep 128 (.int .u8 0) ((.int .i64 0) :: rep 32 (.int .u8 0) ((.slice none 0 0) :: (.slice none 0 0) :: []))) 0
def ob_13 : AObj := .cells ((.string ⟨⟨[]⟩⟩) :: (.int .i64 2) :: (.int .i64 0) :: rep 128 (.int .u8 0) ((.int .i64 0) :: rep 32 (.int .u8 0) ((.slice none 0 0) :: (.slice none 0 0) :: (.bool false) :: (.bool true) :: []))) 0
def ob_14 : AObj := .cells ((.string ⟨⟨[]⟩⟩) :: (.int .i64 7) :: (.int .i64 0) :: rep 128 (.int .u8 0) ((.int .i64 0) :: rep 32 (.int .u8 0) ((.slice none 0 0) :: (.slice none 0 0) :: (.bool false) :: (.bool false) :: []))) 0
def ob_15 : AObj := .cells ((.int .i64 2) :: (.bool false) :: (.bool true) :: (.int .i64 5) :: (.bool true) :: (.bool false) :: (.int .i64 7) :: (.bool false) :: (.bool false) :: []) 3
def ob_16 : AObj := .cells ((.int .i64 2) :: (.bool false) :: (.bool true) :: (.int .i64 5) :: (.bool true) :: (.bool false) :: (.int .i64 7) :: (.bool false) :: (.bool false) :: []) 0
def va_17 : Value := .agg ⟨(.string ⟨⟨[]⟩⟩) :: (.int .i64 3) :: (.int .i64 0) :: rep 128 (.int .u8 0) ((.int .i64 0) :: rep 32 (.int .u8 0) ((.slice none 0 0) :: (.slice none 0 0) :: []))⟩
def ob_18 : AObj := .cells ((.string ⟨⟨[]⟩⟩) :: (.int .i64 3) :: (.int .i64 0) :: rep 128 (.int .u8 0) ((.int .i64 0) :: rep 32 (.int .u8 0) ((.slice none 0 0) :: (.slice none 0 0) :: []))) 0
def ob_19 : AObj := .cells ((.string ⟨⟨[]⟩⟩) :: (.int .i64 3) :: (.int .i64 0) :: rep 128 (.int .u8 0) ((.int .i64 0) :: rep 32 (.int .u8 0) ((.slice none 0 0) :: (.slice none 0 0) :: (.bool false) :: (.bool false) :: []))) 0
def tr_1 : Tr := .node ob_3 .nil .nil
def tr_2 : Tr := .node .dead .nil .nil
def tr_3 : Tr := .node (.map [⟨(.int .i64 5), (.pointer (some ⟨7, 0, none⟩)), 0⟩] 1) (.node ob_2 tr_1 .nil) tr_2
def tr_4 : Tr := .node ob_5 .nil .nil
def tr_5 : Tr := .node ob_2 tr_1 tr_2
def tr_6 : Tr := .node .dead tr_2 .nil
def tr_7 : Tr := .node ob_6 .nil .nil
def tr_8 : Tr := .node (.cells [(.int .i64 3), (.map (some 1))] 0) (.node .dead tr_4 tr_7) tr_6
def tr_9 : Tr := .node ob_8 .nil .nil
def tr_10 : Tr := .node .dead (.node .dead (.node ob_9 .nil .nil) .nil) tr_9
def tr_11 : Tr := .node ob_5 tr_2 .nil
def tr_12 : Tr := .node .dead tr_2 tr_2
def tr_13 : Tr := .node ob_12 .nil .nil
def tr_14 : Tr := .node (.cells [(.bool true)] 0) .nil .nil
def tr_15 : Tr := .node ob_14 .nil .nil
def tr_16 : Tr := .node .dead (.node (.map [⟨(.int .i64 5), (.pointer (some ⟨7, 0, none⟩)), 0⟩, ⟨(.int .i64 2), (.pointer (some ⟨12, 0, none⟩)), 1⟩, ⟨(.int .i64 7), (.pointer (some ⟨33, 0, none⟩)), 3⟩] 4) (.node ob_2 (.node ob_11 tr_6 tr_2) (.node .dead tr_13 tr_2)) (.node .dead (.node .dead (.node ob_9 tr_15 .nil) tr_2) (.node ob_8 tr_2 tr_2))) (.node (.cells [(.int .i64 3), (.map (some 1))] 0) (.node .dead (.node ob_5 tr_6 tr_2) (.node ob_13 tr_2 tr_2)) (.node .dead (.node .dead tr_14 tr_2) tr_12))
def tr_17 : Tr := .node ob_11 tr_12 tr_12
def tr_18 : Tr := .node ob_12 tr_2 tr_2
def tr_19 : Tr := .node ob_15 .nil .nil
def tr_20 : Tr := .node .dead (.node ob_9 tr_15 tr_2) (.node .dead tr_2 tr_19)
def tr_21 : Tr := .node .dead tr_20 (.node ob_8 tr_12 tr_6)
def tr_22 : Tr := .node ob_5 tr_12 tr_12
def tr_23 : Tr := .node .dead tr_22 (.node ob_13 tr_12 tr_6)
def tr_24 : Tr := .node (.cells [(.bool true)] 0) tr_2 tr_2
def tr_25 : Tr := .node .dead tr_12 tr_6
def tr_26 : Tr := .node ob_2 tr_17 (.node .dead tr_18 (.node .dead tr_2 tr_13))
def tr_27 : Tr := .node (.map [⟨(.int .i64 5), (.pointer (some ⟨7, 0, none⟩)), 0⟩, ⟨(.int .i64 2), (.pointer (some ⟨12, 0, none⟩)), 1⟩, ⟨(.int .i64 7), (.pointer (some ⟨33, 0, none⟩)), 3⟩] 4) tr_26 tr_21
def tr_28 : Tr := .node ob_16 .nil .nil
def tr_29 : Tr := .node .dead (.node .dead tr_24 (.node .dead tr_2 tr_28)) tr_25
def tr_30 : Tr := .node (.cells [(.int .i64 3), (.map (some 1))] 0) (.node .dead tr_22 (.node ob_13 tr_12 tr_12)) tr_29
def tr_31 : Tr := .node .dead tr_2 (.node ob_18 .nil .nil)
def tr_32 : Tr := .node .dead tr_6 tr_2
end Go.Proofs.Ytmhnddkpiefkhaa.R

namespace Go.Proofs.Ytmhnddkpiefkhaa.R
open Go Go.Vm
set_option maxRecDepth 100000
def ma_1 : List Value := [(.pointer (some ⟨2, 0, none⟩)), va_1]
def mh_1 : Heap := ⟨4, (.node .dead (.node (.map [] 0) (.node ob_2 .nil .nil) .nil) (.node (.cells [(.int .i64 3), (.map (some 1))] 0) .nil .nil))⟩
def mo_1 : List CO := [(.ret (.tuple ⟨[(.int .i64 0), (.int .i64 0)]⟩) ⟨8, (.node .dead tr_3 (.node (.cells [(.int .i64 3), (.map (some 1))] 0) tr_2 tr_2))⟩)]
theorem me_1 : fewOK (xcall Try.prog table.get 1000 60 (.fn 21) ma_1 mh_1) mo_1 = true := by kernel_rfl
def ma_2 : List Value := [(.pointer (some ⟨2, 0, none⟩)), va_4]
def mh_2 : Heap := ⟨9, (.node .dead tr_3 (.node (.cells [(.int .i64 3), (.map (some 1))] 0) (.node .dead tr_4 .nil) tr_2))⟩
def mo_2 : List CO := [(.ret (.tuple ⟨[(.int .i64 0), (.int .i64 0)]⟩) ⟨13, (.node .dead (.node (.map [⟨(.int .i64 5), (.pointer (some ⟨7, 0, none⟩)), 0⟩, ⟨(.int .i64 2), (.pointer (some ⟨12, 0, none⟩)), 1⟩] 2) tr_5 tr_6) tr_8)⟩)]
theorem me_2 : fewOK (xcall Try.prog table.get 1000 60 (.fn 21) ma_2 mh_2) mo_2 = true := by kernel_rfl
def ma_3 : List Value := [(.pointer (some ⟨2, 0, none⟩)), va_7]
def mh_3 : Heap := ⟨14, (.node .dead (.node (.map [⟨(.int .i64 5), (.pointer (some ⟨7, 0, none⟩)), 0⟩, ⟨(.int .i64 2), (.pointer (some ⟨12, 0, none⟩)), 1⟩] 2) tr_5 (.node .dead tr_2 tr_9)) tr_8)⟩
def mo_3 : List CO := [(.ret (.tuple ⟨[(.int .i64 0), (.int .i64 0)]⟩) ⟨18, (.node .dead (.node (.map [⟨(.int .i64 5), (.pointer (some ⟨7, 0, none⟩)), 0⟩, ⟨(.int .i64 2), (.pointer (some ⟨12, 0, none⟩)), 1⟩, ⟨(.int .i64 9), (.pointer (some ⟨17, 0, none⟩)), 2⟩] 3) (.node ob_2 (.node ob_3 tr_2 .nil) tr_2) tr_10) (.node (.cells [(.int .i64 3), (.map (some 1))] 0) (.node .dead tr_11 tr_7) tr_12))⟩)]
theorem me_3 : fewOK (xcall Try.prog table.get 1000 60 (.fn 21) ma_3 mh_3) mo_3 = true := by kernel_rfl
def ma_4 : List Value := [(.pointer (some ⟨2, 0, none⟩)), va_10]
def mh_4 : Heap := ⟨20, (.node .dead (.node (.map [⟨(.int .i64 5), (.pointer (some ⟨7, 0, none⟩)), 0⟩, ⟨(.int .i64 2), (.pointer (some ⟨12, 0, none⟩)), 1⟩, ⟨(.int .i64 9), (.pointer (some ⟨17, 0, none⟩)), 2⟩] 3) (.node ob_2 (.node ob_11 tr_2 .nil) (.node .dead tr_13 .nil)) tr_10) (.node (.cells [(.int .i64 3), (.map (some 1))] 0) (.node .dead tr_11 (.node ob_13 .nil .nil)) (.node .dead (.node .dead tr_14 .nil) tr_2)))⟩
def mo_4 : List CO := [(.ret (.tuple ⟨[(.int .i64 9), (.int .i64 0)]⟩) ⟨34, tr_16⟩)]
theorem me_4 : fewOK (xcall Try.prog table.get 1000 60 (.fn 21) ma_4 mh_4) mo_4 = true := by kernel_rfl
def ma_5 : List Value := [(.pointer (some ⟨2, 0, none⟩))]
def mh_5 : Heap := ⟨34, tr_16⟩
def mo_5 : List CO := [(.ret (.slice (some ⟨57, 0, (some 0)⟩) 3 3) ⟨58, (.node .dead (.node (.map [⟨(.int .i64 5), (.pointer (some ⟨7, 0, none⟩)), 0⟩, ⟨(.int .i64 2), (.pointer (some ⟨12, 0, none⟩)), 1⟩, ⟨(.int .i64 7), (.pointer (some ⟨33, 0, none⟩)), 3⟩] 4) (.node ob_2 tr_17 (.node .dead tr_18 tr_6)) tr_21) (.node (.cells [(.int .i64 3), (.map (some 1))] 0) tr_23 (.node .dead (.node .dead tr_24 tr_6) tr_25)))⟩)]
theorem me_5 : fewOK (xcall Try.prog table.get 1000 60 (.fn 17) ma_5 mh_5) mo_5 = true := by kernel_rfl
def ma_6 : List Value := [(.pointer (some ⟨2, 0, none⟩)), va_10]
def mh_6 : Heap := ⟨60, (.node .dead tr_27 (.node (.cells [(.int .i64 3), (.map (some 1))] 0) tr_23 tr_29))⟩
def mo_6 : List CO := [(.ret (.tuple ⟨[(.int .i64 0), (.int .i64 8)]⟩) ⟨61, (.node .dead tr_27 tr_30)⟩)]
theorem me_6 : fewOK (xcall Try.prog table.get 1000 60 (.fn 21) ma_6 mh_6) mo_6 = true := by kernel_rfl
end Go.Proofs.Ytmhnddkpiefkhaa.R

namespace Go.Proofs.Ytmhnddkpiefkhaa.R
open Go Go.Vm
set_option maxRecDepth 100000
def ma_7 : List Value := [(.pointer (some ⟨2, 0, none⟩)), va_17]
def mh_7 : Heap := ⟨62, (.node .dead (.node (.map [⟨(.int .i64 5), (.pointer (some ⟨7, 0, none⟩)), 0⟩, ⟨(.int .i64 2), (.pointer (some ⟨12, 0, none⟩)), 1⟩, ⟨(.int .i64 7), (.pointer (some ⟨33, 0, none⟩)), 3⟩] 4) tr_26 (.node .dead tr_20 (.node ob_8 tr_12 tr_31))) tr_30)⟩
def mo_7 : List CO := [(.ret (.tuple ⟨[(.int .i64 7), (.int .i64 0)]⟩) ⟨76, (.node .dead (.node (.map [⟨(.int .i64 5), (.pointer (some ⟨7, 0, none⟩)), 0⟩, ⟨(.int .i64 2), (.pointer (some ⟨12, 0, none⟩)), 1⟩, ⟨(.int .i64 3), (.pointer (some ⟨75, 0, none⟩)), 4⟩] 5) (.node ob_2 (.node ob_11 tr_32 tr_32) (.node .dead (.node ob_12 tr_6 tr_2) (.node .dead (.node .dead (.node ob_19 .nil .nil) .nil) tr_13))) (.node .dead (.node .dead (.node ob_9 (.node ob_14 tr_2 .nil) tr_2) (.node .dead tr_6 tr_19)) (.node ob_8 tr_32 tr_31))) (.node (.cells [(.int .i64 3), (.map (some 1))] 0) (.node .dead (.node ob_5 tr_32 tr_32) (.node ob_13 tr_32 tr_12)) (.node .dead (.node .dead (.node (.cells [(.bool true)] 0) tr_6 tr_2) (.node .dead tr_6 tr_28)) (.node .dead tr_32 tr_12))))⟩)]
theorem me_7 : fewOK (xcall Try.prog table.get 1000 60 (.fn 21) ma_7 mh_7) mo_7 = true := by kernel_rfl
end Go.Proofs.Ytmhnddkpiefkhaa.R

namespace Go.Proofs.Ytmhnddkpiefkhaa.R
open Go Go.Vm
set_option maxRecDepth 100000
def memo_17 : Memo := [(ma_5, mh_5, mo_5)]
theorem memo_17_ok : MemoF Try.prog 17 memo_17 := MemoF.cons (TT.table_ok table_all) me_5 (MemoF.nil)
def memo_21 : Memo := [(ma_1, mh_1, mo_1), (ma_2, mh_2, mo_2), (ma_3, mh_3, mo_3), (ma_4, mh_4, mo_4), (ma_6, mh_6, mo_6), (ma_7, mh_7, mo_7)]
theorem memo_21_ok : MemoF Try.prog 21 memo_21 := MemoF.cons (TT.table_ok table_all) me_1 (MemoF.cons (TT.table_ok table_all) me_2 (MemoF.cons (TT.table_ok table_all) me_3 (MemoF.cons (TT.table_ok table_all) me_4 (MemoF.cons (TT.table_ok table_all) me_6 (MemoF.cons (TT.table_ok table_all) me_7 (MemoF.nil))))))
def tab : Table := (withMemo (withMemo table.get 17 memo_17) 21 memo_21)
theorem tab_ok : TableOK Try.prog tab := (withMemoF_ok (Checked.mixed Try.checked) (withMemoF_ok (Checked.mixed Try.checked) (TT.table_ok table_all) memo_17_ok) memo_21_ok)
end Go.Proofs.Ytmhnddkpiefkhaa.R
