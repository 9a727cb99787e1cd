/- Contracts of functions, over the machine. -/
import Derived.Test.YtmhnddkpiefkhaaQStoreActs1
import Derived.Test.YtmhnddkpiefkhaaRows
import Derived.Test.YtmhnddkpiefkhaaVK
import Derived.Test.YtmhnddkpiefkhaaVJ
set_option linter.unusedSimpArgs false
noncomputable section
set_option maxRecDepth 100000
set_option linter.unusedVariables false
namespace Go.Proofs.Ytmhnddkpiefkhaa.A
open Go Go.Vm
abbrev ty_internal_abi_BoundsErrorCode : TypeId := 6
abbrev ty_runtime_boundsError : TypeId := 8
abbrev ty_runtime_errorString : TypeId := 10
abbrev ty_runtime_plainError : TypeId := 11
abbrev ty_runtime_errorAddressString : TypeId := 14
abbrev ty_internal_runtime_maps_unhashableTypeError : TypeId := 19
abbrev ty_api_Errno : TypeId := 24
abbrev ty_api_Hash : TypeId := 28
abbrev ty_api_Header : TypeId := 30
abbrev ty_api_Commit : TypeId := 33
abbrev ty_api_Block : TypeId := 36
abbrev ty_api_Kept : TypeId := 47
abbrev ty_ll22_Act : TypeId := 53
abbrev ty_lr22_Store : TypeId := 69
abbrev ty_store_Store : TypeId := 75
abbrev ty_store_kept : TypeId := 82
abbrev ty_store_heights : TypeId := 101
abbrev ty_iter_Seq_int_ : TypeId := 104
abbrev ty_api_Key : TypeId := 111
abbrev ty_api_Validator : TypeId := 113
abbrev ty_api_Vote : TypeId := 117
abbrev ty_iter_Seq__store_kept_ : TypeId := 119
abbrev ty_container_heap_Interface : TypeId := 126
abbrev ty_runtime_TypeAssertionError : TypeId := 134
abbrev ty_runtime_PanicNilError : TypeId := 137
abbrev ty_internal_abi_TFlag : TypeId := 139
abbrev ty_internal_abi_Kind : TypeId := 140
abbrev ty_internal_abi_NameOff : TypeId := 143
abbrev ty_internal_abi_TypeOff : TypeId := 144
abbrev ty_internal_abi_Type : TypeId := 146
instance : IsIface Try.prog 20 := ⟨by kernel_rfl⟩
instance : IsIface Try.prog 125 := ⟨by kernel_rfl⟩
instance : IsIface Try.prog 126 := ⟨by kernel_rfl⟩
abbrev prims : List FuncId := [15]
abbrev kepts : List FuncId := []
def T0 : Table := withKept (withTrue Try.prog prims) kepts
abbrev fn_zuQ : FuncId := 15
theorem zuQ_known {h : Heap} : Runs Try.prog T0 (.fn 15) [] h (fun r h' => r = .bool true ∧ h' = h) (fun _ _ => False) := known_runs rfl
instance : IsBoolT Try.prog 4 := ⟨by kernel_rfl⟩
instance : TLeaves Try.prog 7 (.i .i64 :: (.i .i64 :: (.b :: (.i .u8 :: [])))) := ⟨by kernel_rfl, by kernel_rfl, by kernel_rfl⟩
instance : TLeaves Try.prog 8 (.i .i64 :: (.i .i64 :: (.b :: (.i .u8 :: [])))) := ⟨by kernel_rfl, by kernel_rfl, by kernel_rfl⟩
instance : TLeaves Try.prog 27 (u8s 32) := ⟨by kernel_rfl, by kernel_rfl, by kernel_rfl⟩
instance : TLeaves Try.prog 28 (u8s 32) := ⟨by kernel_rfl, by kernel_rfl, by kernel_rfl⟩
instance : TLeaves Try.prog 29 (.s :: (.i .i64 :: (.i .i64 :: (u8s 32 ++ (u8s 32 ++ (u8s 32 ++ (u8s 32))))))) := ⟨by kernel_rfl, by kernel_rfl, by kernel_rfl⟩
instance : TLeaves Try.prog 30 (.s :: (.i .i64 :: (.i .i64 :: (u8s 32 ++ (u8s 32 ++ (u8s 32 ++ (u8s 32))))))) := ⟨by kernel_rfl, by kernel_rfl, by kernel_rfl⟩
instance : TLeaves Try.prog 46 (.i .i64 :: (.b :: (.b :: []))) := ⟨by kernel_rfl, by kernel_rfl, by kernel_rfl⟩
instance : TLeaves Try.prog 47 (.i .i64 :: (.b :: (.b :: []))) := ⟨by kernel_rfl, by kernel_rfl, by kernel_rfl⟩
instance : TLeaves Try.prog 110 (u8s 4) := ⟨by kernel_rfl, by kernel_rfl, by kernel_rfl⟩
instance : TLeaves Try.prog 111 (u8s 4) := ⟨by kernel_rfl, by kernel_rfl, by kernel_rfl⟩
instance : TLeaves Try.prog 112 (u8s 4 ++ (.i .i64 :: [])) := ⟨by kernel_rfl, by kernel_rfl, by kernel_rfl⟩
instance : TLeaves Try.prog 113 (u8s 4 ++ (.i .i64 :: [])) := ⟨by kernel_rfl, by kernel_rfl, by kernel_rfl⟩
instance : TLeaves Try.prog 116 (.i .i64 :: (.i .u64 :: [])) := ⟨by kernel_rfl, by kernel_rfl, by kernel_rfl⟩
instance : TLeaves Try.prog 117 (.i .i64 :: (.i .u64 :: [])) := ⟨by kernel_rfl, by kernel_rfl, by kernel_rfl⟩
abbrev fn_ztbQ : FuncId := 9
def ztbQ_c : ACode :=
 (.seq (.region [
 o1 2 (.mov (.const (.pointer none))),
 o1 3 (.mov k0)]) (.seq (.seq (.region [
 o1 4 (.mov (tm 0)),
 o1 5 (.bin .lss (so (.binOp .lss 3 (tm 4) (.const (.int .i64 1)) 3) 4) (tm 4) (.const (.int .i64 1))),
 o1 6 (.mov (tm 5)),
 o5 7 (.mov (tm 0)) 6,
 o5 8 (.bin .gtr (so (.binOp .gtr 3 (tm 7) (.const (.int .i64 4096)) 3) 4) (tm 7) (.const (.int .i64 4096))) 6,
 o1 9 (.pick (tm 6) (.const (.bool true)) (tm 8))]) (.cond (tm 9)
 (.seq (.region [
 o1 2 (.mov (.const (.pointer none))),
 o1 3 (.mov (.const (.int .i64 3)))]) .ret)
 .skip)) (.seq (.region [
 o1 10 (.mov (tm 0)),
 o1 11 (.mkMap),
 o1 12 (.build [(.int .i64 0), (.map none)] [(0, 1, (tm 10)), (1, 1, (tm 11))]),
 o1 13 (.box 75 (tm 12)),
 o1 2 (.mov (tm 13)),
 o1 3 (.mov k0)]) .ret)))
def ztbQ : AFunc := ⟨14, [(2, none), (3, none)], ztbQ_c, none⟩
theorem ztbQ_t0 : tableOf Try.prog 9 = some ztbQ := by kernel_rfl
theorem ztbQ_t : T0 9 = some ztbQ := withKept_t rfl (withTrue_t rfl ztbQ_t0)
theorem ztbQ_runs {v0 : Value} {h : Heap} {R : RP} {X : XP} (k : RunC Try.prog T0 ztbQ_c ⟨[v0, U, U, U, U, U, U, U, U, U, U, U, U, U], [], h, none⟩ (bodyQ Try.prog T0 [(2, none), (3, none)] R X)) :
 Runs Try.prog T0 (.fn 9) [v0] h R X := Runs.fn ztbQ_t rfl k
abbrev fn_zubQ : FuncId := 10
def zubQ_l0 : ACode :=
 (.seq (.region [
 o1 16 (.bin .lss (so (.binOp .lss 3 (tm 15) (tm 14) 3) 0) (tm 15) (tm 14))]) (.seq (.cond (tm 16)
 .skip
 (.exit 0)) (.seq (.block 1 (.seq (.region [
 o1 17 (.indexSl 1 (tm 13) (tm 15)),
 o1 18 (.load none (tm 17)),
 o1 7 (.mov (tm 18))]) (.seq (.region [
 o1 19 (.mov (tm 0)),
 o1 20 (.nilCheck (tm 19)),
 o1 21 (.fieldAddr 1 (tm 20)),
 o1 22 (.load none (tm 21)),
 o1 23 (.mov (tm 7)),
 o1 24 (.lookup (.int .i64) (.pointer none) false (tm 22) (tm 23)),
 o1 8 (.mov (tm 24))]) (.seq (.region [
 o1 25 (.mov (tm 7)),
 o1 26 (.mov (tm 1)),
 o1 27 (.bin .lss (so (.binOp .lss 3 (tm 25) (tm 26) 3) 4) (tm 25) (tm 26)),
 o1 28 (.mov (tm 27)),
 o4 29 (.mov (tm 8)) 28,
 o4 30 (.nilCheck (tm 29)) 28,
 o4 31 (.fieldAddr 166 (tm 30)) 28,
 o4 32 (.load none (tm 31)) 28,
 o1 33 (.pick (tm 28) (tm 32) (.const (.bool false)))]) (.cond (tm 33)
 (.region [
 o1 34 (.mov (tm 8)),
 o1 35 (.nilCheck (tm 34)),
 o1 36 (.fieldAddr 0 (tm 35)),
 o1 37 (.load (some 166) (tm 36)),
 o1 38 (.callV (.func 39) [(tm 37)]),
 o3 (.store 166 (tm 4) (tm 38)),
 o1 5 (.mov (.const (.bool true)))])
 .skip))))) (.region [
 o1 39 (.bin .add (so (.binOp .add 3 (tm 15) (.const (.int .i64 1)) 3) 3) (tm 15) (.const (.int .i64 1))),
 o1 15 (.mov (tm 39))]))))
def zubQ_c : ACode :=
 (.seq (.region [
 o1 4 (.alloc 36 ((.string ⟨⟨[]⟩⟩) :: ((.int .i64 0) :: ((.int .i64 0) :: (z32 ++ (z32 ++ (z32 ++ (z32 ++ ((.int .i64 0) :: (z32 ++ [(.slice none 0 0), (.slice none 0 0)])))))))))),
 o1 5 (.mov (.const (.bool false)))]) (.seq (.seq (.region [
 o1 9 (.mov (tm 0)),
 o1 10 (.callV (.func 37) [(tm 9)])]) (.cond (tm 10)
 (.seq (.region [
 o1 11 (.build ((.string ⟨⟨[]⟩⟩) :: ((.int .i64 0) :: ((.int .i64 0) :: (z32 ++ (z32 ++ (z32 ++ (z32 ++ ((.int .i64 0) :: (z32 ++ [(.slice none 0 0), (.slice none 0 0)]))))))))) []),
 o3 (.store 166 (tm 4) (tm 11)),
 o1 5 (.mov (.const (.bool false)))]) .ret)
 .skip)) (.seq (.seq (.region [
 o1 12 (.mov (tm 0)),
 o1 13 (.callV (.func 38) [(tm 12)]),
 o1 14 (.lenSl (tm 13)),
 o1 15 (.mov k0)]) (.block 0 (.loop zubQ_l0))) (.seq (.region [
 o1 40 (.load (some 166) (tm 4)),
 o1 41 (.mov (tm 5)),
 o3 (.store 166 (tm 4) (tm 40)),
 o1 5 (.mov (tm 41))]) .ret))))
def zubQ : AFunc := ⟨42, [(4, some (some 166)), (5, none)], zubQ_c, none⟩
theorem zubQ_t0 : tableOf Try.prog 10 = some zubQ := by kernel_rfl
theorem zubQ_t : T0 10 = some zubQ := withKept_t rfl (withTrue_t rfl zubQ_t0)
theorem zubQ_runs {v0 v1 : Value} {h : Heap} {R : RP} {X : XP} (k : RunC Try.prog T0 zubQ_c ⟨[v0, v1, U, U, U, U, U, U, U, U, U, U, U, U, U, U, U, U, U, U, U, U, U, U, U, U, U, U, U, U, U, U, U, U, U, U, U, U, U, U, U, U], [], h, none⟩ (bodyQ Try.prog T0 [(4, some (some 166)), (5, none)] R X)) :
 Runs Try.prog T0 (.fn 10) [v0, v1] h R X := Runs.fn zubQ_t rfl k
abbrev zubQ_l0_M : List Nat := [0, 0, 0, 0, 0, 2, 0, 1, 1, 0, 0, 0, 0, 0, 0, 2, 1, 1, 1, 1, 1, 1, 1, 1, 1, 1, 1, 1, 1, 1, 1, 1, 1, 1, 1, 1, 1, 1, 1, 1, 0, 0]
abbrev fn_zzbQ : FuncId := 12
def zzbQ_c : ACode :=
 (.seq (.region [
 o1 5 (.box 4 (tm 2)),
 o1 6 (.mov k0)]) (.seq (.region [
 o1 7 (.mov (tm 0)),
 o1 8 (.mov (tm 1)),
 o1 9 (.mkFunc (.func 42) [] [(tm 5)]),
 o1 10 (.callV (.func 41) [(tm 7), (tm 8), (tm 9)]),
 o1 6 (.mov (tm 10))]) .ret))
def zzbQ : AFunc := ⟨11, [(6, none)], zzbQ_c, none⟩
theorem zzbQ_t0 : tableOf Try.prog 12 = some zzbQ := by kernel_rfl
theorem zzbQ_t : T0 12 = some zzbQ := withKept_t rfl (withTrue_t rfl zzbQ_t0)
theorem zzbQ_runs {v0 v1 v2 : Value} {h : Heap} {R : RP} {X : XP} (k : RunC Try.prog T0 zzbQ_c ⟨[v0, v1, v2, U, U, U, U, U, U, U, U], [], h, none⟩ (bodyQ Try.prog T0 [(6, none)] R X)) :
 Runs Try.prog T0 (.fn 12) [v0, v1, v2] h R X := Runs.fn zzbQ_t rfl k
abbrev fn_zvbQ : FuncId := 13
def zvbQ_c : ACode :=
 (.seq (.region [
 o1 3 (.box 3 (tm 1))]) (.seq (.region [
 o1 4 (.mov (tm 0)),
 o1 5 (.callV (.func 37) [(tm 4)]),
 o1 6 (.raw (so (.unOp .not 4 (tm 5)) 4))]) (.cond (tm 6)
 (.region [
 o1 7 (.mov (tm 0)),
 o1 8 (.nilCheck (tm 7)),
 o1 9 (.fieldAddr 1 (tm 8)),
 o1 10 (.load none (tm 9)),
 o1 11 (.mkFunc (.func 44) [] [(tm 3)]),
 o1 12 (.callV (.func 43) [(tm 10), (tm 11)])])
 .skip)))
def zvbQ : AFunc := ⟨13, [], zvbQ_c, none⟩
theorem zvbQ_t0 : tableOf Try.prog 13 = some zvbQ := by kernel_rfl
theorem zvbQ_t : T0 13 = some zvbQ := withKept_t rfl (withTrue_t rfl zvbQ_t0)
theorem zvbQ_runs {v0 v1 : Value} {h : Heap} {R : RP} {X : XP} (k : RunC Try.prog T0 zvbQ_c ⟨[v0, v1, U, U, U, U, U, U, U, U, U, U, U], [], h, none⟩ (bodyQ Try.prog T0 [] R X)) :
 Runs Try.prog T0 (.fn 13) [v0, v1] h R X := Runs.fn zvbQ_t rfl k
abbrev fn_zxbQ : FuncId := 14
def zxbQ_c : ACode :=
 (.seq (.region [
 o1 4 (.alloc 36 ((.string ⟨⟨[]⟩⟩) :: ((.int .i64 0) :: ((.int .i64 0) :: (z32 ++ (z32 ++ (z32 ++ (z32 ++ ((.int .i64 0) :: (z32 ++ [(.slice none 0 0), (.slice none 0 0)])))))))))),
 o1 5 (.mov (.const (.bool false)))]) (.seq (.seq (.region [
 o1 8 (.mov (tm 0)),
 o1 9 (.callV (.func 37) [(tm 8)])]) (.cond (tm 9)
 (.seq (.region [
 o1 10 (.build ((.string ⟨⟨[]⟩⟩) :: ((.int .i64 0) :: ((.int .i64 0) :: (z32 ++ (z32 ++ (z32 ++ (z32 ++ ((.int .i64 0) :: (z32 ++ [(.slice none 0 0), (.slice none 0 0)]))))))))) []),
 o3 (.store 166 (tm 4) (tm 10)),
 o1 5 (.mov (.const (.bool false)))]) .ret)
 .skip)) (.seq (.region [
 o1 12 (.mov (tm 0)),
 o1 13 (.nilCheck (tm 12)),
 o1 14 (.fieldAddr 1 (tm 13)),
 o1 15 (.load none (tm 14)),
 o1 16 (.mov (tm 1)),
 o1 17 (.lookup (.int .i64) (.pointer none) true (tm 15) (tm 16)),
 o1 11 (.mov (tm 17)),
 o1 18 (.extract 0 (tm 11)),
 o1 19 (.extract 1 (tm 11)),
 o1 6 (.mov (tm 18)),
 o1 7 (.mov (tm 19))]) (.seq (.seq (.region [
 o1 20 (.mov (tm 7)),
 o1 21 (.raw (so (.unOp .not 4 (tm 20)) 4))]) (.cond (tm 21)
 (.seq (.region [
 o1 22 (.build ((.string ⟨⟨[]⟩⟩) :: ((.int .i64 0) :: ((.int .i64 0) :: (z32 ++ (z32 ++ (z32 ++ (z32 ++ ((.int .i64 0) :: (z32 ++ [(.slice none 0 0), (.slice none 0 0)]))))))))) []),
 o3 (.store 166 (tm 4) (tm 22)),
 o1 5 (.mov (.const (.bool false)))]) .ret)
 .skip)) (.seq (.region [
 o1 23 (.mov (tm 6)),
 o1 24 (.nilCheck (tm 23)),
 o1 25 (.fieldAddr 0 (tm 24)),
 o1 26 (.load (some 166) (tm 25)),
 o1 27 (.callV (.func 39) [(tm 26)]),
 o3 (.store 166 (tm 4) (tm 27)),
 o1 5 (.mov (.const (.bool true)))]) .ret)))))
def zxbQ : AFunc := ⟨28, [(4, some (some 166)), (5, none)], zxbQ_c, none⟩
theorem zxbQ_t0 : tableOf Try.prog 14 = some zxbQ := by kernel_rfl
theorem zxbQ_t : T0 14 = some zxbQ := withKept_t rfl (withTrue_t rfl zxbQ_t0)
theorem zxbQ_runs {v0 v1 : Value} {h : Heap} {R : RP} {X : XP} (k : RunC Try.prog T0 zxbQ_c ⟨[v0, v1, U, U, U, U, U, U, U, U, U, U, U, U, U, U, U, U, U, U, U, U, U, U, U, U, U, U], [], h, none⟩ (bodyQ Try.prog T0 [(4, some (some 166)), (5, none)] R X)) :
 Runs Try.prog T0 (.fn 14) [v0, v1] h R X := Runs.fn zxbQ_t rfl k
abbrev fn_zqQ : FuncId := 16
def zqQ_l0 : ACode :=
 (.seq (.seq (.region [
 o1 12 (.mov (tm 5)),
 o1 13 (.mov (tm 12)),
 o4 14 (.mov (tm 6)) 13,
 o4 15 (.mov (tm 0)) 13,
 o4 16 (.lenSl (tm 15)) 13,
 o4 17 (.bin .lss (so (.binOp .lss 3 (tm 14) (tm 16) 3) 4) (tm 14) (tm 16)) 13,
 o1 18 (.pick (tm 13) (tm 17) (.const (.bool false)))]) (.cond (tm 18)
 .skip
 (.exit 0))) (.seq (.block 1 (.regionD [
 o1 21 (.mov (tm 0)),
 o1 22 (.mov (tm 6)),
 o1 23 (.indexSl 3 (tm 21) (tm 22)),
 o1 24 (.load (some 3) (tm 23)),
 o1 25 (.mov (tm 1)),
 o1 26 (.mov (tm 6)),
 o1 27 (.indexSl 3 (tm 25) (tm 26)),
 o1 28 (.load (some 3) (tm 27)),
 o2 29 (.bin .eql (so (.binOp .eql 47 (tm 24) (tm 28) 47) 4) (tm 24) (tm 28)),
 o2 5 (.mov (tm 29))])) (.region [
 o1 19 (.mov (tm 6)),
 o1 20 (.bin .add (so (.binOp .add 3 (tm 19) (.const (.int .i64 1)) 3) 3) (tm 19) (.const (.int .i64 1))),
 o1 6 (.mov (tm 20))])))
def zqQ_c : ACode :=
 (.seq (.region [
 o1 4 (.mov (.const (.bool false)))]) (.seq (.region [
 o1 7 (.mov (tm 0)),
 o1 8 (.lenSl (tm 7)),
 o1 9 (.mov (tm 1)),
 o1 10 (.lenSl (tm 9)),
 o1 11 (.bin .eql (so (.binOp .eql 3 (tm 8) (tm 10) 3) 4) (tm 8) (tm 10)),
 o1 5 (.mov (tm 11))]) (.seq (.seq (.region [
 o1 6 (.mov k0)]) (.block 0 (.loop zqQ_l0))) (.seq (.region [
 o1 30 (.mov (tm 5)),
 o1 4 (.mov (tm 30))]) .ret))))
def zqQ : AFunc := ⟨31, [(4, none)], zqQ_c, none⟩
theorem zqQ_t0 : tableOf Try.prog 16 = some zqQ := by kernel_rfl
theorem zqQ_t : T0 16 = some zqQ := withKept_t rfl (withTrue_t rfl zqQ_t0)
theorem zqQ_runs {v0 v1 : Value} {h : Heap} {R : RP} {X : XP} (k : RunC Try.prog T0 zqQ_c ⟨[v0, v1, U, U, U, U, U, U, U, U, U, U, U, U, U, U, U, U, U, U, U, U, U, U, U, U, U, U, U, U, U], [], h, none⟩ (bodyQ Try.prog T0 [(4, none)] R X)) :
 Runs Try.prog T0 (.fn 16) [v0, v1] h R X := Runs.fn zqQ_t rfl k
abbrev zqQ_l0_M : List Nat := [0, 0, 0, 0, 0, 2, 2, 0, 0, 0, 0, 0, 1, 1, 1, 1, 1, 1, 1, 1, 1, 1, 1, 1, 1, 1, 1, 1, 1, 1, 0]
abbrev fn_zybQ : FuncId := 17
def zybQ_l0 : ACode :=
 (.seq (.region [
 o1 12 (.bin .lss (so (.binOp .lss 3 (tm 11) (tm 10) 3) 0) (tm 11) (tm 10))]) (.seq (.cond (tm 12)
 .skip
 (.exit 0)) (.seq (.block 1 (.seq (.region [
 o1 13 (.indexSl 1 (tm 9) (tm 11)),
 o1 14 (.load none (tm 13)),
 o1 4 (.mov (tm 14))]) (.seq (.region [
 o1 15 (.mov (tm 0)),
 o1 16 (.nilCheck (tm 15)),
 o1 17 (.fieldAddr 1 (tm 16)),
 o1 18 (.load none (tm 17)),
 o1 19 (.mov (tm 4)),
 o1 20 (.lookup (.int .i64) (.pointer none) false (tm 18) (tm 19)),
 o1 5 (.mov (tm 20))]) (.regionD [
 o1 21 (.mov (tm 2)),
 o1 22 (.mov (tm 4)),
 o1 23 (.mov (tm 5)),
 o1 24 (.nilCheck (tm 23)),
 o1 25 (.fieldAddr 166 (tm 24)),
 o1 26 (.load none (tm 25)),
 o1 27 (.mov (tm 5)),
 o1 28 (.nilCheck (tm 27)),
 o1 29 (.fieldAddr 167 (tm 28)),
 o1 30 (.load none (tm 29)),
 o1 31 (.build [(.int .i64 0), (.bool false), (.bool false)] [(0, 1, (tm 22)), (1, 1, (tm 26)), (2, 1, (tm 30))]),
 ⟨some 32, .buildSlice 47 [(.int .i64 0), (.bool false), (.bool false)] 1 [(0, 3, (tm 31))], none, [(some 21, .mov (tm 2), none)], false⟩,
 o2 33 (.append 47 3 16 [(.int .i64 0), (.bool false), (.bool false)] false (tm 21) (tm 32)),
 o2 2 (.mov (tm 33))])))) (.region [
 o1 34 (.bin .add (so (.binOp .add 3 (tm 11) (.const (.int .i64 1)) 3) 3) (tm 11) (.const (.int .i64 1))),
 o1 11 (.mov (tm 34))]))))
def zybQ_c : ACode :=
 (.seq (.region [
 o1 2 (.mov (.const (.slice none 0 0)))]) (.seq (.seq (.region [
 o1 6 (.mov (tm 0)),
 o1 7 (.callV (.func 37) [(tm 6)])]) (.cond (tm 7)
 (.seq (.region [
 o1 2 (.mov (.const (.slice none 0 0)))]) .ret)
 .skip)) (.seq (.seq (.region [
 o1 8 (.mov (tm 0)),
 o1 9 (.callV (.func 38) [(tm 8)]),
 o1 10 (.lenSl (tm 9)),
 o1 11 (.mov k0)]) (.block 0 (.loop zybQ_l0))) (.seq (.region [
 o1 35 (.mov (tm 2)),
 o1 2 (.mov (tm 35))]) .ret))))
def zybQ : AFunc := ⟨36, [(2, none)], zybQ_c, none⟩
theorem zybQ_t0 : tableOf Try.prog 17 = some zybQ := by kernel_rfl
theorem zybQ_t : T0 17 = some zybQ := withKept_t rfl (withTrue_t rfl zybQ_t0)
theorem zybQ_runs {v0 : Value} {h : Heap} {R : RP} {X : XP} (k : RunC Try.prog T0 zybQ_c ⟨[v0, U, U, U, U, U, U, U, U, U, U, U, U, U, U, U, U, U, U, U, U, U, U, U, U, U, U, U, U, U, U, U, U, U, U, U], [], h, none⟩ (bodyQ Try.prog T0 [(2, none)] R X)) :
 Runs Try.prog T0 (.fn 17) [v0] h R X := Runs.fn zybQ_t rfl k
abbrev zybQ_l0_M : List Nat := [0, 0, 2, 0, 1, 1, 0, 0, 0, 0, 0, 2, 1, 1, 1, 1, 1, 1, 1, 1, 1, 1, 1, 1, 1, 1, 1, 1, 1, 1, 1, 1, 1, 1, 1, 0]
abbrev fn_zdcQ : FuncId := 18
def zdcQ_c : ACode :=
 (.seq (.region [
 o1 4 (.mov k0)]) (.seq (.region [
 o1 5 (.mov (tm 0)),
 o1 6 (.mov (tm 1)),
 o1 7 (.callV (.func 41) [(tm 5), (tm 6), (.func 45)]),
 o1 4 (.mov (tm 7))]) .ret))
def zdcQ : AFunc := ⟨8, [(4, none)], zdcQ_c, none⟩
theorem zdcQ_t0 : tableOf Try.prog 18 = some zdcQ := by kernel_rfl
theorem zdcQ_t : T0 18 = some zdcQ := withKept_t rfl (withTrue_t rfl zdcQ_t0)
theorem zdcQ_runs {v0 v1 : Value} {h : Heap} {R : RP} {X : XP} (k : RunC Try.prog T0 zdcQ_c ⟨[v0, v1, U, U, U, U, U, U], [], h, none⟩ (bodyQ Try.prog T0 [(4, none)] R X)) :
 Runs Try.prog T0 (.fn 18) [v0, v1] h R X := Runs.fn zdcQ_t rfl k
abbrev fn_zwQ : FuncId := 19
def zwQ_l0 : ACode :=
 (.seq (.seq (.region [
 o1 4 (.mov (tm 3)),
 o1 5 (.mov (tm 0)),
 o1 6 (.lenSl (tm 5)),
 o1 7 (.bin .lss (so (.binOp .lss 3 (tm 4) (tm 6) 3) 4) (tm 4) (tm 6)),
 o1 8 (.mov (tm 7)),
 o4 9 (.mov (tm 3)) 8,
 o4 10 (.bin .lss (so (.binOp .lss 3 (tm 9) (.const (.int .i64 41)) 3) 4) (tm 9) (.const (.int .i64 41))) 8,
 o1 11 (.pick (tm 8) (tm 10) (.const (.bool false)))]) (.cond (tm 11)
 .skip
 (.exit 0))) (.seq (.block 1 (.seq (.region [
 o1 14 (.mov (tm 0)),
 o1 15 (.mov (tm 3)),
 o1 16 (.indexSl 169 (tm 14) (tm 15)),
 o1 17 (.fieldAddr 3 (tm 16)),
 o1 18 (.load (some 166) (tm 17)),
 o1 19 (.callV (.func 36) [(tm 18)])]) (.cond (tm 19)
 (.seq (.region [
 o1 2 (.mov (.const (.bool true)))]) .ret)
 .skip))) (.region [
 o1 12 (.mov (tm 3)),
 o1 13 (.bin .add (so (.binOp .add 3 (tm 12) (.const (.int .i64 1)) 3) 3) (tm 12) (.const (.int .i64 1))),
 o1 3 (.mov (tm 13))])))
def zwQ_c : ACode :=
 (.seq (.region [
 o1 2 (.mov (.const (.bool false)))]) (.seq (.seq (.region [
 o1 3 (.mov k0)]) (.block 0 (.loop zwQ_l0))) (.seq (.region [
 o1 20 (.mov (tm 0)),
 o1 21 (.lenSl (tm 20)),
 o1 22 (.bin .gtr (so (.binOp .gtr 3 (tm 21) (.const (.int .i64 40)) 3) 4) (tm 21) (.const (.int .i64 40))),
 o1 2 (.mov (tm 22))]) .ret)))
def zwQ : AFunc := ⟨23, [(2, none)], zwQ_c, none⟩
theorem zwQ_t0 : tableOf Try.prog 19 = some zwQ := by kernel_rfl
theorem zwQ_t : T0 19 = some zwQ := withKept_t rfl (withTrue_t rfl zwQ_t0)
theorem zwQ_runs {v0 : Value} {h : Heap} {R : RP} {X : XP} (k : RunC Try.prog T0 zwQ_c ⟨[v0, U, U, U, U, U, U, U, U, U, U, U, U, U, U, U, U, U, U, U, U, U, U], [], h, none⟩ (bodyQ Try.prog T0 [(2, none)] R X)) :
 Runs Try.prog T0 (.fn 19) [v0] h R X := Runs.fn zwQ_t rfl k
abbrev zwQ_l0_M : List Nat := [0, 0, 1, 2, 1, 1, 1, 1, 1, 1, 1, 1, 1, 1, 1, 1, 1, 1, 1, 1, 0, 0, 0]
abbrev fn_zbcQ : FuncId := 21
def zbcQ_c : ACode :=
 (.seq (.region [
 o1 3 (.box 36 (tm 1)),
 o1 4 (.mov k0),
 o1 5 (.mov k0)]) (.seq (.seq (.region [
 o1 10 (.mov (tm 0)),
 o1 11 (.callV (.func 37) [(tm 10)])]) (.cond (tm 11)
 (.seq (.region [
 o1 4 (.mov k0),
 o1 5 (.mov (.const (.int .i64 1)))]) .ret)
 .skip)) (.seq (.regionD [
 o1 13 (.mov (tm 0)),
 o1 14 (.nilCheck (tm 13)),
 o1 15 (.fieldAddr 1 (tm 14)),
 o1 16 (.load none (tm 15)),
 o1 17 (.fieldAddr 0 (tm 3)),
 o1 18 (.fieldAddr 1 (tm 17)),
 o1 19 (.load none (tm 18)),
 o2 20 (.lookup (.int .i64) (.pointer none) true (tm 16) (tm 19)),
 o2 12 (.mov (tm 20)),
 o1 21 (.extract 0 (tm 12)),
 o1 22 (.extract 1 (tm 12)),
 o1 6 (.mov (tm 21)),
 o2 7 (.mov (tm 22))]) (.seq (.block 0 (.seq (.region [
 o1 24 (.fieldAddr 0 (tm 3)),
 o1 25 (.fieldAddr 1 (tm 24)),
 o1 26 (.load none (tm 25)),
 o1 27 (.bin .lss (so (.binOp .lss 3 (tm 26) (.const (.int .i64 1)) 3) 4) (tm 26) (.const (.int .i64 1))),
 o1 28 (.mov (tm 27)),
 o5 29 (.fieldAddr 0 (tm 3)) 28,
 o5 30 (.fieldAddr 1 (tm 29)) 28,
 o5 31 (.load none (tm 30)) 28,
 o5 32 (.bin .gtr (so (.binOp .gtr 3 (tm 31) (.const (.int .i64 1073741824)) 3) 4) (tm 31) (.const (.int .i64 1073741824))) 28,
 o1 33 (.pick (tm 28) (.const (.bool true)) (tm 32)),
 o1 23 (.mov (tm 33))]) (.cond (tm 23)
 (.seq (.region [
 o1 4 (.mov k0),
 o1 5 (.mov (.const (.int .i64 13)))]) .ret)
 (.seq (.region [
 o1 35 (.mov (tm 7)),
 o1 34 (.mov (tm 35))]) (.cond (tm 34)
 (.seq (.region [
 o1 4 (.mov k0),
 o1 5 (.mov (.const (.int .i64 8)))]) .ret)
 .skip))))) (.seq (.region [
 o1 8 (.mov k0)]) (.seq (.seq (.regionD [
 o1 36 (.mov (tm 0)),
 o1 37 (.nilCheck (tm 36)),
 o1 38 (.fieldAddr 1 (tm 37)),
 o1 39 (.load none (tm 38)),
 o1 40 (.lenMap (tm 39)),
 o1 41 (.mov (tm 0)),
 o1 42 (.nilCheck (tm 41)),
 o1 43 (.fieldAddr 0 (tm 42)),
 o1 44 (.load none (tm 43)),
 o2 45 (.bin .geq (so (.binOp .geq 3 (tm 40) (tm 44) 3) 4) (tm 40) (tm 44))]) (.cond (tm 45)
 (.seq (.region [
 o1 46 (.mov (tm 0)),
 o1 47 (.callV (.func 46) [(tm 46)]),
 o1 9 (.mov (tm 47))]) (.seq (.seq (.region [
 o1 48 (.mov (tm 9)),
 o1 49 (.lenSl (tm 48)),
 o1 50 (.bin .eql (so (.binOp .eql 3 (tm 49) k0 3) 4) (tm 49) k0)]) (.cond (tm 50)
 (.seq (.region [
 o1 4 (.mov k0),
 o1 5 (.mov (.const (.int .i64 7)))]) .ret)
 .skip)) (.seq (.region [
 o1 51 (.mov (tm 9)),
 o1 52 (.callV (.func 47) [(tm 51), (.func 48)]),
 o1 53 (.nilCheck (tm 52)),
 o1 54 (.fieldAddr 0 (tm 53)),
 o1 55 (.fieldAddr 0 (tm 54)),
 o1 56 (.fieldAddr 1 (tm 55)),
 o1 57 (.load none (tm 56)),
 o1 8 (.mov (tm 57))]) (.region [
 o1 58 (.mov (tm 0)),
 o1 59 (.nilCheck (tm 58)),
 o1 60 (.fieldAddr 1 (tm 59)),
 o1 61 (.load none (tm 60)),
 o1 62 (.mov (tm 8)),
 o3 (.delete (.int .i64) (tm 61) (tm 62))]))))
 .skip)) (.seq (.regionD [
 o1 63 (.mov (tm 0)),
 o1 64 (.nilCheck (tm 63)),
 o1 65 (.fieldAddr 1 (tm 64)),
 o1 66 (.load none (tm 65)),
 o1 67 (.fieldAddr 0 (tm 3)),
 o1 68 (.fieldAddr 1 (tm 67)),
 o1 69 (.load none (tm 68)),
 o1 70 (.load (some 166) (tm 3)),
 ⟨some 71, .callV (.func 39) [(tm 70)], none, [(some 69, .load none (tm 68), none), (some 68, .fieldAddr 1 (tm 67), none), (some 67, .fieldAddr 0 (tm 3), none), (some 66, .load none (tm 65), none), (some 65, .fieldAddr 1 (tm 64), none), (some 64, .nilCheck (tm 63), none), (some 63, .mov (tm 0), none)], false⟩,
 o1 72 (.build ((.string ⟨⟨[]⟩⟩) :: ((.int .i64 0) :: ((.int .i64 0) :: (z32 ++ (z32 ++ (z32 ++ (z32 ++ ((.int .i64 0) :: (z32 ++ [(.slice none 0 0), (.slice none 0 0), (.bool false), (.bool false)]))))))))) [(0, 166, (tm 71))]),
 ⟨some 73, .box 82 (tm 72), none, [(some 69, .load none (tm 68), none), (some 68, .fieldAddr 1 (tm 67), none), (some 67, .fieldAddr 0 (tm 3), none), (some 66, .load none (tm 65), none), (some 65, .fieldAddr 1 (tm 64), none), (some 64, .nilCheck (tm 63), none), (some 63, .mov (tm 0), none)], false⟩,
 ⟨none, .mapUpdate (.int .i64) (tm 66) (tm 69) (tm 73), none, [], true⟩]) (.seq (.region [
 o1 74 (.mov (tm 8)),
 o1 4 (.mov (tm 74)),
 o1 5 (.mov k0)]) .ret))))))))
def zbcQ : AFunc := ⟨75, [(4, none), (5, none)], zbcQ_c, none⟩
theorem zbcQ_t0 : tableOf Try.prog 21 = some zbcQ := by kernel_rfl
theorem zbcQ_t : T0 21 = some zbcQ := withKept_t rfl (withTrue_t rfl zbcQ_t0)
theorem zbcQ_runs {v0 v1 : Value} {h : Heap} {R : RP} {X : XP} (k : RunC Try.prog T0 zbcQ_c ⟨[v0, v1, U, U, U, U, U, U, U, U, U, U, U, U, U, U, U, U, U, U, U, U, U, U, U, U, U, U, U, U, U, U, U, U, U, U, U, U, U, U, U, U, U, U, U, U, U, U, U, U, U, U, U, U, U, U, U, U, U, U, U, U, U, U, U, U, U, U, U, U, U, U, U, U, U], [], h, none⟩ (bodyQ Try.prog T0 [(4, none), (5, none)] R X)) :
 Runs Try.prog T0 (.fn 21) [v0, v1] h R X := Runs.fn zbcQ_t rfl k
abbrev fn_zzQ : FuncId := 24
def zzQ_c : ACode :=
 (.seq (.region [
 o1 2 (.mov (.const (.pointer none))),
 o1 3 (.mov k0)]) (.seq (.seq (.region [
 o1 4 (.mov (tm 0)),
 o1 5 (.bin .lss (so (.binOp .lss 3 (tm 4) (.const (.int .i64 1)) 3) 4) (tm 4) (.const (.int .i64 1))),
 o1 6 (.mov (tm 5)),
 o5 7 (.mov (tm 0)) 6,
 o5 8 (.bin .gtr (so (.binOp .gtr 3 (tm 7) (.const (.int .i64 4096)) 3) 4) (tm 7) (.const (.int .i64 4096))) 6,
 o1 9 (.pick (tm 6) (.const (.bool true)) (tm 8))]) (.cond (tm 9)
 (.seq (.region [
 o1 2 (.mov (.const (.pointer none))),
 o1 3 (.mov (.const (.int .i64 3)))]) .ret)
 .skip)) (.seq (.region [
 o1 10 (.mov (tm 0)),
 o1 11 (.build [(.int .i64 0), (.slice none 0 0), (.slice none 0 0)] [(0, 1, (tm 10))]),
 o1 12 (.box 69 (tm 11)),
 o1 2 (.mov (tm 12)),
 o1 3 (.mov k0)]) .ret)))
def zzQ : AFunc := ⟨13, [(2, none), (3, none)], zzQ_c, none⟩
theorem zzQ_t0 : tableOf Try.prog 24 = some zzQ := by kernel_rfl
theorem zzQ_t : T0 24 = some zzQ := withKept_t rfl (withTrue_t rfl zzQ_t0)
theorem zzQ_runs {v0 : Value} {h : Heap} {R : RP} {X : XP} (k : RunC Try.prog T0 zzQ_c ⟨[v0, U, U, U, U, U, U, U, U, U, U, U, U], [], h, none⟩ (bodyQ Try.prog T0 [(2, none), (3, none)] R X)) :
 Runs Try.prog T0 (.fn 24) [v0] h R X := Runs.fn zzQ_t rfl k
abbrev fn_zgQ : FuncId := 25
def zgQ_c : ACode :=
 (.seq (.region [
 o1 1 (.box 36 (tm 0)),
 o1 2 (.alloc 36 ((.string ⟨⟨[]⟩⟩) :: ((.int .i64 0) :: ((.int .i64 0) :: (z32 ++ (z32 ++ (z32 ++ (z32 ++ ((.int .i64 0) :: (z32 ++ [(.slice none 0 0), (.slice none 0 0)]))))))))))]) (.seq (.region [
 o1 3 (.fieldAddr 131 (tm 1)),
 o1 4 (.load (some 34) (tm 3)),
 o1 5 (.callV (.func 49) [(tm 4)]),
 o1 6 (.fieldAddr 131 (tm 1)),
 o3 (.store 34 (tm 6) (tm 5))]) (.seq (.region [
 o1 7 (.fieldAddr 165 (tm 1)),
 o1 8 (.load none (tm 7)),
 o1 9 (.callV (.func 50) [(tm 8)]),
 o1 10 (.fieldAddr 165 (tm 1)),
 o3 (.store 1 (tm 10) (tm 9))]) (.seq (.region [
 o1 11 (.load (some 166) (tm 1)),
 o3 (.store 166 (tm 2) (tm 11))]) .ret))))
def zgQ : AFunc := ⟨12, [(2, some (some 166))], zgQ_c, none⟩
theorem zgQ_t0 : tableOf Try.prog 25 = some zgQ := by kernel_rfl
theorem zgQ_t : T0 25 = some zgQ := withKept_t rfl (withTrue_t rfl zgQ_t0)
theorem zgQ_runs {v0 : Value} {h : Heap} {R : RP} {X : XP} (k : RunC Try.prog T0 zgQ_c ⟨[v0, U, U, U, U, U, U, U, U, U, U, U], [], h, none⟩ (bodyQ Try.prog T0 [(2, some (some 166))] R X)) :
 Runs Try.prog T0 (.fn 25) [v0] h R X := Runs.fn zgQ_t rfl k
abbrev fn_zebQ : FuncId := 26
def zebQ_l0 : ACode :=
 (.seq (.seq (.region [
 o1 52 (.mov (tm 9)),
 o1 53 (.mov (tm 0)),
 o1 54 (.nilCheck (tm 53)),
 o1 55 (.fieldAddr 2 (tm 54)),
 o1 56 (.load none (tm 55)),
 o1 57 (.lenSl (tm 56)),
 o1 58 (.bin .lss (so (.binOp .lss 3 (tm 52) (tm 57) 3) 4) (tm 52) (tm 57)),
 o1 59 (.mov (tm 58)),
 o4 60 (.mov (tm 0)) 59,
 o4 61 (.nilCheck (tm 60)) 59,
 o4 62 (.fieldAddr 2 (tm 61)) 59,
 o4 63 (.load none (tm 62)) 59,
 o4 64 (.mov (tm 9)) 59,
 o4 65 (.indexSl 3 (tm 63) (tm 64)) 59,
 o4 66 (.fieldAddr 0 (tm 65)) 59,
 o4 67 (.load none (tm 66)) 59,
 o4 68 (.mov (tm 6)) 59,
 o4 69 (.bin .lss (so (.binOp .lss 3 (tm 67) (tm 68) 3) 4) (tm 67) (tm 68)) 59,
 o1 70 (.pick (tm 59) (tm 69) (.const (.bool false)))]) (.cond (tm 70)
 .skip
 (.exit 1))) (.block 2 (.region [
 o1 71 (.mov (tm 9)),
 o1 72 (.bin .add (so (.binOp .add 3 (tm 71) (.const (.int .i64 1)) 3) 3) (tm 71) (.const (.int .i64 1))),
 o1 9 (.mov (tm 72))])))
def zebQ_c : ACode :=
 (.seq (.region [
 o1 3 (.box 36 (tm 1)),
 o1 4 (.mov k0),
 o1 5 (.mov k0)]) (.seq (.region [
 o1 12 (.fieldAddr 0 (tm 3)),
 o1 13 (.fieldAddr 1 (tm 12)),
 o1 14 (.load none (tm 13)),
 o1 6 (.mov (tm 14)),
 o1 7 (.mov k0)]) (.seq (.block 0 (.seq (.region [
 o1 16 (.mov (tm 6)),
 o1 17 (.bin .lss (so (.binOp .lss 3 (tm 16) (.const (.int .i64 1)) 3) 4) (tm 16) (.const (.int .i64 1))),
 o1 18 (.mov (tm 17)),
 o5 19 (.mov (tm 6)) 18,
 o5 20 (.bin .gtr (so (.binOp .gtr 3 (tm 19) (.const (.int .i64 1073741824)) 3) 4) (tm 19) (.const (.int .i64 1073741824))) 18,
 o1 21 (.pick (tm 18) (.const (.bool true)) (tm 20)),
 o1 15 (.mov (tm 21))]) (.cond (tm 15)
 (.seq (.region [
 o1 4 (.mov k0),
 o1 5 (.mov (.const (.int .i64 13)))]) .ret)
 (.seq (.region [
 o1 23 (.mov (tm 0)),
 o1 24 (.mov (tm 6)),
 o1 25 (.callV (.func 51) [(tm 23), (tm 24)]),
 o1 26 (.bin .geq (so (.binOp .geq 3 (tm 25) k0 3) 4) (tm 25) k0),
 o1 22 (.mov (tm 26))]) (.cond (tm 22)
 (.seq (.region [
 o1 4 (.mov k0),
 o1 5 (.mov (.const (.int .i64 8)))]) .ret)
 .skip))))) (.seq (.seq (.regionD [
 o1 27 (.mov (tm 0)),
 o1 28 (.nilCheck (tm 27)),
 o1 29 (.fieldAddr 2 (tm 28)),
 o1 30 (.load none (tm 29)),
 o1 31 (.lenSl (tm 30)),
 o1 32 (.mov (tm 0)),
 o1 33 (.nilCheck (tm 32)),
 o1 34 (.fieldAddr 0 (tm 33)),
 o1 35 (.load none (tm 34)),
 o2 36 (.bin .geq (so (.binOp .geq 3 (tm 31) (tm 35) 3) 4) (tm 31) (tm 35))]) (.cond (tm 36)
 (.seq (.region [
 o1 37 (.mov (tm 0)),
 o1 38 (.callV (.func 52) [(tm 37)]),
 o1 8 (.mov (tm 38))]) (.seq (.seq (.region [
 o1 39 (.mov (tm 8)),
 o1 40 (.bin .lss (so (.binOp .lss 3 (tm 39) k0 3) 4) (tm 39) k0)]) (.cond (tm 40)
 (.seq (.region [
 o1 4 (.mov k0),
 o1 5 (.mov (.const (.int .i64 7)))]) .ret)
 .skip)) (.seq (.region [
 o1 41 (.mov (tm 0)),
 o1 42 (.nilCheck (tm 41)),
 o1 43 (.fieldAddr 2 (tm 42)),
 o1 44 (.load none (tm 43)),
 o1 45 (.mov (tm 8)),
 o1 46 (.indexSl 3 (tm 44) (tm 45)),
 o1 47 (.fieldAddr 0 (tm 46)),
 o1 48 (.load none (tm 47)),
 o1 7 (.mov (tm 48))]) (.region [
 o1 49 (.mov (tm 0)),
 o1 50 (.mov (tm 8)),
 o1 51 (.callV (.func 53) [(tm 49), (tm 50)])]))))
 .skip)) (.seq (.region [
 o1 9 (.mov k0)]) (.seq (.block 1 (.loop zebQ_l0)) (.seq (.regionM [[
 o1 74 (.mov (tm 0)),
 o1 75 (.nilCheck (tm 74)),
 o1 76 (.fieldAddr 1 (tm 75)),
 o1 77 (.load none (tm 76)),
 o1 78 (.mov (tm 9)),
 o1 79 (.sliceSl 166 (tm 77) (some (tm 78)) none none),
 o1 82 (.mov (tm 0)),
 o1 83 (.nilCheck (tm 82)),
 o1 84 (.fieldAddr 2 (tm 83)),
 o1 85 (.load none (tm 84)),
 o1 86 (.mov (tm 9)),
 o1 87 (.sliceSl 3 (tm 85) (some (tm 86)) none none),
 ⟨some 73, .buildSlice 36 [] 0 [], none, [(some 87, .sliceSl 3 (tm 85) (some (tm 86)) none none, none), (some 86, .mov (tm 9), none), (some 85, .load none (tm 84), none), (some 84, .fieldAddr 2 (tm 83), none), (some 83, .nilCheck (tm 82), none), (some 82, .mov (tm 0), none), (some 79, .sliceSl 166 (tm 77) (some (tm 78)) none none, none), (some 78, .mov (tm 9), none), (some 77, .load none (tm 76), none), (some 76, .fieldAddr 1 (tm 75), none), (some 75, .nilCheck (tm 74), none), (some 74, .mov (tm 0), none)], false⟩,
 ⟨some 80, .append 36 166 248 ((.string ⟨⟨[]⟩⟩) :: ((.int .i64 0) :: ((.int .i64 0) :: (z32 ++ (z32 ++ (z32 ++ (z32 ++ ((.int .i64 0) :: (z32 ++ [(.slice none 0 0), (.slice none 0 0)]))))))))) false (tm 73) (tm 79), none, [(some 87, .sliceSl 3 (tm 85) (some (tm 86)) none none, none), (some 86, .mov (tm 9), none), (some 85, .load none (tm 84), none), (some 84, .fieldAddr 2 (tm 83), none), (some 83, .nilCheck (tm 82), none), (some 82, .mov (tm 0), none)], false⟩,
 ⟨some 81, .buildSlice 47 [] 0 [], none, [(some 87, .sliceSl 3 (tm 85) (some (tm 86)) none none, none), (some 86, .mov (tm 9), none), (some 85, .load none (tm 84), none), (some 84, .fieldAddr 2 (tm 83), none), (some 83, .nilCheck (tm 82), none), (some 82, .mov (tm 0), none), (some 79, .sliceSl 166 (tm 77) (some (tm 78)) none none, none), (some 78, .mov (tm 9), none), (some 77, .load none (tm 76), none), (some 76, .fieldAddr 1 (tm 75), none), (some 75, .nilCheck (tm 74), none), (some 74, .mov (tm 0), none)], false⟩,
 o2 88 (.append 47 3 16 [(.int .i64 0), (.bool false), (.bool false)] false (tm 81) (tm 87)),
 o2 10 (.mov (tm 80)),
 o2 11 (.mov (tm 88))],
 [
 o1 74 (.mov (tm 0)),
 o1 75 (.nilCheck (tm 74)),
 o1 76 (.fieldAddr 1 (tm 75)),
 o1 77 (.load none (tm 76)),
 o1 78 (.mov (tm 9)),
 o1 79 (.sliceSl 166 (tm 77) (some (tm 78)) none none),
 o1 82 (.mov (tm 0)),
 o1 83 (.nilCheck (tm 82)),
 o1 84 (.fieldAddr 2 (tm 83)),
 o1 85 (.load none (tm 84)),
 o1 86 (.mov (tm 9)),
 o1 87 (.sliceSl 3 (tm 85) (some (tm 86)) none none),
 ⟨some 73, .buildSlice 36 [] 0 [], none, [(some 87, .sliceSl 3 (tm 85) (some (tm 86)) none none, none), (some 86, .mov (tm 9), none), (some 85, .load none (tm 84), none), (some 84, .fieldAddr 2 (tm 83), none), (some 83, .nilCheck (tm 82), none), (some 82, .mov (tm 0), none), (some 79, .sliceSl 166 (tm 77) (some (tm 78)) none none, none), (some 78, .mov (tm 9), none), (some 77, .load none (tm 76), none), (some 76, .fieldAddr 1 (tm 75), none), (some 75, .nilCheck (tm 74), none), (some 74, .mov (tm 0), none)], false⟩,
 ⟨some 81, .buildSlice 47 [] 0 [], none, [(some 87, .sliceSl 3 (tm 85) (some (tm 86)) none none, none), (some 86, .mov (tm 9), none), (some 85, .load none (tm 84), none), (some 84, .fieldAddr 2 (tm 83), none), (some 83, .nilCheck (tm 82), none), (some 82, .mov (tm 0), none), (some 79, .sliceSl 166 (tm 77) (some (tm 78)) none none, none), (some 78, .mov (tm 9), none), (some 77, .load none (tm 76), none), (some 76, .fieldAddr 1 (tm 75), none), (some 75, .nilCheck (tm 74), none), (some 74, .mov (tm 0), none)], false⟩,
 ⟨some 80, .append 36 166 248 ((.string ⟨⟨[]⟩⟩) :: ((.int .i64 0) :: ((.int .i64 0) :: (z32 ++ (z32 ++ (z32 ++ (z32 ++ ((.int .i64 0) :: (z32 ++ [(.slice none 0 0), (.slice none 0 0)]))))))))) false (tm 73) (tm 79), none, [(some 87, .sliceSl 3 (tm 85) (some (tm 86)) none none, none), (some 86, .mov (tm 9), none), (some 85, .load none (tm 84), none), (some 84, .fieldAddr 2 (tm 83), none), (some 83, .nilCheck (tm 82), none), (some 82, .mov (tm 0), none)], false⟩,
 o2 88 (.append 47 3 16 [(.int .i64 0), (.bool false), (.bool false)] false (tm 81) (tm 87)),
 o2 10 (.mov (tm 80)),
 o2 11 (.mov (tm 88))],
 [
 o1 74 (.mov (tm 0)),
 o1 75 (.nilCheck (tm 74)),
 o1 76 (.fieldAddr 1 (tm 75)),
 o1 77 (.load none (tm 76)),
 o1 78 (.mov (tm 9)),
 o1 79 (.sliceSl 166 (tm 77) (some (tm 78)) none none),
 o1 82 (.mov (tm 0)),
 o1 83 (.nilCheck (tm 82)),
 o1 84 (.fieldAddr 2 (tm 83)),
 o1 85 (.load none (tm 84)),
 o1 86 (.mov (tm 9)),
 o1 87 (.sliceSl 3 (tm 85) (some (tm 86)) none none),
 ⟨some 81, .buildSlice 47 [] 0 [], none, [(some 87, .sliceSl 3 (tm 85) (some (tm 86)) none none, none), (some 86, .mov (tm 9), none), (some 85, .load none (tm 84), none), (some 84, .fieldAddr 2 (tm 83), none), (some 83, .nilCheck (tm 82), none), (some 82, .mov (tm 0), none), (some 79, .sliceSl 166 (tm 77) (some (tm 78)) none none, none), (some 78, .mov (tm 9), none), (some 77, .load none (tm 76), none), (some 76, .fieldAddr 1 (tm 75), none), (some 75, .nilCheck (tm 74), none), (some 74, .mov (tm 0), none)], false⟩,
 ⟨some 73, .buildSlice 36 [] 0 [], none, [(some 87, .sliceSl 3 (tm 85) (some (tm 86)) none none, none), (some 86, .mov (tm 9), none), (some 85, .load none (tm 84), none), (some 84, .fieldAddr 2 (tm 83), none), (some 83, .nilCheck (tm 82), none), (some 82, .mov (tm 0), none), (some 79, .sliceSl 166 (tm 77) (some (tm 78)) none none, none), (some 78, .mov (tm 9), none), (some 77, .load none (tm 76), none), (some 76, .fieldAddr 1 (tm 75), none), (some 75, .nilCheck (tm 74), none), (some 74, .mov (tm 0), none)], false⟩,
 ⟨some 80, .append 36 166 248 ((.string ⟨⟨[]⟩⟩) :: ((.int .i64 0) :: ((.int .i64 0) :: (z32 ++ (z32 ++ (z32 ++ (z32 ++ ((.int .i64 0) :: (z32 ++ [(.slice none 0 0), (.slice none 0 0)]))))))))) false (tm 73) (tm 79), none, [(some 87, .sliceSl 3 (tm 85) (some (tm 86)) none none, none), (some 86, .mov (tm 9), none), (some 85, .load none (tm 84), none), (some 84, .fieldAddr 2 (tm 83), none), (some 83, .nilCheck (tm 82), none), (some 82, .mov (tm 0), none)], false⟩,
 o2 88 (.append 47 3 16 [(.int .i64 0), (.bool false), (.bool false)] false (tm 81) (tm 87)),
 o2 10 (.mov (tm 80)),
 o2 11 (.mov (tm 88))]]) (.seq (.regionD [
 o1 89 (.mov (tm 0)),
 o1 91 (.mov (tm 0)),
 o1 92 (.nilCheck (tm 91)),
 o1 93 (.fieldAddr 1 (tm 92)),
 o1 94 (.load none (tm 93)),
 o1 95 (.mov (tm 9)),
 o1 96 (.sliceSl 166 (tm 94) none (some (tm 95)) none),
 o1 98 (.load (some 166) (tm 3)),
 o1 102 (.mov (tm 10)),
 ⟨some 90, .buildSlice 36 [] 0 [], none, [(some 102, .mov (tm 10), none), (some 98, .load (some 166) (tm 3), none), (some 96, .sliceSl 166 (tm 94) none (some (tm 95)) none, none), (some 95, .mov (tm 9), none), (some 94, .load none (tm 93), none), (some 93, .fieldAddr 1 (tm 92), none), (some 92, .nilCheck (tm 91), none), (some 91, .mov (tm 0), none), (some 89, .mov (tm 0), none)], false⟩,
 ⟨some 97, .append 36 166 248 ((.string ⟨⟨[]⟩⟩) :: ((.int .i64 0) :: ((.int .i64 0) :: (z32 ++ (z32 ++ (z32 ++ (z32 ++ ((.int .i64 0) :: (z32 ++ [(.slice none 0 0), (.slice none 0 0)]))))))))) false (tm 90) (tm 96), none, [(some 102, .mov (tm 10), none), (some 98, .load (some 166) (tm 3), none), (some 89, .mov (tm 0), none)], false⟩,
 ⟨some 99, .callV (.func 25) [(tm 98)], none, [(some 102, .mov (tm 10), none), (some 89, .mov (tm 0), none)], false⟩,
 ⟨some 100, .buildSlice 36 ((.string ⟨⟨[]⟩⟩) :: ((.int .i64 0) :: ((.int .i64 0) :: (z32 ++ (z32 ++ (z32 ++ (z32 ++ ((.int .i64 0) :: (z32 ++ [(.slice none 0 0), (.slice none 0 0)]))))))))) 1 [(0, 166, (tm 99))], none, [(some 102, .mov (tm 10), none), (some 89, .mov (tm 0), none)], false⟩,
 ⟨some 101, .append 36 166 248 ((.string ⟨⟨[]⟩⟩) :: ((.int .i64 0) :: ((.int .i64 0) :: (z32 ++ (z32 ++ (z32 ++ (z32 ++ ((.int .i64 0) :: (z32 ++ [(.slice none 0 0), (.slice none 0 0)]))))))))) false (tm 97) (tm 100), none, [(some 102, .mov (tm 10), none), (some 89, .mov (tm 0), none)], false⟩,
 ⟨some 103, .append 36 166 248 ((.string ⟨⟨[]⟩⟩) :: ((.int .i64 0) :: ((.int .i64 0) :: (z32 ++ (z32 ++ (z32 ++ (z32 ++ ((.int .i64 0) :: (z32 ++ [(.slice none 0 0), (.slice none 0 0)]))))))))) false (tm 101) (tm 102), none, [(some 89, .mov (tm 0), none)], false⟩,
 o2 104 (.nilCheck (tm 89)),
 o2 105 (.fieldAddr 1 (tm 104)),
 ⟨none, .store 1 (tm 105) (tm 103), none, [], true⟩]) (.seq (.region [
 o1 106 (.mov (tm 0)),
 o1 107 (.buildSlice 47 [] 0 []),
 o1 108 (.mov (tm 0)),
 o1 109 (.nilCheck (tm 108)),
 o1 110 (.fieldAddr 2 (tm 109)),
 o1 111 (.load none (tm 110)),
 o1 112 (.mov (tm 9)),
 o1 113 (.sliceSl 3 (tm 111) none (some (tm 112)) none),
 o1 114 (.append 47 3 16 [(.int .i64 0), (.bool false), (.bool false)] false (tm 107) (tm 113)),
 o1 115 (.mov (tm 6)),
 o1 116 (.build [(.int .i64 0), (.bool false), (.bool false)] [(0, 1, (tm 115))]),
 o1 117 (.buildSlice 47 [(.int .i64 0), (.bool false), (.bool false)] 1 [(0, 3, (tm 116))]),
 o1 118 (.append 47 3 16 [(.int .i64 0), (.bool false), (.bool false)] false (tm 114) (tm 117)),
 o1 119 (.mov (tm 11)),
 o1 120 (.append 47 3 16 [(.int .i64 0), (.bool false), (.bool false)] false (tm 118) (tm 119)),
 o1 121 (.nilCheck (tm 106)),
 o1 122 (.fieldAddr 2 (tm 121)),
 o3 (.store 1 (tm 122) (tm 120))]) (.seq (.region [
 o1 123 (.mov (tm 7)),
 o1 4 (.mov (tm 123)),
 o1 5 (.mov k0)]) .ret))))))))))
def zebQ : AFunc := ⟨124, [(4, none), (5, none)], zebQ_c, none⟩
theorem zebQ_t0 : tableOf Try.prog 26 = some zebQ := by kernel_rfl
theorem zebQ_t : T0 26 = some zebQ := withKept_t rfl (withTrue_t rfl zebQ_t0)
theorem zebQ_runs {v0 v1 : Value} {h : Heap} {R : RP} {X : XP} (k : RunC Try.prog T0 zebQ_c ⟨[v0, v1, U, U, U, U, U, U, U, U, U, U, U, U, U, U, U, U, U, U, U, U, U, U, U, U, U, U, U, U, U, U, U, U, U, U, U, U, U, U, U, U, U, U, U, U, U, U, U, U, U, U, U, U, U, U, U, U, U, U, U, U, U, U, U, U, U, U, U, U, U, U, U, U, U, U, U, U, U, U, U, U, U, U, U, U, U, U, U, U, U, U, U, U, U, U, U, U, U, U, U, U, U, U, U, U, U, U, U, U, U, U, U, U, U, U, U, U, U, U, U, U, U, U], [], h, none⟩ (bodyQ Try.prog T0 [(4, none), (5, none)] R X)) :
 Runs Try.prog T0 (.fn 26) [v0, v1] h R X := Runs.fn zebQ_t rfl k
abbrev zebQ_l0_M : List Nat := [0, 0, 0, 0, 0, 0, 0, 0, 0, 2, 0, 0, 0, 0, 0, 0, 0, 0, 0, 0, 0, 0, 0, 0, 0, 0, 0, 0, 0, 0, 0, 0, 0, 0, 0, 0, 0, 0, 0, 0, 0, 0, 0, 0, 0, 0, 0, 0, 0, 0, 0, 0, 1, 1, 1, 1, 1, 1, 1, 1, 1, 1, 1, 1, 1, 1, 1, 1, 1, 1, 1, 1, 1, 0, 0, 0, 0, 0, 0, 0, 0, 0, 0, 0, 0, 0, 0, 0, 0, 0, 0, 0, 0, 0, 0, 0, 0, 0, 0, 0, 0, 0, 0, 0, 0, 0, 0, 0, 0, 0, 0, 0, 0, 0, 0, 0, 0, 0, 0, 0, 0, 0, 0, 0]
abbrev fn_zoQ : FuncId := 27
def zoQ_c : ACode :=
 (.seq (.region [
 o1 2 (.box 36 (tm 0)),
 o1 3 (.box 36 (tm 1)),
 o1 4 (.mov (.const (.bool false)))]) (.seq (.region [
 o1 5 (.fieldAddr 0 (tm 2)),
 o1 6 (.load (some 131) (tm 5)),
 o1 7 (.fieldAddr 0 (tm 3)),
 o1 8 (.load (some 131) (tm 7)),
 o1 9 (.bin .eql (so (.binOp .eql 30 (tm 6) (tm 8) 30) 4) (tm 6) (tm 8)),
 o1 10 (.mov (tm 9)),
 o4 11 (.fieldAddr 131 (tm 2)) 10,
 o4 12 (.load (some 34) (tm 11)) 10,
 o4 13 (.fieldAddr 131 (tm 3)) 10,
 o4 14 (.load (some 34) (tm 13)) 10,
 o4 15 (.callV (.func 54) [(tm 12), (tm 14)]) 10,
 o1 16 (.pick (tm 10) (tm 15) (.const (.bool false))),
 o1 17 (.mov (tm 16)),
 o4 18 (.fieldAddr 165 (tm 2)) 17,
 o4 19 (.load none (tm 18)) 17,
 o4 20 (.fieldAddr 165 (tm 3)) 17,
 o4 21 (.load none (tm 20)) 17,
 o4 22 (.callV (.func 55) [(tm 19), (tm 21)]) 17,
 o1 23 (.pick (tm 17) (tm 22) (.const (.bool false))),
 o1 4 (.mov (tm 23))]) .ret))
def zoQ : AFunc := ⟨24, [(4, none)], zoQ_c, none⟩
theorem zoQ_t0 : tableOf Try.prog 27 = some zoQ := by kernel_rfl
theorem zoQ_t : T0 27 = some zoQ := withKept_t rfl (withTrue_t rfl zoQ_t0)
theorem zoQ_runs {v0 v1 : Value} {h : Heap} {R : RP} {X : XP} (k : RunC Try.prog T0 zoQ_c ⟨[v0, v1, U, U, U, U, U, U, U, U, U, U, U, U, U, U, U, U, U, U, U, U, U, U], [], h, none⟩ (bodyQ Try.prog T0 [(4, none)] R X)) :
 Runs Try.prog T0 (.fn 27) [v0, v1] h R X := Runs.fn zoQ_t rfl k
abbrev fn_zkQ : FuncId := 28
def zkQ_c : ACode :=
 (.seq (.region [
 o1 1 (.box 36 (tm 0))]) (.seq (.region [
 o1 2 (.fieldAddr 165 (tm 1)),
 o1 3 (.load none (tm 2)),
 o1 4 (.callV (.func 56) [(tm 3)])]) (.region [
 o1 5 (.fieldAddr 131 (tm 1)),
 o1 6 (.load (some 34) (tm 5)),
 o1 7 (.callV (.func 57) [(tm 6)])])))
def zkQ : AFunc := ⟨8, [], zkQ_c, none⟩
theorem zkQ_t0 : tableOf Try.prog 28 = some zkQ := by kernel_rfl
theorem zkQ_t : T0 28 = some zkQ := withKept_t rfl (withTrue_t rfl zkQ_t0)
theorem zkQ_runs {v0 : Value} {h : Heap} {R : RP} {X : XP} (k : RunC Try.prog T0 zkQ_c ⟨[v0, U, U, U, U, U, U, U], [], h, none⟩ (bodyQ Try.prog T0 [] R X)) :
 Runs Try.prog T0 (.fn 28) [v0] h R X := Runs.fn zkQ_t rfl k
abbrev fn_zdbQ : FuncId := 29
def zdbQ_c : ACode :=
 (.seq (.region [
 o1 6 (.mov k0)]) (.seq (.region [
 o1 8 (.mov (tm 0)),
 o1 9 (.mov (tm 1)),
 o1 10 (.callV (.func 51) [(tm 8), (tm 9)]),
 o1 7 (.mov (tm 10))]) (.seq (.seq (.region [
 o1 11 (.mov (tm 7)),
 o1 12 (.bin .lss (so (.binOp .lss 3 (tm 11) k0 3) 4) (tm 11) k0)]) (.cond (tm 12)
 (.seq (.region [
 o1 6 (.mov (.const (.int .i64 10)))]) .ret)
 .skip)) (.seq (.region [
 o1 13 (.mov (tm 0)),
 o1 14 (.nilCheck (tm 13)),
 o1 15 (.fieldAddr 2 (tm 14)),
 o1 16 (.load none (tm 15)),
 o1 17 (.mov (tm 7)),
 o1 18 (.mov (tm 2)),
 o1 19 (.indexSl 3 (tm 16) (tm 17)),
 o1 20 (.fieldAddr 2 (tm 19)),
 o3 (.store 1 (tm 20) (tm 18))]) (.seq (.region [
 o1 6 (.mov k0)]) .ret)))))
def zdbQ : AFunc := ⟨21, [(6, none)], zdbQ_c, none⟩
theorem zdbQ_t0 : tableOf Try.prog 29 = some zdbQ := by kernel_rfl
theorem zdbQ_t : T0 29 = some zdbQ := withKept_t rfl (withTrue_t rfl zdbQ_t0)
theorem zdbQ_runs {v0 v1 v2 : Value} {h : Heap} {R : RP} {X : XP} (k : RunC Try.prog T0 zdbQ_c ⟨[v0, v1, v2, U, U, U, U, U, U, U, U, U, U, U, U, U, U, U, U, U, U], [], h, none⟩ (bodyQ Try.prog T0 [(6, none)] R X)) :
 Runs Try.prog T0 (.fn 29) [v0, v1, v2] h R X := Runs.fn zdbQ_t rfl k
abbrev fn_zfbQ : FuncId := 30
def zfbQ_c : ACode :=
 (.seq (.region [
 o1 4 (.mov k0)]) (.seq (.region [
 o1 6 (.mov (tm 0)),
 o1 7 (.mov (tm 1)),
 o1 8 (.callV (.func 51) [(tm 6), (tm 7)]),
 o1 5 (.mov (tm 8))]) (.seq (.seq (.region [
 o1 9 (.mov (tm 5)),
 o1 10 (.bin .lss (so (.binOp .lss 3 (tm 9) k0 3) 4) (tm 9) k0)]) (.cond (tm 10)
 (.seq (.region [
 o1 4 (.mov (.const (.int .i64 10)))]) .ret)
 .skip)) (.seq (.region [
 o1 11 (.mov (tm 0)),
 o1 12 (.nilCheck (tm 11)),
 o1 13 (.fieldAddr 2 (tm 12)),
 o1 14 (.load none (tm 13)),
 o1 15 (.mov (tm 5)),
 o1 16 (.indexSl 3 (tm 14) (tm 15)),
 o1 17 (.fieldAddr 1 (tm 16)),
 o3 (.store 1 (tm 17) (.const (.bool true)))]) (.seq (.region [
 o1 4 (.mov k0)]) .ret)))))
def zfbQ : AFunc := ⟨18, [(4, none)], zfbQ_c, none⟩
theorem zfbQ_t0 : tableOf Try.prog 30 = some zfbQ := by kernel_rfl
theorem zfbQ_t : T0 30 = some zfbQ := withKept_t rfl (withTrue_t rfl zfbQ_t0)
theorem zfbQ_runs {v0 v1 : Value} {h : Heap} {R : RP} {X : XP} (k : RunC Try.prog T0 zfbQ_c ⟨[v0, v1, U, U, U, U, U, U, U, U, U, U, U, U, U, U, U, U], [], h, none⟩ (bodyQ Try.prog T0 [(4, none)] R X)) :
 Runs Try.prog T0 (.fn 30) [v0, v1] h R X := Runs.fn zfbQ_t rfl k
abbrev fn_zbbQ : FuncId := 31
def zbbQ_l0 : ACode :=
 (.seq (.seq (.region [
 o1 11 (.mov (tm 4)),
 o1 12 (.bin .geq (so (.binOp .geq 3 (tm 11) k0 3) 4) (tm 11) k0)]) (.cond (tm 12)
 .skip
 (.exit 0))) (.seq (.block 1 (.seq (.region [
 o1 15 (.mov (tm 0)),
 o1 16 (.nilCheck (tm 15)),
 o1 17 (.fieldAddr 2 (tm 16)),
 o1 18 (.load none (tm 17)),
 o1 19 (.mov (tm 4)),
 o1 20 (.indexSl 3 (tm 18) (tm 19)),
 o1 21 (.fieldAddr 0 (tm 20)),
 o1 22 (.load none (tm 21)),
 o1 23 (.mov (tm 1)),
 o1 24 (.bin .neq (so (.binOp .neq 3 (tm 22) (tm 23) 3) 4) (tm 22) (tm 23))]) (.cond (tm 24)
 (.region [
 o1 25 (.mov (tm 0)),
 o1 26 (.mov (tm 4)),
 o1 27 (.callV (.func 53) [(tm 25), (tm 26)])])
 .skip))) (.region [
 o1 13 (.mov (tm 4)),
 o1 14 (.bin .sub (so (.binOp .sub 3 (tm 13) (.const (.int .i64 1)) 3) 3) (tm 13) (.const (.int .i64 1))),
 o1 4 (.mov (tm 14))])))
def zbbQ_c : ACode :=
 (.seq (.region [
 o1 5 (.mov (tm 0)),
 o1 6 (.nilCheck (tm 5)),
 o1 7 (.fieldAddr 2 (tm 6)),
 o1 8 (.load none (tm 7)),
 o1 9 (.lenSl (tm 8)),
 o1 10 (.bin .sub (so (.binOp .sub 3 (tm 9) (.const (.int .i64 1)) 3) 3) (tm 9) (.const (.int .i64 1))),
 o1 4 (.mov (tm 10))]) (.block 0 (.loop zbbQ_l0)))
def zbbQ : AFunc := ⟨28, [], zbbQ_c, none⟩
theorem zbbQ_t0 : tableOf Try.prog 31 = some zbbQ := by kernel_rfl
theorem zbbQ_t : T0 31 = some zbbQ := withKept_t rfl (withTrue_t rfl zbbQ_t0)
theorem zbbQ_runs {v0 v1 : Value} {h : Heap} {R : RP} {X : XP} (k : RunC Try.prog T0 zbbQ_c ⟨[v0, v1, U, U, U, U, U, U, U, U, U, U, U, U, U, U, U, U, U, U, U, U, U, U, U, U, U, U], [], h, none⟩ (bodyQ Try.prog T0 [] R X)) :
 Runs Try.prog T0 (.fn 31) [v0, v1] h R X := Runs.fn zbbQ_t rfl k
abbrev zbbQ_l0_M : List Nat := [0, 0, 0, 0, 2, 0, 0, 0, 0, 0, 0, 1, 1, 1, 1, 1, 1, 1, 1, 1, 1, 1, 1, 1, 1, 1, 1, 1]
abbrev fn_zcbQ : FuncId := 32
def zcbQ_c : ACode :=
 (.seq (.region [
 o1 4 (.alloc 36 ((.string ⟨⟨[]⟩⟩) :: ((.int .i64 0) :: ((.int .i64 0) :: (z32 ++ (z32 ++ (z32 ++ (z32 ++ ((.int .i64 0) :: (z32 ++ [(.slice none 0 0), (.slice none 0 0)])))))))))),
 o1 5 (.mov (.const (.bool false)))]) (.seq (.region [
 o1 7 (.mov (tm 0)),
 o1 8 (.mov (tm 1)),
 o1 9 (.callV (.func 51) [(tm 7), (tm 8)]),
 o1 6 (.mov (tm 9))]) (.seq (.seq (.region [
 o1 10 (.mov (tm 6)),
 o1 11 (.bin .lss (so (.binOp .lss 3 (tm 10) k0 3) 4) (tm 10) k0)]) (.cond (tm 11)
 (.seq (.region [
 o1 12 (.build ((.string ⟨⟨[]⟩⟩) :: ((.int .i64 0) :: ((.int .i64 0) :: (z32 ++ (z32 ++ (z32 ++ (z32 ++ ((.int .i64 0) :: (z32 ++ [(.slice none 0 0), (.slice none 0 0)]))))))))) []),
 o3 (.store 166 (tm 4) (tm 12)),
 o1 5 (.mov (.const (.bool false)))]) .ret)
 .skip)) (.seq (.region [
 o1 13 (.mov (tm 0)),
 o1 14 (.nilCheck (tm 13)),
 o1 15 (.fieldAddr 1 (tm 14)),
 o1 16 (.load none (tm 15)),
 o1 17 (.mov (tm 6)),
 o1 18 (.indexSl 166 (tm 16) (tm 17)),
 o1 19 (.load (some 166) (tm 18)),
 o1 20 (.callV (.func 25) [(tm 19)]),
 o3 (.store 166 (tm 4) (tm 20)),
 o1 5 (.mov (.const (.bool true)))]) .ret))))
def zcbQ : AFunc := ⟨21, [(4, some (some 166)), (5, none)], zcbQ_c, none⟩
theorem zcbQ_t0 : tableOf Try.prog 32 = some zcbQ := by kernel_rfl
theorem zcbQ_t : T0 32 = some zcbQ := withKept_t rfl (withTrue_t rfl zcbQ_t0)
theorem zcbQ_runs {v0 v1 : Value} {h : Heap} {R : RP} {X : XP} (k : RunC Try.prog T0 zcbQ_c ⟨[v0, v1, U, U, U, U, U, U, U, U, U, U, U, U, U, U, U, U, U, U, U], [], h, none⟩ (bodyQ Try.prog T0 [(4, some (some 166)), (5, none)] R X)) :
 Runs Try.prog T0 (.fn 32) [v0, v1] h R X := Runs.fn zcbQ_t rfl k
abbrev fn_zabQ : FuncId := 33
def zabQ_l0 : ACode :=
 (.seq (.seq (.region [
 o1 13 (.mov (tm 6)),
 o1 14 (.bin .geq (so (.binOp .geq 3 (tm 13) k0 3) 4) (tm 13) k0)]) (.cond (tm 14)
 .skip
 (.exit 0))) (.seq (.block 1 (.seq (.region [
 o1 17 (.mov (tm 0)),
 o1 18 (.nilCheck (tm 17)),
 o1 19 (.fieldAddr 2 (tm 18)),
 o1 20 (.load none (tm 19)),
 o1 21 (.mov (tm 6)),
 o1 22 (.indexSl 3 (tm 20) (tm 21)),
 o1 23 (.fieldAddr 1 (tm 22)),
 o1 24 (.load none (tm 23)),
 o1 25 (.mov (tm 24)),
 o4 26 (.mov (tm 0)) 25,
 o4 27 (.nilCheck (tm 26)) 25,
 o4 28 (.fieldAddr 2 (tm 27)) 25,
 o4 29 (.load none (tm 28)) 25,
 o4 30 (.mov (tm 6)) 25,
 o4 31 (.indexSl 3 (tm 29) (tm 30)) 25,
 o4 32 (.fieldAddr 0 (tm 31)) 25,
 o4 33 (.load none (tm 32)) 25,
 o4 34 (.mov (tm 1)) 25,
 o4 35 (.bin .lss (so (.binOp .lss 3 (tm 33) (tm 34) 3) 4) (tm 33) (tm 34)) 25,
 o1 36 (.pick (tm 25) (tm 35) (.const (.bool false)))]) (.cond (tm 36)
 (.seq (.region [
 o1 37 (.mov (tm 0)),
 o1 38 (.nilCheck (tm 37)),
 o1 39 (.fieldAddr 1 (tm 38)),
 o1 40 (.load none (tm 39)),
 o1 41 (.mov (tm 6)),
 o1 42 (.indexSl 166 (tm 40) (tm 41)),
 o1 43 (.load (some 166) (tm 42)),
 o1 44 (.callV (.func 25) [(tm 43)]),
 o3 (.store 166 (tm 4) (tm 44)),
 o1 5 (.mov (.const (.bool true)))]) .ret)
 .skip))) (.region [
 o1 15 (.mov (tm 6)),
 o1 16 (.bin .sub (so (.binOp .sub 3 (tm 15) (.const (.int .i64 1)) 3) 3) (tm 15) (.const (.int .i64 1))),
 o1 6 (.mov (tm 16))])))
def zabQ_c : ACode :=
 (.seq (.region [
 o1 4 (.alloc 36 ((.string ⟨⟨[]⟩⟩) :: ((.int .i64 0) :: ((.int .i64 0) :: (z32 ++ (z32 ++ (z32 ++ (z32 ++ ((.int .i64 0) :: (z32 ++ [(.slice none 0 0), (.slice none 0 0)])))))))))),
 o1 5 (.mov (.const (.bool false)))]) (.seq (.seq (.region [
 o1 7 (.mov (tm 0)),
 o1 8 (.nilCheck (tm 7)),
 o1 9 (.fieldAddr 2 (tm 8)),
 o1 10 (.load none (tm 9)),
 o1 11 (.lenSl (tm 10)),
 o1 12 (.bin .sub (so (.binOp .sub 3 (tm 11) (.const (.int .i64 1)) 3) 3) (tm 11) (.const (.int .i64 1))),
 o1 6 (.mov (tm 12))]) (.block 0 (.loop zabQ_l0))) (.seq (.region [
 o1 45 (.build ((.string ⟨⟨[]⟩⟩) :: ((.int .i64 0) :: ((.int .i64 0) :: (z32 ++ (z32 ++ (z32 ++ (z32 ++ ((.int .i64 0) :: (z32 ++ [(.slice none 0 0), (.slice none 0 0)]))))))))) []),
 o3 (.store 166 (tm 4) (tm 45)),
 o1 5 (.mov (.const (.bool false)))]) .ret)))
def zabQ : AFunc := ⟨46, [(4, some (some 166)), (5, none)], zabQ_c, none⟩
theorem zabQ_t0 : tableOf Try.prog 33 = some zabQ := by kernel_rfl
theorem zabQ_t : T0 33 = some zabQ := withKept_t rfl (withTrue_t rfl zabQ_t0)
theorem zabQ_runs {v0 v1 : Value} {h : Heap} {R : RP} {X : XP} (k : RunC Try.prog T0 zabQ_c ⟨[v0, v1, U, U, U, U, U, U, U, U, U, U, U, U, U, U, U, U, U, U, U, U, U, U, U, U, U, U, U, U, U, U, U, U, U, U, U, U, U, U, U, U, U, U, U, U], [], h, none⟩ (bodyQ Try.prog T0 [(4, some (some 166)), (5, none)] R X)) :
 Runs Try.prog T0 (.fn 33) [v0, v1] h R X := Runs.fn zabQ_t rfl k
abbrev zabQ_l0_M : List Nat := [0, 0, 0, 0, 0, 1, 2, 0, 0, 0, 0, 0, 0, 1, 1, 1, 1, 1, 1, 1, 1, 1, 1, 1, 1, 1, 1, 1, 1, 1, 1, 1, 1, 1, 1, 1, 1, 1, 1, 1, 1, 1, 1, 1, 1, 0]
abbrev fn_zccQ : FuncId := 34
def zccQ_c : ACode :=
 (.seq (.region [
 o1 2 (.mov k0)]) (.seq (.seq (.region [
 o1 3 (.mov (tm 0)),
 o1 4 (.callV (.func 37) [(tm 3)])]) (.cond (tm 4)
 (.seq (.region [
 o1 2 (.mov k0)]) .ret)
 .skip)) (.seq (.region [
 o1 5 (.mov (tm 0)),
 o1 6 (.nilCheck (tm 5)),
 o1 7 (.fieldAddr 0 (tm 6)),
 o1 8 (.load none (tm 7)),
 o1 2 (.mov (tm 8))]) .ret)))
def zccQ : AFunc := ⟨9, [(2, none)], zccQ_c, none⟩
theorem zccQ_t0 : tableOf Try.prog 34 = some zccQ := by kernel_rfl
theorem zccQ_t : T0 34 = some zccQ := withKept_t rfl (withTrue_t rfl zccQ_t0)
theorem zccQ_runs {v0 : Value} {h : Heap} {R : RP} {X : XP} (k : RunC Try.prog T0 zccQ_c ⟨[v0, U, U, U, U, U, U, U, U], [], h, none⟩ (bodyQ Try.prog T0 [(2, none)] R X)) :
 Runs Try.prog T0 (.fn 34) [v0] h R X := Runs.fn zccQ_t rfl k
abbrev fn_zmQ : FuncId := 35
def zmQ_l0 : ACode :=
 (.seq (.seq (.region [
 o1 3 (.mov (tm 2)),
 o1 4 (.mov (tm 0)),
 o1 5 (.lenSl (tm 4)),
 o1 6 (.bin .lss (so (.binOp .lss 3 (tm 3) (tm 5) 3) 4) (tm 3) (tm 5))]) (.cond (tm 6)
 .skip
 (.exit 0))) (.seq (.block 1 (.region [
 o1 9 (.mov (tm 0)),
 o1 10 (.mov (tm 2)),
 o1 11 (.build [(.int .i64 0), (.bool false), (.bool false)] [(0, 1, (.const (.int .i64 (-77))))]),
 o1 12 (.indexSl 3 (tm 9) (tm 10)),
 o3 (.store 3 (tm 12) (tm 11))])) (.region [
 o1 7 (.mov (tm 2)),
 o1 8 (.bin .add (so (.binOp .add 3 (tm 7) (.const (.int .i64 1)) 3) 3) (tm 7) (.const (.int .i64 1))),
 o1 2 (.mov (tm 8))])))
def zmQ_c : ACode :=
 (.seq (.region [
 o1 2 (.mov k0)]) (.block 0 (.loop zmQ_l0)))
def zmQ : AFunc := ⟨13, [], zmQ_c, none⟩
theorem zmQ_t0 : tableOf Try.prog 35 = some zmQ := by kernel_rfl
theorem zmQ_t : T0 35 = some zmQ := withKept_t rfl (withTrue_t rfl zmQ_t0)
theorem zmQ_runs {v0 : Value} {h : Heap} {R : RP} {X : XP} (k : RunC Try.prog T0 zmQ_c ⟨[v0, U, U, U, U, U, U, U, U, U, U, U, U], [], h, none⟩ (bodyQ Try.prog T0 [] R X)) :
 Runs Try.prog T0 (.fn 35) [v0] h R X := Runs.fn zmQ_t rfl k
abbrev zmQ_l0_M : List Nat := [0, 0, 2, 1, 1, 1, 1, 1, 1, 1, 1, 1, 1]
abbrev fn_zjQ : FuncId := 36
def zjQ_c : ACode :=
 (.seq (.region [
 o1 1 (.box 36 (tm 0)),
 o1 2 (.mov (.const (.bool false)))]) (.seq (.region [
 o1 3 (.fieldAddr 165 (tm 1)),
 o1 4 (.load none (tm 3)),
 o1 5 (.lenSl (tm 4)),
 o1 6 (.bin .gtr (so (.binOp .gtr 3 (tm 5) (.const (.int .i64 70)) 3) 4) (tm 5) (.const (.int .i64 70))),
 o1 7 (.mov (tm 6)),
 o5 8 (.fieldAddr 131 (tm 1)) 7,
 o5 9 (.fieldAddr 33 (tm 8)) 7,
 o5 10 (.load none (tm 9)) 7,
 o5 11 (.lenSl (tm 10)) 7,
 o5 12 (.bin .gtr (so (.binOp .gtr 3 (tm 11) (.const (.int .i64 70)) 3) 4) (tm 11) (.const (.int .i64 70))) 7,
 o1 13 (.pick (tm 7) (.const (.bool true)) (tm 12)),
 o1 14 (.mov (tm 13)),
 o5 15 (.fieldAddr 0 (tm 1)) 14,
 o5 16 (.fieldAddr 0 (tm 15)) 14,
 o5 17 (.load none (tm 16)) 14,
 o5 18 (.lenStr (tm 17)) 14,
 o5 19 (.bin .gtr (so (.binOp .gtr 3 (tm 18) (.const (.int .i64 60)) 3) 4) (tm 18) (.const (.int .i64 60))) 14,
 o1 20 (.pick (tm 14) (.const (.bool true)) (tm 19)),
 o1 2 (.mov (tm 20))]) .ret))
def zjQ : AFunc := ⟨21, [(2, none)], zjQ_c, none⟩
theorem zjQ_t0 : tableOf Try.prog 36 = some zjQ := by kernel_rfl
theorem zjQ_t : T0 36 = some zjQ := withKept_t rfl (withTrue_t rfl zjQ_t0)
theorem zjQ_runs {v0 : Value} {h : Heap} {R : RP} {X : XP} (k : RunC Try.prog T0 zjQ_c ⟨[v0, U, U, U, U, U, U, U, U, U, U, U, U, U, U, U, U, U, U, U, U], [], h, none⟩ (bodyQ Try.prog T0 [(2, none)] R X)) :
 Runs Try.prog T0 (.fn 36) [v0] h R X := Runs.fn zjQ_t rfl k
abbrev fn_zgcQ : FuncId := 37
def zgcQ_c : ACode :=
 (.seq (.region [
 o1 2 (.mov (.const (.bool false)))]) (.seq (.region [
 o1 3 (.mov (tm 0)),
 o1 4 (.eq .ptr false (so (.binOp .eql 22 (tm 3) (.const (.pointer none)) 22) 4) (tm 3) (.const (.pointer none))),
 o1 5 (.mov (tm 4)),
 o5 6 (.mov (tm 0)) 5,
 o5 7 (.nilCheck (tm 6)) 5,
 o5 8 (.fieldAddr 1 (tm 7)) 5,
 o5 9 (.load none (tm 8)) 5,
 o5 10 (.eq .map false (so (.binOp .eql 73 (tm 9) (.const (.map none)) 73) 4) (tm 9) (.const (.map none))) 5,
 o1 11 (.pick (tm 5) (.const (.bool true)) (tm 10)),
 o1 2 (.mov (tm 11))]) .ret))
def zgcQ : AFunc := ⟨12, [(2, none)], zgcQ_c, none⟩
theorem zgcQ_t0 : tableOf Try.prog 37 = some zgcQ := by kernel_rfl
theorem zgcQ_t : T0 37 = some zgcQ := withKept_t rfl (withTrue_t rfl zgcQ_t0)
theorem zgcQ_runs {v0 : Value} {h : Heap} {R : RP} {X : XP} (k : RunC Try.prog T0 zgcQ_c ⟨[v0, U, U, U, U, U, U, U, U, U, U, U], [], h, none⟩ (bodyQ Try.prog T0 [(2, none)] R X)) :
 Runs Try.prog T0 (.fn 37) [v0] h R X := Runs.fn zgcQ_t rfl k
abbrev fn_zhcQ : FuncId := 38
def zhcQ_l0 : ACode :=
 (.seq (.seq (.region [
 o1 14 (.load none (tm 3)),
 o1 15 (.callV (.func 61) [(tm 14)]),
 o1 16 (.bin .gtr (so (.binOp .gtr 3 (tm 15) k0 3) 4) (tm 15) k0)]) (.cond (tm 16)
 .skip
 (.exit 0))) (.block 1 (.seq (.region [
 o1 18 (.mkIface 107 (tm 3)),
 o1 19 (.callV (.func 62) [(tm 18)]),
 o1 20 (.assertTo 3 (.int .i64 0) true (tm 19)),
 o1 17 (.mov (tm 20)),
 o1 21 (.extract 0 (tm 17)),
 o1 22 (.extract 1 (tm 17)),
 o1 4 (.mov (tm 21)),
 o1 5 (.mov (tm 22))]) (.seq (.region [
 o1 23 (.mov (tm 5))]) (.cond (tm 23)
 (.region [
 o1 24 (.mov (tm 2)),
 o1 25 (.mov (tm 4)),
 o1 26 (.buildSlice 3 [(.int .i64 0)] 1 [(0, 1, (tm 25))]),
 o1 27 (.append 3 1 8 [(.int .i64 0)] false (tm 24) (tm 26)),
 o1 2 (.mov (tm 27))])
 .skip)))))
def zhcQ_c : ACode :=
 (.seq (.region [
 o1 2 (.mov (.const (.slice none 0 0)))]) (.seq (.region [
 o1 6 (.mov (tm 0)),
 o1 7 (.nilCheck (tm 6)),
 o1 8 (.fieldAddr 1 (tm 7)),
 o1 9 (.load none (tm 8)),
 o1 10 (.callV (.func 59) [(tm 9)]),
 o1 11 (.callV (.func 58) [(tm 10)]),
 o1 3 (.alloc 101 [(.slice none 0 0)]),
 o3 (.store 1 (tm 3) (tm 11))]) (.seq (.region [
 o1 12 (.mkIface 107 (tm 3)),
 o1 13 (.callV (.func 60) [(tm 12)])]) (.seq (.block 0 (.loop zhcQ_l0)) (.seq (.region [
 o1 28 (.mov (tm 2)),
 o1 2 (.mov (tm 28))]) .ret)))))
def zhcQ : AFunc := ⟨29, [(2, none)], zhcQ_c, none⟩
theorem zhcQ_t0 : tableOf Try.prog 38 = some zhcQ := by kernel_rfl
theorem zhcQ_t : T0 38 = some zhcQ := withKept_t rfl (withTrue_t rfl zhcQ_t0)
theorem zhcQ_runs {v0 : Value} {h : Heap} {R : RP} {X : XP} (k : RunC Try.prog T0 zhcQ_c ⟨[v0, U, U, U, U, U, U, U, U, U, U, U, U, U, U, U, U, U, U, U, U, U, U, U, U, U, U, U, U], [], h, none⟩ (bodyQ Try.prog T0 [(2, none)] R X)) :
 Runs Try.prog T0 (.fn 38) [v0] h R X := Runs.fn zhcQ_t rfl k
abbrev zhcQ_l0_M : List Nat := [0, 0, 2, 0, 1, 1, 0, 0, 0, 0, 0, 0, 0, 0, 1, 1, 1, 1, 1, 1, 1, 1, 1, 1, 1, 1, 1, 1, 0]
abbrev fn_zpcQ : FuncId := 39
def zpcQ_c : ACode :=
 (.seq (.region [
 o1 1 (.box 36 (tm 0)),
 o1 2 (.alloc 36 ((.string ⟨⟨[]⟩⟩) :: ((.int .i64 0) :: ((.int .i64 0) :: (z32 ++ (z32 ++ (z32 ++ (z32 ++ ((.int .i64 0) :: (z32 ++ [(.slice none 0 0), (.slice none 0 0)]))))))))))]) (.seq (.regionD [
 o1 3 (.fieldAddr 165 (tm 1)),
 o1 4 (.load none (tm 3)),
 o1 6 (.fieldAddr 131 (tm 1)),
 o1 7 (.fieldAddr 33 (tm 6)),
 o1 8 (.load none (tm 7)),
 ⟨some 5, .callV (.func 63) [(tm 4)], none, [(some 8, .load none (tm 7), none), (some 7, .fieldAddr 33 (tm 6), none), (some 6, .fieldAddr 131 (tm 1), none)], false⟩,
 o1 10 (.fieldAddr 165 (tm 1)),
 ⟨some 9, .callV (.func 64) [(tm 8)], none, [(some 10, .fieldAddr 165 (tm 1), none)], false⟩,
 ⟨none, .store 1 (tm 10) (tm 5), none, [], true⟩,
 o2 11 (.fieldAddr 131 (tm 1)),
 o2 12 (.fieldAddr 33 (tm 11)),
 ⟨none, .store 1 (tm 12) (tm 9), none, [], true⟩]) (.seq (.region [
 o1 13 (.load (some 166) (tm 1)),
 o3 (.store 166 (tm 2) (tm 13))]) .ret)))
def zpcQ : AFunc := ⟨14, [(2, some (some 166))], zpcQ_c, none⟩
theorem zpcQ_t0 : tableOf Try.prog 39 = some zpcQ := by kernel_rfl
theorem zpcQ_t : T0 39 = some zpcQ := withKept_t rfl (withTrue_t rfl zpcQ_t0)
theorem zpcQ_runs {v0 : Value} {h : Heap} {R : RP} {X : XP} (k : RunC Try.prog T0 zpcQ_c ⟨[v0, U, U, U, U, U, U, U, U, U, U, U, U, U], [], h, none⟩ (bodyQ Try.prog T0 [(2, some (some 166))] R X)) :
 Runs Try.prog T0 (.fn 39) [v0] h R X := Runs.fn zpcQ_t rfl k
abbrev fn_zicQ : FuncId := 41
def zicQ_c : ACode :=
 (.seq (.region [
 o1 6 (.mov k0)]) (.seq (.seq (.region [
 o1 9 (.mov (tm 0)),
 o1 10 (.callV (.func 37) [(tm 9)])]) (.cond (tm 10)
 (.seq (.region [
 o1 6 (.mov (.const (.int .i64 1)))]) .ret)
 .skip)) (.seq (.region [
 o1 12 (.mov (tm 0)),
 o1 13 (.nilCheck (tm 12)),
 o1 14 (.fieldAddr 1 (tm 13)),
 o1 15 (.load none (tm 14)),
 o1 16 (.mov (tm 1)),
 o1 17 (.lookup (.int .i64) (.pointer none) true (tm 15) (tm 16)),
 o1 11 (.mov (tm 17)),
 o1 18 (.extract 0 (tm 11)),
 o1 19 (.extract 1 (tm 11)),
 o1 7 (.mov (tm 18)),
 o1 8 (.mov (tm 19))]) (.seq (.seq (.region [
 o1 20 (.mov (tm 8)),
 o1 21 (.raw (so (.unOp .not 4 (tm 20)) 4))]) (.cond (tm 21)
 (.seq (.region [
 o1 6 (.mov (.const (.int .i64 10)))]) .ret)
 .skip)) (.seq (.region [
 o1 22 (.mov (tm 2)),
 o1 23 (.mov (tm 7)),
 o1 24 (.callV (tm 22) [(tm 23)])]) (.seq (.region [
 o1 6 (.mov k0)]) .ret))))))
def zicQ : AFunc := ⟨25, [(6, none)], zicQ_c, none⟩
theorem zicQ_t0 : tableOf Try.prog 41 = some zicQ := by kernel_rfl
theorem zicQ_t : T0 41 = some zicQ := withKept_t rfl (withTrue_t rfl zicQ_t0)
theorem zicQ_runs {v0 v1 v2 : Value} {h : Heap} {R : RP} {X : XP} (k : RunC Try.prog T0 zicQ_c ⟨[v0, v1, v2, U, U, U, U, U, U, U, U, U, U, U, U, U, U, U, U, U, U, U, U, U, U], [], h, none⟩ (bodyQ Try.prog T0 [(6, none)] R X)) :
 Runs Try.prog T0 (.fn 41) [v0, v1, v2] h R X := Runs.fn zicQ_t rfl k
abbrev fn_zacQ : FuncId := 42
def zacQ_c : ACode :=
 (.region [
 o1 3 (.mov (tm 0)),
 o1 4 (.load none (tm 1)),
 o1 5 (.nilCheck (tm 3)),
 o1 6 (.fieldAddr 167 (tm 5)),
 o3 (.store 1 (tm 6) (tm 4))])
def zacQ : AFunc := ⟨7, [], zacQ_c, none⟩
theorem zacQ_t0 : tableOf Try.prog 42 = some zacQ := by kernel_rfl
theorem zacQ_t : T0 42 = some zacQ := withKept_t rfl (withTrue_t rfl zacQ_t0)
theorem zacQ_runs {v0 v1 : Value} {h : Heap} {R : RP} {X : XP} (k : RunC Try.prog T0 zacQ_c ⟨[v0, v1, U, U, U, U, U], [], h, none⟩ (bodyQ Try.prog T0 [] R X)) :
 Runs Try.prog T0 (.fn 42) [v0, v1] h R X := Runs.fn zacQ_t rfl k
abbrev fn_zjbQ : FuncId := 43
def zjbQ_l0 : ACode :=
 (.seq (.region [
 o1 8 (.nextMap (tm 7)),
 o1 9 (.extract 0 (tm 8))]) (.seq (.cond (tm 9)
 .skip
 (.exit 0)) (.block 1 (.seq (.region [
 o1 10 (.entryMap (tm 7)),
 o1 11 (.extract 0 (tm 10)),
 o1 12 (.extract 1 (tm 10)),
 o1 4 (.mov (tm 11)),
 o1 5 (.mov (tm 12))]) (.seq (.region [
 o1 13 (.mov (tm 1)),
 o1 14 (.mov (tm 4)),
 o1 15 (.mov (tm 5)),
 o1 16 (.callV (tm 13) [(tm 14), (tm 15)])]) (.cond (tm 16)
 (.region [
 o1 17 (.mov (tm 0)),
 o1 18 (.mov (tm 4)),
 o3 (.delete (.int .i64) (tm 17) (tm 18))])
 .skip))))))
def zjbQ_c : ACode :=
 (.seq (.region [
 o1 6 (.mov (tm 0)),
 o1 7 (.rangeMap (tm 6))]) (.block 0 (.loop zjbQ_l0)))
def zjbQ : AFunc := ⟨19, [], zjbQ_c, none⟩
theorem zjbQ_t0 : tableOf Try.prog 43 = some zjbQ := by kernel_rfl
theorem zjbQ_t : T0 43 = some zjbQ := withKept_t rfl (withTrue_t rfl zjbQ_t0)
theorem zjbQ_runs {v0 v1 : Value} {h : Heap} {R : RP} {X : XP} (k : RunC Try.prog T0 zjbQ_c ⟨[v0, v1, U, U, U, U, U, U, U, U, U, U, U, U, U, U, U, U, U], [], h, none⟩ (bodyQ Try.prog T0 [] R X)) :
 Runs Try.prog T0 (.fn 43) [v0, v1] h R X := Runs.fn zjbQ_t rfl k
abbrev zjbQ_l0_M : List Nat := [0, 0, 0, 0, 1, 1, 0, 0, 1, 1, 1, 1, 1, 1, 1, 1, 1, 1, 1]
abbrev fn_zwbQ : FuncId := 44
def zwbQ_c : ACode :=
 (.seq (.region [
 o1 5 (.mov (.const (.bool false)))]) (.seq (.region [
 o1 6 (.mov (tm 0)),
 o1 7 (.load none (tm 2)),
 o1 8 (.bin .neq (so (.binOp .neq 3 (tm 6) (tm 7) 3) 4) (tm 6) (tm 7)),
 o1 5 (.mov (tm 8))]) .ret))
def zwbQ : AFunc := ⟨9, [(5, none)], zwbQ_c, none⟩
theorem zwbQ_t0 : tableOf Try.prog 44 = some zwbQ := by kernel_rfl
theorem zwbQ_t : T0 44 = some zwbQ := withKept_t rfl (withTrue_t rfl zwbQ_t0)
theorem zwbQ_runs {v0 v1 v2 : Value} {h : Heap} {R : RP} {X : XP} (k : RunC Try.prog T0 zwbQ_c ⟨[v0, v1, v2, U, U, U, U, U, U], [], h, none⟩ (bodyQ Try.prog T0 [(5, none)] R X)) :
 Runs Try.prog T0 (.fn 44) [v0, v1, v2] h R X := Runs.fn zwbQ_t rfl k
abbrev fn_zecQ : FuncId := 45
def zecQ_c : ACode :=
 (.region [
 o1 2 (.mov (tm 0)),
 o1 3 (.nilCheck (tm 2)),
 o1 4 (.fieldAddr 166 (tm 3)),
 o3 (.store 1 (tm 4) (.const (.bool true)))])
def zecQ : AFunc := ⟨5, [], zecQ_c, none⟩
theorem zecQ_t0 : tableOf Try.prog 45 = some zecQ := by kernel_rfl
theorem zecQ_t : T0 45 = some zecQ := withKept_t rfl (withTrue_t rfl zecQ_t0)
theorem zecQ_runs {v0 : Value} {h : Heap} {R : RP} {X : XP} (k : RunC Try.prog T0 zecQ_c ⟨[v0, U, U, U, U], [], h, none⟩ (bodyQ Try.prog T0 [] R X)) :
 Runs Try.prog T0 (.fn 45) [v0] h R X := Runs.fn zecQ_t rfl k
abbrev fn_zfcQ : FuncId := 46
def zfcQ_ra0 : Code := (rangeParts (subCode ((Try.prog.funcs[46]?).bind (·.body)) [true, false, true, false])).1
def zfcQ_rb0 : Code := (rangeParts (subCode ((Try.prog.funcs[46]?).bind (·.body)) [true, false, true, false])).2
def zfcQ_a0 : ACode :=
 (.region [
 o1 3 (.mov (tm 9))])
def zfcQ_b0 : ACode :=
 (.block 1 (.seq (.region [
 o1 10 (.mov (tm 3)),
 o1 11 (.nilCheck (tm 10)),
 o1 12 (.fieldAddr 167 (tm 11)),
 o1 13 (.load none (tm 12)),
 o1 14 (.raw (so (.unOp .not 4 (tm 13)) 4))]) (.cond (tm 14)
 (.region [
 o1 15 (.load none (tm 2)),
 o1 16 (.mov (tm 3)),
 o1 17 (.buildSlice 80 [(.pointer none)] 1 [(0, 1, (tm 16))]),
 o1 18 (.append 80 1 8 [(.pointer none)] false (tm 15) (tm 17)),
 o3 (.store 1 (tm 2) (tm 18))])
 .skip)))
theorem zfcQ_ca0 : comp Try.prog zfcQ_ra0 = some zfcQ_a0 := by kernel_rfl
theorem zfcQ_cb0 : comp Try.prog zfcQ_rb0 = some zfcQ_b0 := by kernel_rfl
theorem zfcQ_na0 : noDefer zfcQ_ra0 = true := by kernel_rfl
theorem zfcQ_nb0 : noDefer zfcQ_rb0 = true := by kernel_rfl
def zfcQ_c : ACode :=
 (.seq (.region [
 o1 2 (.alloc 89 [(.slice none 0 0)])]) (.seq (.seq (.region [
 o1 4 (.mov (tm 0)),
 o1 5 (.nilCheck (tm 4)),
 o1 6 (.fieldAddr 1 (tm 5)),
 o1 7 (.load none (tm 6)),
 o1 8 (.callV (.func 65) [(tm 7)])]) (.block 0 (.rangeFunc (tm 8) [9] zfcQ_ra0 zfcQ_rb0))) (.seq (.region [
 o1 19 (.load none (tm 2)),
 o3 (.store 1 (tm 2) (tm 19))]) .ret)))
def zfcQ : AFunc := ⟨20, [(2, some none)], zfcQ_c, none⟩
theorem zfcQ_t0 : tableOf Try.prog 46 = some zfcQ := by kernel_rfl
theorem zfcQ_t : T0 46 = some zfcQ := withKept_t rfl (withTrue_t rfl zfcQ_t0)
theorem zfcQ_runs {v0 : Value} {h : Heap} {R : RP} {X : XP} (k : RunC Try.prog T0 zfcQ_c ⟨[v0, U, U, U, U, U, U, U, U, U, U, U, U, U, U, U, U, U, U, U], [], h, none⟩ (bodyQ Try.prog T0 [(2, some none)] R X)) :
 Runs Try.prog T0 (.fn 46) [v0] h R X := Runs.fn zfcQ_t rfl k
abbrev fn_zsbQ : FuncId := 47
def zsbQ_l0 : ACode :=
 (.seq (.seq (.region [
 o1 14 (.mov (tm 6)),
 o1 15 (.mov (tm 0)),
 o1 16 (.lenSl (tm 15)),
 o1 17 (.bin .lss (so (.binOp .lss 3 (tm 14) (tm 16) 3) 4) (tm 14) (tm 16))]) (.cond (tm 17)
 .skip
 (.exit 0))) (.seq (.block 1 (.seq (.region [
 o1 20 (.mov (tm 1)),
 o1 21 (.mov (tm 0)),
 o1 22 (.mov (tm 6)),
 o1 23 (.indexSl 1 (tm 21) (tm 22)),
 o1 24 (.load none (tm 23)),
 o1 25 (.mov (tm 5)),
 o1 26 (.callV (tm 20) [(tm 24), (tm 25)]),
 o1 27 (.bin .lss (so (.binOp .lss 3 (tm 26) k0 3) 4) (tm 26) k0)]) (.cond (tm 27)
 (.region [
 o1 28 (.mov (tm 0)),
 o1 29 (.mov (tm 6)),
 o1 30 (.indexSl 1 (tm 28) (tm 29)),
 o1 31 (.load none (tm 30)),
 o1 5 (.mov (tm 31))])
 .skip))) (.region [
 o1 18 (.mov (tm 6)),
 o1 19 (.bin .add (so (.binOp .add 3 (tm 18) (.const (.int .i64 1)) 3) 3) (tm 18) (.const (.int .i64 1))),
 o1 6 (.mov (tm 19))])))
def zsbQ_c : ACode :=
 (.seq (.region [
 o1 4 (.mov (.const (.pointer none)))]) (.seq (.seq (.region [
 o1 7 (.mov (tm 0)),
 o1 8 (.lenSl (tm 7)),
 o1 9 (.bin .lss (so (.binOp .lss 3 (tm 8) (.const (.int .i64 1)) 3) 4) (tm 8) (.const (.int .i64 1)))]) (.cond (tm 9)
 (.region [
 o1 10 (.mkIface 9 (.const (.string ⟨⟨[115, 108, 105, 99, 101, 115, 46, 77, 105, 110, 70, 117, 110, 99, 58, 32, 101, 109, 112, 116, 121, 32, 108, 105, 115, 116]⟩⟩))),
 o3 (.panic (tm 10))])
 .skip)) (.seq (.region [
 o1 11 (.mov (tm 0)),
 o1 12 (.indexSl 1 (tm 11) k0),
 o1 13 (.load none (tm 12)),
 o1 5 (.mov (tm 13))]) (.seq (.seq (.region [
 o1 6 (.mov (.const (.int .i64 1)))]) (.block 0 (.loop zsbQ_l0))) (.seq (.region [
 o1 32 (.mov (tm 5)),
 o1 4 (.mov (tm 32))]) .ret)))))
def zsbQ : AFunc := ⟨33, [(4, none)], zsbQ_c, none⟩
theorem zsbQ_t0 : tableOf Try.prog 47 = some zsbQ := by kernel_rfl
theorem zsbQ_t : T0 47 = some zsbQ := withKept_t rfl (withTrue_t rfl zsbQ_t0)
theorem zsbQ_runs {v0 v1 : Value} {h : Heap} {R : RP} {X : XP} (k : RunC Try.prog T0 zsbQ_c ⟨[v0, v1, U, U, U, U, U, U, U, U, U, U, U, U, U, U, U, U, U, U, U, U, U, U, U, U, U, U, U, U, U, U, U], [], h, none⟩ (bodyQ Try.prog T0 [(4, none)] R X)) :
 Runs Try.prog T0 (.fn 47) [v0, v1] h R X := Runs.fn zsbQ_t rfl k
abbrev zsbQ_l0_M : List Nat := [0, 0, 0, 0, 0, 2, 2, 0, 0, 0, 0, 0, 0, 0, 1, 1, 1, 1, 1, 1, 1, 1, 1, 1, 1, 1, 1, 1, 1, 1, 1, 1, 0]
abbrev fn_zncQ : FuncId := 48
def zncQ_c : ACode :=
 (.seq (.region [
 o1 4 (.mov k0)]) (.seq (.region [
 o1 5 (.mov (.func 66))]) (.seq (.regionD [
 o1 6 (.mov (tm 5)),
 o1 7 (.mov (tm 0)),
 o1 9 (.mov (tm 5)),
 o1 10 (.mov (tm 1)),
 o1 13 (.mov (tm 0)),
 o1 14 (.nilCheck (tm 13)),
 o1 15 (.fieldAddr 0 (tm 14)),
 o1 16 (.fieldAddr 0 (tm 15)),
 o1 17 (.fieldAddr 1 (tm 16)),
 o1 18 (.load none (tm 17)),
 o1 19 (.mov (tm 1)),
 o1 20 (.nilCheck (tm 19)),
 o1 21 (.fieldAddr 0 (tm 20)),
 o1 22 (.fieldAddr 0 (tm 21)),
 o1 23 (.fieldAddr 1 (tm 22)),
 o1 24 (.load none (tm 23)),
 ⟨some 8, .callV (tm 6) [(tm 7)], none, [(some 24, .load none (tm 23), none), (some 23, .fieldAddr 1 (tm 22), none), (some 22, .fieldAddr 0 (tm 21), none), (some 21, .fieldAddr 0 (tm 20), none), (some 20, .nilCheck (tm 19), none), (some 19, .mov (tm 1), none), (some 18, .load none (tm 17), none), (some 17, .fieldAddr 1 (tm 16), none), (some 16, .fieldAddr 0 (tm 15), none), (some 15, .fieldAddr 0 (tm 14), none), (some 14, .nilCheck (tm 13), none), (some 13, .mov (tm 0), none), (some 10, .mov (tm 1), none), (some 9, .mov (tm 5), none)], false⟩,
 ⟨some 11, .callV (tm 9) [(tm 10)], none, [(some 24, .load none (tm 23), none), (some 23, .fieldAddr 1 (tm 22), none), (some 22, .fieldAddr 0 (tm 21), none), (some 21, .fieldAddr 0 (tm 20), none), (some 20, .nilCheck (tm 19), none), (some 19, .mov (tm 1), none), (some 18, .load none (tm 17), none), (some 17, .fieldAddr 1 (tm 16), none), (some 16, .fieldAddr 0 (tm 15), none), (some 15, .fieldAddr 0 (tm 14), none), (some 14, .nilCheck (tm 13), none), (some 13, .mov (tm 0), none)], false⟩,
 ⟨some 12, .callV (.func 68) [(tm 8), (tm 11)], none, [(some 24, .load none (tm 23), none), (some 23, .fieldAddr 1 (tm 22), none), (some 22, .fieldAddr 0 (tm 21), none), (some 21, .fieldAddr 0 (tm 20), none), (some 20, .nilCheck (tm 19), none), (some 19, .mov (tm 1), none), (some 18, .load none (tm 17), none), (some 17, .fieldAddr 1 (tm 16), none), (some 16, .fieldAddr 0 (tm 15), none), (some 15, .fieldAddr 0 (tm 14), none), (some 14, .nilCheck (tm 13), none), (some 13, .mov (tm 0), none)], false⟩,
 o2 25 (.callV (.func 68) [(tm 18), (tm 24)]),
 o2 26 (.buildSlice 3 [(.int .i64 0), (.int .i64 0)] 2 [(0, 1, (tm 12)), (1, 1, (tm 25))]),
 o2 27 (.callV (.func 67) [(tm 26)]),
 o2 4 (.mov (tm 27))]) .ret)))
def zncQ : AFunc := ⟨28, [(4, none)], zncQ_c, none⟩
theorem zncQ_t0 : tableOf Try.prog 48 = some zncQ := by kernel_rfl
theorem zncQ_t : T0 48 = some zncQ := withKept_t rfl (withTrue_t rfl zncQ_t0)
theorem zncQ_runs {v0 v1 : Value} {h : Heap} {R : RP} {X : XP} (k : RunC Try.prog T0 zncQ_c ⟨[v0, v1, U, U, U, U, U, U, U, U, U, U, U, U, U, U, U, U, U, U, U, U, U, U, U, U, U, U], [], h, none⟩ (bodyQ Try.prog T0 [(4, none)] R X)) :
 Runs Try.prog T0 (.fn 48) [v0, v1] h R X := Runs.fn zncQ_t rfl k
abbrev fn_zhQ : FuncId := 49
def zhQ_c : ACode :=
 (.seq (.region [
 o1 1 (.box 33 (tm 0)),
 o1 2 (.alloc 33 ((.int .i64 0) :: (z32 ++ [(.slice none 0 0)])))]) (.seq (.region [
 o1 3 (.buildSlice 117 [] 0 []),
 o1 4 (.fieldAddr 33 (tm 1)),
 o1 5 (.load none (tm 4)),
 o1 6 (.append 117 2 16 [(.int .i64 0), (.int .u64 0)] false (tm 3) (tm 5)),
 o1 7 (.fieldAddr 33 (tm 1)),
 o3 (.store 1 (tm 7) (tm 6))]) (.seq (.region [
 o1 8 (.load (some 34) (tm 1)),
 o3 (.store 34 (tm 2) (tm 8))]) .ret)))
def zhQ : AFunc := ⟨9, [(2, some (some 34))], zhQ_c, none⟩
theorem zhQ_t0 : tableOf Try.prog 49 = some zhQ := by kernel_rfl
theorem zhQ_t : T0 49 = some zhQ := withKept_t rfl (withTrue_t rfl zhQ_t0)
theorem zhQ_runs {v0 : Value} {h : Heap} {R : RP} {X : XP} (k : RunC Try.prog T0 zhQ_c ⟨[v0, U, U, U, U, U, U, U, U], [], h, none⟩ (bodyQ Try.prog T0 [(2, some (some 34))] R X)) :
 Runs Try.prog T0 (.fn 49) [v0] h R X := Runs.fn zhQ_t rfl k
abbrev fn_ziQ : FuncId := 50
def ziQ_c : ACode :=
 (.seq (.region [
 o1 2 (.mov (.const (.slice none 0 0)))]) (.seq (.region [
 o1 3 (.buildSlice 113 [] 0 []),
 o1 4 (.mov (tm 0)),
 o1 5 (.append 113 5 16 [(.int .u8 0), (.int .u8 0), (.int .u8 0), (.int .u8 0), (.int .i64 0)] false (tm 3) (tm 4)),
 o1 2 (.mov (tm 5))]) .ret))
def ziQ : AFunc := ⟨6, [(2, none)], ziQ_c, none⟩
theorem ziQ_t0 : tableOf Try.prog 50 = some ziQ := by kernel_rfl
theorem ziQ_t : T0 50 = some ziQ := withKept_t rfl (withTrue_t rfl ziQ_t0)
theorem ziQ_runs {v0 : Value} {h : Heap} {R : RP} {X : XP} (k : RunC Try.prog T0 ziQ_c ⟨[v0, U, U, U, U, U], [], h, none⟩ (bodyQ Try.prog T0 [(2, none)] R X)) :
 Runs Try.prog T0 (.fn 50) [v0] h R X := Runs.fn ziQ_t rfl k
abbrev fn_zgbQ : FuncId := 51
def zgbQ_l0 : ACode :=
 (.seq (.seq (.region [
 o1 6 (.mov (tm 5)),
 o1 7 (.mov (tm 0)),
 o1 8 (.nilCheck (tm 7)),
 o1 9 (.fieldAddr 2 (tm 8)),
 o1 10 (.load none (tm 9)),
 o1 11 (.lenSl (tm 10)),
 o1 12 (.bin .lss (so (.binOp .lss 3 (tm 6) (tm 11) 3) 4) (tm 6) (tm 11))]) (.cond (tm 12)
 .skip
 (.exit 0))) (.seq (.block 1 (.seq (.region [
 o1 15 (.mov (tm 0)),
 o1 16 (.nilCheck (tm 15)),
 o1 17 (.fieldAddr 2 (tm 16)),
 o1 18 (.load none (tm 17)),
 o1 19 (.mov (tm 5)),
 o1 20 (.indexSl 3 (tm 18) (tm 19)),
 o1 21 (.fieldAddr 0 (tm 20)),
 o1 22 (.load none (tm 21)),
 o1 23 (.mov (tm 1)),
 o1 24 (.bin .eql (so (.binOp .eql 3 (tm 22) (tm 23) 3) 4) (tm 22) (tm 23))]) (.cond (tm 24)
 (.seq (.region [
 o1 25 (.mov (tm 5)),
 o1 4 (.mov (tm 25))]) .ret)
 .skip))) (.region [
 o1 13 (.mov (tm 5)),
 o1 14 (.bin .add (so (.binOp .add 3 (tm 13) (.const (.int .i64 1)) 3) 3) (tm 13) (.const (.int .i64 1))),
 o1 5 (.mov (tm 14))])))
def zgbQ_c : ACode :=
 (.seq (.region [
 o1 4 (.mov k0)]) (.seq (.seq (.region [
 o1 5 (.mov k0)]) (.block 0 (.loop zgbQ_l0))) (.seq (.region [
 o1 4 (.mov (.const (.int .i64 (-1))))]) .ret)))
def zgbQ : AFunc := ⟨26, [(4, none)], zgbQ_c, none⟩
theorem zgbQ_t0 : tableOf Try.prog 51 = some zgbQ := by kernel_rfl
theorem zgbQ_t : T0 51 = some zgbQ := withKept_t rfl (withTrue_t rfl zgbQ_t0)
theorem zgbQ_runs {v0 v1 : Value} {h : Heap} {R : RP} {X : XP} (k : RunC Try.prog T0 zgbQ_c ⟨[v0, v1, U, U, U, U, U, U, U, U, U, U, U, U, U, U, U, U, U, U, U, U, U, U, U, U], [], h, none⟩ (bodyQ Try.prog T0 [(4, none)] R X)) :
 Runs Try.prog T0 (.fn 51) [v0, v1] h R X := Runs.fn zgbQ_t rfl k
abbrev zgbQ_l0_M : List Nat := [0, 0, 0, 0, 1, 2, 1, 1, 1, 1, 1, 1, 1, 1, 1, 1, 1, 1, 1, 1, 1, 1, 1, 1, 1, 1]
abbrev fn_zibQ : FuncId := 52
def zibQ_l0 : ACode :=
 (.seq (.seq (.region [
 o1 5 (.mov (tm 4)),
 o1 6 (.mov (tm 0)),
 o1 7 (.nilCheck (tm 6)),
 o1 8 (.fieldAddr 2 (tm 7)),
 o1 9 (.load none (tm 8)),
 o1 10 (.lenSl (tm 9)),
 o1 11 (.bin .lss (so (.binOp .lss 3 (tm 5) (tm 10) 3) 4) (tm 5) (tm 10))]) (.cond (tm 11)
 .skip
 (.exit 0))) (.seq (.block 1 (.seq (.region [
 o1 14 (.mov (tm 0)),
 o1 15 (.nilCheck (tm 14)),
 o1 16 (.fieldAddr 2 (tm 15)),
 o1 17 (.load none (tm 16)),
 o1 18 (.mov (tm 4)),
 o1 19 (.indexSl 3 (tm 17) (tm 18)),
 o1 20 (.fieldAddr 2 (tm 19)),
 o1 21 (.load none (tm 20)),
 o1 22 (.raw (so (.unOp .not 4 (tm 21)) 4)),
 o1 23 (.mov (tm 22)),
 o4 24 (.mov (tm 3)) 23,
 o4 25 (.bin .lss (so (.binOp .lss 3 (tm 24) k0 3) 4) (tm 24) k0) 23,
 o4 26 (.mov (tm 25)) 23,
 o5 27 (.mov (tm 0)) 26,
 o5 28 (.nilCheck (tm 27)) 26,
 o5 29 (.fieldAddr 2 (tm 28)) 26,
 o5 30 (.load none (tm 29)) 26,
 o5 31 (.mov (tm 3)) 26,
 o5 32 (.indexSl 3 (tm 30) (tm 31)) 26,
 o5 33 (.fieldAddr 1 (tm 32)) 26,
 o5 34 (.load none (tm 33)) 26,
 o5 35 (.mov (tm 34)) 26,
 o4 36 (.mov (tm 0)) 35,
 o4 37 (.nilCheck (tm 36)) 35,
 o4 38 (.fieldAddr 2 (tm 37)) 35,
 o4 39 (.load none (tm 38)) 35,
 o4 40 (.mov (tm 4)) 35,
 o4 41 (.indexSl 3 (tm 39) (tm 40)) 35,
 o4 42 (.fieldAddr 1 (tm 41)) 35,
 o4 43 (.load none (tm 42)) 35,
 o4 44 (.raw (so (.unOp .not 4 (tm 43)) 4)) 35,
 o5 45 (.pick (tm 35) (tm 44) (.const (.bool false))) 26,
 o4 46 (.pick (tm 26) (.const (.bool true)) (tm 45)) 23,
 o1 47 (.pick (tm 23) (tm 46) (.const (.bool false)))]) (.cond (tm 47)
 (.region [
 o1 48 (.mov (tm 4)),
 o1 3 (.mov (tm 48))])
 .skip))) (.region [
 o1 12 (.mov (tm 4)),
 o1 13 (.bin .add (so (.binOp .add 3 (tm 12) (.const (.int .i64 1)) 3) 3) (tm 12) (.const (.int .i64 1))),
 o1 4 (.mov (tm 13))])))
def zibQ_c : ACode :=
 (.seq (.region [
 o1 2 (.mov k0)]) (.seq (.region [
 o1 3 (.mov (.const (.int .i64 (-1))))]) (.seq (.seq (.region [
 o1 4 (.mov k0)]) (.block 0 (.loop zibQ_l0))) (.seq (.region [
 o1 49 (.mov (tm 3)),
 o1 2 (.mov (tm 49))]) .ret))))
def zibQ : AFunc := ⟨50, [(2, none)], zibQ_c, none⟩
theorem zibQ_t0 : tableOf Try.prog 52 = some zibQ := by kernel_rfl
theorem zibQ_t : T0 52 = some zibQ := withKept_t rfl (withTrue_t rfl zibQ_t0)
theorem zibQ_runs {v0 : Value} {h : Heap} {R : RP} {X : XP} (k : RunC Try.prog T0 zibQ_c ⟨[v0, U, U, U, U, U, U, U, U, U, U, U, U, U, U, U, U, U, U, U, U, U, U, U, U, U, U, U, U, U, U, U, U, U, U, U, U, U, U, U, U, U, U, U, U, U, U, U, U, U], [], h, none⟩ (bodyQ Try.prog T0 [(2, none)] R X)) :
 Runs Try.prog T0 (.fn 52) [v0] h R X := Runs.fn zibQ_t rfl k
abbrev zibQ_l0_M : List Nat := [0, 0, 0, 2, 2, 1, 1, 1, 1, 1, 1, 1, 1, 1, 1, 1, 1, 1, 1, 1, 1, 1, 1, 1, 1, 1, 1, 1, 1, 1, 1, 1, 1, 1, 1, 1, 1, 1, 1, 1, 1, 1, 1, 1, 1, 1, 1, 1, 1, 0]
abbrev fn_zhbQ : FuncId := 53
def zhbQ_c : ACode :=
 (.seq (.regionD [
 o1 4 (.mov (tm 0)),
 o1 6 (.mov (tm 0)),
 o1 7 (.nilCheck (tm 6)),
 o1 8 (.fieldAddr 1 (tm 7)),
 o1 9 (.load none (tm 8)),
 o1 10 (.mov (tm 1)),
 o1 11 (.sliceSl 166 (tm 9) none (some (tm 10)) none),
 o1 13 (.mov (tm 0)),
 o1 14 (.nilCheck (tm 13)),
 o1 15 (.fieldAddr 1 (tm 14)),
 o1 16 (.load none (tm 15)),
 o1 17 (.mov (tm 1)),
 o1 18 (.bin .add (so (.binOp .add 3 (tm 17) (.const (.int .i64 1)) 3) 3) (tm 17) (.const (.int .i64 1))),
 o1 19 (.sliceSl 166 (tm 16) (some (tm 18)) none none),
 ⟨some 5, .buildSlice 36 [] 0 [], none, [(some 19, .sliceSl 166 (tm 16) (some (tm 18)) none none, none), (some 18, .bin .add (so (.binOp .add 3 (tm 17) (.const (.int .i64 1)) 3) 3) (tm 17) (.const (.int .i64 1)), none), (some 17, .mov (tm 1), none), (some 16, .load none (tm 15), none), (some 15, .fieldAddr 1 (tm 14), none), (some 14, .nilCheck (tm 13), none), (some 13, .mov (tm 0), none), (some 11, .sliceSl 166 (tm 9) none (some (tm 10)) none, none), (some 10, .mov (tm 1), none), (some 9, .load none (tm 8), none), (some 8, .fieldAddr 1 (tm 7), none), (some 7, .nilCheck (tm 6), none), (some 6, .mov (tm 0), none), (some 4, .mov (tm 0), none)], false⟩,
 ⟨some 12, .append 36 166 248 ((.string ⟨⟨[]⟩⟩) :: ((.int .i64 0) :: ((.int .i64 0) :: (z32 ++ (z32 ++ (z32 ++ (z32 ++ ((.int .i64 0) :: (z32 ++ [(.slice none 0 0), (.slice none 0 0)]))))))))) false (tm 5) (tm 11), none, [(some 19, .sliceSl 166 (tm 16) (some (tm 18)) none none, none), (some 18, .bin .add (so (.binOp .add 3 (tm 17) (.const (.int .i64 1)) 3) 3) (tm 17) (.const (.int .i64 1)), none), (some 17, .mov (tm 1), none), (some 16, .load none (tm 15), none), (some 15, .fieldAddr 1 (tm 14), none), (some 14, .nilCheck (tm 13), none), (some 13, .mov (tm 0), none), (some 4, .mov (tm 0), none)], false⟩,
 ⟨some 20, .append 36 166 248 ((.string ⟨⟨[]⟩⟩) :: ((.int .i64 0) :: ((.int .i64 0) :: (z32 ++ (z32 ++ (z32 ++ (z32 ++ ((.int .i64 0) :: (z32 ++ [(.slice none 0 0), (.slice none 0 0)]))))))))) false (tm 12) (tm 19), none, [(some 4, .mov (tm 0), none)], false⟩,
 o2 21 (.nilCheck (tm 4)),
 o2 22 (.fieldAddr 1 (tm 21)),
 ⟨none, .store 1 (tm 22) (tm 20), none, [], true⟩]) (.regionD [
 o1 23 (.mov (tm 0)),
 o1 25 (.mov (tm 0)),
 o1 26 (.nilCheck (tm 25)),
 o1 27 (.fieldAddr 2 (tm 26)),
 o1 28 (.load none (tm 27)),
 o1 29 (.mov (tm 1)),
 o1 30 (.sliceSl 3 (tm 28) none (some (tm 29)) none),
 o1 32 (.mov (tm 0)),
 o1 33 (.nilCheck (tm 32)),
 o1 34 (.fieldAddr 2 (tm 33)),
 o1 35 (.load none (tm 34)),
 o1 36 (.mov (tm 1)),
 o1 37 (.bin .add (so (.binOp .add 3 (tm 36) (.const (.int .i64 1)) 3) 3) (tm 36) (.const (.int .i64 1))),
 o1 38 (.sliceSl 3 (tm 35) (some (tm 37)) none none),
 ⟨some 24, .buildSlice 47 [] 0 [], none, [(some 38, .sliceSl 3 (tm 35) (some (tm 37)) none none, none), (some 37, .bin .add (so (.binOp .add 3 (tm 36) (.const (.int .i64 1)) 3) 3) (tm 36) (.const (.int .i64 1)), none), (some 36, .mov (tm 1), none), (some 35, .load none (tm 34), none), (some 34, .fieldAddr 2 (tm 33), none), (some 33, .nilCheck (tm 32), none), (some 32, .mov (tm 0), none), (some 30, .sliceSl 3 (tm 28) none (some (tm 29)) none, none), (some 29, .mov (tm 1), none), (some 28, .load none (tm 27), none), (some 27, .fieldAddr 2 (tm 26), none), (some 26, .nilCheck (tm 25), none), (some 25, .mov (tm 0), none), (some 23, .mov (tm 0), none)], false⟩,
 ⟨some 31, .append 47 3 16 [(.int .i64 0), (.bool false), (.bool false)] false (tm 24) (tm 30), none, [(some 38, .sliceSl 3 (tm 35) (some (tm 37)) none none, none), (some 37, .bin .add (so (.binOp .add 3 (tm 36) (.const (.int .i64 1)) 3) 3) (tm 36) (.const (.int .i64 1)), none), (some 36, .mov (tm 1), none), (some 35, .load none (tm 34), none), (some 34, .fieldAddr 2 (tm 33), none), (some 33, .nilCheck (tm 32), none), (some 32, .mov (tm 0), none), (some 23, .mov (tm 0), none)], false⟩,
 ⟨some 39, .append 47 3 16 [(.int .i64 0), (.bool false), (.bool false)] false (tm 31) (tm 38), none, [(some 23, .mov (tm 0), none)], false⟩,
 o2 40 (.nilCheck (tm 23)),
 o2 41 (.fieldAddr 2 (tm 40)),
 ⟨none, .store 1 (tm 41) (tm 39), none, [], true⟩]))
def zhbQ : AFunc := ⟨42, [], zhbQ_c, none⟩
theorem zhbQ_t0 : tableOf Try.prog 53 = some zhbQ := by kernel_rfl
theorem zhbQ_t : T0 53 = some zhbQ := withKept_t rfl (withTrue_t rfl zhbQ_t0)
theorem zhbQ_runs {v0 v1 : Value} {h : Heap} {R : RP} {X : XP} (k : RunC Try.prog T0 zhbQ_c ⟨[v0, v1, U, U, U, U, U, U, U, U, U, U, U, U, U, U, U, U, U, U, U, U, U, U, U, U, U, U, U, U, U, U, U, U, U, U, U, U, U, U, U, U], [], h, none⟩ (bodyQ Try.prog T0 [] R X)) :
 Runs Try.prog T0 (.fn 53) [v0, v1] h R X := Runs.fn zhbQ_t rfl k
abbrev fn_zpQ : FuncId := 54
def zpQ_c : ACode :=
 (.seq (.region [
 o1 2 (.box 33 (tm 0)),
 o1 3 (.box 33 (tm 1)),
 o1 4 (.mov (.const (.bool false)))]) (.seq (.region [
 o1 5 (.fieldAddr 0 (tm 2)),
 o1 6 (.load none (tm 5)),
 o1 7 (.fieldAddr 0 (tm 3)),
 o1 8 (.load none (tm 7)),
 o1 9 (.bin .eql (so (.binOp .eql 3 (tm 6) (tm 8) 3) 4) (tm 6) (tm 8)),
 o1 10 (.mov (tm 9)),
 o4 11 (.fieldAddr 1 (tm 2)) 10,
 o4 12 (.load (some 32) (tm 11)) 10,
 o4 13 (.fieldAddr 1 (tm 3)) 10,
 o4 14 (.load (some 32) (tm 13)) 10,
 o4 15 (.bin .eql (so (.binOp .eql 28 (tm 12) (tm 14) 28) 4) (tm 12) (tm 14)) 10,
 o1 16 (.pick (tm 10) (tm 15) (.const (.bool false))),
 o1 17 (.mov (tm 16)),
 o4 18 (.fieldAddr 33 (tm 2)) 17,
 o4 19 (.load none (tm 18)) 17,
 o4 20 (.fieldAddr 33 (tm 3)) 17,
 o4 21 (.load none (tm 20)) 17,
 o4 22 (.callV (.func 69) [(tm 19), (tm 21)]) 17,
 o1 23 (.pick (tm 17) (tm 22) (.const (.bool false))),
 o1 4 (.mov (tm 23))]) .ret))
def zpQ : AFunc := ⟨24, [(4, none)], zpQ_c, none⟩
theorem zpQ_t0 : tableOf Try.prog 54 = some zpQ := by kernel_rfl
theorem zpQ_t : T0 54 = some zpQ := withKept_t rfl (withTrue_t rfl zpQ_t0)
theorem zpQ_runs {v0 v1 : Value} {h : Heap} {R : RP} {X : XP} (k : RunC Try.prog T0 zpQ_c ⟨[v0, v1, U, U, U, U, U, U, U, U, U, U, U, U, U, U, U, U, U, U, U, U, U, U], [], h, none⟩ (bodyQ Try.prog T0 [(4, none)] R X)) :
 Runs Try.prog T0 (.fn 54) [v0, v1] h R X := Runs.fn zpQ_t rfl k
abbrev fn_zrQ : FuncId := 55
def zrQ_l0 : ACode :=
 (.seq (.seq (.region [
 o1 12 (.mov (tm 5)),
 o1 13 (.mov (tm 12)),
 o4 14 (.mov (tm 6)) 13,
 o4 15 (.mov (tm 0)) 13,
 o4 16 (.lenSl (tm 15)) 13,
 o4 17 (.bin .lss (so (.binOp .lss 3 (tm 14) (tm 16) 3) 4) (tm 14) (tm 16)) 13,
 o1 18 (.pick (tm 13) (tm 17) (.const (.bool false)))]) (.cond (tm 18)
 .skip
 (.exit 0))) (.seq (.block 1 (.regionD [
 o1 21 (.mov (tm 0)),
 o1 22 (.mov (tm 6)),
 o1 23 (.indexSl 5 (tm 21) (tm 22)),
 o1 24 (.load (some 5) (tm 23)),
 o1 25 (.mov (tm 1)),
 o1 26 (.mov (tm 6)),
 o1 27 (.indexSl 5 (tm 25) (tm 26)),
 o1 28 (.load (some 5) (tm 27)),
 o2 29 (.bin .eql (so (.binOp .eql 113 (tm 24) (tm 28) 113) 4) (tm 24) (tm 28)),
 o2 5 (.mov (tm 29))])) (.region [
 o1 19 (.mov (tm 6)),
 o1 20 (.bin .add (so (.binOp .add 3 (tm 19) (.const (.int .i64 1)) 3) 3) (tm 19) (.const (.int .i64 1))),
 o1 6 (.mov (tm 20))])))
def zrQ_c : ACode :=
 (.seq (.region [
 o1 4 (.mov (.const (.bool false)))]) (.seq (.region [
 o1 7 (.mov (tm 0)),
 o1 8 (.lenSl (tm 7)),
 o1 9 (.mov (tm 1)),
 o1 10 (.lenSl (tm 9)),
 o1 11 (.bin .eql (so (.binOp .eql 3 (tm 8) (tm 10) 3) 4) (tm 8) (tm 10)),
 o1 5 (.mov (tm 11))]) (.seq (.seq (.region [
 o1 6 (.mov k0)]) (.block 0 (.loop zrQ_l0))) (.seq (.region [
 o1 30 (.mov (tm 5)),
 o1 4 (.mov (tm 30))]) .ret))))
def zrQ : AFunc := ⟨31, [(4, none)], zrQ_c, none⟩
theorem zrQ_t0 : tableOf Try.prog 55 = some zrQ := by kernel_rfl
theorem zrQ_t : T0 55 = some zrQ := withKept_t rfl (withTrue_t rfl zrQ_t0)
theorem zrQ_runs {v0 v1 : Value} {h : Heap} {R : RP} {X : XP} (k : RunC Try.prog T0 zrQ_c ⟨[v0, v1, U, U, U, U, U, U, U, U, U, U, U, U, U, U, U, U, U, U, U, U, U, U, U, U, U, U, U, U, U], [], h, none⟩ (bodyQ Try.prog T0 [(4, none)] R X)) :
 Runs Try.prog T0 (.fn 55) [v0, v1] h R X := Runs.fn zrQ_t rfl k
abbrev zrQ_l0_M : List Nat := [0, 0, 0, 0, 0, 2, 2, 0, 0, 0, 0, 0, 1, 1, 1, 1, 1, 1, 1, 1, 1, 1, 1, 1, 1, 1, 1, 1, 1, 1, 0]
abbrev fn_znQ : FuncId := 56
def znQ_l0 : ACode :=
 (.seq (.seq (.region [
 o1 3 (.mov (tm 2)),
 o1 4 (.mov (tm 0)),
 o1 5 (.lenSl (tm 4)),
 o1 6 (.bin .lss (so (.binOp .lss 3 (tm 3) (tm 5) 3) 4) (tm 3) (tm 5))]) (.cond (tm 6)
 .skip
 (.exit 0))) (.seq (.block 1 (.region [
 o1 9 (.mov (tm 0)),
 o1 10 (.mov (tm 2)),
 o1 11 (.build [(.int .u8 0), (.int .u8 0), (.int .u8 0), (.int .u8 0), (.int .i64 0)] [(4, 1, (.const (.int .i64 (-7))))]),
 o1 12 (.indexSl 5 (tm 9) (tm 10)),
 o3 (.store 5 (tm 12) (tm 11))])) (.region [
 o1 7 (.mov (tm 2)),
 o1 8 (.bin .add (so (.binOp .add 3 (tm 7) (.const (.int .i64 1)) 3) 3) (tm 7) (.const (.int .i64 1))),
 o1 2 (.mov (tm 8))])))
def znQ_c : ACode :=
 (.seq (.region [
 o1 2 (.mov k0)]) (.block 0 (.loop znQ_l0)))
def znQ : AFunc := ⟨13, [], znQ_c, none⟩
theorem znQ_t0 : tableOf Try.prog 56 = some znQ := by kernel_rfl
theorem znQ_t : T0 56 = some znQ := withKept_t rfl (withTrue_t rfl znQ_t0)
theorem znQ_runs {v0 : Value} {h : Heap} {R : RP} {X : XP} (k : RunC Try.prog T0 znQ_c ⟨[v0, U, U, U, U, U, U, U, U, U, U, U, U], [], h, none⟩ (bodyQ Try.prog T0 [] R X)) :
 Runs Try.prog T0 (.fn 56) [v0] h R X := Runs.fn znQ_t rfl k
abbrev znQ_l0_M : List Nat := [0, 0, 2, 1, 1, 1, 1, 1, 1, 1, 1, 1, 1]
abbrev fn_zlQ : FuncId := 57
def zlQ_l0 : ACode :=
 (.seq (.seq (.region [
 o1 3 (.mov (tm 2)),
 o1 4 (.fieldAddr 33 (tm 1)),
 o1 5 (.load none (tm 4)),
 o1 6 (.lenSl (tm 5)),
 o1 7 (.bin .lss (so (.binOp .lss 3 (tm 3) (tm 6) 3) 4) (tm 3) (tm 6))]) (.cond (tm 7)
 .skip
 (.exit 0))) (.seq (.block 1 (.region [
 o1 10 (.fieldAddr 33 (tm 1)),
 o1 11 (.load none (tm 10)),
 o1 12 (.mov (tm 2)),
 o1 13 (.build [(.int .i64 0), (.int .u64 0)] [(0, 1, (.const (.int .i64 (-7))))]),
 o1 14 (.indexSl 2 (tm 11) (tm 12)),
 o3 (.store 2 (tm 14) (tm 13))])) (.region [
 o1 8 (.mov (tm 2)),
 o1 9 (.bin .add (so (.binOp .add 3 (tm 8) (.const (.int .i64 1)) 3) 3) (tm 8) (.const (.int .i64 1))),
 o1 2 (.mov (tm 9))])))
def zlQ_c : ACode :=
 (.seq (.region [
 o1 1 (.box 33 (tm 0))]) (.seq (.region [
 o1 2 (.mov k0)]) (.block 0 (.loop zlQ_l0))))
def zlQ : AFunc := ⟨15, [], zlQ_c, none⟩
theorem zlQ_t0 : tableOf Try.prog 57 = some zlQ := by kernel_rfl
theorem zlQ_t : T0 57 = some zlQ := withKept_t rfl (withTrue_t rfl zlQ_t0)
theorem zlQ_runs {v0 : Value} {h : Heap} {R : RP} {X : XP} (k : RunC Try.prog T0 zlQ_c ⟨[v0, U, U, U, U, U, U, U, U, U, U, U, U, U, U], [], h, none⟩ (bodyQ Try.prog T0 [] R X)) :
 Runs Try.prog T0 (.fn 57) [v0] h R X := Runs.fn zlQ_t rfl k
abbrev zlQ_l0_M : List Nat := [0, 0, 2, 1, 1, 1, 1, 1, 1, 1, 1, 1, 1, 1, 1]
abbrev fn_zrbQ : FuncId := 58
def zrbQ_c : ACode :=
 (.seq (.region [
 o1 2 (.mov (.const (.slice none 0 0)))]) (.seq (.region [
 o1 3 (.mov (tm 0)),
 o1 4 (.callV (.func 70) [(.const (.slice none 0 0)), (tm 3)]),
 o1 2 (.mov (tm 4))]) .ret))
def zrbQ : AFunc := ⟨5, [(2, none)], zrbQ_c, none⟩
theorem zrbQ_t0 : tableOf Try.prog 58 = some zrbQ := by kernel_rfl
theorem zrbQ_t : T0 58 = some zrbQ := withKept_t rfl (withTrue_t rfl zrbQ_t0)
theorem zrbQ_runs {v0 : Value} {h : Heap} {R : RP} {X : XP} (k : RunC Try.prog T0 zrbQ_c ⟨[v0, U, U, U, U], [], h, none⟩ (bodyQ Try.prog T0 [(2, none)] R X)) :
 Runs Try.prog T0 (.fn 58) [v0] h R X := Runs.fn zrbQ_t rfl k
abbrev fn_zkbQ : FuncId := 59
def zkbQ_c : ACode :=
 (.seq (.region [
 o1 1 (.box 73 (tm 0)),
 o1 2 (.mov (.const .nilFunc))]) (.seq (.region [
 o1 3 (.mkFunc (.func 71) [] [(tm 1)]),
 o1 2 (.mov (tm 3))]) .ret))
def zkbQ : AFunc := ⟨4, [(2, none)], zkbQ_c, none⟩
theorem zkbQ_t0 : tableOf Try.prog 59 = some zkbQ := by kernel_rfl
theorem zkbQ_t : T0 59 = some zkbQ := withKept_t rfl (withTrue_t rfl zkbQ_t0)
theorem zkbQ_runs {v0 : Value} {h : Heap} {R : RP} {X : XP} (k : RunC Try.prog T0 zkbQ_c ⟨[v0, U, U, U], [], h, none⟩ (bodyQ Try.prog T0 [(2, none)] R X)) :
 Runs Try.prog T0 (.fn 59) [v0] h R X := Runs.fn zkbQ_t rfl k
abbrev fn_zdQ : FuncId := 60
def zdQ_l0 : ACode :=
 (.seq (.seq (.region [
 o1 9 (.mov (tm 3)),
 o1 10 (.bin .geq (so (.binOp .geq 3 (tm 9) k0 3) 4) (tm 9) k0)]) (.cond (tm 10)
 .skip
 (.exit 0))) (.seq (.block 1 (.region [
 o1 13 (.mov (tm 0)),
 o1 14 (.mov (tm 3)),
 o1 15 (.mov (tm 2)),
 o1 16 (.callV (.func 72) [(tm 13), (tm 14), (tm 15)])])) (.region [
 o1 11 (.mov (tm 3)),
 o1 12 (.bin .sub (so (.binOp .sub 3 (tm 11) (.const (.int .i64 1)) 3) 3) (tm 11) (.const (.int .i64 1))),
 o1 3 (.mov (tm 12))])))
def zdQ_c : ACode :=
 (.seq (.region [
 o1 4 (.mov (tm 0)),
 o1 5 (.invoke (tm 4) "Len" []),
 o1 2 (.mov (tm 5))]) (.seq (.region [
 o1 6 (.mov (tm 2)),
 o1 7 (.bin .quo (so (.binOp .quo 3 (tm 6) (.const (.int .i64 2)) 3) 3) (tm 6) (.const (.int .i64 2))),
 o1 8 (.bin .sub (so (.binOp .sub 3 (tm 7) (.const (.int .i64 1)) 3) 3) (tm 7) (.const (.int .i64 1))),
 o1 3 (.mov (tm 8))]) (.block 0 (.loop zdQ_l0))))
def zdQ : AFunc := ⟨17, [], zdQ_c, none⟩
theorem zdQ_t0 : tableOf Try.prog 60 = some zdQ := by kernel_rfl
theorem zdQ_t : T0 60 = some zdQ := withKept_t rfl (withTrue_t rfl zdQ_t0)
theorem zdQ_runs {v0 : Value} {h : Heap} {R : RP} {X : XP} (k : RunC Try.prog T0 zdQ_c ⟨[v0, U, U, U, U, U, U, U, U, U, U, U, U, U, U, U, U], [], h, none⟩ (bodyQ Try.prog T0 [] R X)) :
 Runs Try.prog T0 (.fn 60) [v0] h R X := Runs.fn zdQ_t rfl k
abbrev zdQ_l0_M : List Nat := [0, 0, 0, 2, 0, 0, 0, 0, 0, 1, 1, 1, 1, 1, 1, 1, 1]
abbrev fn_zjcQ : FuncId := 61
def zjcQ_c : ACode :=
 (.seq (.region [
 o1 2 (.mov k0)]) (.seq (.region [
 o1 3 (.mov (tm 0)),
 o1 4 (.lenSl (tm 3)),
 o1 2 (.mov (tm 4))]) .ret))
def zjcQ : AFunc := ⟨5, [(2, none)], zjcQ_c, none⟩
theorem zjcQ_t0 : tableOf Try.prog 61 = some zjcQ := by kernel_rfl
theorem zjcQ_t : T0 61 = some zjcQ := withKept_t rfl (withTrue_t rfl zjcQ_t0)
theorem zjcQ_runs {v0 : Value} {h : Heap} {R : RP} {X : XP} (k : RunC Try.prog T0 zjcQ_c ⟨[v0, U, U, U, U], [], h, none⟩ (bodyQ Try.prog T0 [(2, none)] R X)) :
 Runs Try.prog T0 (.fn 61) [v0] h R X := Runs.fn zjcQ_t rfl k
abbrev fn_zeQ : FuncId := 62
def zeQ_c : ACode :=
 (.seq (.region [
 o1 2 (.mov (.const .nilIface))]) (.seq (.region [
 o1 4 (.mov (tm 0)),
 o1 5 (.invoke (tm 4) "Len" []),
 o1 6 (.bin .sub (so (.binOp .sub 3 (tm 5) (.const (.int .i64 1)) 3) 3) (tm 5) (.const (.int .i64 1))),
 o1 3 (.mov (tm 6))]) (.seq (.region [
 o1 7 (.mov (tm 0)),
 o1 8 (.mov (tm 3)),
 o1 9 (.invoke (tm 7) "Swap" [k0, (tm 8)])]) (.seq (.region [
 o1 10 (.mov (tm 0)),
 o1 11 (.mov (tm 3)),
 o1 12 (.callV (.func 72) [(tm 10), k0, (tm 11)])]) (.seq (.region [
 o1 13 (.mov (tm 0)),
 o1 14 (.invoke (tm 13) "Pop" []),
 o1 2 (.mov (tm 14))]) .ret)))))
def zeQ : AFunc := ⟨15, [(2, none)], zeQ_c, none⟩
theorem zeQ_t0 : tableOf Try.prog 62 = some zeQ := by kernel_rfl
theorem zeQ_t : T0 62 = some zeQ := withKept_t rfl (withTrue_t rfl zeQ_t0)
theorem zeQ_runs {v0 : Value} {h : Heap} {R : RP} {X : XP} (k : RunC Try.prog T0 zeQ_c ⟨[v0, U, U, U, U, U, U, U, U, U, U, U, U, U, U], [], h, none⟩ (bodyQ Try.prog T0 [(2, none)] R X)) :
 Runs Try.prog T0 (.fn 62) [v0] h R X := Runs.fn zeQ_t rfl k
abbrev fn_zpbQ : FuncId := 63
def zpbQ_c : ACode :=
 (.seq (.region [
 o1 2 (.mov (.const (.slice none 0 0)))]) (.seq (.seq (.region [
 o1 3 (.mov (tm 0)),
 o1 4 (.eq .slice false (so (.binOp .eql 34 (tm 3) (.const (.slice none 0 0)) 34) 4) (tm 3) (.const (.slice none 0 0)))]) (.cond (tm 4)
 (.seq (.region [
 o1 2 (.mov (.const (.slice none 0 0)))]) .ret)
 .skip)) (.seq (.region [
 o1 5 (.buildSlice 113 [] 0 []),
 o1 6 (.mov (tm 0)),
 o1 7 (.append 113 5 16 [(.int .u8 0), (.int .u8 0), (.int .u8 0), (.int .u8 0), (.int .i64 0)] false (tm 5) (tm 6)),
 o1 2 (.mov (tm 7))]) .ret)))
def zpbQ : AFunc := ⟨8, [(2, none)], zpbQ_c, none⟩
theorem zpbQ_t0 : tableOf Try.prog 63 = some zpbQ := by kernel_rfl
theorem zpbQ_t : T0 63 = some zpbQ := withKept_t rfl (withTrue_t rfl zpbQ_t0)
theorem zpbQ_runs {v0 : Value} {h : Heap} {R : RP} {X : XP} (k : RunC Try.prog T0 zpbQ_c ⟨[v0, U, U, U, U, U, U, U], [], h, none⟩ (bodyQ Try.prog T0 [(2, none)] R X)) :
 Runs Try.prog T0 (.fn 63) [v0] h R X := Runs.fn zpbQ_t rfl k
abbrev fn_zqbQ : FuncId := 64
def zqbQ_c : ACode :=
 (.seq (.region [
 o1 2 (.mov (.const (.slice none 0 0)))]) (.seq (.seq (.region [
 o1 3 (.mov (tm 0)),
 o1 4 (.eq .slice false (so (.binOp .eql 31 (tm 3) (.const (.slice none 0 0)) 31) 4) (tm 3) (.const (.slice none 0 0)))]) (.cond (tm 4)
 (.seq (.region [
 o1 2 (.mov (.const (.slice none 0 0)))]) .ret)
 .skip)) (.seq (.region [
 o1 5 (.buildSlice 117 [] 0 []),
 o1 6 (.mov (tm 0)),
 o1 7 (.append 117 2 16 [(.int .i64 0), (.int .u64 0)] false (tm 5) (tm 6)),
 o1 2 (.mov (tm 7))]) .ret)))
def zqbQ : AFunc := ⟨8, [(2, none)], zqbQ_c, none⟩
theorem zqbQ_t0 : tableOf Try.prog 64 = some zqbQ := by kernel_rfl
theorem zqbQ_t : T0 64 = some zqbQ := withKept_t rfl (withTrue_t rfl zqbQ_t0)
theorem zqbQ_runs {v0 : Value} {h : Heap} {R : RP} {X : XP} (k : RunC Try.prog T0 zqbQ_c ⟨[v0, U, U, U, U, U, U, U], [], h, none⟩ (bodyQ Try.prog T0 [(2, none)] R X)) :
 Runs Try.prog T0 (.fn 64) [v0] h R X := Runs.fn zqbQ_t rfl k
abbrev fn_zmbQ : FuncId := 65
def zmbQ_c : ACode :=
 (.seq (.region [
 o1 1 (.box 73 (tm 0)),
 o1 2 (.mov (.const .nilFunc))]) (.seq (.region [
 o1 3 (.mkFunc (.func 73) [] [(tm 1)]),
 o1 2 (.mov (tm 3))]) .ret))
def zmbQ : AFunc := ⟨4, [(2, none)], zmbQ_c, none⟩
theorem zmbQ_t0 : tableOf Try.prog 65 = some zmbQ := by kernel_rfl
theorem zmbQ_t : T0 65 = some zmbQ := withKept_t rfl (withTrue_t rfl zmbQ_t0)
theorem zmbQ_runs {v0 : Value} {h : Heap} {R : RP} {X : XP} (k : RunC Try.prog T0 zmbQ_c ⟨[v0, U, U, U], [], h, none⟩ (bodyQ Try.prog T0 [(2, none)] R X)) :
 Runs Try.prog T0 (.fn 65) [v0] h R X := Runs.fn zmbQ_t rfl k
abbrev fn_zocQ : FuncId := 66
def zocQ_c : ACode :=
 (.seq (.region [
 o1 2 (.mov k0)]) (.seq (.seq (.region [
 o1 3 (.mov (tm 0)),
 o1 4 (.nilCheck (tm 3)),
 o1 5 (.fieldAddr 166 (tm 4)),
 o1 6 (.load none (tm 5))]) (.cond (tm 6)
 (.seq (.region [
 o1 2 (.mov (.const (.int .i64 1)))]) .ret)
 .skip)) (.seq (.region [
 o1 2 (.mov k0)]) .ret)))
def zocQ : AFunc := ⟨7, [(2, none)], zocQ_c, none⟩
theorem zocQ_t0 : tableOf Try.prog 66 = some zocQ := by kernel_rfl
theorem zocQ_t : T0 66 = some zocQ := withKept_t rfl (withTrue_t rfl zocQ_t0)
theorem zocQ_runs {v0 : Value} {h : Heap} {R : RP} {X : XP} (k : RunC Try.prog T0 zocQ_c ⟨[v0, U, U, U, U, U, U], [], h, none⟩ (bodyQ Try.prog T0 [(2, none)] R X)) :
 Runs Try.prog T0 (.fn 66) [v0] h R X := Runs.fn zocQ_t rfl k
abbrev fn_zbQ : FuncId := 67
def zbQ_l0 : ACode :=
 (.seq (.region [
 o1 9 (.bin .lss (so (.binOp .lss 3 (tm 8) (tm 7) 3) 0) (tm 8) (tm 7))]) (.seq (.cond (tm 9)
 .skip
 (.exit 0)) (.seq (.block 1 (.seq (.region [
 o1 10 (.indexSl 1 (tm 6) (tm 8)),
 o1 11 (.load none (tm 10)),
 o1 5 (.mov (tm 11))]) (.seq (.region [
 o1 12 (.mov (tm 5)),
 o1 13 (.mov (tm 3)),
 o1 14 (.bin .neq (so (.binOp .neq 3 (tm 12) (tm 13) 3) 4) (tm 12) (tm 13))]) (.cond (tm 14)
 (.seq (.region [
 o1 15 (.mov (tm 5)),
 o1 2 (.mov (tm 15))]) .ret)
 .skip)))) (.region [
 o1 16 (.bin .add (so (.binOp .add 3 (tm 8) (.const (.int .i64 1)) 3) 3) (tm 8) (.const (.int .i64 1))),
 o1 8 (.mov (tm 16))]))))
def zbQ_c : ACode :=
 (.seq (.region [
 o1 2 (.mov k0)]) (.seq (.region [
 o1 3 (.mov k0)]) (.seq (.seq (.region [
 o1 6 (.mov (tm 0)),
 o1 7 (.lenSl (tm 6)),
 o1 8 (.mov k0)]) (.block 0 (.loop zbQ_l0))) (.seq (.region [
 o1 17 (.mov (tm 3)),
 o1 2 (.mov (tm 17))]) .ret))))
def zbQ : AFunc := ⟨18, [(2, none)], zbQ_c, none⟩
theorem zbQ_t0 : tableOf Try.prog 67 = some zbQ := by kernel_rfl
theorem zbQ_t : T0 67 = some zbQ := withKept_t rfl (withTrue_t rfl zbQ_t0)
theorem zbQ_runs {v0 : Value} {h : Heap} {R : RP} {X : XP} (k : RunC Try.prog T0 zbQ_c ⟨[v0, U, U, U, U, U, U, U, U, U, U, U, U, U, U, U, U, U], [], h, none⟩ (bodyQ Try.prog T0 [(2, none)] R X)) :
 Runs Try.prog T0 (.fn 67) [v0] h R X := Runs.fn zbQ_t rfl k
abbrev zbQ_l0_M : List Nat := [0, 0, 1, 0, 0, 1, 0, 0, 2, 1, 1, 1, 1, 1, 1, 1, 1, 0]
abbrev fn_zaQ : FuncId := 68
def zaQ_c : ACode :=
 (.seq (.region [
 o1 4 (.mov k0)]) (.seq (.region [
 o1 7 (.mov (tm 0)),
 o1 8 (.callV (.func 74) [(tm 7)]),
 o1 5 (.mov (tm 8))]) (.seq (.region [
 o1 9 (.mov (tm 1)),
 o1 10 (.callV (.func 74) [(tm 9)]),
 o1 6 (.mov (tm 10))]) (.seq (.seq (.region [
 o1 11 (.mov (tm 5))]) (.cond (tm 11)
 (.seq (.seq (.region [
 o1 12 (.mov (tm 6))]) (.cond (tm 12)
 (.seq (.region [
 o1 4 (.mov k0)]) .ret)
 .skip)) (.seq (.region [
 o1 4 (.mov (.const (.int .i64 (-1))))]) .ret))
 .skip)) (.seq (.seq (.region [
 o1 13 (.mov (tm 6))]) (.cond (tm 13)
 (.seq (.region [
 o1 4 (.mov (.const (.int .i64 1)))]) .ret)
 .skip)) (.seq (.seq (.region [
 o1 14 (.mov (tm 0)),
 o1 15 (.mov (tm 1)),
 o1 16 (.bin .lss (so (.binOp .lss 3 (tm 14) (tm 15) 3) 4) (tm 14) (tm 15))]) (.cond (tm 16)
 (.seq (.region [
 o1 4 (.mov (.const (.int .i64 (-1))))]) .ret)
 .skip)) (.seq (.seq (.region [
 o1 17 (.mov (tm 0)),
 o1 18 (.mov (tm 1)),
 o1 19 (.bin .gtr (so (.binOp .gtr 3 (tm 17) (tm 18) 3) 4) (tm 17) (tm 18))]) (.cond (tm 19)
 (.seq (.region [
 o1 4 (.mov (.const (.int .i64 1)))]) .ret)
 .skip)) (.seq (.region [
 o1 4 (.mov k0)]) .ret))))))))
def zaQ : AFunc := ⟨20, [(4, none)], zaQ_c, none⟩
theorem zaQ_t0 : tableOf Try.prog 68 = some zaQ := by kernel_rfl
theorem zaQ_t : T0 68 = some zaQ := withKept_t rfl (withTrue_t rfl zaQ_t0)
theorem zaQ_runs {v0 v1 : Value} {h : Heap} {R : RP} {X : XP} (k : RunC Try.prog T0 zaQ_c ⟨[v0, v1, U, U, U, U, U, U, U, U, U, U, U, U, U, U, U, U, U, U], [], h, none⟩ (bodyQ Try.prog T0 [(4, none)] R X)) :
 Runs Try.prog T0 (.fn 68) [v0, v1] h R X := Runs.fn zaQ_t rfl k
abbrev fn_zsQ : FuncId := 69
def zsQ_l0 : ACode :=
 (.seq (.seq (.region [
 o1 12 (.mov (tm 5)),
 o1 13 (.mov (tm 12)),
 o4 14 (.mov (tm 6)) 13,
 o4 15 (.mov (tm 0)) 13,
 o4 16 (.lenSl (tm 15)) 13,
 o4 17 (.bin .lss (so (.binOp .lss 3 (tm 14) (tm 16) 3) 4) (tm 14) (tm 16)) 13,
 o1 18 (.pick (tm 13) (tm 17) (.const (.bool false)))]) (.cond (tm 18)
 .skip
 (.exit 0))) (.seq (.block 1 (.regionD [
 o1 21 (.mov (tm 0)),
 o1 22 (.mov (tm 6)),
 o1 23 (.indexSl 2 (tm 21) (tm 22)),
 o1 24 (.load (some 2) (tm 23)),
 o1 25 (.mov (tm 1)),
 o1 26 (.mov (tm 6)),
 o1 27 (.indexSl 2 (tm 25) (tm 26)),
 o1 28 (.load (some 2) (tm 27)),
 o2 29 (.bin .eql (so (.binOp .eql 117 (tm 24) (tm 28) 117) 4) (tm 24) (tm 28)),
 o2 5 (.mov (tm 29))])) (.region [
 o1 19 (.mov (tm 6)),
 o1 20 (.bin .add (so (.binOp .add 3 (tm 19) (.const (.int .i64 1)) 3) 3) (tm 19) (.const (.int .i64 1))),
 o1 6 (.mov (tm 20))])))
def zsQ_c : ACode :=
 (.seq (.region [
 o1 4 (.mov (.const (.bool false)))]) (.seq (.region [
 o1 7 (.mov (tm 0)),
 o1 8 (.lenSl (tm 7)),
 o1 9 (.mov (tm 1)),
 o1 10 (.lenSl (tm 9)),
 o1 11 (.bin .eql (so (.binOp .eql 3 (tm 8) (tm 10) 3) 4) (tm 8) (tm 10)),
 o1 5 (.mov (tm 11))]) (.seq (.seq (.region [
 o1 6 (.mov k0)]) (.block 0 (.loop zsQ_l0))) (.seq (.region [
 o1 30 (.mov (tm 5)),
 o1 4 (.mov (tm 30))]) .ret))))
def zsQ : AFunc := ⟨31, [(4, none)], zsQ_c, none⟩
theorem zsQ_t0 : tableOf Try.prog 69 = some zsQ := by kernel_rfl
theorem zsQ_t : T0 69 = some zsQ := withKept_t rfl (withTrue_t rfl zsQ_t0)
theorem zsQ_runs {v0 v1 : Value} {h : Heap} {R : RP} {X : XP} (k : RunC Try.prog T0 zsQ_c ⟨[v0, v1, U, U, U, U, U, U, U, U, U, U, U, U, U, U, U, U, U, U, U, U, U, U, U, U, U, U, U, U, U], [], h, none⟩ (bodyQ Try.prog T0 [(4, none)] R X)) :
 Runs Try.prog T0 (.fn 69) [v0, v1] h R X := Runs.fn zsQ_t rfl k
abbrev zsQ_l0_M : List Nat := [0, 0, 0, 0, 0, 2, 2, 0, 0, 0, 0, 0, 1, 1, 1, 1, 1, 1, 1, 1, 1, 1, 1, 1, 1, 1, 1, 1, 1, 1, 0]
abbrev fn_zobQ : FuncId := 70
def zobQ_ra0 : Code := (rangeParts (subCode ((Try.prog.funcs[70]?).bind (·.body)) [true, false, true, false])).1
def zobQ_rb0 : Code := (rangeParts (subCode ((Try.prog.funcs[70]?).bind (·.body)) [true, false, true, false])).2
def zobQ_a0 : ACode :=
 (.region [
 o1 5 (.mov (tm 7))])
def zobQ_b0 : ACode :=
 (.block 1 (.region [
 o1 8 (.load none (tm 2)),
 o1 9 (.mov (tm 5)),
 o1 10 (.buildSlice 3 [(.int .i64 0)] 1 [(0, 1, (tm 9))]),
 o1 11 (.append 3 1 8 [(.int .i64 0)] false (tm 8) (tm 10)),
 o3 (.store 1 (tm 2) (tm 11))]))
theorem zobQ_ca0 : comp Try.prog zobQ_ra0 = some zobQ_a0 := by kernel_rfl
theorem zobQ_cb0 : comp Try.prog zobQ_rb0 = some zobQ_b0 := by kernel_rfl
theorem zobQ_na0 : noDefer zobQ_ra0 = true := by kernel_rfl
theorem zobQ_nb0 : noDefer zobQ_rb0 = true := by kernel_rfl
def zobQ_c : ACode :=
 (.seq (.region [
 o1 2 (.box 78 (tm 0)),
 o1 4 (.mov (.const (.slice none 0 0)))]) (.seq (.seq (.region [
 o1 6 (.mov (tm 1))]) (.block 0 (.rangeFunc (tm 6) [7] zobQ_ra0 zobQ_rb0))) (.seq (.region [
 o1 12 (.load none (tm 2)),
 o1 4 (.mov (tm 12))]) .ret)))
def zobQ : AFunc := ⟨13, [(4, none)], zobQ_c, none⟩
theorem zobQ_t0 : tableOf Try.prog 70 = some zobQ := by kernel_rfl
theorem zobQ_t : T0 70 = some zobQ := withKept_t rfl (withTrue_t rfl zobQ_t0)
theorem zobQ_runs {v0 v1 : Value} {h : Heap} {R : RP} {X : XP} (k : RunC Try.prog T0 zobQ_c ⟨[v0, v1, U, U, U, U, U, U, U, U, U, U, U], [], h, none⟩ (bodyQ Try.prog T0 [(4, none)] R X)) :
 Runs Try.prog T0 (.fn 70) [v0, v1] h R X := Runs.fn zobQ_t rfl k
abbrev fn_zlbQ : FuncId := 71
def zlbQ_l0 : ACode :=
 (.seq (.region [
 o1 6 (.nextMap (tm 5)),
 o1 7 (.extract 0 (tm 6))]) (.seq (.cond (tm 7)
 .skip
 (.exit 0)) (.block 1 (.seq (.region [
 o1 8 (.entryMap (tm 5)),
 o1 9 (.extract 0 (tm 8)),
 o1 3 (.mov (tm 9))]) (.seq (.region [
 o1 10 (.mov (tm 0)),
 o1 11 (.mov (tm 3)),
 o1 12 (.callV (tm 10) [(tm 11)]),
 o1 13 (.raw (so (.unOp .not 4 (tm 12)) 4))]) (.cond (tm 13)
 .ret
 .skip))))))
def zlbQ_c : ACode :=
 (.seq (.region [
 o1 4 (.load none (tm 1)),
 o1 5 (.rangeMap (tm 4))]) (.block 0 (.loop zlbQ_l0)))
def zlbQ : AFunc := ⟨14, [], zlbQ_c, none⟩
theorem zlbQ_t0 : tableOf Try.prog 71 = some zlbQ := by kernel_rfl
theorem zlbQ_t : T0 71 = some zlbQ := withKept_t rfl (withTrue_t rfl zlbQ_t0)
theorem zlbQ_runs {v0 v1 : Value} {h : Heap} {R : RP} {X : XP} (k : RunC Try.prog T0 zlbQ_c ⟨[v0, v1, U, U, U, U, U, U, U, U, U, U, U, U], [], h, none⟩ (bodyQ Try.prog T0 [] R X)) :
 Runs Try.prog T0 (.fn 71) [v0, v1] h R X := Runs.fn zlbQ_t rfl k
abbrev zlbQ_l0_M : List Nat := [0, 0, 0, 1, 0, 0, 1, 1, 1, 1, 1, 1, 1, 1]
abbrev fn_zfQ : FuncId := 72
def zfQ_l0 : ACode :=
 (.block 1 (.seq (.region [
 o1 12 (.mov (tm 7)),
 o1 13 (.bin .mul (so (.binOp .mul 3 (.const (.int .i64 2)) (tm 12) 3) 3) (.const (.int .i64 2)) (tm 12)),
 o1 14 (.bin .add (so (.binOp .add 3 (tm 13) (.const (.int .i64 1)) 3) 3) (tm 13) (.const (.int .i64 1))),
 o1 8 (.mov (tm 14))]) (.seq (.seq (.region [
 o1 15 (.mov (tm 8)),
 o1 16 (.mov (tm 2)),
 o1 17 (.bin .geq (so (.binOp .geq 3 (tm 15) (tm 16) 3) 4) (tm 15) (tm 16)),
 o1 18 (.mov (tm 17)),
 o5 19 (.mov (tm 8)) 18,
 o5 20 (.bin .lss (so (.binOp .lss 3 (tm 19) k0 3) 4) (tm 19) k0) 18,
 o1 21 (.pick (tm 18) (.const (.bool true)) (tm 20))]) (.cond (tm 21)
 (.exit 0)
 .skip)) (.seq (.region [
 o1 22 (.mov (tm 8)),
 o1 9 (.mov (tm 22))]) (.seq (.seq (.region [
 o1 23 (.mov (tm 8)),
 o1 24 (.bin .add (so (.binOp .add 3 (tm 23) (.const (.int .i64 1)) 3) 3) (tm 23) (.const (.int .i64 1))),
 o1 10 (.mov (tm 24))]) (.seq (.region [
 o1 25 (.mov (tm 10)),
 o1 26 (.mov (tm 2)),
 o1 27 (.bin .lss (so (.binOp .lss 3 (tm 25) (tm 26) 3) 4) (tm 25) (tm 26)),
 o1 28 (.mov (tm 27)),
 o4 29 (.mov (tm 0)) 28,
 o4 30 (.mov (tm 10)) 28,
 o4 31 (.mov (tm 8)) 28,
 o4 32 (.invoke (tm 29) "Less" [(tm 30), (tm 31)]) 28,
 o1 33 (.pick (tm 28) (tm 32) (.const (.bool false)))]) (.cond (tm 33)
 (.region [
 o1 34 (.mov (tm 10)),
 o1 9 (.mov (tm 34))])
 .skip))) (.seq (.seq (.region [
 o1 35 (.mov (tm 0)),
 o1 36 (.mov (tm 9)),
 o1 37 (.mov (tm 7)),
 o1 38 (.invoke (tm 35) "Less" [(tm 36), (tm 37)]),
 o1 39 (.raw (so (.unOp .not 4 (tm 38)) 4))]) (.cond (tm 39)
 (.exit 0)
 .skip)) (.seq (.region [
 o1 40 (.mov (tm 0)),
 o1 41 (.mov (tm 7)),
 o1 42 (.mov (tm 9)),
 o1 43 (.invoke (tm 40) "Swap" [(tm 41), (tm 42)])]) (.region [
 o1 44 (.mov (tm 9)),
 o1 7 (.mov (tm 44))]))))))))
def zfQ_c : ACode :=
 (.seq (.region [
 o1 6 (.mov (.const (.bool false)))]) (.seq (.region [
 o1 11 (.mov (tm 1)),
 o1 7 (.mov (tm 11))]) (.seq (.block 0 (.loop zfQ_l0)) (.seq (.region [
 o1 45 (.mov (tm 7)),
 o1 46 (.mov (tm 1)),
 o1 47 (.bin .gtr (so (.binOp .gtr 3 (tm 45) (tm 46) 3) 4) (tm 45) (tm 46)),
 o1 6 (.mov (tm 47))]) .ret))))
def zfQ : AFunc := ⟨48, [(6, none)], zfQ_c, none⟩
theorem zfQ_t0 : tableOf Try.prog 72 = some zfQ := by kernel_rfl
theorem zfQ_t : T0 72 = some zfQ := withKept_t rfl (withTrue_t rfl zfQ_t0)
theorem zfQ_runs {v0 v1 v2 : Value} {h : Heap} {R : RP} {X : XP} (k : RunC Try.prog T0 zfQ_c ⟨[v0, v1, v2, U, U, U, U, U, U, U, U, U, U, U, U, U, U, U, U, U, U, U, U, U, U, U, U, U, U, U, U, U, U, U, U, U, U, U, U, U, U, U, U, U, U, U, U, U], [], h, none⟩ (bodyQ Try.prog T0 [(6, none)] R X)) :
 Runs Try.prog T0 (.fn 72) [v0, v1, v2] h R X := Runs.fn zfQ_t rfl k
abbrev zfQ_l0_M : List Nat := [0, 0, 0, 0, 0, 0, 0, 2, 1, 1, 1, 0, 1, 1, 1, 1, 1, 1, 1, 1, 1, 1, 1, 1, 1, 1, 1, 1, 1, 1, 1, 1, 1, 1, 1, 1, 1, 1, 1, 1, 1, 1, 1, 1, 1, 0, 0, 0]
abbrev fn_znbQ : FuncId := 73
def znbQ_l0 : ACode :=
 (.seq (.region [
 o1 7 (.nextMap (tm 6)),
 o1 8 (.extract 0 (tm 7))]) (.seq (.cond (tm 8)
 .skip
 (.exit 0)) (.block 1 (.seq (.region [
 o1 9 (.entryMap (tm 6)),
 o1 10 (.extract 1 (tm 9)),
 o1 4 (.mov (tm 10))]) (.seq (.region [
 o1 11 (.mov (tm 0)),
 o1 12 (.mov (tm 4)),
 o1 13 (.callV (tm 11) [(tm 12)]),
 o1 14 (.raw (so (.unOp .not 4 (tm 13)) 4))]) (.cond (tm 14)
 .ret
 .skip))))))
def znbQ_c : ACode :=
 (.seq (.region [
 o1 5 (.load none (tm 1)),
 o1 6 (.rangeMap (tm 5))]) (.block 0 (.loop znbQ_l0)))
def znbQ : AFunc := ⟨15, [], znbQ_c, none⟩
theorem znbQ_t0 : tableOf Try.prog 73 = some znbQ := by kernel_rfl
theorem znbQ_t : T0 73 = some znbQ := withKept_t rfl (withTrue_t rfl znbQ_t0)
theorem znbQ_runs {v0 v1 : Value} {h : Heap} {R : RP} {X : XP} (k : RunC Try.prog T0 znbQ_c ⟨[v0, v1, U, U, U, U, U, U, U, U, U, U, U, U, U], [], h, none⟩ (bodyQ Try.prog T0 [] R X)) :
 Runs Try.prog T0 (.fn 73) [v0, v1] h R X := Runs.fn znbQ_t rfl k
abbrev znbQ_l0_M : List Nat := [0, 0, 0, 0, 1, 0, 0, 1, 1, 1, 1, 1, 1, 1, 1]
abbrev fn_zcQ : FuncId := 74
def zcQ_c : ACode :=
 (.seq (.region [
 o1 2 (.mov (.const (.bool false)))]) (.seq (.region [
 o1 3 (.mov (tm 0)),
 o1 4 (.mov (tm 0)),
 o1 5 (.bin .neq (so (.binOp .neq 3 (tm 3) (tm 4) 3) 4) (tm 3) (tm 4)),
 o1 2 (.mov (tm 5))]) .ret))
def zcQ : AFunc := ⟨6, [(2, none)], zcQ_c, none⟩
theorem zcQ_t0 : tableOf Try.prog 74 = some zcQ := by kernel_rfl
theorem zcQ_t : T0 74 = some zcQ := withKept_t rfl (withTrue_t rfl zcQ_t0)
theorem zcQ_runs {v0 : Value} {h : Heap} {R : RP} {X : XP} (k : RunC Try.prog T0 zcQ_c ⟨[v0, U, U, U, U, U], [], h, none⟩ (bodyQ Try.prog T0 [(2, none)] R X)) :
 Runs Try.prog T0 (.fn 74) [v0] h R X := Runs.fn zcQ_t rfl k
abbrev fn_zkcQ : FuncId := 92
def zkcQ_c : ACode :=
 (.seq (.region [
 o1 6 (.mov (.const (.bool false)))]) (.seq (.regionD [
 o1 7 (.mov (tm 0)),
 o1 8 (.mov (tm 1)),
 o1 9 (.indexSl 1 (tm 7) (tm 8)),
 o1 10 (.load none (tm 9)),
 o1 11 (.mov (tm 0)),
 o1 12 (.mov (tm 2)),
 o1 13 (.indexSl 1 (tm 11) (tm 12)),
 o1 14 (.load none (tm 13)),
 o2 15 (.bin .lss (so (.binOp .lss 3 (tm 10) (tm 14) 3) 4) (tm 10) (tm 14)),
 o2 6 (.mov (tm 15))]) .ret))
def zkcQ : AFunc := ⟨16, [(6, none)], zkcQ_c, none⟩
theorem zkcQ_t0 : tableOf Try.prog 92 = some zkcQ := by kernel_rfl
theorem zkcQ_t : T0 92 = some zkcQ := withKept_t rfl (withTrue_t rfl zkcQ_t0)
theorem zkcQ_runs {v0 v1 v2 : Value} {h : Heap} {R : RP} {X : XP} (k : RunC Try.prog T0 zkcQ_c ⟨[v0, v1, v2, U, U, U, U, U, U, U, U, U, U, U, U, U], [], h, none⟩ (bodyQ Try.prog T0 [(6, none)] R X)) :
 Runs Try.prog T0 (.fn 92) [v0, v1, v2] h R X := Runs.fn zkcQ_t rfl k
abbrev fn_zmcQ : FuncId := 93
def zmcQ_c : ACode :=
 (.regionD [
 o1 6 (.mov (tm 0)),
 o1 7 (.mov (tm 1)),
 o1 8 (.mov (tm 0)),
 o1 9 (.mov (tm 2)),
 o1 10 (.mov (tm 0)),
 o1 11 (.mov (tm 2)),
 o1 12 (.indexSl 1 (tm 10) (tm 11)),
 o1 13 (.load none (tm 12)),
 o1 14 (.mov (tm 0)),
 o1 15 (.mov (tm 1)),
 o1 16 (.indexSl 1 (tm 14) (tm 15)),
 o1 17 (.load none (tm 16)),
 o1 18 (.indexSl 1 (tm 6) (tm 7)),
 ⟨none, .store 1 (tm 18) (tm 13), none, [(some 9, .mov (tm 2), none), (some 8, .mov (tm 0), none)], false⟩,
 o2 19 (.indexSl 1 (tm 8) (tm 9)),
 ⟨none, .store 1 (tm 19) (tm 17), none, [], true⟩])
def zmcQ : AFunc := ⟨20, [], zmcQ_c, none⟩
theorem zmcQ_t0 : tableOf Try.prog 93 = some zmcQ := by kernel_rfl
theorem zmcQ_t : T0 93 = some zmcQ := withKept_t rfl (withTrue_t rfl zmcQ_t0)
theorem zmcQ_runs {v0 v1 v2 : Value} {h : Heap} {R : RP} {X : XP} (k : RunC Try.prog T0 zmcQ_c ⟨[v0, v1, v2, U, U, U, U, U, U, U, U, U, U, U, U, U, U, U, U, U], [], h, none⟩ (bodyQ Try.prog T0 [] R X)) :
 Runs Try.prog T0 (.fn 93) [v0, v1, v2] h R X := Runs.fn zmcQ_t rfl k
abbrev fn_zlcQ : FuncId := 94
def zlcQ_c : ACode :=
 (.seq (.region [
 o1 2 (.mov (.const .nilIface))]) (.seq (.region [
 o1 5 (.mov (tm 0)),
 o1 6 (.nilCheck (tm 5)),
 o1 7 (.load none (tm 6)),
 o1 8 (.lenSl (tm 7)),
 o1 9 (.bin .sub (so (.binOp .sub 3 (tm 8) (.const (.int .i64 1)) 3) 3) (tm 8) (.const (.int .i64 1))),
 o1 3 (.mov (tm 9))]) (.seq (.region [
 o1 10 (.mov (tm 0)),
 o1 11 (.nilCheck (tm 10)),
 o1 12 (.load none (tm 11)),
 o1 13 (.mov (tm 3)),
 o1 14 (.indexSl 1 (tm 12) (tm 13)),
 o1 15 (.load none (tm 14)),
 o1 4 (.mov (tm 15))]) (.seq (.region [
 o1 16 (.mov (tm 0)),
 o1 17 (.mov (tm 0)),
 o1 18 (.nilCheck (tm 17)),
 o1 19 (.load none (tm 18)),
 o1 20 (.mov (tm 3)),
 o1 21 (.sliceSl 1 (tm 19) none (some (tm 20)) none),
 o1 22 (.nilCheck (tm 16)),
 o3 (.store 1 (tm 22) (tm 21))]) (.seq (.region [
 o1 23 (.mov (tm 4)),
 o1 24 (.mkIface 3 (tm 23)),
 o1 2 (.mov (tm 24))]) .ret)))))
def zlcQ : AFunc := ⟨25, [(2, none)], zlcQ_c, none⟩
theorem zlcQ_t0 : tableOf Try.prog 94 = some zlcQ := by kernel_rfl
theorem zlcQ_t : T0 94 = some zlcQ := withKept_t rfl (withTrue_t rfl zlcQ_t0)
theorem zlcQ_runs {v0 : Value} {h : Heap} {R : RP} {X : XP} (k : RunC Try.prog T0 zlcQ_c ⟨[v0, U, U, U, U, U, U, U, U, U, U, U, U, U, U, U, U, U, U, U, U, U, U, U, U], [], h, none⟩ (bodyQ Try.prog T0 [(2, none)] R X)) :
 Runs Try.prog T0 (.fn 94) [v0] h R X := Runs.fn zlcQ_t rfl k
end Go.Proofs.Ytmhnddkpiefkhaa.A

namespace Go.Proofs.Ytmhnddkpiefkhaa.A
open Go Go.Vm
set_option maxRecDepth 10000
set_option linter.unusedVariables false
theorem l32 {l : List UInt8} (h : l.length = 32) : L32 (bcells l) := ⟨by simpa [bcells] using h⟩
end Go.Proofs.Ytmhnddkpiefkhaa.A

namespace Go.Proofs.Ytmhnddkpiefkhaa.A
open Go Go.Vm
set_option maxRecDepth 10000
set_option linter.unusedVariables false
structure Hd where
  chain : List UInt8
  height : Int
  time : Int
  prev : List UInt8
  vals : List UInt8
  next : List UInt8
  app : List UInt8
structure Hd.ok (x : Hd) : Prop where
  prev : x.prev.length = 32
  vals : x.vals.length = 32
  next : x.next.length = 32
  app : x.app.length = 32
abbrev Hd.cells (x : Hd) : List Value := .string ⟨⟨x.chain⟩⟩ :: .int .i64 x.height :: .int .i64 x.time :: (bcells x.prev ++ (bcells x.vals ++ (bcells x.next ++ bcells x.app)))
end Go.Proofs.Ytmhnddkpiefkhaa.A

namespace Go.Proofs.Ytmhnddkpiefkhaa.A
open Go Go.Vm
set_option maxRecDepth 10000
set_option linter.unusedVariables false
structure Val where
  k0 : UInt8
  k1 : UInt8
  k2 : UInt8
  k3 : UInt8
  p : Int
deriving DecidableEq
abbrev Val.key (v : Val) : List UInt8 := [v.k0, v.k1, v.k2, v.k3]
abbrev Val.cells (v : Val) : List Value := [.int .u8 v.k0.toNat, .int .u8 v.k1.toNat, .int .u8 v.k2.toNat, .int .u8 v.k3.toNat, .int .i64 v.p]
abbrev zVal : Val := ⟨0, 0, 0, 0, 0⟩
def Val.of (l : List UInt8) (p : Int) : Val := ⟨l.getD 0 0, l.getD 1 0, l.getD 2 0, l.getD 3 0, p⟩
def vcells (l : List Val) : List Value := l.flatMap Val.cells
theorem vcells_nil : vcells [] = [] := rfl
theorem vcells_cons (v : Val) (l : List Val) : vcells (v :: l) = v.cells ++ vcells l := rfl
theorem vcells_len : ∀ l : List Val, (vcells l).length = l.length * 5
  | [] => rfl
  | v :: l => by rw [vcells_cons, List.length_append, vcells_len l]; simp; omega
theorem vcells_one : ∀ l : List Val, (vcells l).all Value.oneCell' = true
  | [] => rfl
  | v :: l => by rw [vcells_cons, List.all_append, vcells_one l]; rfl
theorem vcells_at : ∀ {l : List Val} {k : Nat}, k < l.length → ((vcells l).drop (k * 5)).take 5 = (l.getD k zVal).cells
  | v :: l, 0, _ => by rw [vcells_cons]; rfl
  | v :: l, k + 1, h => by
    have := vcells_at (l := l) (k := k) (by simpa using h)
    rw [vcells_cons, show (k + 1) * 5 = v.cells.length + k * 5 from by simp; omega, ← List.drop_drop, List.drop_left]
    exact this
theorem val_cells {h : Heap} {b o n k : Nat} {l : List Val} (hc : cellsAt h b o (n * 5) = some (vcells l)) (hn : l.length = n) (hk : k < n) : Cells h b (o + k * 5) 5 (l.getD k zVal).cells := ⟨by
  rw [cellsAt_sub hc (by omega), vcells_at (by omega)]⟩
end Go.Proofs.Ytmhnddkpiefkhaa.A

namespace Go.Proofs.Ytmhnddkpiefkhaa.A
open Go Go.Vm
set_option maxRecDepth 10000
set_option linter.unusedVariables false
theorem mkStoreN {P : Program} {ts : List Value} {h : Heap} {a x : Operand} {v : Value} {o r n es : Nat} {sp : Option Nat} {xs c : List Value} (ho : o + xs.length ≤ c.length) (h1 : xs.all Value.oneCell' = true) (hn : n = xs.length) [e : Ev ts a (.pointer (some ⟨r, o, sp⟩))] [f : Ev ts x v] [k : CellsOf v xs] [g : HGet h r (.cells c es)] :
    xop P (eval ts) h (.store n a x) = .ok undef (h.set r (.cells (over c o xs) es)) := by
  have hp : putAt h r o xs = some (h.set r (.cells (over c o xs) es)) := by
    unfold putAt
    rw [g.eq]
    show (if o + xs.length ≤ c.length ∧ xs.all Value.oneCell' = true then some (h.set r (.cells (over c o xs) es)) else none) = _
    rw [if_pos ⟨ho, h1⟩]
  subst hn
  simp only [xop, e.eq, f.eq, k.eq, k.len, hp, if_true]
theorem Rd.block_lt {h : Heap} {size n : Nat} {v : Value} {c : List Value} (hv : Rd h size v c n) {i : Nat} (hi : blockOf v i) : i < h.n := by
  obtain ⟨a, cap, rfl, _, hc⟩ := hv
  cases a with
  | none => exact hi.elim
  | some a =>
    obtain ⟨h1, h2⟩ := hi
    obtain ⟨b, o, sp, e, hb, _⟩ := hc h2
    cases e
    subst h1
    exact hb
theorem OverVals_ok {h : Heap} {v : Value} {c : List Value} {n : Nat} (ho : Own h 5 v c n) (hs : n < 1048576) :
    Runs Try.prog T0 (.fn fn_znQ) [v] h (fun r h' => Fr (ownedBy v) h h') (fun _ _ => False) := by
  refine znQ_runs ?_
  cases ho with
  | none =>
    refine stpP ?_
    refine loop1 znQ_l0_M 2 (fun m v2 h' => v2 = .int .i64 0 ∧ h' = h) ?_ 0 ⟨rfl, rfl⟩
    rintro m v2 h' x3 x4 x5 x6 x7 x8 x9 x10 x11 x12 ⟨rfl, rfl⟩
    refine stpP ?_
    exact Fr.refl
  | lit hq hg =>
    refine stpP ?_
    refine loop1 znQ_l0_M 2 (fun m v2 h' => v2 = .int .i64 0 ∧ h' = h) ?_ 0 ⟨rfl, rfl⟩
    rintro m v2 h' x3 x4 x5 x6 x7 x8 x9 x10 x11 x12 ⟨rfl, rfl⟩
    refine stpP ?_
    exact Fr.refl
  | grown hq hn hle hl hl2 hg =>
    rename_i q kk cap j
    refine stpP ?_
    refine loop1 znQ_l0_M 2 (fun m v2 h' => ∃ k : Nat, k ≤ n ∧ m = n - k ∧ v2 = .int .i64 k ∧ (∃ cs, h'.get q = .cells cs 5 ∧ cs.length = cap * 5) ∧ Fr (ownedBy (.slice (some ⟨q, 0, some kk⟩) n cap)) h h') ?_ n ⟨0, by omega, rfl, rfl, ⟨_, hg, hl2⟩, Fr.refl⟩
    rintro m v2 h' x3 x4 x5 x6 x7 x8 x9 x10 x11 x12 ⟨k, hk, rfl, rfl, ⟨cs, hg', hcs⟩, hf⟩
    haveI : HGet h' q _ := ⟨hg'⟩
    refine stpP ?_
    refine C.if (fun hlt => ?_) (fun hge => ?_)
    · refine stpP ?_
      refine O.by0 (mkStoreN (xs := [.int .u8 0, .int .u8 0, .int .u8 0, .int .u8 0, .int .i64 (-7)]) (c := cs) (r := q) (es := 5) (by simp; omega) rfl rfl) rfl ?_
      refine stpP ?_
      refine loop1a 2 (n - (k + 1)) (by omega) ⟨k + 1, by omega, rfl, rfl, ⟨_, by rw [Heap.get_set, if_pos rfl], ?_⟩, Fr.set hf fun _ => rfl⟩
      rw [over_length _ _ _ (by simp; omega), hcs]
    · refine stpP ?_
      exact hf
end Go.Proofs.Ytmhnddkpiefkhaa.A

namespace Go.Proofs.Ytmhnddkpiefkhaa.A
open Go Go.Vm
set_option maxRecDepth 10000
set_option linter.unusedVariables false
structure Vote where
  at' : Int
  sig : Nat
abbrev Vote.cells (v : Vote) : List Value := [.int .i64 v.at', .int .u64 v.sig]
abbrev zVote : Vote := ⟨0, 0⟩
def tcells (l : List Vote) : List Value := l.flatMap Vote.cells
theorem tcells_nil : tcells [] = [] := rfl
theorem tcells_cons (v : Vote) (l : List Vote) : tcells (v :: l) = v.cells ++ tcells l := rfl
theorem tcells_len : ∀ l : List Vote, (tcells l).length = l.length * 2
  | [] => rfl
  | v :: l => by rw [tcells_cons, List.length_append, tcells_len l]; simp; omega
theorem tcells_at : ∀ {l : List Vote} {k : Nat}, k < l.length → ((tcells l).drop (k * 2)).take 2 = (l.getD k zVote).cells
  | v :: l, 0, _ => by rw [tcells_cons]; rfl
  | v :: l, k + 1, h => by
    have := tcells_at (l := l) (k := k) (by simpa using h)
    rw [tcells_cons, show (k + 1) * 2 = v.cells.length + k * 2 from by simp; omega, ← List.drop_drop, List.drop_left]
    exact this
theorem vote_cells {h : Heap} {b o n k : Nat} {l : List Vote} (hc : cellsAt h b o (n * 2) = some (tcells l)) (hn : l.length = n) (hk : k < n) : Cells h b (o + k * 2) 2 (l.getD k zVote).cells := ⟨by
  rw [cellsAt_sub hc (by omega), tcells_at (by omega)]⟩
end Go.Proofs.Ytmhnddkpiefkhaa.A

namespace Go.Proofs.Ytmhnddkpiefkhaa.A
open Go Go.Vm
set_option maxRecDepth 10000
set_option linter.unusedVariables false
structure Cm where
  height : Int
  hash : List UInt8
  votes : List Vote
abbrev Cm.cells (x : Cm) (sv : Value) : List Value := .int .i64 x.height :: (bcells x.hash ++ [sv])
abbrev zCm : Cm := ⟨0, zb32, []⟩
end Go.Proofs.Ytmhnddkpiefkhaa.A

namespace Go.Proofs.Ytmhnddkpiefkhaa.A
open Go Go.Vm
set_option maxRecDepth 10000
set_option linter.unusedVariables false
def zeroHd : Hd := ⟨[], 0, 0, zb32, zb32, zb32, zb32⟩
theorem zeroHd_ok : zeroHd.ok := ⟨rfl, rfl, rfl, rfl⟩
end Go.Proofs.Ytmhnddkpiefkhaa.A

namespace Go.Proofs.Ytmhnddkpiefkhaa.A
open Go Go.Vm
set_option maxRecDepth 10000
set_option linter.unusedVariables false
structure Bk where
  h : Hd
  c : Cm
  vals : List Val
abbrev zBk : Bk := ⟨zeroHd, zCm, []⟩
structure Bk.ok (x : Bk) : Prop where
  h : x.h.ok
  hash : x.c.hash.length = 32
  votes : x.c.votes.length ≤ 64
  vals : x.vals.length ≤ 64
abbrev Bk.cells (x : Bk) (sv sl : Value) : List Value := .string ⟨⟨x.h.chain⟩⟩ :: .int .i64 x.h.height :: .int .i64 x.h.time :: (bcells x.h.prev ++ (bcells x.h.vals ++ (bcells x.h.next ++ (bcells x.h.app ++ (.int .i64 x.c.height :: (bcells x.c.hash ++ [sv, sl]))))))
abbrev zBc : List Value := .string ⟨⟨[]⟩⟩ :: .int .i64 0 :: .int .i64 0 :: (z32 ++ (z32 ++ (z32 ++ (z32 ++ (.int .i64 0 :: (z32 ++ [.slice none 0 0, .slice none 0 0]))))))
structure BkOwn (h : Heap) (lo : Nat) (x : Bk) (sv sl : Value) : Prop where
  votes : Own h 2 sv (tcells x.c.votes) x.c.votes.length
  vals : Own h 5 sl (vcells x.vals) x.vals.length
  vnew : ∀ i, ownedBy sv i → lo ≤ i
  lnew : ∀ i, ownedBy sl i → lo ≤ i
  apart : ∀ i, ownedBy sv i → ¬ ownedBy sl i
theorem BkOwn.keep {S : Nat → Prop} {h h' : Heap} {lo : Nat} {x : Bk} {sv sl : Value} (hb : BkOwn h lo x sv sl) (hf : Fr S h h') (hs : ∀ i, S i → i < lo ∨ h.n ≤ i) : BkOwn h' lo x sv sl :=
  ⟨hb.votes.keep hf fun i hi h => (by have := hb.vnew i hi; have := hb.votes.lt hi; have := hs i h; omega), hb.vals.keep hf fun i hi h => (by have := hb.lnew i hi; have := hb.vals.lt hi; have := hs i h; omega), hb.vnew, hb.lnew, hb.apart⟩
theorem BkOwn.zero {h : Heap} {lo : Nat} : BkOwn h lo zBk (.slice none 0 0) (.slice none 0 0) := ⟨.none, .none, fun i hi => hi.elim, fun i hi => hi.elim, fun i hi => hi.elim⟩
end Go.Proofs.Ytmhnddkpiefkhaa.A

namespace Go.Proofs.Ytmhnddkpiefkhaa.A
open Go Go.Vm
set_option maxRecDepth 10000
set_option linter.unusedVariables false
theorem OverCommit_ok {h : Heap} {x : Cm} {sv : Value} {c : List Value} {n : Nat} (hl : x.hash.length = 32) (ho : Own h 2 sv c n) (hs : n < 1048576) :
    Runs Try.prog T0 (.fn fn_zlQ) [.agg ⟨x.cells sv⟩] h (fun r h' => Fr (ownedBy sv) h h') (fun _ _ => False) := by
  haveI := l32 hl
  refine zlQ_runs ?_
  cases ho with
  | none =>
    refine stpP ?_
    refine loop1 zlQ_l0_M 2 (fun m v2 h' => v2 = .int .i64 0 ∧ h' = h.push (.cells (x.cells (.slice none 0 0)) 0)) ?_ 0 ⟨rfl, rfl⟩
    rintro m v2 h' x3 x4 x5 x6 x7 x8 x9 x10 x11 x12 x13 x14 ⟨rfl, rfl⟩
    refine stpP ?_
    exact Fr.refl.push
  | lit hq hg =>
    rename_i q es
    refine stpP ?_
    refine loop1 zlQ_l0_M 2 (fun m v2 h' => v2 = .int .i64 0 ∧ h' = h.push (.cells (x.cells (.slice (some ⟨q, 0, none⟩) 0 0)) 0)) ?_ 0 ⟨rfl, rfl⟩
    rintro m v2 h' x3 x4 x5 x6 x7 x8 x9 x10 x11 x12 x13 x14 ⟨rfl, rfl⟩
    refine stpP ?_
    exact Fr.refl.push
  | grown hq hn hle hl2 hl3 hg =>
    rename_i q kk cap j
    refine stpP ?_
    refine loop1 zlQ_l0_M 2 (fun m v2 h' => ∃ k : Nat, k ≤ n ∧ m = n - k ∧ v2 = .int .i64 k ∧ (∃ cs, h'.get q = .cells cs 2 ∧ cs.length = cap * 2) ∧ h'.get h.n = .cells (x.cells (.slice (some ⟨q, 0, some kk⟩) n cap)) 0 ∧ Fr (ownedBy (.slice (some ⟨q, 0, some kk⟩) n cap)) h h') ?_ n ⟨0, by omega, rfl, rfl, ⟨_, by rw [Heap.get_push, if_neg (by omega), hg], hl3⟩, by rw [Heap.get_push, if_pos rfl], Fr.refl.push⟩
    rintro m v2 h' x3 x4 x5 x6 x7 x8 x9 x10 x11 x12 x13 x14 ⟨k, hk, rfl, rfl, ⟨cs, hg', hcs⟩, hgb, hf⟩
    haveI : HGet h' q _ := ⟨hg'⟩
    haveI : HGet h' h.n _ := ⟨hgb⟩
    refine stpP ?_
    refine C.if (fun hlt => ?_) (fun hge => ?_)
    · refine stpP ?_
      refine O.by0 (mkStoreN (xs := [.int .i64 (-7), .int .u64 0]) (c := cs) (r := q) (es := 2) (by simp; omega) rfl rfl) rfl ?_
      refine stpP ?_
      refine loop1a 2 (n - (k + 1)) (by omega) ⟨k + 1, by omega, rfl, rfl, ⟨_, by rw [Heap.get_set, if_pos rfl], ?_⟩, by rw [Heap.get_set, if_neg (by omega), hgb], Fr.set hf fun _ => rfl⟩
      rw [over_length _ _ _ (by simp; omega), hcs]
    · refine stpP ?_
      exact hf
end Go.Proofs.Ytmhnddkpiefkhaa.A

namespace Go.Proofs.Ytmhnddkpiefkhaa.A
open Go Go.Vm
set_option maxRecDepth 10000
set_option linter.unusedVariables false
theorem appendLitV {P : Program} {T : Table} {ts : List Value} {ds : List Deferred} {h : Heap} {rd : Option Nat} {dst bytes el : Nat} {x y : Operand} {chk : List (Option Nat × AOp × Option (Nat × Bool))} {pan : Bool} {rest : List AOper} {Q : QP} {F : Value → List Value} {w : Value} {l : List Val}
    [e1 : Ev ts x (.slice (some ⟨h.n, 0, none⟩) 0 0)] [e2 : Ev ts y w] [s : LSetF ts dst F] (hv : Rd h 5 w (vcells l) l.length) (hs : l.length < 1048576) (hb : bytes < 1048576)
    (hk : ∀ v' h', Own h' 5 v' (vcells l) l.length → Fr (fun _ => False) h h' → (∀ i, ownedBy v' i → h.n ≤ i) → RunO P T rest ⟨F v', ds, h', rd⟩ Q) :
    RunO P T (⟨some dst, .append el 5 bytes [.int .u8 0, .int .u8 0, .int .u8 0, .int .u8 0, .int .i64 0] false x y, none, chk, pan⟩ :: rest) ⟨ts, ds, h.push (.cells [] 0), rd⟩ Q := by
  have f0 : Fr (fun _ => False) h (h.push (.cells [] 0)) := Fr.refl.push
  have hz : Own (h.push (.cells [] 0)) 5 (.slice (some ⟨h.n, 0, none⟩) 0 0) [] 0 := .lit (by simp) (by rw [Heap.get_push, if_pos rfl])
  refine O.append hz ((hv.keep f0 fun _ _ => id).new _) (vcells_len l) (vcells_one l) (by omega) (by omega) (by omega) (fun v' h' h1 h2 h3 => ?_)
  rw [Nat.zero_add, List.nil_append] at h1
  refine hk v' h' h1 (f0.trans (S := fun _ => False) h2 fun i hi ho => ?_) fun i hi => ?_
  · have : h.n = i := ho
    omega
  · rcases h3 i hi with h4 | h4
    · have : h.n = i := h4
      omega
    · simp at h4; omega
theorem CloneV_ok {h : Heap} {v : Value} {l : List Val} (hr : Rd h 5 v (vcells l) l.length) (hs : l.length < 1048576) :
    Runs Try.prog T0 (.fn fn_zpbQ) [v] h
      (fun r h' => Own h' 5 r (vcells l) l.length ∧ Fr (fun _ => False) h h' ∧ ∀ i, ownedBy r i → h.n ≤ i) (fun _ _ => False) := by
  have hr0 := hr
  obtain ⟨a, cap, rfl, hlen, hc⟩ := hr
  refine zpbQ_runs ?_
  cases a with
  | none =>
    have hl : l = [] := by
      cases l with
      | nil => rfl
      | cons b l => obtain ⟨_, _, _, h1, _⟩ := hc (by simp); cases h1
    subst hl
    refine stp ?_
    exact ⟨.none, Fr.refl, fun i hi => hi.elim⟩
  | some a =>
    refine stp ?_
    refine appendLitV hr0 hs (by omega) (fun v' h' h1 h2 h3 => ?_)
    refine stp ?_
    exact ⟨h1, h2, h3⟩
theorem CopyVals_ok {h : Heap} {v : Value} {l : List Val} (hr : Rd h 5 v (vcells l) l.length) (hs : l.length < 1048576) :
    Runs Try.prog T0 (.fn fn_ziQ) [v] h
      (fun r h' => Own h' 5 r (vcells l) l.length ∧ Fr (fun _ => False) h h' ∧ ∀ i, ownedBy r i → h.n ≤ i) (fun _ _ => False) := by
  have hr0 := hr
  obtain ⟨a, cap, rfl, hlen, hc⟩ := hr
  refine ziQ_runs ?_
  refine stp ?_
  refine appendLitV hr0 hs (by omega) (fun v' h' h1 h2 h3 => ?_)
  refine stp ?_
  exact ⟨h1, h2, h3⟩
end Go.Proofs.Ytmhnddkpiefkhaa.A

namespace Go.Proofs.Ytmhnddkpiefkhaa.A
open Go Go.Vm
set_option maxRecDepth 10000
set_option linter.unusedVariables false
structure BkRd (h : Heap) (x : Bk) (sv sl : Value) : Prop where
  hd : x.h.ok
  hash : x.c.hash.length = 32
  sv : Rd h 2 sv (tcells x.c.votes) x.c.votes.length
  sl : Rd h 5 sl (vcells x.vals) x.vals.length
theorem BkRd.keep {S : Nat → Prop} {h h' : Heap} {x : Bk} {sv sl : Value} (hb : BkRd h x sv sl) (hf : Fr S h h') (hs : ∀ i, i < h.n → ¬ S i) : BkRd h' x sv sl :=
  ⟨hb.hd, hb.hash, hb.sv.keep hf fun i hi => hs i (Rd.block_lt hb.sv hi), hb.sl.keep hf fun i hi => hs i (Rd.block_lt hb.sl hi)⟩
end Go.Proofs.Ytmhnddkpiefkhaa.A

namespace Go.Proofs.Ytmhnddkpiefkhaa.A
open Go Go.Vm
set_option maxRecDepth 10000
set_option linter.unusedVariables false
theorem LongBlock_ok {h : Heap} {x : Bk} {sv sl : Value} (hb : BkRd h x sv sl) :
    Runs Try.prog T0 (.fn fn_zjQ) [.agg ⟨x.cells sv sl⟩] h (fun r h' => (∃ b : Bool, r = .bool b ∧ (b = false → x.vals.length ≤ 70 ∧ x.c.votes.length ≤ 70 ∧ x.h.chain.length ≤ 60)) ∧ Fr (fun _ => False) h h') (fun _ _ => False) := by
  have hx := hb.hd
  have hch := hb.hash
  haveI := l32 hx.prev
  haveI := l32 hx.vals
  haveI := l32 hx.next
  haveI := l32 hx.app
  haveI := l32 hch
  obtain ⟨a1, c1, rfl, _, _⟩ := id hb.sv
  obtain ⟨a2, c2, rfl, _, _⟩ := id hb.sl
  have hsz : (ByteArray.mk ⟨x.h.chain⟩).size = x.h.chain.length := rfl
  refine zjQ_runs ?_
  refine stp ?_
  refine O.dec (fun h1 => ?_) (fun h1 => ?_)
  · refine stp ?_
    exact ⟨⟨true, rfl, fun h => by cases h⟩, Fr.refl.push⟩
  refine stp ?_
  refine O.dec (fun h2 => ?_) (fun h2 => ?_)
  · refine stp ?_
    exact ⟨⟨true, rfl, fun h => by cases h⟩, Fr.refl.push⟩
  refine stp ?_
  exact ⟨⟨_, rfl, fun h => by have := of_decide_eq_false h; omega⟩, Fr.refl.push⟩
theorem tcells_oneE : ∀ l : List Vote, (tcells l).all Value.oneCell' = true
  | [] => rfl
  | v :: l => by rw [tcells_cons, List.all_append, tcells_oneE l]; rfl
theorem appendLitC {P : Program} {T : Table} {ts : List Value} {ds : List Deferred} {h : Heap} {rd : Option Nat} {dst bytes el : Nat} {x y : Operand} {chk : List (Option Nat × AOp × Option (Nat × Bool))} {pan : Bool} {rest : List AOper} {Q : QP} {F : Value → List Value} {w : Value} {l : List Vote} {zero : List Value}
    [e1 : Ev ts x (.slice (some ⟨h.n, 0, none⟩) 0 0)] [e2 : Ev ts y w] [s : LSetF ts dst F] (hv : Rd h 2 w (tcells l) l.length) (hs : l.length < 1048576) (hb : bytes < 1048576)
    (hk : ∀ v' h', Own h' 2 v' (tcells l) l.length → Fr (fun _ => False) h h' → (∀ i, ownedBy v' i → h.n ≤ i) → RunO P T rest ⟨F v', ds, h', rd⟩ Q) :
    RunO P T (⟨some dst, .append el 2 bytes zero false x y, none, chk, pan⟩ :: rest) ⟨ts, ds, h.push (.cells [] 0), rd⟩ Q := by
  have f0 : Fr (fun _ => False) h (h.push (.cells [] 0)) := Fr.refl.push
  have hz : Own (h.push (.cells [] 0)) 2 (.slice (some ⟨h.n, 0, none⟩) 0 0) [] 0 := .lit (by simp) (by rw [Heap.get_push, if_pos rfl])
  have one := tcells_oneE l
  refine O.append hz ((hv.keep f0 fun _ _ => id).new _) (tcells_len l) one (by omega) (by omega) (by omega) (fun v' h' h1 h2 h3 => ?_)
  rw [Nat.zero_add, List.nil_append] at h1
  refine hk v' h' h1 (f0.trans (S := fun _ => False) h2 fun i hi ho => ?_) fun i hi => ?_
  · have : h.n = i := ho
    omega
  · rcases h3 i hi with h4 | h4
    · have : h.n = i := h4
      omega
    · simp at h4; omega
set_option maxHeartbeats 4000000 in
theorem CopyCommit_ok {h : Heap} {ht : Int} {hs : List UInt8} {sv : Value} {l : List Vote} (hl : hs.length = 32) (hv : Rd h 2 sv (tcells l) l.length) (hsm : l.length < 1048576) :
    Runs Try.prog T0 (.fn fn_zhQ) [.agg ⟨.int .i64 ht :: (bcells hs ++ [sv])⟩] h
      (fun r h' => ∃ sw, r = .agg ⟨.int .i64 ht :: (bcells hs ++ [sw])⟩ ∧ Own h' 2 sw (tcells l) l.length ∧ (∀ i, ownedBy sw i → h.n ≤ i) ∧ Fr (fun _ => False) h h') (fun _ _ => False) := by
  haveI := l32 hl
  obtain ⟨a1, c1, rfl, _, _⟩ := id hv
  refine zhQ_runs ?_
  refine stp ?_
  have gA : HGet ((h.push (.cells (.int .i64 ht :: (bcells hs ++ [.slice a1 l.length c1])) 0)).push (.cells (.int .i64 0 :: (z32 ++ [.slice none 0 0])) 0)) h.n (.cells (.int .i64 ht :: (bcells hs ++ [.slice a1 l.length c1])) 0) := HGet.push (k := BLt.new) (g := HGet.new)
  have gB : HGet ((h.push (.cells (.int .i64 ht :: (bcells hs ++ [.slice a1 l.length c1])) 0)).push (.cells (.int .i64 0 :: (z32 ++ [.slice none 0 0])) 0)) (h.push (.cells (.int .i64 ht :: (bcells hs ++ [.slice a1 l.length c1])) 0)).n (.cells (.int .i64 0 :: (z32 ++ [.slice none 0 0])) 0) := HGet.new
  have f0 : Fr (fun _ => False) h ((h.push (.cells (.int .i64 ht :: (bcells hs ++ [.slice a1 l.length c1])) 0)).push (.cells (.int .i64 0 :: (z32 ++ [.slice none 0 0])) 0)) := Fr.refl.push.push
  have n0 : ((h.push (.cells (.int .i64 ht :: (bcells hs ++ [.slice a1 l.length c1])) 0)).push (.cells (.int .i64 0 :: (z32 ++ [.slice none 0 0])) 0)).n = h.n + 2 := rfl
  have nb : (h.push (.cells (.int .i64 ht :: (bcells hs ++ [.slice a1 l.length c1])) 0)).n = h.n + 1 := rfl
  generalize (h.push (.cells (.int .i64 ht :: (bcells hs ++ [.slice a1 l.length c1])) 0)).push (.cells (.int .i64 0 :: (z32 ++ [.slice none 0 0])) 0) = h0 at *
  generalize (h.push (.cells (.int .i64 ht :: (bcells hs ++ [.slice a1 l.length c1])) 0)).n = pb at *
  refine appendLitC (hv.keep f0 fun _ _ => id) (by omega) (by omega) (fun v' h1 ho hf1 hnew => ?_)
  have gA1 := hf1.keep gA (by omega) id
  have gB1 := hf1.keep gB (by omega) id
  have n1 := hf1.n
  haveI := gA1
  haveI := gB1
  haveI : BNe pb h.n := ⟨by omega⟩
  haveI : BNe h.n pb := ⟨by omega⟩
  obtain ⟨a2, c2, rfl, _, _⟩ := id ho.rd
  refine stp ?_
  refine ⟨_, rfl, ho.keep (S := fun i => i = h.n ∨ i = pb) ((Fr.refl.set fun _ => .inl rfl).set fun _ => .inr rfl) fun b hb e => by have := hnew b hb; omega, fun i hi => by have := hnew i hi; omega, ((f0.trans' hf1).set fun e => by omega).set fun e => by omega⟩
end Go.Proofs.Ytmhnddkpiefkhaa.A

namespace Go.Proofs.Ytmhnddkpiefkhaa.A
open Go Go.Vm
set_option maxRecDepth 10000
set_option linter.unusedVariables false
def ncells (l : List Int) : List Value := l.map fun n => .int .i64 n
theorem ncells_len (l : List Int) : (ncells l).length = l.length := by simp [ncells]
theorem ncell_at {h : Heap} {b o n k : Nat} {l : List Int} (hc : cellsAt h b o (n * 1) = some (ncells l)) (hn : l.length = n) (hk : k < n) : Cell h b (o + k) (.int .i64 (l.getD k 0)) := ⟨by
  have := cellsAt_sub (k := k) (m := 1) hc (by omega)
  rw [this]
  subst hn
  unfold ncells
  have g : l.getD k 0 = l[k] := by simp [List.getD, hk]
  rw [← List.map_drop, List.drop_eq_getElem_cons hk, List.map_cons, g]
  rfl⟩
end Go.Proofs.Ytmhnddkpiefkhaa.A

namespace Go.Proofs.Ytmhnddkpiefkhaa.A
open Go Go.Vm
set_option maxRecDepth 10000
set_option linter.unusedVariables false
theorem one_int {h : Heap} {n : Int} {es : Nat} : newCells (h.push (.cells [.int .i64 n] es)) 1 [.int .i64 0] false (.slice (some ⟨h.n, 0, none⟩) 1 1) = some (1, [.int .i64 n]) :=
  (Rd.mk (size := 1) (n := 1) (cap := 1) (sp := none) (o := 0) (b := h.n) (c := [.int .i64 n]) (by simp) (by rw [cellsAt_of (c := [.int .i64 n]) (by rw [Heap.get_push, if_pos rfl]; rfl) (by simp)]; rfl)).new _
theorem ncells_append (l m : List Int) : ncells (l ++ m) = ncells l ++ ncells m := by simp [ncells]
end Go.Proofs.Ytmhnddkpiefkhaa.A

namespace Go.Proofs.Ytmhnddkpiefkhaa.A
open Go Go.Vm
set_option maxRecDepth 10000
set_option linter.unusedVariables false
end Go.Proofs.Ytmhnddkpiefkhaa.A

namespace Go.Proofs.Ytmhnddkpiefkhaa.A
open Go Go.Vm
set_option maxRecDepth 10000
set_option linter.unusedVariables false
section
variable {α : Type} [Inhabited α] {lt : α → α → Bool}
abbrev at' (l : List α) (i : Nat) : α := l.getD i default
theorem at_set {l : List α} {i k : Nat} {x : α} (hi : i < l.length) : at' (l.set i x) k = if k = i then x else at' l k := by
  simp only [at', List.getD_eq_getElem?_getD, List.getElem?_set]
  by_cases h : i = k
  · subst h; simp [hi]
  · rw [if_neg h, if_neg (fun e => h e.symm)]
theorem at_mem {l : List α} {i : Nat} (hi : i < l.length) : at' l i ∈ l := by
  simp only [at', List.getD_eq_getElem?_getD, List.getElem?_eq_getElem hi, Option.getD_some]
  exact List.getElem_mem hi
theorem at_ext {l m : List α} (hl : l.length = m.length) (h : ∀ k, k < l.length → at' l k = at' m k) : l = m := by
  refine List.ext_getElem hl fun i h1 h2 => ?_
  have := h i h1
  simpa only [at', List.getD_eq_getElem?_getD, List.getElem?_eq_getElem h1, List.getElem?_eq_getElem h2, Option.getD_some] using this
theorem at_take {l : List α} {n k : Nat} (hk : k < n) : at' (l.take n) k = at' l k := by
  simp only [at', List.getD_eq_getElem?_getD, List.getElem?_take, if_pos hk]
theorem at_append {l m : List α} {k : Nat} (hk : k < l.length) : at' (l ++ m) k = at' l k := by
  simp only [at', List.getD_eq_getElem?_getD, List.getElem?_append_left hk]
def swp (l : List α) (i j : Nat) : List α := (l.set i (at' l j)).set j (at' l i)
theorem swp_len {l : List α} {i j : Nat} : (swp l i j).length = l.length := by simp [swp]
theorem swp_at {l : List α} {i j k : Nat} (hi : i < l.length) (hj : j < l.length) : at' (swp l i j) k = if k = j then at' l i else if k = i then at' l j else at' l k := by
  unfold swp
  rw [at_set (by simpa using hj), at_set hi]
theorem swp_perm {l : List α} {i j : Nat} (hi : i < l.length) (hj : j < l.length) : (swp l i j).Perm l := by
  classical
  rw [List.perm_iff_count]
  intro b
  have e1 : at' l i = l[i] := by simp only [at', List.getD_eq_getElem?_getD, List.getElem?_eq_getElem hi, Option.getD_some]
  have e2 : at' l j = l[j] := by simp only [at', List.getD_eq_getElem?_getD, List.getElem?_eq_getElem hj, Option.getD_some]
  unfold swp
  rw [e1, e2, List.count_set (by simpa using hj), List.count_set hi]
  have c1 : l[i] = b → 0 < l.count b := fun e => List.count_pos_iff.2 (by rw [← e]; exact List.getElem_mem hi)
  rw [List.getElem_set]
  by_cases h : i = j
  · subst h
    simp only [if_true]
    by_cases h1 : l[i] = b
    · have := c1 h1; simp only [h1, beq_self_eq_true, if_true]; omega
    · have : (l[i] == b) = false := by simpa using h1
      simp only [this]; simp
  · rw [if_neg h]
    by_cases h1 : l[i] = b <;> by_cases h2 : l[j] = b
    · have := c1 h1; simp only [h1, h2, beq_self_eq_true, if_true]; omega
    · have h2' : (l[j] == b) = false := by simpa using h2
      have := c1 h1
      simp only [h1, h2', beq_self_eq_true, if_true]; simp; omega
    · have h1' : (l[i] == b) = false := by simpa using h1
      simp only [h1', h2, beq_self_eq_true, if_true]; simp
    · have h1' : (l[i] == b) = false := by simpa using h1
      have h2' : (l[j] == b) = false := by simpa using h2
      simp only [h1', h2']; simp
structure Ord (lt : α → α → Bool) : Prop where
  asy : ∀ a b, lt a b = true → lt b a = false
  tr : ∀ a b c, lt b a = false → lt c b = false → lt c a = false
abbrev edge (lt : α → α → Bool) (l : List α) (k : Nat) : Prop := lt (at' l k) (at' l ((k - 1) / 2)) = false
def HeapP (lt : α → α → Bool) (lo n : Nat) (l : List α) : Prop := ∀ k, 0 < k → k < n → lo ≤ (k - 1) / 2 → edge lt l k
def kid (lt : α → α → Bool) (l : List α) (i n : Nat) : Nat := if 2 * i + 2 < n ∧ lt (at' l (2 * i + 2)) (at' l (2 * i + 1)) = true then 2 * i + 2 else 2 * i + 1
def downF (lt : α → α → Bool) : Nat → List α → Nat → Nat → List α × Nat
  | 0, l, i, _ => (l, i)
  | m + 1, l, i, n => if n ≤ 2 * i + 1 then (l, i) else if lt (at' l (kid lt l i n)) (at' l i) then downF lt m (swp l i (kid lt l i n)) (kid lt l i n) n else (l, i)
structure DInv (lt : α → α → Bool) (lo n i : Nat) (b : Prop) (l : List α) : Prop where
  a : ∀ k, 0 < k → k < n → lo ≤ (k - 1) / 2 → (k - 1) / 2 ≠ i → (k = i → b) → edge lt l k
  c : ∀ k, 0 < k → k < n → (k - 1) / 2 = i → 0 < i → lo ≤ (i - 1) / 2 → lt (at' l k) (at' l ((i - 1) / 2)) = false
theorem kid_lt {l : List α} {i n : Nat} (h : 2 * i + 1 < n) : kid lt l i n < n ∧ (kid lt l i n - 1) / 2 = i ∧ i < kid lt l i n := by
  unfold kid
  split
  · rename_i h1; exact ⟨h1.1, by omega, by omega⟩
  · exact ⟨h, by omega, by omega⟩
theorem kid_least (O : Ord lt) {l : List α} {i n k : Nat} (hk : k < n) (h0 : 0 < k) (hp : (k - 1) / 2 = i) : lt (at' l k) (at' l (kid lt l i n)) = false := by
  have hirr : ∀ a, lt a a = false := fun a => by
    cases h : lt a a with
    | false => rfl
    | true => rw [← O.asy a a h, h]
  unfold kid
  have : k = 2 * i + 1 ∨ k = 2 * i + 2 := by omega
  split
  · rename_i h1
    rcases this with rfl | rfl
    · exact O.asy _ _ h1.2
    · exact hirr _
  · rename_i h1
    rcases this with rfl | rfl
    · exact hirr _
    · have : ¬ lt (at' l (2 * i + 2)) (at' l (2 * i + 1)) = true := fun h => h1 ⟨hk, h⟩
      simpa using this
theorem DInv.step (O : Ord lt) {lo n i : Nat} {b : Prop} {l : List α} (h : DInv lt lo n i b l) (hl : n ≤ l.length) (hn : 2 * i + 1 < n) (hlo : lo ≤ i) (hlt : lt (at' l (kid lt l i n)) (at' l i) = true) : DInv lt lo n (kid lt l i n) True (swp l i (kid lt l i n)) := by
  obtain ⟨k1, k2, k3⟩ := kid_lt (lt := lt) (l := l) hn
  have hmin := fun {k : Nat} (a : k < n) (b : 0 < k) (c : (k - 1) / 2 = i) => kid_least O (l := l) a b c
  generalize kid lt l i n = j at *
  have ha := fun k => swp_at (l := l) (i := i) (j := j) (k := k) (by omega) (by omega)
  refine ⟨fun k h0 hk hlk hp _ => ?_, fun k h0 hk hp _ hlk => ?_⟩
  · show lt (at' (swp l i j) k) (at' (swp l i j) ((k - 1) / 2)) = false
    rw [ha, ha, if_neg hp]
    by_cases e1 : k = j
    · rw [if_pos e1, if_pos (by rw [e1]; exact k2)]
      exact O.asy _ _ hlt
    · rw [if_neg e1]
      by_cases e2 : k = i
      · rw [if_pos e2, if_neg (by omega), e2]
        exact h.c j (by omega) k1 k2 (by omega) (by rw [← e2]; exact hlk)
      · rw [if_neg e2]
        by_cases e3 : (k - 1) / 2 = i
        · rw [if_pos e3]
          exact hmin hk h0 e3
        · rw [if_neg e3]
          exact h.a k h0 hk hlk e3 fun e => absurd e e2
  · rw [ha, ha, k2, if_neg (by omega), if_neg (by omega), if_neg (by omega), if_pos rfl]
    have := h.a k h0 hk (by omega) (by omega) (fun e => by omega)
    show lt (at' l k) (at' l j) = false
    rw [← hp]
    exact this
theorem down_spec (O : Ord lt) : ∀ (m : Nat) (l : List α) (i n lo : Nat) (b : Prop), DInv lt lo n i b l → n ≤ l.length → lo ≤ i → n - i < m →
    (downF lt m l i n).1.length = l.length ∧ (downF lt m l i n).1.Perm l ∧ (∀ k, n ≤ k → at' (downF lt m l i n).1 k = at' l k) ∧ i ≤ (downF lt m l i n).2 ∧ ((downF lt m l i n).2 = i → (downF lt m l i n).1 = l) ∧
    (∀ k, 0 < k → k < n → lo ≤ (k - 1) / 2 → (k = i → b ∨ i < (downF lt m l i n).2) → edge lt (downF lt m l i n).1 k) := by
  intro m
  induction m with
  | zero => intro l i n lo b h hl hlo hm; omega
  | succ m ih =>
    intro l i n lo b h hl hlo hm
    unfold downF
    split
    · rename_i h1
      refine ⟨rfl, .refl _, fun _ _ => rfl, Nat.le_refl _, fun _ => rfl, fun k h0 hk hlk hb => ?_⟩
      exact h.a k h0 hk hlk (by omega) fun e => (hb e).elim id fun e => absurd e (Nat.lt_irrefl _)
    · rename_i h1
      have h1 : 2 * i + 1 < n := by omega
      obtain ⟨k1, k2, k3⟩ := kid_lt (lt := lt) (l := l) h1
      split
      · rename_i h2
        have h3 := h.step O hl h1 hlo h2
        have hk := ih (swp l i (kid lt l i n)) (kid lt l i n) n lo True h3 (by rw [swp_len]; exact hl) (by omega) (by omega)
        generalize kid lt l i n = j at *
        obtain ⟨a1, a2, a3, a4, a5, a6⟩ := hk
        refine ⟨by rw [a1, swp_len], a2.trans (swp_perm (by omega) (by omega)), fun k hk => ?_, by omega, fun e => by omega, fun k h0 hk hlk _ => a6 k h0 hk hlk fun _ => .inl trivial⟩
        rw [a3 k hk, swp_at (by omega) (by omega), if_neg (by omega), if_neg (by omega)]
      · rename_i h2
        refine ⟨rfl, .refl _, fun _ _ => rfl, Nat.le_refl _, fun _ => rfl, fun k h0 hk hlk hb => ?_⟩
        by_cases e : (k - 1) / 2 = i
        · have h4 : lt (at' l (kid lt l i n)) (at' l i) = false := by simpa using h2
          show lt (at' l k) (at' l ((k - 1) / 2)) = false
          rw [e]
          exact O.tr _ _ _ h4 (kid_least O hk h0 e)
        · exact h.a k h0 hk hlk e fun e => (hb e).elim id fun e => absurd e (Nat.lt_irrefl _)
structure UInv (lt : α → α → Bool) (n j : Nat) (l : List α) : Prop where
  a : ∀ k, 0 < k → k < n → k ≠ j → edge lt l k
  c : ∀ k, 0 < k → k < n → (k - 1) / 2 = j → 0 < j → lt (at' l k) (at' l ((j - 1) / 2)) = false
theorem UInv.step (O : Ord lt) {n j : Nat} {l : List α} (h : UInv lt n j l) (hl : n ≤ l.length) (hj : j < n) (h0 : 0 < j) (hlt : lt (at' l j) (at' l ((j - 1) / 2)) = true) : UInv lt n ((j - 1) / 2) (swp l ((j - 1) / 2) j) := by
  generalize hi : (j - 1) / 2 = i at *
  have ha := fun k => swp_at (l := l) (i := i) (j := j) (k := k) (by omega) (by omega)
  refine ⟨fun k h1 hk hne => ?_, fun k h1 hk hp h2 => ?_⟩
  · show lt (at' (swp l i j) k) (at' (swp l i j) ((k - 1) / 2)) = false
    rw [ha, ha]
    by_cases e1 : k = j
    · rw [if_pos e1, if_neg (by omega), if_pos (by rw [e1]; exact hi)]
      exact O.asy _ _ hlt
    · rw [if_neg e1, if_neg hne]
      by_cases e2 : (k - 1) / 2 = j
      · rw [if_pos e2]
        have := h.c k h1 hk e2 h0
        rw [hi] at this
        exact this
      · rw [if_neg e2]
        by_cases e3 : (k - 1) / 2 = i
        · rw [if_pos e3]
          have := h.a k h1 hk e1
          rw [edge, e3] at this
          exact O.tr _ _ _ (O.asy _ _ hlt) this
        · rw [if_neg e3]
          exact h.a k h1 hk e1
  · have h4 : lt (at' l i) (at' l ((i - 1) / 2)) = false := h.a i h2 (by omega) (by omega)
    rw [ha, ha, if_neg (by omega : (i - 1) / 2 ≠ j), if_neg (by omega : (i - 1) / 2 ≠ i)]
    by_cases e1 : k = j
    · rw [if_pos e1]; exact h4
    · rw [if_neg e1, if_neg (by omega)]
      have := h.a k h1 hk e1
      rw [edge, hp] at this
      exact O.tr _ _ _ h4 this
def initG (lt : α → α → Bool) : Nat → List α → List α
  | 0, l => l
  | i + 1, l => initG lt i (downF lt (l.length + 1) l i l.length).1
def initF (lt : α → α → Bool) (l : List α) : List α := initG lt (l.length / 2) l
def outF (lt : α → α → Bool) (l : List α) : List α := (downF lt l.length (swp l 0 (l.length - 1)) 0 (l.length - 1)).1
theorem initG_spec (O : Ord lt) : ∀ (i : Nat) (l : List α), HeapP lt i l.length l → (initG lt i l).length = l.length ∧ (initG lt i l).Perm l ∧ HeapP lt 0 l.length (initG lt i l) := by
  intro i
  induction i with
  | zero => intro l h; exact ⟨rfl, .refl _, h⟩
  | succ i ih =>
    intro l h
    unfold initG
    have hd : DInv lt i l.length i False l := ⟨fun k h0 hk hlk hp _ => h k h0 hk (by omega), fun k h0 hk hp hi hlo => by omega⟩
    obtain ⟨a1, a2, a3, a4, a5, a6⟩ := down_spec O (l.length + 1) l i l.length i False hd (Nat.le_refl _) (Nat.le_refl _) (by omega)
    generalize (downF lt (l.length + 1) l i l.length).2 = i2 at *
    generalize (downF lt (l.length + 1) l i l.length).1 = l2 at *
    obtain ⟨b1, b2, b3⟩ := ih l2 (fun k h0 hk hlk => a6 k h0 (by omega) hlk fun e => by omega)
    exact ⟨by omega, b2.trans a2, by rw [← a1]; exact b3⟩
theorem init_spec (O : Ord lt) (l : List α) : (initF lt l).length = l.length ∧ (initF lt l).Perm l ∧ HeapP lt 0 l.length (initF lt l) :=
  initG_spec O _ l fun k h0 hk hlo => by omega
theorem root_least (O : Ord lt) {l : List α} (h : HeapP lt 0 l.length l) : ∀ (k : Nat), k < l.length → lt (at' l k) (at' l 0) = false := by
  intro k
  induction k using Nat.strongRecOn with
  | _ k ih =>
    intro hk
    by_cases h0 : k = 0
    · subst h0
      cases e : lt (at' l 0) (at' l 0) with
      | false => rfl
      | true => rw [← O.asy _ _ e, e]
    · exact O.tr _ _ _ (ih ((k - 1) / 2) (by omega) (by omega)) (h k (by omega) hk (Nat.zero_le _))
theorem root_le (O : Ord lt) {l : List α} (h : HeapP lt 0 l.length l) {x : α} (hx : x ∈ l) : lt x (at' l 0) = false := by
  obtain ⟨k, hk, rfl⟩ := List.mem_iff_getElem.1 hx
  have := root_least O h k hk
  simpa only [at', List.getD_eq_getElem?_getD, List.getElem?_eq_getElem hk, Option.getD_some] using this
theorem last_perm {l : List α} (h : 0 < l.length) : (at' l (l.length - 1) :: l.take (l.length - 1)).Perm l := by
  have e : l = l.take (l.length - 1) ++ [at' l (l.length - 1)] := by
    refine at_ext (by simp; omega) fun k hk => ?_
    by_cases h1 : k < l.length - 1
    · rw [at_append (by simp; omega), at_take h1]
    · obtain rfl : k = l.length - 1 := by omega
      simp only [at', List.getD_eq_getElem?_getD]
      rw [List.getElem?_append_right (by simp), List.length_take]
      rw [show l.length - 1 - min (l.length - 1) l.length = 0 by omega]
      rfl
  conv => rhs; rw [e]
  exact (List.perm_append_singleton _ _).symm
theorem heap_take {l : List α} {n : Nat} (hn : n ≤ l.length) (h : HeapP lt 0 n l) : HeapP lt 0 (l.take n).length (l.take n) := by
  intro k h0 hk hlo
  rw [List.length_take] at hk
  have := h k h0 (by omega) hlo
  show lt (at' (l.take n) k) (at' (l.take n) ((k - 1) / 2)) = false
  rw [at_take (by omega), at_take (by omega)]
  exact this
theorem out_spec (O : Ord lt) {l : List α} (h : HeapP lt 0 l.length l) (hl : 0 < l.length) : (outF lt l).length = l.length ∧ at' (outF lt l) (l.length - 1) = at' l 0 ∧ (at' l 0 :: (outF lt l).take (l.length - 1)).Perm l ∧ HeapP lt 0 (l.length - 1) ((outF lt l).take (l.length - 1)) := by
  have ha := fun k => swp_at (l := l) (i := 0) (j := l.length - 1) (k := k) (by omega) (by omega)
  have hd : DInv lt 0 (l.length - 1) 0 False (swp l 0 (l.length - 1)) := ⟨fun k h0 hk hlk hp _ => by
    show lt (at' (swp l 0 (l.length - 1)) k) (at' (swp l 0 (l.length - 1)) ((k - 1) / 2)) = false
    rw [ha, ha, if_neg (by omega), if_neg (by omega), if_neg (by omega), if_neg (by omega)]
    exact h k h0 (by omega) hlk, fun k h0 hk hp hi hlo => by omega⟩
  obtain ⟨a1, a2, a3, a4, a5, a6⟩ := down_spec O l.length (swp l 0 (l.length - 1)) 0 (l.length - 1) 0 False hd (by rw [swp_len]; omega) (Nat.le_refl _) (by omega)
  have e1 : (outF lt l).length = l.length := by rw [outF, a1, swp_len]
  have e2 : at' (outF lt l) (l.length - 1) = at' l 0 := by
    rw [outF, a3 _ (Nat.le_refl _), ha, if_pos rfl]
  refine ⟨e1, e2, ?_, ?_⟩
  · have := last_perm (l := outF lt l) (by omega)
    rw [e1, e2] at this
    exact this.trans (a2.trans (swp_perm (by omega) (by omega)))
  · have := heap_take (lt := lt) (l := outF lt l) (n := l.length - 1) (by omega) (fun k h0 hk hlo => a6 k h0 hk hlo fun e => by omega)
    rw [List.length_take, e1] at this
    rw [show min (l.length - 1) l.length = l.length - 1 by omega] at this
    exact this
end
end Go.Proofs.Ytmhnddkpiefkhaa.A

namespace Go.Proofs.Ytmhnddkpiefkhaa.A
open Go Go.Vm
set_option maxRecDepth 10000
set_option linter.unusedVariables false
structure HeapI {α : Type} [Inhabited α] (lt : α → α → Bool) (t : TypeId) (v : Value) (St : Heap → List α → Prop) : Prop where
  bd : ∀ {h l}, St h l → l.length < 1000000
  len : ∀ {h l}, St h l → MRuns Try.prog T0 t v "Len" [] h (fun r h' => r = .int .i64 l.length ∧ St h' l)
  less : ∀ {h l} {i k : Nat}, St h l → i < l.length → k < l.length → MRuns Try.prog T0 t v "Less" [.int .i64 i, .int .i64 k] h (fun r h' => r = .bool (lt (at' l i) (at' l k)) ∧ St h' l)
  swap : ∀ {h l} {i k : Nat}, St h l → i < l.length → k < l.length → MRuns Try.prog T0 t v "Swap" [.int .i64 i, .int .i64 k] h (fun r h' => St h' (swp l i k))
section
variable {α : Type} [Inhabited α] {lt : α → α → Bool} {t : TypeId} {v : Value} {St : Heap → List α → Prop}
theorem down_len : ∀ (q : Nat) (l : List α) (i n : Nat), (downF lt q l i n).1.length = l.length
  | 0, _, _, _ => rfl
  | q + 1, l, i, n => by
    unfold downF
    split
    · rfl
    · split
      · rw [down_len q, swp_len]
      · rfl
set_option maxHeartbeats 4000000 in
theorem down_ok (H : HeapI lt t v St) {h : Heap} {l : List α} {i n q : Nat} (hs : St h l) (hn : n ≤ l.length) (hi : i ≤ n) (hq : n - i < q) :
    Runs Try.prog T0 (.fn fn_zfQ) [.iface t v, .int .i64 i, .int .i64 n] h (fun r h' => r = .bool (decide ((i : Int) < ((downF lt q l i n).2 : Nat))) ∧ St h' (downF lt q l i n).1) (fun _ _ => False) := by
  have hb0 := H.bd hs
  refine zfQ_runs ?_
  refine stp ?_
  refine loop1 zfQ_l0_M 7 (fun k v7 hx => ∃ (j : Nat) (l' : List α), v7 = .int .i64 j ∧ St hx l' ∧ l'.length = l.length ∧ downF lt k l' j n = downF lt q l i n ∧ j ≤ n ∧ n - j < k) ?_ q ⟨i, l, rfl, hs, rfl, rfl, hi, hq⟩
  rintro m v7 h' x8 x9 x10 x12 x13 x14 x15 x16 x17 x18 x19 x20 x21 x22 x23 x24 x25 x26 x27 x28 x29 x30 x31 x32 x33 x34 x35 x36 x37 x38 x39 x40 x41 x42 x43 x44 ⟨j, l', rfl, hs', hl', he, hj, hk⟩
  obtain ⟨k, rfl⟩ : ∃ k', m = k' + 1 := ⟨m - 1, by omega⟩
  have ej : ((2 : Int) * (j : Int)) + 1 = ((2 * j + 1 : Nat) : Int) := by omega
  have ej2 : ((2 * j + 1 : Nat) : Int) + 1 = ((2 * j + 2 : Nat) : Int) := by omega
  rw [downF] at he
  haveI : InR .i64 ((2 : Int) * (j : Int)) := inr_i64 (by omega)
  refine stp ?_
  rw [ej]
  refine O.dec (fun h1 => ?_) (fun h1 => ?_)
  · refine stp ?_
    rw [if_pos (by omega)] at he
    rw [← he]
    exact ⟨rfl, hs'⟩
  rw [if_neg (by omega)] at he
  refine stp ?_
  rw [ej2]
  have hkid := kid_lt (lt := lt) (l := l') (i := j) (n := n) (by omega)
  refine O.dec (fun h2 => ?pos) (fun h2 => ?neg)
  case' pos =>
    refine stp ?_
    refine O.methT (H.less hs' (by omega) (by omega)) (fun r h3 hr => ?_)
    obtain ⟨rfl, hs3⟩ := hr
    refine stp ?_
    refine C.ifB (fun h4 => ?two) (fun h4 => ?one)
  case' two =>
    have hkd : kid lt l' j n = 2 * j + 2 := by unfold kid; rw [if_pos ⟨by omega, h4⟩]
  case' one =>
    have hkd : kid lt l' j n = 2 * j + 1 := by unfold kid; rw [if_neg (fun e => by rw [h4] at e; exact absurd e.2 (by decide))]
  case' neg =>
    have hkd : kid lt l' j n = 2 * j + 1 := by unfold kid; rw [if_neg (fun e => h2 (by omega))]
    have hs3 := hs'
  all_goals
    rw [hkd] at he hkid
    refine stp ?_
    refine O.meth (H.less hs3 (by omega) (by omega)) (fun r h5 hr => ?_)
    obtain ⟨rfl, hs5⟩ := hr
    refine stp ?_
    refine C.ifB (fun h6 => ?_) (fun h6 => ?_)
    · refine stp ?_
      rw [if_neg (by intro e; rw [e] at h6; exact absurd h6 (by decide))] at he
      rw [← he]
      exact ⟨rfl, hs5⟩
    · refine stp ?_
      refine O.meth (H.swap hs5 (by omega) (by omega)) (fun r h7 hs7 => ?_)
      refine stp ?_
      rw [if_pos (by simpa using h6)] at he
      exact loop1a 7 k (by omega) ⟨_, _, rfl, hs7, by rw [swp_len]; exact hl', he, by omega, by omega⟩
set_option maxHeartbeats 4000000 in
theorem init_ok (H : HeapI lt t v St) {h : Heap} {l : List α} (hs : St h l) :
    Runs Try.prog T0 (.fn fn_zdQ) [.iface t v] h (fun r h' => St h' (initF lt l)) (fun _ _ => False) := by
  have hb0 := H.bd hs
  refine zdQ_runs ?_
  refine stp ?_
  refine O.meth (H.len hs) (fun r h1 hr => ?_)
  obtain ⟨rfl, hs1⟩ := hr
  refine stp ?_
  refine O.how (XOp.quoI (by decide)) ?_
  have e1 : IntKind.i64.wrap ((l.length : Int).tdiv 2) = ((l.length / 2 : Nat) : Int) := by
    have : (l.length : Int).tdiv 2 = ((l.length / 2 : Nat) : Int) := by
      rw [Int.tdiv_eq_ediv_of_nonneg (by omega)]; omega
    rw [this]
    exact (inr_i64 (by omega)).eq
  rw [e1]
  refine stp ?_
  refine loop1 zdQ_l0_M 3 (fun k v3 hx => ∃ l', v3 = .int .i64 ((k : Int) - 1) ∧ St hx l' ∧ l'.length = l.length ∧ initG lt k l' = initF lt l ∧ k ≤ l.length) ?_ (l.length / 2) ⟨l, rfl, hs1, rfl, rfl, by omega⟩
  rintro m v3 h' x9 x10 x11 x12 x13 x14 x15 x16 ⟨l', rfl, hs', hl', he, hk⟩
  refine stp ?_
  refine C.if (fun h2 => ?_) (fun h2 => ?_)
  · obtain ⟨k, rfl⟩ : ∃ k', m = k' + 1 := ⟨m - 1, by omega⟩
    have ek : ((k + 1 : Nat) : Int) - 1 = (k : Int) := by omega
    rw [ek]
    refine stp ?_
    rw [← hl']
    refine O.call' (down_ok H hs' (q := l'.length + 1) (i := k) (n := l'.length) (Nat.le_refl _) (by omega) (by omega)) (fun r h3 hr => ?_)
    obtain ⟨rfl, hs3⟩ := hr
    refine stp ?_
    rw [initG] at he
    exact loop1a 3 k (by omega) ⟨_, rfl, hs3, by rw [down_len], he, by omega⟩
  · refine stp ?_
    obtain rfl : m = 0 := by omega
    rw [initG] at he
    rw [← he]
    exact hs'
theorem pop_ok (H : HeapI lt t v St) {h : Heap} {l : List α} {R : RP} (hs : St h l) (hl : 0 < l.length) (hp : ∀ hx, St hx (outF lt l) → MRuns Try.prog T0 t v "Pop" [] hx R) :
    Runs Try.prog T0 (.fn fn_zeQ) [.iface t v] h R (fun _ _ => False) := by
  have hb0 := H.bd hs
  refine zeQ_runs ?_
  refine stp ?_
  refine O.meth (H.len hs) (fun r h1 hr => ?_)
  obtain ⟨rfl, hs1⟩ := hr
  have e1 : (l.length : Int) - 1 = ((l.length - 1 : Nat) : Int) := by omega
  refine stp ?_
  rw [e1]
  refine stp ?_
  refine O.meth (H.swap (i := 0) hs1 hl (by omega)) (fun r h2 hs2 => ?_)
  refine stp ?_
  refine O.call' (down_ok H (i := 0) (q := l.length) (n := l.length - 1) hs2 (by rw [swp_len]; omega) (by omega) (by omega)) (fun r h3 hr => ?_)
  obtain ⟨rfl, hs3⟩ := hr
  refine stp ?_
  refine O.meth (hp _ hs3) (fun r h4 hr => ?_)
  refine stp ?_
  exact hr
end
end Go.Proofs.Ytmhnddkpiefkhaa.A

namespace Go.Proofs.Ytmhnddkpiefkhaa.A
open Go Go.Vm
set_option maxRecDepth 10000
set_option linter.unusedVariables false
theorem nodup_sub_len {α : Type} : ∀ {l m : List α}, l.Nodup → (∀ a ∈ l, a ∈ m) → l.length ≤ m.length
  | [], _, _, _ => Nat.zero_le _
  | a :: l, m, hl, h => by
    obtain ⟨p, q, rfl⟩ := List.append_of_mem (h a (by simp))
    have hl' := List.nodup_cons.1 hl
    have := nodup_sub_len (l := l) (m := p ++ q) hl'.2 fun b hb => by
      have h1 := h b (by simp [hb])
      simp only [List.mem_append, List.mem_cons] at h1 ⊢
      rcases h1 with h1 | rfl | h1
      · exact .inl h1
      · exact absurd hb hl'.1
      · exact .inr h1
    simp only [List.length_append, List.length_cons] at this ⊢
    omega
theorem tell_len {l d : List Ent} (h : TellE l d) : d.length ≤ l.length := nodup_sub_len (nodup_of_map _ h.t) h.mem
theorem Keys_ok {h : Heap} {m : Nat} : Runs Try.prog T0 (.fn fn_zkbQ) [.map (some m)] h (fun r h' => r = .func (.func fn_zlbQ) ⟨[]⟩ ⟨[.pointer (some ⟨h.n, 0, none⟩)]⟩ ∧ h'.n = h.n + 1 ∧ h'.get h.n = .cells [.map (some m)] 0 ∧ Fr (fun _ => False) h h') (fun _ _ => False) := by
  refine zkbQ_runs ?_
  refine stp ?_
  exact ⟨rfl, rfl, HGet.new.eq, Fr.refl.push⟩
set_option maxHeartbeats 4000000 in
theorem keys1_ok {h : Heap} {bx m c y : Nat} {l : List Ent} {I : List Ent → Heap → Prop} (hbx : h.get bx = .cells [.map (some m)] 0) (hb : bx < h.n) (hm : h.get m = .map (ents l) c) (ml : m < h.n) (ok : EntsOK l c)
    (h0 : ∀ hx, Fr (fun _ => False) h hx → I [] hx)
    (hk : ∀ d hx hx', I d hx → Fr (fun i => i = h.n) hx hx' → I d hx')
    (hr : ∀ d e hx, h.n < hx.n → I d hx → e ∈ l → d.length < l.length → Runs Try.prog T0 (.yield y) [.int .i64 e.k] hx (fun r h' => r = .bool true ∧ I (d ++ [e]) h' ∧ Fr (fun i => i ≠ h.n ∧ i ≠ m) hx h') (fun _ _ => False)) :
    Runs Try.prog T0 (.fn fn_zlbQ) [.func (.yield y) ⟨[]⟩ ⟨[]⟩, .pointer (some ⟨bx, 0, none⟩)] h (fun _ h' => ∃ d : List Ent, d.Perm l ∧ I d h') (fun _ _ => False) := by
  haveI : HGet h bx _ := ⟨hbx⟩
  haveI : BLt bx h := ⟨hb⟩
  haveI : HGet h m _ := ⟨hm⟩
  haveI : BLt m h := ⟨ml⟩
  refine zlbQ_runs ?_
  refine stp ?_
  refine loop0 zlbQ_l0_M (fun k hx => ∃ d, TellE l d ∧ k = l.length - d.length ∧ hx.get h.n = .mapIter (some m) c (d.map Ent.t) c ∧ hx.get m = .map (ents l) c ∧ h.n < hx.n ∧ I d hx) ?_ l.length ⟨[], TellE.nil, rfl, HGet.new.eq, by rw [Heap.get_push, if_neg (by omega)]; exact hm, by simp, h0 _ Fr.refl.push⟩
  rintro m h' x3 x6 x7 x8 x9 x10 x11 x12 x13 ⟨d, ht, rfl, gi, gm, hn, hi⟩
  haveI : HGet h' h.n _ := ⟨gi⟩
  haveI : HGet h' m _ := ⟨gm⟩
  haveI : BLt h.n h' := ⟨hn⟩
  haveI : BNe m h.n := ⟨by omega⟩
  refine stp ?_
  refine O.nextMap (l := l) (c := c) (m := m) (seen := d.map Ent.t) ok (fun hend => ?_) (fun e he => ?_)
  · refine stp ?_
    exact ⟨d, ht.all ok.t hend, hi⟩
  · have hel := (List.mem_filter.1 he).1
    have ht2 := ht.next he
    have hlen := tell_len ht2
    rw [List.length_append, List.length_singleton] at hlen
    refine stp ?_
    refine O.how (XOp.entryMap (m := m) (c := c) (l := l) (seen := d.map Ent.t) (x := e) ok hel) ?_
    refine stp ?_
    refine O.yield (hr d e _ (by simpa using hn) (hk d _ _ hi (Fr.refl.set fun _ => rfl)) hel (by omega)) (fun r h3 hr => ?_)
    obtain ⟨rfl, hi3, hf3⟩ := hr
    refine stp ?_
    refine loop0a (l.length - (d.length + 1)) (by omega) ⟨d ++ [e], ht2, by simp, ?_, ?_, ?_, hi3⟩
    · rw [hf3.get _ (by simpa using hn) (fun q => q.1 rfl), Heap.get_set, if_pos rfl, List.map_append]
      rfl
    · rw [hf3.get _ (by simp; omega) (fun q => q.2 rfl), Heap.get_set, if_neg (by omega), gm]
    · have := hf3.n
      simp at this
      omega
end Go.Proofs.Ytmhnddkpiefkhaa.A

namespace Go.Proofs.Ytmhnddkpiefkhaa.A
open Go Go.Vm
set_option maxRecDepth 10000
set_option linter.unusedVariables false
set_option maxHeartbeats 4000000 in
theorem aq_round {h : Heap} {lp p2 : Nat} {n : Int} {v : Value} {L : List Int} {f0 f1 f3 f4 f5 f6 f7 f8 f9 f10 f11 f12 : Value} (hlp : h.get lp = .loop .ready none [f0, f1, .pointer (some ⟨p2, 0, none⟩), f3, f4, f5, f6, f7, f8, f9, f10, f11, f12] [7] zobQ_ra0 zobQ_rb0)
    (h2 : h.get p2 = .cells [v] 0) (ho : Own h 1 v (ncells L) L.length) (hL : L.length < 100000) (hv : ∀ i, ownedBy v i → i ≠ lp ∧ i ≠ p2) (ll : lp < h.n) (m2 : p2 < h.n) (n2 : p2 ≠ lp) :
    Runs Try.prog T0 (.yield lp) [.int .i64 n] h (fun r g => r = .bool true ∧ g.get lp = .loop .ready none [f0, f1, .pointer (some ⟨p2, 0, none⟩), f3, f4, f5, f6, f7, f8, f9, f10, f11, f12] [7] zobQ_ra0 zobQ_rb0 ∧
      (∃ v', g.get p2 = .cells [v'] 0 ∧ Own g 1 v' (ncells (L ++ [n])) (L ++ [n]).length ∧ (∀ i, ownedBy v' i → ownedBy v i ∨ h.n ≤ i)) ∧ Fr (fun i => i = lp ∨ i = p2 ∨ ownedBy v i) h g) (fun _ _ => False) := by
  haveI : HGet h lp _ := ⟨hlp⟩
  haveI : HGet h p2 _ := ⟨h2⟩
  haveI : BLt lp h := ⟨ll⟩
  haveI : BLt p2 h := ⟨m2⟩
  haveI : BNe p2 lp := ⟨n2⟩
  haveI : BNe lp p2 := ⟨fun e => n2 e.symm⟩
  refine Runs.round hlp put_one rfl zobQ_na0 zobQ_nb0 zobQ_ca0 zobQ_cb0 ?_
  refine stp ?_
  refine A.go ?_
  refine stp ?_
  have hL1 : (L ++ [n]).length = L.length + 1 := by simp
  refine O.append ((ho.keep (Fr.refl.set (S := fun i => i = lp) fun _ => rfl) fun b hb e => (hv b hb).1 e).keep (S := fun _ => False) Fr.refl.push fun _ _ => id) one_int rfl rfl (by omega) (by omega) (by omega) (fun v6 h6 ho6 hf6 hn6 => ?_)
  have q6 := hf6.n
  simp only [Heap.n_set, Heap.n_push] at q6 hn6
  haveI := hf6.keep (b := lp) inferInstance (by simp; omega) (fun e => (hv lp e).1 rfl)
  haveI := hf6.keep (b := p2) (o := .cells [v] 0) inferInstance (by simp; omega) (fun e => (hv p2 e).2 rfl)
  haveI : BLt lp h6 := ⟨by omega⟩
  haveI : BLt p2 h6 := ⟨by omega⟩
  have F6 : Fr (fun i => i = lp ∨ ownedBy v i) h h6 := ((Fr.refl.set (S := fun i => i = lp ∨ ownedBy v i) fun _ => .inl rfl).push).trans' (hf6.mono fun _ _ e => .inr e)
  obtain ⟨a6, c6, rfl, _, _⟩ := id ho6.rd
  refine stp ?_
  refine A.on ?_
  have fS : ∀ {A B : AObj}, Fr (fun i => i = p2 ∨ i = lp) h6 ((h6.set p2 A).set lp B) := fun {A B} => (Fr.refl.set fun _ => .inl rfl).set fun _ => .inr rfl
  refine ⟨rfl, by rw [Heap.get_set, if_pos rfl], ⟨_, by rw [Heap.get_set, if_neg n2, Heap.get_set, if_pos rfl], ?_, fun i hi => ?_⟩, (F6.mono fun _ _ e => e.elim .inl fun e => .inr (.inr e)).trans' (fS.mono fun _ _ e => e.elim (fun e => .inr (.inl e)) .inl)⟩
  · rw [ncells_append, hL1]
    exact ho6.keep fS fun b hb e => by
      rcases hn6 b hb with h7 | h7
      · have := hv b h7; omega
      · omega
  · rcases hn6 i hi with h7 | h7
    · exact .inl h7
    · exact .inr (by omega)
noncomputable abbrev qrec (bx p2 : Nat) : AObj := .loop .ready none [.slice none 0 0, .func (.func fn_zlbQ) ⟨[]⟩ ⟨[.pointer (some ⟨bx, 0, none⟩)]⟩, .pointer (some ⟨p2, 0, none⟩), undef, .slice none 0 0, undef, .func (.func fn_zlbQ) ⟨[]⟩ ⟨[.pointer (some ⟨bx, 0, none⟩)]⟩, undef, undef, undef, undef, undef, undef] [7] zobQ_ra0 zobQ_rb0
set_option maxHeartbeats 8000000 in
theorem AppendSeq_ok {h : Heap} {bx m c : Nat} {l : List Ent} (hbx : h.get bx = .cells [.map (some m)] 0) (hb : bx < h.n) (hm : h.get m = .map (ents l) c) (ml : m < h.n) (ok : EntsOK l c) (hlen : l.length < 100000) :
    Runs Try.prog T0 (.fn fn_zobQ) [.slice none 0 0, .func (.func fn_zlbQ) ⟨[]⟩ ⟨[.pointer (some ⟨bx, 0, none⟩)]⟩] h
      (fun r h' => ∃ d : List Ent, d.Perm l ∧ Own h' 1 r (ncells (d.map Ent.k)) (d.map Ent.k).length ∧ (∀ i, ownedBy r i → h.n ≤ i) ∧ Fr (fun _ => False) h h') (fun _ _ => False) := by
  refine zobQ_runs ?_
  refine stp ?_
  have F0 : Fr (fun _ => False) h (h.push (.cells [.slice none 0 0] 0)) := Fr.refl.push
  have n0 : (h.push (.cells [.slice none 0 0] 0)).n = h.n + 1 := rfl
  have g2 : (h.push (.cells [.slice none 0 0] 0)).get h.n = .cells [.slice none 0 0] 0 := by rw [Heap.get_push, if_pos rfl]
  generalize h.push (.cells [.slice none 0 0] 0) = ha at *
  have FL : Fr (fun _ => False) ha ((ha.push (.defs false)).push (qrec bx h.n)) := Fr.refl.push.push
  have F1 := F0.trans' FL
  have nl : ((ha.push (.defs false)).push (qrec bx h.n)).n = ha.n + 2 := rfl
  have hd : (ha.push (.defs false)).n = ha.n + 1 := rfl
  have gq : ((ha.push (.defs false)).push (qrec bx h.n)).get (ha.n + 1) = qrec bx h.n := HGet.new.eq
  have FQ : Fr (fun i => i = ha.n + 1 ∨ i = h.n) (ha.push (.defs false)) ((ha.push (.defs false)).push (qrec bx h.n)) := Fr.refl.push
  refine range_on (J := fun hx => (∃ (d : List Ent) (v : Value), d.Perm l ∧ hx.get h.n = .cells [v] 0 ∧ Own hx 1 v (ncells (d.map Ent.k)) (d.map Ent.k).length ∧ ∀ i, ownedBy v i → ha.n + 2 < i) ∧ Fr (fun i => i = ha.n + 1 ∨ i = h.n) (ha.push (.defs false)) hx) ?_ (fun hx hJ => ?_)
  · show Runs _ _ _ _ ((ha.push (.defs false)).push (qrec bx h.n)) _ _
    generalize (ha.push (.defs false)).push (qrec bx h.n) = hl at *
    refine Runs.mono (keys1_ok (I := fun d hx => hx.get (ha.n + 1) = qrec bx h.n ∧ (∃ v, hx.get h.n = .cells [v] 0 ∧ Own hx 1 v (ncells (d.map Ent.k)) (d.map Ent.k).length ∧ ∀ i, ownedBy v i → ha.n + 2 < i) ∧ ha.n + 1 < hx.n ∧ Fr (fun i => i = ha.n + 1 ∨ i = h.n) (ha.push (.defs false)) hx) (by rw [F1.get _ hb id]; exact hbx) (F1.lt hb) (by rw [F1.get _ ml id]; exact hm) (F1.lt ml) ok ?_ ?_ ?_) (fun _ h' hh => ?_) (fun _ _ h => h)
    · intro hx hf
      refine ⟨by rw [hf.get _ (by omega) id]; exact gq, ⟨_, ?_, .none, fun i hi => hi.elim⟩, hf.lt (by omega), ?_⟩
      · rw [hf.get _ (by omega) id, FL.get _ (by omega) id]
        exact g2
      · exact FQ.trans' (hf.mono fun _ _ e => e.elim)
    · rintro d hx hx' ⟨i1, ⟨v, i2, i3, i4⟩, i5, i6⟩ hf
      have i7 := i6.n
      exact ⟨by rw [hf.get _ i5 (by omega)]; exact i1, ⟨v, by rw [hf.get _ (by omega) (by omega)]; exact i2, i3.keep hf fun i hi e => by have := i4 i hi; omega, i4⟩, hf.lt i5, i6.trans hf fun i hi e => by omega⟩
    · rintro d e hx hn ⟨i1, ⟨v, i2, i3, i4⟩, i5, i6⟩ he hdl
      have i7 := i6.n
      refine Runs.mono (aq_round (n := e.k) i1 i2 i3 (by simp; omega) (fun i hi => ?_) i5 (by omega) (by omega)) (fun r h' hh => ?_) (fun _ _ h => h)
      · have := i4 i hi
        omega
      · obtain ⟨rfl, j1, ⟨v', j2, j3, j4⟩, j5⟩ := hh
        have j6 : Fr (fun i => i = ha.n + 1 ∨ i = h.n) (ha.push (.defs false)) h' := i6.trans j5 fun i hi e => by
          rcases e with e | e | e
          · exact .inl e
          · exact .inr e
          · have := i4 i e
            omega
        refine ⟨rfl, ⟨j1, ⟨v', j2, by rw [List.map_append]; exact j3, fun i hi => ?_⟩, j5.lt i5, j6⟩, j5.mono fun i hi e => ?_⟩
        · rcases j4 i hi with h7 | h7
          · exact i4 i h7
          · omega
        · rcases e with e | e | e
          · omega
          · omega
          · have := i4 i e
            omega
    · obtain ⟨d, hd2, i1, ⟨v, i2, i3, i4⟩, i5, i6⟩ := hh
      exact ⟨i1, ⟨d, v, hd2, i2, i3, i4⟩, i6⟩
  · obtain ⟨⟨d, v, hperm, q4, ho, hnew⟩, hf⟩ := hJ
    have gdf : hx.get ha.n = .defs false := by rw [hf.get _ (by omega) (by omega)]; exact HGet.new.eq
    have FD : Fr (fun i => i = ha.n + 1 ∨ i = h.n) ha hx := Fr.trans' (Fr.refl.push (o := .defs false)) hf
    have hfx : Fr (fun _ => False) h hx := F0.trans FD fun i hi e => by omega
    have hxn := hf.n
    haveI : HGet hx h.n _ := ⟨q4⟩
    haveI : HGet hx ha.n _ := ⟨gdf⟩
    haveI : BLt h.n hx := ⟨by omega⟩
    haveI : BNe h.n (ha.n + 1) := ⟨by omega⟩
    haveI : BNe ha.n (ha.n + 1) := ⟨by omega⟩
    haveI : BNe ha.n h.n := ⟨by omega⟩
    haveI : BNe h.n ha.n := ⟨by omega⟩
    obtain ⟨a3, c3, rfl, _, _⟩ := id ho.rd
    refine stp ?_
    refine B.retC ?_
    have fS : ∀ {A B C : AObj}, Fr (fun i => i = ha.n + 1 ∨ i = ha.n) hx (((hx.set (ha.n + 1) A).set (ha.n + 1) B).set ha.n C) := fun {A B C} => ((Fr.refl.set fun _ => .inl rfl).set fun _ => .inl rfl).set fun _ => .inr rfl
    exact ⟨d, hperm, ho.keep fS fun b hb e => by have := hnew b hb; omega, fun i hi => by have := hnew i hi; omega, hfx.trans fS fun i hi e => by omega⟩
theorem Collect_ok {h : Heap} {bx m c : Nat} {l : List Ent} (hbx : h.get bx = .cells [.map (some m)] 0) (hb : bx < h.n) (hm : h.get m = .map (ents l) c) (ml : m < h.n) (ok : EntsOK l c) (hlen : l.length < 100000) :
    Runs Try.prog T0 (.fn fn_zrbQ) [.func (.func fn_zlbQ) ⟨[]⟩ ⟨[.pointer (some ⟨bx, 0, none⟩)]⟩] h
      (fun r h' => ∃ d : List Ent, d.Perm l ∧ Own h' 1 r (ncells (d.map Ent.k)) (d.map Ent.k).length ∧ (∀ i, ownedBy r i → h.n ≤ i) ∧ Fr (fun _ => False) h h') (fun _ _ => False) := by
  refine zrbQ_runs ?_
  refine stp ?_
  refine O.call' (AppendSeq_ok hbx hb hm ml ok hlen) (fun r h1 hr => ?_)
  refine stp ?_
  exact hr
end Go.Proofs.Ytmhnddkpiefkhaa.A

namespace Go.Proofs.Ytmhnddkpiefkhaa.A
open Go Go.Vm
set_option maxRecDepth 10000
set_option linter.unusedVariables false
theorem nget {l : List Int} {j : List Value} {i : Nat} (hi : i < l.length) : CGet (ncells l ++ j) i (.int .i64 (at' l i)) := by
  refine ⟨?_, by rw [List.length_append, ncells_len]; omega⟩
  induction l generalizing i with
  | nil => simp at hi
  | cons a l ih =>
    cases i with
    | zero => rfl
    | succ i => exact ih (by simpa using hi)
theorem nover {l : List Int} {j : List Value} {i : Nat} {x : Int} (hi : i < l.length) : Over (ncells l ++ j) i [.int .i64 x] (ncells (l.set i x) ++ j) := by
  refine ⟨by rw [List.length_append, ncells_len]; simp; omega, ?_⟩
  induction l generalizing i with
  | nil => simp at hi
  | cons a l ih =>
    cases i with
    | zero => show Value.int .i64 x :: over (ncells l ++ j) 0 [] = _; rw [over_nil]; rfl
    | succ i => show Value.int .i64 a :: over (ncells l ++ j) i [.int .i64 x] = _; rw [ih (by simpa using hi)]; rfl
def HSt (p : Nat) (S : Nat → Prop) (hb hx : Heap) (l : List Int) : Prop :=
  p < hx.n ∧ (∃ v, hx.get p = .cells [v] 0 ∧ Own hx 1 v (ncells l) l.length ∧ ∀ i, ownedBy v i → S i ∧ i ≠ p) ∧ S p ∧ l.length < 1000000 ∧ Fr S hb hx
abbrev ltI (a b : Int) : Bool := decide (a < b)
theorem ltI_ord : Ord ltI := ⟨fun a b h => by simp at h ⊢; omega, fun a b c h1 h2 => by simp at h1 h2 ⊢; omega⟩
set_option maxHeartbeats 1000000 in
theorem heights_heap {p : Nat} {S : Nat → Prop} {hb : Heap} : HeapI ltI 107 (.pointer (some ⟨p, 0, none⟩)) (HSt p S hb) where
  bd := fun h => h.2.2.2.1
  len := fun {h l} hs => by
    obtain ⟨hp, ⟨v, hg, ho, hv⟩, h1, h2, h3⟩ := id hs
    haveI : HGet h p _ := ⟨hg⟩
    obtain ⟨a, c, rfl, _, _⟩ := id ho.rd
    refine ⟨fn_zjcQ, _, methodOf_val (by kernel_rfl) (by kernel_rfl : Try.prog.underlying 107 = some (.pointer 101)) (by kernel_rfl) (Cell.eq (h := h) (b := p) (off := 0)), ?_⟩
    refine zjcQ_runs ?_
    refine stp ?_
    exact ⟨rfl, hs⟩
  less := fun {h l i k} hs hi hk => by
    obtain ⟨hp, ⟨v, hg, ho, hv⟩, h1, h2, h3⟩ := id hs
    haveI : HGet h p _ := ⟨hg⟩
    refine ⟨fn_zkcQ, _, methodOf_val (by kernel_rfl) (by kernel_rfl : Try.prog.underlying 107 = some (.pointer 101)) (by kernel_rfl) (Cell.eq (h := h) (b := p) (off := 0)), ?_⟩
    generalize hn : l.length = n at *
    generalize hc : ncells l = cc at *
    cases ho with
    | none => omega
    | lit _ _ => omega
    | grown hq hn0 hle hl hl2 hgq =>
      rename_i q kk cap j
      subst hn hc
      haveI : HGet h q _ := ⟨hgq⟩
      haveI := nget (j := j) hi
      haveI := nget (j := j) hk
      refine zkcQ_runs ?_
      refine stp ?_
      exact ⟨rfl, hs⟩
  swap := fun {h l i k} hs hi hk => by
    obtain ⟨hp, ⟨v, hg, ho, hv⟩, h1, h2, h3⟩ := id hs
    haveI : HGet h p _ := ⟨hg⟩
    refine ⟨fn_zmcQ, _, methodOf_val (by kernel_rfl) (by kernel_rfl : Try.prog.underlying 107 = some (.pointer 101)) (by kernel_rfl) (Cell.eq (h := h) (b := p) (off := 0)), ?_⟩
    generalize hn : l.length = n at *
    generalize hc : ncells l = cc at *
    cases ho with
    | none => omega
    | lit _ _ => omega
    | grown hq hn0 hle hl hl2 hgq =>
      rename_i q kk cap j
      subst hn hc
      haveI : HGet h q _ := ⟨hgq⟩
      haveI := nget (j := j) hi
      haveI := nget (j := j) hk
      haveI : Over (ncells l ++ j) i [.int .i64 (at' l k)] (ncells (l.set i (at' l k)) ++ j) := nover hi
      haveI : Over (ncells (l.set i (at' l k)) ++ j) k [.int .i64 (at' l i)] (ncells (swp l i k) ++ j) := nover (by simpa using hk)
      refine zmcQ_runs ?_
      refine stp ?_
      refine D.one0 StabL.ok ?_
      refine stp ?_
      obtain ⟨hS, hqp⟩ := hv q rfl
      refine ⟨by simpa using hp, ⟨_, by rw [Heap.get_set, if_neg (fun e => hqp e.symm)]; exact hg, ?_, hv⟩, h1, by rw [swp_len]; exact h2, h3.set fun _ => hS⟩
      rw [swp_len]
      refine Own.grown (j := j) (by simpa using hq) hn0 hle (by rw [ncells_len, swp_len]; simp) ?_ (by rw [Heap.get_set, if_pos rfl])
      rw [List.length_append, ncells_len] at hl2
      rw [List.length_append, ncells_len, swp_len]
      exact hl2
theorem Pop_ok {p : Nat} {S : Nat → Prop} {hb h : Heap} {l : List Int} (hs : HSt p S hb h l) (hl : 0 < l.length) :
    MRuns Try.prog T0 107 (.pointer (some ⟨p, 0, none⟩)) "Pop" [] h (fun r h' => r = .iface 3 (.int .i64 (at' l (l.length - 1))) ∧ HSt p S hb h' (l.take (l.length - 1))) := by
  obtain ⟨hp, ⟨v, hg, ho, hv⟩, h1, h2, h3⟩ := id hs
  obtain ⟨k, hk⟩ : ∃ k, l.length - 1 = k := ⟨_, rfl⟩
  rw [hk]
  haveI : HGet h p _ := ⟨hg⟩
  refine ⟨fn_zlcQ, _, methodOf_ptr (by kernel_rfl) (by kernel_rfl : Try.prog.underlying 107 = some (.pointer 101)), ?_⟩
  generalize hn : l.length = n at *
  generalize hc : ncells l = cc at *
  have ho0 := ho
  have e1 : (n : Int) - 1 = (k : Int) := by omega
  cases ho with
  | none => omega
  | lit _ _ => omega
  | grown hq hn0 hle hl3 hl2 hgq =>
    rename_i q kk cap j
    subst hn hc
    haveI : HGet h q _ := ⟨hgq⟩
    haveI := nget (l := l) (j := j) (i := k) (by omega)
    haveI : IdxOff 0 ((l.length : Int) - 1) 1 k := ⟨by omega⟩
    refine zlcQ_runs ?_
    refine stp ?_
    refine O.cutOwn k ho0 (by omega) ?_ (fun v' ho' hb' => ?_)
    · rw [e1]
      intro m hm
      exact bnd_at' (by omega)
    have hnq : p ≠ q := fun e => (hv q rfl).2 e.symm
    obtain ⟨a3, c3, rfl, _, _⟩ := id ho'.rd
    refine stp ?_
    refine ⟨rfl, by simpa using hp, ⟨_, by rw [Heap.get_set, if_pos rfl], ?_, fun i hi => hv i ((hb' i).1 hi)⟩, h1, by simp; omega, h3.set fun _ => h1⟩
    have ek : ncells (l.take k) = (ncells l).take (k * 1) := by rw [Nat.mul_one]; simp [ncells, List.map_take]
    rw [ek, List.length_take, Nat.min_eq_left (by omega)]
    exact ho'.keep (Fr.refl.set (S := fun i => i = p) fun _ => rfl) fun b hb e => (hv b ((hb' b).1 hb)).2 e
end Go.Proofs.Ytmhnddkpiefkhaa.A

namespace Go.Proofs.Ytmhnddkpiefkhaa.A
open Go Go.Vm
set_option maxRecDepth 10000
set_option linter.unusedVariables false
theorem HSt.rebase {p : Nat} {S : Nat → Prop} {hb hx : Heap} {l : List Int} (h : HSt p S hb hx l) : HSt p S hx hx l := ⟨h.1, h.2.1, h.2.2.1, h.2.2.2.1, Fr.refl⟩
theorem HSt.keep {p : Nat} {S S' : Nat → Prop} {hb hx hy : Heap} {l : List Int} (h : HSt p S hb hx l) (hf : Fr S' hx hy) (hs : ∀ i, S i → ¬ S' i) : HSt p S hy hy l := by
  obtain ⟨h1, ⟨v, h2, h3, h4⟩, h5, h6, h7⟩ := h
  exact ⟨hf.lt h1, ⟨v, by rw [hf.get _ h1 (hs _ h5)]; exact h2, h3.keep hf fun b hb => hs b (h4 b hb).1, h4⟩, h5, h6, Fr.refl⟩
set_option maxHeartbeats 8000000 in
theorem rising_ok {h : Heap} {p m c : Nat} {room : Int} {l : List Ent} (hp : h.get p = .cells [.int .i64 room, .map (some m)] 0) (pl : p < h.n) (hm : h.get m = .map (ents l) c) (ml : m < h.n) (ok : EntsOK l c) (hlen : l.length < 100000) :
    Runs Try.prog T0 (.fn fn_zhcQ) [.pointer (some ⟨p, 0, none⟩)] h
      (fun r h' => ∃ R : List Int, R.Perm (l.map Ent.k) ∧ R.Pairwise (· ≤ ·) ∧ Own h' 1 r (ncells R) R.length ∧ (∀ i, ownedBy r i → h.n ≤ i) ∧ Fr (fun _ => False) h h') (fun _ _ => False) := by
  haveI : HGet h p _ := ⟨hp⟩
  haveI : BLt p h := ⟨pl⟩
  refine zhcQ_runs ?_
  refine stp ?_
  refine O.call' Keys_ok (fun r h1 hr => ?_)
  obtain ⟨rfl, n1, g1, f1⟩ := hr
  refine stp ?_
  refine O.call' (Collect_ok (l := l) g1 (by omega) (by rw [f1.get _ ml id]; exact hm) (by omega) ok hlen) (fun r h2 hr => ?_)
  obtain ⟨d, hd, ho, hnew, f2⟩ := hr
  have F2 := f1.trans' f2
  have n2 := f2.n
  obtain ⟨a0, c0, rfl, _, _⟩ := id ho.rd
  generalize hv0 : Value.slice a0 (d.map Ent.k).length c0 = v0 at *
  haveI : CellsOf v0 [v0] := by rw [← hv0]; infer_instance
  haveI : One1 v0 := by rw [← hv0]; infer_instance
  refine stp ?_
  have hlt0 : ∀ i, ownedBy v0 i → i < h2.n := fun i hi => ho.lt hi
  have HS0 : HSt h2.n (fun i => i = h2.n ∨ ownedBy v0 i) (h2.push (.cells [v0] 0)) (h2.push (.cells [v0] 0)) (d.map Ent.k) :=
    ⟨by simp, ⟨v0, by rw [Heap.get_push, if_pos rfl], ho.keep (Fr.refl.push (S := fun _ => False)) fun _ _ => id, fun i hi => ⟨.inr hi, by have := hlt0 i hi; omega⟩⟩, .inl rfl, by have := hd.length_eq; simp; omega, Fr.refl⟩
  have F3 : Fr (fun _ => False) h (h2.push (.cells [v0] 0)) := F2.trans' Fr.refl.push
  have n3 : (h2.push (.cells [v0] 0)).n = h2.n + 1 := rfl
  generalize h2.push (.cells [v0] 0) = h3 at *
  have hSn : ∀ i, (i = h2.n ∨ ownedBy v0 i) → i < h3.n ∧ h.n ≤ i := fun i hi => by
    rcases hi with rfl | hi
    · omega
    · have := hlt0 i hi
      have := hnew i hi
      omega
  generalize hS : (fun i => i = h2.n ∨ ownedBy v0 i) = S at *
  have hSn : ∀ i, S i → i < h3.n ∧ h.n ≤ i := fun i hi => hSn i (by rw [← hS] at hi; exact hi)
  have hK : (d.map Ent.k).Perm (l.map Ent.k) := hd.map _
  have hKl : (d.map Ent.k).length < 100000 := by have := hd.length_eq; simp; omega
  generalize d.map Ent.k = K at *
  refine O.call' (init_ok heights_heap HS0) (fun r h4 HS4 => ?_)
  obtain ⟨i1, i2, i3⟩ := init_spec ltI_ord K
  generalize initF ltI K = K1 at *
  have f4 := HS4.2.2.2.2
  have n4 := f4.n
  have F4 : Fr (fun _ => False) h h4 := F3.trans f4 fun i hi e => by have := hSn i e; omega
  refine stp ?_
  refine loop1 zhcQ_l0_M 2 (fun m v2 hx => ∃ (l' R : List Int), HSt h2.n S hx hx l' ∧ Own hx 1 v2 (ncells R) R.length ∧ (∀ i, ownedBy v2 i → ¬ S i ∧ h.n ≤ i) ∧ m = l'.length ∧ HeapP ltI 0 l'.length l' ∧ (R ++ l').Perm K ∧ R.Pairwise (· ≤ ·) ∧ (∀ a ∈ R, ∀ b ∈ l', a ≤ b) ∧ Fr (fun _ => False) h hx ∧ h3.n ≤ hx.n) ?_ K1.length
    ⟨K1, [], HS4.rebase, .none, fun i hi => hi.elim, rfl, by rw [i1]; exact i3, by simpa using i2, List.Pairwise.nil, by simp, F4, n4⟩
  rintro m v2 h' x4 x5 x14 x15 x16 x17 x18 x19 x20 x21 x22 x23 x24 x25 x26 x27 ⟨l', R, hs, hoR, hR, rfl, hheap, hperm, hsort, hle, hF, hn⟩
  obtain ⟨hp3, ⟨v, hg3, hov, hv⟩, hSp, hlb, _⟩ := id hs
  haveI : HGet h' h2.n _ := ⟨hg3⟩
  obtain ⟨av, cv, rfl, _, _⟩ := id hov.rd
  refine stp ?_
  refine O.call' (R := fun r h' => r = .int .i64 (l'.length : Nat) ∧ h' = _) (zjcQ_runs (by refine stp ?_; exact ⟨rfl, rfl⟩)) (fun r h5 hr => ?_)
  obtain ⟨rfl, rfl⟩ := hr
  refine stp ?_
  refine C.if (fun hpos => ?_) (fun hzero => ?_)
  · have hpos' : 0 < l'.length := by omega
    obtain ⟨o1, o2, o3, o4⟩ := out_spec ltI_ord hheap hpos'
    have hmin : ∀ b ∈ l', at' l' 0 ≤ b := fun b hb => by
      exact Int.not_lt.1 (of_decide_eq_false (root_le ltI_ord hheap hb))
    have hRl : R.length + l'.length = K.length := by have := hperm.length_eq; simpa using this
    refine stp ?_
    refine O.call' (pop_ok heights_heap hs hpos' (fun hx hsx => Pop_ok hsx (by rw [o1]; exact hpos'))) (fun r h6 hr => ?_)
    obtain ⟨rfl, HS6⟩ := hr
    rw [o1] at HS6
    rw [o1, o2]
    have f6 := HS6.2.2.2.2
    have n6 := f6.n
    have hoR6 := hoR.keep f6 fun b hb => (hR b hb).1
    have F6 : Fr (fun _ => False) h h6 := hF.trans f6 fun i hi e => by have := hSn i e; omega
    refine stp ?_
    refine O.append (hoR6.keep (S := fun _ => False) Fr.refl.push fun _ _ => id) one_int rfl rfl (by omega) (by omega) (by omega) (fun v7 h7 ho7 f7 hn7 => ?_)
    have n7 := f7.n
    simp only [Heap.n_push] at n7 hn7
    have f67 : Fr (ownedBy _) h6 h7 := (Fr.refl.push).trans' f7
    have hlb7 : at' l' 0 ∈ l' := at_mem hpos'
    refine stp ?_
    have hmem : ∀ b ∈ (outF ltI l').take (l'.length - 1), b ∈ l' := fun b hb => (o3.mem_iff).1 (List.mem_cons_of_mem _ hb)
    have hlen2 : ((outF ltI l').take (l'.length - 1)).length = l'.length - 1 := by rw [List.length_take, o1]; omega
    refine loop1a 2 (l'.length - 1) (by omega) ⟨(outF ltI l').take (l'.length - 1), R ++ [at' l' 0], HS6.rebase.keep f67 fun i hi e => (hR i e).1 hi, ?_, fun i hi => ?_, hlen2.symm, ?_, ?_, ?_, fun a ha b hb => ?_, F6.trans f67 fun i hi e => by have := (hR i e).2; omega, by omega⟩
    · rw [ncells_append, List.length_append]
      exact ho7
    · rcases hn7 i hi with h8 | h8
      · exact hR i h8
      · exact ⟨fun e => by have := hSn i e; omega, by have := F6.n; omega⟩
    · rw [hlen2]; exact o4
    · rw [List.append_assoc]
      exact (List.Perm.append_left R o3).trans hperm
    · rw [List.pairwise_append]
      exact ⟨hsort, List.pairwise_singleton _ _, fun a ha b hb => by
        simp only [List.mem_singleton] at hb
        subst hb
        exact hle a ha _ hlb7⟩
    · rcases List.mem_append.1 ha with ha | ha
      · exact hle a ha b (hmem b hb)
      · simp only [List.mem_singleton] at ha
        subst ha
        exact hmin b (hmem b hb)
  · refine stp ?_
    have hnil : l' = [] := List.length_eq_zero_iff.1 (by omega)
    subst hnil
    rw [List.append_nil] at hperm
    exact ⟨R, hperm.trans hK, hsort, hoR, fun i hi => (hR i hi).2, hF⟩
end Go.Proofs.Ytmhnddkpiefkhaa.A
