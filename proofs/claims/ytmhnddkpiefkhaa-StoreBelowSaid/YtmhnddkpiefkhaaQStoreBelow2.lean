/- Contracts of functions, over the machine. -/
import Derived.Test.YtmhnddkpiefkhaaQStoreBelow1
import Derived.Test.YtmhnddkpiefkhaaRows
import Derived.Test.YtmhnddkpiefkhaaVJ
import Derived.Test.YtmhnddkpiefkhaaVK
set_option linter.unusedSimpArgs false
noncomputable section
set_option maxRecDepth 100000
set_option linter.unusedVariables false
namespace Go.Proofs.Ytmhnddkpiefkhaa.A
open Go Go.Vm
abbrev ty_internal_abi_BoundsErrorCode : TypeId := 6
abbrev ty_runtime_boundsError : TypeId := 8
abbrev ty_runtime_errorString : TypeId := 10
abbrev ty_runtime_plainError : TypeId := 11
abbrev ty_runtime_errorAddressString : TypeId := 14
abbrev ty_internal_runtime_maps_unhashableTypeError : TypeId := 19
abbrev ty_api_Errno : TypeId := 24
abbrev ty_api_Hash : TypeId := 28
abbrev ty_api_Header : TypeId := 30
abbrev ty_api_Commit : TypeId := 33
abbrev ty_api_Block : TypeId := 36
abbrev ty_api_Kept : TypeId := 47
abbrev ty_ll22_Act : TypeId := 53
abbrev ty_lr22_Store : TypeId := 69
abbrev ty_store_Store : TypeId := 75
abbrev ty_store_kept : TypeId := 82
abbrev ty_store_heights : TypeId := 101
abbrev ty_iter_Seq_int_ : TypeId := 104
abbrev ty_api_Key : TypeId := 111
abbrev ty_api_Validator : TypeId := 113
abbrev ty_api_Vote : TypeId := 117
abbrev ty_iter_Seq__store_kept_ : TypeId := 119
abbrev ty_container_heap_Interface : TypeId := 126
abbrev ty_runtime_TypeAssertionError : TypeId := 134
abbrev ty_runtime_PanicNilError : TypeId := 137
abbrev ty_internal_abi_TFlag : TypeId := 139
abbrev ty_internal_abi_Kind : TypeId := 140
abbrev ty_internal_abi_NameOff : TypeId := 143
abbrev ty_internal_abi_TypeOff : TypeId := 144
abbrev ty_internal_abi_Type : TypeId := 146
instance : IsIface Try.prog 20 := ⟨by kernel_rfl⟩
instance : IsIface Try.prog 125 := ⟨by kernel_rfl⟩
instance : IsIface Try.prog 126 := ⟨by kernel_rfl⟩
abbrev prims : List FuncId := [3]
abbrev kepts : List FuncId := []
def T0 : Table := withKept (withTrue Try.prog prims) kepts
abbrev fn_zoQ : FuncId := 3
theorem zoQ_known {h : Heap} : Runs Try.prog T0 (.fn 3) [] h (fun r h' => r = .bool true ∧ h' = h) (fun _ _ => False) := known_runs rfl
instance : IsBoolT Try.prog 4 := ⟨by kernel_rfl⟩
instance : TLeaves Try.prog 7 (.i .i64 :: (.i .i64 :: (.b :: (.i .u8 :: [])))) := ⟨by kernel_rfl, by kernel_rfl, by kernel_rfl⟩
instance : TLeaves Try.prog 8 (.i .i64 :: (.i .i64 :: (.b :: (.i .u8 :: [])))) := ⟨by kernel_rfl, by kernel_rfl, by kernel_rfl⟩
instance : TLeaves Try.prog 27 (u8s 32) := ⟨by kernel_rfl, by kernel_rfl, by kernel_rfl⟩
instance : TLeaves Try.prog 28 (u8s 32) := ⟨by kernel_rfl, by kernel_rfl, by kernel_rfl⟩
instance : TLeaves Try.prog 29 (.s :: (.i .i64 :: (.i .i64 :: (u8s 32 ++ (u8s 32 ++ (u8s 32 ++ (u8s 32))))))) := ⟨by kernel_rfl, by kernel_rfl, by kernel_rfl⟩
instance : TLeaves Try.prog 30 (.s :: (.i .i64 :: (.i .i64 :: (u8s 32 ++ (u8s 32 ++ (u8s 32 ++ (u8s 32))))))) := ⟨by kernel_rfl, by kernel_rfl, by kernel_rfl⟩
instance : TLeaves Try.prog 46 (.i .i64 :: (.b :: (.b :: []))) := ⟨by kernel_rfl, by kernel_rfl, by kernel_rfl⟩
instance : TLeaves Try.prog 47 (.i .i64 :: (.b :: (.b :: []))) := ⟨by kernel_rfl, by kernel_rfl, by kernel_rfl⟩
instance : TLeaves Try.prog 110 (u8s 4) := ⟨by kernel_rfl, by kernel_rfl, by kernel_rfl⟩
instance : TLeaves Try.prog 111 (u8s 4) := ⟨by kernel_rfl, by kernel_rfl, by kernel_rfl⟩
instance : TLeaves Try.prog 112 (u8s 4 ++ (.i .i64 :: [])) := ⟨by kernel_rfl, by kernel_rfl, by kernel_rfl⟩
instance : TLeaves Try.prog 113 (u8s 4 ++ (.i .i64 :: [])) := ⟨by kernel_rfl, by kernel_rfl, by kernel_rfl⟩
instance : TLeaves Try.prog 116 (.i .i64 :: (.i .u64 :: [])) := ⟨by kernel_rfl, by kernel_rfl, by kernel_rfl⟩
instance : TLeaves Try.prog 117 (.i .i64 :: (.i .u64 :: [])) := ⟨by kernel_rfl, by kernel_rfl, by kernel_rfl⟩
abbrev fn_zfbQ : FuncId := 9
def zfbQ_c : ACode :=
 (.seq (.region [
 o1 2 (.mov (.const (.pointer none))),
 o1 3 (.mov k0)]) (.seq (.seq (.region [
 o1 4 (.mov (tm 0)),
 o1 5 (.bin .lss (so (.binOp .lss 3 (tm 4) (.const (.int .i64 1)) 3) 4) (tm 4) (.const (.int .i64 1))),
 o1 6 (.mov (tm 5)),
 o5 7 (.mov (tm 0)) 6,
 o5 8 (.bin .gtr (so (.binOp .gtr 3 (tm 7) (.const (.int .i64 4096)) 3) 4) (tm 7) (.const (.int .i64 4096))) 6,
 o1 9 (.pick (tm 6) (.const (.bool true)) (tm 8))]) (.cond (tm 9)
 (.seq (.region [
 o1 2 (.mov (.const (.pointer none))),
 o1 3 (.mov (.const (.int .i64 3)))]) .ret)
 .skip)) (.seq (.region [
 o1 10 (.mov (tm 0)),
 o1 11 (.mkMap),
 o1 12 (.build [(.int .i64 0), (.map none)] [(0, 1, (tm 10)), (1, 1, (tm 11))]),
 o1 13 (.box 75 (tm 12)),
 o1 2 (.mov (tm 13)),
 o1 3 (.mov k0)]) .ret)))
def zfbQ : AFunc := ⟨14, [(2, none), (3, none)], zfbQ_c, none⟩
theorem zfbQ_t0 : tableOf Try.prog 9 = some zfbQ := by kernel_rfl
theorem zfbQ_t : T0 9 = some zfbQ := withKept_t rfl (withTrue_t rfl zfbQ_t0)
theorem zfbQ_runs {v0 : Value} {h : Heap} {R : RP} {X : XP} (k : RunC Try.prog T0 zfbQ_c ⟨[v0, U, U, U, U, U, U, U, U, U, U, U, U, U], [], h, none⟩ (bodyQ Try.prog T0 [(2, none), (3, none)] R X)) :
 Runs Try.prog T0 (.fn 9) [v0] h R X := Runs.fn zfbQ_t rfl k
abbrev fn_zgbQ : FuncId := 10
def zgbQ_l0 : ACode :=
 (.seq (.region [
 o1 16 (.bin .lss (so (.binOp .lss 3 (tm 15) (tm 14) 3) 0) (tm 15) (tm 14))]) (.seq (.cond (tm 16)
 .skip
 (.exit 0)) (.seq (.block 1 (.seq (.region [
 o1 17 (.indexSl 1 (tm 13) (tm 15)),
 o1 18 (.load none (tm 17)),
 o1 7 (.mov (tm 18))]) (.seq (.region [
 o1 19 (.mov (tm 0)),
 o1 20 (.nilCheck (tm 19)),
 o1 21 (.fieldAddr 1 (tm 20)),
 o1 22 (.load none (tm 21)),
 o1 23 (.mov (tm 7)),
 o1 24 (.lookup (.int .i64) (.pointer none) false (tm 22) (tm 23)),
 o1 8 (.mov (tm 24))]) (.seq (.region [
 o1 25 (.mov (tm 7)),
 o1 26 (.mov (tm 1)),
 o1 27 (.bin .lss (so (.binOp .lss 3 (tm 25) (tm 26) 3) 4) (tm 25) (tm 26)),
 o1 28 (.mov (tm 27)),
 o4 29 (.mov (tm 8)) 28,
 o4 30 (.nilCheck (tm 29)) 28,
 o4 31 (.fieldAddr 166 (tm 30)) 28,
 o4 32 (.load none (tm 31)) 28,
 o1 33 (.pick (tm 28) (tm 32) (.const (.bool false)))]) (.cond (tm 33)
 (.region [
 o1 34 (.mov (tm 8)),
 o1 35 (.nilCheck (tm 34)),
 o1 36 (.fieldAddr 0 (tm 35)),
 o1 37 (.load (some 166) (tm 36)),
 o1 38 (.callV (.func 39) [(tm 37)]),
 o3 (.store 166 (tm 4) (tm 38)),
 o1 5 (.mov (.const (.bool true)))])
 .skip))))) (.region [
 o1 39 (.bin .add (so (.binOp .add 3 (tm 15) (.const (.int .i64 1)) 3) 3) (tm 15) (.const (.int .i64 1))),
 o1 15 (.mov (tm 39))]))))
def zgbQ_c : ACode :=
 (.seq (.region [
 o1 4 (.alloc 36 ((.string ⟨⟨[]⟩⟩) :: ((.int .i64 0) :: ((.int .i64 0) :: (z32 ++ (z32 ++ (z32 ++ (z32 ++ ((.int .i64 0) :: (z32 ++ [(.slice none 0 0), (.slice none 0 0)])))))))))),
 o1 5 (.mov (.const (.bool false)))]) (.seq (.seq (.region [
 o1 9 (.mov (tm 0)),
 o1 10 (.callV (.func 37) [(tm 9)])]) (.cond (tm 10)
 (.seq (.region [
 o1 11 (.build ((.string ⟨⟨[]⟩⟩) :: ((.int .i64 0) :: ((.int .i64 0) :: (z32 ++ (z32 ++ (z32 ++ (z32 ++ ((.int .i64 0) :: (z32 ++ [(.slice none 0 0), (.slice none 0 0)]))))))))) []),
 o3 (.store 166 (tm 4) (tm 11)),
 o1 5 (.mov (.const (.bool false)))]) .ret)
 .skip)) (.seq (.seq (.region [
 o1 12 (.mov (tm 0)),
 o1 13 (.callV (.func 38) [(tm 12)]),
 o1 14 (.lenSl (tm 13)),
 o1 15 (.mov k0)]) (.block 0 (.loop zgbQ_l0))) (.seq (.region [
 o1 40 (.load (some 166) (tm 4)),
 o1 41 (.mov (tm 5)),
 o3 (.store 166 (tm 4) (tm 40)),
 o1 5 (.mov (tm 41))]) .ret))))
def zgbQ : AFunc := ⟨42, [(4, some (some 166)), (5, none)], zgbQ_c, none⟩
theorem zgbQ_t0 : tableOf Try.prog 10 = some zgbQ := by kernel_rfl
theorem zgbQ_t : T0 10 = some zgbQ := withKept_t rfl (withTrue_t rfl zgbQ_t0)
theorem zgbQ_runs {v0 v1 : Value} {h : Heap} {R : RP} {X : XP} (k : RunC Try.prog T0 zgbQ_c ⟨[v0, v1, U, U, U, U, U, U, U, U, U, U, U, U, U, U, U, U, U, U, U, U, U, U, U, U, U, U, U, U, U, U, U, U, U, U, U, U, U, U, U, U], [], h, none⟩ (bodyQ Try.prog T0 [(4, some (some 166)), (5, none)] R X)) :
 Runs Try.prog T0 (.fn 10) [v0, v1] h R X := Runs.fn zgbQ_t rfl k
abbrev zgbQ_l0_M : List Nat := [0, 0, 0, 0, 0, 2, 0, 1, 1, 0, 0, 0, 0, 0, 0, 2, 1, 1, 1, 1, 1, 1, 1, 1, 1, 1, 1, 1, 1, 1, 1, 1, 1, 1, 1, 1, 1, 1, 1, 1, 0, 0]
abbrev fn_zlbQ : FuncId := 12
def zlbQ_c : ACode :=
 (.seq (.region [
 o1 5 (.box 4 (tm 2)),
 o1 6 (.mov k0)]) (.seq (.region [
 o1 7 (.mov (tm 0)),
 o1 8 (.mov (tm 1)),
 o1 9 (.mkFunc (.func 42) [] [(tm 5)]),
 o1 10 (.callV (.func 41) [(tm 7), (tm 8), (tm 9)]),
 o1 6 (.mov (tm 10))]) .ret))
def zlbQ : AFunc := ⟨11, [(6, none)], zlbQ_c, none⟩
theorem zlbQ_t0 : tableOf Try.prog 12 = some zlbQ := by kernel_rfl
theorem zlbQ_t : T0 12 = some zlbQ := withKept_t rfl (withTrue_t rfl zlbQ_t0)
theorem zlbQ_runs {v0 v1 v2 : Value} {h : Heap} {R : RP} {X : XP} (k : RunC Try.prog T0 zlbQ_c ⟨[v0, v1, v2, U, U, U, U, U, U, U, U], [], h, none⟩ (bodyQ Try.prog T0 [(6, none)] R X)) :
 Runs Try.prog T0 (.fn 12) [v0, v1, v2] h R X := Runs.fn zlbQ_t rfl k
abbrev fn_zhbQ : FuncId := 13
def zhbQ_c : ACode :=
 (.seq (.region [
 o1 3 (.box 3 (tm 1))]) (.seq (.region [
 o1 4 (.mov (tm 0)),
 o1 5 (.callV (.func 37) [(tm 4)]),
 o1 6 (.raw (so (.unOp .not 4 (tm 5)) 4))]) (.cond (tm 6)
 (.region [
 o1 7 (.mov (tm 0)),
 o1 8 (.nilCheck (tm 7)),
 o1 9 (.fieldAddr 1 (tm 8)),
 o1 10 (.load none (tm 9)),
 o1 11 (.mkFunc (.func 44) [] [(tm 3)]),
 o1 12 (.callV (.func 43) [(tm 10), (tm 11)])])
 .skip)))
def zhbQ : AFunc := ⟨13, [], zhbQ_c, none⟩
theorem zhbQ_t0 : tableOf Try.prog 13 = some zhbQ := by kernel_rfl
theorem zhbQ_t : T0 13 = some zhbQ := withKept_t rfl (withTrue_t rfl zhbQ_t0)
theorem zhbQ_runs {v0 v1 : Value} {h : Heap} {R : RP} {X : XP} (k : RunC Try.prog T0 zhbQ_c ⟨[v0, v1, U, U, U, U, U, U, U, U, U, U, U], [], h, none⟩ (bodyQ Try.prog T0 [] R X)) :
 Runs Try.prog T0 (.fn 13) [v0, v1] h R X := Runs.fn zhbQ_t rfl k
abbrev fn_zjbQ : FuncId := 14
def zjbQ_c : ACode :=
 (.seq (.region [
 o1 4 (.alloc 36 ((.string ⟨⟨[]⟩⟩) :: ((.int .i64 0) :: ((.int .i64 0) :: (z32 ++ (z32 ++ (z32 ++ (z32 ++ ((.int .i64 0) :: (z32 ++ [(.slice none 0 0), (.slice none 0 0)])))))))))),
 o1 5 (.mov (.const (.bool false)))]) (.seq (.seq (.region [
 o1 8 (.mov (tm 0)),
 o1 9 (.callV (.func 37) [(tm 8)])]) (.cond (tm 9)
 (.seq (.region [
 o1 10 (.build ((.string ⟨⟨[]⟩⟩) :: ((.int .i64 0) :: ((.int .i64 0) :: (z32 ++ (z32 ++ (z32 ++ (z32 ++ ((.int .i64 0) :: (z32 ++ [(.slice none 0 0), (.slice none 0 0)]))))))))) []),
 o3 (.store 166 (tm 4) (tm 10)),
 o1 5 (.mov (.const (.bool false)))]) .ret)
 .skip)) (.seq (.region [
 o1 12 (.mov (tm 0)),
 o1 13 (.nilCheck (tm 12)),
 o1 14 (.fieldAddr 1 (tm 13)),
 o1 15 (.load none (tm 14)),
 o1 16 (.mov (tm 1)),
 o1 17 (.lookup (.int .i64) (.pointer none) true (tm 15) (tm 16)),
 o1 11 (.mov (tm 17)),
 o1 18 (.extract 0 (tm 11)),
 o1 19 (.extract 1 (tm 11)),
 o1 6 (.mov (tm 18)),
 o1 7 (.mov (tm 19))]) (.seq (.seq (.region [
 o1 20 (.mov (tm 7)),
 o1 21 (.raw (so (.unOp .not 4 (tm 20)) 4))]) (.cond (tm 21)
 (.seq (.region [
 o1 22 (.build ((.string ⟨⟨[]⟩⟩) :: ((.int .i64 0) :: ((.int .i64 0) :: (z32 ++ (z32 ++ (z32 ++ (z32 ++ ((.int .i64 0) :: (z32 ++ [(.slice none 0 0), (.slice none 0 0)]))))))))) []),
 o3 (.store 166 (tm 4) (tm 22)),
 o1 5 (.mov (.const (.bool false)))]) .ret)
 .skip)) (.seq (.region [
 o1 23 (.mov (tm 6)),
 o1 24 (.nilCheck (tm 23)),
 o1 25 (.fieldAddr 0 (tm 24)),
 o1 26 (.load (some 166) (tm 25)),
 o1 27 (.callV (.func 39) [(tm 26)]),
 o3 (.store 166 (tm 4) (tm 27)),
 o1 5 (.mov (.const (.bool true)))]) .ret)))))
def zjbQ : AFunc := ⟨28, [(4, some (some 166)), (5, none)], zjbQ_c, none⟩
theorem zjbQ_t0 : tableOf Try.prog 14 = some zjbQ := by kernel_rfl
theorem zjbQ_t : T0 14 = some zjbQ := withKept_t rfl (withTrue_t rfl zjbQ_t0)
theorem zjbQ_runs {v0 v1 : Value} {h : Heap} {R : RP} {X : XP} (k : RunC Try.prog T0 zjbQ_c ⟨[v0, v1, U, U, U, U, U, U, U, U, U, U, U, U, U, U, U, U, U, U, U, U, U, U, U, U, U, U], [], h, none⟩ (bodyQ Try.prog T0 [(4, some (some 166)), (5, none)] R X)) :
 Runs Try.prog T0 (.fn 14) [v0, v1] h R X := Runs.fn zjbQ_t rfl k
abbrev fn_zkbQ : FuncId := 17
def zkbQ_l0 : ACode :=
 (.seq (.region [
 o1 12 (.bin .lss (so (.binOp .lss 3 (tm 11) (tm 10) 3) 0) (tm 11) (tm 10))]) (.seq (.cond (tm 12)
 .skip
 (.exit 0)) (.seq (.block 1 (.seq (.region [
 o1 13 (.indexSl 1 (tm 9) (tm 11)),
 o1 14 (.load none (tm 13)),
 o1 4 (.mov (tm 14))]) (.seq (.region [
 o1 15 (.mov (tm 0)),
 o1 16 (.nilCheck (tm 15)),
 o1 17 (.fieldAddr 1 (tm 16)),
 o1 18 (.load none (tm 17)),
 o1 19 (.mov (tm 4)),
 o1 20 (.lookup (.int .i64) (.pointer none) false (tm 18) (tm 19)),
 o1 5 (.mov (tm 20))]) (.regionD [
 o1 21 (.mov (tm 2)),
 o1 22 (.mov (tm 4)),
 o1 23 (.mov (tm 5)),
 o1 24 (.nilCheck (tm 23)),
 o1 25 (.fieldAddr 166 (tm 24)),
 o1 26 (.load none (tm 25)),
 o1 27 (.mov (tm 5)),
 o1 28 (.nilCheck (tm 27)),
 o1 29 (.fieldAddr 167 (tm 28)),
 o1 30 (.load none (tm 29)),
 o1 31 (.build [(.int .i64 0), (.bool false), (.bool false)] [(0, 1, (tm 22)), (1, 1, (tm 26)), (2, 1, (tm 30))]),
 ⟨some 32, .buildSlice 47 [(.int .i64 0), (.bool false), (.bool false)] 1 [(0, 3, (tm 31))], none, [(some 21, .mov (tm 2), none)], false⟩,
 o2 33 (.append 47 3 16 [(.int .i64 0), (.bool false), (.bool false)] false (tm 21) (tm 32)),
 o2 2 (.mov (tm 33))])))) (.region [
 o1 34 (.bin .add (so (.binOp .add 3 (tm 11) (.const (.int .i64 1)) 3) 3) (tm 11) (.const (.int .i64 1))),
 o1 11 (.mov (tm 34))]))))
def zkbQ_c : ACode :=
 (.seq (.region [
 o1 2 (.mov (.const (.slice none 0 0)))]) (.seq (.seq (.region [
 o1 6 (.mov (tm 0)),
 o1 7 (.callV (.func 37) [(tm 6)])]) (.cond (tm 7)
 (.seq (.region [
 o1 2 (.mov (.const (.slice none 0 0)))]) .ret)
 .skip)) (.seq (.seq (.region [
 o1 8 (.mov (tm 0)),
 o1 9 (.callV (.func 38) [(tm 8)]),
 o1 10 (.lenSl (tm 9)),
 o1 11 (.mov k0)]) (.block 0 (.loop zkbQ_l0))) (.seq (.region [
 o1 35 (.mov (tm 2)),
 o1 2 (.mov (tm 35))]) .ret))))
def zkbQ : AFunc := ⟨36, [(2, none)], zkbQ_c, none⟩
theorem zkbQ_t0 : tableOf Try.prog 17 = some zkbQ := by kernel_rfl
theorem zkbQ_t : T0 17 = some zkbQ := withKept_t rfl (withTrue_t rfl zkbQ_t0)
theorem zkbQ_runs {v0 : Value} {h : Heap} {R : RP} {X : XP} (k : RunC Try.prog T0 zkbQ_c ⟨[v0, U, U, U, U, U, U, U, U, U, U, U, U, U, U, U, U, U, U, U, U, U, U, U, U, U, U, U, U, U, U, U, U, U, U, U], [], h, none⟩ (bodyQ Try.prog T0 [(2, none)] R X)) :
 Runs Try.prog T0 (.fn 17) [v0] h R X := Runs.fn zkbQ_t rfl k
abbrev zkbQ_l0_M : List Nat := [0, 0, 2, 0, 1, 1, 0, 0, 0, 0, 0, 2, 1, 1, 1, 1, 1, 1, 1, 1, 1, 1, 1, 1, 1, 1, 1, 1, 1, 1, 1, 1, 1, 1, 1, 0]
abbrev fn_zobQ : FuncId := 18
def zobQ_c : ACode :=
 (.seq (.region [
 o1 4 (.mov k0)]) (.seq (.region [
 o1 5 (.mov (tm 0)),
 o1 6 (.mov (tm 1)),
 o1 7 (.callV (.func 41) [(tm 5), (tm 6), (.func 45)]),
 o1 4 (.mov (tm 7))]) .ret))
def zobQ : AFunc := ⟨8, [(4, none)], zobQ_c, none⟩
theorem zobQ_t0 : tableOf Try.prog 18 = some zobQ := by kernel_rfl
theorem zobQ_t : T0 18 = some zobQ := withKept_t rfl (withTrue_t rfl zobQ_t0)
theorem zobQ_runs {v0 v1 : Value} {h : Heap} {R : RP} {X : XP} (k : RunC Try.prog T0 zobQ_c ⟨[v0, v1, U, U, U, U, U, U], [], h, none⟩ (bodyQ Try.prog T0 [(4, none)] R X)) :
 Runs Try.prog T0 (.fn 18) [v0, v1] h R X := Runs.fn zobQ_t rfl k
abbrev fn_zsQ : FuncId := 19
def zsQ_l0 : ACode :=
 (.seq (.seq (.region [
 o1 4 (.mov (tm 3)),
 o1 5 (.mov (tm 0)),
 o1 6 (.lenSl (tm 5)),
 o1 7 (.bin .lss (so (.binOp .lss 3 (tm 4) (tm 6) 3) 4) (tm 4) (tm 6)),
 o1 8 (.mov (tm 7)),
 o4 9 (.mov (tm 3)) 8,
 o4 10 (.bin .lss (so (.binOp .lss 3 (tm 9) (.const (.int .i64 41)) 3) 4) (tm 9) (.const (.int .i64 41))) 8,
 o1 11 (.pick (tm 8) (tm 10) (.const (.bool false)))]) (.cond (tm 11)
 .skip
 (.exit 0))) (.seq (.block 1 (.seq (.region [
 o1 14 (.mov (tm 0)),
 o1 15 (.mov (tm 3)),
 o1 16 (.indexSl 169 (tm 14) (tm 15)),
 o1 17 (.fieldAddr 3 (tm 16)),
 o1 18 (.load (some 166) (tm 17)),
 o1 19 (.callV (.func 36) [(tm 18)])]) (.cond (tm 19)
 (.seq (.region [
 o1 2 (.mov (.const (.bool true)))]) .ret)
 .skip))) (.region [
 o1 12 (.mov (tm 3)),
 o1 13 (.bin .add (so (.binOp .add 3 (tm 12) (.const (.int .i64 1)) 3) 3) (tm 12) (.const (.int .i64 1))),
 o1 3 (.mov (tm 13))])))
def zsQ_c : ACode :=
 (.seq (.region [
 o1 2 (.mov (.const (.bool false)))]) (.seq (.seq (.region [
 o1 3 (.mov k0)]) (.block 0 (.loop zsQ_l0))) (.seq (.region [
 o1 20 (.mov (tm 0)),
 o1 21 (.lenSl (tm 20)),
 o1 22 (.bin .gtr (so (.binOp .gtr 3 (tm 21) (.const (.int .i64 40)) 3) 4) (tm 21) (.const (.int .i64 40))),
 o1 2 (.mov (tm 22))]) .ret)))
def zsQ : AFunc := ⟨23, [(2, none)], zsQ_c, none⟩
theorem zsQ_t0 : tableOf Try.prog 19 = some zsQ := by kernel_rfl
theorem zsQ_t : T0 19 = some zsQ := withKept_t rfl (withTrue_t rfl zsQ_t0)
theorem zsQ_runs {v0 : Value} {h : Heap} {R : RP} {X : XP} (k : RunC Try.prog T0 zsQ_c ⟨[v0, U, U, U, U, U, U, U, U, U, U, U, U, U, U, U, U, U, U, U, U, U, U], [], h, none⟩ (bodyQ Try.prog T0 [(2, none)] R X)) :
 Runs Try.prog T0 (.fn 19) [v0] h R X := Runs.fn zsQ_t rfl k
abbrev zsQ_l0_M : List Nat := [0, 0, 1, 2, 1, 1, 1, 1, 1, 1, 1, 1, 1, 1, 1, 1, 1, 1, 1, 1, 0, 0, 0]
abbrev fn_zhQ : FuncId := 20
def zhQ_c : ACode :=
 (.seq (.region [
 o1 4 (.mov k0)]) (.seq (.seq (.region [
 o1 5 (.mov (tm 1)),
 o1 6 (.bin .leq (so (.binOp .leq 3 (tm 5) k0 3) 4) (tm 5) k0)]) (.cond (tm 6)
 (.seq (.region [
 o1 4 (.mov k0)]) .ret)
 .skip)) (.seq (.region [
 o1 7 (.mov (tm 0)),
 o1 8 (.mov (tm 1)),
 o1 9 (.bin .rem (so (.binOp .rem 3 (tm 7) (tm 8) 3) 3) (tm 7) (tm 8)),
 o1 0 (.mov (tm 9))]) (.seq (.seq (.region [
 o1 10 (.mov (tm 0)),
 o1 11 (.bin .lss (so (.binOp .lss 3 (tm 10) k0 3) 4) (tm 10) k0)]) (.cond (tm 11)
 (.region [
 o1 12 (.mov (tm 0)),
 o1 13 (.mov (tm 1)),
 o1 14 (.bin .add (so (.binOp .add 3 (tm 12) (tm 13) 3) 3) (tm 12) (tm 13)),
 o1 0 (.mov (tm 14))])
 .skip)) (.seq (.region [
 o1 15 (.mov (tm 0)),
 o1 4 (.mov (tm 15))]) .ret)))))
def zhQ : AFunc := ⟨16, [(4, none)], zhQ_c, none⟩
theorem zhQ_t0 : tableOf Try.prog 20 = some zhQ := by kernel_rfl
theorem zhQ_t : T0 20 = some zhQ := withKept_t rfl (withTrue_t rfl zhQ_t0)
theorem zhQ_runs {v0 v1 : Value} {h : Heap} {R : RP} {X : XP} (k : RunC Try.prog T0 zhQ_c ⟨[v0, v1, U, U, U, U, U, U, U, U, U, U, U, U, U, U], [], h, none⟩ (bodyQ Try.prog T0 [(4, none)] R X)) :
 Runs Try.prog T0 (.fn 20) [v0, v1] h R X := Runs.fn zhQ_t rfl k
abbrev fn_znbQ : FuncId := 21
def znbQ_c : ACode :=
 (.seq (.region [
 o1 3 (.box 36 (tm 1)),
 o1 4 (.mov k0),
 o1 5 (.mov k0)]) (.seq (.seq (.region [
 o1 10 (.mov (tm 0)),
 o1 11 (.callV (.func 37) [(tm 10)])]) (.cond (tm 11)
 (.seq (.region [
 o1 4 (.mov k0),
 o1 5 (.mov (.const (.int .i64 1)))]) .ret)
 .skip)) (.seq (.regionD [
 o1 13 (.mov (tm 0)),
 o1 14 (.nilCheck (tm 13)),
 o1 15 (.fieldAddr 1 (tm 14)),
 o1 16 (.load none (tm 15)),
 o1 17 (.fieldAddr 0 (tm 3)),
 o1 18 (.fieldAddr 1 (tm 17)),
 o1 19 (.load none (tm 18)),
 o2 20 (.lookup (.int .i64) (.pointer none) true (tm 16) (tm 19)),
 o2 12 (.mov (tm 20)),
 o1 21 (.extract 0 (tm 12)),
 o1 22 (.extract 1 (tm 12)),
 o1 6 (.mov (tm 21)),
 o2 7 (.mov (tm 22))]) (.seq (.block 0 (.seq (.region [
 o1 24 (.fieldAddr 0 (tm 3)),
 o1 25 (.fieldAddr 1 (tm 24)),
 o1 26 (.load none (tm 25)),
 o1 27 (.bin .lss (so (.binOp .lss 3 (tm 26) (.const (.int .i64 1)) 3) 4) (tm 26) (.const (.int .i64 1))),
 o1 28 (.mov (tm 27)),
 o5 29 (.fieldAddr 0 (tm 3)) 28,
 o5 30 (.fieldAddr 1 (tm 29)) 28,
 o5 31 (.load none (tm 30)) 28,
 o5 32 (.bin .gtr (so (.binOp .gtr 3 (tm 31) (.const (.int .i64 1073741824)) 3) 4) (tm 31) (.const (.int .i64 1073741824))) 28,
 o1 33 (.pick (tm 28) (.const (.bool true)) (tm 32)),
 o1 23 (.mov (tm 33))]) (.cond (tm 23)
 (.seq (.region [
 o1 4 (.mov k0),
 o1 5 (.mov (.const (.int .i64 13)))]) .ret)
 (.seq (.region [
 o1 35 (.mov (tm 7)),
 o1 34 (.mov (tm 35))]) (.cond (tm 34)
 (.seq (.region [
 o1 4 (.mov k0),
 o1 5 (.mov (.const (.int .i64 8)))]) .ret)
 .skip))))) (.seq (.region [
 o1 8 (.mov k0)]) (.seq (.seq (.regionD [
 o1 36 (.mov (tm 0)),
 o1 37 (.nilCheck (tm 36)),
 o1 38 (.fieldAddr 1 (tm 37)),
 o1 39 (.load none (tm 38)),
 o1 40 (.lenMap (tm 39)),
 o1 41 (.mov (tm 0)),
 o1 42 (.nilCheck (tm 41)),
 o1 43 (.fieldAddr 0 (tm 42)),
 o1 44 (.load none (tm 43)),
 o2 45 (.bin .geq (so (.binOp .geq 3 (tm 40) (tm 44) 3) 4) (tm 40) (tm 44))]) (.cond (tm 45)
 (.seq (.region [
 o1 46 (.mov (tm 0)),
 o1 47 (.callV (.func 46) [(tm 46)]),
 o1 9 (.mov (tm 47))]) (.seq (.seq (.region [
 o1 48 (.mov (tm 9)),
 o1 49 (.lenSl (tm 48)),
 o1 50 (.bin .eql (so (.binOp .eql 3 (tm 49) k0 3) 4) (tm 49) k0)]) (.cond (tm 50)
 (.seq (.region [
 o1 4 (.mov k0),
 o1 5 (.mov (.const (.int .i64 7)))]) .ret)
 .skip)) (.seq (.region [
 o1 51 (.mov (tm 9)),
 o1 52 (.callV (.func 47) [(tm 51), (.func 48)]),
 o1 53 (.nilCheck (tm 52)),
 o1 54 (.fieldAddr 0 (tm 53)),
 o1 55 (.fieldAddr 0 (tm 54)),
 o1 56 (.fieldAddr 1 (tm 55)),
 o1 57 (.load none (tm 56)),
 o1 8 (.mov (tm 57))]) (.region [
 o1 58 (.mov (tm 0)),
 o1 59 (.nilCheck (tm 58)),
 o1 60 (.fieldAddr 1 (tm 59)),
 o1 61 (.load none (tm 60)),
 o1 62 (.mov (tm 8)),
 o3 (.delete (.int .i64) (tm 61) (tm 62))]))))
 .skip)) (.seq (.regionD [
 o1 63 (.mov (tm 0)),
 o1 64 (.nilCheck (tm 63)),
 o1 65 (.fieldAddr 1 (tm 64)),
 o1 66 (.load none (tm 65)),
 o1 67 (.fieldAddr 0 (tm 3)),
 o1 68 (.fieldAddr 1 (tm 67)),
 o1 69 (.load none (tm 68)),
 o1 70 (.load (some 166) (tm 3)),
 ⟨some 71, .callV (.func 39) [(tm 70)], none, [(some 69, .load none (tm 68), none), (some 68, .fieldAddr 1 (tm 67), none), (some 67, .fieldAddr 0 (tm 3), none), (some 66, .load none (tm 65), none), (some 65, .fieldAddr 1 (tm 64), none), (some 64, .nilCheck (tm 63), none), (some 63, .mov (tm 0), none)], false⟩,
 o1 72 (.build ((.string ⟨⟨[]⟩⟩) :: ((.int .i64 0) :: ((.int .i64 0) :: (z32 ++ (z32 ++ (z32 ++ (z32 ++ ((.int .i64 0) :: (z32 ++ [(.slice none 0 0), (.slice none 0 0), (.bool false), (.bool false)]))))))))) [(0, 166, (tm 71))]),
 ⟨some 73, .box 82 (tm 72), none, [(some 69, .load none (tm 68), none), (some 68, .fieldAddr 1 (tm 67), none), (some 67, .fieldAddr 0 (tm 3), none), (some 66, .load none (tm 65), none), (some 65, .fieldAddr 1 (tm 64), none), (some 64, .nilCheck (tm 63), none), (some 63, .mov (tm 0), none)], false⟩,
 ⟨none, .mapUpdate (.int .i64) (tm 66) (tm 69) (tm 73), none, [], true⟩]) (.seq (.region [
 o1 74 (.mov (tm 8)),
 o1 4 (.mov (tm 74)),
 o1 5 (.mov k0)]) .ret))))))))
def znbQ : AFunc := ⟨75, [(4, none), (5, none)], znbQ_c, none⟩
theorem znbQ_t0 : tableOf Try.prog 21 = some znbQ := by kernel_rfl
theorem znbQ_t : T0 21 = some znbQ := withKept_t rfl (withTrue_t rfl znbQ_t0)
theorem znbQ_runs {v0 v1 : Value} {h : Heap} {R : RP} {X : XP} (k : RunC Try.prog T0 znbQ_c ⟨[v0, v1, U, U, U, U, U, U, U, U, U, U, U, U, U, U, U, U, U, U, U, U, U, U, U, U, U, U, U, U, U, U, U, U, U, U, U, U, U, U, U, U, U, U, U, U, U, U, U, U, U, U, U, U, U, U, U, U, U, U, U, U, U, U, U, U, U, U, U, U, U, U, U, U, U], [], h, none⟩ (bodyQ Try.prog T0 [(4, none), (5, none)] R X)) :
 Runs Try.prog T0 (.fn 21) [v0, v1] h R X := Runs.fn znbQ_t rfl k
abbrev fn_zrQ : FuncId := 23
def zrQ_l0 : ACode :=
 (.seq (.seq (.region [
 o1 9 (.mov (tm 5)),
 o1 10 (.bin .geq (so (.binOp .geq 3 (tm 9) k0 3) 4) (tm 9) k0)]) (.cond (tm 10)
 .skip
 (.exit 0))) (.seq (.block 1 (.seq (.regionD [
 o1 13 (.mov (tm 0)),
 o1 14 (.mov (tm 5)),
 o1 15 (.indexSl 166 (tm 13) (tm 14)),
 o1 16 (.fieldAddr 0 (tm 15)),
 o1 17 (.fieldAddr 1 (tm 16)),
 o1 18 (.load none (tm 17)),
 o1 19 (.fieldAddr 0 (tm 3)),
 o1 20 (.fieldAddr 1 (tm 19)),
 o1 21 (.load none (tm 20)),
 o2 22 (.bin .eql (so (.binOp .eql 3 (tm 18) (tm 21) 3) 4) (tm 18) (tm 21))]) (.cond (tm 22)
 (.seq (.regionD [
 o1 23 (.mov (tm 0)),
 o1 24 (.mov (tm 5)),
 o1 25 (.indexSl 166 (tm 23) (tm 24)),
 o1 26 (.load (some 166) (tm 25)),
 o1 27 (.load (some 166) (tm 3)),
 o2 28 (.callV (.func 27) [(tm 26), (tm 27)]),
 o2 4 (.mov (tm 28))]) .ret)
 .skip))) (.region [
 o1 11 (.mov (tm 5)),
 o1 12 (.bin .sub (so (.binOp .sub 3 (tm 11) (.const (.int .i64 1)) 3) 3) (tm 11) (.const (.int .i64 1))),
 o1 5 (.mov (tm 12))])))
def zrQ_c : ACode :=
 (.seq (.region [
 o1 3 (.box 36 (tm 1)),
 o1 4 (.mov (.const (.bool false)))]) (.seq (.seq (.region [
 o1 6 (.mov (tm 0)),
 o1 7 (.lenSl (tm 6)),
 o1 8 (.bin .sub (so (.binOp .sub 3 (tm 7) (.const (.int .i64 1)) 3) 3) (tm 7) (.const (.int .i64 1))),
 o1 5 (.mov (tm 8))]) (.block 0 (.loop zrQ_l0))) (.seq (.region [
 o1 4 (.mov (.const (.bool false)))]) .ret)))
def zrQ : AFunc := ⟨29, [(4, none)], zrQ_c, none⟩
theorem zrQ_t0 : tableOf Try.prog 23 = some zrQ := by kernel_rfl
theorem zrQ_t : T0 23 = some zrQ := withKept_t rfl (withTrue_t rfl zrQ_t0)
theorem zrQ_runs {v0 v1 : Value} {h : Heap} {R : RP} {X : XP} (k : RunC Try.prog T0 zrQ_c ⟨[v0, v1, U, U, U, U, U, U, U, U, U, U, U, U, U, U, U, U, U, U, U, U, U, U, U, U, U, U, U], [], h, none⟩ (bodyQ Try.prog T0 [(4, none)] R X)) :
 Runs Try.prog T0 (.fn 23) [v0, v1] h R X := Runs.fn zrQ_t rfl k
abbrev zrQ_l0_M : List Nat := [0, 0, 0, 0, 1, 2, 0, 0, 0, 1, 1, 1, 1, 1, 1, 1, 1, 1, 1, 1, 1, 1, 1, 1, 1, 1, 1, 1, 1]
abbrev fn_ziQ : FuncId := 27
def ziQ_c : ACode :=
 (.seq (.region [
 o1 2 (.box 36 (tm 0)),
 o1 3 (.box 36 (tm 1)),
 o1 4 (.mov (.const (.bool false)))]) (.seq (.region [
 o1 5 (.fieldAddr 0 (tm 2)),
 o1 6 (.load (some 131) (tm 5)),
 o1 7 (.fieldAddr 0 (tm 3)),
 o1 8 (.load (some 131) (tm 7)),
 o1 9 (.bin .eql (so (.binOp .eql 30 (tm 6) (tm 8) 30) 4) (tm 6) (tm 8)),
 o1 10 (.mov (tm 9)),
 o4 11 (.fieldAddr 131 (tm 2)) 10,
 o4 12 (.load (some 34) (tm 11)) 10,
 o4 13 (.fieldAddr 131 (tm 3)) 10,
 o4 14 (.load (some 34) (tm 13)) 10,
 o4 15 (.callV (.func 54) [(tm 12), (tm 14)]) 10,
 o1 16 (.pick (tm 10) (tm 15) (.const (.bool false))),
 o1 17 (.mov (tm 16)),
 o4 18 (.fieldAddr 165 (tm 2)) 17,
 o4 19 (.load none (tm 18)) 17,
 o4 20 (.fieldAddr 165 (tm 3)) 17,
 o4 21 (.load none (tm 20)) 17,
 o4 22 (.callV (.func 55) [(tm 19), (tm 21)]) 17,
 o1 23 (.pick (tm 17) (tm 22) (.const (.bool false))),
 o1 4 (.mov (tm 23))]) .ret))
def ziQ : AFunc := ⟨24, [(4, none)], ziQ_c, none⟩
theorem ziQ_t0 : tableOf Try.prog 27 = some ziQ := by kernel_rfl
theorem ziQ_t : T0 27 = some ziQ := withKept_t rfl (withTrue_t rfl ziQ_t0)
theorem ziQ_runs {v0 v1 : Value} {h : Heap} {R : RP} {X : XP} (k : RunC Try.prog T0 ziQ_c ⟨[v0, v1, U, U, U, U, U, U, U, U, U, U, U, U, U, U, U, U, U, U, U, U, U, U], [], h, none⟩ (bodyQ Try.prog T0 [(4, none)] R X)) :
 Runs Try.prog T0 (.fn 27) [v0, v1] h R X := Runs.fn ziQ_t rfl k
abbrev fn_zgQ : FuncId := 36
def zgQ_c : ACode :=
 (.seq (.region [
 o1 1 (.box 36 (tm 0)),
 o1 2 (.mov (.const (.bool false)))]) (.seq (.region [
 o1 3 (.fieldAddr 165 (tm 1)),
 o1 4 (.load none (tm 3)),
 o1 5 (.lenSl (tm 4)),
 o1 6 (.bin .gtr (so (.binOp .gtr 3 (tm 5) (.const (.int .i64 70)) 3) 4) (tm 5) (.const (.int .i64 70))),
 o1 7 (.mov (tm 6)),
 o5 8 (.fieldAddr 131 (tm 1)) 7,
 o5 9 (.fieldAddr 33 (tm 8)) 7,
 o5 10 (.load none (tm 9)) 7,
 o5 11 (.lenSl (tm 10)) 7,
 o5 12 (.bin .gtr (so (.binOp .gtr 3 (tm 11) (.const (.int .i64 70)) 3) 4) (tm 11) (.const (.int .i64 70))) 7,
 o1 13 (.pick (tm 7) (.const (.bool true)) (tm 12)),
 o1 14 (.mov (tm 13)),
 o5 15 (.fieldAddr 0 (tm 1)) 14,
 o5 16 (.fieldAddr 0 (tm 15)) 14,
 o5 17 (.load none (tm 16)) 14,
 o5 18 (.lenStr (tm 17)) 14,
 o5 19 (.bin .gtr (so (.binOp .gtr 3 (tm 18) (.const (.int .i64 60)) 3) 4) (tm 18) (.const (.int .i64 60))) 14,
 o1 20 (.pick (tm 14) (.const (.bool true)) (tm 19)),
 o1 2 (.mov (tm 20))]) .ret))
def zgQ : AFunc := ⟨21, [(2, none)], zgQ_c, none⟩
theorem zgQ_t0 : tableOf Try.prog 36 = some zgQ := by kernel_rfl
theorem zgQ_t : T0 36 = some zgQ := withKept_t rfl (withTrue_t rfl zgQ_t0)
theorem zgQ_runs {v0 : Value} {h : Heap} {R : RP} {X : XP} (k : RunC Try.prog T0 zgQ_c ⟨[v0, U, U, U, U, U, U, U, U, U, U, U, U, U, U, U, U, U, U, U, U], [], h, none⟩ (bodyQ Try.prog T0 [(2, none)] R X)) :
 Runs Try.prog T0 (.fn 36) [v0] h R X := Runs.fn zgQ_t rfl k
abbrev fn_zrbQ : FuncId := 37
def zrbQ_c : ACode :=
 (.seq (.region [
 o1 2 (.mov (.const (.bool false)))]) (.seq (.region [
 o1 3 (.mov (tm 0)),
 o1 4 (.eq .ptr false (so (.binOp .eql 22 (tm 3) (.const (.pointer none)) 22) 4) (tm 3) (.const (.pointer none))),
 o1 5 (.mov (tm 4)),
 o5 6 (.mov (tm 0)) 5,
 o5 7 (.nilCheck (tm 6)) 5,
 o5 8 (.fieldAddr 1 (tm 7)) 5,
 o5 9 (.load none (tm 8)) 5,
 o5 10 (.eq .map false (so (.binOp .eql 73 (tm 9) (.const (.map none)) 73) 4) (tm 9) (.const (.map none))) 5,
 o1 11 (.pick (tm 5) (.const (.bool true)) (tm 10)),
 o1 2 (.mov (tm 11))]) .ret))
def zrbQ : AFunc := ⟨12, [(2, none)], zrbQ_c, none⟩
theorem zrbQ_t0 : tableOf Try.prog 37 = some zrbQ := by kernel_rfl
theorem zrbQ_t : T0 37 = some zrbQ := withKept_t rfl (withTrue_t rfl zrbQ_t0)
theorem zrbQ_runs {v0 : Value} {h : Heap} {R : RP} {X : XP} (k : RunC Try.prog T0 zrbQ_c ⟨[v0, U, U, U, U, U, U, U, U, U, U, U], [], h, none⟩ (bodyQ Try.prog T0 [(2, none)] R X)) :
 Runs Try.prog T0 (.fn 37) [v0] h R X := Runs.fn zrbQ_t rfl k
abbrev fn_zsbQ : FuncId := 38
def zsbQ_l0 : ACode :=
 (.seq (.seq (.region [
 o1 14 (.load none (tm 3)),
 o1 15 (.callV (.func 61) [(tm 14)]),
 o1 16 (.bin .gtr (so (.binOp .gtr 3 (tm 15) k0 3) 4) (tm 15) k0)]) (.cond (tm 16)
 .skip
 (.exit 0))) (.block 1 (.seq (.region [
 o1 18 (.mkIface 107 (tm 3)),
 o1 19 (.callV (.func 62) [(tm 18)]),
 o1 20 (.assertTo 3 (.int .i64 0) true (tm 19)),
 o1 17 (.mov (tm 20)),
 o1 21 (.extract 0 (tm 17)),
 o1 22 (.extract 1 (tm 17)),
 o1 4 (.mov (tm 21)),
 o1 5 (.mov (tm 22))]) (.seq (.region [
 o1 23 (.mov (tm 5))]) (.cond (tm 23)
 (.region [
 o1 24 (.mov (tm 2)),
 o1 25 (.mov (tm 4)),
 o1 26 (.buildSlice 3 [(.int .i64 0)] 1 [(0, 1, (tm 25))]),
 o1 27 (.append 3 1 8 [(.int .i64 0)] false (tm 24) (tm 26)),
 o1 2 (.mov (tm 27))])
 .skip)))))
def zsbQ_c : ACode :=
 (.seq (.region [
 o1 2 (.mov (.const (.slice none 0 0)))]) (.seq (.region [
 o1 6 (.mov (tm 0)),
 o1 7 (.nilCheck (tm 6)),
 o1 8 (.fieldAddr 1 (tm 7)),
 o1 9 (.load none (tm 8)),
 o1 10 (.callV (.func 59) [(tm 9)]),
 o1 11 (.callV (.func 58) [(tm 10)]),
 o1 3 (.alloc 101 [(.slice none 0 0)]),
 o3 (.store 1 (tm 3) (tm 11))]) (.seq (.region [
 o1 12 (.mkIface 107 (tm 3)),
 o1 13 (.callV (.func 60) [(tm 12)])]) (.seq (.block 0 (.loop zsbQ_l0)) (.seq (.region [
 o1 28 (.mov (tm 2)),
 o1 2 (.mov (tm 28))]) .ret)))))
def zsbQ : AFunc := ⟨29, [(2, none)], zsbQ_c, none⟩
theorem zsbQ_t0 : tableOf Try.prog 38 = some zsbQ := by kernel_rfl
theorem zsbQ_t : T0 38 = some zsbQ := withKept_t rfl (withTrue_t rfl zsbQ_t0)
theorem zsbQ_runs {v0 : Value} {h : Heap} {R : RP} {X : XP} (k : RunC Try.prog T0 zsbQ_c ⟨[v0, U, U, U, U, U, U, U, U, U, U, U, U, U, U, U, U, U, U, U, U, U, U, U, U, U, U, U, U], [], h, none⟩ (bodyQ Try.prog T0 [(2, none)] R X)) :
 Runs Try.prog T0 (.fn 38) [v0] h R X := Runs.fn zsbQ_t rfl k
abbrev zsbQ_l0_M : List Nat := [0, 0, 2, 0, 1, 1, 0, 0, 0, 0, 0, 0, 0, 0, 1, 1, 1, 1, 1, 1, 1, 1, 1, 1, 1, 1, 1, 1, 0]
abbrev fn_zacQ : FuncId := 39
def zacQ_c : ACode :=
 (.seq (.region [
 o1 1 (.box 36 (tm 0)),
 o1 2 (.alloc 36 ((.string ⟨⟨[]⟩⟩) :: ((.int .i64 0) :: ((.int .i64 0) :: (z32 ++ (z32 ++ (z32 ++ (z32 ++ ((.int .i64 0) :: (z32 ++ [(.slice none 0 0), (.slice none 0 0)]))))))))))]) (.seq (.regionD [
 o1 3 (.fieldAddr 165 (tm 1)),
 o1 4 (.load none (tm 3)),
 o1 6 (.fieldAddr 131 (tm 1)),
 o1 7 (.fieldAddr 33 (tm 6)),
 o1 8 (.load none (tm 7)),
 ⟨some 5, .callV (.func 63) [(tm 4)], none, [(some 8, .load none (tm 7), none), (some 7, .fieldAddr 33 (tm 6), none), (some 6, .fieldAddr 131 (tm 1), none)], false⟩,
 o1 10 (.fieldAddr 165 (tm 1)),
 ⟨some 9, .callV (.func 64) [(tm 8)], none, [(some 10, .fieldAddr 165 (tm 1), none)], false⟩,
 ⟨none, .store 1 (tm 10) (tm 5), none, [], true⟩,
 o2 11 (.fieldAddr 131 (tm 1)),
 o2 12 (.fieldAddr 33 (tm 11)),
 ⟨none, .store 1 (tm 12) (tm 9), none, [], true⟩]) (.seq (.region [
 o1 13 (.load (some 166) (tm 1)),
 o3 (.store 166 (tm 2) (tm 13))]) .ret)))
def zacQ : AFunc := ⟨14, [(2, some (some 166))], zacQ_c, none⟩
theorem zacQ_t0 : tableOf Try.prog 39 = some zacQ := by kernel_rfl
theorem zacQ_t : T0 39 = some zacQ := withKept_t rfl (withTrue_t rfl zacQ_t0)
theorem zacQ_runs {v0 : Value} {h : Heap} {R : RP} {X : XP} (k : RunC Try.prog T0 zacQ_c ⟨[v0, U, U, U, U, U, U, U, U, U, U, U, U, U], [], h, none⟩ (bodyQ Try.prog T0 [(2, some (some 166))] R X)) :
 Runs Try.prog T0 (.fn 39) [v0] h R X := Runs.fn zacQ_t rfl k
abbrev fn_ztbQ : FuncId := 41
def ztbQ_c : ACode :=
 (.seq (.region [
 o1 6 (.mov k0)]) (.seq (.seq (.region [
 o1 9 (.mov (tm 0)),
 o1 10 (.callV (.func 37) [(tm 9)])]) (.cond (tm 10)
 (.seq (.region [
 o1 6 (.mov (.const (.int .i64 1)))]) .ret)
 .skip)) (.seq (.region [
 o1 12 (.mov (tm 0)),
 o1 13 (.nilCheck (tm 12)),
 o1 14 (.fieldAddr 1 (tm 13)),
 o1 15 (.load none (tm 14)),
 o1 16 (.mov (tm 1)),
 o1 17 (.lookup (.int .i64) (.pointer none) true (tm 15) (tm 16)),
 o1 11 (.mov (tm 17)),
 o1 18 (.extract 0 (tm 11)),
 o1 19 (.extract 1 (tm 11)),
 o1 7 (.mov (tm 18)),
 o1 8 (.mov (tm 19))]) (.seq (.seq (.region [
 o1 20 (.mov (tm 8)),
 o1 21 (.raw (so (.unOp .not 4 (tm 20)) 4))]) (.cond (tm 21)
 (.seq (.region [
 o1 6 (.mov (.const (.int .i64 10)))]) .ret)
 .skip)) (.seq (.region [
 o1 22 (.mov (tm 2)),
 o1 23 (.mov (tm 7)),
 o1 24 (.callV (tm 22) [(tm 23)])]) (.seq (.region [
 o1 6 (.mov k0)]) .ret))))))
def ztbQ : AFunc := ⟨25, [(6, none)], ztbQ_c, none⟩
theorem ztbQ_t0 : tableOf Try.prog 41 = some ztbQ := by kernel_rfl
theorem ztbQ_t : T0 41 = some ztbQ := withKept_t rfl (withTrue_t rfl ztbQ_t0)
theorem ztbQ_runs {v0 v1 v2 : Value} {h : Heap} {R : RP} {X : XP} (k : RunC Try.prog T0 ztbQ_c ⟨[v0, v1, v2, U, U, U, U, U, U, U, U, U, U, U, U, U, U, U, U, U, U, U, U, U, U], [], h, none⟩ (bodyQ Try.prog T0 [(6, none)] R X)) :
 Runs Try.prog T0 (.fn 41) [v0, v1, v2] h R X := Runs.fn ztbQ_t rfl k
abbrev fn_zmbQ : FuncId := 42
def zmbQ_c : ACode :=
 (.region [
 o1 3 (.mov (tm 0)),
 o1 4 (.load none (tm 1)),
 o1 5 (.nilCheck (tm 3)),
 o1 6 (.fieldAddr 167 (tm 5)),
 o3 (.store 1 (tm 6) (tm 4))])
def zmbQ : AFunc := ⟨7, [], zmbQ_c, none⟩
theorem zmbQ_t0 : tableOf Try.prog 42 = some zmbQ := by kernel_rfl
theorem zmbQ_t : T0 42 = some zmbQ := withKept_t rfl (withTrue_t rfl zmbQ_t0)
theorem zmbQ_runs {v0 v1 : Value} {h : Heap} {R : RP} {X : XP} (k : RunC Try.prog T0 zmbQ_c ⟨[v0, v1, U, U, U, U, U], [], h, none⟩ (bodyQ Try.prog T0 [] R X)) :
 Runs Try.prog T0 (.fn 42) [v0, v1] h R X := Runs.fn zmbQ_t rfl k
abbrev fn_zvQ : FuncId := 43
def zvQ_l0 : ACode :=
 (.seq (.region [
 o1 8 (.nextMap (tm 7)),
 o1 9 (.extract 0 (tm 8))]) (.seq (.cond (tm 9)
 .skip
 (.exit 0)) (.block 1 (.seq (.region [
 o1 10 (.entryMap (tm 7)),
 o1 11 (.extract 0 (tm 10)),
 o1 12 (.extract 1 (tm 10)),
 o1 4 (.mov (tm 11)),
 o1 5 (.mov (tm 12))]) (.seq (.region [
 o1 13 (.mov (tm 1)),
 o1 14 (.mov (tm 4)),
 o1 15 (.mov (tm 5)),
 o1 16 (.callV (tm 13) [(tm 14), (tm 15)])]) (.cond (tm 16)
 (.region [
 o1 17 (.mov (tm 0)),
 o1 18 (.mov (tm 4)),
 o3 (.delete (.int .i64) (tm 17) (tm 18))])
 .skip))))))
def zvQ_c : ACode :=
 (.seq (.region [
 o1 6 (.mov (tm 0)),
 o1 7 (.rangeMap (tm 6))]) (.block 0 (.loop zvQ_l0)))
def zvQ : AFunc := ⟨19, [], zvQ_c, none⟩
theorem zvQ_t0 : tableOf Try.prog 43 = some zvQ := by kernel_rfl
theorem zvQ_t : T0 43 = some zvQ := withKept_t rfl (withTrue_t rfl zvQ_t0)
theorem zvQ_runs {v0 v1 : Value} {h : Heap} {R : RP} {X : XP} (k : RunC Try.prog T0 zvQ_c ⟨[v0, v1, U, U, U, U, U, U, U, U, U, U, U, U, U, U, U, U, U], [], h, none⟩ (bodyQ Try.prog T0 [] R X)) :
 Runs Try.prog T0 (.fn 43) [v0, v1] h R X := Runs.fn zvQ_t rfl k
abbrev zvQ_l0_M : List Nat := [0, 0, 0, 0, 1, 1, 0, 0, 1, 1, 1, 1, 1, 1, 1, 1, 1, 1, 1]
abbrev fn_zibQ : FuncId := 44
def zibQ_c : ACode :=
 (.seq (.region [
 o1 5 (.mov (.const (.bool false)))]) (.seq (.region [
 o1 6 (.mov (tm 0)),
 o1 7 (.load none (tm 2)),
 o1 8 (.bin .neq (so (.binOp .neq 3 (tm 6) (tm 7) 3) 4) (tm 6) (tm 7)),
 o1 5 (.mov (tm 8))]) .ret))
def zibQ : AFunc := ⟨9, [(5, none)], zibQ_c, none⟩
theorem zibQ_t0 : tableOf Try.prog 44 = some zibQ := by kernel_rfl
theorem zibQ_t : T0 44 = some zibQ := withKept_t rfl (withTrue_t rfl zibQ_t0)
theorem zibQ_runs {v0 v1 v2 : Value} {h : Heap} {R : RP} {X : XP} (k : RunC Try.prog T0 zibQ_c ⟨[v0, v1, v2, U, U, U, U, U, U], [], h, none⟩ (bodyQ Try.prog T0 [(5, none)] R X)) :
 Runs Try.prog T0 (.fn 44) [v0, v1, v2] h R X := Runs.fn zibQ_t rfl k
abbrev fn_zpbQ : FuncId := 45
def zpbQ_c : ACode :=
 (.region [
 o1 2 (.mov (tm 0)),
 o1 3 (.nilCheck (tm 2)),
 o1 4 (.fieldAddr 166 (tm 3)),
 o3 (.store 1 (tm 4) (.const (.bool true)))])
def zpbQ : AFunc := ⟨5, [], zpbQ_c, none⟩
theorem zpbQ_t0 : tableOf Try.prog 45 = some zpbQ := by kernel_rfl
theorem zpbQ_t : T0 45 = some zpbQ := withKept_t rfl (withTrue_t rfl zpbQ_t0)
theorem zpbQ_runs {v0 : Value} {h : Heap} {R : RP} {X : XP} (k : RunC Try.prog T0 zpbQ_c ⟨[v0, U, U, U, U], [], h, none⟩ (bodyQ Try.prog T0 [] R X)) :
 Runs Try.prog T0 (.fn 45) [v0] h R X := Runs.fn zpbQ_t rfl k
abbrev fn_zqbQ : FuncId := 46
def zqbQ_ra0 : Code := (rangeParts (subCode ((Try.prog.funcs[46]?).bind (·.body)) [true, false, true, false])).1
def zqbQ_rb0 : Code := (rangeParts (subCode ((Try.prog.funcs[46]?).bind (·.body)) [true, false, true, false])).2
def zqbQ_a0 : ACode :=
 (.region [
 o1 3 (.mov (tm 9))])
def zqbQ_b0 : ACode :=
 (.block 1 (.seq (.region [
 o1 10 (.mov (tm 3)),
 o1 11 (.nilCheck (tm 10)),
 o1 12 (.fieldAddr 167 (tm 11)),
 o1 13 (.load none (tm 12)),
 o1 14 (.raw (so (.unOp .not 4 (tm 13)) 4))]) (.cond (tm 14)
 (.region [
 o1 15 (.load none (tm 2)),
 o1 16 (.mov (tm 3)),
 o1 17 (.buildSlice 80 [(.pointer none)] 1 [(0, 1, (tm 16))]),
 o1 18 (.append 80 1 8 [(.pointer none)] false (tm 15) (tm 17)),
 o3 (.store 1 (tm 2) (tm 18))])
 .skip)))
theorem zqbQ_ca0 : comp Try.prog zqbQ_ra0 = some zqbQ_a0 := by kernel_rfl
theorem zqbQ_cb0 : comp Try.prog zqbQ_rb0 = some zqbQ_b0 := by kernel_rfl
theorem zqbQ_na0 : noDefer zqbQ_ra0 = true := by kernel_rfl
theorem zqbQ_nb0 : noDefer zqbQ_rb0 = true := by kernel_rfl
def zqbQ_c : ACode :=
 (.seq (.region [
 o1 2 (.alloc 89 [(.slice none 0 0)])]) (.seq (.seq (.region [
 o1 4 (.mov (tm 0)),
 o1 5 (.nilCheck (tm 4)),
 o1 6 (.fieldAddr 1 (tm 5)),
 o1 7 (.load none (tm 6)),
 o1 8 (.callV (.func 65) [(tm 7)])]) (.block 0 (.rangeFunc (tm 8) [9] zqbQ_ra0 zqbQ_rb0))) (.seq (.region [
 o1 19 (.load none (tm 2)),
 o3 (.store 1 (tm 2) (tm 19))]) .ret)))
def zqbQ : AFunc := ⟨20, [(2, some none)], zqbQ_c, none⟩
theorem zqbQ_t0 : tableOf Try.prog 46 = some zqbQ := by kernel_rfl
theorem zqbQ_t : T0 46 = some zqbQ := withKept_t rfl (withTrue_t rfl zqbQ_t0)
theorem zqbQ_runs {v0 : Value} {h : Heap} {R : RP} {X : XP} (k : RunC Try.prog T0 zqbQ_c ⟨[v0, U, U, U, U, U, U, U, U, U, U, U, U, U, U, U, U, U, U, U], [], h, none⟩ (bodyQ Try.prog T0 [(2, some none)] R X)) :
 Runs Try.prog T0 (.fn 46) [v0] h R X := Runs.fn zqbQ_t rfl k
abbrev fn_zebQ : FuncId := 47
def zebQ_l0 : ACode :=
 (.seq (.seq (.region [
 o1 14 (.mov (tm 6)),
 o1 15 (.mov (tm 0)),
 o1 16 (.lenSl (tm 15)),
 o1 17 (.bin .lss (so (.binOp .lss 3 (tm 14) (tm 16) 3) 4) (tm 14) (tm 16))]) (.cond (tm 17)
 .skip
 (.exit 0))) (.seq (.block 1 (.seq (.region [
 o1 20 (.mov (tm 1)),
 o1 21 (.mov (tm 0)),
 o1 22 (.mov (tm 6)),
 o1 23 (.indexSl 1 (tm 21) (tm 22)),
 o1 24 (.load none (tm 23)),
 o1 25 (.mov (tm 5)),
 o1 26 (.callV (tm 20) [(tm 24), (tm 25)]),
 o1 27 (.bin .lss (so (.binOp .lss 3 (tm 26) k0 3) 4) (tm 26) k0)]) (.cond (tm 27)
 (.region [
 o1 28 (.mov (tm 0)),
 o1 29 (.mov (tm 6)),
 o1 30 (.indexSl 1 (tm 28) (tm 29)),
 o1 31 (.load none (tm 30)),
 o1 5 (.mov (tm 31))])
 .skip))) (.region [
 o1 18 (.mov (tm 6)),
 o1 19 (.bin .add (so (.binOp .add 3 (tm 18) (.const (.int .i64 1)) 3) 3) (tm 18) (.const (.int .i64 1))),
 o1 6 (.mov (tm 19))])))
def zebQ_c : ACode :=
 (.seq (.region [
 o1 4 (.mov (.const (.pointer none)))]) (.seq (.seq (.region [
 o1 7 (.mov (tm 0)),
 o1 8 (.lenSl (tm 7)),
 o1 9 (.bin .lss (so (.binOp .lss 3 (tm 8) (.const (.int .i64 1)) 3) 4) (tm 8) (.const (.int .i64 1)))]) (.cond (tm 9)
 (.region [
 o1 10 (.mkIface 9 (.const (.string ⟨⟨[115, 108, 105, 99, 101, 115, 46, 77, 105, 110, 70, 117, 110, 99, 58, 32, 101, 109, 112, 116, 121, 32, 108, 105, 115, 116]⟩⟩))),
 o3 (.panic (tm 10))])
 .skip)) (.seq (.region [
 o1 11 (.mov (tm 0)),
 o1 12 (.indexSl 1 (tm 11) k0),
 o1 13 (.load none (tm 12)),
 o1 5 (.mov (tm 13))]) (.seq (.seq (.region [
 o1 6 (.mov (.const (.int .i64 1)))]) (.block 0 (.loop zebQ_l0))) (.seq (.region [
 o1 32 (.mov (tm 5)),
 o1 4 (.mov (tm 32))]) .ret)))))
def zebQ : AFunc := ⟨33, [(4, none)], zebQ_c, none⟩
theorem zebQ_t0 : tableOf Try.prog 47 = some zebQ := by kernel_rfl
theorem zebQ_t : T0 47 = some zebQ := withKept_t rfl (withTrue_t rfl zebQ_t0)
theorem zebQ_runs {v0 v1 : Value} {h : Heap} {R : RP} {X : XP} (k : RunC Try.prog T0 zebQ_c ⟨[v0, v1, U, U, U, U, U, U, U, U, U, U, U, U, U, U, U, U, U, U, U, U, U, U, U, U, U, U, U, U, U, U, U], [], h, none⟩ (bodyQ Try.prog T0 [(4, none)] R X)) :
 Runs Try.prog T0 (.fn 47) [v0, v1] h R X := Runs.fn zebQ_t rfl k
abbrev zebQ_l0_M : List Nat := [0, 0, 0, 0, 0, 2, 2, 0, 0, 0, 0, 0, 0, 0, 1, 1, 1, 1, 1, 1, 1, 1, 1, 1, 1, 1, 1, 1, 1, 1, 1, 1, 0]
abbrev fn_zybQ : FuncId := 48
def zybQ_c : ACode :=
 (.seq (.region [
 o1 4 (.mov k0)]) (.seq (.region [
 o1 5 (.mov (.func 66))]) (.seq (.regionD [
 o1 6 (.mov (tm 5)),
 o1 7 (.mov (tm 0)),
 o1 9 (.mov (tm 5)),
 o1 10 (.mov (tm 1)),
 o1 13 (.mov (tm 0)),
 o1 14 (.nilCheck (tm 13)),
 o1 15 (.fieldAddr 0 (tm 14)),
 o1 16 (.fieldAddr 0 (tm 15)),
 o1 17 (.fieldAddr 1 (tm 16)),
 o1 18 (.load none (tm 17)),
 o1 19 (.mov (tm 1)),
 o1 20 (.nilCheck (tm 19)),
 o1 21 (.fieldAddr 0 (tm 20)),
 o1 22 (.fieldAddr 0 (tm 21)),
 o1 23 (.fieldAddr 1 (tm 22)),
 o1 24 (.load none (tm 23)),
 ⟨some 8, .callV (tm 6) [(tm 7)], none, [(some 24, .load none (tm 23), none), (some 23, .fieldAddr 1 (tm 22), none), (some 22, .fieldAddr 0 (tm 21), none), (some 21, .fieldAddr 0 (tm 20), none), (some 20, .nilCheck (tm 19), none), (some 19, .mov (tm 1), none), (some 18, .load none (tm 17), none), (some 17, .fieldAddr 1 (tm 16), none), (some 16, .fieldAddr 0 (tm 15), none), (some 15, .fieldAddr 0 (tm 14), none), (some 14, .nilCheck (tm 13), none), (some 13, .mov (tm 0), none), (some 10, .mov (tm 1), none), (some 9, .mov (tm 5), none)], false⟩,
 ⟨some 11, .callV (tm 9) [(tm 10)], none, [(some 24, .load none (tm 23), none), (some 23, .fieldAddr 1 (tm 22), none), (some 22, .fieldAddr 0 (tm 21), none), (some 21, .fieldAddr 0 (tm 20), none), (some 20, .nilCheck (tm 19), none), (some 19, .mov (tm 1), none), (some 18, .load none (tm 17), none), (some 17, .fieldAddr 1 (tm 16), none), (some 16, .fieldAddr 0 (tm 15), none), (some 15, .fieldAddr 0 (tm 14), none), (some 14, .nilCheck (tm 13), none), (some 13, .mov (tm 0), none)], false⟩,
 ⟨some 12, .callV (.func 68) [(tm 8), (tm 11)], none, [(some 24, .load none (tm 23), none), (some 23, .fieldAddr 1 (tm 22), none), (some 22, .fieldAddr 0 (tm 21), none), (some 21, .fieldAddr 0 (tm 20), none), (some 20, .nilCheck (tm 19), none), (some 19, .mov (tm 1), none), (some 18, .load none (tm 17), none), (some 17, .fieldAddr 1 (tm 16), none), (some 16, .fieldAddr 0 (tm 15), none), (some 15, .fieldAddr 0 (tm 14), none), (some 14, .nilCheck (tm 13), none), (some 13, .mov (tm 0), none)], false⟩,
 o2 25 (.callV (.func 68) [(tm 18), (tm 24)]),
 o2 26 (.buildSlice 3 [(.int .i64 0), (.int .i64 0)] 2 [(0, 1, (tm 12)), (1, 1, (tm 25))]),
 o2 27 (.callV (.func 67) [(tm 26)]),
 o2 4 (.mov (tm 27))]) .ret)))
def zybQ : AFunc := ⟨28, [(4, none)], zybQ_c, none⟩
theorem zybQ_t0 : tableOf Try.prog 48 = some zybQ := by kernel_rfl
theorem zybQ_t : T0 48 = some zybQ := withKept_t rfl (withTrue_t rfl zybQ_t0)
theorem zybQ_runs {v0 v1 : Value} {h : Heap} {R : RP} {X : XP} (k : RunC Try.prog T0 zybQ_c ⟨[v0, v1, U, U, U, U, U, U, U, U, U, U, U, U, U, U, U, U, U, U, U, U, U, U, U, U, U, U], [], h, none⟩ (bodyQ Try.prog T0 [(4, none)] R X)) :
 Runs Try.prog T0 (.fn 48) [v0, v1] h R X := Runs.fn zybQ_t rfl k
abbrev fn_zjQ : FuncId := 54
def zjQ_c : ACode :=
 (.seq (.region [
 o1 2 (.box 33 (tm 0)),
 o1 3 (.box 33 (tm 1)),
 o1 4 (.mov (.const (.bool false)))]) (.seq (.region [
 o1 5 (.fieldAddr 0 (tm 2)),
 o1 6 (.load none (tm 5)),
 o1 7 (.fieldAddr 0 (tm 3)),
 o1 8 (.load none (tm 7)),
 o1 9 (.bin .eql (so (.binOp .eql 3 (tm 6) (tm 8) 3) 4) (tm 6) (tm 8)),
 o1 10 (.mov (tm 9)),
 o4 11 (.fieldAddr 1 (tm 2)) 10,
 o4 12 (.load (some 32) (tm 11)) 10,
 o4 13 (.fieldAddr 1 (tm 3)) 10,
 o4 14 (.load (some 32) (tm 13)) 10,
 o4 15 (.bin .eql (so (.binOp .eql 28 (tm 12) (tm 14) 28) 4) (tm 12) (tm 14)) 10,
 o1 16 (.pick (tm 10) (tm 15) (.const (.bool false))),
 o1 17 (.mov (tm 16)),
 o4 18 (.fieldAddr 33 (tm 2)) 17,
 o4 19 (.load none (tm 18)) 17,
 o4 20 (.fieldAddr 33 (tm 3)) 17,
 o4 21 (.load none (tm 20)) 17,
 o4 22 (.callV (.func 69) [(tm 19), (tm 21)]) 17,
 o1 23 (.pick (tm 17) (tm 22) (.const (.bool false))),
 o1 4 (.mov (tm 23))]) .ret))
def zjQ : AFunc := ⟨24, [(4, none)], zjQ_c, none⟩
theorem zjQ_t0 : tableOf Try.prog 54 = some zjQ := by kernel_rfl
theorem zjQ_t : T0 54 = some zjQ := withKept_t rfl (withTrue_t rfl zjQ_t0)
theorem zjQ_runs {v0 v1 : Value} {h : Heap} {R : RP} {X : XP} (k : RunC Try.prog T0 zjQ_c ⟨[v0, v1, U, U, U, U, U, U, U, U, U, U, U, U, U, U, U, U, U, U, U, U, U, U], [], h, none⟩ (bodyQ Try.prog T0 [(4, none)] R X)) :
 Runs Try.prog T0 (.fn 54) [v0, v1] h R X := Runs.fn zjQ_t rfl k
abbrev fn_zlQ : FuncId := 55
def zlQ_l0 : ACode :=
 (.seq (.seq (.region [
 o1 12 (.mov (tm 5)),
 o1 13 (.mov (tm 12)),
 o4 14 (.mov (tm 6)) 13,
 o4 15 (.mov (tm 0)) 13,
 o4 16 (.lenSl (tm 15)) 13,
 o4 17 (.bin .lss (so (.binOp .lss 3 (tm 14) (tm 16) 3) 4) (tm 14) (tm 16)) 13,
 o1 18 (.pick (tm 13) (tm 17) (.const (.bool false)))]) (.cond (tm 18)
 .skip
 (.exit 0))) (.seq (.block 1 (.regionD [
 o1 21 (.mov (tm 0)),
 o1 22 (.mov (tm 6)),
 o1 23 (.indexSl 5 (tm 21) (tm 22)),
 o1 24 (.load (some 5) (tm 23)),
 o1 25 (.mov (tm 1)),
 o1 26 (.mov (tm 6)),
 o1 27 (.indexSl 5 (tm 25) (tm 26)),
 o1 28 (.load (some 5) (tm 27)),
 o2 29 (.bin .eql (so (.binOp .eql 113 (tm 24) (tm 28) 113) 4) (tm 24) (tm 28)),
 o2 5 (.mov (tm 29))])) (.region [
 o1 19 (.mov (tm 6)),
 o1 20 (.bin .add (so (.binOp .add 3 (tm 19) (.const (.int .i64 1)) 3) 3) (tm 19) (.const (.int .i64 1))),
 o1 6 (.mov (tm 20))])))
def zlQ_c : ACode :=
 (.seq (.region [
 o1 4 (.mov (.const (.bool false)))]) (.seq (.region [
 o1 7 (.mov (tm 0)),
 o1 8 (.lenSl (tm 7)),
 o1 9 (.mov (tm 1)),
 o1 10 (.lenSl (tm 9)),
 o1 11 (.bin .eql (so (.binOp .eql 3 (tm 8) (tm 10) 3) 4) (tm 8) (tm 10)),
 o1 5 (.mov (tm 11))]) (.seq (.seq (.region [
 o1 6 (.mov k0)]) (.block 0 (.loop zlQ_l0))) (.seq (.region [
 o1 30 (.mov (tm 5)),
 o1 4 (.mov (tm 30))]) .ret))))
def zlQ : AFunc := ⟨31, [(4, none)], zlQ_c, none⟩
theorem zlQ_t0 : tableOf Try.prog 55 = some zlQ := by kernel_rfl
theorem zlQ_t : T0 55 = some zlQ := withKept_t rfl (withTrue_t rfl zlQ_t0)
theorem zlQ_runs {v0 v1 : Value} {h : Heap} {R : RP} {X : XP} (k : RunC Try.prog T0 zlQ_c ⟨[v0, v1, U, U, U, U, U, U, U, U, U, U, U, U, U, U, U, U, U, U, U, U, U, U, U, U, U, U, U, U, U], [], h, none⟩ (bodyQ Try.prog T0 [(4, none)] R X)) :
 Runs Try.prog T0 (.fn 55) [v0, v1] h R X := Runs.fn zlQ_t rfl k
abbrev zlQ_l0_M : List Nat := [0, 0, 0, 0, 0, 2, 2, 0, 0, 0, 0, 0, 1, 1, 1, 1, 1, 1, 1, 1, 1, 1, 1, 1, 1, 1, 1, 1, 1, 1, 0]
abbrev fn_zdbQ : FuncId := 58
def zdbQ_c : ACode :=
 (.seq (.region [
 o1 2 (.mov (.const (.slice none 0 0)))]) (.seq (.region [
 o1 3 (.mov (tm 0)),
 o1 4 (.callV (.func 70) [(.const (.slice none 0 0)), (tm 3)]),
 o1 2 (.mov (tm 4))]) .ret))
def zdbQ : AFunc := ⟨5, [(2, none)], zdbQ_c, none⟩
theorem zdbQ_t0 : tableOf Try.prog 58 = some zdbQ := by kernel_rfl
theorem zdbQ_t : T0 58 = some zdbQ := withKept_t rfl (withTrue_t rfl zdbQ_t0)
theorem zdbQ_runs {v0 : Value} {h : Heap} {R : RP} {X : XP} (k : RunC Try.prog T0 zdbQ_c ⟨[v0, U, U, U, U], [], h, none⟩ (bodyQ Try.prog T0 [(2, none)] R X)) :
 Runs Try.prog T0 (.fn 58) [v0] h R X := Runs.fn zdbQ_t rfl k
abbrev fn_zwQ : FuncId := 59
def zwQ_c : ACode :=
 (.seq (.region [
 o1 1 (.box 73 (tm 0)),
 o1 2 (.mov (.const .nilFunc))]) (.seq (.region [
 o1 3 (.mkFunc (.func 71) [] [(tm 1)]),
 o1 2 (.mov (tm 3))]) .ret))
def zwQ : AFunc := ⟨4, [(2, none)], zwQ_c, none⟩
theorem zwQ_t0 : tableOf Try.prog 59 = some zwQ := by kernel_rfl
theorem zwQ_t : T0 59 = some zwQ := withKept_t rfl (withTrue_t rfl zwQ_t0)
theorem zwQ_runs {v0 : Value} {h : Heap} {R : RP} {X : XP} (k : RunC Try.prog T0 zwQ_c ⟨[v0, U, U, U], [], h, none⟩ (bodyQ Try.prog T0 [(2, none)] R X)) :
 Runs Try.prog T0 (.fn 59) [v0] h R X := Runs.fn zwQ_t rfl k
abbrev fn_zdQ : FuncId := 60
def zdQ_l0 : ACode :=
 (.seq (.seq (.region [
 o1 9 (.mov (tm 3)),
 o1 10 (.bin .geq (so (.binOp .geq 3 (tm 9) k0 3) 4) (tm 9) k0)]) (.cond (tm 10)
 .skip
 (.exit 0))) (.seq (.block 1 (.region [
 o1 13 (.mov (tm 0)),
 o1 14 (.mov (tm 3)),
 o1 15 (.mov (tm 2)),
 o1 16 (.callV (.func 72) [(tm 13), (tm 14), (tm 15)])])) (.region [
 o1 11 (.mov (tm 3)),
 o1 12 (.bin .sub (so (.binOp .sub 3 (tm 11) (.const (.int .i64 1)) 3) 3) (tm 11) (.const (.int .i64 1))),
 o1 3 (.mov (tm 12))])))
def zdQ_c : ACode :=
 (.seq (.region [
 o1 4 (.mov (tm 0)),
 o1 5 (.invoke (tm 4) "Len" []),
 o1 2 (.mov (tm 5))]) (.seq (.region [
 o1 6 (.mov (tm 2)),
 o1 7 (.bin .quo (so (.binOp .quo 3 (tm 6) (.const (.int .i64 2)) 3) 3) (tm 6) (.const (.int .i64 2))),
 o1 8 (.bin .sub (so (.binOp .sub 3 (tm 7) (.const (.int .i64 1)) 3) 3) (tm 7) (.const (.int .i64 1))),
 o1 3 (.mov (tm 8))]) (.block 0 (.loop zdQ_l0))))
def zdQ : AFunc := ⟨17, [], zdQ_c, none⟩
theorem zdQ_t0 : tableOf Try.prog 60 = some zdQ := by kernel_rfl
theorem zdQ_t : T0 60 = some zdQ := withKept_t rfl (withTrue_t rfl zdQ_t0)
theorem zdQ_runs {v0 : Value} {h : Heap} {R : RP} {X : XP} (k : RunC Try.prog T0 zdQ_c ⟨[v0, U, U, U, U, U, U, U, U, U, U, U, U, U, U, U, U], [], h, none⟩ (bodyQ Try.prog T0 [] R X)) :
 Runs Try.prog T0 (.fn 60) [v0] h R X := Runs.fn zdQ_t rfl k
abbrev zdQ_l0_M : List Nat := [0, 0, 0, 2, 0, 0, 0, 0, 0, 1, 1, 1, 1, 1, 1, 1, 1]
abbrev fn_zubQ : FuncId := 61
def zubQ_c : ACode :=
 (.seq (.region [
 o1 2 (.mov k0)]) (.seq (.region [
 o1 3 (.mov (tm 0)),
 o1 4 (.lenSl (tm 3)),
 o1 2 (.mov (tm 4))]) .ret))
def zubQ : AFunc := ⟨5, [(2, none)], zubQ_c, none⟩
theorem zubQ_t0 : tableOf Try.prog 61 = some zubQ := by kernel_rfl
theorem zubQ_t : T0 61 = some zubQ := withKept_t rfl (withTrue_t rfl zubQ_t0)
theorem zubQ_runs {v0 : Value} {h : Heap} {R : RP} {X : XP} (k : RunC Try.prog T0 zubQ_c ⟨[v0, U, U, U, U], [], h, none⟩ (bodyQ Try.prog T0 [(2, none)] R X)) :
 Runs Try.prog T0 (.fn 61) [v0] h R X := Runs.fn zubQ_t rfl k
abbrev fn_zeQ : FuncId := 62
def zeQ_c : ACode :=
 (.seq (.region [
 o1 2 (.mov (.const .nilIface))]) (.seq (.region [
 o1 4 (.mov (tm 0)),
 o1 5 (.invoke (tm 4) "Len" []),
 o1 6 (.bin .sub (so (.binOp .sub 3 (tm 5) (.const (.int .i64 1)) 3) 3) (tm 5) (.const (.int .i64 1))),
 o1 3 (.mov (tm 6))]) (.seq (.region [
 o1 7 (.mov (tm 0)),
 o1 8 (.mov (tm 3)),
 o1 9 (.invoke (tm 7) "Swap" [k0, (tm 8)])]) (.seq (.region [
 o1 10 (.mov (tm 0)),
 o1 11 (.mov (tm 3)),
 o1 12 (.callV (.func 72) [(tm 10), k0, (tm 11)])]) (.seq (.region [
 o1 13 (.mov (tm 0)),
 o1 14 (.invoke (tm 13) "Pop" []),
 o1 2 (.mov (tm 14))]) .ret)))))
def zeQ : AFunc := ⟨15, [(2, none)], zeQ_c, none⟩
theorem zeQ_t0 : tableOf Try.prog 62 = some zeQ := by kernel_rfl
theorem zeQ_t : T0 62 = some zeQ := withKept_t rfl (withTrue_t rfl zeQ_t0)
theorem zeQ_runs {v0 : Value} {h : Heap} {R : RP} {X : XP} (k : RunC Try.prog T0 zeQ_c ⟨[v0, U, U, U, U, U, U, U, U, U, U, U, U, U, U], [], h, none⟩ (bodyQ Try.prog T0 [(2, none)] R X)) :
 Runs Try.prog T0 (.fn 62) [v0] h R X := Runs.fn zeQ_t rfl k
abbrev fn_zbbQ : FuncId := 63
def zbbQ_c : ACode :=
 (.seq (.region [
 o1 2 (.mov (.const (.slice none 0 0)))]) (.seq (.seq (.region [
 o1 3 (.mov (tm 0)),
 o1 4 (.eq .slice false (so (.binOp .eql 34 (tm 3) (.const (.slice none 0 0)) 34) 4) (tm 3) (.const (.slice none 0 0)))]) (.cond (tm 4)
 (.seq (.region [
 o1 2 (.mov (.const (.slice none 0 0)))]) .ret)
 .skip)) (.seq (.region [
 o1 5 (.buildSlice 113 [] 0 []),
 o1 6 (.mov (tm 0)),
 o1 7 (.append 113 5 16 [(.int .u8 0), (.int .u8 0), (.int .u8 0), (.int .u8 0), (.int .i64 0)] false (tm 5) (tm 6)),
 o1 2 (.mov (tm 7))]) .ret)))
def zbbQ : AFunc := ⟨8, [(2, none)], zbbQ_c, none⟩
theorem zbbQ_t0 : tableOf Try.prog 63 = some zbbQ := by kernel_rfl
theorem zbbQ_t : T0 63 = some zbbQ := withKept_t rfl (withTrue_t rfl zbbQ_t0)
theorem zbbQ_runs {v0 : Value} {h : Heap} {R : RP} {X : XP} (k : RunC Try.prog T0 zbbQ_c ⟨[v0, U, U, U, U, U, U, U], [], h, none⟩ (bodyQ Try.prog T0 [(2, none)] R X)) :
 Runs Try.prog T0 (.fn 63) [v0] h R X := Runs.fn zbbQ_t rfl k
abbrev fn_zcbQ : FuncId := 64
def zcbQ_c : ACode :=
 (.seq (.region [
 o1 2 (.mov (.const (.slice none 0 0)))]) (.seq (.seq (.region [
 o1 3 (.mov (tm 0)),
 o1 4 (.eq .slice false (so (.binOp .eql 31 (tm 3) (.const (.slice none 0 0)) 31) 4) (tm 3) (.const (.slice none 0 0)))]) (.cond (tm 4)
 (.seq (.region [
 o1 2 (.mov (.const (.slice none 0 0)))]) .ret)
 .skip)) (.seq (.region [
 o1 5 (.buildSlice 117 [] 0 []),
 o1 6 (.mov (tm 0)),
 o1 7 (.append 117 2 16 [(.int .i64 0), (.int .u64 0)] false (tm 5) (tm 6)),
 o1 2 (.mov (tm 7))]) .ret)))
def zcbQ : AFunc := ⟨8, [(2, none)], zcbQ_c, none⟩
theorem zcbQ_t0 : tableOf Try.prog 64 = some zcbQ := by kernel_rfl
theorem zcbQ_t : T0 64 = some zcbQ := withKept_t rfl (withTrue_t rfl zcbQ_t0)
theorem zcbQ_runs {v0 : Value} {h : Heap} {R : RP} {X : XP} (k : RunC Try.prog T0 zcbQ_c ⟨[v0, U, U, U, U, U, U, U], [], h, none⟩ (bodyQ Try.prog T0 [(2, none)] R X)) :
 Runs Try.prog T0 (.fn 64) [v0] h R X := Runs.fn zcbQ_t rfl k
abbrev fn_zyQ : FuncId := 65
def zyQ_c : ACode :=
 (.seq (.region [
 o1 1 (.box 73 (tm 0)),
 o1 2 (.mov (.const .nilFunc))]) (.seq (.region [
 o1 3 (.mkFunc (.func 73) [] [(tm 1)]),
 o1 2 (.mov (tm 3))]) .ret))
def zyQ : AFunc := ⟨4, [(2, none)], zyQ_c, none⟩
theorem zyQ_t0 : tableOf Try.prog 65 = some zyQ := by kernel_rfl
theorem zyQ_t : T0 65 = some zyQ := withKept_t rfl (withTrue_t rfl zyQ_t0)
theorem zyQ_runs {v0 : Value} {h : Heap} {R : RP} {X : XP} (k : RunC Try.prog T0 zyQ_c ⟨[v0, U, U, U], [], h, none⟩ (bodyQ Try.prog T0 [(2, none)] R X)) :
 Runs Try.prog T0 (.fn 65) [v0] h R X := Runs.fn zyQ_t rfl k
abbrev fn_zzbQ : FuncId := 66
def zzbQ_c : ACode :=
 (.seq (.region [
 o1 2 (.mov k0)]) (.seq (.seq (.region [
 o1 3 (.mov (tm 0)),
 o1 4 (.nilCheck (tm 3)),
 o1 5 (.fieldAddr 166 (tm 4)),
 o1 6 (.load none (tm 5))]) (.cond (tm 6)
 (.seq (.region [
 o1 2 (.mov (.const (.int .i64 1)))]) .ret)
 .skip)) (.seq (.region [
 o1 2 (.mov k0)]) .ret)))
def zzbQ : AFunc := ⟨7, [(2, none)], zzbQ_c, none⟩
theorem zzbQ_t0 : tableOf Try.prog 66 = some zzbQ := by kernel_rfl
theorem zzbQ_t : T0 66 = some zzbQ := withKept_t rfl (withTrue_t rfl zzbQ_t0)
theorem zzbQ_runs {v0 : Value} {h : Heap} {R : RP} {X : XP} (k : RunC Try.prog T0 zzbQ_c ⟨[v0, U, U, U, U, U, U], [], h, none⟩ (bodyQ Try.prog T0 [(2, none)] R X)) :
 Runs Try.prog T0 (.fn 66) [v0] h R X := Runs.fn zzbQ_t rfl k
abbrev fn_zbQ : FuncId := 67
def zbQ_l0 : ACode :=
 (.seq (.region [
 o1 9 (.bin .lss (so (.binOp .lss 3 (tm 8) (tm 7) 3) 0) (tm 8) (tm 7))]) (.seq (.cond (tm 9)
 .skip
 (.exit 0)) (.seq (.block 1 (.seq (.region [
 o1 10 (.indexSl 1 (tm 6) (tm 8)),
 o1 11 (.load none (tm 10)),
 o1 5 (.mov (tm 11))]) (.seq (.region [
 o1 12 (.mov (tm 5)),
 o1 13 (.mov (tm 3)),
 o1 14 (.bin .neq (so (.binOp .neq 3 (tm 12) (tm 13) 3) 4) (tm 12) (tm 13))]) (.cond (tm 14)
 (.seq (.region [
 o1 15 (.mov (tm 5)),
 o1 2 (.mov (tm 15))]) .ret)
 .skip)))) (.region [
 o1 16 (.bin .add (so (.binOp .add 3 (tm 8) (.const (.int .i64 1)) 3) 3) (tm 8) (.const (.int .i64 1))),
 o1 8 (.mov (tm 16))]))))
def zbQ_c : ACode :=
 (.seq (.region [
 o1 2 (.mov k0)]) (.seq (.region [
 o1 3 (.mov k0)]) (.seq (.seq (.region [
 o1 6 (.mov (tm 0)),
 o1 7 (.lenSl (tm 6)),
 o1 8 (.mov k0)]) (.block 0 (.loop zbQ_l0))) (.seq (.region [
 o1 17 (.mov (tm 3)),
 o1 2 (.mov (tm 17))]) .ret))))
def zbQ : AFunc := ⟨18, [(2, none)], zbQ_c, none⟩
theorem zbQ_t0 : tableOf Try.prog 67 = some zbQ := by kernel_rfl
theorem zbQ_t : T0 67 = some zbQ := withKept_t rfl (withTrue_t rfl zbQ_t0)
theorem zbQ_runs {v0 : Value} {h : Heap} {R : RP} {X : XP} (k : RunC Try.prog T0 zbQ_c ⟨[v0, U, U, U, U, U, U, U, U, U, U, U, U, U, U, U, U, U], [], h, none⟩ (bodyQ Try.prog T0 [(2, none)] R X)) :
 Runs Try.prog T0 (.fn 67) [v0] h R X := Runs.fn zbQ_t rfl k
abbrev zbQ_l0_M : List Nat := [0, 0, 1, 0, 0, 1, 0, 0, 2, 1, 1, 1, 1, 1, 1, 1, 1, 0]
abbrev fn_zaQ : FuncId := 68
def zaQ_c : ACode :=
 (.seq (.region [
 o1 4 (.mov k0)]) (.seq (.region [
 o1 7 (.mov (tm 0)),
 o1 8 (.callV (.func 74) [(tm 7)]),
 o1 5 (.mov (tm 8))]) (.seq (.region [
 o1 9 (.mov (tm 1)),
 o1 10 (.callV (.func 74) [(tm 9)]),
 o1 6 (.mov (tm 10))]) (.seq (.seq (.region [
 o1 11 (.mov (tm 5))]) (.cond (tm 11)
 (.seq (.seq (.region [
 o1 12 (.mov (tm 6))]) (.cond (tm 12)
 (.seq (.region [
 o1 4 (.mov k0)]) .ret)
 .skip)) (.seq (.region [
 o1 4 (.mov (.const (.int .i64 (-1))))]) .ret))
 .skip)) (.seq (.seq (.region [
 o1 13 (.mov (tm 6))]) (.cond (tm 13)
 (.seq (.region [
 o1 4 (.mov (.const (.int .i64 1)))]) .ret)
 .skip)) (.seq (.seq (.region [
 o1 14 (.mov (tm 0)),
 o1 15 (.mov (tm 1)),
 o1 16 (.bin .lss (so (.binOp .lss 3 (tm 14) (tm 15) 3) 4) (tm 14) (tm 15))]) (.cond (tm 16)
 (.seq (.region [
 o1 4 (.mov (.const (.int .i64 (-1))))]) .ret)
 .skip)) (.seq (.seq (.region [
 o1 17 (.mov (tm 0)),
 o1 18 (.mov (tm 1)),
 o1 19 (.bin .gtr (so (.binOp .gtr 3 (tm 17) (tm 18) 3) 4) (tm 17) (tm 18))]) (.cond (tm 19)
 (.seq (.region [
 o1 4 (.mov (.const (.int .i64 1)))]) .ret)
 .skip)) (.seq (.region [
 o1 4 (.mov k0)]) .ret))))))))
def zaQ : AFunc := ⟨20, [(4, none)], zaQ_c, none⟩
theorem zaQ_t0 : tableOf Try.prog 68 = some zaQ := by kernel_rfl
theorem zaQ_t : T0 68 = some zaQ := withKept_t rfl (withTrue_t rfl zaQ_t0)
theorem zaQ_runs {v0 v1 : Value} {h : Heap} {R : RP} {X : XP} (k : RunC Try.prog T0 zaQ_c ⟨[v0, v1, U, U, U, U, U, U, U, U, U, U, U, U, U, U, U, U, U, U], [], h, none⟩ (bodyQ Try.prog T0 [(4, none)] R X)) :
 Runs Try.prog T0 (.fn 68) [v0, v1] h R X := Runs.fn zaQ_t rfl k
abbrev fn_zmQ : FuncId := 69
def zmQ_l0 : ACode :=
 (.seq (.seq (.region [
 o1 12 (.mov (tm 5)),
 o1 13 (.mov (tm 12)),
 o4 14 (.mov (tm 6)) 13,
 o4 15 (.mov (tm 0)) 13,
 o4 16 (.lenSl (tm 15)) 13,
 o4 17 (.bin .lss (so (.binOp .lss 3 (tm 14) (tm 16) 3) 4) (tm 14) (tm 16)) 13,
 o1 18 (.pick (tm 13) (tm 17) (.const (.bool false)))]) (.cond (tm 18)
 .skip
 (.exit 0))) (.seq (.block 1 (.regionD [
 o1 21 (.mov (tm 0)),
 o1 22 (.mov (tm 6)),
 o1 23 (.indexSl 2 (tm 21) (tm 22)),
 o1 24 (.load (some 2) (tm 23)),
 o1 25 (.mov (tm 1)),
 o1 26 (.mov (tm 6)),
 o1 27 (.indexSl 2 (tm 25) (tm 26)),
 o1 28 (.load (some 2) (tm 27)),
 o2 29 (.bin .eql (so (.binOp .eql 117 (tm 24) (tm 28) 117) 4) (tm 24) (tm 28)),
 o2 5 (.mov (tm 29))])) (.region [
 o1 19 (.mov (tm 6)),
 o1 20 (.bin .add (so (.binOp .add 3 (tm 19) (.const (.int .i64 1)) 3) 3) (tm 19) (.const (.int .i64 1))),
 o1 6 (.mov (tm 20))])))
def zmQ_c : ACode :=
 (.seq (.region [
 o1 4 (.mov (.const (.bool false)))]) (.seq (.region [
 o1 7 (.mov (tm 0)),
 o1 8 (.lenSl (tm 7)),
 o1 9 (.mov (tm 1)),
 o1 10 (.lenSl (tm 9)),
 o1 11 (.bin .eql (so (.binOp .eql 3 (tm 8) (tm 10) 3) 4) (tm 8) (tm 10)),
 o1 5 (.mov (tm 11))]) (.seq (.seq (.region [
 o1 6 (.mov k0)]) (.block 0 (.loop zmQ_l0))) (.seq (.region [
 o1 30 (.mov (tm 5)),
 o1 4 (.mov (tm 30))]) .ret))))
def zmQ : AFunc := ⟨31, [(4, none)], zmQ_c, none⟩
theorem zmQ_t0 : tableOf Try.prog 69 = some zmQ := by kernel_rfl
theorem zmQ_t : T0 69 = some zmQ := withKept_t rfl (withTrue_t rfl zmQ_t0)
theorem zmQ_runs {v0 v1 : Value} {h : Heap} {R : RP} {X : XP} (k : RunC Try.prog T0 zmQ_c ⟨[v0, v1, U, U, U, U, U, U, U, U, U, U, U, U, U, U, U, U, U, U, U, U, U, U, U, U, U, U, U, U, U], [], h, none⟩ (bodyQ Try.prog T0 [(4, none)] R X)) :
 Runs Try.prog T0 (.fn 69) [v0, v1] h R X := Runs.fn zmQ_t rfl k
abbrev zmQ_l0_M : List Nat := [0, 0, 0, 0, 0, 2, 2, 0, 0, 0, 0, 0, 1, 1, 1, 1, 1, 1, 1, 1, 1, 1, 1, 1, 1, 1, 1, 1, 1, 1, 0]
abbrev fn_zabQ : FuncId := 70
def zabQ_ra0 : Code := (rangeParts (subCode ((Try.prog.funcs[70]?).bind (·.body)) [true, false, true, false])).1
def zabQ_rb0 : Code := (rangeParts (subCode ((Try.prog.funcs[70]?).bind (·.body)) [true, false, true, false])).2
def zabQ_a0 : ACode :=
 (.region [
 o1 5 (.mov (tm 7))])
def zabQ_b0 : ACode :=
 (.block 1 (.region [
 o1 8 (.load none (tm 2)),
 o1 9 (.mov (tm 5)),
 o1 10 (.buildSlice 3 [(.int .i64 0)] 1 [(0, 1, (tm 9))]),
 o1 11 (.append 3 1 8 [(.int .i64 0)] false (tm 8) (tm 10)),
 o3 (.store 1 (tm 2) (tm 11))]))
theorem zabQ_ca0 : comp Try.prog zabQ_ra0 = some zabQ_a0 := by kernel_rfl
theorem zabQ_cb0 : comp Try.prog zabQ_rb0 = some zabQ_b0 := by kernel_rfl
theorem zabQ_na0 : noDefer zabQ_ra0 = true := by kernel_rfl
theorem zabQ_nb0 : noDefer zabQ_rb0 = true := by kernel_rfl
def zabQ_c : ACode :=
 (.seq (.region [
 o1 2 (.box 78 (tm 0)),
 o1 4 (.mov (.const (.slice none 0 0)))]) (.seq (.seq (.region [
 o1 6 (.mov (tm 1))]) (.block 0 (.rangeFunc (tm 6) [7] zabQ_ra0 zabQ_rb0))) (.seq (.region [
 o1 12 (.load none (tm 2)),
 o1 4 (.mov (tm 12))]) .ret)))
def zabQ : AFunc := ⟨13, [(4, none)], zabQ_c, none⟩
theorem zabQ_t0 : tableOf Try.prog 70 = some zabQ := by kernel_rfl
theorem zabQ_t : T0 70 = some zabQ := withKept_t rfl (withTrue_t rfl zabQ_t0)
theorem zabQ_runs {v0 v1 : Value} {h : Heap} {R : RP} {X : XP} (k : RunC Try.prog T0 zabQ_c ⟨[v0, v1, U, U, U, U, U, U, U, U, U, U, U], [], h, none⟩ (bodyQ Try.prog T0 [(4, none)] R X)) :
 Runs Try.prog T0 (.fn 70) [v0, v1] h R X := Runs.fn zabQ_t rfl k
abbrev fn_zxQ : FuncId := 71
def zxQ_l0 : ACode :=
 (.seq (.region [
 o1 6 (.nextMap (tm 5)),
 o1 7 (.extract 0 (tm 6))]) (.seq (.cond (tm 7)
 .skip
 (.exit 0)) (.block 1 (.seq (.region [
 o1 8 (.entryMap (tm 5)),
 o1 9 (.extract 0 (tm 8)),
 o1 3 (.mov (tm 9))]) (.seq (.region [
 o1 10 (.mov (tm 0)),
 o1 11 (.mov (tm 3)),
 o1 12 (.callV (tm 10) [(tm 11)]),
 o1 13 (.raw (so (.unOp .not 4 (tm 12)) 4))]) (.cond (tm 13)
 .ret
 .skip))))))
def zxQ_c : ACode :=
 (.seq (.region [
 o1 4 (.load none (tm 1)),
 o1 5 (.rangeMap (tm 4))]) (.block 0 (.loop zxQ_l0)))
def zxQ : AFunc := ⟨14, [], zxQ_c, none⟩
theorem zxQ_t0 : tableOf Try.prog 71 = some zxQ := by kernel_rfl
theorem zxQ_t : T0 71 = some zxQ := withKept_t rfl (withTrue_t rfl zxQ_t0)
theorem zxQ_runs {v0 v1 : Value} {h : Heap} {R : RP} {X : XP} (k : RunC Try.prog T0 zxQ_c ⟨[v0, v1, U, U, U, U, U, U, U, U, U, U, U, U], [], h, none⟩ (bodyQ Try.prog T0 [] R X)) :
 Runs Try.prog T0 (.fn 71) [v0, v1] h R X := Runs.fn zxQ_t rfl k
abbrev zxQ_l0_M : List Nat := [0, 0, 0, 1, 0, 0, 1, 1, 1, 1, 1, 1, 1, 1]
abbrev fn_zfQ : FuncId := 72
def zfQ_l0 : ACode :=
 (.block 1 (.seq (.region [
 o1 12 (.mov (tm 7)),
 o1 13 (.bin .mul (so (.binOp .mul 3 (.const (.int .i64 2)) (tm 12) 3) 3) (.const (.int .i64 2)) (tm 12)),
 o1 14 (.bin .add (so (.binOp .add 3 (tm 13) (.const (.int .i64 1)) 3) 3) (tm 13) (.const (.int .i64 1))),
 o1 8 (.mov (tm 14))]) (.seq (.seq (.region [
 o1 15 (.mov (tm 8)),
 o1 16 (.mov (tm 2)),
 o1 17 (.bin .geq (so (.binOp .geq 3 (tm 15) (tm 16) 3) 4) (tm 15) (tm 16)),
 o1 18 (.mov (tm 17)),
 o5 19 (.mov (tm 8)) 18,
 o5 20 (.bin .lss (so (.binOp .lss 3 (tm 19) k0 3) 4) (tm 19) k0) 18,
 o1 21 (.pick (tm 18) (.const (.bool true)) (tm 20))]) (.cond (tm 21)
 (.exit 0)
 .skip)) (.seq (.region [
 o1 22 (.mov (tm 8)),
 o1 9 (.mov (tm 22))]) (.seq (.seq (.region [
 o1 23 (.mov (tm 8)),
 o1 24 (.bin .add (so (.binOp .add 3 (tm 23) (.const (.int .i64 1)) 3) 3) (tm 23) (.const (.int .i64 1))),
 o1 10 (.mov (tm 24))]) (.seq (.region [
 o1 25 (.mov (tm 10)),
 o1 26 (.mov (tm 2)),
 o1 27 (.bin .lss (so (.binOp .lss 3 (tm 25) (tm 26) 3) 4) (tm 25) (tm 26)),
 o1 28 (.mov (tm 27)),
 o4 29 (.mov (tm 0)) 28,
 o4 30 (.mov (tm 10)) 28,
 o4 31 (.mov (tm 8)) 28,
 o4 32 (.invoke (tm 29) "Less" [(tm 30), (tm 31)]) 28,
 o1 33 (.pick (tm 28) (tm 32) (.const (.bool false)))]) (.cond (tm 33)
 (.region [
 o1 34 (.mov (tm 10)),
 o1 9 (.mov (tm 34))])
 .skip))) (.seq (.seq (.region [
 o1 35 (.mov (tm 0)),
 o1 36 (.mov (tm 9)),
 o1 37 (.mov (tm 7)),
 o1 38 (.invoke (tm 35) "Less" [(tm 36), (tm 37)]),
 o1 39 (.raw (so (.unOp .not 4 (tm 38)) 4))]) (.cond (tm 39)
 (.exit 0)
 .skip)) (.seq (.region [
 o1 40 (.mov (tm 0)),
 o1 41 (.mov (tm 7)),
 o1 42 (.mov (tm 9)),
 o1 43 (.invoke (tm 40) "Swap" [(tm 41), (tm 42)])]) (.region [
 o1 44 (.mov (tm 9)),
 o1 7 (.mov (tm 44))]))))))))
def zfQ_c : ACode :=
 (.seq (.region [
 o1 6 (.mov (.const (.bool false)))]) (.seq (.region [
 o1 11 (.mov (tm 1)),
 o1 7 (.mov (tm 11))]) (.seq (.block 0 (.loop zfQ_l0)) (.seq (.region [
 o1 45 (.mov (tm 7)),
 o1 46 (.mov (tm 1)),
 o1 47 (.bin .gtr (so (.binOp .gtr 3 (tm 45) (tm 46) 3) 4) (tm 45) (tm 46)),
 o1 6 (.mov (tm 47))]) .ret))))
def zfQ : AFunc := ⟨48, [(6, none)], zfQ_c, none⟩
theorem zfQ_t0 : tableOf Try.prog 72 = some zfQ := by kernel_rfl
theorem zfQ_t : T0 72 = some zfQ := withKept_t rfl (withTrue_t rfl zfQ_t0)
theorem zfQ_runs {v0 v1 v2 : Value} {h : Heap} {R : RP} {X : XP} (k : RunC Try.prog T0 zfQ_c ⟨[v0, v1, v2, U, U, U, U, U, U, U, U, U, U, U, U, U, U, U, U, U, U, U, U, U, U, U, U, U, U, U, U, U, U, U, U, U, U, U, U, U, U, U, U, U, U, U, U, U], [], h, none⟩ (bodyQ Try.prog T0 [(6, none)] R X)) :
 Runs Try.prog T0 (.fn 72) [v0, v1, v2] h R X := Runs.fn zfQ_t rfl k
abbrev zfQ_l0_M : List Nat := [0, 0, 0, 0, 0, 0, 0, 2, 1, 1, 1, 0, 1, 1, 1, 1, 1, 1, 1, 1, 1, 1, 1, 1, 1, 1, 1, 1, 1, 1, 1, 1, 1, 1, 1, 1, 1, 1, 1, 1, 1, 1, 1, 1, 1, 0, 0, 0]
abbrev fn_zzQ : FuncId := 73
def zzQ_l0 : ACode :=
 (.seq (.region [
 o1 7 (.nextMap (tm 6)),
 o1 8 (.extract 0 (tm 7))]) (.seq (.cond (tm 8)
 .skip
 (.exit 0)) (.block 1 (.seq (.region [
 o1 9 (.entryMap (tm 6)),
 o1 10 (.extract 1 (tm 9)),
 o1 4 (.mov (tm 10))]) (.seq (.region [
 o1 11 (.mov (tm 0)),
 o1 12 (.mov (tm 4)),
 o1 13 (.callV (tm 11) [(tm 12)]),
 o1 14 (.raw (so (.unOp .not 4 (tm 13)) 4))]) (.cond (tm 14)
 .ret
 .skip))))))
def zzQ_c : ACode :=
 (.seq (.region [
 o1 5 (.load none (tm 1)),
 o1 6 (.rangeMap (tm 5))]) (.block 0 (.loop zzQ_l0)))
def zzQ : AFunc := ⟨15, [], zzQ_c, none⟩
theorem zzQ_t0 : tableOf Try.prog 73 = some zzQ := by kernel_rfl
theorem zzQ_t : T0 73 = some zzQ := withKept_t rfl (withTrue_t rfl zzQ_t0)
theorem zzQ_runs {v0 v1 : Value} {h : Heap} {R : RP} {X : XP} (k : RunC Try.prog T0 zzQ_c ⟨[v0, v1, U, U, U, U, U, U, U, U, U, U, U, U, U], [], h, none⟩ (bodyQ Try.prog T0 [] R X)) :
 Runs Try.prog T0 (.fn 73) [v0, v1] h R X := Runs.fn zzQ_t rfl k
abbrev zzQ_l0_M : List Nat := [0, 0, 0, 0, 1, 0, 0, 1, 1, 1, 1, 1, 1, 1, 1]
abbrev fn_zcQ : FuncId := 74
def zcQ_c : ACode :=
 (.seq (.region [
 o1 2 (.mov (.const (.bool false)))]) (.seq (.region [
 o1 3 (.mov (tm 0)),
 o1 4 (.mov (tm 0)),
 o1 5 (.bin .neq (so (.binOp .neq 3 (tm 3) (tm 4) 3) 4) (tm 3) (tm 4)),
 o1 2 (.mov (tm 5))]) .ret))
def zcQ : AFunc := ⟨6, [(2, none)], zcQ_c, none⟩
theorem zcQ_t0 : tableOf Try.prog 74 = some zcQ := by kernel_rfl
theorem zcQ_t : T0 74 = some zcQ := withKept_t rfl (withTrue_t rfl zcQ_t0)
theorem zcQ_runs {v0 : Value} {h : Heap} {R : RP} {X : XP} (k : RunC Try.prog T0 zcQ_c ⟨[v0, U, U, U, U, U], [], h, none⟩ (bodyQ Try.prog T0 [(2, none)] R X)) :
 Runs Try.prog T0 (.fn 74) [v0] h R X := Runs.fn zcQ_t rfl k
abbrev fn_zvbQ : FuncId := 92
def zvbQ_c : ACode :=
 (.seq (.region [
 o1 6 (.mov (.const (.bool false)))]) (.seq (.regionD [
 o1 7 (.mov (tm 0)),
 o1 8 (.mov (tm 1)),
 o1 9 (.indexSl 1 (tm 7) (tm 8)),
 o1 10 (.load none (tm 9)),
 o1 11 (.mov (tm 0)),
 o1 12 (.mov (tm 2)),
 o1 13 (.indexSl 1 (tm 11) (tm 12)),
 o1 14 (.load none (tm 13)),
 o2 15 (.bin .lss (so (.binOp .lss 3 (tm 10) (tm 14) 3) 4) (tm 10) (tm 14)),
 o2 6 (.mov (tm 15))]) .ret))
def zvbQ : AFunc := ⟨16, [(6, none)], zvbQ_c, none⟩
theorem zvbQ_t0 : tableOf Try.prog 92 = some zvbQ := by kernel_rfl
theorem zvbQ_t : T0 92 = some zvbQ := withKept_t rfl (withTrue_t rfl zvbQ_t0)
theorem zvbQ_runs {v0 v1 v2 : Value} {h : Heap} {R : RP} {X : XP} (k : RunC Try.prog T0 zvbQ_c ⟨[v0, v1, v2, U, U, U, U, U, U, U, U, U, U, U, U, U], [], h, none⟩ (bodyQ Try.prog T0 [(6, none)] R X)) :
 Runs Try.prog T0 (.fn 92) [v0, v1, v2] h R X := Runs.fn zvbQ_t rfl k
abbrev fn_zxbQ : FuncId := 93
def zxbQ_c : ACode :=
 (.regionD [
 o1 6 (.mov (tm 0)),
 o1 7 (.mov (tm 1)),
 o1 8 (.mov (tm 0)),
 o1 9 (.mov (tm 2)),
 o1 10 (.mov (tm 0)),
 o1 11 (.mov (tm 2)),
 o1 12 (.indexSl 1 (tm 10) (tm 11)),
 o1 13 (.load none (tm 12)),
 o1 14 (.mov (tm 0)),
 o1 15 (.mov (tm 1)),
 o1 16 (.indexSl 1 (tm 14) (tm 15)),
 o1 17 (.load none (tm 16)),
 o1 18 (.indexSl 1 (tm 6) (tm 7)),
 ⟨none, .store 1 (tm 18) (tm 13), none, [(some 9, .mov (tm 2), none), (some 8, .mov (tm 0), none)], false⟩,
 o2 19 (.indexSl 1 (tm 8) (tm 9)),
 ⟨none, .store 1 (tm 19) (tm 17), none, [], true⟩])
def zxbQ : AFunc := ⟨20, [], zxbQ_c, none⟩
theorem zxbQ_t0 : tableOf Try.prog 93 = some zxbQ := by kernel_rfl
theorem zxbQ_t : T0 93 = some zxbQ := withKept_t rfl (withTrue_t rfl zxbQ_t0)
theorem zxbQ_runs {v0 v1 v2 : Value} {h : Heap} {R : RP} {X : XP} (k : RunC Try.prog T0 zxbQ_c ⟨[v0, v1, v2, U, U, U, U, U, U, U, U, U, U, U, U, U, U, U, U, U], [], h, none⟩ (bodyQ Try.prog T0 [] R X)) :
 Runs Try.prog T0 (.fn 93) [v0, v1, v2] h R X := Runs.fn zxbQ_t rfl k
abbrev fn_zwbQ : FuncId := 94
def zwbQ_c : ACode :=
 (.seq (.region [
 o1 2 (.mov (.const .nilIface))]) (.seq (.region [
 o1 5 (.mov (tm 0)),
 o1 6 (.nilCheck (tm 5)),
 o1 7 (.load none (tm 6)),
 o1 8 (.lenSl (tm 7)),
 o1 9 (.bin .sub (so (.binOp .sub 3 (tm 8) (.const (.int .i64 1)) 3) 3) (tm 8) (.const (.int .i64 1))),
 o1 3 (.mov (tm 9))]) (.seq (.region [
 o1 10 (.mov (tm 0)),
 o1 11 (.nilCheck (tm 10)),
 o1 12 (.load none (tm 11)),
 o1 13 (.mov (tm 3)),
 o1 14 (.indexSl 1 (tm 12) (tm 13)),
 o1 15 (.load none (tm 14)),
 o1 4 (.mov (tm 15))]) (.seq (.region [
 o1 16 (.mov (tm 0)),
 o1 17 (.mov (tm 0)),
 o1 18 (.nilCheck (tm 17)),
 o1 19 (.load none (tm 18)),
 o1 20 (.mov (tm 3)),
 o1 21 (.sliceSl 1 (tm 19) none (some (tm 20)) none),
 o1 22 (.nilCheck (tm 16)),
 o3 (.store 1 (tm 22) (tm 21))]) (.seq (.region [
 o1 23 (.mov (tm 4)),
 o1 24 (.mkIface 3 (tm 23)),
 o1 2 (.mov (tm 24))]) .ret)))))
def zwbQ : AFunc := ⟨25, [(2, none)], zwbQ_c, none⟩
theorem zwbQ_t0 : tableOf Try.prog 94 = some zwbQ := by kernel_rfl
theorem zwbQ_t : T0 94 = some zwbQ := withKept_t rfl (withTrue_t rfl zwbQ_t0)
theorem zwbQ_runs {v0 : Value} {h : Heap} {R : RP} {X : XP} (k : RunC Try.prog T0 zwbQ_c ⟨[v0, U, U, U, U, U, U, U, U, U, U, U, U, U, U, U, U, U, U, U, U, U, U, U, U], [], h, none⟩ (bodyQ Try.prog T0 [(2, none)] R X)) :
 Runs Try.prog T0 (.fn 94) [v0] h R X := Runs.fn zwbQ_t rfl k
end Go.Proofs.Ytmhnddkpiefkhaa.A

namespace Go.Proofs.Ytmhnddkpiefkhaa.A
open Go Go.Vm
set_option maxRecDepth 10000
set_option linter.unusedVariables false
theorem l32 {l : List UInt8} (h : l.length = 32) : L32 (bcells l) := ⟨by simpa [bcells] using h⟩
end Go.Proofs.Ytmhnddkpiefkhaa.A

namespace Go.Proofs.Ytmhnddkpiefkhaa.A
open Go Go.Vm
set_option maxRecDepth 10000
set_option linter.unusedVariables false
structure Hd where
  chain : List UInt8
  height : Int
  time : Int
  prev : List UInt8
  vals : List UInt8
  next : List UInt8
  app : List UInt8
structure Hd.ok (x : Hd) : Prop where
  prev : x.prev.length = 32
  vals : x.vals.length = 32
  next : x.next.length = 32
  app : x.app.length = 32
abbrev Hd.cells (x : Hd) : List Value := .string ⟨⟨x.chain⟩⟩ :: .int .i64 x.height :: .int .i64 x.time :: (bcells x.prev ++ (bcells x.vals ++ (bcells x.next ++ bcells x.app)))
end Go.Proofs.Ytmhnddkpiefkhaa.A

namespace Go.Proofs.Ytmhnddkpiefkhaa.A
open Go Go.Vm
set_option maxRecDepth 10000
set_option linter.unusedVariables false
structure Val where
  k0 : UInt8
  k1 : UInt8
  k2 : UInt8
  k3 : UInt8
  p : Int
deriving DecidableEq
abbrev Val.key (v : Val) : List UInt8 := [v.k0, v.k1, v.k2, v.k3]
abbrev Val.cells (v : Val) : List Value := [.int .u8 v.k0.toNat, .int .u8 v.k1.toNat, .int .u8 v.k2.toNat, .int .u8 v.k3.toNat, .int .i64 v.p]
abbrev zVal : Val := ⟨0, 0, 0, 0, 0⟩
def Val.of (l : List UInt8) (p : Int) : Val := ⟨l.getD 0 0, l.getD 1 0, l.getD 2 0, l.getD 3 0, p⟩
def vcells (l : List Val) : List Value := l.flatMap Val.cells
theorem vcells_nil : vcells [] = [] := rfl
theorem vcells_cons (v : Val) (l : List Val) : vcells (v :: l) = v.cells ++ vcells l := rfl
theorem vcells_len : ∀ l : List Val, (vcells l).length = l.length * 5
  | [] => rfl
  | v :: l => by rw [vcells_cons, List.length_append, vcells_len l]; simp; omega
theorem vcells_one : ∀ l : List Val, (vcells l).all Value.oneCell' = true
  | [] => rfl
  | v :: l => by rw [vcells_cons, List.all_append, vcells_one l]; rfl
theorem vcells_at : ∀ {l : List Val} {k : Nat}, k < l.length → ((vcells l).drop (k * 5)).take 5 = (l.getD k zVal).cells
  | v :: l, 0, _ => by rw [vcells_cons]; rfl
  | v :: l, k + 1, h => by
    have := vcells_at (l := l) (k := k) (by simpa using h)
    rw [vcells_cons, show (k + 1) * 5 = v.cells.length + k * 5 from by simp; omega, ← List.drop_drop, List.drop_left]
    exact this
theorem val_cells {h : Heap} {b o n k : Nat} {l : List Val} (hc : cellsAt h b o (n * 5) = some (vcells l)) (hn : l.length = n) (hk : k < n) : Cells h b (o + k * 5) 5 (l.getD k zVal).cells := ⟨by
  rw [cellsAt_sub hc (by omega), vcells_at (by omega)]⟩
end Go.Proofs.Ytmhnddkpiefkhaa.A

namespace Go.Proofs.Ytmhnddkpiefkhaa.A
open Go Go.Vm
set_option maxRecDepth 10000
set_option linter.unusedVariables false
theorem mkStoreN {P : Program} {ts : List Value} {h : Heap} {a x : Operand} {v : Value} {o r n es : Nat} {sp : Option Nat} {xs c : List Value} (ho : o + xs.length ≤ c.length) (h1 : xs.all Value.oneCell' = true) (hn : n = xs.length) [e : Ev ts a (.pointer (some ⟨r, o, sp⟩))] [f : Ev ts x v] [k : CellsOf v xs] [g : HGet h r (.cells c es)] :
    xop P (eval ts) h (.store n a x) = .ok undef (h.set r (.cells (over c o xs) es)) := by
  have hp : putAt h r o xs = some (h.set r (.cells (over c o xs) es)) := by
    unfold putAt
    rw [g.eq]
    show (if o + xs.length ≤ c.length ∧ xs.all Value.oneCell' = true then some (h.set r (.cells (over c o xs) es)) else none) = _
    rw [if_pos ⟨ho, h1⟩]
  subst hn
  simp only [xop, e.eq, f.eq, k.eq, k.len, hp, if_true]
theorem Rd.block_lt {h : Heap} {size n : Nat} {v : Value} {c : List Value} (hv : Rd h size v c n) {i : Nat} (hi : blockOf v i) : i < h.n := by
  obtain ⟨a, cap, rfl, _, hc⟩ := hv
  cases a with
  | none => exact hi.elim
  | some a =>
    obtain ⟨h1, h2⟩ := hi
    obtain ⟨b, o, sp, e, hb, _⟩ := hc h2
    cases e
    subst h1
    exact hb
end Go.Proofs.Ytmhnddkpiefkhaa.A

namespace Go.Proofs.Ytmhnddkpiefkhaa.A
open Go Go.Vm
set_option maxRecDepth 10000
set_option linter.unusedVariables false
structure Vote where
  at' : Int
  sig : Nat
abbrev Vote.cells (v : Vote) : List Value := [.int .i64 v.at', .int .u64 v.sig]
abbrev zVote : Vote := ⟨0, 0⟩
def tcells (l : List Vote) : List Value := l.flatMap Vote.cells
theorem tcells_nil : tcells [] = [] := rfl
theorem tcells_cons (v : Vote) (l : List Vote) : tcells (v :: l) = v.cells ++ tcells l := rfl
theorem tcells_len : ∀ l : List Vote, (tcells l).length = l.length * 2
  | [] => rfl
  | v :: l => by rw [tcells_cons, List.length_append, tcells_len l]; simp; omega
theorem tcells_at : ∀ {l : List Vote} {k : Nat}, k < l.length → ((tcells l).drop (k * 2)).take 2 = (l.getD k zVote).cells
  | v :: l, 0, _ => by rw [tcells_cons]; rfl
  | v :: l, k + 1, h => by
    have := tcells_at (l := l) (k := k) (by simpa using h)
    rw [tcells_cons, show (k + 1) * 2 = v.cells.length + k * 2 from by simp; omega, ← List.drop_drop, List.drop_left]
    exact this
theorem vote_cells {h : Heap} {b o n k : Nat} {l : List Vote} (hc : cellsAt h b o (n * 2) = some (tcells l)) (hn : l.length = n) (hk : k < n) : Cells h b (o + k * 2) 2 (l.getD k zVote).cells := ⟨by
  rw [cellsAt_sub hc (by omega), tcells_at (by omega)]⟩
end Go.Proofs.Ytmhnddkpiefkhaa.A

namespace Go.Proofs.Ytmhnddkpiefkhaa.A
open Go Go.Vm
set_option maxRecDepth 10000
set_option linter.unusedVariables false
structure Cm where
  height : Int
  hash : List UInt8
  votes : List Vote
abbrev Cm.cells (x : Cm) (sv : Value) : List Value := .int .i64 x.height :: (bcells x.hash ++ [sv])
abbrev zCm : Cm := ⟨0, zb32, []⟩
end Go.Proofs.Ytmhnddkpiefkhaa.A

namespace Go.Proofs.Ytmhnddkpiefkhaa.A
open Go Go.Vm
set_option maxRecDepth 10000
set_option linter.unusedVariables false
def zeroHd : Hd := ⟨[], 0, 0, zb32, zb32, zb32, zb32⟩
end Go.Proofs.Ytmhnddkpiefkhaa.A

namespace Go.Proofs.Ytmhnddkpiefkhaa.A
open Go Go.Vm
set_option maxRecDepth 10000
set_option linter.unusedVariables false
structure Bk where
  h : Hd
  c : Cm
  vals : List Val
abbrev zBk : Bk := ⟨zeroHd, zCm, []⟩
structure Bk.ok (x : Bk) : Prop where
  h : x.h.ok
  hash : x.c.hash.length = 32
  votes : x.c.votes.length ≤ 64
  vals : x.vals.length ≤ 64
abbrev Bk.cells (x : Bk) (sv sl : Value) : List Value := .string ⟨⟨x.h.chain⟩⟩ :: .int .i64 x.h.height :: .int .i64 x.h.time :: (bcells x.h.prev ++ (bcells x.h.vals ++ (bcells x.h.next ++ (bcells x.h.app ++ (.int .i64 x.c.height :: (bcells x.c.hash ++ [sv, sl]))))))
abbrev zBc : List Value := .string ⟨⟨[]⟩⟩ :: .int .i64 0 :: .int .i64 0 :: (z32 ++ (z32 ++ (z32 ++ (z32 ++ (.int .i64 0 :: (z32 ++ [.slice none 0 0, .slice none 0 0]))))))
end Go.Proofs.Ytmhnddkpiefkhaa.A

namespace Go.Proofs.Ytmhnddkpiefkhaa.A
open Go Go.Vm
set_option maxRecDepth 10000
set_option linter.unusedVariables false
theorem appendLitV {P : Program} {T : Table} {ts : List Value} {ds : List Deferred} {h : Heap} {rd : Option Nat} {dst bytes el : Nat} {x y : Operand} {chk : List (Option Nat × AOp × Option (Nat × Bool))} {pan : Bool} {rest : List AOper} {Q : QP} {F : Value → List Value} {w : Value} {l : List Val}
    [e1 : Ev ts x (.slice (some ⟨h.n, 0, none⟩) 0 0)] [e2 : Ev ts y w] [s : LSetF ts dst F] (hv : Rd h 5 w (vcells l) l.length) (hs : l.length < 1048576) (hb : bytes < 1048576)
    (hk : ∀ v' h', Own h' 5 v' (vcells l) l.length → Fr (fun _ => False) h h' → (∀ i, ownedBy v' i → h.n ≤ i) → RunO P T rest ⟨F v', ds, h', rd⟩ Q) :
    RunO P T (⟨some dst, .append el 5 bytes [.int .u8 0, .int .u8 0, .int .u8 0, .int .u8 0, .int .i64 0] false x y, none, chk, pan⟩ :: rest) ⟨ts, ds, h.push (.cells [] 0), rd⟩ Q := by
  have f0 : Fr (fun _ => False) h (h.push (.cells [] 0)) := Fr.refl.push
  have hz : Own (h.push (.cells [] 0)) 5 (.slice (some ⟨h.n, 0, none⟩) 0 0) [] 0 := .lit (by simp) (by rw [Heap.get_push, if_pos rfl])
  refine O.append hz ((hv.keep f0 fun _ _ => id).new _) (vcells_len l) (vcells_one l) (by omega) (by omega) (by omega) (fun v' h' h1 h2 h3 => ?_)
  rw [Nat.zero_add, List.nil_append] at h1
  refine hk v' h' h1 (f0.trans (S := fun _ => False) h2 fun i hi ho => ?_) fun i hi => ?_
  · have : h.n = i := ho
    omega
  · rcases h3 i hi with h4 | h4
    · have : h.n = i := h4
      omega
    · simp at h4; omega
theorem CloneV_ok {h : Heap} {v : Value} {l : List Val} (hr : Rd h 5 v (vcells l) l.length) (hs : l.length < 1048576) :
    Runs Try.prog T0 (.fn fn_zbbQ) [v] h
      (fun r h' => Own h' 5 r (vcells l) l.length ∧ Fr (fun _ => False) h h' ∧ ∀ i, ownedBy r i → h.n ≤ i) (fun _ _ => False) := by
  have hr0 := hr
  obtain ⟨a, cap, rfl, hlen, hc⟩ := hr
  refine zbbQ_runs ?_
  cases a with
  | none =>
    have hl : l = [] := by
      cases l with
      | nil => rfl
      | cons b l => obtain ⟨_, _, _, h1, _⟩ := hc (by simp); cases h1
    subst hl
    refine stp ?_
    exact ⟨.none, Fr.refl, fun i hi => hi.elim⟩
  | some a =>
    refine stp ?_
    refine appendLitV hr0 hs (by omega) (fun v' h' h1 h2 h3 => ?_)
    refine stp ?_
    exact ⟨h1, h2, h3⟩
end Go.Proofs.Ytmhnddkpiefkhaa.A

namespace Go.Proofs.Ytmhnddkpiefkhaa.A
open Go Go.Vm
set_option maxRecDepth 10000
set_option linter.unusedVariables false
structure BkRd (h : Heap) (x : Bk) (sv sl : Value) : Prop where
  hd : x.h.ok
  hash : x.c.hash.length = 32
  sv : Rd h 2 sv (tcells x.c.votes) x.c.votes.length
  sl : Rd h 5 sl (vcells x.vals) x.vals.length
theorem BkRd.keep {S : Nat → Prop} {h h' : Heap} {x : Bk} {sv sl : Value} (hb : BkRd h x sv sl) (hf : Fr S h h') (hs : ∀ i, i < h.n → ¬ S i) : BkRd h' x sv sl :=
  ⟨hb.hd, hb.hash, hb.sv.keep hf fun i hi => hs i (Rd.block_lt hb.sv hi), hb.sl.keep hf fun i hi => hs i (Rd.block_lt hb.sl hi)⟩
end Go.Proofs.Ytmhnddkpiefkhaa.A

namespace Go.Proofs.Ytmhnddkpiefkhaa.A
open Go Go.Vm
set_option maxRecDepth 10000
set_option linter.unusedVariables false
theorem LongBlock_ok {h : Heap} {x : Bk} {sv sl : Value} (hb : BkRd h x sv sl) :
    Runs Try.prog T0 (.fn fn_zgQ) [.agg ⟨x.cells sv sl⟩] h (fun r h' => (∃ b : Bool, r = .bool b ∧ (b = false → x.vals.length ≤ 70 ∧ x.c.votes.length ≤ 70 ∧ x.h.chain.length ≤ 60)) ∧ Fr (fun _ => False) h h') (fun _ _ => False) := by
  have hx := hb.hd
  have hch := hb.hash
  haveI := l32 hx.prev
  haveI := l32 hx.vals
  haveI := l32 hx.next
  haveI := l32 hx.app
  haveI := l32 hch
  obtain ⟨a1, c1, rfl, _, _⟩ := id hb.sv
  obtain ⟨a2, c2, rfl, _, _⟩ := id hb.sl
  have hsz : (ByteArray.mk ⟨x.h.chain⟩).size = x.h.chain.length := rfl
  refine zgQ_runs ?_
  refine stp ?_
  refine O.dec (fun h1 => ?_) (fun h1 => ?_)
  · refine stp ?_
    exact ⟨⟨true, rfl, fun h => by cases h⟩, Fr.refl.push⟩
  refine stp ?_
  refine O.dec (fun h2 => ?_) (fun h2 => ?_)
  · refine stp ?_
    exact ⟨⟨true, rfl, fun h => by cases h⟩, Fr.refl.push⟩
  refine stp ?_
  exact ⟨⟨_, rfl, fun h => by have := of_decide_eq_false h; omega⟩, Fr.refl.push⟩
theorem tcells_oneE : ∀ l : List Vote, (tcells l).all Value.oneCell' = true
  | [] => rfl
  | v :: l => by rw [tcells_cons, List.all_append, tcells_oneE l]; rfl
theorem appendLitC {P : Program} {T : Table} {ts : List Value} {ds : List Deferred} {h : Heap} {rd : Option Nat} {dst bytes el : Nat} {x y : Operand} {chk : List (Option Nat × AOp × Option (Nat × Bool))} {pan : Bool} {rest : List AOper} {Q : QP} {F : Value → List Value} {w : Value} {l : List Vote} {zero : List Value}
    [e1 : Ev ts x (.slice (some ⟨h.n, 0, none⟩) 0 0)] [e2 : Ev ts y w] [s : LSetF ts dst F] (hv : Rd h 2 w (tcells l) l.length) (hs : l.length < 1048576) (hb : bytes < 1048576)
    (hk : ∀ v' h', Own h' 2 v' (tcells l) l.length → Fr (fun _ => False) h h' → (∀ i, ownedBy v' i → h.n ≤ i) → RunO P T rest ⟨F v', ds, h', rd⟩ Q) :
    RunO P T (⟨some dst, .append el 2 bytes zero false x y, none, chk, pan⟩ :: rest) ⟨ts, ds, h.push (.cells [] 0), rd⟩ Q := by
  have f0 : Fr (fun _ => False) h (h.push (.cells [] 0)) := Fr.refl.push
  have hz : Own (h.push (.cells [] 0)) 2 (.slice (some ⟨h.n, 0, none⟩) 0 0) [] 0 := .lit (by simp) (by rw [Heap.get_push, if_pos rfl])
  have one := tcells_oneE l
  refine O.append hz ((hv.keep f0 fun _ _ => id).new _) (tcells_len l) one (by omega) (by omega) (by omega) (fun v' h' h1 h2 h3 => ?_)
  rw [Nat.zero_add, List.nil_append] at h1
  refine hk v' h' h1 (f0.trans (S := fun _ => False) h2 fun i hi ho => ?_) fun i hi => ?_
  · have : h.n = i := ho
    omega
  · rcases h3 i hi with h4 | h4
    · have : h.n = i := h4
      omega
    · simp at h4; omega
end Go.Proofs.Ytmhnddkpiefkhaa.A

namespace Go.Proofs.Ytmhnddkpiefkhaa.A
open Go Go.Vm
set_option maxRecDepth 10000
set_option linter.unusedVariables false
def ncells (l : List Int) : List Value := l.map fun n => .int .i64 n
theorem ncells_len (l : List Int) : (ncells l).length = l.length := by simp [ncells]
theorem ncell_at {h : Heap} {b o n k : Nat} {l : List Int} (hc : cellsAt h b o (n * 1) = some (ncells l)) (hn : l.length = n) (hk : k < n) : Cell h b (o + k) (.int .i64 (l.getD k 0)) := ⟨by
  have := cellsAt_sub (k := k) (m := 1) hc (by omega)
  rw [this]
  subst hn
  unfold ncells
  have g : l.getD k 0 = l[k] := by simp [List.getD, hk]
  rw [← List.map_drop, List.drop_eq_getElem_cons hk, List.map_cons, g]
  rfl⟩
end Go.Proofs.Ytmhnddkpiefkhaa.A

namespace Go.Proofs.Ytmhnddkpiefkhaa.A
open Go Go.Vm
set_option maxRecDepth 10000
set_option linter.unusedVariables false
theorem one_int {h : Heap} {n : Int} {es : Nat} : newCells (h.push (.cells [.int .i64 n] es)) 1 [.int .i64 0] false (.slice (some ⟨h.n, 0, none⟩) 1 1) = some (1, [.int .i64 n]) :=
  (Rd.mk (size := 1) (n := 1) (cap := 1) (sp := none) (o := 0) (b := h.n) (c := [.int .i64 n]) (by simp) (by rw [cellsAt_of (c := [.int .i64 n]) (by rw [Heap.get_push, if_pos rfl]; rfl) (by simp)]; rfl)).new _
theorem ncells_append (l m : List Int) : ncells (l ++ m) = ncells l ++ ncells m := by simp [ncells]
end Go.Proofs.Ytmhnddkpiefkhaa.A

namespace Go.Proofs.Ytmhnddkpiefkhaa.A
open Go Go.Vm
set_option maxRecDepth 10000
set_option linter.unusedVariables false
end Go.Proofs.Ytmhnddkpiefkhaa.A

namespace Go.Proofs.Ytmhnddkpiefkhaa.A
open Go Go.Vm
set_option maxRecDepth 10000
set_option linter.unusedVariables false
section
variable {α : Type} [Inhabited α] {lt : α → α → Bool}
abbrev at' (l : List α) (i : Nat) : α := l.getD i default
theorem at_set {l : List α} {i k : Nat} {x : α} (hi : i < l.length) : at' (l.set i x) k = if k = i then x else at' l k := by
  simp only [at', List.getD_eq_getElem?_getD, List.getElem?_set]
  by_cases h : i = k
  · subst h; simp [hi]
  · rw [if_neg h, if_neg (fun e => h e.symm)]
theorem at_mem {l : List α} {i : Nat} (hi : i < l.length) : at' l i ∈ l := by
  simp only [at', List.getD_eq_getElem?_getD, List.getElem?_eq_getElem hi, Option.getD_some]
  exact List.getElem_mem hi
theorem at_ext {l m : List α} (hl : l.length = m.length) (h : ∀ k, k < l.length → at' l k = at' m k) : l = m := by
  refine List.ext_getElem hl fun i h1 h2 => ?_
  have := h i h1
  simpa only [at', List.getD_eq_getElem?_getD, List.getElem?_eq_getElem h1, List.getElem?_eq_getElem h2, Option.getD_some] using this
theorem at_take {l : List α} {n k : Nat} (hk : k < n) : at' (l.take n) k = at' l k := by
  simp only [at', List.getD_eq_getElem?_getD, List.getElem?_take, if_pos hk]
theorem at_append {l m : List α} {k : Nat} (hk : k < l.length) : at' (l ++ m) k = at' l k := by
  simp only [at', List.getD_eq_getElem?_getD, List.getElem?_append_left hk]
def swp (l : List α) (i j : Nat) : List α := (l.set i (at' l j)).set j (at' l i)
theorem swp_len {l : List α} {i j : Nat} : (swp l i j).length = l.length := by simp [swp]
theorem swp_at {l : List α} {i j k : Nat} (hi : i < l.length) (hj : j < l.length) : at' (swp l i j) k = if k = j then at' l i else if k = i then at' l j else at' l k := by
  unfold swp
  rw [at_set (by simpa using hj), at_set hi]
theorem swp_perm {l : List α} {i j : Nat} (hi : i < l.length) (hj : j < l.length) : (swp l i j).Perm l := by
  classical
  rw [List.perm_iff_count]
  intro b
  have e1 : at' l i = l[i] := by simp only [at', List.getD_eq_getElem?_getD, List.getElem?_eq_getElem hi, Option.getD_some]
  have e2 : at' l j = l[j] := by simp only [at', List.getD_eq_getElem?_getD, List.getElem?_eq_getElem hj, Option.getD_some]
  unfold swp
  rw [e1, e2, List.count_set (by simpa using hj), List.count_set hi]
  have c1 : l[i] = b → 0 < l.count b := fun e => List.count_pos_iff.2 (by rw [← e]; exact List.getElem_mem hi)
  rw [List.getElem_set]
  by_cases h : i = j
  · subst h
    simp only [if_true]
    by_cases h1 : l[i] = b
    · have := c1 h1; simp only [h1, beq_self_eq_true, if_true]; omega
    · have : (l[i] == b) = false := by simpa using h1
      simp only [this]; simp
  · rw [if_neg h]
    by_cases h1 : l[i] = b <;> by_cases h2 : l[j] = b
    · have := c1 h1; simp only [h1, h2, beq_self_eq_true, if_true]; omega
    · have h2' : (l[j] == b) = false := by simpa using h2
      have := c1 h1
      simp only [h1, h2', beq_self_eq_true, if_true]; simp; omega
    · have h1' : (l[i] == b) = false := by simpa using h1
      simp only [h1', h2, beq_self_eq_true, if_true]; simp
    · have h1' : (l[i] == b) = false := by simpa using h1
      have h2' : (l[j] == b) = false := by simpa using h2
      simp only [h1', h2']; simp
structure Ord (lt : α → α → Bool) : Prop where
  asy : ∀ a b, lt a b = true → lt b a = false
  tr : ∀ a b c, lt b a = false → lt c b = false → lt c a = false
abbrev edge (lt : α → α → Bool) (l : List α) (k : Nat) : Prop := lt (at' l k) (at' l ((k - 1) / 2)) = false
def HeapP (lt : α → α → Bool) (lo n : Nat) (l : List α) : Prop := ∀ k, 0 < k → k < n → lo ≤ (k - 1) / 2 → edge lt l k
def kid (lt : α → α → Bool) (l : List α) (i n : Nat) : Nat := if 2 * i + 2 < n ∧ lt (at' l (2 * i + 2)) (at' l (2 * i + 1)) = true then 2 * i + 2 else 2 * i + 1
def downF (lt : α → α → Bool) : Nat → List α → Nat → Nat → List α × Nat
  | 0, l, i, _ => (l, i)
  | m + 1, l, i, n => if n ≤ 2 * i + 1 then (l, i) else if lt (at' l (kid lt l i n)) (at' l i) then downF lt m (swp l i (kid lt l i n)) (kid lt l i n) n else (l, i)
structure DInv (lt : α → α → Bool) (lo n i : Nat) (b : Prop) (l : List α) : Prop where
  a : ∀ k, 0 < k → k < n → lo ≤ (k - 1) / 2 → (k - 1) / 2 ≠ i → (k = i → b) → edge lt l k
  c : ∀ k, 0 < k → k < n → (k - 1) / 2 = i → 0 < i → lo ≤ (i - 1) / 2 → lt (at' l k) (at' l ((i - 1) / 2)) = false
theorem kid_lt {l : List α} {i n : Nat} (h : 2 * i + 1 < n) : kid lt l i n < n ∧ (kid lt l i n - 1) / 2 = i ∧ i < kid lt l i n := by
  unfold kid
  split
  · rename_i h1; exact ⟨h1.1, by omega, by omega⟩
  · exact ⟨h, by omega, by omega⟩
theorem kid_least (O : Ord lt) {l : List α} {i n k : Nat} (hk : k < n) (h0 : 0 < k) (hp : (k - 1) / 2 = i) : lt (at' l k) (at' l (kid lt l i n)) = false := by
  have hirr : ∀ a, lt a a = false := fun a => by
    cases h : lt a a with
    | false => rfl
    | true => rw [← O.asy a a h, h]
  unfold kid
  have : k = 2 * i + 1 ∨ k = 2 * i + 2 := by omega
  split
  · rename_i h1
    rcases this with rfl | rfl
    · exact O.asy _ _ h1.2
    · exact hirr _
  · rename_i h1
    rcases this with rfl | rfl
    · exact hirr _
    · have : ¬ lt (at' l (2 * i + 2)) (at' l (2 * i + 1)) = true := fun h => h1 ⟨hk, h⟩
      simpa using this
theorem DInv.step (O : Ord lt) {lo n i : Nat} {b : Prop} {l : List α} (h : DInv lt lo n i b l) (hl : n ≤ l.length) (hn : 2 * i + 1 < n) (hlo : lo ≤ i) (hlt : lt (at' l (kid lt l i n)) (at' l i) = true) : DInv lt lo n (kid lt l i n) True (swp l i (kid lt l i n)) := by
  obtain ⟨k1, k2, k3⟩ := kid_lt (lt := lt) (l := l) hn
  have hmin := fun {k : Nat} (a : k < n) (b : 0 < k) (c : (k - 1) / 2 = i) => kid_least O (l := l) a b c
  generalize kid lt l i n = j at *
  have ha := fun k => swp_at (l := l) (i := i) (j := j) (k := k) (by omega) (by omega)
  refine ⟨fun k h0 hk hlk hp _ => ?_, fun k h0 hk hp _ hlk => ?_⟩
  · show lt (at' (swp l i j) k) (at' (swp l i j) ((k - 1) / 2)) = false
    rw [ha, ha, if_neg hp]
    by_cases e1 : k = j
    · rw [if_pos e1, if_pos (by rw [e1]; exact k2)]
      exact O.asy _ _ hlt
    · rw [if_neg e1]
      by_cases e2 : k = i
      · rw [if_pos e2, if_neg (by omega), e2]
        exact h.c j (by omega) k1 k2 (by omega) (by rw [← e2]; exact hlk)
      · rw [if_neg e2]
        by_cases e3 : (k - 1) / 2 = i
        · rw [if_pos e3]
          exact hmin hk h0 e3
        · rw [if_neg e3]
          exact h.a k h0 hk hlk e3 fun e => absurd e e2
  · rw [ha, ha, k2, if_neg (by omega), if_neg (by omega), if_neg (by omega), if_pos rfl]
    have := h.a k h0 hk (by omega) (by omega) (fun e => by omega)
    show lt (at' l k) (at' l j) = false
    rw [← hp]
    exact this
theorem down_spec (O : Ord lt) : ∀ (m : Nat) (l : List α) (i n lo : Nat) (b : Prop), DInv lt lo n i b l → n ≤ l.length → lo ≤ i → n - i < m →
    (downF lt m l i n).1.length = l.length ∧ (downF lt m l i n).1.Perm l ∧ (∀ k, n ≤ k → at' (downF lt m l i n).1 k = at' l k) ∧ i ≤ (downF lt m l i n).2 ∧ ((downF lt m l i n).2 = i → (downF lt m l i n).1 = l) ∧
    (∀ k, 0 < k → k < n → lo ≤ (k - 1) / 2 → (k = i → b ∨ i < (downF lt m l i n).2) → edge lt (downF lt m l i n).1 k) := by
  intro m
  induction m with
  | zero => intro l i n lo b h hl hlo hm; omega
  | succ m ih =>
    intro l i n lo b h hl hlo hm
    unfold downF
    split
    · rename_i h1
      refine ⟨rfl, .refl _, fun _ _ => rfl, Nat.le_refl _, fun _ => rfl, fun k h0 hk hlk hb => ?_⟩
      exact h.a k h0 hk hlk (by omega) fun e => (hb e).elim id fun e => absurd e (Nat.lt_irrefl _)
    · rename_i h1
      have h1 : 2 * i + 1 < n := by omega
      obtain ⟨k1, k2, k3⟩ := kid_lt (lt := lt) (l := l) h1
      split
      · rename_i h2
        have h3 := h.step O hl h1 hlo h2
        have hk := ih (swp l i (kid lt l i n)) (kid lt l i n) n lo True h3 (by rw [swp_len]; exact hl) (by omega) (by omega)
        generalize kid lt l i n = j at *
        obtain ⟨a1, a2, a3, a4, a5, a6⟩ := hk
        refine ⟨by rw [a1, swp_len], a2.trans (swp_perm (by omega) (by omega)), fun k hk => ?_, by omega, fun e => by omega, fun k h0 hk hlk _ => a6 k h0 hk hlk fun _ => .inl trivial⟩
        rw [a3 k hk, swp_at (by omega) (by omega), if_neg (by omega), if_neg (by omega)]
      · rename_i h2
        refine ⟨rfl, .refl _, fun _ _ => rfl, Nat.le_refl _, fun _ => rfl, fun k h0 hk hlk hb => ?_⟩
        by_cases e : (k - 1) / 2 = i
        · have h4 : lt (at' l (kid lt l i n)) (at' l i) = false := by simpa using h2
          show lt (at' l k) (at' l ((k - 1) / 2)) = false
          rw [e]
          exact O.tr _ _ _ h4 (kid_least O hk h0 e)
        · exact h.a k h0 hk hlk e fun e => (hb e).elim id fun e => absurd e (Nat.lt_irrefl _)
structure UInv (lt : α → α → Bool) (n j : Nat) (l : List α) : Prop where
  a : ∀ k, 0 < k → k < n → k ≠ j → edge lt l k
  c : ∀ k, 0 < k → k < n → (k - 1) / 2 = j → 0 < j → lt (at' l k) (at' l ((j - 1) / 2)) = false
theorem UInv.step (O : Ord lt) {n j : Nat} {l : List α} (h : UInv lt n j l) (hl : n ≤ l.length) (hj : j < n) (h0 : 0 < j) (hlt : lt (at' l j) (at' l ((j - 1) / 2)) = true) : UInv lt n ((j - 1) / 2) (swp l ((j - 1) / 2) j) := by
  generalize hi : (j - 1) / 2 = i at *
  have ha := fun k => swp_at (l := l) (i := i) (j := j) (k := k) (by omega) (by omega)
  refine ⟨fun k h1 hk hne => ?_, fun k h1 hk hp h2 => ?_⟩
  · show lt (at' (swp l i j) k) (at' (swp l i j) ((k - 1) / 2)) = false
    rw [ha, ha]
    by_cases e1 : k = j
    · rw [if_pos e1, if_neg (by omega), if_pos (by rw [e1]; exact hi)]
      exact O.asy _ _ hlt
    · rw [if_neg e1, if_neg hne]
      by_cases e2 : (k - 1) / 2 = j
      · rw [if_pos e2]
        have := h.c k h1 hk e2 h0
        rw [hi] at this
        exact this
      · rw [if_neg e2]
        by_cases e3 : (k - 1) / 2 = i
        · rw [if_pos e3]
          have := h.a k h1 hk e1
          rw [edge, e3] at this
          exact O.tr _ _ _ (O.asy _ _ hlt) this
        · rw [if_neg e3]
          exact h.a k h1 hk e1
  · have h4 : lt (at' l i) (at' l ((i - 1) / 2)) = false := h.a i h2 (by omega) (by omega)
    rw [ha, ha, if_neg (by omega : (i - 1) / 2 ≠ j), if_neg (by omega : (i - 1) / 2 ≠ i)]
    by_cases e1 : k = j
    · rw [if_pos e1]; exact h4
    · rw [if_neg e1, if_neg (by omega)]
      have := h.a k h1 hk e1
      rw [edge, hp] at this
      exact O.tr _ _ _ h4 this
def initG (lt : α → α → Bool) : Nat → List α → List α
  | 0, l => l
  | i + 1, l => initG lt i (downF lt (l.length + 1) l i l.length).1
def initF (lt : α → α → Bool) (l : List α) : List α := initG lt (l.length / 2) l
def outF (lt : α → α → Bool) (l : List α) : List α := (downF lt l.length (swp l 0 (l.length - 1)) 0 (l.length - 1)).1
theorem initG_spec (O : Ord lt) : ∀ (i : Nat) (l : List α), HeapP lt i l.length l → (initG lt i l).length = l.length ∧ (initG lt i l).Perm l ∧ HeapP lt 0 l.length (initG lt i l) := by
  intro i
  induction i with
  | zero => intro l h; exact ⟨rfl, .refl _, h⟩
  | succ i ih =>
    intro l h
    unfold initG
    have hd : DInv lt i l.length i False l := ⟨fun k h0 hk hlk hp _ => h k h0 hk (by omega), fun k h0 hk hp hi hlo => by omega⟩
    obtain ⟨a1, a2, a3, a4, a5, a6⟩ := down_spec O (l.length + 1) l i l.length i False hd (Nat.le_refl _) (Nat.le_refl _) (by omega)
    generalize (downF lt (l.length + 1) l i l.length).2 = i2 at *
    generalize (downF lt (l.length + 1) l i l.length).1 = l2 at *
    obtain ⟨b1, b2, b3⟩ := ih l2 (fun k h0 hk hlk => a6 k h0 (by omega) hlk fun e => by omega)
    exact ⟨by omega, b2.trans a2, by rw [← a1]; exact b3⟩
theorem init_spec (O : Ord lt) (l : List α) : (initF lt l).length = l.length ∧ (initF lt l).Perm l ∧ HeapP lt 0 l.length (initF lt l) :=
  initG_spec O _ l fun k h0 hk hlo => by omega
theorem root_least (O : Ord lt) {l : List α} (h : HeapP lt 0 l.length l) : ∀ (k : Nat), k < l.length → lt (at' l k) (at' l 0) = false := by
  intro k
  induction k using Nat.strongRecOn with
  | _ k ih =>
    intro hk
    by_cases h0 : k = 0
    · subst h0
      cases e : lt (at' l 0) (at' l 0) with
      | false => rfl
      | true => rw [← O.asy _ _ e, e]
    · exact O.tr _ _ _ (ih ((k - 1) / 2) (by omega) (by omega)) (h k (by omega) hk (Nat.zero_le _))
theorem root_le (O : Ord lt) {l : List α} (h : HeapP lt 0 l.length l) {x : α} (hx : x ∈ l) : lt x (at' l 0) = false := by
  obtain ⟨k, hk, rfl⟩ := List.mem_iff_getElem.1 hx
  have := root_least O h k hk
  simpa only [at', List.getD_eq_getElem?_getD, List.getElem?_eq_getElem hk, Option.getD_some] using this
theorem last_perm {l : List α} (h : 0 < l.length) : (at' l (l.length - 1) :: l.take (l.length - 1)).Perm l := by
  have e : l = l.take (l.length - 1) ++ [at' l (l.length - 1)] := by
    refine at_ext (by simp; omega) fun k hk => ?_
    by_cases h1 : k < l.length - 1
    · rw [at_append (by simp; omega), at_take h1]
    · obtain rfl : k = l.length - 1 := by omega
      simp only [at', List.getD_eq_getElem?_getD]
      rw [List.getElem?_append_right (by simp), List.length_take]
      rw [show l.length - 1 - min (l.length - 1) l.length = 0 by omega]
      rfl
  conv => rhs; rw [e]
  exact (List.perm_append_singleton _ _).symm
theorem heap_take {l : List α} {n : Nat} (hn : n ≤ l.length) (h : HeapP lt 0 n l) : HeapP lt 0 (l.take n).length (l.take n) := by
  intro k h0 hk hlo
  rw [List.length_take] at hk
  have := h k h0 (by omega) hlo
  show lt (at' (l.take n) k) (at' (l.take n) ((k - 1) / 2)) = false
  rw [at_take (by omega), at_take (by omega)]
  exact this
theorem out_spec (O : Ord lt) {l : List α} (h : HeapP lt 0 l.length l) (hl : 0 < l.length) : (outF lt l).length = l.length ∧ at' (outF lt l) (l.length - 1) = at' l 0 ∧ (at' l 0 :: (outF lt l).take (l.length - 1)).Perm l ∧ HeapP lt 0 (l.length - 1) ((outF lt l).take (l.length - 1)) := by
  have ha := fun k => swp_at (l := l) (i := 0) (j := l.length - 1) (k := k) (by omega) (by omega)
  have hd : DInv lt 0 (l.length - 1) 0 False (swp l 0 (l.length - 1)) := ⟨fun k h0 hk hlk hp _ => by
    show lt (at' (swp l 0 (l.length - 1)) k) (at' (swp l 0 (l.length - 1)) ((k - 1) / 2)) = false
    rw [ha, ha, if_neg (by omega), if_neg (by omega), if_neg (by omega), if_neg (by omega)]
    exact h k h0 (by omega) hlk, fun k h0 hk hp hi hlo => by omega⟩
  obtain ⟨a1, a2, a3, a4, a5, a6⟩ := down_spec O l.length (swp l 0 (l.length - 1)) 0 (l.length - 1) 0 False hd (by rw [swp_len]; omega) (Nat.le_refl _) (by omega)
  have e1 : (outF lt l).length = l.length := by rw [outF, a1, swp_len]
  have e2 : at' (outF lt l) (l.length - 1) = at' l 0 := by
    rw [outF, a3 _ (Nat.le_refl _), ha, if_pos rfl]
  refine ⟨e1, e2, ?_, ?_⟩
  · have := last_perm (l := outF lt l) (by omega)
    rw [e1, e2] at this
    exact this.trans (a2.trans (swp_perm (by omega) (by omega)))
  · have := heap_take (lt := lt) (l := outF lt l) (n := l.length - 1) (by omega) (fun k h0 hk hlo => a6 k h0 hk hlo fun e => by omega)
    rw [List.length_take, e1] at this
    rw [show min (l.length - 1) l.length = l.length - 1 by omega] at this
    exact this
end
end Go.Proofs.Ytmhnddkpiefkhaa.A

namespace Go.Proofs.Ytmhnddkpiefkhaa.A
open Go Go.Vm
set_option maxRecDepth 10000
set_option linter.unusedVariables false
structure HeapI {α : Type} [Inhabited α] (lt : α → α → Bool) (t : TypeId) (v : Value) (St : Heap → List α → Prop) : Prop where
  bd : ∀ {h l}, St h l → l.length < 1000000
  len : ∀ {h l}, St h l → MRuns Try.prog T0 t v "Len" [] h (fun r h' => r = .int .i64 l.length ∧ St h' l)
  less : ∀ {h l} {i k : Nat}, St h l → i < l.length → k < l.length → MRuns Try.prog T0 t v "Less" [.int .i64 i, .int .i64 k] h (fun r h' => r = .bool (lt (at' l i) (at' l k)) ∧ St h' l)
  swap : ∀ {h l} {i k : Nat}, St h l → i < l.length → k < l.length → MRuns Try.prog T0 t v "Swap" [.int .i64 i, .int .i64 k] h (fun r h' => St h' (swp l i k))
section
variable {α : Type} [Inhabited α] {lt : α → α → Bool} {t : TypeId} {v : Value} {St : Heap → List α → Prop}
theorem down_len : ∀ (q : Nat) (l : List α) (i n : Nat), (downF lt q l i n).1.length = l.length
  | 0, _, _, _ => rfl
  | q + 1, l, i, n => by
    unfold downF
    split
    · rfl
    · split
      · rw [down_len q, swp_len]
      · rfl
set_option maxHeartbeats 4000000 in
theorem down_ok (H : HeapI lt t v St) {h : Heap} {l : List α} {i n q : Nat} (hs : St h l) (hn : n ≤ l.length) (hi : i ≤ n) (hq : n - i < q) :
    Runs Try.prog T0 (.fn fn_zfQ) [.iface t v, .int .i64 i, .int .i64 n] h (fun r h' => r = .bool (decide ((i : Int) < ((downF lt q l i n).2 : Nat))) ∧ St h' (downF lt q l i n).1) (fun _ _ => False) := by
  have hb0 := H.bd hs
  refine zfQ_runs ?_
  refine stp ?_
  refine loop1 zfQ_l0_M 7 (fun k v7 hx => ∃ (j : Nat) (l' : List α), v7 = .int .i64 j ∧ St hx l' ∧ l'.length = l.length ∧ downF lt k l' j n = downF lt q l i n ∧ j ≤ n ∧ n - j < k) ?_ q ⟨i, l, rfl, hs, rfl, rfl, hi, hq⟩
  rintro m v7 h' x8 x9 x10 x12 x13 x14 x15 x16 x17 x18 x19 x20 x21 x22 x23 x24 x25 x26 x27 x28 x29 x30 x31 x32 x33 x34 x35 x36 x37 x38 x39 x40 x41 x42 x43 x44 ⟨j, l', rfl, hs', hl', he, hj, hk⟩
  obtain ⟨k, rfl⟩ : ∃ k', m = k' + 1 := ⟨m - 1, by omega⟩
  have ej : ((2 : Int) * (j : Int)) + 1 = ((2 * j + 1 : Nat) : Int) := by omega
  have ej2 : ((2 * j + 1 : Nat) : Int) + 1 = ((2 * j + 2 : Nat) : Int) := by omega
  rw [downF] at he
  haveI : InR .i64 ((2 : Int) * (j : Int)) := inr_i64 (by omega)
  refine stp ?_
  rw [ej]
  refine O.dec (fun h1 => ?_) (fun h1 => ?_)
  · refine stp ?_
    rw [if_pos (by omega)] at he
    rw [← he]
    exact ⟨rfl, hs'⟩
  rw [if_neg (by omega)] at he
  refine stp ?_
  rw [ej2]
  have hkid := kid_lt (lt := lt) (l := l') (i := j) (n := n) (by omega)
  refine O.dec (fun h2 => ?pos) (fun h2 => ?neg)
  case' pos =>
    refine stp ?_
    refine O.methT (H.less hs' (by omega) (by omega)) (fun r h3 hr => ?_)
    obtain ⟨rfl, hs3⟩ := hr
    refine stp ?_
    refine C.ifB (fun h4 => ?two) (fun h4 => ?one)
  case' two =>
    have hkd : kid lt l' j n = 2 * j + 2 := by unfold kid; rw [if_pos ⟨by omega, h4⟩]
  case' one =>
    have hkd : kid lt l' j n = 2 * j + 1 := by unfold kid; rw [if_neg (fun e => by rw [h4] at e; exact absurd e.2 (by decide))]
  case' neg =>
    have hkd : kid lt l' j n = 2 * j + 1 := by unfold kid; rw [if_neg (fun e => h2 (by omega))]
    have hs3 := hs'
  all_goals
    rw [hkd] at he hkid
    refine stp ?_
    refine O.meth (H.less hs3 (by omega) (by omega)) (fun r h5 hr => ?_)
    obtain ⟨rfl, hs5⟩ := hr
    refine stp ?_
    refine C.ifB (fun h6 => ?_) (fun h6 => ?_)
    · refine stp ?_
      rw [if_neg (by intro e; rw [e] at h6; exact absurd h6 (by decide))] at he
      rw [← he]
      exact ⟨rfl, hs5⟩
    · refine stp ?_
      refine O.meth (H.swap hs5 (by omega) (by omega)) (fun r h7 hs7 => ?_)
      refine stp ?_
      rw [if_pos (by simpa using h6)] at he
      exact loop1a 7 k (by omega) ⟨_, _, rfl, hs7, by rw [swp_len]; exact hl', he, by omega, by omega⟩
set_option maxHeartbeats 4000000 in
theorem init_ok (H : HeapI lt t v St) {h : Heap} {l : List α} (hs : St h l) :
    Runs Try.prog T0 (.fn fn_zdQ) [.iface t v] h (fun r h' => St h' (initF lt l)) (fun _ _ => False) := by
  have hb0 := H.bd hs
  refine zdQ_runs ?_
  refine stp ?_
  refine O.meth (H.len hs) (fun r h1 hr => ?_)
  obtain ⟨rfl, hs1⟩ := hr
  refine stp ?_
  refine O.how (XOp.quoI (by decide)) ?_
  have e1 : IntKind.i64.wrap ((l.length : Int).tdiv 2) = ((l.length / 2 : Nat) : Int) := by
    have : (l.length : Int).tdiv 2 = ((l.length / 2 : Nat) : Int) := by
      rw [Int.tdiv_eq_ediv_of_nonneg (by omega)]; omega
    rw [this]
    exact (inr_i64 (by omega)).eq
  rw [e1]
  refine stp ?_
  refine loop1 zdQ_l0_M 3 (fun k v3 hx => ∃ l', v3 = .int .i64 ((k : Int) - 1) ∧ St hx l' ∧ l'.length = l.length ∧ initG lt k l' = initF lt l ∧ k ≤ l.length) ?_ (l.length / 2) ⟨l, rfl, hs1, rfl, rfl, by omega⟩
  rintro m v3 h' x9 x10 x11 x12 x13 x14 x15 x16 ⟨l', rfl, hs', hl', he, hk⟩
  refine stp ?_
  refine C.if (fun h2 => ?_) (fun h2 => ?_)
  · obtain ⟨k, rfl⟩ : ∃ k', m = k' + 1 := ⟨m - 1, by omega⟩
    have ek : ((k + 1 : Nat) : Int) - 1 = (k : Int) := by omega
    rw [ek]
    refine stp ?_
    rw [← hl']
    refine O.call' (down_ok H hs' (q := l'.length + 1) (i := k) (n := l'.length) (Nat.le_refl _) (by omega) (by omega)) (fun r h3 hr => ?_)
    obtain ⟨rfl, hs3⟩ := hr
    refine stp ?_
    rw [initG] at he
    exact loop1a 3 k (by omega) ⟨_, rfl, hs3, by rw [down_len], he, by omega⟩
  · refine stp ?_
    obtain rfl : m = 0 := by omega
    rw [initG] at he
    rw [← he]
    exact hs'
theorem pop_ok (H : HeapI lt t v St) {h : Heap} {l : List α} {R : RP} (hs : St h l) (hl : 0 < l.length) (hp : ∀ hx, St hx (outF lt l) → MRuns Try.prog T0 t v "Pop" [] hx R) :
    Runs Try.prog T0 (.fn fn_zeQ) [.iface t v] h R (fun _ _ => False) := by
  have hb0 := H.bd hs
  refine zeQ_runs ?_
  refine stp ?_
  refine O.meth (H.len hs) (fun r h1 hr => ?_)
  obtain ⟨rfl, hs1⟩ := hr
  have e1 : (l.length : Int) - 1 = ((l.length - 1 : Nat) : Int) := by omega
  refine stp ?_
  rw [e1]
  refine stp ?_
  refine O.meth (H.swap (i := 0) hs1 hl (by omega)) (fun r h2 hs2 => ?_)
  refine stp ?_
  refine O.call' (down_ok H (i := 0) (q := l.length) (n := l.length - 1) hs2 (by rw [swp_len]; omega) (by omega) (by omega)) (fun r h3 hr => ?_)
  obtain ⟨rfl, hs3⟩ := hr
  refine stp ?_
  refine O.meth (hp _ hs3) (fun r h4 hr => ?_)
  refine stp ?_
  exact hr
end
end Go.Proofs.Ytmhnddkpiefkhaa.A

namespace Go.Proofs.Ytmhnddkpiefkhaa.A
open Go Go.Vm
set_option maxRecDepth 10000
set_option linter.unusedVariables false
theorem nodup_sub_len {α : Type} : ∀ {l m : List α}, l.Nodup → (∀ a ∈ l, a ∈ m) → l.length ≤ m.length
  | [], _, _, _ => Nat.zero_le _
  | a :: l, m, hl, h => by
    obtain ⟨p, q, rfl⟩ := List.append_of_mem (h a (by simp))
    have hl' := List.nodup_cons.1 hl
    have := nodup_sub_len (l := l) (m := p ++ q) hl'.2 fun b hb => by
      have h1 := h b (by simp [hb])
      simp only [List.mem_append, List.mem_cons] at h1 ⊢
      rcases h1 with h1 | rfl | h1
      · exact .inl h1
      · exact absurd hb hl'.1
      · exact .inr h1
    simp only [List.length_append, List.length_cons] at this ⊢
    omega
theorem tell_len {l d : List Ent} (h : TellE l d) : d.length ≤ l.length := nodup_sub_len (nodup_of_map _ h.t) h.mem
theorem Keys_ok {h : Heap} {m : Nat} : Runs Try.prog T0 (.fn fn_zwQ) [.map (some m)] h (fun r h' => r = .func (.func fn_zxQ) ⟨[]⟩ ⟨[.pointer (some ⟨h.n, 0, none⟩)]⟩ ∧ h'.n = h.n + 1 ∧ h'.get h.n = .cells [.map (some m)] 0 ∧ Fr (fun _ => False) h h') (fun _ _ => False) := by
  refine zwQ_runs ?_
  refine stp ?_
  exact ⟨rfl, rfl, HGet.new.eq, Fr.refl.push⟩
set_option maxHeartbeats 4000000 in
theorem keys1_ok {h : Heap} {bx m c y : Nat} {l : List Ent} {I : List Ent → Heap → Prop} (hbx : h.get bx = .cells [.map (some m)] 0) (hb : bx < h.n) (hm : h.get m = .map (ents l) c) (ml : m < h.n) (ok : EntsOK l c)
    (h0 : ∀ hx, Fr (fun _ => False) h hx → I [] hx)
    (hk : ∀ d hx hx', I d hx → Fr (fun i => i = h.n) hx hx' → I d hx')
    (hr : ∀ d e hx, h.n < hx.n → I d hx → e ∈ l → d.length < l.length → Runs Try.prog T0 (.yield y) [.int .i64 e.k] hx (fun r h' => r = .bool true ∧ I (d ++ [e]) h' ∧ Fr (fun i => i ≠ h.n ∧ i ≠ m) hx h') (fun _ _ => False)) :
    Runs Try.prog T0 (.fn fn_zxQ) [.func (.yield y) ⟨[]⟩ ⟨[]⟩, .pointer (some ⟨bx, 0, none⟩)] h (fun _ h' => ∃ d : List Ent, d.Perm l ∧ I d h') (fun _ _ => False) := by
  haveI : HGet h bx _ := ⟨hbx⟩
  haveI : BLt bx h := ⟨hb⟩
  haveI : HGet h m _ := ⟨hm⟩
  haveI : BLt m h := ⟨ml⟩
  refine zxQ_runs ?_
  refine stp ?_
  refine loop0 zxQ_l0_M (fun k hx => ∃ d, TellE l d ∧ k = l.length - d.length ∧ hx.get h.n = .mapIter (some m) c (d.map Ent.t) c ∧ hx.get m = .map (ents l) c ∧ h.n < hx.n ∧ I d hx) ?_ l.length ⟨[], TellE.nil, rfl, HGet.new.eq, by rw [Heap.get_push, if_neg (by omega)]; exact hm, by simp, h0 _ Fr.refl.push⟩
  rintro m h' x3 x6 x7 x8 x9 x10 x11 x12 x13 ⟨d, ht, rfl, gi, gm, hn, hi⟩
  haveI : HGet h' h.n _ := ⟨gi⟩
  haveI : HGet h' m _ := ⟨gm⟩
  haveI : BLt h.n h' := ⟨hn⟩
  haveI : BNe m h.n := ⟨by omega⟩
  refine stp ?_
  refine O.nextMap (l := l) (c := c) (m := m) (seen := d.map Ent.t) ok (fun hend => ?_) (fun e he => ?_)
  · refine stp ?_
    exact ⟨d, ht.all ok.t hend, hi⟩
  · have hel := (List.mem_filter.1 he).1
    have ht2 := ht.next he
    have hlen := tell_len ht2
    rw [List.length_append, List.length_singleton] at hlen
    refine stp ?_
    refine O.how (XOp.entryMap (m := m) (c := c) (l := l) (seen := d.map Ent.t) (x := e) ok hel) ?_
    refine stp ?_
    refine O.yield (hr d e _ (by simpa using hn) (hk d _ _ hi (Fr.refl.set fun _ => rfl)) hel (by omega)) (fun r h3 hr => ?_)
    obtain ⟨rfl, hi3, hf3⟩ := hr
    refine stp ?_
    refine loop0a (l.length - (d.length + 1)) (by omega) ⟨d ++ [e], ht2, by simp, ?_, ?_, ?_, hi3⟩
    · rw [hf3.get _ (by simpa using hn) (fun q => q.1 rfl), Heap.get_set, if_pos rfl, List.map_append]
      rfl
    · rw [hf3.get _ (by simp; omega) (fun q => q.2 rfl), Heap.get_set, if_neg (by omega), gm]
    · have := hf3.n
      simp at this
      omega
end Go.Proofs.Ytmhnddkpiefkhaa.A

namespace Go.Proofs.Ytmhnddkpiefkhaa.A
open Go Go.Vm
set_option maxRecDepth 10000
set_option linter.unusedVariables false
set_option maxHeartbeats 4000000 in
theorem aq_round {h : Heap} {lp p2 : Nat} {n : Int} {v : Value} {L : List Int} {f0 f1 f3 f4 f5 f6 f7 f8 f9 f10 f11 f12 : Value} (hlp : h.get lp = .loop .ready none [f0, f1, .pointer (some ⟨p2, 0, none⟩), f3, f4, f5, f6, f7, f8, f9, f10, f11, f12] [7] zabQ_ra0 zabQ_rb0)
    (h2 : h.get p2 = .cells [v] 0) (ho : Own h 1 v (ncells L) L.length) (hL : L.length < 100000) (hv : ∀ i, ownedBy v i → i ≠ lp ∧ i ≠ p2) (ll : lp < h.n) (m2 : p2 < h.n) (n2 : p2 ≠ lp) :
    Runs Try.prog T0 (.yield lp) [.int .i64 n] h (fun r g => r = .bool true ∧ g.get lp = .loop .ready none [f0, f1, .pointer (some ⟨p2, 0, none⟩), f3, f4, f5, f6, f7, f8, f9, f10, f11, f12] [7] zabQ_ra0 zabQ_rb0 ∧
      (∃ v', g.get p2 = .cells [v'] 0 ∧ Own g 1 v' (ncells (L ++ [n])) (L ++ [n]).length ∧ (∀ i, ownedBy v' i → ownedBy v i ∨ h.n ≤ i)) ∧ Fr (fun i => i = lp ∨ i = p2 ∨ ownedBy v i) h g) (fun _ _ => False) := by
  haveI : HGet h lp _ := ⟨hlp⟩
  haveI : HGet h p2 _ := ⟨h2⟩
  haveI : BLt lp h := ⟨ll⟩
  haveI : BLt p2 h := ⟨m2⟩
  haveI : BNe p2 lp := ⟨n2⟩
  haveI : BNe lp p2 := ⟨fun e => n2 e.symm⟩
  refine Runs.round hlp put_one rfl zabQ_na0 zabQ_nb0 zabQ_ca0 zabQ_cb0 ?_
  refine stp ?_
  refine A.go ?_
  refine stp ?_
  have hL1 : (L ++ [n]).length = L.length + 1 := by simp
  refine O.append ((ho.keep (Fr.refl.set (S := fun i => i = lp) fun _ => rfl) fun b hb e => (hv b hb).1 e).keep (S := fun _ => False) Fr.refl.push fun _ _ => id) one_int rfl rfl (by omega) (by omega) (by omega) (fun v6 h6 ho6 hf6 hn6 => ?_)
  have q6 := hf6.n
  simp only [Heap.n_set, Heap.n_push] at q6 hn6
  haveI := hf6.keep (b := lp) inferInstance (by simp; omega) (fun e => (hv lp e).1 rfl)
  haveI := hf6.keep (b := p2) (o := .cells [v] 0) inferInstance (by simp; omega) (fun e => (hv p2 e).2 rfl)
  haveI : BLt lp h6 := ⟨by omega⟩
  haveI : BLt p2 h6 := ⟨by omega⟩
  have F6 : Fr (fun i => i = lp ∨ ownedBy v i) h h6 := ((Fr.refl.set (S := fun i => i = lp ∨ ownedBy v i) fun _ => .inl rfl).push).trans' (hf6.mono fun _ _ e => .inr e)
  obtain ⟨a6, c6, rfl, _, _⟩ := id ho6.rd
  refine stp ?_
  refine A.on ?_
  have fS : ∀ {A B : AObj}, Fr (fun i => i = p2 ∨ i = lp) h6 ((h6.set p2 A).set lp B) := fun {A B} => (Fr.refl.set fun _ => .inl rfl).set fun _ => .inr rfl
  refine ⟨rfl, by rw [Heap.get_set, if_pos rfl], ⟨_, by rw [Heap.get_set, if_neg n2, Heap.get_set, if_pos rfl], ?_, fun i hi => ?_⟩, (F6.mono fun _ _ e => e.elim .inl fun e => .inr (.inr e)).trans' (fS.mono fun _ _ e => e.elim (fun e => .inr (.inl e)) .inl)⟩
  · rw [ncells_append, hL1]
    exact ho6.keep fS fun b hb e => by
      rcases hn6 b hb with h7 | h7
      · have := hv b h7; omega
      · omega
  · rcases hn6 i hi with h7 | h7
    · exact .inl h7
    · exact .inr (by omega)
noncomputable abbrev qrec (bx p2 : Nat) : AObj := .loop .ready none [.slice none 0 0, .func (.func fn_zxQ) ⟨[]⟩ ⟨[.pointer (some ⟨bx, 0, none⟩)]⟩, .pointer (some ⟨p2, 0, none⟩), undef, .slice none 0 0, undef, .func (.func fn_zxQ) ⟨[]⟩ ⟨[.pointer (some ⟨bx, 0, none⟩)]⟩, undef, undef, undef, undef, undef, undef] [7] zabQ_ra0 zabQ_rb0
set_option maxHeartbeats 8000000 in
theorem AppendSeq_ok {h : Heap} {bx m c : Nat} {l : List Ent} (hbx : h.get bx = .cells [.map (some m)] 0) (hb : bx < h.n) (hm : h.get m = .map (ents l) c) (ml : m < h.n) (ok : EntsOK l c) (hlen : l.length < 100000) :
    Runs Try.prog T0 (.fn fn_zabQ) [.slice none 0 0, .func (.func fn_zxQ) ⟨[]⟩ ⟨[.pointer (some ⟨bx, 0, none⟩)]⟩] h
      (fun r h' => ∃ d : List Ent, d.Perm l ∧ Own h' 1 r (ncells (d.map Ent.k)) (d.map Ent.k).length ∧ (∀ i, ownedBy r i → h.n ≤ i) ∧ Fr (fun _ => False) h h') (fun _ _ => False) := by
  refine zabQ_runs ?_
  refine stp ?_
  have F0 : Fr (fun _ => False) h (h.push (.cells [.slice none 0 0] 0)) := Fr.refl.push
  have n0 : (h.push (.cells [.slice none 0 0] 0)).n = h.n + 1 := rfl
  have g2 : (h.push (.cells [.slice none 0 0] 0)).get h.n = .cells [.slice none 0 0] 0 := by rw [Heap.get_push, if_pos rfl]
  generalize h.push (.cells [.slice none 0 0] 0) = ha at *
  have FL : Fr (fun _ => False) ha ((ha.push (.defs false)).push (qrec bx h.n)) := Fr.refl.push.push
  have F1 := F0.trans' FL
  have nl : ((ha.push (.defs false)).push (qrec bx h.n)).n = ha.n + 2 := rfl
  have hd : (ha.push (.defs false)).n = ha.n + 1 := rfl
  have gq : ((ha.push (.defs false)).push (qrec bx h.n)).get (ha.n + 1) = qrec bx h.n := HGet.new.eq
  have FQ : Fr (fun i => i = ha.n + 1 ∨ i = h.n) (ha.push (.defs false)) ((ha.push (.defs false)).push (qrec bx h.n)) := Fr.refl.push
  refine range_on (J := fun hx => (∃ (d : List Ent) (v : Value), d.Perm l ∧ hx.get h.n = .cells [v] 0 ∧ Own hx 1 v (ncells (d.map Ent.k)) (d.map Ent.k).length ∧ ∀ i, ownedBy v i → ha.n + 2 < i) ∧ Fr (fun i => i = ha.n + 1 ∨ i = h.n) (ha.push (.defs false)) hx) ?_ (fun hx hJ => ?_)
  · show Runs _ _ _ _ ((ha.push (.defs false)).push (qrec bx h.n)) _ _
    generalize (ha.push (.defs false)).push (qrec bx h.n) = hl at *
    refine Runs.mono (keys1_ok (I := fun d hx => hx.get (ha.n + 1) = qrec bx h.n ∧ (∃ v, hx.get h.n = .cells [v] 0 ∧ Own hx 1 v (ncells (d.map Ent.k)) (d.map Ent.k).length ∧ ∀ i, ownedBy v i → ha.n + 2 < i) ∧ ha.n + 1 < hx.n ∧ Fr (fun i => i = ha.n + 1 ∨ i = h.n) (ha.push (.defs false)) hx) (by rw [F1.get _ hb id]; exact hbx) (F1.lt hb) (by rw [F1.get _ ml id]; exact hm) (F1.lt ml) ok ?_ ?_ ?_) (fun _ h' hh => ?_) (fun _ _ h => h)
    · intro hx hf
      refine ⟨by rw [hf.get _ (by omega) id]; exact gq, ⟨_, ?_, .none, fun i hi => hi.elim⟩, hf.lt (by omega), ?_⟩
      · rw [hf.get _ (by omega) id, FL.get _ (by omega) id]
        exact g2
      · exact FQ.trans' (hf.mono fun _ _ e => e.elim)
    · rintro d hx hx' ⟨i1, ⟨v, i2, i3, i4⟩, i5, i6⟩ hf
      have i7 := i6.n
      exact ⟨by rw [hf.get _ i5 (by omega)]; exact i1, ⟨v, by rw [hf.get _ (by omega) (by omega)]; exact i2, i3.keep hf fun i hi e => by have := i4 i hi; omega, i4⟩, hf.lt i5, i6.trans hf fun i hi e => by omega⟩
    · rintro d e hx hn ⟨i1, ⟨v, i2, i3, i4⟩, i5, i6⟩ he hdl
      have i7 := i6.n
      refine Runs.mono (aq_round (n := e.k) i1 i2 i3 (by simp; omega) (fun i hi => ?_) i5 (by omega) (by omega)) (fun r h' hh => ?_) (fun _ _ h => h)
      · have := i4 i hi
        omega
      · obtain ⟨rfl, j1, ⟨v', j2, j3, j4⟩, j5⟩ := hh
        have j6 : Fr (fun i => i = ha.n + 1 ∨ i = h.n) (ha.push (.defs false)) h' := i6.trans j5 fun i hi e => by
          rcases e with e | e | e
          · exact .inl e
          · exact .inr e
          · have := i4 i e
            omega
        refine ⟨rfl, ⟨j1, ⟨v', j2, by rw [List.map_append]; exact j3, fun i hi => ?_⟩, j5.lt i5, j6⟩, j5.mono fun i hi e => ?_⟩
        · rcases j4 i hi with h7 | h7
          · exact i4 i h7
          · omega
        · rcases e with e | e | e
          · omega
          · omega
          · have := i4 i e
            omega
    · obtain ⟨d, hd2, i1, ⟨v, i2, i3, i4⟩, i5, i6⟩ := hh
      exact ⟨i1, ⟨d, v, hd2, i2, i3, i4⟩, i6⟩
  · obtain ⟨⟨d, v, hperm, q4, ho, hnew⟩, hf⟩ := hJ
    have gdf : hx.get ha.n = .defs false := by rw [hf.get _ (by omega) (by omega)]; exact HGet.new.eq
    have FD : Fr (fun i => i = ha.n + 1 ∨ i = h.n) ha hx := Fr.trans' (Fr.refl.push (o := .defs false)) hf
    have hfx : Fr (fun _ => False) h hx := F0.trans FD fun i hi e => by omega
    have hxn := hf.n
    haveI : HGet hx h.n _ := ⟨q4⟩
    haveI : HGet hx ha.n _ := ⟨gdf⟩
    haveI : BLt h.n hx := ⟨by omega⟩
    haveI : BNe h.n (ha.n + 1) := ⟨by omega⟩
    haveI : BNe ha.n (ha.n + 1) := ⟨by omega⟩
    haveI : BNe ha.n h.n := ⟨by omega⟩
    haveI : BNe h.n ha.n := ⟨by omega⟩
    obtain ⟨a3, c3, rfl, _, _⟩ := id ho.rd
    refine stp ?_
    refine B.retC ?_
    have fS : ∀ {A B C : AObj}, Fr (fun i => i = ha.n + 1 ∨ i = ha.n) hx (((hx.set (ha.n + 1) A).set (ha.n + 1) B).set ha.n C) := fun {A B C} => ((Fr.refl.set fun _ => .inl rfl).set fun _ => .inl rfl).set fun _ => .inr rfl
    exact ⟨d, hperm, ho.keep fS fun b hb e => by have := hnew b hb; omega, fun i hi => by have := hnew i hi; omega, hfx.trans fS fun i hi e => by omega⟩
theorem Collect_ok {h : Heap} {bx m c : Nat} {l : List Ent} (hbx : h.get bx = .cells [.map (some m)] 0) (hb : bx < h.n) (hm : h.get m = .map (ents l) c) (ml : m < h.n) (ok : EntsOK l c) (hlen : l.length < 100000) :
    Runs Try.prog T0 (.fn fn_zdbQ) [.func (.func fn_zxQ) ⟨[]⟩ ⟨[.pointer (some ⟨bx, 0, none⟩)]⟩] h
      (fun r h' => ∃ d : List Ent, d.Perm l ∧ Own h' 1 r (ncells (d.map Ent.k)) (d.map Ent.k).length ∧ (∀ i, ownedBy r i → h.n ≤ i) ∧ Fr (fun _ => False) h h') (fun _ _ => False) := by
  refine zdbQ_runs ?_
  refine stp ?_
  refine O.call' (AppendSeq_ok hbx hb hm ml ok hlen) (fun r h1 hr => ?_)
  refine stp ?_
  exact hr
end Go.Proofs.Ytmhnddkpiefkhaa.A

namespace Go.Proofs.Ytmhnddkpiefkhaa.A
open Go Go.Vm
set_option maxRecDepth 10000
set_option linter.unusedVariables false
theorem nget {l : List Int} {j : List Value} {i : Nat} (hi : i < l.length) : CGet (ncells l ++ j) i (.int .i64 (at' l i)) := by
  refine ⟨?_, by rw [List.length_append, ncells_len]; omega⟩
  induction l generalizing i with
  | nil => simp at hi
  | cons a l ih =>
    cases i with
    | zero => rfl
    | succ i => exact ih (by simpa using hi)
theorem nover {l : List Int} {j : List Value} {i : Nat} {x : Int} (hi : i < l.length) : Over (ncells l ++ j) i [.int .i64 x] (ncells (l.set i x) ++ j) := by
  refine ⟨by rw [List.length_append, ncells_len]; simp; omega, ?_⟩
  induction l generalizing i with
  | nil => simp at hi
  | cons a l ih =>
    cases i with
    | zero => show Value.int .i64 x :: over (ncells l ++ j) 0 [] = _; rw [over_nil]; rfl
    | succ i => show Value.int .i64 a :: over (ncells l ++ j) i [.int .i64 x] = _; rw [ih (by simpa using hi)]; rfl
def HSt (p : Nat) (S : Nat → Prop) (hb hx : Heap) (l : List Int) : Prop :=
  p < hx.n ∧ (∃ v, hx.get p = .cells [v] 0 ∧ Own hx 1 v (ncells l) l.length ∧ ∀ i, ownedBy v i → S i ∧ i ≠ p) ∧ S p ∧ l.length < 1000000 ∧ Fr S hb hx
abbrev ltI (a b : Int) : Bool := decide (a < b)
theorem ltI_ord : Ord ltI := ⟨fun a b h => by simp at h ⊢; omega, fun a b c h1 h2 => by simp at h1 h2 ⊢; omega⟩
set_option maxHeartbeats 1000000 in
theorem heights_heap {p : Nat} {S : Nat → Prop} {hb : Heap} : HeapI ltI 107 (.pointer (some ⟨p, 0, none⟩)) (HSt p S hb) where
  bd := fun h => h.2.2.2.1
  len := fun {h l} hs => by
    obtain ⟨hp, ⟨v, hg, ho, hv⟩, h1, h2, h3⟩ := id hs
    haveI : HGet h p _ := ⟨hg⟩
    obtain ⟨a, c, rfl, _, _⟩ := id ho.rd
    refine ⟨fn_zubQ, _, methodOf_val (by kernel_rfl) (by kernel_rfl : Try.prog.underlying 107 = some (.pointer 101)) (by kernel_rfl) (Cell.eq (h := h) (b := p) (off := 0)), ?_⟩
    refine zubQ_runs ?_
    refine stp ?_
    exact ⟨rfl, hs⟩
  less := fun {h l i k} hs hi hk => by
    obtain ⟨hp, ⟨v, hg, ho, hv⟩, h1, h2, h3⟩ := id hs
    haveI : HGet h p _ := ⟨hg⟩
    refine ⟨fn_zvbQ, _, methodOf_val (by kernel_rfl) (by kernel_rfl : Try.prog.underlying 107 = some (.pointer 101)) (by kernel_rfl) (Cell.eq (h := h) (b := p) (off := 0)), ?_⟩
    generalize hn : l.length = n at *
    generalize hc : ncells l = cc at *
    cases ho with
    | none => omega
    | lit _ _ => omega
    | grown hq hn0 hle hl hl2 hgq =>
      rename_i q kk cap j
      subst hn hc
      haveI : HGet h q _ := ⟨hgq⟩
      haveI := nget (j := j) hi
      haveI := nget (j := j) hk
      refine zvbQ_runs ?_
      refine stp ?_
      exact ⟨rfl, hs⟩
  swap := fun {h l i k} hs hi hk => by
    obtain ⟨hp, ⟨v, hg, ho, hv⟩, h1, h2, h3⟩ := id hs
    haveI : HGet h p _ := ⟨hg⟩
    refine ⟨fn_zxbQ, _, methodOf_val (by kernel_rfl) (by kernel_rfl : Try.prog.underlying 107 = some (.pointer 101)) (by kernel_rfl) (Cell.eq (h := h) (b := p) (off := 0)), ?_⟩
    generalize hn : l.length = n at *
    generalize hc : ncells l = cc at *
    cases ho with
    | none => omega
    | lit _ _ => omega
    | grown hq hn0 hle hl hl2 hgq =>
      rename_i q kk cap j
      subst hn hc
      haveI : HGet h q _ := ⟨hgq⟩
      haveI := nget (j := j) hi
      haveI := nget (j := j) hk
      haveI : Over (ncells l ++ j) i [.int .i64 (at' l k)] (ncells (l.set i (at' l k)) ++ j) := nover hi
      haveI : Over (ncells (l.set i (at' l k)) ++ j) k [.int .i64 (at' l i)] (ncells (swp l i k) ++ j) := nover (by simpa using hk)
      refine zxbQ_runs ?_
      refine stp ?_
      refine D.one0 StabL.ok ?_
      refine stp ?_
      obtain ⟨hS, hqp⟩ := hv q rfl
      refine ⟨by simpa using hp, ⟨_, by rw [Heap.get_set, if_neg (fun e => hqp e.symm)]; exact hg, ?_, hv⟩, h1, by rw [swp_len]; exact h2, h3.set fun _ => hS⟩
      rw [swp_len]
      refine Own.grown (j := j) (by simpa using hq) hn0 hle (by rw [ncells_len, swp_len]; simp) ?_ (by rw [Heap.get_set, if_pos rfl])
      rw [List.length_append, ncells_len] at hl2
      rw [List.length_append, ncells_len, swp_len]
      exact hl2
theorem Pop_ok {p : Nat} {S : Nat → Prop} {hb h : Heap} {l : List Int} (hs : HSt p S hb h l) (hl : 0 < l.length) :
    MRuns Try.prog T0 107 (.pointer (some ⟨p, 0, none⟩)) "Pop" [] h (fun r h' => r = .iface 3 (.int .i64 (at' l (l.length - 1))) ∧ HSt p S hb h' (l.take (l.length - 1))) := by
  obtain ⟨hp, ⟨v, hg, ho, hv⟩, h1, h2, h3⟩ := id hs
  obtain ⟨k, hk⟩ : ∃ k, l.length - 1 = k := ⟨_, rfl⟩
  rw [hk]
  haveI : HGet h p _ := ⟨hg⟩
  refine ⟨fn_zwbQ, _, methodOf_ptr (by kernel_rfl) (by kernel_rfl : Try.prog.underlying 107 = some (.pointer 101)), ?_⟩
  generalize hn : l.length = n at *
  generalize hc : ncells l = cc at *
  have ho0 := ho
  have e1 : (n : Int) - 1 = (k : Int) := by omega
  cases ho with
  | none => omega
  | lit _ _ => omega
  | grown hq hn0 hle hl3 hl2 hgq =>
    rename_i q kk cap j
    subst hn hc
    haveI : HGet h q _ := ⟨hgq⟩
    haveI := nget (l := l) (j := j) (i := k) (by omega)
    haveI : IdxOff 0 ((l.length : Int) - 1) 1 k := ⟨by omega⟩
    refine zwbQ_runs ?_
    refine stp ?_
    refine O.cutOwn k ho0 (by omega) ?_ (fun v' ho' hb' => ?_)
    · rw [e1]
      intro m hm
      exact bnd_at' (by omega)
    have hnq : p ≠ q := fun e => (hv q rfl).2 e.symm
    obtain ⟨a3, c3, rfl, _, _⟩ := id ho'.rd
    refine stp ?_
    refine ⟨rfl, by simpa using hp, ⟨_, by rw [Heap.get_set, if_pos rfl], ?_, fun i hi => hv i ((hb' i).1 hi)⟩, h1, by simp; omega, h3.set fun _ => h1⟩
    have ek : ncells (l.take k) = (ncells l).take (k * 1) := by rw [Nat.mul_one]; simp [ncells, List.map_take]
    rw [ek, List.length_take, Nat.min_eq_left (by omega)]
    exact ho'.keep (Fr.refl.set (S := fun i => i = p) fun _ => rfl) fun b hb e => (hv b ((hb' b).1 hb)).2 e
end Go.Proofs.Ytmhnddkpiefkhaa.A

namespace Go.Proofs.Ytmhnddkpiefkhaa.A
open Go Go.Vm
set_option maxRecDepth 10000
set_option linter.unusedVariables false
theorem HSt.rebase {p : Nat} {S : Nat → Prop} {hb hx : Heap} {l : List Int} (h : HSt p S hb hx l) : HSt p S hx hx l := ⟨h.1, h.2.1, h.2.2.1, h.2.2.2.1, Fr.refl⟩
theorem HSt.keep {p : Nat} {S S' : Nat → Prop} {hb hx hy : Heap} {l : List Int} (h : HSt p S hb hx l) (hf : Fr S' hx hy) (hs : ∀ i, S i → ¬ S' i) : HSt p S hy hy l := by
  obtain ⟨h1, ⟨v, h2, h3, h4⟩, h5, h6, h7⟩ := h
  exact ⟨hf.lt h1, ⟨v, by rw [hf.get _ h1 (hs _ h5)]; exact h2, h3.keep hf fun b hb => hs b (h4 b hb).1, h4⟩, h5, h6, Fr.refl⟩
set_option maxHeartbeats 8000000 in
theorem rising_ok {h : Heap} {p m c : Nat} {room : Int} {l : List Ent} (hp : h.get p = .cells [.int .i64 room, .map (some m)] 0) (pl : p < h.n) (hm : h.get m = .map (ents l) c) (ml : m < h.n) (ok : EntsOK l c) (hlen : l.length < 100000) :
    Runs Try.prog T0 (.fn fn_zsbQ) [.pointer (some ⟨p, 0, none⟩)] h
      (fun r h' => ∃ R : List Int, R.Perm (l.map Ent.k) ∧ R.Pairwise (· ≤ ·) ∧ Own h' 1 r (ncells R) R.length ∧ (∀ i, ownedBy r i → h.n ≤ i) ∧ Fr (fun _ => False) h h') (fun _ _ => False) := by
  haveI : HGet h p _ := ⟨hp⟩
  haveI : BLt p h := ⟨pl⟩
  refine zsbQ_runs ?_
  refine stp ?_
  refine O.call' Keys_ok (fun r h1 hr => ?_)
  obtain ⟨rfl, n1, g1, f1⟩ := hr
  refine stp ?_
  refine O.call' (Collect_ok (l := l) g1 (by omega) (by rw [f1.get _ ml id]; exact hm) (by omega) ok hlen) (fun r h2 hr => ?_)
  obtain ⟨d, hd, ho, hnew, f2⟩ := hr
  have F2 := f1.trans' f2
  have n2 := f2.n
  obtain ⟨a0, c0, rfl, _, _⟩ := id ho.rd
  generalize hv0 : Value.slice a0 (d.map Ent.k).length c0 = v0 at *
  haveI : CellsOf v0 [v0] := by rw [← hv0]; infer_instance
  haveI : One1 v0 := by rw [← hv0]; infer_instance
  refine stp ?_
  have hlt0 : ∀ i, ownedBy v0 i → i < h2.n := fun i hi => ho.lt hi
  have HS0 : HSt h2.n (fun i => i = h2.n ∨ ownedBy v0 i) (h2.push (.cells [v0] 0)) (h2.push (.cells [v0] 0)) (d.map Ent.k) :=
    ⟨by simp, ⟨v0, by rw [Heap.get_push, if_pos rfl], ho.keep (Fr.refl.push (S := fun _ => False)) fun _ _ => id, fun i hi => ⟨.inr hi, by have := hlt0 i hi; omega⟩⟩, .inl rfl, by have := hd.length_eq; simp; omega, Fr.refl⟩
  have F3 : Fr (fun _ => False) h (h2.push (.cells [v0] 0)) := F2.trans' Fr.refl.push
  have n3 : (h2.push (.cells [v0] 0)).n = h2.n + 1 := rfl
  generalize h2.push (.cells [v0] 0) = h3 at *
  have hSn : ∀ i, (i = h2.n ∨ ownedBy v0 i) → i < h3.n ∧ h.n ≤ i := fun i hi => by
    rcases hi with rfl | hi
    · omega
    · have := hlt0 i hi
      have := hnew i hi
      omega
  generalize hS : (fun i => i = h2.n ∨ ownedBy v0 i) = S at *
  have hSn : ∀ i, S i → i < h3.n ∧ h.n ≤ i := fun i hi => hSn i (by rw [← hS] at hi; exact hi)
  have hK : (d.map Ent.k).Perm (l.map Ent.k) := hd.map _
  have hKl : (d.map Ent.k).length < 100000 := by have := hd.length_eq; simp; omega
  generalize d.map Ent.k = K at *
  refine O.call' (init_ok heights_heap HS0) (fun r h4 HS4 => ?_)
  obtain ⟨i1, i2, i3⟩ := init_spec ltI_ord K
  generalize initF ltI K = K1 at *
  have f4 := HS4.2.2.2.2
  have n4 := f4.n
  have F4 : Fr (fun _ => False) h h4 := F3.trans f4 fun i hi e => by have := hSn i e; omega
  refine stp ?_
  refine loop1 zsbQ_l0_M 2 (fun m v2 hx => ∃ (l' R : List Int), HSt h2.n S hx hx l' ∧ Own hx 1 v2 (ncells R) R.length ∧ (∀ i, ownedBy v2 i → ¬ S i ∧ h.n ≤ i) ∧ m = l'.length ∧ HeapP ltI 0 l'.length l' ∧ (R ++ l').Perm K ∧ R.Pairwise (· ≤ ·) ∧ (∀ a ∈ R, ∀ b ∈ l', a ≤ b) ∧ Fr (fun _ => False) h hx ∧ h3.n ≤ hx.n) ?_ K1.length
    ⟨K1, [], HS4.rebase, .none, fun i hi => hi.elim, rfl, by rw [i1]; exact i3, by simpa using i2, List.Pairwise.nil, by simp, F4, n4⟩
  rintro m v2 h' x4 x5 x14 x15 x16 x17 x18 x19 x20 x21 x22 x23 x24 x25 x26 x27 ⟨l', R, hs, hoR, hR, rfl, hheap, hperm, hsort, hle, hF, hn⟩
  obtain ⟨hp3, ⟨v, hg3, hov, hv⟩, hSp, hlb, _⟩ := id hs
  haveI : HGet h' h2.n _ := ⟨hg3⟩
  obtain ⟨av, cv, rfl, _, _⟩ := id hov.rd
  refine stp ?_
  refine O.call' (R := fun r h' => r = .int .i64 (l'.length : Nat) ∧ h' = _) (zubQ_runs (by refine stp ?_; exact ⟨rfl, rfl⟩)) (fun r h5 hr => ?_)
  obtain ⟨rfl, rfl⟩ := hr
  refine stp ?_
  refine C.if (fun hpos => ?_) (fun hzero => ?_)
  · have hpos' : 0 < l'.length := by omega
    obtain ⟨o1, o2, o3, o4⟩ := out_spec ltI_ord hheap hpos'
    have hmin : ∀ b ∈ l', at' l' 0 ≤ b := fun b hb => by
      exact Int.not_lt.1 (of_decide_eq_false (root_le ltI_ord hheap hb))
    have hRl : R.length + l'.length = K.length := by have := hperm.length_eq; simpa using this
    refine stp ?_
    refine O.call' (pop_ok heights_heap hs hpos' (fun hx hsx => Pop_ok hsx (by rw [o1]; exact hpos'))) (fun r h6 hr => ?_)
    obtain ⟨rfl, HS6⟩ := hr
    rw [o1] at HS6
    rw [o1, o2]
    have f6 := HS6.2.2.2.2
    have n6 := f6.n
    have hoR6 := hoR.keep f6 fun b hb => (hR b hb).1
    have F6 : Fr (fun _ => False) h h6 := hF.trans f6 fun i hi e => by have := hSn i e; omega
    refine stp ?_
    refine O.append (hoR6.keep (S := fun _ => False) Fr.refl.push fun _ _ => id) one_int rfl rfl (by omega) (by omega) (by omega) (fun v7 h7 ho7 f7 hn7 => ?_)
    have n7 := f7.n
    simp only [Heap.n_push] at n7 hn7
    have f67 : Fr (ownedBy _) h6 h7 := (Fr.refl.push).trans' f7
    have hlb7 : at' l' 0 ∈ l' := at_mem hpos'
    refine stp ?_
    have hmem : ∀ b ∈ (outF ltI l').take (l'.length - 1), b ∈ l' := fun b hb => (o3.mem_iff).1 (List.mem_cons_of_mem _ hb)
    have hlen2 : ((outF ltI l').take (l'.length - 1)).length = l'.length - 1 := by rw [List.length_take, o1]; omega
    refine loop1a 2 (l'.length - 1) (by omega) ⟨(outF ltI l').take (l'.length - 1), R ++ [at' l' 0], HS6.rebase.keep f67 fun i hi e => (hR i e).1 hi, ?_, fun i hi => ?_, hlen2.symm, ?_, ?_, ?_, fun a ha b hb => ?_, F6.trans f67 fun i hi e => by have := (hR i e).2; omega, by omega⟩
    · rw [ncells_append, List.length_append]
      exact ho7
    · rcases hn7 i hi with h8 | h8
      · exact hR i h8
      · exact ⟨fun e => by have := hSn i e; omega, by have := F6.n; omega⟩
    · rw [hlen2]; exact o4
    · rw [List.append_assoc]
      exact (List.Perm.append_left R o3).trans hperm
    · rw [List.pairwise_append]
      exact ⟨hsort, List.pairwise_singleton _ _, fun a ha b hb => by
        simp only [List.mem_singleton] at hb
        subst hb
        exact hle a ha _ hlb7⟩
    · rcases List.mem_append.1 ha with ha | ha
      · exact hle a ha b (hmem b hb)
      · simp only [List.mem_singleton] at ha
        subst ha
        exact hmin b (hmem b hb)
  · refine stp ?_
    have hnil : l' = [] := List.length_eq_zero_iff.1 (by omega)
    subst hnil
    rw [List.append_nil] at hperm
    exact ⟨R, hperm.trans hK, hsort, hoR, fun i hi => (hR i hi).2, hF⟩
end Go.Proofs.Ytmhnddkpiefkhaa.A

namespace Go.Proofs.Ytmhnddkpiefkhaa.A
open Go Go.Vm
set_option maxRecDepth 10000
set_option linter.unusedVariables false
theorem Values_ok {h : Heap} {m : Nat} : Runs Try.prog T0 (.fn fn_zyQ) [.map (some m)] h (fun r h' => r = .func (.func fn_zzQ) ⟨[]⟩ ⟨[.pointer (some ⟨h.n, 0, none⟩)]⟩ ∧ h'.n = h.n + 1 ∧ h'.get h.n = .cells [.map (some m)] 0 ∧ Fr (fun _ => False) h h') (fun _ _ => False) := by
  refine zyQ_runs ?_
  refine stp ?_
  exact ⟨rfl, rfl, HGet.new.eq, Fr.refl.push⟩
set_option maxHeartbeats 4000000 in
theorem vals1_ok {h : Heap} {bx m c y : Nat} {l : List Ent} {I : List Ent → Heap → Prop} (hbx : h.get bx = .cells [.map (some m)] 0) (hb : bx < h.n) (hm : h.get m = .map (ents l) c) (ml : m < h.n) (ok : EntsOK l c)
    (h0 : ∀ hx, Fr (fun _ => False) h hx → I [] hx)
    (hk : ∀ d hx hx', I d hx → Fr (fun i => i = h.n) hx hx' → I d hx')
    (hr : ∀ d e hx, h.n < hx.n → I d hx → e ∈ l → d.length < l.length → Runs Try.prog T0 (.yield y) [e.v] hx (fun r h' => r = .bool true ∧ I (d ++ [e]) h' ∧ Fr (fun i => i ≠ h.n ∧ i ≠ m) hx h') (fun _ _ => False)) :
    Runs Try.prog T0 (.fn fn_zzQ) [.func (.yield y) ⟨[]⟩ ⟨[]⟩, .pointer (some ⟨bx, 0, none⟩)] h (fun _ h' => ∃ d : List Ent, d.Perm l ∧ I d h') (fun _ _ => False) := by
  haveI : HGet h bx _ := ⟨hbx⟩
  haveI : BLt bx h := ⟨hb⟩
  haveI : HGet h m _ := ⟨hm⟩
  haveI : BLt m h := ⟨ml⟩
  refine zzQ_runs ?_
  refine stp ?_
  refine loop0 zzQ_l0_M (fun k hx => ∃ d, TellE l d ∧ k = l.length - d.length ∧ hx.get h.n = .mapIter (some m) c (d.map Ent.t) c ∧ hx.get m = .map (ents l) c ∧ h.n < hx.n ∧ I d hx) ?_ l.length ⟨[], TellE.nil, rfl, HGet.new.eq, by rw [Heap.get_push, if_neg (by omega)]; exact hm, by simp, h0 _ Fr.refl.push⟩
  rintro m h' x4 x7 x8 x9 x10 x11 x12 x13 x14 ⟨d, ht, rfl, gi, gm, hn, hi⟩
  haveI : HGet h' h.n _ := ⟨gi⟩
  haveI : HGet h' m _ := ⟨gm⟩
  haveI : BLt h.n h' := ⟨hn⟩
  haveI : BNe m h.n := ⟨by omega⟩
  refine stp ?_
  refine O.nextMap (l := l) (c := c) (m := m) (seen := d.map Ent.t) ok (fun hend => ?_) (fun e he => ?_)
  · refine stp ?_
    exact ⟨d, ht.all ok.t hend, hi⟩
  · have hel := (List.mem_filter.1 he).1
    have ht2 := ht.next he
    have hlen := tell_len ht2
    rw [List.length_append, List.length_singleton] at hlen
    refine stp ?_
    refine O.how (XOp.entryMap (m := m) (c := c) (l := l) (seen := d.map Ent.t) (x := e) ok hel) ?_
    refine stp ?_
    refine O.yield (hr d e _ (by simpa using hn) (hk d _ _ hi (Fr.refl.set fun _ => rfl)) hel (by omega)) (fun r h3 hr => ?_)
    obtain ⟨rfl, hi3, hf3⟩ := hr
    refine stp ?_
    refine loop0a (l.length - (d.length + 1)) (by omega) ⟨d ++ [e], ht2, by simp, ?_, ?_, ?_, hi3⟩
    · rw [hf3.get _ (by simpa using hn) (fun q => q.1 rfl), Heap.get_set, if_pos rfl, List.map_append]
      rfl
    · rw [hf3.get _ (by simp; omega) (fun q => q.2 rfl), Heap.get_set, if_neg (by omega), gm]
    · have := hf3.n
      simp at this
      omega
structure SE where
  b : Nat
  t : Nat
  x : Bk
  sv : Value
  sl : Value
  v : Bool
  p : Bool
abbrev SE.k (e : SE) : Int := e.x.h.height
def SE.ent (e : SE) : Ent := ⟨e.x.h.height, .pointer (some ⟨e.b, 0, none⟩), e.t⟩
abbrev SE.cells (e : SE) : List Value := .string ⟨⟨e.x.h.chain⟩⟩ :: .int .i64 e.x.h.height :: .int .i64 e.x.h.time :: (bcells e.x.h.prev ++ (bcells e.x.h.vals ++ (bcells e.x.h.next ++ (bcells e.x.h.app ++ (.int .i64 e.x.c.height :: (bcells e.x.c.hash ++ [e.sv, e.sl, .bool e.v, .bool e.p]))))))
structure SE.At (h : Heap) (e : SE) : Prop where
  hd : e.x.h.ok
  hash : e.x.c.hash.length = 32
  get : h.get e.b = .cells e.cells 0
  lt : e.b < h.n
  sv : Own h 2 e.sv (tcells e.x.c.votes) e.x.c.votes.length
  sl : Own h 5 e.sl (vcells e.x.vals) e.x.vals.length
  lv : e.x.c.votes.length ≤ 70
  ll : e.x.vals.length ≤ 70
def SE.mine (e : SE) (i : Nat) : Prop := i = e.b ∨ ownedBy e.sv i ∨ ownedBy e.sl i
theorem SE.At.keep {S : Nat → Prop} {h h' : Heap} {e : SE} (he : e.At h) (hf : Fr S h h') (hs : ∀ i, e.mine i → ¬ S i) : e.At h' :=
  ⟨he.hd, he.hash, by rw [hf.get _ he.lt (hs _ (.inl rfl))]; exact he.get, hf.lt he.lt, he.sv.keep hf fun i hi => hs i (.inr (.inl hi)), he.sl.keep hf fun i hi => hs i (.inr (.inr hi)), he.lv, he.ll⟩
theorem SE.At.mlt {h : Heap} {e : SE} (he : e.At h) {i : Nat} (hi : e.mine i) : i < h.n := by
  rcases hi with rfl | hi | hi
  · exact he.lt
  · exact he.sv.lt hi
  · exact he.sl.lt hi
def pcells (l : List Nat) : List Value := l.map fun b => .pointer (some ⟨b, 0, none⟩)
theorem pcells_len (l : List Nat) : (pcells l).length = l.length := by simp [pcells]
theorem pcells_append (l m : List Nat) : pcells (l ++ m) = pcells l ++ pcells m := by simp [pcells]
theorem one_ptr {h : Heap} {b es : Nat} : newCells (h.push (.cells [.pointer (some ⟨b, 0, none⟩)] es)) 1 [.pointer none] false (.slice (some ⟨h.n, 0, none⟩) 1 1) = some (1, [.pointer (some ⟨b, 0, none⟩)]) :=
  (Rd.mk (size := 1) (n := 1) (cap := 1) (sp := none) (o := 0) (b := h.n) (c := [.pointer (some ⟨b, 0, none⟩)]) (by simp) (by rw [cellsAt_of (c := [.pointer (some ⟨b, 0, none⟩)]) (by rw [Heap.get_push, if_pos rfl]; rfl) (by simp)]; rfl)).new _
set_option maxHeartbeats 4000000 in
theorem lo_round {h : Heap} {lp p2 : Nat} {e : SE} {v : Value} {L : List Nat} {f0 f1 f3 f4 f5 f6 f7 f8 f9 f10 f11 f12 f13 f14 f15 f16 f17 f18 f19 : Value} (he : e.At h) (hlp : h.get lp = .loop .ready none [f0, f1, .pointer (some ⟨p2, 0, none⟩), f3, f4, f5, f6, f7, f8, f9, f10, f11, f12, f13, f14, f15, f16, f17, f18, f19] [9] zqbQ_ra0 zqbQ_rb0)
    (h2 : h.get p2 = .cells [v] 0) (ho : Own h 1 v (pcells L) L.length) (hL : L.length < 100000) (hv : ∀ i, ownedBy v i → i ≠ lp ∧ i ≠ p2) (ll : lp < h.n) (m2 : p2 < h.n) (n2 : p2 ≠ lp) (nb : e.b ≠ lp) :
    Runs Try.prog T0 (.yield lp) [.pointer (some ⟨e.b, 0, none⟩)] h (fun r g => r = .bool true ∧ g.get lp = .loop .ready none [f0, f1, .pointer (some ⟨p2, 0, none⟩), f3, f4, f5, f6, f7, f8, f9, f10, f11, f12, f13, f14, f15, f16, f17, f18, f19] [9] zqbQ_ra0 zqbQ_rb0 ∧
      (∃ v', g.get p2 = .cells [v'] 0 ∧ Own g 1 v' (pcells (if e.p then L else L ++ [e.b])) (if e.p then L else L ++ [e.b]).length ∧ (∀ i, ownedBy v' i → ownedBy v i ∨ h.n ≤ i)) ∧ Fr (fun i => i = lp ∨ i = p2 ∨ ownedBy v i) h g) (fun _ _ => False) := by
  haveI := l32 he.hd.prev
  haveI := l32 he.hd.vals
  haveI := l32 he.hd.next
  haveI := l32 he.hd.app
  haveI := l32 he.hash
  haveI : HGet h lp _ := ⟨hlp⟩
  haveI : HGet h p2 _ := ⟨h2⟩
  haveI : HGet h e.b _ := ⟨he.get⟩
  haveI : BLt e.b h := ⟨he.lt⟩
  haveI : BLt lp h := ⟨ll⟩
  haveI : BLt p2 h := ⟨m2⟩
  haveI : BNe p2 lp := ⟨n2⟩
  haveI : BNe e.b lp := ⟨nb⟩
  haveI : BNe lp p2 := ⟨fun e => n2 e.symm⟩
  refine Runs.round hlp put_one rfl zqbQ_na0 zqbQ_nb0 zqbQ_ca0 zqbQ_cb0 ?_
  refine stp ?_
  refine A.go ?_
  refine stp ?_
  refine C.ifB (fun e1 => ?_) (fun e1 => ?_)
  · refine stp ?_
    have e1' : e.p = false := by simpa using e1
    rw [e1']
    have hL1 : (L ++ [e.b]).length = L.length + 1 := by simp
    refine O.append ((ho.keep (Fr.refl.set (S := fun i => i = lp) fun _ => rfl) fun b hb e => (hv b hb).1 e).keep (S := fun _ => False) Fr.refl.push fun _ _ => id) one_ptr rfl rfl (by omega) (by omega) (by omega) (fun v6 h6 ho6 hf6 hn6 => ?_)
    have q6 := hf6.n
    simp only [Heap.n_set, Heap.n_push] at q6 hn6
    haveI := hf6.keep (b := lp) inferInstance (by simp; omega) (fun e => (hv lp e).1 rfl)
    haveI := hf6.keep (b := p2) (o := .cells [v] 0) inferInstance (by simp; omega) (fun e => (hv p2 e).2 rfl)
    haveI : BLt lp h6 := ⟨by omega⟩
    haveI : BLt p2 h6 := ⟨by omega⟩
    have F6 : Fr (fun i => i = lp ∨ ownedBy v i) h h6 := ((Fr.refl.set (S := fun i => i = lp ∨ ownedBy v i) fun _ => .inl rfl).push).trans' (hf6.mono fun _ _ e => .inr e)
    obtain ⟨a6, c6, rfl, _, _⟩ := id ho6.rd
    refine stp ?_
    refine A.on ?_
    have fS : ∀ {A B : AObj}, Fr (fun i => i = p2 ∨ i = lp) h6 ((h6.set p2 A).set lp B) := fun {A B} => (Fr.refl.set fun _ => .inl rfl).set fun _ => .inr rfl
    refine ⟨rfl, by rw [Heap.get_set, if_pos rfl], ⟨_, by rw [Heap.get_set, if_neg n2, Heap.get_set, if_pos rfl], ?_, fun i hi => ?_⟩, (F6.mono fun _ _ e => e.elim .inl fun e => .inr (.inr e)).trans' (fS.mono fun _ _ e => e.elim (fun e => .inr (.inl e)) .inl)⟩
    · simp only [Bool.false_eq_true, if_false]
      rw [pcells_append, hL1]
      exact ho6.keep fS fun b hb e => by
        rcases hn6 b hb with h7 | h7
        · have := hv b h7; omega
        · omega
    · rcases hn6 i hi with h7 | h7
      · exact .inl h7
      · exact .inr (by omega)
  · refine stp ?_
    have e1' : e.p = true := by simpa using e1
    rw [e1']
    refine A.on ?_
    have fS : ∀ {B C : AObj}, Fr (fun i => i = lp) h ((h.set lp B).set lp C) := fun {B C} => (Fr.refl.set (S := fun i => i = lp) fun _ => rfl).set fun _ => rfl
    rw [show (if true = true then L else L ++ [e.b]) = L from if_pos rfl]
    exact ⟨rfl, by rw [Heap.get_set, if_pos rfl], ⟨v, by rw [fS.get _ m2 n2]; exact h2, ho.keep fS fun b hb e => (hv b hb).1 e, fun i hi => .inl hi⟩, fS.mono fun _ _ e => .inl e⟩
end Go.Proofs.Ytmhnddkpiefkhaa.A

namespace Go.Proofs.Ytmhnddkpiefkhaa.A
open Go Go.Vm
set_option maxRecDepth 10000
set_option linter.unusedVariables false
structure StAt (h : Heap) (p m c : Nat) (room : Int) (l : List SE) : Prop where
  pl : p < h.n
  ml : m < h.n
  pm : p ≠ m
  gp : h.get p = .cells [.int .i64 room, .map (some m)] 0
  gm : h.get m = .map (ents (l.map SE.ent)) c
  ok : EntsOK (l.map SE.ent) c
  ats : ∀ e ∈ l, e.At h
  sp : ∀ e ∈ l, ∀ i, e.mine i → i ≠ p ∧ i ≠ m
  nd : (l.map SE.b).Nodup
  sv : ∀ e ∈ l, ∀ e' ∈ l, ¬ ownedBy e.sv e'.b ∧ ¬ ownedBy e.sl e'.b
def Mine (p m : Nat) (l : List SE) (i : Nat) : Prop := i = p ∨ i = m ∨ ∃ e ∈ l, e.mine i
theorem StAt.keep {S : Nat → Prop} {h h' : Heap} {p m c : Nat} {room : Int} {l : List SE} (hs : StAt h p m c room l) (hf : Fr S h h') (hn : ∀ i, Mine p m l i → ¬ S i) : StAt h' p m c room l :=
  ⟨hf.lt hs.pl, hf.lt hs.ml, hs.pm, by rw [hf.get _ hs.pl (hn _ (.inl rfl))]; exact hs.gp, by rw [hf.get _ hs.ml (hn _ (.inr (.inl rfl)))]; exact hs.gm, hs.ok,
    fun e he => (hs.ats e he).keep hf fun i hi => hn i (.inr (.inr ⟨e, he, hi⟩)), hs.sp, hs.nd, hs.sv⟩
theorem StAt.mlt {h : Heap} {p m c : Nat} {room : Int} {l : List SE} (hs : StAt h p m c room l) {i : Nat} (hi : Mine p m l i) : i < h.n := by
  rcases hi with rfl | rfl | ⟨e, he, hi⟩
  · exact hs.pl
  · exact hs.ml
  · exact (hs.ats e he).mlt hi
theorem inj_of_nodup {α β : Type} {f : α → β} {l : List α} (h : (l.map f).Nodup) {a b : α} (ha : a ∈ l) (hb : b ∈ l) (e : f a = f b) : a = b := by
  induction l with
  | nil => simp at ha
  | cons x l ih =>
    simp only [List.map_cons, List.nodup_cons] at h
    rcases List.mem_cons.1 ha with h1 | h1 <;> rcases List.mem_cons.1 hb with h2 | h2
    · rw [h1, h2]
    · subst h1; exact absurd (List.mem_map.2 ⟨b, h2, e.symm⟩) h.1
    · subst h2; exact absurd (List.mem_map.2 ⟨a, h1, e⟩) h.1
    · exact ih h.2 h1 h2
theorem perm_back {l D : List SE} {d : List Ent} {c : Nat} (ok : EntsOK (l.map SE.ent) c) (hd : D.map SE.ent = d) (hm : ∀ e ∈ D, e ∈ l) (hp : d.Perm (l.map SE.ent)) : D.Perm l := by
  have ht : (l.map SE.t).Nodup := by have := ok.t; rw [List.map_map] at this; exact this
  have hdn : (D.map SE.t).Nodup := by
    have : (d.map Ent.t).Nodup := ((hp.map Ent.t).nodup_iff).2 ok.t
    rw [← hd, List.map_map] at this
    exact this
  refine perm_of_same (nodup_of_map _ hdn) (nodup_of_map _ ht) fun e => ⟨hm e, fun he => ?_⟩
  have h1 : e.ent ∈ d := hp.mem_iff.2 (List.mem_map.2 ⟨e, he, rfl⟩)
  rw [← hd] at h1
  obtain ⟨e', he', hee⟩ := List.mem_map.1 h1
  have : e' = e := inj_of_nodup ht (hm e' he') he (by have := congrArg Ent.t hee; exact this)
  rwa [this] at he'
noncomputable abbrev lrec (p m bx p2 : Nat) : AObj := .loop .ready none [.pointer (some ⟨p, 0, none⟩), undef, .pointer (some ⟨p2, 0, none⟩), undef, .pointer (some ⟨p, 0, none⟩), .pointer (some ⟨p, 0, none⟩), .pointer (some ⟨p, 1, none⟩), .map (some m), .func (.func fn_zzQ) ⟨[]⟩ ⟨[.pointer (some ⟨bx, 0, none⟩)]⟩, undef, undef, undef, undef, undef, undef, undef, undef, undef, undef, undef] [9] zqbQ_ra0 zqbQ_rb0
def looseL (l : List SE) : List SE := l.filter fun e => !e.p
theorem loose_snoc (D : List SE) (e : SE) : (looseL (D ++ [e])).map SE.b = if e.p then (looseL D).map SE.b else (looseL D).map SE.b ++ [e.b] := by
  unfold looseL
  rw [List.filter_append, List.map_append]
  cases h : e.p <;> simp [h]
set_option maxHeartbeats 8000000 in
theorem loose_ok {h : Heap} {p m c : Nat} {room : Int} {l : List SE} (hs : StAt h p m c room l) (hlen : l.length < 100000) :
    Runs Try.prog T0 (.fn fn_zqbQ) [.pointer (some ⟨p, 0, none⟩)] h
      (fun r h' => ∃ d : List SE, d.Perm (looseL l) ∧ Own h' 1 r (pcells (d.map SE.b)) (d.map SE.b).length ∧ (∀ i, ownedBy r i → h.n ≤ i) ∧ Fr (fun _ => False) h h') (fun _ _ => False) := by
  haveI : HGet h p _ := ⟨hs.gp⟩
  haveI : BLt p h := ⟨hs.pl⟩
  have hml := hs.ml
  have hpl := hs.pl
  refine zqbQ_runs ?_
  refine stp ?_
  have F0 : Fr (fun _ => False) h (h.push (.cells [.slice none 0 0] 0)) := Fr.refl.push
  have n0 : (h.push (.cells [.slice none 0 0] 0)).n = h.n + 1 := rfl
  have g2 : (h.push (.cells [.slice none 0 0] 0)).get h.n = .cells [.slice none 0 0] 0 := by rw [Heap.get_push, if_pos rfl]
  generalize h.push (.cells [.slice none 0 0] 0) = h0 at *
  refine O.call' Values_ok (fun r ha hr => ?_)
  obtain ⟨rfl, na, gx, fa⟩ := hr
  have Fa := F0.trans' fa
  refine stp ?_
  have FL : Fr (fun _ => False) ha ((ha.push (.defs false)).push (lrec p m h0.n h.n)) := Fr.refl.push.push
  have F1 := Fa.trans' FL
  have nl : ((ha.push (.defs false)).push (lrec p m h0.n h.n)).n = ha.n + 2 := rfl
  have hd : (ha.push (.defs false)).n = ha.n + 1 := rfl
  have gq : ((ha.push (.defs false)).push (lrec p m h0.n h.n)).get (ha.n + 1) = lrec p m h0.n h.n := HGet.new.eq
  have FQ : Fr (fun i => i = ha.n + 1 ∨ i = h.n) (ha.push (.defs false)) ((ha.push (.defs false)).push (lrec p m h0.n h.n)) := Fr.refl.push
  refine range_on (J := fun hx => (∃ (d : List SE) (v : Value), d.Perm l ∧ hx.get h.n = .cells [v] 0 ∧ Own hx 1 v (pcells ((looseL d).map SE.b)) ((looseL d).map SE.b).length ∧ ∀ i, ownedBy v i → ha.n + 2 < i) ∧ Fr (fun i => i = ha.n + 1 ∨ i = h.n) (ha.push (.defs false)) hx) ?_ (fun hx hJ => ?_)
  · show Runs _ _ _ _ ((ha.push (.defs false)).push (lrec p m h0.n h.n)) _ _
    generalize (ha.push (.defs false)).push (lrec p m h0.n h.n) = hl at *
    refine Runs.mono (vals1_ok (c := c) (l := l.map SE.ent) (I := fun d hx => hx.get (ha.n + 1) = lrec p m h0.n h.n ∧ (∃ (D : List SE) (v : Value), D.map SE.ent = d ∧ (∀ e ∈ D, e ∈ l) ∧ hx.get h.n = .cells [v] 0 ∧ Own hx 1 v (pcells ((looseL D).map SE.b)) ((looseL D).map SE.b).length ∧ ∀ i, ownedBy v i → ha.n + 2 < i) ∧ ha.n + 1 < hx.n ∧ Fr (fun i => i = ha.n + 1 ∨ i = h.n) (ha.push (.defs false)) hx) (by rw [FL.get _ (by omega) id]; exact gx) (FL.lt (by omega)) (by rw [F1.get _ hml id]; exact hs.gm) (F1.lt hml) hs.ok ?_ ?_ ?_) (fun _ h' hh => ?_) (fun _ _ h => h)
    · intro hx hf
      refine ⟨by rw [hf.get _ (by omega) id]; exact gq, ⟨[], _, rfl, by simp, ?_, .none, fun i hi => hi.elim⟩, hf.lt (by omega), ?_⟩
      · rw [hf.get _ (by omega) id, FL.get _ (by omega) id, fa.get _ (by omega) id]
        exact g2
      · exact FQ.trans' (hf.mono fun _ _ e => e.elim)
    · rintro d hx hx' ⟨i1, ⟨D, v, j1, j2, i2, i3, i4⟩, i5, i6⟩ hf
      have i7 := i6.n
      exact ⟨by rw [hf.get _ i5 (by omega)]; exact i1, ⟨D, v, j1, j2, by rw [hf.get _ (by omega) (by omega)]; exact i2, i3.keep hf fun i hi e => by have := i4 i hi; omega, i4⟩, hf.lt i5, i6.trans hf fun i hi e => by omega⟩
    · rintro d e hx hn ⟨i1, ⟨D, v, j1, j2, i2, i3, i4⟩, i5, i6⟩ he hdl
      have i7 := i6.n
      obtain ⟨s, hsl, rfl⟩ := List.mem_map.1 he
      have FD : Fr (fun i => i = ha.n + 1 ∨ i = h.n) ha hx := Fr.trans' (Fr.refl.push (o := .defs false)) i6
      have FX : Fr (fun _ => False) h hx := Fa.trans FD fun i hi e => by omega
      have hat := hs.ats s hsl
      have hbl := hat.lt
      have hDl : D.length < l.length := by rw [← j1] at hdl; simpa using hdl
      have hLl : ((looseL D).map SE.b).length ≤ D.length := by rw [List.length_map]; exact List.length_filter_le _ _
      refine Runs.mono (lo_round (e := s) (hat.keep FX fun _ _ => id) i1 i2 i3 (by omega) (fun i hi => ?_) i5 (by omega) (by omega) (by omega)) (fun r h' hh => ?_) (fun _ _ h => h)
      · have := i4 i hi
        omega
      · obtain ⟨rfl, k1, ⟨v', k2, k3, k4⟩, k5⟩ := hh
        have k6 : Fr (fun i => i = ha.n + 1 ∨ i = h.n) (ha.push (.defs false)) h' := i6.trans k5 fun i hi e => by
          rcases e with e | e | e
          · exact .inl e
          · exact .inr e
          · have := i4 i e
            omega
        refine ⟨rfl, ⟨k1, ⟨D ++ [s], v', by rw [List.map_append, j1]; rfl, fun x hx => ?_, k2, by rw [loose_snoc]; exact k3, fun i hi => ?_⟩, k5.lt i5, k6⟩, k5.mono fun i hi e => ?_⟩
        · rcases List.mem_append.1 hx with hx | hx
          · exact j2 x hx
          · simp only [List.mem_singleton] at hx
            subst hx
            exact hsl
        · rcases k4 i hi with h7 | h7
          · exact i4 i h7
          · omega
        · rcases e with e | e | e
          · omega
          · omega
          · have := i4 i e
            omega
    · obtain ⟨d, hd2, i1, ⟨D, v, j1, j2, i2, i3, i4⟩, i5, i6⟩ := hh
      exact ⟨i1, ⟨D, v, perm_back hs.ok j1 j2 hd2, i2, i3, i4⟩, i6⟩
  · obtain ⟨⟨d, v, hperm, q4, ho, hnew⟩, hf⟩ := hJ
    have gdf : hx.get ha.n = .defs false := by rw [hf.get _ (by omega) (by omega)]; exact HGet.new.eq
    have FD : Fr (fun i => i = ha.n + 1 ∨ i = h.n) ha hx := Fr.trans' (Fr.refl.push (o := .defs false)) hf
    have hfx : Fr (fun _ => False) h hx := Fa.trans FD fun i hi e => by omega
    have hxn := hf.n
    haveI : HGet hx h.n _ := ⟨q4⟩
    haveI : HGet hx ha.n _ := ⟨gdf⟩
    haveI : BLt h.n hx := ⟨by omega⟩
    haveI : BNe h.n (ha.n + 1) := ⟨by omega⟩
    haveI : BNe ha.n (ha.n + 1) := ⟨by omega⟩
    haveI : BNe ha.n h.n := ⟨by omega⟩
    haveI : BNe h.n ha.n := ⟨by omega⟩
    obtain ⟨a3, c3, rfl, _, _⟩ := id ho.rd
    refine stp ?_
    refine B.retC ?_
    have fS : ∀ {A B C D : AObj}, Fr (fun i => i = ha.n + 1 ∨ i = h.n ∨ i = ha.n) hx ((((hx.set (ha.n + 1) A).set (ha.n + 1) B).set h.n C).set ha.n D) := fun {A B C D} => (((Fr.refl.set fun _ => .inl rfl).set fun _ => .inl rfl).set fun _ => .inr (.inl rfl)).set fun _ => .inr (.inr rfl)
    exact ⟨looseL d, hperm.filter _, ho.keep fS fun b hb e => by have := hnew b hb; omega, fun i hi => by have := hnew i hi; omega, hfx.trans fS fun i hi e => by omega⟩
end Go.Proofs.Ytmhnddkpiefkhaa.A

namespace Go.Proofs.Ytmhnddkpiefkhaa.A
open Go Go.Vm
set_option maxRecDepth 10000
set_option linter.unusedVariables false
def cmpI (a b : Int) : Int := if a < b then -1 else if b < a then 1 else 0
def orI (a b : Int) : Int := if a = 0 then b else a
def rankS (e : SE) : Int := if e.v then 1 else 0
def ordS (a b : SE) : Int := orI (cmpI (rankS a) (rankS b)) (cmpI a.k b.k)
theorem isNaN_ok {h : Heap} {a : Int} : Runs Try.prog T0 (.fn fn_zcQ) [.int .i64 a] h (fun r h' => r = .bool false ∧ h' = h) (fun _ _ => False) := by
  refine zcQ_runs ?_
  refine stp ?_
  exact ⟨by simp, rfl⟩
theorem Compare_ok {h : Heap} {a b : Int} : Runs Try.prog T0 (.fn fn_zaQ) [.int .i64 a, .int .i64 b] h (fun r h' => r = .int .i64 (cmpI a b) ∧ h' = h) (fun _ _ => False) := by
  refine zaQ_runs ?_
  refine stp ?_
  refine O.call' isNaN_ok (fun r h1 hr => ?_)
  obtain ⟨rfl, rfl⟩ := hr
  refine stp ?_
  refine O.call' isNaN_ok (fun r h1 hr => ?_)
  obtain ⟨rfl, rfl⟩ := hr
  refine stp ?_
  unfold cmpI
  refine C.if (fun h1 => ?_) (fun h1 => ?_)
  · refine stp ?_
    rw [if_pos h1]
    exact ⟨rfl, rfl⟩
  · refine stp ?_
    rw [if_neg h1]
    refine C.if (fun h2 => ?_) (fun h2 => ?_)
    · refine stp ?_
      rw [if_pos h2]
      exact ⟨rfl, rfl⟩
    · refine stp ?_
      rw [if_neg h2]
      exact ⟨rfl, rfl⟩
theorem Or_ok {h : Heap} {q : Nat} {a b : Int} (hq : h.get q = .cells [.int .i64 a, .int .i64 b] 0) (ql : q < h.n) : Runs Try.prog T0 (.fn fn_zbQ) [.slice (some ⟨q, 0, none⟩) 2 2] h (fun r h' => r = .int .i64 (orI a b) ∧ h' = h) (fun _ _ => False) := by
  haveI : HGet h q _ := ⟨hq⟩
  refine zbQ_runs ?_
  refine stp ?_
  refine loop1 zbQ_l0_M 8 (fun m v8 hx => hx = h ∧ (m = 2 ∧ v8 = .int .i64 0 ∨ m = 1 ∧ v8 = .int .i64 1 ∧ a = 0 ∨ m = 0 ∧ v8 = .int .i64 2 ∧ a = 0 ∧ b = 0)) ?_ 2 ⟨rfl, .inl ⟨rfl, rfl⟩⟩
  rintro m v8 h' x2 x5 x9 x10 x11 x12 x13 x14 x15 x16 ⟨rfl, ⟨rfl, rfl⟩ | ⟨rfl, rfl, ha⟩ | ⟨rfl, rfl, ha, hb⟩⟩
  · refine stp ?_
    refine C.ifN (fun e1 => ?_) (fun e1 => ?_)
    · refine stp ?_
      unfold orI
      rw [if_neg e1]
      exact ⟨rfl, rfl⟩
    · refine stp ?_
      exact loop1a 8 1 (by omega) ⟨rfl, .inr (.inl ⟨rfl, rfl, e1⟩)⟩
  · refine stp ?_
    refine C.ifN (fun e1 => ?_) (fun e1 => ?_)
    · refine stp ?_
      unfold orI
      rw [if_pos ha]
      exact ⟨rfl, rfl⟩
    · refine stp ?_
      exact loop1a 8 0 (by omega) ⟨rfl, .inr (.inr ⟨rfl, rfl, ha, e1⟩)⟩
  · refine stp ?_
    unfold orI
    rw [if_pos ha, hb]
    exact ⟨rfl, rfl⟩
theorem rank_ok {h : Heap} {e : SE} (he : e.At h) : Runs Try.prog T0 (.fn fn_zzbQ) [.pointer (some ⟨e.b, 0, none⟩)] h (fun r h' => r = .int .i64 (rankS e) ∧ h' = h) (fun _ _ => False) := by
  haveI := l32 he.hd.prev
  haveI := l32 he.hd.vals
  haveI := l32 he.hd.next
  haveI := l32 he.hd.app
  haveI := l32 he.hash
  haveI : HGet h e.b _ := ⟨he.get⟩
  refine zzbQ_runs ?_
  refine stp ?_
  unfold rankS
  refine C.ifB (fun e1 => ?_) (fun e1 => ?_)
  · refine stp ?_
    rw [if_pos e1]
    exact ⟨rfl, rfl⟩
  · refine stp ?_
    rw [if_neg (by rw [e1]; decide)]
    exact ⟨rfl, rfl⟩
set_option maxHeartbeats 4000000 in
theorem order_ok {h : Heap} {a b : SE} (ha : a.At h) (hb : b.At h) : Runs Try.prog T0 (.fn fn_zybQ) [.pointer (some ⟨a.b, 0, none⟩), .pointer (some ⟨b.b, 0, none⟩)] h (fun r h' => r = .int .i64 (ordS a b) ∧ Fr (fun _ => False) h h') (fun _ _ => False) := by
  haveI := l32 ha.hd.prev
  haveI := l32 ha.hd.vals
  haveI := l32 ha.hd.next
  haveI := l32 ha.hd.app
  haveI := l32 ha.hash
  haveI := l32 hb.hd.prev
  haveI := l32 hb.hd.vals
  haveI := l32 hb.hd.next
  haveI := l32 hb.hd.app
  haveI := l32 hb.hash
  haveI : HGet h a.b _ := ⟨ha.get⟩
  haveI : HGet h b.b _ := ⟨hb.get⟩
  refine zybQ_runs ?_
  refine stp ?_
  refine D.callX (R := fun r h' => r = .int .i64 (rankS a) ∧ h' = h) (X := fun _ _ => False) (rank_ok ha) (fun r h1 hr => ?_) (fun r h1 hr => ?_) (fun _ _ hx => hx.elim)
  · obtain ⟨rfl, rfl⟩ := hr
    exact StabL.ok
  obtain ⟨rfl, rfl⟩ := hr
  refine stp ?_
  refine D.callX (R := fun r h' => r = .int .i64 (rankS b) ∧ h' = _) (X := fun _ _ => False) (rank_ok hb) (fun r h1 hr => ?_) (fun r h1 hr => ?_) (fun _ _ hx => hx.elim)
  · obtain ⟨rfl, rfl⟩ := hr
    exact StabL.ok
  obtain ⟨rfl, rfl⟩ := hr
  refine stp ?_
  refine D.callX (R := fun r h' => r = .int .i64 (cmpI (rankS a) (rankS b)) ∧ h' = _) (X := fun _ _ => False) Compare_ok (fun r h1 hr => ?_) (fun r h1 hr => ?_) (fun _ _ hx => hx.elim)
  · obtain ⟨rfl, rfl⟩ := hr
    exact StabL.ok
  obtain ⟨rfl, rfl⟩ := hr
  refine stp ?_
  refine D.callX (R := fun r h' => r = .int .i64 (cmpI a.k b.k) ∧ h' = _) (X := fun _ _ => False) Compare_ok (fun r h1 hr => rfl) (fun r h1 hr => ?_) (fun _ _ hx => hx.elim)
  obtain ⟨rfl, rfl⟩ := hr
  refine stp ?_
  refine D.callX (X := fun _ _ => False) (Or_ok (a := cmpI (rankS a) (rankS b)) (b := cmpI a.k b.k) HGet.new.eq (by simp)) (fun r h1 hr => rfl) (fun r h1 hr => ?_) (fun _ _ hx => hx.elim)
  obtain ⟨rfl, rfl⟩ := hr
  refine stp ?_
  exact ⟨rfl, Fr.refl.push⟩
end Go.Proofs.Ytmhnddkpiefkhaa.A

namespace Go.Proofs.Ytmhnddkpiefkhaa.A
open Go Go.Vm
set_option maxRecDepth 10000
set_option linter.unusedVariables false
instance : Inhabited SE := ⟨⟨0, 0, zBk, .slice none 0 0, .slice none 0 0, false, false⟩⟩
theorem at_map {α β : Type} [Inhabited α] [Inhabited β] (f : α → β) {l : List α} {i : Nat} (hi : i < l.length) : at' (l.map f) i = f (at' l i) := by
  simp only [at', List.getD_eq_getElem?_getD, List.getElem?_map, List.getElem?_eq_getElem hi, Option.map_some, Option.getD_some]
theorem pget {l : List Nat} {j : List Value} {i : Nat} (hi : i < l.length) : CGet (pcells l ++ j) i (.pointer (some ⟨at' l i, 0, none⟩)) := by
  refine ⟨?_, by rw [List.length_append, pcells_len]; omega⟩
  induction l generalizing i with
  | nil => simp at hi
  | cons a l ih =>
    cases i with
    | zero => rfl
    | succ i => exact ih (by simpa using hi)
def KeyLt (a b : SE) : Prop := rankS a < rankS b ∨ rankS a = rankS b ∧ a.k < b.k
theorem cmpI_cases (x y : Int) : cmpI x y = -1 ∧ x < y ∨ cmpI x y = 1 ∧ y < x ∨ cmpI x y = 0 ∧ x = y := by
  unfold cmpI
  split
  · exact .inl ⟨rfl, by assumption⟩
  · split
    · exact .inr (.inl ⟨rfl, by assumption⟩)
    · exact .inr (.inr ⟨rfl, by omega⟩)
theorem ord_lt (a b : SE) : ordS a b < 0 ↔ KeyLt a b := by
  unfold ordS orI KeyLt
  generalize rankS a = x
  generalize rankS b = y
  generalize a.k = u
  generalize b.k = v
  rcases cmpI_cases x y with ⟨h1, h2⟩ | ⟨h1, h2⟩ | ⟨h1, h2⟩
  · rw [h1, if_neg (by decide)]
    omega
  · rw [h1, if_neg (by decide)]
    omega
  · rw [h1, if_pos rfl]
    rcases cmpI_cases u v with ⟨h3, h4⟩ | ⟨h3, h4⟩ | ⟨h3, h4⟩ <;> rw [h3] <;> omega
set_option maxHeartbeats 4000000 in
theorem MinFunc_ok {h : Heap} {v : Value} {d : List SE} (ho : Own h 1 v (pcells (d.map SE.b)) (d.map SE.b).length) (hd : ∀ e ∈ d, e.At h) (h0 : 0 < d.length) (hl : d.length < 100000) :
    Runs Try.prog T0 (.fn fn_zebQ) [v, .func (.func fn_zybQ) ⟨[]⟩ ⟨[]⟩] h (fun r h' => ∃ e ∈ d, r = .pointer (some ⟨e.b, 0, none⟩) ∧ (∀ x ∈ d, ¬ KeyLt x e) ∧ Fr (fun _ => False) h h') (fun _ _ => False) := by
  generalize hn : (d.map SE.b).length = n at *
  generalize hc : pcells (d.map SE.b) = cc at *
  have hnl : n = d.length := by rw [← hn]; simp
  refine zebQ_runs ?_
  cases ho with
  | none => omega
  | lit _ _ => omega
  | grown hq hn0 hle hl3 hl2 hgq =>
    rename_i q kk cap j
    subst hc
    haveI : HGet h q _ := ⟨hgq⟩
    haveI := pget (l := d.map SE.b) (j := j) (i := 0) (by omega)
    refine stp ?_
    refine C.if (fun e => absurd e (by omega)) (fun _ => ?_)
    refine stp ?_
    refine loop2 zebQ_l0_M 5 6 (fun m v5 v6 hx => ∃ (i : Nat) (e : SE), 1 ≤ i ∧ i ≤ n ∧ m = n - i ∧ v5 = .pointer (some ⟨e.b, 0, none⟩) ∧ v6 = .int .i64 i ∧ e ∈ d ∧ (∀ x ∈ d.take i, ¬ KeyLt x e) ∧ Fr (fun _ => False) h hx) ?_ (n - 1) ⟨1, at' d 0, by omega, by omega, rfl, by rw [at_map SE.b (by omega)], rfl, at_mem (by omega), ?_, Fr.refl⟩
    · rintro m v5 v6 h' x14 x15 x16 x17 x18 x19 x20 x21 x22 x23 x24 x25 x26 x27 x28 x29 x30 x31 ⟨i, e, hi1, hin, rfl, rfl, rfl, he, hmin, hf⟩
      haveI : HGet h' q _ := hf.keep ⟨hgq⟩ hq id
      refine stp ?_
      refine C.if (fun hlt => ?_) (fun hge => ?_)
      · have hlt : i < n := by omega
        haveI := pget (l := d.map SE.b) (j := j) (i := i) (by omega)
        have hai : at' (d.map SE.b) i = (at' d i).b := at_map SE.b (by omega)
        have hmem : at' d i ∈ d := at_mem (by omega)
        have htake : d.take (i + 1) = d.take i ++ [at' d i] := by
          rw [List.take_add_one, at', List.getD_eq_getElem?_getD, List.getElem?_eq_getElem (show i < d.length by omega)]
          rfl
        refine stp ?_
        rw [hai]
        refine O.call' (order_ok ((hd _ hmem).keep hf fun _ _ => id) ((hd e he).keep hf fun _ _ => id)) (fun r h3 hr => ?_)
        obtain ⟨rfl, hf3⟩ := hr
        have hF3 := hf.trans' hf3
        haveI : HGet h3 q _ := hF3.keep ⟨hgq⟩ hq id
        refine stp ?_
        refine C.if (fun hlo => ?_) (fun hlo => ?_)
        · have hk := (ord_lt _ _).1 hlo
          refine stp ?_
          rw [hai]
          refine loop2a 5 6 (n - (i + 1)) (by omega) ⟨i + 1, at' d i, by omega, by omega, rfl, rfl, rfl, hmem, fun x hx => ?_, hF3⟩
          rw [htake] at hx
          rcases List.mem_append.1 hx with hx | hx
          · have := hmin x hx
            intro hxa
            refine this ?_
            unfold KeyLt at *
            omega
          · simp only [List.mem_singleton] at hx
            subst hx
            unfold KeyLt
            omega
        · have hk := fun e1 => hlo ((ord_lt _ _).2 e1)
          refine stp ?_
          refine loop2a 5 6 (n - (i + 1)) (by omega) ⟨i + 1, e, by omega, by omega, rfl, rfl, rfl, he, fun x hx => ?_, hF3⟩
          rw [htake] at hx
          rcases List.mem_append.1 hx with hx | hx
          · exact hmin x hx
          · simp only [List.mem_singleton] at hx
            subst hx
            exact hk
      · refine stp ?_
        obtain rfl : i = n := by omega
        rw [List.take_of_length_le (by omega)] at hmin
        exact ⟨e, he, rfl, hmin, hf⟩
    · intro x hx
      have h1 : d.take 1 = [at' d 0] := by
        cases d with
        | nil => simp at h0
        | cons a d => rfl
      rw [h1, List.mem_singleton] at hx
      subst hx
      unfold KeyLt
      omega
end Go.Proofs.Ytmhnddkpiefkhaa.A

namespace Go.Proofs.Ytmhnddkpiefkhaa.A
open Go Go.Vm
set_option maxRecDepth 10000
set_option linter.unusedVariables false
theorem CloneT_ok {h : Heap} {v : Value} {l : List Vote} (hr : Rd h 2 v (tcells l) l.length) (hs : l.length < 1048576) :
    Runs Try.prog T0 (.fn fn_zcbQ) [v] h
      (fun r h' => Own h' 2 r (tcells l) l.length ∧ Fr (fun _ => False) h h' ∧ ∀ i, ownedBy r i → h.n ≤ i) (fun _ _ => False) := by
  have hr0 := hr
  obtain ⟨a, cap, rfl, hlen, hc⟩ := hr
  refine zcbQ_runs ?_
  cases a with
  | none =>
    have hl : l = [] := by
      cases l with
      | nil => rfl
      | cons b l => obtain ⟨_, _, _, h1, _⟩ := hc (by simp); cases h1
    subst hl
    refine stp ?_
    exact ⟨.none, Fr.refl, fun i hi => hi.elim⟩
  | some a =>
    refine stp ?_
    refine appendLitC hr0 hs (by omega) (fun v' h' h1 h2 h3 => ?_)
    refine stp ?_
    exact ⟨h1, h2, h3⟩
end Go.Proofs.Ytmhnddkpiefkhaa.A

namespace Go.Proofs.Ytmhnddkpiefkhaa.A
open Go Go.Vm
set_option maxRecDepth 10000
set_option linter.unusedVariables false
set_option maxHeartbeats 4000000 in
theorem sown_ok {h : Heap} {x : Bk} {sv sl : Value} (hb : BkRd h x sv sl) (h1 : x.c.votes.length < 1048576) (h2 : x.vals.length < 1048576) :
    Runs Try.prog T0 (.fn fn_zacQ) [.agg ⟨x.cells sv sl⟩] h
      (fun r h' => ∃ sw sm, r = .agg ⟨x.cells sw sm⟩ ∧ Own h' 2 sw (tcells x.c.votes) x.c.votes.length ∧ Own h' 5 sm (vcells x.vals) x.vals.length ∧ (∀ i, ownedBy sw i → h.n ≤ i) ∧ (∀ i, ownedBy sm i → h.n ≤ i) ∧ (∀ i, ownedBy sm i → ¬ ownedBy sw i) ∧ Fr (fun _ => False) h h') (fun _ _ => False) := by
  have hx := hb.hd
  have hch := hb.hash
  haveI := l32 hx.prev
  haveI := l32 hx.vals
  haveI := l32 hx.next
  haveI := l32 hx.app
  haveI := l32 hch
  obtain ⟨a1, c1, rfl, _, _⟩ := id hb.sv
  obtain ⟨a2, c2, rfl, _, _⟩ := id hb.sl
  refine zacQ_runs ?_
  refine stp ?_
  have gA : HGet ((h.push (.cells (x.cells (.slice a1 x.c.votes.length c1) (.slice a2 x.vals.length c2)) 0)).push (.cells zBc 0)) h.n (.cells (x.cells (.slice a1 x.c.votes.length c1) (.slice a2 x.vals.length c2)) 0) := HGet.push (k := BLt.new) (g := HGet.new)
  have gB : HGet ((h.push (.cells (x.cells (.slice a1 x.c.votes.length c1) (.slice a2 x.vals.length c2)) 0)).push (.cells zBc 0)) (h.push (.cells (x.cells (.slice a1 x.c.votes.length c1) (.slice a2 x.vals.length c2)) 0)).n (.cells zBc 0) := HGet.new
  have f0 : Fr (fun _ => False) h ((h.push (.cells (x.cells (.slice a1 x.c.votes.length c1) (.slice a2 x.vals.length c2)) 0)).push (.cells zBc 0)) := Fr.refl.push.push
  have n0 : ((h.push (.cells (x.cells (.slice a1 x.c.votes.length c1) (.slice a2 x.vals.length c2)) 0)).push (.cells zBc 0)).n = h.n + 2 := rfl
  have nb : (h.push (.cells (x.cells (.slice a1 x.c.votes.length c1) (.slice a2 x.vals.length c2)) 0)).n = h.n + 1 := rfl
  generalize (h.push (.cells (x.cells (.slice a1 x.c.votes.length c1) (.slice a2 x.vals.length c2)) 0)).push (.cells zBc 0) = h0 at *
  generalize (h.push (.cells (x.cells (.slice a1 x.c.votes.length c1) (.slice a2 x.vals.length c2)) 0)).n = pb at *
  haveI := gA
  haveI : BLt h.n h0 := ⟨by omega⟩
  refine stp ?_
  refine D.callX (CloneV_ok (hb.keep f0 fun _ _ => id).sl h2) (fun r h3 hr => ?_) (fun r h3 hr => ?_) (fun _ _ hx => hx.elim)
  · obtain ⟨_, hf, _⟩ := hr
    haveI := hf.keep gA (by omega) id
    haveI : BLt h.n h3 := ⟨by have := hf.n; omega⟩
    exact StabL.ok
  obtain ⟨ho, hf3, hnew⟩ := hr
  have gA3 := hf3.keep gA (by omega) id
  have gB3 := hf3.keep gB (by omega) id
  have n3 := hf3.n
  have F3 := f0.trans' hf3
  haveI := gA3
  haveI : BLt h.n h3 := ⟨by omega⟩
  refine stp ?_
  refine D.callX (CloneT_ok (hb.keep F3 fun _ _ => id).sv h1) (fun r h4 hr => ?_) (fun r h4 hr => ?_) (fun _ _ hx => hx.elim)
  · obtain ⟨_, hf, _⟩ := hr
    haveI := hf.keep gA3 (by omega) id
    haveI : BLt h.n h4 := ⟨by have := hf.n; omega⟩
    exact StabL.ok
  obtain ⟨hov, hf4, hnv⟩ := hr
  have gA4 := hf4.keep gA3 (by omega) id
  have gB4 := hf4.keep gB3 (by omega) id
  have n4 := hf4.n
  have F4 := F3.trans' hf4
  have ho4 := ho.keep hf4 fun _ _ => id
  obtain ⟨a3, c3, rfl, _, _⟩ := id ho.rd
  obtain ⟨a4, c4, rfl, _, _⟩ := id hov.rd
  haveI := gA4
  haveI := gB4
  haveI : BLt h.n h4 := ⟨by omega⟩
  haveI : BLt pb h4 := ⟨by omega⟩
  haveI : BNe pb h.n := ⟨by omega⟩
  haveI : BNe h.n pb := ⟨by omega⟩
  refine stp ?_
  have f6 : ∀ {o1 o2 : AObj}, Fr (fun i => i = h.n ∨ i = pb) h4 ((h4.set h.n o1).set pb o2) := fun {o1 o2} => (Fr.refl.set fun _ => .inl rfl).set fun _ => .inr rfl
  refine ⟨_, _, rfl, hov.keep f6 fun b hb e => by have := hnv b hb; omega, ho4.keep f6 fun b hb e => by have := hnew b hb; omega, fun i hi => by have := hnv i hi; omega, fun i hi => by have := hnew i hi; omega, fun i hi e => by have := ho.lt hi; have := hnv i e; omega, F4.trans f6 fun i hi e => by omega⟩
theorem snone_ok {h : Heap} {p m c : Nat} {room : Int} {l : List SE} (hs : StAt h p m c room l) : Runs Try.prog T0 (.fn fn_zrbQ) [.pointer (some ⟨p, 0, none⟩)] h (fun r h' => r = .bool false ∧ h' = h) (fun _ _ => False) := by
  haveI : HGet h p _ := ⟨hs.gp⟩
  refine zrbQ_runs ?_
  refine stp ?_
  exact ⟨rfl, rfl⟩
theorem SNew_ok {h : Heap} {room : Int} : Runs Try.prog T0 (.fn fn_zfbQ) [.int .i64 room] h
    (fun r h' => Fr (fun _ => False) h h' ∧ ((room < 1 ∨ 4096 < room) ∧ r = .tuple ⟨[.pointer none, .int .i64 3]⟩ ∨ (1 ≤ room ∧ room ≤ 4096) ∧ r = .tuple ⟨[.pointer (some ⟨h.n + 1, 0, none⟩), .int .i64 0]⟩ ∧ StAt h' (h.n + 1) h.n 0 room [])) (fun _ _ => False) := by
  refine zfbQ_runs ?_
  refine stp ?_
  refine O.dec (fun h1 => ?_) (fun h1 => ?_)
  · refine stp ?_
    exact ⟨Fr.refl, .inl ⟨.inl h1, rfl⟩⟩
  · refine stp ?_
    refine C.if (fun h2 => ?_) (fun h2 => ?_)
    · refine stp ?_
      exact ⟨Fr.refl, .inl ⟨.inr h2, rfl⟩⟩
    · refine stp ?_
      refine ⟨Fr.refl.push.push, .inr ⟨⟨by omega, by omega⟩, rfl, ⟨by simp, by simp; omega, by omega, HGet.new.eq, ?_, EntsOK.nil, by simp, by simp, List.nodup_nil, by simp⟩⟩⟩
      rw [Heap.get_push, if_neg (by simp), Heap.get_push, if_pos rfl]
      rfl
end Go.Proofs.Ytmhnddkpiefkhaa.A
