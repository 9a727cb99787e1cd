/- Functions of the program, as the machine has them: written by a program of mine (GenVm.lean), each held against the given program by the kernel. -/
import Derived.Test.YtfpnmcogfamhaaaGreatRows
import Derived.Test.YtfpnmcogfamhaaaGreatVJ
set_option maxRecDepth 100000
set_option linter.unusedVariables false
namespace Go.Proofs.YtfpnmcogfamhaaaGreat.A
open Go Go.Vm
abbrev U : Value := undef
abbrev tm (n : Nat) : Operand := .tmp n
abbrev k0 : Operand := .const (.int .i64 0)
abbrev o1 (d : Nat) (x : AOp) : AOper := ⟨some d, x, none, [], false⟩
abbrev o2 (d : Nat) (x : AOp) : AOper := ⟨some d, x, none, [], true⟩
abbrev o3 (x : AOp) : AOper := ⟨none, x, none, [], false⟩
abbrev o4 (d : Nat) (x : AOp) (t : Nat) : AOper := ⟨some d, x, some (t, true), [], false⟩
abbrev o5 (d : Nat) (x : AOp) (t : Nat) : AOper := ⟨some d, x, some (t, false), [], false⟩
abbrev ty_internal_abi_BoundsErrorCode : TypeId := 6
abbrev ty_runtime_boundsError : TypeId := 8
abbrev ty_runtime_errorString : TypeId := 10
abbrev ty_runtime_plainError : TypeId := 11
abbrev ty_runtime_errorAddressString : TypeId := 14
abbrev ty_internal_runtime_maps_unhashableTypeError : TypeId := 19
abbrev ty_api_Ask : TypeId := 26
abbrev ty_api_Hash : TypeId := 28
abbrev ty_api_Header : TypeId := 30
abbrev ty_api_Commit : TypeId := 33
abbrev ty_api_Block : TypeId := 36
abbrev ty_api_Answer : TypeId := 38
abbrev ty_api_Msg : TypeId := 40
abbrev ty_api_Errno : TypeId := 41
abbrev ty_api_Fault : TypeId := 43
abbrev ty_msg_wrong : TypeId := 58
abbrev ty_msg_reader : TypeId := 64
abbrev ty_lr04_Reader : TypeId := 72
abbrev ty_wire_Reader : TypeId := 99
abbrev ty_api_Key : TypeId := 108
abbrev ty_api_Validator : TypeId := 110
abbrev ty_api_Vote : TypeId := 112
abbrev ty_iter_Seq_api_Errno_ : TypeId := 119
abbrev ty_wire_wrong : TypeId := 150
abbrev ty_wire_Writer : TypeId := 155
abbrev ty_header_rule : TypeId := 173
abbrev ty_vals_look : TypeId := 183
abbrev ty_msg_told : TypeId := 188
abbrev ty_msg_ask : TypeId := 202
abbrev ty_msg_answer : TypeId := 203
abbrev ty_blake_words : TypeId := 206
abbrev ty_blake_counter : TypeId := 210
abbrev ty_blake_State : TypeId := 212
abbrev ty_blake_four : TypeId := 225
abbrev ty_runtime_TypeAssertionError : TypeId := 231
abbrev ty_runtime_PanicNilError : TypeId := 234
abbrev ty_internal_abi_TFlag : TypeId := 235
abbrev ty_internal_abi_Kind : TypeId := 236
abbrev ty_internal_abi_NameOff : TypeId := 239
abbrev ty_internal_abi_TypeOff : TypeId := 240
abbrev ty_internal_abi_Type : TypeId := 242
instance : IsIface Tryz.prog 20 := ⟨by kernel_rfl⟩
instance : IsIface Tryz.prog 187 := ⟨by kernel_rfl⟩
instance : IsIface Tryz.prog 188 := ⟨by kernel_rfl⟩
/-- functions that are known to come to true -/
abbrev prims : List FuncId := [6]
abbrev kepts : List FuncId := [12]
noncomputable def T0 : Table := withKept (withTrue Tryz.prog prims) kepts
abbrev fn_ll14_awake : FuncId := 6
theorem ll14_awake_known {h : Heap} : Runs Tryz.prog T0 (.fn 6) [] h (fun r h' => r = .bool true ∧ h' = h) (fun _ _ => False) := known_runs rfl
instance : IsBoolT Tryz.prog 4 := ⟨by kernel_rfl⟩
instance : TLeaves Tryz.prog 7 (.i .i64 :: (.i .i64 :: (.b :: (.i .u8 :: [])))) := ⟨by kernel_rfl, by kernel_rfl, by kernel_rfl⟩
instance : TLeaves Tryz.prog 8 (.i .i64 :: (.i .i64 :: (.b :: (.i .u8 :: [])))) := ⟨by kernel_rfl, by kernel_rfl, by kernel_rfl⟩
instance : TLeaves Tryz.prog 25 (.i .i64 :: (.i .i64 :: [])) := ⟨by kernel_rfl, by kernel_rfl, by kernel_rfl⟩
instance : TLeaves Tryz.prog 26 (.i .i64 :: (.i .i64 :: [])) := ⟨by kernel_rfl, by kernel_rfl, by kernel_rfl⟩
instance : TLeaves Tryz.prog 27 (u8s 32) := ⟨by kernel_rfl, by kernel_rfl, by kernel_rfl⟩
instance : TLeaves Tryz.prog 28 (u8s 32) := ⟨by kernel_rfl, by kernel_rfl, by kernel_rfl⟩
instance : TLeaves Tryz.prog 29 (.s :: (.i .i64 :: (.i .i64 :: (u8s 32 ++ (u8s 32 ++ (u8s 32 ++ (u8s 32))))))) := ⟨by kernel_rfl, by kernel_rfl, by kernel_rfl⟩
instance : TLeaves Tryz.prog 30 (.s :: (.i .i64 :: (.i .i64 :: (u8s 32 ++ (u8s 32 ++ (u8s 32 ++ (u8s 32))))))) := ⟨by kernel_rfl, by kernel_rfl, by kernel_rfl⟩
instance : TLeaves Tryz.prog 42 (.i .i64 :: (.i .i64 :: [])) := ⟨by kernel_rfl, by kernel_rfl, by kernel_rfl⟩
instance : TLeaves Tryz.prog 43 (.i .i64 :: (.i .i64 :: [])) := ⟨by kernel_rfl, by kernel_rfl, by kernel_rfl⟩
instance : TLeaves Tryz.prog 57 (.i .i64 :: (.i .i64 :: [])) := ⟨by kernel_rfl, by kernel_rfl, by kernel_rfl⟩
instance : TLeaves Tryz.prog 58 (.i .i64 :: (.i .i64 :: [])) := ⟨by kernel_rfl, by kernel_rfl, by kernel_rfl⟩
instance : TLeaves Tryz.prog 107 (u8s 4) := ⟨by kernel_rfl, by kernel_rfl, by kernel_rfl⟩
instance : TLeaves Tryz.prog 108 (u8s 4) := ⟨by kernel_rfl, by kernel_rfl, by kernel_rfl⟩
instance : TLeaves Tryz.prog 109 (u8s 4 ++ (.i .i64 :: [])) := ⟨by kernel_rfl, by kernel_rfl, by kernel_rfl⟩
instance : TLeaves Tryz.prog 110 (u8s 4 ++ (.i .i64 :: [])) := ⟨by kernel_rfl, by kernel_rfl, by kernel_rfl⟩
instance : TLeaves Tryz.prog 111 (.i .i64 :: (.i .u64 :: [])) := ⟨by kernel_rfl, by kernel_rfl, by kernel_rfl⟩
instance : TLeaves Tryz.prog 112 (.i .i64 :: (.i .u64 :: [])) := ⟨by kernel_rfl, by kernel_rfl, by kernel_rfl⟩
instance : TLeaves Tryz.prog 149 (.i .i64 :: (.i .i64 :: [])) := ⟨by kernel_rfl, by kernel_rfl, by kernel_rfl⟩
instance : TLeaves Tryz.prog 150 (.i .i64 :: (.i .i64 :: [])) := ⟨by kernel_rfl, by kernel_rfl, by kernel_rfl⟩
instance : TLeaves Tryz.prog 182 (u8s 4 ++ (.b :: (.i .i64 :: (.i .i64 :: [])))) := ⟨by kernel_rfl, by kernel_rfl, by kernel_rfl⟩
instance : TLeaves Tryz.prog 183 (u8s 4 ++ (.b :: (.i .i64 :: (.i .i64 :: [])))) := ⟨by kernel_rfl, by kernel_rfl, by kernel_rfl⟩
instance : TLeaves Tryz.prog 195 (u8s 4 ++ (u8s 4)) := ⟨by kernel_rfl, by kernel_rfl, by kernel_rfl⟩
instance : TLeaves Tryz.prog 199 (u8s 4 ++ (u8s 4 ++ (.i .u8 :: []))) := ⟨by kernel_rfl, by kernel_rfl, by kernel_rfl⟩
instance : TLeaves Tryz.prog 202 (.i .i64 :: (.i .i64 :: [])) := ⟨by kernel_rfl, by kernel_rfl, by kernel_rfl⟩
instance : TLeaves Tryz.prog 205 (.i .u32 :: (.i .u32 :: (.i .u32 :: (.i .u32 :: (.i .u32 :: (.i .u32 :: (.i .u32 :: (.i .u32 :: [])))))))) := ⟨by kernel_rfl, by kernel_rfl, by kernel_rfl⟩
instance : TLeaves Tryz.prog 206 (.i .u32 :: (.i .u32 :: (.i .u32 :: (.i .u32 :: (.i .u32 :: (.i .u32 :: (.i .u32 :: (.i .u32 :: [])))))))) := ⟨by kernel_rfl, by kernel_rfl, by kernel_rfl⟩
instance : TLeaves Tryz.prog 209 (.i .i64 :: []) := ⟨by kernel_rfl, by kernel_rfl, by kernel_rfl⟩
instance : TLeaves Tryz.prog 210 (.i .i64 :: []) := ⟨by kernel_rfl, by kernel_rfl, by kernel_rfl⟩
instance : TLeaves Tryz.prog 219 (.i .u32 :: (.i .u32 :: (.i .u32 :: (.i .u32 :: (.i .u32 :: (.i .u32 :: (.i .u32 :: (.i .u32 :: (.i .u32 :: (.i .u32 :: (.i .u32 :: (.i .u32 :: (.i .u32 :: (.i .u32 :: (.i .u32 :: (.i .u32 :: [])))))))))))))))) := ⟨by kernel_rfl, by kernel_rfl, by kernel_rfl⟩
abbrev fn_ll14_MsgDecodes : FuncId := 3
noncomputable def ll14_MsgDecodes_c : ACode :=
 (.seq (.region [
 o1 2 (.mov (.const (.bool false)))]) (.seq (.seq (.region [
 o1 9 (.mov (tm 0)),
 o1 10 (.lenSl (tm 9)),
 o1 11 (.bin .gtr (so (.binOp .gtr 3 (tm 10) (.const (.int .i64 4000)) 3) 4) (tm 10) (.const (.int .i64 4000)))]) (.cond (tm 11)
 (.seq (.region [
 o1 12 (.callV (.func 6) []),
 o1 2 (.mov (tm 12))]) .ret)
 .skip)) (.seq (.region [
 o1 13 (.mov (tm 0)),
 o1 14 (.callV (.func 7) [(tm 13)]),
 o1 3 (.mov (tm 14))]) (.seq (.region [
 o1 16 (.mov (tm 3)),
 o1 17 (.callV (.func 8) [(tm 16)]),
 o1 15 (.mov (tm 17)),
 o1 18 (.extract 0 (tm 15)),
 o1 19 (.extract 1 (tm 15)),
 o1 4 (.alloc 40 ((.int .i64 0) :: ((.int .i64 0) :: ((.int .i64 0) :: ((.int .i64 0) :: ((.string ⟨⟨[]⟩⟩) :: ((.int .i64 0) :: ((.int .i64 0) :: (z32 ++ (z32 ++ (z32 ++ (z32 ++ ((.int .i64 0) :: (z32 ++ [(.slice none 0 0), (.slice none 0 0)])))))))))))))),
 o1 5 (.alloc 43 [(.int .i64 0), (.int .i64 0)]),
 o3 (.store 170 (tm 4) (tm 18)),
 o3 (.store 2 (tm 5) (tm 19))]) (.seq (.region [
 o1 21 (.mov (tm 0)),
 o1 22 (.callV (.func 9) [(tm 21)]),
 o1 20 (.mov (tm 22)),
 o1 23 (.extract 0 (tm 20)),
 o1 24 (.extract 1 (tm 20)),
 o1 6 (.alloc 40 ((.int .i64 0) :: ((.int .i64 0) :: ((.int .i64 0) :: ((.int .i64 0) :: ((.string ⟨⟨[]⟩⟩) :: ((.int .i64 0) :: ((.int .i64 0) :: (z32 ++ (z32 ++ (z32 ++ (z32 ++ ((.int .i64 0) :: (z32 ++ [(.slice none 0 0), (.slice none 0 0)])))))))))))))),
 o1 7 (.alloc 43 [(.int .i64 0), (.int .i64 0)]),
 o3 (.store 170 (tm 6) (tm 23)),
 o3 (.store 2 (tm 7) (tm 24))]) (.seq (.region [
 o1 25 (.load (some 170) (tm 4)),
 o1 26 (.load (some 170) (tm 6)),
 o1 27 (.callV (.func 10) [(tm 25), (tm 26)]),
 o1 28 (.mov (tm 27)),
 o4 29 (.load (some 2) (tm 5)) 28,
 o4 30 (.load (some 2) (tm 7)) 28,
 o4 31 (.bin .eql (so (.binOp .eql 43 (tm 29) (tm 30) 43) 4) (tm 29) (tm 30)) 28,
 o1 32 (.pick (tm 28) (tm 31) (.const (.bool false))),
 o1 8 (.mov (tm 32))]) (.seq (.region [
 o1 33 (.fieldAddr 3 (tm 4)),
 o1 34 (.fieldAddr 1 (tm 33)),
 o1 35 (.load (some 166) (tm 34)),
 o1 36 (.callV (.func 11) [(tm 35)])]) (.seq (.region [
 o1 37 (.mov (tm 8)),
 o1 38 (.mov (tm 37)),
 o4 39 (.mov (tm 3)) 38,
 o4 40 (.mov (tm 0)) 38,
 o4 41 (.callV (.func 12) [(tm 39), (tm 40)]) 38,
 o1 42 (.pick (tm 38) (tm 41) (.const (.bool false))),
 o1 43 (.mov (tm 42)),
 o4 44 (.callV (.func 6) []) 43,
 o1 45 (.pick (tm 43) (tm 44) (.const (.bool false))),
 o1 2 (.mov (tm 45))]) .ret))))))))
noncomputable def ll14_MsgDecodes : AFunc := ⟨46, [(2, none)], ll14_MsgDecodes_c, none⟩
theorem ll14_MsgDecodes_t : T0 3 = some ll14_MsgDecodes := withKept_t rfl (withTrue_t rfl (by kernel_rfl : tableOf Tryz.prog 3 = some ll14_MsgDecodes))
theorem ll14_MsgDecodes_runs {v0 : Value} {h : Heap} {R : RP} {X : XP} (k : RunC Tryz.prog T0 ll14_MsgDecodes_c ⟨[v0, U, U, U, U, U, U, U, U, U, U, U, U, U, U, U, U, U, U, U, U, U, U, U, U, U, U, U, U, U, U, U, U, U, U, U, U, U, U, U, U, U, U, U, U, U], [], h, none⟩ (bodyQ Tryz.prog T0 [(2, none)] R X)) :
 Runs Tryz.prog T0 (.fn 3) [v0] h R X := Runs.fn ll14_MsgDecodes_t rfl k
abbrev fn_ll14_MsgLong : FuncId := 4
noncomputable def ll14_MsgLong_c : ACode :=
 (.seq (.region [
 o1 2 (.mov (.const (.bool false)))]) (.seq (.region [
 o1 8 (.buildSlice 5 [(.int .u8 0), (.int .u8 0)] 2 [(0, 1, (.const (.int .u8 1))), (1, 1, (.const (.int .u8 1)))]),
 o1 9 (.mov (tm 0)),
 o1 10 (.callV (.func 13) [(tm 9), (.const (.int .i64 11))]),
 o1 11 (.bin .add (so (.binOp .add 3 (.const (.int .i64 65528)) (tm 10) 3) 3) (.const (.int .i64 65528)) (tm 10)),
 o1 12 (.append 5 1 1 [(.int .u8 0)] true (tm 8) (tm 11)),
 o1 3 (.mov (tm 12))]) (.seq (.region [
 o1 14 (.mov (tm 3)),
 o1 15 (.callV (.func 8) [(tm 14)]),
 o1 13 (.mov (tm 15)),
 o1 16 (.extract 0 (tm 13)),
 o1 17 (.extract 1 (tm 13)),
 o1 4 (.alloc 40 ((.int .i64 0) :: ((.int .i64 0) :: ((.int .i64 0) :: ((.int .i64 0) :: ((.string ⟨⟨[]⟩⟩) :: ((.int .i64 0) :: ((.int .i64 0) :: (z32 ++ (z32 ++ (z32 ++ (z32 ++ ((.int .i64 0) :: (z32 ++ [(.slice none 0 0), (.slice none 0 0)])))))))))))))),
 o1 5 (.alloc 43 [(.int .i64 0), (.int .i64 0)]),
 o3 (.store 170 (tm 4) (tm 16)),
 o3 (.store 2 (tm 5) (tm 17))]) (.seq (.region [
 o1 19 (.mov (tm 3)),
 o1 20 (.callV (.func 9) [(tm 19)]),
 o1 18 (.mov (tm 20)),
 o1 21 (.extract 0 (tm 18)),
 o1 22 (.extract 1 (tm 18)),
 o1 6 (.alloc 40 ((.int .i64 0) :: ((.int .i64 0) :: ((.int .i64 0) :: ((.int .i64 0) :: ((.string ⟨⟨[]⟩⟩) :: ((.int .i64 0) :: ((.int .i64 0) :: (z32 ++ (z32 ++ (z32 ++ (z32 ++ ((.int .i64 0) :: (z32 ++ [(.slice none 0 0), (.slice none 0 0)])))))))))))))),
 o1 7 (.alloc 43 [(.int .i64 0), (.int .i64 0)]),
 o3 (.store 170 (tm 6) (tm 21)),
 o3 (.store 2 (tm 7) (tm 22))]) (.seq (.region [
 o1 23 (.load (some 170) (tm 4)),
 o1 24 (.load (some 170) (tm 6)),
 o1 25 (.callV (.func 10) [(tm 23), (tm 24)]),
 o1 26 (.mov (tm 25)),
 o4 27 (.load (some 2) (tm 5)) 26,
 o4 28 (.load (some 2) (tm 7)) 26,
 o4 29 (.bin .eql (so (.binOp .eql 43 (tm 27) (tm 28) 43) 4) (tm 27) (tm 28)) 26,
 o1 30 (.pick (tm 26) (tm 29) (.const (.bool false))),
 o1 31 (.mov (tm 30)),
 o4 32 (.callV (.func 6) []) 31,
 o1 33 (.pick (tm 31) (tm 32) (.const (.bool false))),
 o1 2 (.mov (tm 33))]) .ret)))))
noncomputable def ll14_MsgLong : AFunc := ⟨34, [(2, none)], ll14_MsgLong_c, none⟩
theorem ll14_MsgLong_t : T0 4 = some ll14_MsgLong := withKept_t rfl (withTrue_t rfl (by kernel_rfl : tableOf Tryz.prog 4 = some ll14_MsgLong))
theorem ll14_MsgLong_runs {v0 : Value} {h : Heap} {R : RP} {X : XP} (k : RunC Tryz.prog T0 ll14_MsgLong_c ⟨[v0, U, U, U, U, U, U, U, U, U, U, U, U, U, U, U, U, U, U, U, U, U, U, U, U, U, U, U, U, U, U, U, U, U], [], h, none⟩ (bodyQ Tryz.prog T0 [(2, none)] R X)) :
 Runs Tryz.prog T0 (.fn 4) [v0] h R X := Runs.fn ll14_MsgLong_t rfl k
abbrev fn_lk_LentBytes : FuncId := 7
noncomputable def lk_LentBytes_c : ACode :=
 (.seq (.region [
 o1 2 (.mov (.const (.slice none 0 0)))]) (.seq (.region [
 o1 4 (.buildSlice 5 [] 0 []),
 o1 5 (.mov (tm 0)),
 o1 6 (.append 5 1 1 [(.int .u8 0)] false (tm 4) (tm 5)),
 o1 7 (.buildSlice 5 [(.int .u8 0), (.int .u8 0), (.int .u8 0), (.int .u8 0)] 4 [(0, 1, (.const (.int .u8 201))), (1, 1, (.const (.int .u8 202))), (2, 1, (.const (.int .u8 203))), (3, 1, (.const (.int .u8 204)))]),
 o1 8 (.append 5 1 1 [(.int .u8 0)] false (tm 6) (tm 7)),
 o1 3 (.mov (tm 8))]) (.seq (.region [
 o1 9 (.mov (tm 3)),
 o1 10 (.mov (tm 0)),
 o1 11 (.lenSl (tm 10)),
 o1 12 (.sliceSl 1 (tm 9) none (some (tm 11)) none),
 o1 2 (.mov (tm 12))]) .ret)))
noncomputable def lk_LentBytes : AFunc := ⟨13, [(2, none)], lk_LentBytes_c, none⟩
theorem lk_LentBytes_t : T0 7 = some lk_LentBytes := withKept_t rfl (withTrue_t rfl (by kernel_rfl : tableOf Tryz.prog 7 = some lk_LentBytes))
theorem lk_LentBytes_runs {v0 : Value} {h : Heap} {R : RP} {X : XP} (k : RunC Tryz.prog T0 lk_LentBytes_c ⟨[v0, U, U, U, U, U, U, U, U, U, U, U, U], [], h, none⟩ (bodyQ Tryz.prog T0 [(2, none)] R X)) :
 Runs Tryz.prog T0 (.fn 7) [v0] h R X := Runs.fn lk_LentBytes_t rfl k
abbrev fn_msg_Decode : FuncId := 8
noncomputable def msg_Decode_c : ACode :=
 (.seq (.region [
 o1 2 (.alloc 40 ((.int .i64 0) :: ((.int .i64 0) :: ((.int .i64 0) :: ((.int .i64 0) :: ((.string ⟨⟨[]⟩⟩) :: ((.int .i64 0) :: ((.int .i64 0) :: (z32 ++ (z32 ++ (z32 ++ (z32 ++ ((.int .i64 0) :: (z32 ++ [(.slice none 0 0), (.slice none 0 0)])))))))))))))),
 o1 3 (.alloc 43 [(.int .i64 0), (.int .i64 0)])]) (.seq (.region [
 o1 10 (.mkFunc (.func 20) [] [(tm 2), (tm 3)]),
 o3 (.defer (tm 10) [])]) (.seq (.region [
 o1 11 (.mov (tm 0)),
 o1 12 (.lenSl (tm 11)),
 o1 13 (.bin .leq (so (.binOp .leq 3 (tm 12) (.const (.int .i64 65536)) 3) 4) (tm 12) (.const (.int .i64 65536))),
 o1 14 (.callV (.func 21) [(tm 13), (.const (.int .i64 4)), (.const (.int .i64 65536))])]) (.seq (.region [
 o1 15 (.mov (tm 0)),
 o1 16 (.callV (.func 22) [(tm 15)]),
 o1 17 (.mov (tm 0)),
 o1 18 (.lenSl (tm 17)),
 o1 19 (.build [(.pointer none), (.int .i64 0)] [(0, 1, (tm 16)), (1, 1, (tm 18))]),
 o1 4 (.alloc 64 [(.pointer none), (.int .i64 0)]),
 o3 (.store 2 (tm 4) (tm 19))]) (.seq (.region [
 o1 20 (.fieldAddr 0 (tm 4)),
 o1 21 (.load none (tm 20)),
 o1 22 (.callV (.func 23) [(tm 21)]),
 o1 23 (.fieldAddr 0 (tm 2)),
 o3 (.store 1 (tm 23) (tm 22))]) (.seq (.region [
 o1 24 (.load (some 2) (tm 4)),
 o1 25 (.callV (.func 24) [(tm 24)])]) (.seq (.region [
 o1 26 (.fieldAddr 0 (tm 2)),
 o1 27 (.load none (tm 26)),
 o1 28 (.bin .eql (so (.binOp .eql 3 (tm 27) (.const (.int .i64 1)) 3) 4) (tm 27) (.const (.int .i64 1))),
 o1 29 (.mov (tm 28)),
 o5 30 (.fieldAddr 0 (tm 2)) 29,
 o5 31 (.load none (tm 30)) 29,
 o5 32 (.bin .eql (so (.binOp .eql 3 (tm 31) (.const (.int .i64 2)) 3) 4) (tm 31) (.const (.int .i64 2))) 29,
 o1 33 (.pick (tm 29) (.const (.bool true)) (tm 32)),
 o1 34 (.callV (.func 21) [(tm 33), (.const (.int .i64 5)), k0])]) (.seq (.region [
 o1 35 (.load (some 2) (tm 4)),
 o1 36 (.callV (.func 25) [(tm 35), (.func 26)]),
 o1 5 (.mov (tm 36))]) (.seq (.seq (.region [
 o1 37 (.fieldAddr 0 (tm 2)),
 o1 38 (.load none (tm 37)),
 o1 39 (.bin .eql (so (.binOp .eql 3 (tm 38) (.const (.int .i64 1)) 3) 4) (tm 38) (.const (.int .i64 1)))]) (.cond (tm 39)
 (.region [
 o1 40 (.mov (tm 5)),
 o1 41 (.load (some 2) (tm 4)),
 o1 42 (.callV (.func 25) [(tm 41), (.func 27)]),
 o1 43 (.build [(.int .i64 0), (.int .i64 0)] [(0, 1, (tm 40)), (1, 1, (tm 42))]),
 o1 44 (.fieldAddr 1 (tm 2)),
 o3 (.store 2 (tm 44) (tm 43))])
 (.seq (.region [
 o1 45 (.load (some 2) (tm 4)),
 o1 46 (.callV (.func 28) [(tm 45)]),
 o1 6 (.mov (tm 46))]) (.seq (.region [
 o1 47 (.fieldAddr 0 (tm 4)),
 o1 48 (.load none (tm 47)),
 o1 49 (.callV (.func 29) [(tm 48), (.const (.int .i64 65536))]),
 o1 7 (.mov (tm 49))]) (.seq (.region [
 o1 50 (.load (some 2) (tm 4)),
 o1 51 (.callV (.func 24) [(tm 50)])]) (.seq (.region [
 o1 53 (.mov (tm 7)),
 o1 54 (.callV (.func 15) [(tm 53)]),
 o1 52 (.mov (tm 54)),
 o1 55 (.extract 0 (tm 52)),
 o1 56 (.extract 1 (tm 52)),
 o1 8 (.alloc 36 ((.string ⟨⟨[]⟩⟩) :: ((.int .i64 0) :: ((.int .i64 0) :: (z32 ++ (z32 ++ (z32 ++ (z32 ++ ((.int .i64 0) :: (z32 ++ [(.slice none 0 0), (.slice none 0 0)])))))))))),
 o1 9 (.alloc 43 [(.int .i64 0), (.int .i64 0)]),
 o3 (.store 166 (tm 8) (tm 55)),
 o3 (.store 2 (tm 9) (tm 56))]) (.seq (.region [
 o1 57 (.load (some 2) (tm 9)),
 o1 58 (.build [(.int .i64 0), (.int .i64 0)] []),
 o1 59 (.bin .eql (so (.binOp .eql 43 (tm 57) (tm 58) 43) 4) (tm 57) (tm 58)),
 o1 60 (.mov (tm 6)),
 o1 61 (.callV (.func 21) [(tm 59), (.const (.int .i64 5)), (tm 60)])]) (.region [
 o1 62 (.mov (tm 5)),
 o1 63 (.load (some 166) (tm 8)),
 o1 64 (.build ((.int .i64 0) :: ((.string ⟨⟨[]⟩⟩) :: ((.int .i64 0) :: ((.int .i64 0) :: (z32 ++ (z32 ++ (z32 ++ (z32 ++ ((.int .i64 0) :: (z32 ++ [(.slice none 0 0), (.slice none 0 0)])))))))))) [(0, 1, (tm 62)), (1, 166, (tm 63))]),
 o1 65 (.fieldAddr 3 (tm 2)),
 o3 (.store 167 (tm 65) (tm 64))])))))))) (.seq (.region [
 o1 66 (.fieldAddr 0 (tm 4)),
 o1 67 (.load none (tm 66)),
 o1 68 (.callV (.func 30) [(tm 67)]),
 o3 (.store 2 (tm 3) (tm 68))]) (.seq (.regionD [
 o1 69 (.load (some 2) (tm 3)),
 o1 70 (.build [(.int .i64 0), (.int .i64 0)] []),
 o1 71 (.bin .eql (so (.binOp .eql 43 (tm 69) (tm 70) 43) 4) (tm 69) (tm 70)),
 o1 72 (.fieldAddr 0 (tm 3)),
 o1 73 (.load none (tm 72)),
 o1 74 (.fieldAddr 1 (tm 3)),
 o1 75 (.load none (tm 74)),
 o2 76 (.callV (.func 21) [(tm 71), (tm 73), (tm 75)])]) (.seq (.regionD [
 o1 77 (.load (some 170) (tm 2)),
 o1 78 (.load (some 2) (tm 3)),
 ⟨none, .store 170 (tm 2) (tm 77), none, [(some 78, .load (some 2) (tm 3), none)], false⟩,
 ⟨none, .store 2 (tm 3) (tm 78), none, [], true⟩]) .ret))))))))))))
noncomputable def msg_Decode : AFunc := ⟨79, [(2, some (some 170)), (3, some (some 2))], msg_Decode_c, none⟩
theorem msg_Decode_t : T0 8 = some msg_Decode := withKept_t rfl (withTrue_t rfl (by kernel_rfl : tableOf Tryz.prog 8 = some msg_Decode))
theorem msg_Decode_runs {v0 : Value} {h : Heap} {R : RP} {X : XP} (k : RunC Tryz.prog T0 msg_Decode_c ⟨[v0, U, U, U, U, U, U, U, U, U, U, U, U, U, U, U, U, U, U, U, U, U, U, U, U, U, U, U, U, U, U, U, U, U, U, U, U, U, U, U, U, U, U, U, U, U, U, U, U, U, U, U, U, U, U, U, U, U, U, U, U, U, U, U, U, U, U, U, U, U, U, U, U, U, U, U, U, U, U], [], h, none⟩ (bodyQ Tryz.prog T0 [(2, some (some 170)), (3, some (some 2))] R X)) :
 Runs Tryz.prog T0 (.fn 8) [v0] h R X := Runs.fn msg_Decode_t rfl k
abbrev fn_lr14_Decode : FuncId := 9
noncomputable def lr14_Decode_c : ACode :=
 (.seq (.region [
 o1 2 (.alloc 40 ((.int .i64 0) :: ((.int .i64 0) :: ((.int .i64 0) :: ((.int .i64 0) :: ((.string ⟨⟨[]⟩⟩) :: ((.int .i64 0) :: ((.int .i64 0) :: (z32 ++ (z32 ++ (z32 ++ (z32 ++ ((.int .i64 0) :: (z32 ++ [(.slice none 0 0), (.slice none 0 0)])))))))))))))),
 o1 3 (.alloc 43 [(.int .i64 0), (.int .i64 0)])]) (.seq (.seq (.region [
 o1 11 (.mov (tm 0)),
 o1 12 (.lenSl (tm 11)),
 o1 13 (.bin .gtr (so (.binOp .gtr 3 (tm 12) (.const (.int .i64 65536)) 3) 4) (tm 12) (.const (.int .i64 65536)))]) (.cond (tm 13)
 (.seq (.region [
 o1 14 (.build ((.int .i64 0) :: ((.int .i64 0) :: ((.int .i64 0) :: ((.int .i64 0) :: ((.string ⟨⟨[]⟩⟩) :: ((.int .i64 0) :: ((.int .i64 0) :: (z32 ++ (z32 ++ (z32 ++ (z32 ++ ((.int .i64 0) :: (z32 ++ [(.slice none 0 0), (.slice none 0 0)]))))))))))))) []),
 o1 15 (.build [(.int .i64 0), (.int .i64 0)] [(0, 1, (.const (.int .i64 4))), (1, 1, (.const (.int .i64 65536)))]),
 o3 (.store 170 (tm 2) (tm 14)),
 o3 (.store 2 (tm 3) (tm 15))]) .ret)
 .skip)) (.seq (.region [
 o1 16 (.mov (tm 0)),
 o1 17 (.callV (.func 31) [(tm 16)]),
 o1 4 (.mov (tm 17))]) (.seq (.region [
 o1 18 (.mov (tm 4)),
 o1 19 (.callV (.func 32) [(tm 18)]),
 o1 20 (.build ((.int .i64 0) :: ((.int .i64 0) :: ((.int .i64 0) :: ((.int .i64 0) :: ((.string ⟨⟨[]⟩⟩) :: ((.int .i64 0) :: ((.int .i64 0) :: (z32 ++ (z32 ++ (z32 ++ (z32 ++ ((.int .i64 0) :: (z32 ++ [(.slice none 0 0), (.slice none 0 0)]))))))))))))) [(0, 1, (tm 19))]),
 o1 5 (.alloc 40 ((.int .i64 0) :: ((.int .i64 0) :: ((.int .i64 0) :: ((.int .i64 0) :: ((.string ⟨⟨[]⟩⟩) :: ((.int .i64 0) :: ((.int .i64 0) :: (z32 ++ (z32 ++ (z32 ++ (z32 ++ ((.int .i64 0) :: (z32 ++ [(.slice none 0 0), (.slice none 0 0)])))))))))))))),
 o3 (.store 170 (tm 5) (tm 20))]) (.seq (.seq (.region [
 o1 21 (.mov (tm 4)),
 o1 22 (.nilCheck (tm 21)),
 o1 23 (.fieldAddr 2 (tm 22)),
 o1 24 (.fieldAddr 0 (tm 23)),
 o1 25 (.load none (tm 24)),
 o1 26 (.bin .eql (so (.binOp .eql 41 (tm 25) k0 41) 4) (tm 25) k0),
 o1 27 (.mov (tm 26)),
 o4 28 (.fieldAddr 0 (tm 5)) 27,
 o4 29 (.load none (tm 28)) 27,
 o4 30 (.bin .neq (so (.binOp .neq 3 (tm 29) (.const (.int .i64 1)) 3) 4) (tm 29) (.const (.int .i64 1))) 27,
 o1 31 (.pick (tm 27) (tm 30) (.const (.bool false))),
 o1 32 (.mov (tm 31)),
 o4 33 (.fieldAddr 0 (tm 5)) 32,
 o4 34 (.load none (tm 33)) 32,
 o4 35 (.bin .neq (so (.binOp .neq 3 (tm 34) (.const (.int .i64 2)) 3) 4) (tm 34) (.const (.int .i64 2))) 32,
 o1 36 (.pick (tm 32) (tm 35) (.const (.bool false)))]) (.cond (tm 36)
 (.region [
 o1 37 (.mov (tm 4)),
 o1 38 (.callV (.func 33) [(tm 37), (.const (.int .i64 5)), k0])])
 .skip)) (.seq (.region [
 o1 39 (.mov (tm 4)),
 o1 40 (.nilCheck (tm 39)),
 o1 41 (.fieldAddr 1 (tm 40)),
 o1 42 (.load none (tm 41)),
 o1 6 (.mov (tm 42))]) (.seq (.region [
 o1 43 (.mov (tm 4)),
 o1 44 (.callV (.func 32) [(tm 43)]),
 o1 7 (.mov (tm 44))]) (.seq (.seq (.region [
 o1 45 (.mov (tm 4)),
 o1 46 (.nilCheck (tm 45)),
 o1 47 (.fieldAddr 2 (tm 46)),
 o1 48 (.fieldAddr 0 (tm 47)),
 o1 49 (.load none (tm 48)),
 o1 50 (.bin .eql (so (.binOp .eql 41 (tm 49) k0 41) 4) (tm 49) k0),
 o1 51 (.mov (tm 50)),
 o4 52 (.mov (tm 7)) 51,
 o4 53 (.callV (.func 34) [(tm 52)]) 51,
 o4 54 (.raw (so (.unOp .not 4 (tm 53)) 4)) 51,
 o1 55 (.pick (tm 51) (tm 54) (.const (.bool false)))]) (.cond (tm 55)
 (.region [
 o1 56 (.mov (tm 4)),
 o1 57 (.mov (tm 6)),
 o1 58 (.callV (.func 33) [(tm 56), (.const (.int .i64 3)), (tm 57)])])
 .skip)) (.seq (.region [
 o1 59 (.mov (tm 4)),
 o1 60 (.nilCheck (tm 59)),
 o1 61 (.fieldAddr 1 (tm 60)),
 o1 62 (.load none (tm 61)),
 o1 6 (.mov (tm 62))]) (.seq (.seq (.region [
 o1 63 (.fieldAddr 0 (tm 5)),
 o1 64 (.load none (tm 63)),
 o1 65 (.bin .eql (so (.binOp .eql 3 (tm 64) (.const (.int .i64 1)) 3) 4) (tm 64) (.const (.int .i64 1)))]) (.cond (tm 65)
 (.seq (.region [
 o1 66 (.mov (tm 7)),
 o1 67 (.mov (tm 4)),
 o1 68 (.callV (.func 32) [(tm 67)]),
 o1 69 (.build [(.int .i64 0), (.int .i64 0)] [(0, 1, (tm 66)), (1, 1, (tm 68))]),
 o1 70 (.fieldAddr 1 (tm 5)),
 o3 (.store 2 (tm 70) (tm 69))]) (.seq (.region [
 o1 71 (.mov (tm 4)),
 o1 72 (.nilCheck (tm 71)),
 o1 73 (.fieldAddr 2 (tm 72)),
 o1 74 (.fieldAddr 0 (tm 73)),
 o1 75 (.load none (tm 74)),
 o1 76 (.bin .eql (so (.binOp .eql 41 (tm 75) k0 41) 4) (tm 75) k0),
 o1 77 (.mov (tm 76)),
 o4 78 (.fieldAddr 1 (tm 5)) 77,
 o4 79 (.fieldAddr 1 (tm 78)) 77,
 o4 80 (.load none (tm 79)) 77,
 o4 81 (.callV (.func 35) [(tm 80)]) 77,
 o4 82 (.raw (so (.unOp .not 4 (tm 81)) 4)) 77,
 o1 83 (.pick (tm 77) (tm 82) (.const (.bool false)))]) (.cond (tm 83)
 (.region [
 o1 84 (.mov (tm 4)),
 o1 85 (.mov (tm 6)),
 o1 86 (.callV (.func 33) [(tm 84), (.const (.int .i64 3)), (tm 85)])])
 .skip)))
 .skip)) (.seq (.seq (.region [
 o1 87 (.fieldAddr 0 (tm 5)),
 o1 88 (.load none (tm 87)),
 o1 89 (.bin .eql (so (.binOp .eql 3 (tm 88) (.const (.int .i64 2)) 3) 4) (tm 88) (.const (.int .i64 2)))]) (.cond (tm 89)
 (.seq (.region [
 o1 91 (.mov (tm 4)),
 o1 92 (.callV (.func 36) [(tm 91), (.const (.int .i64 65536))]),
 o1 93 (.callV (.func 16) [(tm 92)]),
 o1 90 (.mov (tm 93)),
 o1 94 (.extract 0 (tm 90)),
 o1 95 (.extract 1 (tm 90)),
 o1 8 (.alloc 36 ((.string ⟨⟨[]⟩⟩) :: ((.int .i64 0) :: ((.int .i64 0) :: (z32 ++ (z32 ++ (z32 ++ (z32 ++ ((.int .i64 0) :: (z32 ++ [(.slice none 0 0), (.slice none 0 0)])))))))))),
 o1 9 (.alloc 43 [(.int .i64 0), (.int .i64 0)]),
 o3 (.store 166 (tm 8) (tm 94)),
 o3 (.store 2 (tm 9) (tm 95))]) (.seq (.seq (.region [
 o1 96 (.mov (tm 4)),
 o1 97 (.nilCheck (tm 96)),
 o1 98 (.fieldAddr 2 (tm 97)),
 o1 99 (.fieldAddr 0 (tm 98)),
 o1 100 (.load none (tm 99)),
 o1 101 (.bin .eql (so (.binOp .eql 41 (tm 100) k0 41) 4) (tm 100) k0),
 o1 102 (.mov (tm 101)),
 o4 103 (.fieldAddr 0 (tm 9)) 102,
 o4 104 (.load none (tm 103)) 102,
 o4 105 (.bin .neq (so (.binOp .neq 41 (tm 104) k0 41) 4) (tm 104) k0) 102,
 o1 106 (.pick (tm 102) (tm 105) (.const (.bool false)))]) (.cond (tm 106)
 (.region [
 o1 107 (.mov (tm 4)),
 o1 108 (.mov (tm 6)),
 o1 109 (.callV (.func 33) [(tm 107), (.const (.int .i64 5)), (tm 108)])])
 .skip)) (.region [
 o1 110 (.mov (tm 7)),
 o1 111 (.load (some 166) (tm 8)),
 o1 112 (.build ((.int .i64 0) :: ((.string ⟨⟨[]⟩⟩) :: ((.int .i64 0) :: ((.int .i64 0) :: (z32 ++ (z32 ++ (z32 ++ (z32 ++ ((.int .i64 0) :: (z32 ++ [(.slice none 0 0), (.slice none 0 0)])))))))))) [(0, 1, (tm 110)), (1, 166, (tm 111))]),
 o1 113 (.fieldAddr 3 (tm 5)),
 o3 (.store 167 (tm 113) (tm 112))])))
 .skip)) (.seq (.region [
 o1 114 (.mov (tm 4)),
 o1 115 (.callV (.func 37) [(tm 114)]),
 o1 10 (.alloc 43 [(.int .i64 0), (.int .i64 0)]),
 o3 (.store 2 (tm 10) (tm 115))]) (.seq (.seq (.region [
 o1 116 (.fieldAddr 0 (tm 10)),
 o1 117 (.load none (tm 116)),
 o1 118 (.bin .neq (so (.binOp .neq 41 (tm 117) k0 41) 4) (tm 117) k0)]) (.cond (tm 118)
 (.seq (.regionD [
 o1 119 (.build ((.int .i64 0) :: ((.int .i64 0) :: ((.int .i64 0) :: ((.int .i64 0) :: ((.string ⟨⟨[]⟩⟩) :: ((.int .i64 0) :: ((.int .i64 0) :: (z32 ++ (z32 ++ (z32 ++ (z32 ++ ((.int .i64 0) :: (z32 ++ [(.slice none 0 0), (.slice none 0 0)]))))))))))))) []),
 o1 120 (.load (some 2) (tm 10)),
 ⟨none, .store 170 (tm 2) (tm 119), none, [(some 120, .load (some 2) (tm 10), none)], false⟩,
 ⟨none, .store 2 (tm 3) (tm 120), none, [], true⟩]) .ret)
 .skip)) (.seq (.regionD [
 o1 121 (.load (some 170) (tm 5)),
 o1 122 (.load (some 2) (tm 10)),
 ⟨none, .store 170 (tm 2) (tm 121), none, [(some 122, .load (some 2) (tm 10), none)], false⟩,
 ⟨none, .store 2 (tm 3) (tm 122), none, [], true⟩]) .ret))))))))))))))
noncomputable def lr14_Decode : AFunc := ⟨123, [(2, some (some 170)), (3, some (some 2))], lr14_Decode_c, none⟩
theorem lr14_Decode_t : T0 9 = some lr14_Decode := withKept_t rfl (withTrue_t rfl (by kernel_rfl : tableOf Tryz.prog 9 = some lr14_Decode))
theorem lr14_Decode_runs {v0 : Value} {h : Heap} {R : RP} {X : XP} (k : RunC Tryz.prog T0 lr14_Decode_c ⟨[v0, U, U, U, U, U, U, U, U, U, U, U, U, U, U, U, U, U, U, U, U, U, U, U, U, U, U, U, U, U, U, U, U, U, U, U, U, U, U, U, U, U, U, U, U, U, U, U, U, U, U, U, U, U, U, U, U, U, U, U, U, U, U, U, U, U, U, U, U, U, U, U, U, U, U, U, U, U, U, U, U, U, U, U, U, U, U, U, U, U, U, U, U, U, U, U, U, U, U, U, U, U, U, U, U, U, U, U, U, U, U, U, U, U, U, U, U, U, U, U, U, U, U], [], h, none⟩ (bodyQ Tryz.prog T0 [(2, some (some 170)), (3, some (some 2))] R X)) :
 Runs Tryz.prog T0 (.fn 9) [v0] h R X := Runs.fn lr14_Decode_t rfl k
abbrev fn_lk_SameMsg : FuncId := 10
noncomputable def lk_SameMsg_c : ACode :=
 (.seq (.region [
 o1 2 (.box 40 (tm 0)),
 o1 3 (.box 40 (tm 1)),
 o1 4 (.mov (.const (.bool false)))]) (.seq (.region [
 o1 5 (.fieldAddr 0 (tm 2)),
 o1 6 (.load none (tm 5)),
 o1 7 (.fieldAddr 0 (tm 3)),
 o1 8 (.load none (tm 7)),
 o1 9 (.bin .eql (so (.binOp .eql 3 (tm 6) (tm 8) 3) 4) (tm 6) (tm 8)),
 o1 10 (.mov (tm 9)),
 o4 11 (.fieldAddr 1 (tm 2)) 10,
 o4 12 (.load (some 2) (tm 11)) 10,
 o4 13 (.fieldAddr 1 (tm 3)) 10,
 o4 14 (.load (some 2) (tm 13)) 10,
 o4 15 (.bin .eql (so (.binOp .eql 26 (tm 12) (tm 14) 26) 4) (tm 12) (tm 14)) 10,
 o1 16 (.pick (tm 10) (tm 15) (.const (.bool false))),
 o1 17 (.mov (tm 16)),
 o4 18 (.fieldAddr 3 (tm 2)) 17,
 o4 19 (.fieldAddr 0 (tm 18)) 17,
 o4 20 (.load none (tm 19)) 17,
 o4 21 (.fieldAddr 3 (tm 3)) 17,
 o4 22 (.fieldAddr 0 (tm 21)) 17,
 o4 23 (.load none (tm 22)) 17,
 o4 24 (.bin .eql (so (.binOp .eql 3 (tm 20) (tm 23) 3) 4) (tm 20) (tm 23)) 17,
 o1 25 (.pick (tm 17) (tm 24) (.const (.bool false))),
 o1 26 (.mov (tm 25)),
 o4 27 (.fieldAddr 3 (tm 2)) 26,
 o4 28 (.fieldAddr 1 (tm 27)) 26,
 o4 29 (.load (some 166) (tm 28)) 26,
 o4 30 (.fieldAddr 3 (tm 3)) 26,
 o4 31 (.fieldAddr 1 (tm 30)) 26,
 o4 32 (.load (some 166) (tm 31)) 26,
 o4 33 (.callV (.func 17) [(tm 29), (tm 32)]) 26,
 o1 34 (.pick (tm 26) (tm 33) (.const (.bool false))),
 o1 4 (.mov (tm 34))]) .ret))
noncomputable def lk_SameMsg : AFunc := ⟨35, [(4, none)], lk_SameMsg_c, none⟩
theorem lk_SameMsg_t : T0 10 = some lk_SameMsg := withKept_t rfl (withTrue_t rfl (by kernel_rfl : tableOf Tryz.prog 10 = some lk_SameMsg))
theorem lk_SameMsg_runs {v0 v1 : Value} {h : Heap} {R : RP} {X : XP} (k : RunC Tryz.prog T0 lk_SameMsg_c ⟨[v0, v1, U, U, U, U, U, U, U, U, U, U, U, U, U, U, U, U, U, U, U, U, U, U, U, U, U, U, U, U, U, U, U, U, U], [], h, none⟩ (bodyQ Tryz.prog T0 [(4, none)] R X)) :
 Runs Tryz.prog T0 (.fn 10) [v0, v1] h R X := Runs.fn lk_SameMsg_t rfl k
abbrev fn_lk_OverBlock : FuncId := 11
noncomputable def lk_OverBlock_c : ACode :=
 (.seq (.region [
 o1 1 (.box 36 (tm 0))]) (.seq (.region [
 o1 2 (.fieldAddr 165 (tm 1)),
 o1 3 (.load none (tm 2)),
 o1 4 (.callV (.func 38) [(tm 3)])]) (.region [
 o1 5 (.fieldAddr 131 (tm 1)),
 o1 6 (.load (some 34) (tm 5)),
 o1 7 (.callV (.func 39) [(tm 6)])])))
noncomputable def lk_OverBlock : AFunc := ⟨8, [], lk_OverBlock_c, none⟩
theorem lk_OverBlock_t : T0 11 = some lk_OverBlock := withKept_t rfl (withTrue_t rfl (by kernel_rfl : tableOf Tryz.prog 11 = some lk_OverBlock))
theorem lk_OverBlock_runs {v0 : Value} {h : Heap} {R : RP} {X : XP} (k : RunC Tryz.prog T0 lk_OverBlock_c ⟨[v0, U, U, U, U, U, U, U], [], h, none⟩ (bodyQ Tryz.prog T0 [] R X)) :
 Runs Tryz.prog T0 (.fn 11) [v0] h R X := Runs.fn lk_OverBlock_t rfl k
abbrev fn_lk_KeptBytes : FuncId := 12
noncomputable def lk_KeptBytes_c : ACode :=
 (.seq (.region [
 o1 4 (.mov (.const (.bool false)))]) (.seq (.region [
 o1 6 (.mov (tm 0)),
 o1 7 (.mov (tm 0)),
 o1 8 (.cap (tm 7)),
 o1 9 (.sliceSl 1 (tm 6) none (some (tm 8)) none),
 o1 5 (.mov (tm 9))]) (.seq (.regionD [
 o1 10 (.mov (tm 0)),
 o1 11 (.lenSl (tm 10)),
 o1 12 (.mov (tm 1)),
 o1 13 (.lenSl (tm 12)),
 o2 14 (.bin .eql (so (.binOp .eql 3 (tm 11) (tm 13) 3) 4) (tm 11) (tm 13)),
 o2 15 (.mov (tm 14)),
 o4 16 (.mov (tm 0)) 15,
 o4 17 (.bytesToStr (tm 16)) 15,
 o4 18 (.mov (tm 1)) 15,
 o4 19 (.bytesToStr (tm 18)) 15,
 ⟨some 20, .bin .eql (so (.binOp .eql 9 (tm 17) (tm 19) 9) 4) (tm 17) (tm 19), some (15, true), [], true⟩,
 o2 21 (.pick (tm 15) (tm 20) (.const (.bool false))),
 o2 22 (.mov (tm 21)),
 o4 23 (.mov (tm 5)) 22,
 o4 24 (.lenSl (tm 23)) 22,
 o4 25 (.mov (tm 1)) 22,
 o4 26 (.lenSl (tm 25)) 22,
 o4 27 (.bin .add (so (.binOp .add 3 (tm 26) (.const (.int .i64 4)) 3) 3) (tm 26) (.const (.int .i64 4))) 22,
 ⟨some 28, .bin .geq (so (.binOp .geq 3 (tm 24) (tm 27) 3) 4) (tm 24) (tm 27), some (22, true), [], true⟩,
 o2 29 (.pick (tm 22) (tm 28) (.const (.bool false))),
 o2 30 (.mov (tm 29)),
 o4 31 (.mov (tm 5)) 30,
 o4 32 (.mov (tm 1)) 30,
 o4 33 (.lenSl (tm 32)) 30,
 o4 34 (.mov (tm 1)) 30,
 o4 35 (.lenSl (tm 34)) 30,
 o4 36 (.bin .add (so (.binOp .add 3 (tm 35) (.const (.int .i64 4)) 3) 3) (tm 35) (.const (.int .i64 4))) 30,
 o4 37 (.sliceSl 1 (tm 31) (some (tm 33)) (some (tm 36)) none) 30,
 o4 38 (.bytesToStr (tm 37)) 30,
 ⟨some 39, .buildSlice 5 [(.int .u8 0), (.int .u8 0), (.int .u8 0), (.int .u8 0)] 4 [(0, 1, (.const (.int .u8 201))), (1, 1, (.const (.int .u8 202))), (2, 1, (.const (.int .u8 203))), (3, 1, (.const (.int .u8 204)))], some (30, true), [(some 38, .bytesToStr (tm 37), some (30, true)), (some 37, .sliceSl 1 (tm 31) (some (tm 33)) (some (tm 36)) none, some (30, true)), (some 36, .bin .add (so (.binOp .add 3 (tm 35) (.const (.int .i64 4)) 3) 3) (tm 35) (.const (.int .i64 4)), some (30, true)), (some 35, .lenSl (tm 34), some (30, true)), (some 34, .mov (tm 1), some (30, true)), (some 33, .lenSl (tm 32), some (30, true)), (some 32, .mov (tm 1), some (30, true)), (some 31, .mov (tm 5), some (30, true))], false⟩,
 o4 40 (.bytesToStr (tm 39)) 30,
 ⟨some 41, .bin .eql (so (.binOp .eql 9 (tm 38) (tm 40) 9) 4) (tm 38) (tm 40), some (30, true), [], true⟩,
 o2 42 (.pick (tm 30) (tm 41) (.const (.bool false))),
 o2 4 (.mov (tm 42))]) .ret)))
noncomputable def lk_KeptBytes : AFunc := ⟨43, [(4, none)], lk_KeptBytes_c, none⟩
theorem lk_KeptBytes_t0 : tableOf Tryz.prog 12 = some lk_KeptBytes := by kernel_rfl
theorem lk_KeptBytes_kept {h : Heap} {args : List Value} (hp : KeptPre args h) : Runs Tryz.prog T0 (.fn 12) args h (fun r h' => r = .bool true ∧ h' = h) (fun _ _ => False) := kept_runs rfl hp
theorem lk_KeptBytes_runs {v0 v1 : Value} {h : Heap} {R : RP} {X : XP} (k : RunC Tryz.prog (tableOf Tryz.prog) lk_KeptBytes_c ⟨[v0, v1, U, U, U, U, U, U, U, U, U, U, U, U, U, U, U, U, U, U, U, U, U, U, U, U, U, U, U, U, U, U, U, U, U, U, U, U, U, U, U, U, U], [], h, none⟩ (bodyQ Tryz.prog (tableOf Tryz.prog) [(4, none)] R X)) :
 Runs Tryz.prog (tableOf Tryz.prog) (.fn 12) [v0, v1] h R X := Runs.fn lk_KeptBytes_t0 rfl k
abbrev fn_lk_Pick : FuncId := 13
noncomputable def lk_Pick_c : ACode :=
 (.seq (.region [
 o1 4 (.mov k0)]) (.seq (.seq (.region [
 o1 5 (.mov (tm 1)),
 o1 6 (.bin .leq (so (.binOp .leq 3 (tm 5) k0 3) 4) (tm 5) k0)]) (.cond (tm 6)
 (.seq (.region [
 o1 4 (.mov k0)]) .ret)
 .skip)) (.seq (.region [
 o1 7 (.mov (tm 0)),
 o1 8 (.mov (tm 1)),
 o1 9 (.bin .rem (so (.binOp .rem 3 (tm 7) (tm 8) 3) 3) (tm 7) (tm 8)),
 o1 0 (.mov (tm 9))]) (.seq (.seq (.region [
 o1 10 (.mov (tm 0)),
 o1 11 (.bin .lss (so (.binOp .lss 3 (tm 10) k0 3) 4) (tm 10) k0)]) (.cond (tm 11)
 (.region [
 o1 12 (.mov (tm 0)),
 o1 13 (.mov (tm 1)),
 o1 14 (.bin .add (so (.binOp .add 3 (tm 12) (tm 13) 3) 3) (tm 12) (tm 13)),
 o1 0 (.mov (tm 14))])
 .skip)) (.seq (.region [
 o1 15 (.mov (tm 0)),
 o1 4 (.mov (tm 15))]) .ret)))))
noncomputable def lk_Pick : AFunc := ⟨16, [(4, none)], lk_Pick_c, none⟩
theorem lk_Pick_t : T0 13 = some lk_Pick := withKept_t rfl (withTrue_t rfl (by kernel_rfl : tableOf Tryz.prog 13 = some lk_Pick))
theorem lk_Pick_runs {v0 v1 : Value} {h : Heap} {R : RP} {X : XP} (k : RunC Tryz.prog T0 lk_Pick_c ⟨[v0, v1, U, U, U, U, U, U, U, U, U, U, U, U, U, U], [], h, none⟩ (bodyQ Tryz.prog T0 [(4, none)] R X)) :
 Runs Tryz.prog T0 (.fn 13) [v0, v1] h R X := Runs.fn lk_Pick_t rfl k
abbrev fn_block_Decode : FuncId := 15
noncomputable def block_Decode_c : ACode :=
 (.seq (.region [
 o1 2 (.alloc 36 ((.string ⟨⟨[]⟩⟩) :: ((.int .i64 0) :: ((.int .i64 0) :: (z32 ++ (z32 ++ (z32 ++ (z32 ++ ((.int .i64 0) :: (z32 ++ [(.slice none 0 0), (.slice none 0 0)])))))))))),
 o1 3 (.alloc 43 [(.int .i64 0), (.int .i64 0)])]) (.seq (.region [
 o1 7 (.mov (tm 0)),
 o1 8 (.callV (.func 22) [(tm 7)]),
 o1 4 (.mov (tm 8))]) (.seq (.region [
 o1 5 (.alloc 43 [(.int .i64 0), (.int .i64 0)])]) (.seq (.region [
 o1 9 (.mov (tm 4)),
 o1 10 (.mov (tm 0)),
 o1 11 (.lenSl (tm 10)),
 o1 12 (.callV (.func 47) [(tm 9), (tm 11), (tm 5), (.func 48)]),
 o1 13 (.build ((.string ⟨⟨[]⟩⟩) :: ((.int .i64 0) :: ((.int .i64 0) :: (z32 ++ (z32 ++ (z32 ++ (z32 ++ ((.int .i64 0) :: (z32 ++ [(.slice none 0 0), (.slice none 0 0)]))))))))) [(0, 131, (tm 12))]),
 o1 6 (.alloc 36 ((.string ⟨⟨[]⟩⟩) :: ((.int .i64 0) :: ((.int .i64 0) :: (z32 ++ (z32 ++ (z32 ++ (z32 ++ ((.int .i64 0) :: (z32 ++ [(.slice none 0 0), (.slice none 0 0)])))))))))),
 o3 (.store 166 (tm 6) (tm 13))]) (.seq (.region [
 o1 14 (.mov (tm 4)),
 o1 15 (.mov (tm 0)),
 o1 16 (.lenSl (tm 15)),
 o1 17 (.callV (.func 49) [(tm 14), (tm 16), (tm 5), (.func 50)]),
 o1 18 (.fieldAddr 131 (tm 6)),
 o3 (.store 34 (tm 18) (tm 17))]) (.seq (.region [
 o1 19 (.mov (tm 4)),
 o1 20 (.mov (tm 0)),
 o1 21 (.lenSl (tm 20)),
 o1 22 (.callV (.func 51) [(tm 19), (tm 21), (tm 5), (.func 52)]),
 o1 23 (.fieldAddr 165 (tm 6)),
 o3 (.store 1 (tm 23) (tm 22))]) (.seq (.seq (.region [
 o1 24 (.load (some 2) (tm 5)),
 o1 25 (.build [(.int .i64 0), (.int .i64 0)] []),
 o1 26 (.bin .eql (so (.binOp .eql 43 (tm 24) (tm 25) 43) 4) (tm 24) (tm 25))]) (.cond (tm 26)
 (.region [
 o1 27 (.mov (tm 4)),
 o1 28 (.callV (.func 30) [(tm 27)]),
 o3 (.store 2 (tm 5) (tm 28))])
 .skip)) (.seq (.seq (.region [
 o1 29 (.load (some 2) (tm 5)),
 o1 30 (.build [(.int .i64 0), (.int .i64 0)] []),
 o1 31 (.bin .neq (so (.binOp .neq 43 (tm 29) (tm 30) 43) 4) (tm 29) (tm 30))]) (.cond (tm 31)
 (.seq (.regionD [
 o1 32 (.build ((.string ⟨⟨[]⟩⟩) :: ((.int .i64 0) :: ((.int .i64 0) :: (z32 ++ (z32 ++ (z32 ++ (z32 ++ ((.int .i64 0) :: (z32 ++ [(.slice none 0 0), (.slice none 0 0)]))))))))) []),
 o1 33 (.load (some 2) (tm 5)),
 ⟨none, .store 166 (tm 2) (tm 32), none, [(some 33, .load (some 2) (tm 5), none)], false⟩,
 ⟨none, .store 2 (tm 3) (tm 33), none, [], true⟩]) .ret)
 .skip)) (.seq (.regionD [
 o1 34 (.load (some 166) (tm 6)),
 o1 35 (.load (some 2) (tm 5)),
 ⟨none, .store 166 (tm 2) (tm 34), none, [(some 35, .load (some 2) (tm 5), none)], false⟩,
 ⟨none, .store 2 (tm 3) (tm 35), none, [], true⟩]) .ret)))))))))
noncomputable def block_Decode : AFunc := ⟨36, [(2, some (some 166)), (3, some (some 2))], block_Decode_c, none⟩
theorem block_Decode_t : T0 15 = some block_Decode := withKept_t rfl (withTrue_t rfl (by kernel_rfl : tableOf Tryz.prog 15 = some block_Decode))
theorem block_Decode_runs {v0 : Value} {h : Heap} {R : RP} {X : XP} (k : RunC Tryz.prog T0 block_Decode_c ⟨[v0, U, U, U, U, U, U, U, U, U, U, U, U, U, U, U, U, U, U, U, U, U, U, U, U, U, U, U, U, U, U, U, U, U, U, U], [], h, none⟩ (bodyQ Tryz.prog T0 [(2, some (some 166)), (3, some (some 2))] R X)) :
 Runs Tryz.prog T0 (.fn 15) [v0] h R X := Runs.fn block_Decode_t rfl k
abbrev fn_lr09_Decode : FuncId := 16
noncomputable def lr09_Decode_l0 : ACode :=
 (.seq (.seq (.region [
 o1 19 (.mov (tm 6)),
 o1 20 (.bin .lss (so (.binOp .lss 3 (tm 19) (.const (.int .i64 3)) 3) 4) (tm 19) (.const (.int .i64 3)))]) (.cond (tm 20)
 .skip
 (.exit 0))) (.seq (.block 1 (.seq (.region [
 o1 23 (.mov (tm 4)),
 o1 24 (.nilCheck (tm 23)),
 o1 25 (.fieldAddr 1 (tm 24)),
 o1 26 (.load none (tm 25)),
 o1 7 (.mov (tm 26))]) (.seq (.region [
 o1 27 (.mov (tm 4)),
 o1 28 (.callV (.func 36) [(tm 27), (.const (.int .i64 65536))]),
 o1 8 (.mov (tm 28))]) (.seq (.seq (.region [
 o1 29 (.mov (tm 4)),
 o1 30 (.nilCheck (tm 29)),
 o1 31 (.fieldAddr 2 (tm 30)),
 o1 32 (.fieldAddr 0 (tm 31)),
 o1 33 (.load none (tm 32)),
 o1 34 (.bin .neq (so (.binOp .neq 41 (tm 33) k0 41) 4) (tm 33) k0)]) (.cond (tm 34)
 (.seq (.regionD [
 o1 35 (.build ((.string ⟨⟨[]⟩⟩) :: ((.int .i64 0) :: ((.int .i64 0) :: (z32 ++ (z32 ++ (z32 ++ (z32 ++ ((.int .i64 0) :: (z32 ++ [(.slice none 0 0), (.slice none 0 0)]))))))))) []),
 o1 36 (.mov (tm 4)),
 o1 37 (.nilCheck (tm 36)),
 o1 38 (.fieldAddr 2 (tm 37)),
 o1 39 (.load (some 2) (tm 38)),
 ⟨none, .store 166 (tm 2) (tm 35), none, [(some 39, .load (some 2) (tm 38), none), (some 38, .fieldAddr 2 (tm 37), none), (some 37, .nilCheck (tm 36), none), (some 36, .mov (tm 4), none)], false⟩,
 ⟨none, .store 2 (tm 3) (tm 39), none, [], true⟩]) .ret)
 .skip)) (.seq (.region [
 o1 9 (.alloc 43 [(.int .i64 0), (.int .i64 0)])]) (.seq (.seq (.region [
 o1 40 (.mov (tm 6))]) (.block 2 (.seq (.region [
 o1 50 (.bin .eql (so (.binOp .eql 3 (tm 40) k0 3) 4) (tm 40) k0),
 o1 49 (.mov (tm 50))]) (.cond (tm 49)
 (.seq (.region [
 o1 52 (.mov (tm 8)),
 o1 53 (.callV (.func 53) [(tm 52)]),
 o1 51 (.mov (tm 53)),
 o1 54 (.extract 0 (tm 51)),
 o1 55 (.extract 1 (tm 51)),
 o1 10 (.alloc 30 ((.string ⟨⟨[]⟩⟩) :: ((.int .i64 0) :: ((.int .i64 0) :: (z32 ++ (z32 ++ (z32 ++ z32))))))),
 o1 11 (.alloc 43 [(.int .i64 0), (.int .i64 0)]),
 o3 (.store 131 (tm 10) (tm 54)),
 o3 (.store 2 (tm 11) (tm 55))]) (.seq (.region [
 o1 56 (.load (some 131) (tm 10)),
 o1 57 (.fieldAddr 0 (tm 5)),
 o3 (.store 131 (tm 57) (tm 56))]) (.region [
 o1 58 (.load (some 2) (tm 11)),
 o3 (.store 2 (tm 9) (tm 58))])))
 (.seq (.region [
 o1 60 (.bin .eql (so (.binOp .eql 3 (tm 40) (.const (.int .i64 1)) 3) 4) (tm 40) (.const (.int .i64 1))),
 o1 59 (.mov (tm 60))]) (.cond (tm 59)
 (.seq (.region [
 o1 62 (.mov (tm 8)),
 o1 63 (.callV (.func 54) [(tm 62)]),
 o1 61 (.mov (tm 63)),
 o1 64 (.extract 0 (tm 61)),
 o1 65 (.extract 1 (tm 61)),
 o1 12 (.alloc 33 ((.int .i64 0) :: (z32 ++ [(.slice none 0 0)]))),
 o1 13 (.alloc 43 [(.int .i64 0), (.int .i64 0)]),
 o3 (.store 34 (tm 12) (tm 64)),
 o3 (.store 2 (tm 13) (tm 65))]) (.seq (.region [
 o1 66 (.load (some 34) (tm 12)),
 o1 67 (.fieldAddr 131 (tm 5)),
 o3 (.store 34 (tm 67) (tm 66))]) (.region [
 o1 68 (.load (some 2) (tm 13)),
 o3 (.store 2 (tm 9) (tm 68))])))
 (.seq (.region [
 o1 42 (.mov (tm 8)),
 o1 43 (.callV (.func 55) [(tm 42)]),
 o1 41 (.mov (tm 43)),
 o1 44 (.extract 0 (tm 41)),
 o1 45 (.extract 1 (tm 41)),
 o1 15 (.alloc 43 [(.int .i64 0), (.int .i64 0)]),
 o1 14 (.mov (tm 44)),
 o3 (.store 2 (tm 15) (tm 45))]) (.seq (.region [
 o1 46 (.mov (tm 14)),
 o1 47 (.fieldAddr 165 (tm 5)),
 o3 (.store 1 (tm 47) (tm 46))]) (.region [
 o1 48 (.load (some 2) (tm 15)),
 o3 (.store 2 (tm 9) (tm 48))]))))))))) (.seq (.region [
 o1 69 (.fieldAddr 0 (tm 9)),
 o1 70 (.load none (tm 69)),
 o1 71 (.bin .neq (so (.binOp .neq 41 (tm 70) k0 41) 4) (tm 70) k0)]) (.cond (tm 71)
 (.seq (.region [
 o1 72 (.build ((.string ⟨⟨[]⟩⟩) :: ((.int .i64 0) :: ((.int .i64 0) :: (z32 ++ (z32 ++ (z32 ++ (z32 ++ ((.int .i64 0) :: (z32 ++ [(.slice none 0 0), (.slice none 0 0)]))))))))) []),
 o1 73 (.mov (tm 7)),
 o1 74 (.build [(.int .i64 0), (.int .i64 0)] [(0, 1, (.const (.int .i64 5))), (1, 1, (tm 73))]),
 o3 (.store 166 (tm 2) (tm 72)),
 o3 (.store 2 (tm 3) (tm 74))]) .ret)
 .skip)))))))) (.region [
 o1 21 (.mov (tm 6)),
 o1 22 (.bin .add (so (.binOp .add 3 (tm 21) (.const (.int .i64 1)) 3) 3) (tm 21) (.const (.int .i64 1))),
 o1 6 (.mov (tm 22))])))
noncomputable def lr09_Decode_c : ACode :=
 (.seq (.region [
 o1 2 (.alloc 36 ((.string ⟨⟨[]⟩⟩) :: ((.int .i64 0) :: ((.int .i64 0) :: (z32 ++ (z32 ++ (z32 ++ (z32 ++ ((.int .i64 0) :: (z32 ++ [(.slice none 0 0), (.slice none 0 0)])))))))))),
 o1 3 (.alloc 43 [(.int .i64 0), (.int .i64 0)])]) (.seq (.region [
 o1 17 (.mov (tm 0)),
 o1 18 (.callV (.func 31) [(tm 17)]),
 o1 4 (.mov (tm 18))]) (.seq (.region [
 o1 5 (.alloc 36 ((.string ⟨⟨[]⟩⟩) :: ((.int .i64 0) :: ((.int .i64 0) :: (z32 ++ (z32 ++ (z32 ++ (z32 ++ ((.int .i64 0) :: (z32 ++ [(.slice none 0 0), (.slice none 0 0)]))))))))))]) (.seq (.seq (.region [
 o1 6 (.mov k0)]) (.block 0 (.loop lr09_Decode_l0))) (.seq (.region [
 o1 75 (.mov (tm 4)),
 o1 76 (.callV (.func 37) [(tm 75)]),
 o1 16 (.alloc 43 [(.int .i64 0), (.int .i64 0)]),
 o3 (.store 2 (tm 16) (tm 76))]) (.seq (.seq (.region [
 o1 77 (.fieldAddr 0 (tm 16)),
 o1 78 (.load none (tm 77)),
 o1 79 (.bin .neq (so (.binOp .neq 41 (tm 78) k0 41) 4) (tm 78) k0)]) (.cond (tm 79)
 (.seq (.regionD [
 o1 80 (.build ((.string ⟨⟨[]⟩⟩) :: ((.int .i64 0) :: ((.int .i64 0) :: (z32 ++ (z32 ++ (z32 ++ (z32 ++ ((.int .i64 0) :: (z32 ++ [(.slice none 0 0), (.slice none 0 0)]))))))))) []),
 o1 81 (.load (some 2) (tm 16)),
 ⟨none, .store 166 (tm 2) (tm 80), none, [(some 81, .load (some 2) (tm 16), none)], false⟩,
 ⟨none, .store 2 (tm 3) (tm 81), none, [], true⟩]) .ret)
 .skip)) (.seq (.regionD [
 o1 82 (.load (some 166) (tm 5)),
 o1 83 (.load (some 2) (tm 16)),
 ⟨none, .store 166 (tm 2) (tm 82), none, [(some 83, .load (some 2) (tm 16), none)], false⟩,
 ⟨none, .store 2 (tm 3) (tm 83), none, [], true⟩]) .ret)))))))
noncomputable def lr09_Decode : AFunc := ⟨84, [(2, some (some 166)), (3, some (some 2))], lr09_Decode_c, none⟩
theorem lr09_Decode_t : T0 16 = some lr09_Decode := withKept_t rfl (withTrue_t rfl (by kernel_rfl : tableOf Tryz.prog 16 = some lr09_Decode))
theorem lr09_Decode_runs {v0 : Value} {h : Heap} {R : RP} {X : XP} (k : RunC Tryz.prog T0 lr09_Decode_c ⟨[v0, U, U, U, U, U, U, U, U, U, U, U, U, U, U, U, U, U, U, U, U, U, U, U, U, U, U, U, U, U, U, U, U, U, U, U, U, U, U, U, U, U, U, U, U, U, U, U, U, U, U, U, U, U, U, U, U, U, U, U, U, U, U, U, U, U, U, U, U, U, U, U, U, U, U, U, U, U, U, U, U, U, U, U], [], h, none⟩ (bodyQ Tryz.prog T0 [(2, some (some 166)), (3, some (some 2))] R X)) :
 Runs Tryz.prog T0 (.fn 16) [v0] h R X := Runs.fn lr09_Decode_t rfl k
/-- the slots that turn in the loop: v6 -/
noncomputable def lr09_Decode_l0_J (f0 f1 f2 f3 f4 f5 f16 f17 f18 f75 f76 f77 f78 f79 f80 f81 f82 f83 : Value) (ds : List Deferred) (rd : Option Nat) (I : Nat → Value → Heap → Prop) (m : Nat) (s : St) : Prop := ∃ (v6 : Value), ∃ h : Heap, ∃ (x7 x8 x9 x10 x11 x12 x13 x14 x15 x19 x20 x21 x22 x23 x24 x25 x26 x27 x28 x29 x30 x31 x32 x33 x34 x35 x36 x37 x38 x39 x40 x41 x42 x43 x44 x45 x46 x47 x48 x49 x50 x51 x52 x53 x54 x55 x56 x57 x58 x59 x60 x61 x62 x63 x64 x65 x66 x67 x68 x69 x70 x71 x72 x73 x74 : Value), s = ⟨[f0, f1, f2, f3, f4, f5, v6, x7, x8, x9, x10, x11, x12, x13, x14, x15, f16, f17, f18, x19, x20, x21, x22, x23, x24, x25, x26, x27, x28, x29, x30, x31, x32, x33, x34, x35, x36, x37, x38, x39, x40, x41, x42, x43, x44, x45, x46, x47, x48, x49, x50, x51, x52, x53, x54, x55, x56, x57, x58, x59, x60, x61, x62, x63, x64, x65, x66, x67, x68, x69, x70, x71, x72, x73, x74, f75, f76, f77, f78, f79, f80, f81, f82, f83], ds, h, rd⟩ ∧ I m v6 h
theorem lr09_Decode_l0_rule {f0 f1 f2 f3 f4 f5 f16 f17 f18 f75 f76 f77 f78 f79 f80 f81 f82 f83 : Value} {ds : List Deferred} {rd : Option Nat} {Q : QP} (I : Nat → Value → Heap → Prop) (hb : ∀ (m : Nat) (v6 : Value) (h : Heap) (x7 x8 x9 x10 x11 x12 x13 x14 x15 x19 x20 x21 x22 x23 x24 x25 x26 x27 x28 x29 x30 x31 x32 x33 x34 x35 x36 x37 x38 x39 x40 x41 x42 x43 x44 x45 x46 x47 x48 x49 x50 x51 x52 x53 x54 x55 x56 x57 x58 x59 x60 x61 x62 x63 x64 x65 x66 x67 x68 x69 x70 x71 x72 x73 x74 : Value) , I m v6 h → RunC Tryz.prog T0 lr09_Decode_l0 ⟨[f0, f1, f2, f3, f4, f5, v6, x7, x8, x9, x10, x11, x12, x13, x14, x15, f16, f17, f18, x19, x20, x21, x22, x23, x24, x25, x26, x27, x28, x29, x30, x31, x32, x33, x34, x35, x36, x37, x38, x39, x40, x41, x42, x43, x44, x45, x46, x47, x48, x49, x50, x51, x52, x53, x54, x55, x56, x57, x58, x59, x60, x61, x62, x63, x64, x65, x66, x67, x68, x69, x70, x71, x72, x73, x74, f75, f76, f77, f78, f79, f80, f81, f82, f83], ds, h, rd⟩ (loopQ (lr09_Decode_l0_J f0 f1 f2 f3 f4 f5 f16 f17 f18 f75 f76 f77 f78 f79 f80 f81 f82 f83 ds rd I) m Q))
 (m : Nat) {v6 : Value} {h : Heap} {x7 x8 x9 x10 x11 x12 x13 x14 x15 x19 x20 x21 x22 x23 x24 x25 x26 x27 x28 x29 x30 x31 x32 x33 x34 x35 x36 x37 x38 x39 x40 x41 x42 x43 x44 x45 x46 x47 x48 x49 x50 x51 x52 x53 x54 x55 x56 x57 x58 x59 x60 x61 x62 x63 x64 x65 x66 x67 x68 x69 x70 x71 x72 x73 x74 : Value} (hi : I m v6 h) : RunC Tryz.prog T0 (.loop lr09_Decode_l0) ⟨[f0, f1, f2, f3, f4, f5, v6, x7, x8, x9, x10, x11, x12, x13, x14, x15, f16, f17, f18, x19, x20, x21, x22, x23, x24, x25, x26, x27, x28, x29, x30, x31, x32, x33, x34, x35, x36, x37, x38, x39, x40, x41, x42, x43, x44, x45, x46, x47, x48, x49, x50, x51, x52, x53, x54, x55, x56, x57, x58, x59, x60, x61, x62, x63, x64, x65, x66, x67, x68, x69, x70, x71, x72, x73, x74, f75, f76, f77, f78, f79, f80, f81, f82, f83], ds, h, rd⟩ Q :=
 RunC.loopJ (lr09_Decode_l0_J f0 f1 f2 f3 f4 f5 f16 f17 f18 f75 f76 f77 f78 f79 f80 f81 f82 f83 ds rd I) (fun m s hj => by obtain ⟨v6, h, x7, x8, x9, x10, x11, x12, x13, x14, x15, x19, x20, x21, x22, x23, x24, x25, x26, x27, x28, x29, x30, x31, x32, x33, x34, x35, x36, x37, x38, x39, x40, x41, x42, x43, x44, x45, x46, x47, x48, x49, x50, x51, x52, x53, x54, x55, x56, x57, x58, x59, x60, x61, x62, x63, x64, x65, x66, x67, x68, x69, x70, x71, x72, x73, x74, rfl, hi⟩ := hj; exact hb m v6 h x7 x8 x9 x10 x11 x12 x13 x14 x15 x19 x20 x21 x22 x23 x24 x25 x26 x27 x28 x29 x30 x31 x32 x33 x34 x35 x36 x37 x38 x39 x40 x41 x42 x43 x44 x45 x46 x47 x48 x49 x50 x51 x52 x53 x54 x55 x56 x57 x58 x59 x60 x61 x62 x63 x64 x65 x66 x67 x68 x69 x70 x71 x72 x73 x74 hi) m _ ⟨_, h, _, _, _, _, _, _, _, _, _, _, _, _, _, _, _, _, _, _, _, _, _, _, _, _, _, _, _, _, _, _, _, _, _, _, _, _, _, _, _, _, _, _, _, _, _, _, _, _, _, _, _, _, _, _, _, _, _, _, _, _, _, _, _, _, _, rfl, hi⟩
theorem lr09_Decode_l0_again {f0 f1 f2 f3 f4 f5 f16 f17 f18 f75 f76 f77 f78 f79 f80 f81 f82 f83 : Value} {ds : List Deferred} {rd : Option Nat} {Q : QP} {I : Nat → Value → Heap → Prop} {m : Nat} (m' : Nat) {v6 : Value} {h : Heap} {x7 x8 x9 x10 x11 x12 x13 x14 x15 x19 x20 x21 x22 x23 x24 x25 x26 x27 x28 x29 x30 x31 x32 x33 x34 x35 x36 x37 x38 x39 x40 x41 x42 x43 x44 x45 x46 x47 x48 x49 x50 x51 x52 x53 x54 x55 x56 x57 x58 x59 x60 x61 x62 x63 x64 x65 x66 x67 x68 x69 x70 x71 x72 x73 x74 : Value} (hm : m' < m) (hi : I m' v6 h) : loopQ (lr09_Decode_l0_J f0 f1 f2 f3 f4 f5 f16 f17 f18 f75 f76 f77 f78 f79 f80 f81 f82 f83 ds rd I) m Q .normal ⟨[f0, f1, f2, f3, f4, f5, v6, x7, x8, x9, x10, x11, x12, x13, x14, x15, f16, f17, f18, x19, x20, x21, x22, x23, x24, x25, x26, x27, x28, x29, x30, x31, x32, x33, x34, x35, x36, x37, x38, x39, x40, x41, x42, x43, x44, x45, x46, x47, x48, x49, x50, x51, x52, x53, x54, x55, x56, x57, x58, x59, x60, x61, x62, x63, x64, x65, x66, x67, x68, x69, x70, x71, x72, x73, x74, f75, f76, f77, f78, f79, f80, f81, f82, f83], ds, h, rd⟩ :=
 loopQ.again m' hm ⟨_, h, _, _, _, _, _, _, _, _, _, _, _, _, _, _, _, _, _, _, _, _, _, _, _, _, _, _, _, _, _, _, _, _, _, _, _, _, _, _, _, _, _, _, _, _, _, _, _, _, _, _, _, _, _, _, _, _, _, _, _, _, _, _, _, _, _, rfl, hi⟩
abbrev fn_lk_SameBlock : FuncId := 17
noncomputable def lk_SameBlock_c : ACode :=
 (.seq (.region [
 o1 2 (.box 36 (tm 0)),
 o1 3 (.box 36 (tm 1)),
 o1 4 (.mov (.const (.bool false)))]) (.seq (.region [
 o1 5 (.fieldAddr 0 (tm 2)),
 o1 6 (.load (some 131) (tm 5)),
 o1 7 (.fieldAddr 0 (tm 3)),
 o1 8 (.load (some 131) (tm 7)),
 o1 9 (.bin .eql (so (.binOp .eql 30 (tm 6) (tm 8) 30) 4) (tm 6) (tm 8)),
 o1 10 (.mov (tm 9)),
 o4 11 (.fieldAddr 131 (tm 2)) 10,
 o4 12 (.load (some 34) (tm 11)) 10,
 o4 13 (.fieldAddr 131 (tm 3)) 10,
 o4 14 (.load (some 34) (tm 13)) 10,
 o4 15 (.callV (.func 56) [(tm 12), (tm 14)]) 10,
 o1 16 (.pick (tm 10) (tm 15) (.const (.bool false))),
 o1 17 (.mov (tm 16)),
 o4 18 (.fieldAddr 165 (tm 2)) 17,
 o4 19 (.load none (tm 18)) 17,
 o4 20 (.fieldAddr 165 (tm 3)) 17,
 o4 21 (.load none (tm 20)) 17,
 o4 22 (.callV (.func 57) [(tm 19), (tm 21)]) 17,
 o1 23 (.pick (tm 17) (tm 22) (.const (.bool false))),
 o1 4 (.mov (tm 23))]) .ret))
noncomputable def lk_SameBlock : AFunc := ⟨24, [(4, none)], lk_SameBlock_c, none⟩
theorem lk_SameBlock_t : T0 17 = some lk_SameBlock := withKept_t rfl (withTrue_t rfl (by kernel_rfl : tableOf Tryz.prog 17 = some lk_SameBlock))
theorem lk_SameBlock_runs {v0 v1 : Value} {h : Heap} {R : RP} {X : XP} (k : RunC Tryz.prog T0 lk_SameBlock_c ⟨[v0, v1, U, U, U, U, U, U, U, U, U, U, U, U, U, U, U, U, U, U, U, U, U, U], [], h, none⟩ (bodyQ Tryz.prog T0 [(4, none)] R X)) :
 Runs Tryz.prog T0 (.fn 17) [v0, v1] h R X := Runs.fn lk_SameBlock_t rfl k
abbrev fn_msg_Decode_1 : FuncId := 20
noncomputable def msg_Decode_1_c : ACode :=
 (.seq (.region [
 o1 5 (.recover),
 o1 2 (.mov (tm 5))]) (.seq (.region [
 o1 6 (.mov (tm 2)),
 o1 7 (.eq .iface true (so (.binOp .neq 20 (tm 6) (.const .nilIface) 20) 4) (tm 6) (.const .nilIface))]) (.cond (tm 7)
 (.seq (.region [
 o1 9 (.mov (tm 2)),
 o1 10 (.assertTo 58 (.agg ⟨[(.int .i64 0), (.int .i64 0)]⟩) true (tm 9)),
 o1 8 (.mov (tm 10)),
 o1 11 (.extract 0 (tm 8)),
 o1 12 (.extract 1 (tm 8)),
 o1 3 (.alloc 58 [(.int .i64 0), (.int .i64 0)]),
 o3 (.store 2 (tm 3) (tm 11)),
 o1 4 (.mov (tm 12))]) (.seq (.seq (.region [
 o1 13 (.mov (tm 4)),
 o1 14 (.raw (so (.unOp .not 4 (tm 13)) 4))]) (.cond (tm 14)
 (.region [
 o1 15 (.mov (tm 2)),
 o3 (.panic (tm 15))])
 .skip)) (.regionD [
 o1 16 (.build ((.int .i64 0) :: ((.int .i64 0) :: ((.int .i64 0) :: ((.int .i64 0) :: ((.string ⟨⟨[]⟩⟩) :: ((.int .i64 0) :: ((.int .i64 0) :: (z32 ++ (z32 ++ (z32 ++ (z32 ++ ((.int .i64 0) :: (z32 ++ [(.slice none 0 0), (.slice none 0 0)]))))))))))))) []),
 o1 17 (.fieldAddr 0 (tm 3)),
 o1 18 (.load (some 2) (tm 17)),
 ⟨none, .store 170 (tm 0) (tm 16), none, [(some 18, .load (some 2) (tm 17), none), (some 17, .fieldAddr 0 (tm 3), none)], false⟩,
 ⟨none, .store 2 (tm 1) (tm 18), none, [], true⟩])))
 .skip)))
noncomputable def msg_Decode_1 : AFunc := ⟨19, [], msg_Decode_1_c, none⟩
theorem msg_Decode_1_t : T0 20 = some msg_Decode_1 := withKept_t rfl (withTrue_t rfl (by kernel_rfl : tableOf Tryz.prog 20 = some msg_Decode_1))
theorem msg_Decode_1_runs {v0 v1 : Value} {h : Heap} {R : RP} {X : XP} (k : RunC Tryz.prog T0 msg_Decode_1_c ⟨[v0, v1, U, U, U, U, U, U, U, U, U, U, U, U, U, U, U, U, U], [], h, none⟩ (bodyQ Tryz.prog T0 [] R X)) :
 Runs Tryz.prog T0 (.fn 20) [v0, v1] h R X := Runs.fn msg_Decode_1_t rfl k
theorem msg_Decode_1_df {v0 v1 : Value} {u : FrameMode} {h : Heap} {R : FrameMode → Heap → Prop} {X : List PanicEntry → FrameMode → Heap → Prop} (k : RunT Tryz.prog T0 msg_Decode_1_c ⟨⟨[v0, v1, U, U, U, U, U, U, U, U, U, U, U, U, U, U, U, U, U], [], h, none⟩, u⟩ (doneQ [] R X)) :
 RunDf Tryz.prog T0 20 [v0, v1] u h R X := RunDf.fn msg_Decode_1_t rfl k
abbrev fn_msg_must : FuncId := 21
noncomputable def msg_must_c : ACode :=
 (.seq (.region [
 o1 6 (.mov (tm 0)),
 o1 7 (.raw (so (.unOp .not 4 (tm 6)) 4))]) (.cond (tm 7)
 (.region [
 o1 8 (.mov (tm 1)),
 o1 9 (.mov (tm 2)),
 o1 10 (.build [(.int .i64 0), (.int .i64 0)] [(0, 1, (tm 8)), (1, 1, (tm 9))]),
 o1 11 (.build [(.int .i64 0), (.int .i64 0)] [(0, 2, (tm 10))]),
 o1 12 (.mkIface 58 (tm 11)),
 o3 (.panic (tm 12))])
 .skip))
noncomputable def msg_must : AFunc := ⟨13, [], msg_must_c, none⟩
theorem msg_must_t : T0 21 = some msg_must := withKept_t rfl (withTrue_t rfl (by kernel_rfl : tableOf Tryz.prog 21 = some msg_must))
theorem msg_must_runs {v0 v1 v2 : Value} {h : Heap} {R : RP} {X : XP} (k : RunC Tryz.prog T0 msg_must_c ⟨[v0, v1, v2, U, U, U, U, U, U, U, U, U, U], [], h, none⟩ (bodyQ Tryz.prog T0 [] R X)) :
 Runs Tryz.prog T0 (.fn 21) [v0, v1, v2] h R X := Runs.fn msg_must_t rfl k
abbrev fn_wire_NewReader : FuncId := 22
noncomputable def wire_NewReader_c : ACode :=
 (.seq (.region [
 o1 2 (.mov (.const (.pointer none)))]) (.seq (.region [
 o1 3 (.mov (tm 0)),
 o1 4 (.callV (.func 60) [(tm 3)]),
 o1 5 (.build [(.slice none 0 0), (.int .i64 0), (.int .i64 0), (.int .i64 0), (.bool false)] [(0, 1, (tm 4)), (4, 1, (.const (.bool true)))]),
 o1 6 (.box 99 (tm 5)),
 o1 2 (.mov (tm 6))]) .ret))
noncomputable def wire_NewReader : AFunc := ⟨7, [(2, none)], wire_NewReader_c, none⟩
theorem wire_NewReader_t : T0 22 = some wire_NewReader := withKept_t rfl (withTrue_t rfl (by kernel_rfl : tableOf Tryz.prog 22 = some wire_NewReader))
theorem wire_NewReader_runs {v0 : Value} {h : Heap} {R : RP} {X : XP} (k : RunC Tryz.prog T0 wire_NewReader_c ⟨[v0, U, U, U, U, U, U], [], h, none⟩ (bodyQ Tryz.prog T0 [(2, none)] R X)) :
 Runs Tryz.prog T0 (.fn 22) [v0] h R X := Runs.fn wire_NewReader_t rfl k
abbrev fn_wire_Reader_Num : FuncId := 23
noncomputable def wire_Reader_Num_c : ACode :=
 (.seq (.region [
 o1 2 (.mov k0)]) (.seq (.region [
 o1 3 (.mov (tm 0)),
 o1 4 (.mov (tm 0)),
 o1 5 (.mkFunc (.func 62) [(tm 4)] []),
 o1 6 (.callV (.func 61) [(tm 3), (tm 5)]),
 o1 2 (.mov (tm 6))]) .ret))
noncomputable def wire_Reader_Num : AFunc := ⟨7, [(2, none)], wire_Reader_Num_c, none⟩
theorem wire_Reader_Num_t : T0 23 = some wire_Reader_Num := withKept_t rfl (withTrue_t rfl (by kernel_rfl : tableOf Tryz.prog 23 = some wire_Reader_Num))
theorem wire_Reader_Num_runs {v0 : Value} {h : Heap} {R : RP} {X : XP} (k : RunC Tryz.prog T0 wire_Reader_Num_c ⟨[v0, U, U, U, U, U, U], [], h, none⟩ (bodyQ Tryz.prog T0 [(2, none)] R X)) :
 Runs Tryz.prog T0 (.fn 23) [v0] h R X := Runs.fn wire_Reader_Num_t rfl k
abbrev fn_msg_reader_fine : FuncId := 24
noncomputable def msg_reader_fine_c : ACode :=
 (.seq (.region [
 o1 1 (.box 64 (tm 0))]) (.seq (.region [
 o1 3 (.fieldAddr 0 (tm 1)),
 o1 4 (.load none (tm 3)),
 o1 5 (.callV (.func 30) [(tm 4)]),
 o1 2 (.alloc 43 [(.int .i64 0), (.int .i64 0)]),
 o3 (.store 2 (tm 2) (tm 5))]) (.regionD [
 o1 6 (.fieldAddr 0 (tm 2)),
 o1 7 (.load none (tm 6)),
 o1 8 (.bin .eql (so (.binOp .eql 41 (tm 7) k0 41) 4) (tm 7) k0),
 o1 9 (.mov (tm 8)),
 o5 10 (.fieldAddr 0 (tm 1)) 9,
 o5 11 (.load none (tm 10)) 9,
 o1 15 (.fieldAddr 0 (tm 2)),
 o1 16 (.load none (tm 15)),
 o1 17 (.fieldAddr 1 (tm 2)),
 o1 18 (.load none (tm 17)),
 ⟨some 12, .callV (.func 63) [(tm 11)], some (9, false), [(some 18, .load none (tm 17), none), (some 17, .fieldAddr 1 (tm 2), none), (some 16, .load none (tm 15), none), (some 15, .fieldAddr 0 (tm 2), none)], false⟩,
 o5 13 (.bin .gtr (so (.binOp .gtr 3 (tm 12) k0 3) 4) (tm 12) k0) 9,
 o1 14 (.pick (tm 9) (.const (.bool true)) (tm 13)),
 o2 19 (.callV (.func 21) [(tm 14), (tm 16), (tm 18)])])))
noncomputable def msg_reader_fine : AFunc := ⟨20, [], msg_reader_fine_c, none⟩
theorem msg_reader_fine_t : T0 24 = some msg_reader_fine := withKept_t rfl (withTrue_t rfl (by kernel_rfl : tableOf Tryz.prog 24 = some msg_reader_fine))
theorem msg_reader_fine_runs {v0 : Value} {h : Heap} {R : RP} {X : XP} (k : RunC Tryz.prog T0 msg_reader_fine_c ⟨[v0, U, U, U, U, U, U, U, U, U, U, U, U, U, U, U, U, U, U, U], [], h, none⟩ (bodyQ Tryz.prog T0 [] R X)) :
 Runs Tryz.prog T0 (.fn 24) [v0] h R X := Runs.fn msg_reader_fine_t rfl k
abbrev fn_msg_reader_num : FuncId := 25
noncomputable def msg_reader_num_c : ACode :=
 (.seq (.region [
 o1 2 (.box 64 (tm 0)),
 o1 4 (.mov k0)]) (.seq (.region [
 o1 7 (.load (some 2) (tm 2)),
 o1 8 (.callV (.func 28) [(tm 7)]),
 o1 5 (.mov (tm 8))]) (.seq (.region [
 o1 9 (.fieldAddr 0 (tm 2)),
 o1 10 (.load none (tm 9)),
 o1 11 (.callV (.func 23) [(tm 10)]),
 o1 6 (.mov (tm 11))]) (.seq (.region [
 o1 12 (.load (some 2) (tm 2)),
 o1 13 (.callV (.func 24) [(tm 12)])]) (.seq (.region [
 o1 14 (.mov (tm 1)),
 o1 15 (.mov (tm 6)),
 o1 16 (.callV (tm 14) [(tm 15)]),
 o1 17 (.mov (tm 5)),
 o1 18 (.callV (.func 21) [(tm 16), (.const (.int .i64 3)), (tm 17)])]) (.seq (.region [
 o1 19 (.mov (tm 6)),
 o1 4 (.mov (tm 19))]) .ret))))))
noncomputable def msg_reader_num : AFunc := ⟨20, [(4, none)], msg_reader_num_c, none⟩
theorem msg_reader_num_t : T0 25 = some msg_reader_num := withKept_t rfl (withTrue_t rfl (by kernel_rfl : tableOf Tryz.prog 25 = some msg_reader_num))
theorem msg_reader_num_runs {v0 v1 : Value} {h : Heap} {R : RP} {X : XP} (k : RunC Tryz.prog T0 msg_reader_num_c ⟨[v0, v1, U, U, U, U, U, U, U, U, U, U, U, U, U, U, U, U, U, U], [], h, none⟩ (bodyQ Tryz.prog T0 [(4, none)] R X)) :
 Runs Tryz.prog T0 (.fn 25) [v0, v1] h R X := Runs.fn msg_reader_num_t rfl k
abbrev fn_msg_number : FuncId := 26
noncomputable def msg_number_c : ACode :=
 (.seq (.region [
 o1 2 (.mov (.const (.bool false)))]) (.seq (.region [
 o1 3 (.mov (tm 0)),
 o1 4 (.bin .geq (so (.binOp .geq 3 (tm 3) (.const (.int .i64 1)) 3) 4) (tm 3) (.const (.int .i64 1))),
 o1 5 (.mov (tm 4)),
 o4 6 (.mov (tm 0)) 5,
 o4 7 (.bin .leq (so (.binOp .leq 3 (tm 6) (.const (.int .i64 1099511627776)) 3) 4) (tm 6) (.const (.int .i64 1099511627776))) 5,
 o1 8 (.pick (tm 5) (tm 7) (.const (.bool false))),
 o1 2 (.mov (tm 8))]) .ret))
noncomputable def msg_number : AFunc := ⟨9, [(2, none)], msg_number_c, none⟩
theorem msg_number_t : T0 26 = some msg_number := withKept_t rfl (withTrue_t rfl (by kernel_rfl : tableOf Tryz.prog 26 = some msg_number))
theorem msg_number_runs {v0 : Value} {h : Heap} {R : RP} {X : XP} (k : RunC Tryz.prog T0 msg_number_c ⟨[v0, U, U, U, U, U, U, U, U], [], h, none⟩ (bodyQ Tryz.prog T0 [(2, none)] R X)) :
 Runs Tryz.prog T0 (.fn 26) [v0] h R X := Runs.fn msg_number_t rfl k
abbrev fn_msg_height : FuncId := 27
noncomputable def msg_height_c : ACode :=
 (.seq (.region [
 o1 2 (.mov (.const (.bool false)))]) (.seq (.region [
 o1 3 (.mov (tm 0)),
 o1 4 (.bin .geq (so (.binOp .geq 3 (tm 3) (.const (.int .i64 1)) 3) 4) (tm 3) (.const (.int .i64 1))),
 o1 5 (.mov (tm 4)),
 o4 6 (.mov (tm 0)) 5,
 o4 7 (.bin .leq (so (.binOp .leq 3 (tm 6) (.const (.int .i64 1073741824)) 3) 4) (tm 6) (.const (.int .i64 1073741824))) 5,
 o1 8 (.pick (tm 5) (tm 7) (.const (.bool false))),
 o1 2 (.mov (tm 8))]) .ret))
noncomputable def msg_height : AFunc := ⟨9, [(2, none)], msg_height_c, none⟩
theorem msg_height_t : T0 27 = some msg_height := withKept_t rfl (withTrue_t rfl (by kernel_rfl : tableOf Tryz.prog 27 = some msg_height))
theorem msg_height_runs {v0 : Value} {h : Heap} {R : RP} {X : XP} (k : RunC Tryz.prog T0 msg_height_c ⟨[v0, U, U, U, U, U, U, U, U], [], h, none⟩ (bodyQ Tryz.prog T0 [(2, none)] R X)) :
 Runs Tryz.prog T0 (.fn 27) [v0] h R X := Runs.fn msg_height_t rfl k
abbrev fn_msg_reader_at : FuncId := 28
noncomputable def msg_reader_at_c : ACode :=
 (.seq (.region [
 o1 1 (.box 64 (tm 0)),
 o1 2 (.mov k0)]) (.seq (.regionD [
 o1 3 (.fieldAddr 1 (tm 1)),
 o1 4 (.load none (tm 3)),
 o1 5 (.fieldAddr 0 (tm 1)),
 o1 6 (.load none (tm 5)),
 ⟨some 7, .callV (.func 63) [(tm 6)], none, [(some 4, .load none (tm 3), none), (some 3, .fieldAddr 1 (tm 1), none)], false⟩,
 o2 8 (.bin .sub (so (.binOp .sub 3 (tm 4) (tm 7) 3) 3) (tm 4) (tm 7)),
 o2 2 (.mov (tm 8))]) .ret))
noncomputable def msg_reader_at : AFunc := ⟨9, [(2, none)], msg_reader_at_c, none⟩
theorem msg_reader_at_t : T0 28 = some msg_reader_at := withKept_t rfl (withTrue_t rfl (by kernel_rfl : tableOf Tryz.prog 28 = some msg_reader_at))
theorem msg_reader_at_runs {v0 : Value} {h : Heap} {R : RP} {X : XP} (k : RunC Tryz.prog T0 msg_reader_at_c ⟨[v0, U, U, U, U, U, U, U, U], [], h, none⟩ (bodyQ Tryz.prog T0 [(2, none)] R X)) :
 Runs Tryz.prog T0 (.fn 28) [v0] h R X := Runs.fn msg_reader_at_t rfl k
abbrev fn_wire_Reader_Bytes : FuncId := 29
noncomputable def wire_Reader_Bytes_c : ACode :=
 (.seq (.region [
 o1 2 (.box 61 (tm 0)),
 o1 3 (.box 3 (tm 1)),
 o1 4 (.mov (.const (.slice none 0 0)))]) (.seq (.region [
 o1 5 (.load none (tm 2)),
 o1 6 (.mkFunc (.func 65) [] [(tm 2), (tm 3)]),
 o1 7 (.callV (.func 64) [(tm 5), (tm 6)]),
 o1 4 (.mov (tm 7))]) .ret))
noncomputable def wire_Reader_Bytes : AFunc := ⟨8, [(4, none)], wire_Reader_Bytes_c, none⟩
theorem wire_Reader_Bytes_t : T0 29 = some wire_Reader_Bytes := withKept_t rfl (withTrue_t rfl (by kernel_rfl : tableOf Tryz.prog 29 = some wire_Reader_Bytes))
theorem wire_Reader_Bytes_runs {v0 v1 : Value} {h : Heap} {R : RP} {X : XP} (k : RunC Tryz.prog T0 wire_Reader_Bytes_c ⟨[v0, v1, U, U, U, U, U, U], [], h, none⟩ (bodyQ Tryz.prog T0 [(4, none)] R X)) :
 Runs Tryz.prog T0 (.fn 29) [v0, v1] h R X := Runs.fn wire_Reader_Bytes_t rfl k
abbrev fn_wire_Reader_End : FuncId := 30
noncomputable def wire_Reader_End_c : ACode :=
 (.seq (.region [
 o1 2 (.alloc 43 [(.int .i64 0), (.int .i64 0)])]) (.seq (.block 0 (.seq (.region [
 o1 4 (.mov (tm 0)),
 o1 5 (.eq .ptr false (so (.binOp .eql 61 (tm 4) (.const (.pointer none)) 61) 4) (tm 4) (.const (.pointer none))),
 o1 6 (.mov (tm 5)),
 o5 7 (.mov (tm 0)) 6,
 o5 8 (.nilCheck (tm 7)) 6,
 o5 9 (.fieldAddr 4 (tm 8)) 6,
 o5 10 (.load none (tm 9)) 6,
 o5 11 (.raw (so (.unOp .not 4 (tm 10)) 4)) 6,
 o1 12 (.pick (tm 6) (.const (.bool true)) (tm 11)),
 o1 3 (.mov (tm 12))]) (.cond (tm 3)
 (.seq (.region [
 o1 13 (.build [(.int .i64 0), (.int .i64 0)] [(0, 1, (.const (.int .i64 1)))]),
 o3 (.store 2 (tm 2) (tm 13))]) .ret)
 (.seq (.regionD [
 o2 15 (.mov (tm 0)),
 o2 16 (.nilCheck (tm 15)),
 o2 17 (.fieldAddr 2 (tm 16)),
 o2 18 (.fieldAddr 0 (tm 17)),
 o2 19 (.load none (tm 18)),
 o2 20 (.bin .eql (so (.binOp .eql 41 (tm 19) k0 41) 4) (tm 19) k0),
 o2 21 (.mov (tm 20)),
 o4 22 (.mov (tm 0)) 21,
 o4 23 (.nilCheck (tm 22)) 21,
 o4 24 (.fieldAddr 1 (tm 23)) 21,
 o4 25 (.load none (tm 24)) 21,
 o4 26 (.mov (tm 0)) 21,
 o4 27 (.nilCheck (tm 26)) 21,
 o4 28 (.fieldAddr 0 (tm 27)) 21,
 o4 29 (.load none (tm 28)) 21,
 o4 30 (.lenSl (tm 29)) 21,
 ⟨some 31, .bin .lss (so (.binOp .lss 3 (tm 25) (tm 30) 3) 4) (tm 25) (tm 30), some (21, true), [], true⟩,
 o2 32 (.pick (tm 21) (tm 31) (.const (.bool false))),
 o2 14 (.mov (tm 32))]) (.cond (tm 14)
 (.seq (.region [
 o1 33 (.mov (tm 0)),
 o1 34 (.nilCheck (tm 33)),
 o1 35 (.fieldAddr 1 (tm 34)),
 o1 36 (.load none (tm 35)),
 o1 37 (.build [(.int .i64 0), (.int .i64 0)] [(0, 1, (.const (.int .i64 4))), (1, 1, (tm 36))]),
 o3 (.store 2 (tm 2) (tm 37))]) .ret)
 .skip))))) (.seq (.region [
 o1 38 (.mov (tm 0)),
 o1 39 (.nilCheck (tm 38)),
 o1 40 (.fieldAddr 2 (tm 39)),
 o1 41 (.load (some 2) (tm 40)),
 o3 (.store 2 (tm 2) (tm 41))]) .ret)))
noncomputable def wire_Reader_End : AFunc := ⟨42, [(2, some (some 2))], wire_Reader_End_c, none⟩
theorem wire_Reader_End_t : T0 30 = some wire_Reader_End := withKept_t rfl (withTrue_t rfl (by kernel_rfl : tableOf Tryz.prog 30 = some wire_Reader_End))
theorem wire_Reader_End_runs {v0 : Value} {h : Heap} {R : RP} {X : XP} (k : RunC Tryz.prog T0 wire_Reader_End_c ⟨[v0, U, U, U, U, U, U, U, U, U, U, U, U, U, U, U, U, U, U, U, U, U, U, U, U, U, U, U, U, U, U, U, U, U, U, U, U, U, U, U, U, U], [], h, none⟩ (bodyQ Tryz.prog T0 [(2, some (some 2))] R X)) :
 Runs Tryz.prog T0 (.fn 30) [v0] h R X := Runs.fn wire_Reader_End_t rfl k
abbrev fn_lr04_NewReader : FuncId := 31
noncomputable def lr04_NewReader_c : ACode :=
 (.seq (.region [
 o1 2 (.mov (.const (.pointer none)))]) (.seq (.region [
 o1 3 (.buildSlice 5 [] 0 []),
 o1 4 (.mov (tm 0)),
 o1 5 (.append 5 1 1 [(.int .u8 0)] false (tm 3) (tm 4)),
 o1 6 (.build [(.slice none 0 0), (.int .i64 0), (.int .i64 0), (.int .i64 0)] [(0, 1, (tm 5))]),
 o1 7 (.box 72 (tm 6)),
 o1 2 (.mov (tm 7))]) .ret))
noncomputable def lr04_NewReader : AFunc := ⟨8, [(2, none)], lr04_NewReader_c, none⟩
theorem lr04_NewReader_t : T0 31 = some lr04_NewReader := withKept_t rfl (withTrue_t rfl (by kernel_rfl : tableOf Tryz.prog 31 = some lr04_NewReader))
theorem lr04_NewReader_runs {v0 : Value} {h : Heap} {R : RP} {X : XP} (k : RunC Tryz.prog T0 lr04_NewReader_c ⟨[v0, U, U, U, U, U, U, U], [], h, none⟩ (bodyQ Tryz.prog T0 [(2, none)] R X)) :
 Runs Tryz.prog T0 (.fn 31) [v0] h R X := Runs.fn lr04_NewReader_t rfl k
abbrev fn_lr04_Reader_Num : FuncId := 32
noncomputable def lr04_Reader_Num_l0 : ACode :=
 (.seq (.seq (.region [
 o1 40 (.mov (tm 7)),
 o1 41 (.mov (tm 5)),
 o1 42 (.lenSl (tm 41)),
 o1 43 (.bin .lss (so (.binOp .lss 3 (tm 40) (tm 42) 3) 4) (tm 40) (tm 42))]) (.cond (tm 43)
 .skip
 (.exit 0))) (.seq (.block 1 (.region [
 o1 46 (.mov (tm 6)),
 o1 47 (.bin .shl (so (.binOp .shl 105 (tm 46) (.const (.int .u64 8)) 106) 105) (tm 46) (.const (.int .u64 8))),
 o1 48 (.mov (tm 5)),
 o1 49 (.mov (tm 7)),
 o1 50 (.indexSl 1 (tm 48) (tm 49)),
 o1 51 (.load none (tm 50)),
 o1 52 (.conv .u64 (so (.convert 5 105 (tm 51)) 105) (tm 51)),
 o1 53 (.bin .or (so (.binOp .or 105 (tm 47) (tm 52) 105) 105) (tm 47) (tm 52)),
 o1 6 (.mov (tm 53))])) (.region [
 o1 44 (.mov (tm 7)),
 o1 45 (.bin .add (so (.binOp .add 3 (tm 44) (.const (.int .i64 1)) 3) 3) (tm 44) (.const (.int .i64 1))),
 o1 7 (.mov (tm 45))])))
noncomputable def lr04_Reader_Num_c : ACode :=
 (.seq (.region [
 o1 2 (.mov k0)]) (.seq (.region [
 o1 8 (.mov (tm 0)),
 o1 9 (.nilCheck (tm 8)),
 o1 10 (.fieldAddr 1 (tm 9)),
 o1 11 (.load none (tm 10)),
 o1 3 (.mov (tm 11))]) (.seq (.region [
 o1 12 (.mov (tm 0)),
 o1 13 (.mov (tm 3)),
 o1 14 (.callV (.func 68) [(tm 12), (.const (.int .i64 1)), (tm 13)]),
 o1 4 (.mov (tm 14))]) (.seq (.seq (.region [
 o1 15 (.mov (tm 4)),
 o1 16 (.lenSl (tm 15)),
 o1 17 (.bin .eql (so (.binOp .eql 3 (tm 16) (.const (.int .i64 1)) 3) 4) (tm 16) (.const (.int .i64 1))),
 o1 18 (.mov (tm 17)),
 o4 19 (.mov (tm 4)) 18,
 o4 20 (.indexSl 1 (tm 19) k0) 18,
 o4 21 (.load none (tm 20)) 18,
 o4 22 (.bin .gtr (so (.binOp .gtr 5 (tm 21) (.const (.int .u8 8)) 5) 4) (tm 21) (.const (.int .u8 8))) 18,
 o1 23 (.pick (tm 18) (tm 22) (.const (.bool false)))]) (.cond (tm 23)
 (.region [
 o1 24 (.mov (tm 0)),
 o1 25 (.mov (tm 3)),
 o1 26 (.callV (.func 33) [(tm 24), (.const (.int .i64 5)), (tm 25)])])
 .skip)) (.seq (.seq (.region [
 o1 27 (.mov (tm 0)),
 o1 28 (.nilCheck (tm 27)),
 o1 29 (.fieldAddr 2 (tm 28)),
 o1 30 (.fieldAddr 0 (tm 29)),
 o1 31 (.load none (tm 30)),
 o1 32 (.bin .neq (so (.binOp .neq 41 (tm 31) k0 41) 4) (tm 31) k0)]) (.cond (tm 32)
 (.seq (.region [
 o1 2 (.mov k0)]) .ret)
 .skip)) (.seq (.region [
 o1 33 (.mov (tm 0)),
 o1 34 (.mov (tm 4)),
 o1 35 (.indexSl 1 (tm 34) k0),
 o1 36 (.load none (tm 35)),
 o1 37 (.conv .i64 (so (.convert 5 3 (tm 36)) 3) (tm 36)),
 o1 38 (.mov (tm 3)),
 o1 39 (.callV (.func 68) [(tm 33), (tm 37), (tm 38)]),
 o1 5 (.mov (tm 39))]) (.seq (.region [
 o1 6 (.mov (.const (.int .u64 0)))]) (.seq (.seq (.region [
 o1 7 (.mov k0)]) (.block 0 (.loop lr04_Reader_Num_l0))) (.seq (.seq (.region [
 o1 54 (.mov (tm 5)),
 o1 55 (.lenSl (tm 54)),
 o1 56 (.bin .gtr (so (.binOp .gtr 3 (tm 55) k0 3) 4) (tm 55) k0),
 o1 57 (.mov (tm 56)),
 o4 58 (.mov (tm 5)) 57,
 o4 59 (.indexSl 1 (tm 58) k0) 57,
 o4 60 (.load none (tm 59)) 57,
 o4 61 (.bin .eql (so (.binOp .eql 5 (tm 60) (.const (.int .u8 0)) 5) 4) (tm 60) (.const (.int .u8 0))) 57,
 o1 62 (.pick (tm 57) (tm 61) (.const (.bool false))),
 o1 63 (.mov (tm 62)),
 o5 64 (.mov (tm 6)) 63,
 o5 65 (.bin .shr (so (.binOp .shr 105 (tm 64) (.const (.int .u64 63)) 106) 105) (tm 64) (.const (.int .u64 63))) 63,
 o5 66 (.bin .eql (so (.binOp .eql 105 (tm 65) (.const (.int .u64 1)) 105) 4) (tm 65) (.const (.int .u64 1))) 63,
 o1 67 (.pick (tm 63) (.const (.bool true)) (tm 66))]) (.cond (tm 67)
 (.region [
 o1 68 (.mov (tm 0)),
 o1 69 (.mov (tm 3)),
 o1 70 (.callV (.func 33) [(tm 68), (.const (.int .i64 5)), (tm 69)])])
 .skip)) (.seq (.seq (.region [
 o1 71 (.mov (tm 0)),
 o1 72 (.nilCheck (tm 71)),
 o1 73 (.fieldAddr 2 (tm 72)),
 o1 74 (.fieldAddr 0 (tm 73)),
 o1 75 (.load none (tm 74)),
 o1 76 (.bin .neq (so (.binOp .neq 41 (tm 75) k0 41) 4) (tm 75) k0)]) (.cond (tm 76)
 (.seq (.region [
 o1 2 (.mov k0)]) .ret)
 .skip)) (.seq (.region [
 o1 77 (.mov (tm 6)),
 o1 78 (.conv .i64 (so (.convert 105 3 (tm 77)) 3) (tm 77)),
 o1 2 (.mov (tm 78))]) .ret)))))))))))
noncomputable def lr04_Reader_Num : AFunc := ⟨79, [(2, none)], lr04_Reader_Num_c, none⟩
theorem lr04_Reader_Num_t : T0 32 = some lr04_Reader_Num := withKept_t rfl (withTrue_t rfl (by kernel_rfl : tableOf Tryz.prog 32 = some lr04_Reader_Num))
theorem lr04_Reader_Num_runs {v0 : Value} {h : Heap} {R : RP} {X : XP} (k : RunC Tryz.prog T0 lr04_Reader_Num_c ⟨[v0, U, U, U, U, U, U, U, U, U, U, U, U, U, U, U, U, U, U, U, U, U, U, U, U, U, U, U, U, U, U, U, U, U, U, U, U, U, U, U, U, U, U, U, U, U, U, U, U, U, U, U, U, U, U, U, U, U, U, U, U, U, U, U, U, U, U, U, U, U, U, U, U, U, U, U, U, U, U], [], h, none⟩ (bodyQ Tryz.prog T0 [(2, none)] R X)) :
 Runs Tryz.prog T0 (.fn 32) [v0] h R X := Runs.fn lr04_Reader_Num_t rfl k
/-- the slots that turn in the loop: v6 v7 -/
noncomputable def lr04_Reader_Num_l0_J (f0 f1 f2 f3 f4 f5 f8 f9 f10 f11 f12 f13 f14 f15 f16 f17 f18 f19 f20 f21 f22 f23 f24 f25 f26 f27 f28 f29 f30 f31 f32 f33 f34 f35 f36 f37 f38 f39 f54 f55 f56 f57 f58 f59 f60 f61 f62 f63 f64 f65 f66 f67 f68 f69 f70 f71 f72 f73 f74 f75 f76 f77 f78 : Value) (ds : List Deferred) (rd : Option Nat) (I : Nat → Value → Value → Heap → Prop) (m : Nat) (s : St) : Prop := ∃ (v6 v7 : Value), ∃ h : Heap, ∃ (x40 x41 x42 x43 x44 x45 x46 x47 x48 x49 x50 x51 x52 x53 : Value), s = ⟨[f0, f1, f2, f3, f4, f5, v6, v7, f8, f9, f10, f11, f12, f13, f14, f15, f16, f17, f18, f19, f20, f21, f22, f23, f24, f25, f26, f27, f28, f29, f30, f31, f32, f33, f34, f35, f36, f37, f38, f39, x40, x41, x42, x43, x44, x45, x46, x47, x48, x49, x50, x51, x52, x53, f54, f55, f56, f57, f58, f59, f60, f61, f62, f63, f64, f65, f66, f67, f68, f69, f70, f71, f72, f73, f74, f75, f76, f77, f78], ds, h, rd⟩ ∧ I m v6 v7 h
theorem lr04_Reader_Num_l0_rule {f0 f1 f2 f3 f4 f5 f8 f9 f10 f11 f12 f13 f14 f15 f16 f17 f18 f19 f20 f21 f22 f23 f24 f25 f26 f27 f28 f29 f30 f31 f32 f33 f34 f35 f36 f37 f38 f39 f54 f55 f56 f57 f58 f59 f60 f61 f62 f63 f64 f65 f66 f67 f68 f69 f70 f71 f72 f73 f74 f75 f76 f77 f78 : Value} {ds : List Deferred} {rd : Option Nat} {Q : QP} (I : Nat → Value → Value → Heap → Prop) (hb : ∀ (m : Nat) (v6 v7 : Value) (h : Heap) (x40 x41 x42 x43 x44 x45 x46 x47 x48 x49 x50 x51 x52 x53 : Value) , I m v6 v7 h → RunC Tryz.prog T0 lr04_Reader_Num_l0 ⟨[f0, f1, f2, f3, f4, f5, v6, v7, f8, f9, f10, f11, f12, f13, f14, f15, f16, f17, f18, f19, f20, f21, f22, f23, f24, f25, f26, f27, f28, f29, f30, f31, f32, f33, f34, f35, f36, f37, f38, f39, x40, x41, x42, x43, x44, x45, x46, x47, x48, x49, x50, x51, x52, x53, f54, f55, f56, f57, f58, f59, f60, f61, f62, f63, f64, f65, f66, f67, f68, f69, f70, f71, f72, f73, f74, f75, f76, f77, f78], ds, h, rd⟩ (loopQ (lr04_Reader_Num_l0_J f0 f1 f2 f3 f4 f5 f8 f9 f10 f11 f12 f13 f14 f15 f16 f17 f18 f19 f20 f21 f22 f23 f24 f25 f26 f27 f28 f29 f30 f31 f32 f33 f34 f35 f36 f37 f38 f39 f54 f55 f56 f57 f58 f59 f60 f61 f62 f63 f64 f65 f66 f67 f68 f69 f70 f71 f72 f73 f74 f75 f76 f77 f78 ds rd I) m Q))
 (m : Nat) {v6 v7 : Value} {h : Heap} {x40 x41 x42 x43 x44 x45 x46 x47 x48 x49 x50 x51 x52 x53 : Value} (hi : I m v6 v7 h) : RunC Tryz.prog T0 (.loop lr04_Reader_Num_l0) ⟨[f0, f1, f2, f3, f4, f5, v6, v7, f8, f9, f10, f11, f12, f13, f14, f15, f16, f17, f18, f19, f20, f21, f22, f23, f24, f25, f26, f27, f28, f29, f30, f31, f32, f33, f34, f35, f36, f37, f38, f39, x40, x41, x42, x43, x44, x45, x46, x47, x48, x49, x50, x51, x52, x53, f54, f55, f56, f57, f58, f59, f60, f61, f62, f63, f64, f65, f66, f67, f68, f69, f70, f71, f72, f73, f74, f75, f76, f77, f78], ds, h, rd⟩ Q :=
 RunC.loopJ (lr04_Reader_Num_l0_J f0 f1 f2 f3 f4 f5 f8 f9 f10 f11 f12 f13 f14 f15 f16 f17 f18 f19 f20 f21 f22 f23 f24 f25 f26 f27 f28 f29 f30 f31 f32 f33 f34 f35 f36 f37 f38 f39 f54 f55 f56 f57 f58 f59 f60 f61 f62 f63 f64 f65 f66 f67 f68 f69 f70 f71 f72 f73 f74 f75 f76 f77 f78 ds rd I) (fun m s hj => by obtain ⟨v6, v7, h, x40, x41, x42, x43, x44, x45, x46, x47, x48, x49, x50, x51, x52, x53, rfl, hi⟩ := hj; exact hb m v6 v7 h x40 x41 x42 x43 x44 x45 x46 x47 x48 x49 x50 x51 x52 x53 hi) m _ ⟨_, _, h, _, _, _, _, _, _, _, _, _, _, _, _, _, _, rfl, hi⟩
theorem lr04_Reader_Num_l0_again {f0 f1 f2 f3 f4 f5 f8 f9 f10 f11 f12 f13 f14 f15 f16 f17 f18 f19 f20 f21 f22 f23 f24 f25 f26 f27 f28 f29 f30 f31 f32 f33 f34 f35 f36 f37 f38 f39 f54 f55 f56 f57 f58 f59 f60 f61 f62 f63 f64 f65 f66 f67 f68 f69 f70 f71 f72 f73 f74 f75 f76 f77 f78 : Value} {ds : List Deferred} {rd : Option Nat} {Q : QP} {I : Nat → Value → Value → Heap → Prop} {m : Nat} (m' : Nat) {v6 v7 : Value} {h : Heap} {x40 x41 x42 x43 x44 x45 x46 x47 x48 x49 x50 x51 x52 x53 : Value} (hm : m' < m) (hi : I m' v6 v7 h) : loopQ (lr04_Reader_Num_l0_J f0 f1 f2 f3 f4 f5 f8 f9 f10 f11 f12 f13 f14 f15 f16 f17 f18 f19 f20 f21 f22 f23 f24 f25 f26 f27 f28 f29 f30 f31 f32 f33 f34 f35 f36 f37 f38 f39 f54 f55 f56 f57 f58 f59 f60 f61 f62 f63 f64 f65 f66 f67 f68 f69 f70 f71 f72 f73 f74 f75 f76 f77 f78 ds rd I) m Q .normal ⟨[f0, f1, f2, f3, f4, f5, v6, v7, f8, f9, f10, f11, f12, f13, f14, f15, f16, f17, f18, f19, f20, f21, f22, f23, f24, f25, f26, f27, f28, f29, f30, f31, f32, f33, f34, f35, f36, f37, f38, f39, x40, x41, x42, x43, x44, x45, x46, x47, x48, x49, x50, x51, x52, x53, f54, f55, f56, f57, f58, f59, f60, f61, f62, f63, f64, f65, f66, f67, f68, f69, f70, f71, f72, f73, f74, f75, f76, f77, f78], ds, h, rd⟩ :=
 loopQ.again m' hm ⟨_, _, h, _, _, _, _, _, _, _, _, _, _, _, _, _, _, rfl, hi⟩
abbrev fn_lr04_Reader_Fails : FuncId := 33
noncomputable def lr04_Reader_Fails_c : ACode :=
 (.seq (.region [
 o1 6 (.mov (tm 0)),
 o1 7 (.nilCheck (tm 6)),
 o1 8 (.fieldAddr 2 (tm 7)),
 o1 9 (.fieldAddr 0 (tm 8)),
 o1 10 (.load none (tm 9)),
 o1 11 (.bin .eql (so (.binOp .eql 41 (tm 10) k0 41) 4) (tm 10) k0)]) (.cond (tm 11)
 (.region [
 o1 12 (.mov (tm 0)),
 o1 13 (.mov (tm 1)),
 o1 14 (.mov (tm 2)),
 o1 15 (.build [(.int .i64 0), (.int .i64 0)] [(0, 1, (tm 13)), (1, 1, (tm 14))]),
 o1 16 (.nilCheck (tm 12)),
 o1 17 (.fieldAddr 2 (tm 16)),
 o3 (.store 2 (tm 17) (tm 15))])
 .skip))
noncomputable def lr04_Reader_Fails : AFunc := ⟨18, [], lr04_Reader_Fails_c, none⟩
theorem lr04_Reader_Fails_t : T0 33 = some lr04_Reader_Fails := withKept_t rfl (withTrue_t rfl (by kernel_rfl : tableOf Tryz.prog 33 = some lr04_Reader_Fails))
theorem lr04_Reader_Fails_runs {v0 v1 v2 : Value} {h : Heap} {R : RP} {X : XP} (k : RunC Tryz.prog T0 lr04_Reader_Fails_c ⟨[v0, v1, v2, U, U, U, U, U, U, U, U, U, U, U, U, U, U, U], [], h, none⟩ (bodyQ Tryz.prog T0 [] R X)) :
 Runs Tryz.prog T0 (.fn 33) [v0, v1, v2] h R X := Runs.fn lr04_Reader_Fails_t rfl k
abbrev fn_lr14_number : FuncId := 34
noncomputable def lr14_number_c : ACode :=
 (.seq (.region [
 o1 2 (.mov (.const (.bool false)))]) (.seq (.region [
 o1 3 (.mov (tm 0)),
 o1 4 (.bin .geq (so (.binOp .geq 3 (tm 3) (.const (.int .i64 1)) 3) 4) (tm 3) (.const (.int .i64 1))),
 o1 5 (.mov (tm 4)),
 o4 6 (.mov (tm 0)) 5,
 o4 7 (.bin .leq (so (.binOp .leq 3 (tm 6) (.const (.int .i64 1099511627776)) 3) 4) (tm 6) (.const (.int .i64 1099511627776))) 5,
 o1 8 (.pick (tm 5) (tm 7) (.const (.bool false))),
 o1 2 (.mov (tm 8))]) .ret))
noncomputable def lr14_number : AFunc := ⟨9, [(2, none)], lr14_number_c, none⟩
theorem lr14_number_t : T0 34 = some lr14_number := withKept_t rfl (withTrue_t rfl (by kernel_rfl : tableOf Tryz.prog 34 = some lr14_number))
theorem lr14_number_runs {v0 : Value} {h : Heap} {R : RP} {X : XP} (k : RunC Tryz.prog T0 lr14_number_c ⟨[v0, U, U, U, U, U, U, U, U], [], h, none⟩ (bodyQ Tryz.prog T0 [(2, none)] R X)) :
 Runs Tryz.prog T0 (.fn 34) [v0] h R X := Runs.fn lr14_number_t rfl k
abbrev fn_lr14_height : FuncId := 35
noncomputable def lr14_height_c : ACode :=
 (.seq (.region [
 o1 2 (.mov (.const (.bool false)))]) (.seq (.region [
 o1 3 (.mov (tm 0)),
 o1 4 (.bin .geq (so (.binOp .geq 3 (tm 3) (.const (.int .i64 1)) 3) 4) (tm 3) (.const (.int .i64 1))),
 o1 5 (.mov (tm 4)),
 o4 6 (.mov (tm 0)) 5,
 o4 7 (.bin .leq (so (.binOp .leq 3 (tm 6) (.const (.int .i64 1073741824)) 3) 4) (tm 6) (.const (.int .i64 1073741824))) 5,
 o1 8 (.pick (tm 5) (tm 7) (.const (.bool false))),
 o1 2 (.mov (tm 8))]) .ret))
noncomputable def lr14_height : AFunc := ⟨9, [(2, none)], lr14_height_c, none⟩
theorem lr14_height_t : T0 35 = some lr14_height := withKept_t rfl (withTrue_t rfl (by kernel_rfl : tableOf Tryz.prog 35 = some lr14_height))
theorem lr14_height_runs {v0 : Value} {h : Heap} {R : RP} {X : XP} (k : RunC Tryz.prog T0 lr14_height_c ⟨[v0, U, U, U, U, U, U, U, U], [], h, none⟩ (bodyQ Tryz.prog T0 [(2, none)] R X)) :
 Runs Tryz.prog T0 (.fn 35) [v0] h R X := Runs.fn lr14_height_t rfl k
abbrev fn_lr04_Reader_Bytes : FuncId := 36
noncomputable def lr04_Reader_Bytes_c : ACode :=
 (.seq (.region [
 o1 4 (.mov (.const (.slice none 0 0)))]) (.seq (.region [
 o1 7 (.mov (tm 0)),
 o1 8 (.nilCheck (tm 7)),
 o1 9 (.fieldAddr 1 (tm 8)),
 o1 10 (.load none (tm 9)),
 o1 5 (.mov (tm 10))]) (.seq (.region [
 o1 11 (.mov (tm 0)),
 o1 12 (.callV (.func 32) [(tm 11)]),
 o1 6 (.mov (tm 12))]) (.seq (.seq (.region [
 o1 13 (.mov (tm 6)),
 o1 14 (.mov (tm 1)),
 o1 15 (.raw (so (.call ⟨.builtin .max, #[(tm 14), k0], #[3, 3]⟩) 3)),
 o1 16 (.bin .gtr (so (.binOp .gtr 3 (tm 13) (tm 15) 3) 4) (tm 13) (tm 15))]) (.cond (tm 16)
 (.region [
 o1 17 (.mov (tm 0)),
 o1 18 (.mov (tm 5)),
 o1 19 (.callV (.func 33) [(tm 17), (.const (.int .i64 4)), (tm 18)])])
 .skip)) (.seq (.region [
 o1 20 (.mov (tm 0)),
 o1 21 (.mov (tm 6)),
 o1 22 (.mov (tm 5)),
 o1 23 (.callV (.func 68) [(tm 20), (tm 21), (tm 22)]),
 o1 4 (.mov (tm 23))]) .ret)))))
noncomputable def lr04_Reader_Bytes : AFunc := ⟨24, [(4, none)], lr04_Reader_Bytes_c, none⟩
theorem lr04_Reader_Bytes_t : T0 36 = some lr04_Reader_Bytes := withKept_t rfl (withTrue_t rfl (by kernel_rfl : tableOf Tryz.prog 36 = some lr04_Reader_Bytes))
theorem lr04_Reader_Bytes_runs {v0 v1 : Value} {h : Heap} {R : RP} {X : XP} (k : RunC Tryz.prog T0 lr04_Reader_Bytes_c ⟨[v0, v1, U, U, U, U, U, U, U, U, U, U, U, U, U, U, U, U, U, U, U, U, U, U], [], h, none⟩ (bodyQ Tryz.prog T0 [(4, none)] R X)) :
 Runs Tryz.prog T0 (.fn 36) [v0, v1] h R X := Runs.fn lr04_Reader_Bytes_t rfl k
abbrev fn_lr04_Reader_End : FuncId := 37
noncomputable def lr04_Reader_End_c : ACode :=
 (.seq (.region [
 o1 2 (.alloc 43 [(.int .i64 0), (.int .i64 0)])]) (.seq (.seq (.regionD [
 o2 3 (.mov (tm 0)),
 o2 4 (.nilCheck (tm 3)),
 o2 5 (.fieldAddr 2 (tm 4)),
 o2 6 (.fieldAddr 0 (tm 5)),
 o2 7 (.load none (tm 6)),
 o2 8 (.bin .eql (so (.binOp .eql 41 (tm 7) k0 41) 4) (tm 7) k0),
 o2 9 (.mov (tm 8)),
 o4 10 (.mov (tm 0)) 9,
 o4 11 (.nilCheck (tm 10)) 9,
 o4 12 (.fieldAddr 1 (tm 11)) 9,
 o4 13 (.load none (tm 12)) 9,
 o4 14 (.mov (tm 0)) 9,
 o4 15 (.nilCheck (tm 14)) 9,
 o4 16 (.fieldAddr 0 (tm 15)) 9,
 o4 17 (.load none (tm 16)) 9,
 o4 18 (.lenSl (tm 17)) 9,
 ⟨some 19, .bin .lss (so (.binOp .lss 3 (tm 13) (tm 18) 3) 4) (tm 13) (tm 18), some (9, true), [], true⟩,
 o2 20 (.pick (tm 9) (tm 19) (.const (.bool false)))]) (.cond (tm 20)
 (.seq (.region [
 o1 21 (.mov (tm 0)),
 o1 22 (.nilCheck (tm 21)),
 o1 23 (.fieldAddr 1 (tm 22)),
 o1 24 (.load none (tm 23)),
 o1 25 (.build [(.int .i64 0), (.int .i64 0)] [(0, 1, (.const (.int .i64 4))), (1, 1, (tm 24))]),
 o3 (.store 2 (tm 2) (tm 25))]) .ret)
 .skip)) (.seq (.region [
 o1 26 (.mov (tm 0)),
 o1 27 (.nilCheck (tm 26)),
 o1 28 (.fieldAddr 2 (tm 27)),
 o1 29 (.load (some 2) (tm 28)),
 o3 (.store 2 (tm 2) (tm 29))]) .ret)))
noncomputable def lr04_Reader_End : AFunc := ⟨30, [(2, some (some 2))], lr04_Reader_End_c, none⟩
theorem lr04_Reader_End_t : T0 37 = some lr04_Reader_End := withKept_t rfl (withTrue_t rfl (by kernel_rfl : tableOf Tryz.prog 37 = some lr04_Reader_End))
theorem lr04_Reader_End_runs {v0 : Value} {h : Heap} {R : RP} {X : XP} (k : RunC Tryz.prog T0 lr04_Reader_End_c ⟨[v0, U, U, U, U, U, U, U, U, U, U, U, U, U, U, U, U, U, U, U, U, U, U, U, U, U, U, U, U, U], [], h, none⟩ (bodyQ Tryz.prog T0 [(2, some (some 2))] R X)) :
 Runs Tryz.prog T0 (.fn 37) [v0] h R X := Runs.fn lr04_Reader_End_t rfl k
abbrev fn_lk_OverVals : FuncId := 38
noncomputable def lk_OverVals_l0 : ACode :=
 (.seq (.seq (.region [
 o1 3 (.mov (tm 2)),
 o1 4 (.mov (tm 0)),
 o1 5 (.lenSl (tm 4)),
 o1 6 (.bin .lss (so (.binOp .lss 3 (tm 3) (tm 5) 3) 4) (tm 3) (tm 5))]) (.cond (tm 6)
 .skip
 (.exit 0))) (.seq (.block 1 (.region [
 o1 9 (.mov (tm 0)),
 o1 10 (.mov (tm 2)),
 o1 11 (.build [(.int .u8 0), (.int .u8 0), (.int .u8 0), (.int .u8 0), (.int .i64 0)] [(4, 1, (.const (.int .i64 (-7))))]),
 o1 12 (.indexSl 5 (tm 9) (tm 10)),
 o3 (.store 5 (tm 12) (tm 11))])) (.region [
 o1 7 (.mov (tm 2)),
 o1 8 (.bin .add (so (.binOp .add 3 (tm 7) (.const (.int .i64 1)) 3) 3) (tm 7) (.const (.int .i64 1))),
 o1 2 (.mov (tm 8))])))
noncomputable def lk_OverVals_c : ACode :=
 (.seq (.region [
 o1 2 (.mov k0)]) (.block 0 (.loop lk_OverVals_l0)))
noncomputable def lk_OverVals : AFunc := ⟨13, [], lk_OverVals_c, none⟩
theorem lk_OverVals_t : T0 38 = some lk_OverVals := withKept_t rfl (withTrue_t rfl (by kernel_rfl : tableOf Tryz.prog 38 = some lk_OverVals))
theorem lk_OverVals_runs {v0 : Value} {h : Heap} {R : RP} {X : XP} (k : RunC Tryz.prog T0 lk_OverVals_c ⟨[v0, U, U, U, U, U, U, U, U, U, U, U, U], [], h, none⟩ (bodyQ Tryz.prog T0 [] R X)) :
 Runs Tryz.prog T0 (.fn 38) [v0] h R X := Runs.fn lk_OverVals_t rfl k
/-- the slots that turn in the loop: v2 -/
noncomputable def lk_OverVals_l0_J (f0 f1 : Value) (ds : List Deferred) (rd : Option Nat) (I : Nat → Value → Heap → Prop) (m : Nat) (s : St) : Prop := ∃ (v2 : Value), ∃ h : Heap, ∃ (x3 x4 x5 x6 x7 x8 x9 x10 x11 x12 : Value), s = ⟨[f0, f1, v2, x3, x4, x5, x6, x7, x8, x9, x10, x11, x12], ds, h, rd⟩ ∧ I m v2 h
theorem lk_OverVals_l0_rule {f0 f1 : Value} {ds : List Deferred} {rd : Option Nat} {Q : QP} (I : Nat → Value → Heap → Prop) (hb : ∀ (m : Nat) (v2 : Value) (h : Heap) (x3 x4 x5 x6 x7 x8 x9 x10 x11 x12 : Value) , I m v2 h → RunC Tryz.prog T0 lk_OverVals_l0 ⟨[f0, f1, v2, x3, x4, x5, x6, x7, x8, x9, x10, x11, x12], ds, h, rd⟩ (loopQ (lk_OverVals_l0_J f0 f1 ds rd I) m Q))
 (m : Nat) {v2 : Value} {h : Heap} {x3 x4 x5 x6 x7 x8 x9 x10 x11 x12 : Value} (hi : I m v2 h) : RunC Tryz.prog T0 (.loop lk_OverVals_l0) ⟨[f0, f1, v2, x3, x4, x5, x6, x7, x8, x9, x10, x11, x12], ds, h, rd⟩ Q :=
 RunC.loopJ (lk_OverVals_l0_J f0 f1 ds rd I) (fun m s hj => by obtain ⟨v2, h, x3, x4, x5, x6, x7, x8, x9, x10, x11, x12, rfl, hi⟩ := hj; exact hb m v2 h x3 x4 x5 x6 x7 x8 x9 x10 x11 x12 hi) m _ ⟨_, h, _, _, _, _, _, _, _, _, _, _, rfl, hi⟩
theorem lk_OverVals_l0_again {f0 f1 : Value} {ds : List Deferred} {rd : Option Nat} {Q : QP} {I : Nat → Value → Heap → Prop} {m : Nat} (m' : Nat) {v2 : Value} {h : Heap} {x3 x4 x5 x6 x7 x8 x9 x10 x11 x12 : Value} (hm : m' < m) (hi : I m' v2 h) : loopQ (lk_OverVals_l0_J f0 f1 ds rd I) m Q .normal ⟨[f0, f1, v2, x3, x4, x5, x6, x7, x8, x9, x10, x11, x12], ds, h, rd⟩ :=
 loopQ.again m' hm ⟨_, h, _, _, _, _, _, _, _, _, _, _, rfl, hi⟩
abbrev fn_lk_OverCommit : FuncId := 39
noncomputable def lk_OverCommit_l0 : ACode :=
 (.seq (.seq (.region [
 o1 3 (.mov (tm 2)),
 o1 4 (.fieldAddr 33 (tm 1)),
 o1 5 (.load none (tm 4)),
 o1 6 (.lenSl (tm 5)),
 o1 7 (.bin .lss (so (.binOp .lss 3 (tm 3) (tm 6) 3) 4) (tm 3) (tm 6))]) (.cond (tm 7)
 .skip
 (.exit 0))) (.seq (.block 1 (.region [
 o1 10 (.fieldAddr 33 (tm 1)),
 o1 11 (.load none (tm 10)),
 o1 12 (.mov (tm 2)),
 o1 13 (.build [(.int .i64 0), (.int .u64 0)] [(0, 1, (.const (.int .i64 (-7))))]),
 o1 14 (.indexSl 2 (tm 11) (tm 12)),
 o3 (.store 2 (tm 14) (tm 13))])) (.region [
 o1 8 (.mov (tm 2)),
 o1 9 (.bin .add (so (.binOp .add 3 (tm 8) (.const (.int .i64 1)) 3) 3) (tm 8) (.const (.int .i64 1))),
 o1 2 (.mov (tm 9))])))
noncomputable def lk_OverCommit_c : ACode :=
 (.seq (.region [
 o1 1 (.box 33 (tm 0))]) (.seq (.region [
 o1 2 (.mov k0)]) (.block 0 (.loop lk_OverCommit_l0))))
noncomputable def lk_OverCommit : AFunc := ⟨15, [], lk_OverCommit_c, none⟩
theorem lk_OverCommit_t : T0 39 = some lk_OverCommit := withKept_t rfl (withTrue_t rfl (by kernel_rfl : tableOf Tryz.prog 39 = some lk_OverCommit))
theorem lk_OverCommit_runs {v0 : Value} {h : Heap} {R : RP} {X : XP} (k : RunC Tryz.prog T0 lk_OverCommit_c ⟨[v0, U, U, U, U, U, U, U, U, U, U, U, U, U, U], [], h, none⟩ (bodyQ Tryz.prog T0 [] R X)) :
 Runs Tryz.prog T0 (.fn 39) [v0] h R X := Runs.fn lk_OverCommit_t rfl k
/-- the slots that turn in the loop: v2 -/
noncomputable def lk_OverCommit_l0_J (f0 f1 : Value) (ds : List Deferred) (rd : Option Nat) (I : Nat → Value → Heap → Prop) (m : Nat) (s : St) : Prop := ∃ (v2 : Value), ∃ h : Heap, ∃ (x3 x4 x5 x6 x7 x8 x9 x10 x11 x12 x13 x14 : Value), s = ⟨[f0, f1, v2, x3, x4, x5, x6, x7, x8, x9, x10, x11, x12, x13, x14], ds, h, rd⟩ ∧ I m v2 h
theorem lk_OverCommit_l0_rule {f0 f1 : Value} {ds : List Deferred} {rd : Option Nat} {Q : QP} (I : Nat → Value → Heap → Prop) (hb : ∀ (m : Nat) (v2 : Value) (h : Heap) (x3 x4 x5 x6 x7 x8 x9 x10 x11 x12 x13 x14 : Value) , I m v2 h → RunC Tryz.prog T0 lk_OverCommit_l0 ⟨[f0, f1, v2, x3, x4, x5, x6, x7, x8, x9, x10, x11, x12, x13, x14], ds, h, rd⟩ (loopQ (lk_OverCommit_l0_J f0 f1 ds rd I) m Q))
 (m : Nat) {v2 : Value} {h : Heap} {x3 x4 x5 x6 x7 x8 x9 x10 x11 x12 x13 x14 : Value} (hi : I m v2 h) : RunC Tryz.prog T0 (.loop lk_OverCommit_l0) ⟨[f0, f1, v2, x3, x4, x5, x6, x7, x8, x9, x10, x11, x12, x13, x14], ds, h, rd⟩ Q :=
 RunC.loopJ (lk_OverCommit_l0_J f0 f1 ds rd I) (fun m s hj => by obtain ⟨v2, h, x3, x4, x5, x6, x7, x8, x9, x10, x11, x12, x13, x14, rfl, hi⟩ := hj; exact hb m v2 h x3 x4 x5 x6 x7 x8 x9 x10 x11 x12 x13 x14 hi) m _ ⟨_, h, _, _, _, _, _, _, _, _, _, _, _, _, rfl, hi⟩
theorem lk_OverCommit_l0_again {f0 f1 : Value} {ds : List Deferred} {rd : Option Nat} {Q : QP} {I : Nat → Value → Heap → Prop} {m : Nat} (m' : Nat) {v2 : Value} {h : Heap} {x3 x4 x5 x6 x7 x8 x9 x10 x11 x12 x13 x14 : Value} (hm : m' < m) (hi : I m' v2 h) : loopQ (lk_OverCommit_l0_J f0 f1 ds rd I) m Q .normal ⟨[f0, f1, v2, x3, x4, x5, x6, x7, x8, x9, x10, x11, x12, x13, x14], ds, h, rd⟩ :=
 loopQ.again m' hm ⟨_, h, _, _, _, _, _, _, _, _, _, _, _, _, rfl, hi⟩
abbrev fn_block_part_api_Header_ : FuncId := 47
noncomputable def block_part_api_Header__c : ACode :=
 (.seq (.region [
 o1 8 (.alloc 30 ((.string ⟨⟨[]⟩⟩) :: ((.int .i64 0) :: ((.int .i64 0) :: (z32 ++ (z32 ++ (z32 ++ z32)))))))]) (.seq (.seq (.region [
 o1 13 (.mov (tm 2)),
 o1 14 (.nilCheck (tm 13)),
 o1 15 (.load (some 2) (tm 14)),
 o1 16 (.build [(.int .i64 0), (.int .i64 0)] []),
 o1 17 (.bin .neq (so (.binOp .neq 43 (tm 15) (tm 16) 43) 4) (tm 15) (tm 16))]) (.cond (tm 17)
 (.seq (.region [
 o1 18 (.load (some 131) (tm 8)),
 o3 (.store 131 (tm 8) (tm 18))]) .ret)
 .skip)) (.seq (.region [
 o1 19 (.mov (tm 1)),
 o1 20 (.mov (tm 0)),
 o1 21 (.callV (.func 63) [(tm 20)]),
 o1 22 (.bin .sub (so (.binOp .sub 3 (tm 19) (tm 21) 3) 3) (tm 19) (tm 21)),
 o1 9 (.mov (tm 22))]) (.seq (.region [
 o1 23 (.mov (tm 0)),
 o1 24 (.callV (.func 29) [(tm 23), (.const (.int .i64 65536))]),
 o1 10 (.mov (tm 24))]) (.seq (.seq (.region [
 o1 25 (.mov (tm 0)),
 o1 26 (.callV (.func 63) [(tm 25)]),
 o1 27 (.bin .eql (so (.binOp .eql 3 (tm 26) k0 3) 4) (tm 26) k0),
 o1 28 (.mov (tm 27)),
 o4 29 (.mov (tm 0)) 28,
 o4 30 (.callV (.func 30) [(tm 29)]) 28,
 o4 31 (.build [(.int .i64 0), (.int .i64 0)] []) 28,
 o4 32 (.bin .neq (so (.binOp .neq 43 (tm 30) (tm 31) 43) 4) (tm 30) (tm 31)) 28,
 o1 33 (.pick (tm 28) (tm 32) (.const (.bool false)))]) (.cond (tm 33)
 (.seq (.region [
 o1 34 (.mov (tm 2)),
 o1 35 (.mov (tm 0)),
 o1 36 (.callV (.func 30) [(tm 35)]),
 o1 37 (.nilCheck (tm 34)),
 o3 (.store 2 (tm 37) (tm 36))]) (.seq (.region [
 o1 38 (.load (some 131) (tm 8)),
 o3 (.store 131 (tm 8) (tm 38))]) .ret))
 .skip)) (.seq (.region [
 o1 40 (.mov (tm 3)),
 o1 41 (.mov (tm 10)),
 o1 42 (.callV (tm 40) [(tm 41)]),
 o1 39 (.mov (tm 42)),
 o1 43 (.extract 0 (tm 39)),
 o1 44 (.extract 1 (tm 39)),
 o1 11 (.alloc 30 ((.string ⟨⟨[]⟩⟩) :: ((.int .i64 0) :: ((.int .i64 0) :: (z32 ++ (z32 ++ (z32 ++ z32))))))),
 o1 12 (.alloc 43 [(.int .i64 0), (.int .i64 0)]),
 o3 (.store 131 (tm 11) (tm 43)),
 o3 (.store 2 (tm 12) (tm 44))]) (.seq (.seq (.region [
 o1 45 (.load (some 2) (tm 12)),
 o1 46 (.build [(.int .i64 0), (.int .i64 0)] []),
 o1 47 (.bin .neq (so (.binOp .neq 43 (tm 45) (tm 46) 43) 4) (tm 45) (tm 46))]) (.cond (tm 47)
 (.seq (.region [
 o1 48 (.mov (tm 2)),
 o1 49 (.mov (tm 9)),
 o1 50 (.build [(.int .i64 0), (.int .i64 0)] [(0, 1, (.const (.int .i64 5))), (1, 1, (tm 49))]),
 o1 51 (.nilCheck (tm 48)),
 o3 (.store 2 (tm 51) (tm 50))]) (.seq (.region [
 o1 52 (.load (some 131) (tm 8)),
 o3 (.store 131 (tm 8) (tm 52))]) .ret))
 .skip)) (.seq (.region [
 o1 53 (.load (some 131) (tm 11)),
 o3 (.store 131 (tm 8) (tm 53))]) .ret))))))))
noncomputable def block_part_api_Header_ : AFunc := ⟨54, [(8, some (some 131))], block_part_api_Header__c, none⟩
theorem block_part_api_Header__t : T0 47 = some block_part_api_Header_ := withKept_t rfl (withTrue_t rfl (by kernel_rfl : tableOf Tryz.prog 47 = some block_part_api_Header_))
theorem block_part_api_Header__runs {v0 v1 v2 v3 : Value} {h : Heap} {R : RP} {X : XP} (k : RunC Tryz.prog T0 block_part_api_Header__c ⟨[v0, v1, v2, v3, U, U, U, U, U, U, U, U, U, U, U, U, U, U, U, U, U, U, U, U, U, U, U, U, U, U, U, U, U, U, U, U, U, U, U, U, U, U, U, U, U, U, U, U, U, U, U, U, U, U], [], h, none⟩ (bodyQ Tryz.prog T0 [(8, some (some 131))] R X)) :
 Runs Tryz.prog T0 (.fn 47) [v0, v1, v2, v3] h R X := Runs.fn block_part_api_Header__t rfl k
abbrev fn_header_Decode : FuncId := 48
noncomputable def header_Decode_l0 : ACode :=
 (.seq (.region [
 o1 20 (.bin .lss (so (.binOp .lss 3 (tm 19) (.const (.int .i64 4)) 3) 0) (tm 19) (.const (.int .i64 4)))]) (.seq (.cond (tm 20)
 .skip
 (.exit 0)) (.seq (.block 1 (.seq (.region [
 o1 21 (.index 4 1 none (tm 18) (tm 19)),
 o1 7 (.mov (tm 21))]) (.region [
 o1 22 (.mov (tm 7)),
 o1 23 (.mov (tm 4)),
 o1 24 (.callV (.func 86) [(tm 23)]),
 o1 25 (.nilCheck (tm 22)),
 o3 (.store 32 (tm 25) (tm 24))]))) (.region [
 o1 26 (.bin .add (so (.binOp .add 3 (tm 19) (.const (.int .i64 1)) 3) 3) (tm 19) (.const (.int .i64 1))),
 o1 19 (.mov (tm 26))]))))
noncomputable def header_Decode_c : ACode :=
 (.seq (.region [
 o1 2 (.alloc 30 ((.string ⟨⟨[]⟩⟩) :: ((.int .i64 0) :: ((.int .i64 0) :: (z32 ++ (z32 ++ (z32 ++ z32))))))),
 o1 3 (.alloc 43 [(.int .i64 0), (.int .i64 0)])]) (.seq (.region [
 o1 9 (.mov (tm 0)),
 o1 10 (.callV (.func 22) [(tm 9)]),
 o1 4 (.mov (tm 10))]) (.seq (.region [
 o1 11 (.mov (tm 4)),
 o1 12 (.callV (.func 84) [(tm 11), (.const (.int .i64 32))]),
 o1 13 (.mov (tm 4)),
 o1 14 (.callV (.func 23) [(tm 13)]),
 o1 15 (.mov (tm 4)),
 o1 16 (.callV (.func 23) [(tm 15)]),
 o1 17 (.build ((.string ⟨⟨[]⟩⟩) :: ((.int .i64 0) :: ((.int .i64 0) :: (z32 ++ (z32 ++ (z32 ++ z32)))))) [(0, 1, (tm 12)), (1, 1, (tm 14)), (2, 1, (tm 16))]),
 o1 5 (.alloc 30 ((.string ⟨⟨[]⟩⟩) :: ((.int .i64 0) :: ((.int .i64 0) :: (z32 ++ (z32 ++ (z32 ++ z32))))))),
 o3 (.store 131 (tm 5) (tm 17))]) (.seq (.seq (.region [
 o1 18 (.callV (.func 85) [(tm 5)]),
 o1 19 (.mov k0)]) (.block 0 (.loop header_Decode_l0))) (.seq (.region [
 o1 27 (.mov (tm 4)),
 o1 28 (.callV (.func 30) [(tm 27)]),
 o1 8 (.alloc 43 [(.int .i64 0), (.int .i64 0)]),
 o3 (.store 2 (tm 8) (tm 28))]) (.seq (.seq (.region [
 o1 29 (.load (some 2) (tm 8)),
 o1 30 (.build [(.int .i64 0), (.int .i64 0)] []),
 o1 31 (.bin .eql (so (.binOp .eql 43 (tm 29) (tm 30) 43) 4) (tm 29) (tm 30))]) (.cond (tm 31)
 (.region [
 o1 32 (.load (some 131) (tm 5)),
 o1 33 (.callV (.func 87) [(tm 32)]),
 o1 34 (.fieldAddr 0 (tm 8)),
 o3 (.store 1 (tm 34) (tm 33))])
 .skip)) (.seq (.seq (.region [
 o1 35 (.load (some 2) (tm 8)),
 o1 36 (.build [(.int .i64 0), (.int .i64 0)] []),
 o1 37 (.bin .neq (so (.binOp .neq 43 (tm 35) (tm 36) 43) 4) (tm 35) (tm 36))]) (.cond (tm 37)
 (.seq (.regionD [
 o1 38 (.build ((.string ⟨⟨[]⟩⟩) :: ((.int .i64 0) :: ((.int .i64 0) :: (z32 ++ (z32 ++ (z32 ++ z32)))))) []),
 o1 39 (.load (some 2) (tm 8)),
 ⟨none, .store 131 (tm 2) (tm 38), none, [(some 39, .load (some 2) (tm 8), none)], false⟩,
 ⟨none, .store 2 (tm 3) (tm 39), none, [], true⟩]) .ret)
 .skip)) (.seq (.regionD [
 o1 40 (.load (some 131) (tm 5)),
 o1 41 (.load (some 2) (tm 8)),
 ⟨none, .store 131 (tm 2) (tm 40), none, [(some 41, .load (some 2) (tm 8), none)], false⟩,
 ⟨none, .store 2 (tm 3) (tm 41), none, [], true⟩]) .ret))))))))
noncomputable def header_Decode : AFunc := ⟨42, [(2, some (some 131)), (3, some (some 2))], header_Decode_c, none⟩
theorem header_Decode_t : T0 48 = some header_Decode := withKept_t rfl (withTrue_t rfl (by kernel_rfl : tableOf Tryz.prog 48 = some header_Decode))
theorem header_Decode_runs {v0 : Value} {h : Heap} {R : RP} {X : XP} (k : RunC Tryz.prog T0 header_Decode_c ⟨[v0, U, U, U, U, U, U, U, U, U, U, U, U, U, U, U, U, U, U, U, U, U, U, U, U, U, U, U, U, U, U, U, U, U, U, U, U, U, U, U, U, U], [], h, none⟩ (bodyQ Tryz.prog T0 [(2, some (some 131)), (3, some (some 2))] R X)) :
 Runs Tryz.prog T0 (.fn 48) [v0] h R X := Runs.fn header_Decode_t rfl k
/-- the slots that turn in the loop: v19 -/
noncomputable def header_Decode_l0_J (f0 f1 f2 f3 f4 f5 f6 f8 f9 f10 f11 f12 f13 f14 f15 f16 f17 f18 f27 f28 f29 f30 f31 f32 f33 f34 f35 f36 f37 f38 f39 f40 f41 : Value) (ds : List Deferred) (rd : Option Nat) (I : Nat → Value → Heap → Prop) (m : Nat) (s : St) : Prop := ∃ (v19 : Value), ∃ h : Heap, ∃ (x7 x20 x21 x22 x23 x24 x25 x26 : Value), s = ⟨[f0, f1, f2, f3, f4, f5, f6, x7, f8, f9, f10, f11, f12, f13, f14, f15, f16, f17, f18, v19, x20, x21, x22, x23, x24, x25, x26, f27, f28, f29, f30, f31, f32, f33, f34, f35, f36, f37, f38, f39, f40, f41], ds, h, rd⟩ ∧ I m v19 h
theorem header_Decode_l0_rule {f0 f1 f2 f3 f4 f5 f6 f8 f9 f10 f11 f12 f13 f14 f15 f16 f17 f18 f27 f28 f29 f30 f31 f32 f33 f34 f35 f36 f37 f38 f39 f40 f41 : Value} {ds : List Deferred} {rd : Option Nat} {Q : QP} (I : Nat → Value → Heap → Prop) (hb : ∀ (m : Nat) (v19 : Value) (h : Heap) (x7 x20 x21 x22 x23 x24 x25 x26 : Value) , I m v19 h → RunC Tryz.prog T0 header_Decode_l0 ⟨[f0, f1, f2, f3, f4, f5, f6, x7, f8, f9, f10, f11, f12, f13, f14, f15, f16, f17, f18, v19, x20, x21, x22, x23, x24, x25, x26, f27, f28, f29, f30, f31, f32, f33, f34, f35, f36, f37, f38, f39, f40, f41], ds, h, rd⟩ (loopQ (header_Decode_l0_J f0 f1 f2 f3 f4 f5 f6 f8 f9 f10 f11 f12 f13 f14 f15 f16 f17 f18 f27 f28 f29 f30 f31 f32 f33 f34 f35 f36 f37 f38 f39 f40 f41 ds rd I) m Q))
 (m : Nat) {v19 : Value} {h : Heap} {x7 x20 x21 x22 x23 x24 x25 x26 : Value} (hi : I m v19 h) : RunC Tryz.prog T0 (.loop header_Decode_l0) ⟨[f0, f1, f2, f3, f4, f5, f6, x7, f8, f9, f10, f11, f12, f13, f14, f15, f16, f17, f18, v19, x20, x21, x22, x23, x24, x25, x26, f27, f28, f29, f30, f31, f32, f33, f34, f35, f36, f37, f38, f39, f40, f41], ds, h, rd⟩ Q :=
 RunC.loopJ (header_Decode_l0_J f0 f1 f2 f3 f4 f5 f6 f8 f9 f10 f11 f12 f13 f14 f15 f16 f17 f18 f27 f28 f29 f30 f31 f32 f33 f34 f35 f36 f37 f38 f39 f40 f41 ds rd I) (fun m s hj => by obtain ⟨v19, h, x7, x20, x21, x22, x23, x24, x25, x26, rfl, hi⟩ := hj; exact hb m v19 h x7 x20 x21 x22 x23 x24 x25 x26 hi) m _ ⟨_, h, _, _, _, _, _, _, _, _, rfl, hi⟩
theorem header_Decode_l0_again {f0 f1 f2 f3 f4 f5 f6 f8 f9 f10 f11 f12 f13 f14 f15 f16 f17 f18 f27 f28 f29 f30 f31 f32 f33 f34 f35 f36 f37 f38 f39 f40 f41 : Value} {ds : List Deferred} {rd : Option Nat} {Q : QP} {I : Nat → Value → Heap → Prop} {m : Nat} (m' : Nat) {v19 : Value} {h : Heap} {x7 x20 x21 x22 x23 x24 x25 x26 : Value} (hm : m' < m) (hi : I m' v19 h) : loopQ (header_Decode_l0_J f0 f1 f2 f3 f4 f5 f6 f8 f9 f10 f11 f12 f13 f14 f15 f16 f17 f18 f27 f28 f29 f30 f31 f32 f33 f34 f35 f36 f37 f38 f39 f40 f41 ds rd I) m Q .normal ⟨[f0, f1, f2, f3, f4, f5, f6, x7, f8, f9, f10, f11, f12, f13, f14, f15, f16, f17, f18, v19, x20, x21, x22, x23, x24, x25, x26, f27, f28, f29, f30, f31, f32, f33, f34, f35, f36, f37, f38, f39, f40, f41], ds, h, rd⟩ :=
 loopQ.again m' hm ⟨_, h, _, _, _, _, _, _, _, _, rfl, hi⟩
abbrev fn_block_part_api_Commit_ : FuncId := 49
noncomputable def block_part_api_Commit__c : ACode :=
 (.seq (.region [
 o1 8 (.alloc 33 ((.int .i64 0) :: (z32 ++ [(.slice none 0 0)])))]) (.seq (.seq (.region [
 o1 13 (.mov (tm 2)),
 o1 14 (.nilCheck (tm 13)),
 o1 15 (.load (some 2) (tm 14)),
 o1 16 (.build [(.int .i64 0), (.int .i64 0)] []),
 o1 17 (.bin .neq (so (.binOp .neq 43 (tm 15) (tm 16) 43) 4) (tm 15) (tm 16))]) (.cond (tm 17)
 (.seq (.region [
 o1 18 (.load (some 34) (tm 8)),
 o3 (.store 34 (tm 8) (tm 18))]) .ret)
 .skip)) (.seq (.region [
 o1 19 (.mov (tm 1)),
 o1 20 (.mov (tm 0)),
 o1 21 (.callV (.func 63) [(tm 20)]),
 o1 22 (.bin .sub (so (.binOp .sub 3 (tm 19) (tm 21) 3) 3) (tm 19) (tm 21)),
 o1 9 (.mov (tm 22))]) (.seq (.region [
 o1 23 (.mov (tm 0)),
 o1 24 (.callV (.func 29) [(tm 23), (.const (.int .i64 65536))]),
 o1 10 (.mov (tm 24))]) (.seq (.seq (.region [
 o1 25 (.mov (tm 0)),
 o1 26 (.callV (.func 63) [(tm 25)]),
 o1 27 (.bin .eql (so (.binOp .eql 3 (tm 26) k0 3) 4) (tm 26) k0),
 o1 28 (.mov (tm 27)),
 o4 29 (.mov (tm 0)) 28,
 o4 30 (.callV (.func 30) [(tm 29)]) 28,
 o4 31 (.build [(.int .i64 0), (.int .i64 0)] []) 28,
 o4 32 (.bin .neq (so (.binOp .neq 43 (tm 30) (tm 31) 43) 4) (tm 30) (tm 31)) 28,
 o1 33 (.pick (tm 28) (tm 32) (.const (.bool false)))]) (.cond (tm 33)
 (.seq (.region [
 o1 34 (.mov (tm 2)),
 o1 35 (.mov (tm 0)),
 o1 36 (.callV (.func 30) [(tm 35)]),
 o1 37 (.nilCheck (tm 34)),
 o3 (.store 2 (tm 37) (tm 36))]) (.seq (.region [
 o1 38 (.load (some 34) (tm 8)),
 o3 (.store 34 (tm 8) (tm 38))]) .ret))
 .skip)) (.seq (.region [
 o1 40 (.mov (tm 3)),
 o1 41 (.mov (tm 10)),
 o1 42 (.callV (tm 40) [(tm 41)]),
 o1 39 (.mov (tm 42)),
 o1 43 (.extract 0 (tm 39)),
 o1 44 (.extract 1 (tm 39)),
 o1 11 (.alloc 33 ((.int .i64 0) :: (z32 ++ [(.slice none 0 0)]))),
 o1 12 (.alloc 43 [(.int .i64 0), (.int .i64 0)]),
 o3 (.store 34 (tm 11) (tm 43)),
 o3 (.store 2 (tm 12) (tm 44))]) (.seq (.seq (.region [
 o1 45 (.load (some 2) (tm 12)),
 o1 46 (.build [(.int .i64 0), (.int .i64 0)] []),
 o1 47 (.bin .neq (so (.binOp .neq 43 (tm 45) (tm 46) 43) 4) (tm 45) (tm 46))]) (.cond (tm 47)
 (.seq (.region [
 o1 48 (.mov (tm 2)),
 o1 49 (.mov (tm 9)),
 o1 50 (.build [(.int .i64 0), (.int .i64 0)] [(0, 1, (.const (.int .i64 5))), (1, 1, (tm 49))]),
 o1 51 (.nilCheck (tm 48)),
 o3 (.store 2 (tm 51) (tm 50))]) (.seq (.region [
 o1 52 (.load (some 34) (tm 8)),
 o3 (.store 34 (tm 8) (tm 52))]) .ret))
 .skip)) (.seq (.region [
 o1 53 (.load (some 34) (tm 11)),
 o3 (.store 34 (tm 8) (tm 53))]) .ret))))))))
noncomputable def block_part_api_Commit_ : AFunc := ⟨54, [(8, some (some 34))], block_part_api_Commit__c, none⟩
theorem block_part_api_Commit__t : T0 49 = some block_part_api_Commit_ := withKept_t rfl (withTrue_t rfl (by kernel_rfl : tableOf Tryz.prog 49 = some block_part_api_Commit_))
theorem block_part_api_Commit__runs {v0 v1 v2 v3 : Value} {h : Heap} {R : RP} {X : XP} (k : RunC Tryz.prog T0 block_part_api_Commit__c ⟨[v0, v1, v2, v3, U, U, U, U, U, U, U, U, U, U, U, U, U, U, U, U, U, U, U, U, U, U, U, U, U, U, U, U, U, U, U, U, U, U, U, U, U, U, U, U, U, U, U, U, U, U, U, U, U, U], [], h, none⟩ (bodyQ Tryz.prog T0 [(8, some (some 34))] R X)) :
 Runs Tryz.prog T0 (.fn 49) [v0, v1, v2, v3] h R X := Runs.fn block_part_api_Commit__t rfl k
abbrev fn_commit_Decode : FuncId := 50
noncomputable def commit_Decode_l0 : ACode :=
 (.seq (.region [
 o1 30 (.bin .lss (so (.binOp .lss 3 (tm 29) (tm 28) 3) 4) (tm 29) (tm 28))]) (.seq (.cond (tm 30)
 .skip
 (.exit 0)) (.seq (.block 1 (.seq (.region [
 o1 31 (.mov (tm 4)),
 o1 32 (.callV (.func 23) [(tm 31)]),
 o1 33 (.build [(.int .i64 0), (.int .u64 0)] [(0, 1, (tm 32))]),
 o1 7 (.alloc 112 [(.int .i64 0), (.int .u64 0)]),
 o3 (.store 2 (tm 7) (tm 33))]) (.seq (.region [
 o1 34 (.mov (tm 4)),
 o1 35 (.callV (.func 88) [(tm 34)]),
 o1 36 (.fieldAddr 1 (tm 7)),
 o3 (.store 1 (tm 36) (tm 35))]) (.region [
 o1 37 (.fieldAddr 33 (tm 2)),
 o1 38 (.load none (tm 37)),
 o1 39 (.load (some 2) (tm 7)),
 o1 40 (.buildSlice 112 [(.int .i64 0), (.int .u64 0)] 1 [(0, 2, (tm 39))]),
 o1 41 (.append 112 2 16 [(.int .i64 0), (.int .u64 0)] false (tm 38) (tm 40)),
 o1 42 (.fieldAddr 33 (tm 2)),
 o3 (.store 1 (tm 42) (tm 41))])))) (.region [
 o1 43 (.bin .add (so (.binOp .add 3 (tm 29) (.const (.int .i64 1)) 3) 3) (tm 29) (.const (.int .i64 1))),
 o1 29 (.mov (tm 43))]))))
noncomputable def commit_Decode_c : ACode :=
 (.seq (.region [
 o1 2 (.alloc 33 ((.int .i64 0) :: (z32 ++ [(.slice none 0 0)]))),
 o1 3 (.alloc 43 [(.int .i64 0), (.int .i64 0)])]) (.seq (.region [
 o1 8 (.mov (tm 0)),
 o1 9 (.callV (.func 22) [(tm 8)]),
 o1 4 (.mov (tm 9))]) (.seq (.region [
 o1 10 (.mov (tm 4)),
 o1 11 (.callV (.func 23) [(tm 10)]),
 o1 12 (.fieldAddr 0 (tm 2)),
 o3 (.store 1 (tm 12) (tm 11))]) (.seq (.region [
 o1 13 (.mov (tm 4)),
 o1 14 (.callV (.func 86) [(tm 13)]),
 o1 15 (.fieldAddr 1 (tm 2)),
 o3 (.store 32 (tm 15) (tm 14))]) (.seq (.region [
 o1 16 (.mov (tm 0)),
 o1 17 (.lenSl (tm 16)),
 o1 18 (.mov (tm 4)),
 o1 19 (.callV (.func 63) [(tm 18)]),
 o1 20 (.bin .sub (so (.binOp .sub 3 (tm 17) (tm 19) 3) 3) (tm 17) (tm 19)),
 o1 5 (.mov (tm 20))]) (.seq (.region [
 o1 21 (.mov (tm 4)),
 o1 22 (.callV (.func 23) [(tm 21)]),
 o1 6 (.mov (tm 22))]) (.seq (.seq (.region [
 o1 23 (.mov (tm 6)),
 o1 24 (.bin .gtr (so (.binOp .gtr 3 (tm 23) (.const (.int .i64 64)) 3) 4) (tm 23) (.const (.int .i64 64)))]) (.cond (tm 24)
 (.seq (.region [
 o1 25 (.build ((.int .i64 0) :: (z32 ++ [(.slice none 0 0)])) []),
 o1 26 (.mov (tm 5)),
 o1 27 (.build [(.int .i64 0), (.int .i64 0)] [(0, 1, (.const (.int .i64 4))), (1, 1, (tm 26))]),
 o3 (.store 34 (tm 2) (tm 25)),
 o3 (.store 2 (tm 3) (tm 27))]) .ret)
 .skip)) (.seq (.seq (.region [
 o1 28 (.mov (tm 6)),
 o1 29 (.mov k0)]) (.block 0 (.loop commit_Decode_l0))) (.seq (.seq (.region [
 o1 44 (.mov (tm 4)),
 o1 45 (.callV (.func 30) [(tm 44)]),
 o3 (.store 2 (tm 3) (tm 45))]) (.seq (.region [
 o1 46 (.load (some 2) (tm 3)),
 o1 47 (.build [(.int .i64 0), (.int .i64 0)] []),
 o1 48 (.bin .eql (so (.binOp .eql 43 (tm 46) (tm 47) 43) 4) (tm 46) (tm 47))]) (.cond (tm 48)
 (.region [
 o1 49 (.load (some 34) (tm 2)),
 o1 50 (.callV (.func 89) [(tm 49)]),
 o1 51 (.fieldAddr 0 (tm 3)),
 o3 (.store 1 (tm 51) (tm 50))])
 .skip))) (.seq (.seq (.region [
 o1 52 (.load (some 2) (tm 3)),
 o1 53 (.build [(.int .i64 0), (.int .i64 0)] []),
 o1 54 (.bin .neq (so (.binOp .neq 43 (tm 52) (tm 53) 43) 4) (tm 52) (tm 53))]) (.cond (tm 54)
 (.seq (.regionD [
 o1 55 (.build ((.int .i64 0) :: (z32 ++ [(.slice none 0 0)])) []),
 o1 56 (.load (some 2) (tm 3)),
 ⟨none, .store 34 (tm 2) (tm 55), none, [(some 56, .load (some 2) (tm 3), none)], false⟩,
 ⟨none, .store 2 (tm 3) (tm 56), none, [], true⟩]) .ret)
 .skip)) (.seq (.regionD [
 o1 57 (.load (some 34) (tm 2)),
 o1 58 (.load (some 2) (tm 3)),
 ⟨none, .store 34 (tm 2) (tm 57), none, [(some 58, .load (some 2) (tm 3), none)], false⟩,
 ⟨none, .store 2 (tm 3) (tm 58), none, [], true⟩]) .ret)))))))))))
noncomputable def commit_Decode : AFunc := ⟨59, [(2, some (some 34)), (3, some (some 2))], commit_Decode_c, none⟩
theorem commit_Decode_t : T0 50 = some commit_Decode := withKept_t rfl (withTrue_t rfl (by kernel_rfl : tableOf Tryz.prog 50 = some commit_Decode))
theorem commit_Decode_runs {v0 : Value} {h : Heap} {R : RP} {X : XP} (k : RunC Tryz.prog T0 commit_Decode_c ⟨[v0, U, U, U, U, U, U, U, U, U, U, U, U, U, U, U, U, U, U, U, U, U, U, U, U, U, U, U, U, U, U, U, U, U, U, U, U, U, U, U, U, U, U, U, U, U, U, U, U, U, U, U, U, U, U, U, U, U, U], [], h, none⟩ (bodyQ Tryz.prog T0 [(2, some (some 34)), (3, some (some 2))] R X)) :
 Runs Tryz.prog T0 (.fn 50) [v0] h R X := Runs.fn commit_Decode_t rfl k
/-- the slots that turn in the loop: v29 -/
noncomputable def commit_Decode_l0_J (f0 f1 f2 f3 f4 f5 f6 f8 f9 f10 f11 f12 f13 f14 f15 f16 f17 f18 f19 f20 f21 f22 f23 f24 f25 f26 f27 f28 f44 f45 f46 f47 f48 f49 f50 f51 f52 f53 f54 f55 f56 f57 f58 : Value) (ds : List Deferred) (rd : Option Nat) (I : Nat → Value → Heap → Prop) (m : Nat) (s : St) : Prop := ∃ (v29 : Value), ∃ h : Heap, ∃ (x7 x30 x31 x32 x33 x34 x35 x36 x37 x38 x39 x40 x41 x42 x43 : Value), s = ⟨[f0, f1, f2, f3, f4, f5, f6, x7, f8, f9, f10, f11, f12, f13, f14, f15, f16, f17, f18, f19, f20, f21, f22, f23, f24, f25, f26, f27, f28, v29, x30, x31, x32, x33, x34, x35, x36, x37, x38, x39, x40, x41, x42, x43, f44, f45, f46, f47, f48, f49, f50, f51, f52, f53, f54, f55, f56, f57, f58], ds, h, rd⟩ ∧ I m v29 h
theorem commit_Decode_l0_rule {f0 f1 f2 f3 f4 f5 f6 f8 f9 f10 f11 f12 f13 f14 f15 f16 f17 f18 f19 f20 f21 f22 f23 f24 f25 f26 f27 f28 f44 f45 f46 f47 f48 f49 f50 f51 f52 f53 f54 f55 f56 f57 f58 : Value} {ds : List Deferred} {rd : Option Nat} {Q : QP} (I : Nat → Value → Heap → Prop) (hb : ∀ (m : Nat) (v29 : Value) (h : Heap) (x7 x30 x31 x32 x33 x34 x35 x36 x37 x38 x39 x40 x41 x42 x43 : Value) , I m v29 h → RunC Tryz.prog T0 commit_Decode_l0 ⟨[f0, f1, f2, f3, f4, f5, f6, x7, f8, f9, f10, f11, f12, f13, f14, f15, f16, f17, f18, f19, f20, f21, f22, f23, f24, f25, f26, f27, f28, v29, x30, x31, x32, x33, x34, x35, x36, x37, x38, x39, x40, x41, x42, x43, f44, f45, f46, f47, f48, f49, f50, f51, f52, f53, f54, f55, f56, f57, f58], ds, h, rd⟩ (loopQ (commit_Decode_l0_J f0 f1 f2 f3 f4 f5 f6 f8 f9 f10 f11 f12 f13 f14 f15 f16 f17 f18 f19 f20 f21 f22 f23 f24 f25 f26 f27 f28 f44 f45 f46 f47 f48 f49 f50 f51 f52 f53 f54 f55 f56 f57 f58 ds rd I) m Q))
 (m : Nat) {v29 : Value} {h : Heap} {x7 x30 x31 x32 x33 x34 x35 x36 x37 x38 x39 x40 x41 x42 x43 : Value} (hi : I m v29 h) : RunC Tryz.prog T0 (.loop commit_Decode_l0) ⟨[f0, f1, f2, f3, f4, f5, f6, x7, f8, f9, f10, f11, f12, f13, f14, f15, f16, f17, f18, f19, f20, f21, f22, f23, f24, f25, f26, f27, f28, v29, x30, x31, x32, x33, x34, x35, x36, x37, x38, x39, x40, x41, x42, x43, f44, f45, f46, f47, f48, f49, f50, f51, f52, f53, f54, f55, f56, f57, f58], ds, h, rd⟩ Q :=
 RunC.loopJ (commit_Decode_l0_J f0 f1 f2 f3 f4 f5 f6 f8 f9 f10 f11 f12 f13 f14 f15 f16 f17 f18 f19 f20 f21 f22 f23 f24 f25 f26 f27 f28 f44 f45 f46 f47 f48 f49 f50 f51 f52 f53 f54 f55 f56 f57 f58 ds rd I) (fun m s hj => by obtain ⟨v29, h, x7, x30, x31, x32, x33, x34, x35, x36, x37, x38, x39, x40, x41, x42, x43, rfl, hi⟩ := hj; exact hb m v29 h x7 x30 x31 x32 x33 x34 x35 x36 x37 x38 x39 x40 x41 x42 x43 hi) m _ ⟨_, h, _, _, _, _, _, _, _, _, _, _, _, _, _, _, _, rfl, hi⟩
theorem commit_Decode_l0_again {f0 f1 f2 f3 f4 f5 f6 f8 f9 f10 f11 f12 f13 f14 f15 f16 f17 f18 f19 f20 f21 f22 f23 f24 f25 f26 f27 f28 f44 f45 f46 f47 f48 f49 f50 f51 f52 f53 f54 f55 f56 f57 f58 : Value} {ds : List Deferred} {rd : Option Nat} {Q : QP} {I : Nat → Value → Heap → Prop} {m : Nat} (m' : Nat) {v29 : Value} {h : Heap} {x7 x30 x31 x32 x33 x34 x35 x36 x37 x38 x39 x40 x41 x42 x43 : Value} (hm : m' < m) (hi : I m' v29 h) : loopQ (commit_Decode_l0_J f0 f1 f2 f3 f4 f5 f6 f8 f9 f10 f11 f12 f13 f14 f15 f16 f17 f18 f19 f20 f21 f22 f23 f24 f25 f26 f27 f28 f44 f45 f46 f47 f48 f49 f50 f51 f52 f53 f54 f55 f56 f57 f58 ds rd I) m Q .normal ⟨[f0, f1, f2, f3, f4, f5, f6, x7, f8, f9, f10, f11, f12, f13, f14, f15, f16, f17, f18, f19, f20, f21, f22, f23, f24, f25, f26, f27, f28, v29, x30, x31, x32, x33, x34, x35, x36, x37, x38, x39, x40, x41, x42, x43, f44, f45, f46, f47, f48, f49, f50, f51, f52, f53, f54, f55, f56, f57, f58], ds, h, rd⟩ :=
 loopQ.again m' hm ⟨_, h, _, _, _, _, _, _, _, _, _, _, _, _, _, _, _, rfl, hi⟩
abbrev fn_block_part___api_Validator_ : FuncId := 51
noncomputable def block_part___api_Validator__c : ACode :=
 (.seq (.region [
 o1 8 (.mov (.const (.slice none 0 0)))]) (.seq (.seq (.region [
 o1 13 (.mov (tm 2)),
 o1 14 (.nilCheck (tm 13)),
 o1 15 (.load (some 2) (tm 14)),
 o1 16 (.build [(.int .i64 0), (.int .i64 0)] []),
 o1 17 (.bin .neq (so (.binOp .neq 43 (tm 15) (tm 16) 43) 4) (tm 15) (tm 16))]) (.cond (tm 17)
 (.seq (.region [
 o1 18 (.mov (tm 8)),
 o1 8 (.mov (tm 18))]) .ret)
 .skip)) (.seq (.region [
 o1 19 (.mov (tm 1)),
 o1 20 (.mov (tm 0)),
 o1 21 (.callV (.func 63) [(tm 20)]),
 o1 22 (.bin .sub (so (.binOp .sub 3 (tm 19) (tm 21) 3) 3) (tm 19) (tm 21)),
 o1 9 (.mov (tm 22))]) (.seq (.region [
 o1 23 (.mov (tm 0)),
 o1 24 (.callV (.func 29) [(tm 23), (.const (.int .i64 65536))]),
 o1 10 (.mov (tm 24))]) (.seq (.seq (.region [
 o1 25 (.mov (tm 0)),
 o1 26 (.callV (.func 63) [(tm 25)]),
 o1 27 (.bin .eql (so (.binOp .eql 3 (tm 26) k0 3) 4) (tm 26) k0),
 o1 28 (.mov (tm 27)),
 o4 29 (.mov (tm 0)) 28,
 o4 30 (.callV (.func 30) [(tm 29)]) 28,
 o4 31 (.build [(.int .i64 0), (.int .i64 0)] []) 28,
 o4 32 (.bin .neq (so (.binOp .neq 43 (tm 30) (tm 31) 43) 4) (tm 30) (tm 31)) 28,
 o1 33 (.pick (tm 28) (tm 32) (.const (.bool false)))]) (.cond (tm 33)
 (.seq (.region [
 o1 34 (.mov (tm 2)),
 o1 35 (.mov (tm 0)),
 o1 36 (.callV (.func 30) [(tm 35)]),
 o1 37 (.nilCheck (tm 34)),
 o3 (.store 2 (tm 37) (tm 36))]) (.seq (.region [
 o1 38 (.mov (tm 8)),
 o1 8 (.mov (tm 38))]) .ret))
 .skip)) (.seq (.region [
 o1 40 (.mov (tm 3)),
 o1 41 (.mov (tm 10)),
 o1 42 (.callV (tm 40) [(tm 41)]),
 o1 39 (.mov (tm 42)),
 o1 43 (.extract 0 (tm 39)),
 o1 44 (.extract 1 (tm 39)),
 o1 12 (.alloc 43 [(.int .i64 0), (.int .i64 0)]),
 o1 11 (.mov (tm 43)),
 o3 (.store 2 (tm 12) (tm 44))]) (.seq (.seq (.region [
 o1 45 (.load (some 2) (tm 12)),
 o1 46 (.build [(.int .i64 0), (.int .i64 0)] []),
 o1 47 (.bin .neq (so (.binOp .neq 43 (tm 45) (tm 46) 43) 4) (tm 45) (tm 46))]) (.cond (tm 47)
 (.seq (.region [
 o1 48 (.mov (tm 2)),
 o1 49 (.mov (tm 9)),
 o1 50 (.build [(.int .i64 0), (.int .i64 0)] [(0, 1, (.const (.int .i64 5))), (1, 1, (tm 49))]),
 o1 51 (.nilCheck (tm 48)),
 o3 (.store 2 (tm 51) (tm 50))]) (.seq (.region [
 o1 52 (.mov (tm 8)),
 o1 8 (.mov (tm 52))]) .ret))
 .skip)) (.seq (.region [
 o1 53 (.mov (tm 11)),
 o1 8 (.mov (tm 53))]) .ret))))))))
noncomputable def block_part___api_Validator_ : AFunc := ⟨54, [(8, none)], block_part___api_Validator__c, none⟩
theorem block_part___api_Validator__t : T0 51 = some block_part___api_Validator_ := withKept_t rfl (withTrue_t rfl (by kernel_rfl : tableOf Tryz.prog 51 = some block_part___api_Validator_))
theorem block_part___api_Validator__runs {v0 v1 v2 v3 : Value} {h : Heap} {R : RP} {X : XP} (k : RunC Tryz.prog T0 block_part___api_Validator__c ⟨[v0, v1, v2, v3, U, U, U, U, U, U, U, U, U, U, U, U, U, U, U, U, U, U, U, U, U, U, U, U, U, U, U, U, U, U, U, U, U, U, U, U, U, U, U, U, U, U, U, U, U, U, U, U, U, U], [], h, none⟩ (bodyQ Tryz.prog T0 [(8, none)] R X)) :
 Runs Tryz.prog T0 (.fn 51) [v0, v1, v2, v3] h R X := Runs.fn block_part___api_Validator__t rfl k
abbrev fn_vals_Decode : FuncId := 52
noncomputable def vals_Decode_l0 : ACode :=
 (.seq (.region [
 o1 16 (.bin .lss (so (.binOp .lss 3 (tm 15) (tm 14) 3) 4) (tm 15) (tm 14))]) (.seq (.cond (tm 16)
 .skip
 (.exit 0)) (.seq (.block 1 (.seq (.region [
 o1 17 (.mov (tm 4)),
 o1 18 (.callV (.func 90) [(tm 17)]),
 o1 19 (.build [(.int .u8 0), (.int .u8 0), (.int .u8 0), (.int .u8 0), (.int .i64 0)] [(0, 4, (tm 18))]),
 o1 6 (.alloc 110 [(.int .u8 0), (.int .u8 0), (.int .u8 0), (.int .u8 0), (.int .i64 0)]),
 o3 (.store 5 (tm 6) (tm 19))]) (.seq (.region [
 o1 20 (.mov (tm 4)),
 o1 21 (.callV (.func 23) [(tm 20)]),
 o1 22 (.fieldAddr 4 (tm 6)),
 o3 (.store 1 (tm 22) (tm 21))]) (.region [
 o1 23 (.mov (tm 2)),
 o1 24 (.load (some 5) (tm 6)),
 o1 25 (.buildSlice 110 [(.int .u8 0), (.int .u8 0), (.int .u8 0), (.int .u8 0), (.int .i64 0)] 1 [(0, 5, (tm 24))]),
 o1 26 (.append 110 5 16 [(.int .u8 0), (.int .u8 0), (.int .u8 0), (.int .u8 0), (.int .i64 0)] false (tm 23) (tm 25)),
 o1 2 (.mov (tm 26))])))) (.region [
 o1 27 (.bin .add (so (.binOp .add 3 (tm 15) (.const (.int .i64 1)) 3) 3) (tm 15) (.const (.int .i64 1))),
 o1 15 (.mov (tm 27))]))))
noncomputable def vals_Decode_c : ACode :=
 (.seq (.region [
 o1 2 (.mov (.const (.slice none 0 0))),
 o1 3 (.alloc 43 [(.int .i64 0), (.int .i64 0)])]) (.seq (.region [
 o1 7 (.mov (tm 0)),
 o1 8 (.callV (.func 22) [(tm 7)]),
 o1 4 (.mov (tm 8))]) (.seq (.region [
 o1 9 (.mov (tm 4)),
 o1 10 (.callV (.func 23) [(tm 9)]),
 o1 5 (.mov (tm 10))]) (.seq (.seq (.region [
 o1 11 (.mov (tm 5)),
 o1 12 (.bin .gtr (so (.binOp .gtr 3 (tm 11) (.const (.int .i64 64)) 3) 4) (tm 11) (.const (.int .i64 64)))]) (.cond (tm 12)
 (.seq (.region [
 o1 13 (.build [(.int .i64 0), (.int .i64 0)] [(0, 1, (.const (.int .i64 4)))]),
 o1 2 (.mov (.const (.slice none 0 0))),
 o3 (.store 2 (tm 3) (tm 13))]) .ret)
 .skip)) (.seq (.seq (.region [
 o1 14 (.mov (tm 5)),
 o1 15 (.mov k0)]) (.block 0 (.loop vals_Decode_l0))) (.seq (.seq (.region [
 o1 28 (.mov (tm 4)),
 o1 29 (.callV (.func 30) [(tm 28)]),
 o3 (.store 2 (tm 3) (tm 29))]) (.seq (.region [
 o1 30 (.load (some 2) (tm 3)),
 o1 31 (.build [(.int .i64 0), (.int .i64 0)] []),
 o1 32 (.bin .eql (so (.binOp .eql 43 (tm 30) (tm 31) 43) 4) (tm 30) (tm 31))]) (.cond (tm 32)
 (.region [
 o1 33 (.mov (tm 2)),
 o1 34 (.callV (.func 91) [(tm 33)]),
 o1 35 (.fieldAddr 0 (tm 3)),
 o3 (.store 1 (tm 35) (tm 34))])
 .skip))) (.seq (.seq (.region [
 o1 36 (.load (some 2) (tm 3)),
 o1 37 (.build [(.int .i64 0), (.int .i64 0)] []),
 o1 38 (.bin .neq (so (.binOp .neq 43 (tm 36) (tm 37) 43) 4) (tm 36) (tm 37))]) (.cond (tm 38)
 (.seq (.regionD [
 o1 39 (.load (some 2) (tm 3)),
 o1 2 (.mov (.const (.slice none 0 0))),
 ⟨none, .store 2 (tm 3) (tm 39), none, [], true⟩]) .ret)
 .skip)) (.seq (.regionD [
 o1 40 (.mov (tm 2)),
 o1 41 (.load (some 2) (tm 3)),
 ⟨some 2, .mov (tm 40), none, [(some 41, .load (some 2) (tm 3), none)], false⟩,
 ⟨none, .store 2 (tm 3) (tm 41), none, [], true⟩]) .ret))))))))
noncomputable def vals_Decode : AFunc := ⟨42, [(2, none), (3, some (some 2))], vals_Decode_c, none⟩
theorem vals_Decode_t : T0 52 = some vals_Decode := withKept_t rfl (withTrue_t rfl (by kernel_rfl : tableOf Tryz.prog 52 = some vals_Decode))
theorem vals_Decode_runs {v0 : Value} {h : Heap} {R : RP} {X : XP} (k : RunC Tryz.prog T0 vals_Decode_c ⟨[v0, U, U, U, U, U, U, U, U, U, U, U, U, U, U, U, U, U, U, U, U, U, U, U, U, U, U, U, U, U, U, U, U, U, U, U, U, U, U, U, U, U], [], h, none⟩ (bodyQ Tryz.prog T0 [(2, none), (3, some (some 2))] R X)) :
 Runs Tryz.prog T0 (.fn 52) [v0] h R X := Runs.fn vals_Decode_t rfl k
/-- the slots that turn in the loop: v2 v15 -/
noncomputable def vals_Decode_l0_J (f0 f1 f3 f4 f5 f7 f8 f9 f10 f11 f12 f13 f14 f28 f29 f30 f31 f32 f33 f34 f35 f36 f37 f38 f39 f40 f41 : Value) (ds : List Deferred) (rd : Option Nat) (I : Nat → Value → Value → Heap → Prop) (m : Nat) (s : St) : Prop := ∃ (v2 v15 : Value), ∃ h : Heap, ∃ (x6 x16 x17 x18 x19 x20 x21 x22 x23 x24 x25 x26 x27 : Value), s = ⟨[f0, f1, v2, f3, f4, f5, x6, f7, f8, f9, f10, f11, f12, f13, f14, v15, x16, x17, x18, x19, x20, x21, x22, x23, x24, x25, x26, x27, f28, f29, f30, f31, f32, f33, f34, f35, f36, f37, f38, f39, f40, f41], ds, h, rd⟩ ∧ I m v2 v15 h
theorem vals_Decode_l0_rule {f0 f1 f3 f4 f5 f7 f8 f9 f10 f11 f12 f13 f14 f28 f29 f30 f31 f32 f33 f34 f35 f36 f37 f38 f39 f40 f41 : Value} {ds : List Deferred} {rd : Option Nat} {Q : QP} (I : Nat → Value → Value → Heap → Prop) (hb : ∀ (m : Nat) (v2 v15 : Value) (h : Heap) (x6 x16 x17 x18 x19 x20 x21 x22 x23 x24 x25 x26 x27 : Value) , I m v2 v15 h → RunC Tryz.prog T0 vals_Decode_l0 ⟨[f0, f1, v2, f3, f4, f5, x6, f7, f8, f9, f10, f11, f12, f13, f14, v15, x16, x17, x18, x19, x20, x21, x22, x23, x24, x25, x26, x27, f28, f29, f30, f31, f32, f33, f34, f35, f36, f37, f38, f39, f40, f41], ds, h, rd⟩ (loopQ (vals_Decode_l0_J f0 f1 f3 f4 f5 f7 f8 f9 f10 f11 f12 f13 f14 f28 f29 f30 f31 f32 f33 f34 f35 f36 f37 f38 f39 f40 f41 ds rd I) m Q))
 (m : Nat) {v2 v15 : Value} {h : Heap} {x6 x16 x17 x18 x19 x20 x21 x22 x23 x24 x25 x26 x27 : Value} (hi : I m v2 v15 h) : RunC Tryz.prog T0 (.loop vals_Decode_l0) ⟨[f0, f1, v2, f3, f4, f5, x6, f7, f8, f9, f10, f11, f12, f13, f14, v15, x16, x17, x18, x19, x20, x21, x22, x23, x24, x25, x26, x27, f28, f29, f30, f31, f32, f33, f34, f35, f36, f37, f38, f39, f40, f41], ds, h, rd⟩ Q :=
 RunC.loopJ (vals_Decode_l0_J f0 f1 f3 f4 f5 f7 f8 f9 f10 f11 f12 f13 f14 f28 f29 f30 f31 f32 f33 f34 f35 f36 f37 f38 f39 f40 f41 ds rd I) (fun m s hj => by obtain ⟨v2, v15, h, x6, x16, x17, x18, x19, x20, x21, x22, x23, x24, x25, x26, x27, rfl, hi⟩ := hj; exact hb m v2 v15 h x6 x16 x17 x18 x19 x20 x21 x22 x23 x24 x25 x26 x27 hi) m _ ⟨_, _, h, _, _, _, _, _, _, _, _, _, _, _, _, _, rfl, hi⟩
theorem vals_Decode_l0_again {f0 f1 f3 f4 f5 f7 f8 f9 f10 f11 f12 f13 f14 f28 f29 f30 f31 f32 f33 f34 f35 f36 f37 f38 f39 f40 f41 : Value} {ds : List Deferred} {rd : Option Nat} {Q : QP} {I : Nat → Value → Value → Heap → Prop} {m : Nat} (m' : Nat) {v2 v15 : Value} {h : Heap} {x6 x16 x17 x18 x19 x20 x21 x22 x23 x24 x25 x26 x27 : Value} (hm : m' < m) (hi : I m' v2 v15 h) : loopQ (vals_Decode_l0_J f0 f1 f3 f4 f5 f7 f8 f9 f10 f11 f12 f13 f14 f28 f29 f30 f31 f32 f33 f34 f35 f36 f37 f38 f39 f40 f41 ds rd I) m Q .normal ⟨[f0, f1, v2, f3, f4, f5, x6, f7, f8, f9, f10, f11, f12, f13, f14, v15, x16, x17, x18, x19, x20, x21, x22, x23, x24, x25, x26, x27, f28, f29, f30, f31, f32, f33, f34, f35, f36, f37, f38, f39, f40, f41], ds, h, rd⟩ :=
 loopQ.again m' hm ⟨_, _, h, _, _, _, _, _, _, _, _, _, _, _, _, _, rfl, hi⟩
abbrev fn_lr06_Decode : FuncId := 53
noncomputable def lr06_Decode_c : ACode :=
 (.seq (.region [
 o1 2 (.alloc 30 ((.string ⟨⟨[]⟩⟩) :: ((.int .i64 0) :: ((.int .i64 0) :: (z32 ++ (z32 ++ (z32 ++ z32))))))),
 o1 3 (.alloc 43 [(.int .i64 0), (.int .i64 0)])]) (.seq (.region [
 o1 7 (.mov (tm 0)),
 o1 8 (.callV (.func 31) [(tm 7)]),
 o1 4 (.mov (tm 8))]) (.seq (.region [
 o1 9 (.mov (tm 4)),
 o1 10 (.callV (.func 92) [(tm 9)]),
 o1 5 (.alloc 30 ((.string ⟨⟨[]⟩⟩) :: ((.int .i64 0) :: ((.int .i64 0) :: (z32 ++ (z32 ++ (z32 ++ z32))))))),
 o3 (.store 131 (tm 5) (tm 10))]) (.seq (.region [
 o1 11 (.mov (tm 4)),
 o1 12 (.callV (.func 37) [(tm 11)]),
 o1 6 (.alloc 43 [(.int .i64 0), (.int .i64 0)]),
 o3 (.store 2 (tm 6) (tm 12))]) (.seq (.seq (.region [
 o1 13 (.fieldAddr 0 (tm 6)),
 o1 14 (.load none (tm 13)),
 o1 15 (.bin .eql (so (.binOp .eql 41 (tm 14) k0 41) 4) (tm 14) k0)]) (.cond (tm 15)
 (.region [
 o1 16 (.load (some 131) (tm 5)),
 o1 17 (.callV (.func 93) [(tm 16)]),
 o1 18 (.fieldAddr 0 (tm 6)),
 o3 (.store 1 (tm 18) (tm 17))])
 .skip)) (.seq (.seq (.region [
 o1 19 (.fieldAddr 0 (tm 6)),
 o1 20 (.load none (tm 19)),
 o1 21 (.bin .neq (so (.binOp .neq 41 (tm 20) k0 41) 4) (tm 20) k0)]) (.cond (tm 21)
 (.seq (.regionD [
 o1 22 (.build ((.string ⟨⟨[]⟩⟩) :: ((.int .i64 0) :: ((.int .i64 0) :: (z32 ++ (z32 ++ (z32 ++ z32)))))) []),
 o1 23 (.load (some 2) (tm 6)),
 ⟨none, .store 131 (tm 2) (tm 22), none, [(some 23, .load (some 2) (tm 6), none)], false⟩,
 ⟨none, .store 2 (tm 3) (tm 23), none, [], true⟩]) .ret)
 .skip)) (.seq (.regionD [
 o1 24 (.load (some 131) (tm 5)),
 o1 25 (.load (some 2) (tm 6)),
 ⟨none, .store 131 (tm 2) (tm 24), none, [(some 25, .load (some 2) (tm 6), none)], false⟩,
 ⟨none, .store 2 (tm 3) (tm 25), none, [], true⟩]) .ret)))))))
noncomputable def lr06_Decode : AFunc := ⟨26, [(2, some (some 131)), (3, some (some 2))], lr06_Decode_c, none⟩
theorem lr06_Decode_t : T0 53 = some lr06_Decode := withKept_t rfl (withTrue_t rfl (by kernel_rfl : tableOf Tryz.prog 53 = some lr06_Decode))
theorem lr06_Decode_runs {v0 : Value} {h : Heap} {R : RP} {X : XP} (k : RunC Tryz.prog T0 lr06_Decode_c ⟨[v0, U, U, U, U, U, U, U, U, U, U, U, U, U, U, U, U, U, U, U, U, U, U, U, U, U], [], h, none⟩ (bodyQ Tryz.prog T0 [(2, some (some 131)), (3, some (some 2))] R X)) :
 Runs Tryz.prog T0 (.fn 53) [v0] h R X := Runs.fn lr06_Decode_t rfl k
abbrev fn_lr07_Decode : FuncId := 54
noncomputable def lr07_Decode_l0 : ACode :=
 (.seq (.seq (.region [
 o1 31 (.mov (tm 8)),
 o1 32 (.mov (tm 7)),
 o1 33 (.bin .lss (so (.binOp .lss 3 (tm 31) (tm 32) 3) 4) (tm 31) (tm 32))]) (.cond (tm 33)
 .skip
 (.exit 0))) (.seq (.block 1 (.seq (.region [
 o1 36 (.mov (tm 4)),
 o1 37 (.callV (.func 32) [(tm 36)]),
 o1 38 (.build [(.int .i64 0), (.int .u64 0)] [(0, 1, (tm 37))]),
 o1 9 (.alloc 112 [(.int .i64 0), (.int .u64 0)]),
 o3 (.store 2 (tm 9) (tm 38))]) (.seq (.region [
 o1 39 (.mov (tm 4)),
 o1 40 (.callV (.func 96) [(tm 39)]),
 o1 41 (.fieldAddr 1 (tm 9)),
 o3 (.store 1 (tm 41) (tm 40))]) (.region [
 o1 42 (.fieldAddr 33 (tm 5)),
 o1 43 (.load none (tm 42)),
 o1 44 (.load (some 2) (tm 9)),
 o1 45 (.buildSlice 112 [(.int .i64 0), (.int .u64 0)] 1 [(0, 2, (tm 44))]),
 o1 46 (.append 112 2 16 [(.int .i64 0), (.int .u64 0)] false (tm 43) (tm 45)),
 o1 47 (.fieldAddr 33 (tm 5)),
 o3 (.store 1 (tm 47) (tm 46))])))) (.region [
 o1 34 (.mov (tm 8)),
 o1 35 (.bin .add (so (.binOp .add 3 (tm 34) (.const (.int .i64 1)) 3) 3) (tm 34) (.const (.int .i64 1))),
 o1 8 (.mov (tm 35))])))
noncomputable def lr07_Decode_c : ACode :=
 (.seq (.region [
 o1 2 (.alloc 33 ((.int .i64 0) :: (z32 ++ [(.slice none 0 0)]))),
 o1 3 (.alloc 43 [(.int .i64 0), (.int .i64 0)])]) (.seq (.region [
 o1 11 (.mov (tm 0)),
 o1 12 (.callV (.func 31) [(tm 11)]),
 o1 4 (.mov (tm 12))]) (.seq (.region [
 o1 5 (.alloc 33 ((.int .i64 0) :: (z32 ++ [(.slice none 0 0)])))]) (.seq (.region [
 o1 13 (.mov (tm 4)),
 o1 14 (.callV (.func 32) [(tm 13)]),
 o1 15 (.fieldAddr 0 (tm 5)),
 o3 (.store 1 (tm 15) (tm 14))]) (.seq (.region [
 o1 16 (.mov (tm 4)),
 o1 17 (.callV (.func 94) [(tm 16)]),
 o1 18 (.fieldAddr 1 (tm 5)),
 o3 (.store 32 (tm 18) (tm 17))]) (.seq (.region [
 o1 19 (.mov (tm 0)),
 o1 20 (.lenSl (tm 19)),
 o1 21 (.mov (tm 4)),
 o1 22 (.callV (.func 95) [(tm 21)]),
 o1 23 (.bin .sub (so (.binOp .sub 3 (tm 20) (tm 22) 3) 3) (tm 20) (tm 22)),
 o1 6 (.mov (tm 23))]) (.seq (.region [
 o1 24 (.mov (tm 4)),
 o1 25 (.callV (.func 32) [(tm 24)]),
 o1 7 (.mov (tm 25))]) (.seq (.seq (.region [
 o1 26 (.mov (tm 7)),
 o1 27 (.bin .gtr (so (.binOp .gtr 3 (tm 26) (.const (.int .i64 64)) 3) 4) (tm 26) (.const (.int .i64 64)))]) (.cond (tm 27)
 (.seq (.region [
 o1 28 (.build ((.int .i64 0) :: (z32 ++ [(.slice none 0 0)])) []),
 o1 29 (.mov (tm 6)),
 o1 30 (.build [(.int .i64 0), (.int .i64 0)] [(0, 1, (.const (.int .i64 4))), (1, 1, (tm 29))]),
 o3 (.store 34 (tm 2) (tm 28)),
 o3 (.store 2 (tm 3) (tm 30))]) .ret)
 .skip)) (.seq (.seq (.region [
 o1 8 (.mov k0)]) (.block 0 (.loop lr07_Decode_l0))) (.seq (.region [
 o1 48 (.mov (tm 4)),
 o1 49 (.callV (.func 37) [(tm 48)]),
 o1 10 (.alloc 43 [(.int .i64 0), (.int .i64 0)]),
 o3 (.store 2 (tm 10) (tm 49))]) (.seq (.seq (.region [
 o1 50 (.fieldAddr 0 (tm 10)),
 o1 51 (.load none (tm 50)),
 o1 52 (.bin .eql (so (.binOp .eql 41 (tm 51) k0 41) 4) (tm 51) k0)]) (.cond (tm 52)
 (.region [
 o1 53 (.load (some 34) (tm 5)),
 o1 54 (.callV (.func 97) [(tm 53)]),
 o1 55 (.fieldAddr 0 (tm 10)),
 o3 (.store 1 (tm 55) (tm 54))])
 .skip)) (.seq (.seq (.region [
 o1 56 (.fieldAddr 0 (tm 10)),
 o1 57 (.load none (tm 56)),
 o1 58 (.bin .neq (so (.binOp .neq 41 (tm 57) k0 41) 4) (tm 57) k0)]) (.cond (tm 58)
 (.seq (.regionD [
 o1 59 (.build ((.int .i64 0) :: (z32 ++ [(.slice none 0 0)])) []),
 o1 60 (.load (some 2) (tm 10)),
 ⟨none, .store 34 (tm 2) (tm 59), none, [(some 60, .load (some 2) (tm 10), none)], false⟩,
 ⟨none, .store 2 (tm 3) (tm 60), none, [], true⟩]) .ret)
 .skip)) (.seq (.regionD [
 o1 61 (.load (some 34) (tm 5)),
 o1 62 (.load (some 2) (tm 10)),
 ⟨none, .store 34 (tm 2) (tm 61), none, [(some 62, .load (some 2) (tm 10), none)], false⟩,
 ⟨none, .store 2 (tm 3) (tm 62), none, [], true⟩]) .ret)))))))))))))
noncomputable def lr07_Decode : AFunc := ⟨63, [(2, some (some 34)), (3, some (some 2))], lr07_Decode_c, none⟩
theorem lr07_Decode_t : T0 54 = some lr07_Decode := withKept_t rfl (withTrue_t rfl (by kernel_rfl : tableOf Tryz.prog 54 = some lr07_Decode))
theorem lr07_Decode_runs {v0 : Value} {h : Heap} {R : RP} {X : XP} (k : RunC Tryz.prog T0 lr07_Decode_c ⟨[v0, U, U, U, U, U, U, U, U, U, U, U, U, U, U, U, U, U, U, U, U, U, U, U, U, U, U, U, U, U, U, U, U, U, U, U, U, U, U, U, U, U, U, U, U, U, U, U, U, U, U, U, U, U, U, U, U, U, U, U, U, U, U], [], h, none⟩ (bodyQ Tryz.prog T0 [(2, some (some 34)), (3, some (some 2))] R X)) :
 Runs Tryz.prog T0 (.fn 54) [v0] h R X := Runs.fn lr07_Decode_t rfl k
/-- the slots that turn in the loop: v8 -/
noncomputable def lr07_Decode_l0_J (f0 f1 f2 f3 f4 f5 f6 f7 f10 f11 f12 f13 f14 f15 f16 f17 f18 f19 f20 f21 f22 f23 f24 f25 f26 f27 f28 f29 f30 f48 f49 f50 f51 f52 f53 f54 f55 f56 f57 f58 f59 f60 f61 f62 : Value) (ds : List Deferred) (rd : Option Nat) (I : Nat → Value → Heap → Prop) (m : Nat) (s : St) : Prop := ∃ (v8 : Value), ∃ h : Heap, ∃ (x9 x31 x32 x33 x34 x35 x36 x37 x38 x39 x40 x41 x42 x43 x44 x45 x46 x47 : Value), s = ⟨[f0, f1, f2, f3, f4, f5, f6, f7, v8, x9, f10, f11, f12, f13, f14, f15, f16, f17, f18, f19, f20, f21, f22, f23, f24, f25, f26, f27, f28, f29, f30, x31, x32, x33, x34, x35, x36, x37, x38, x39, x40, x41, x42, x43, x44, x45, x46, x47, f48, f49, f50, f51, f52, f53, f54, f55, f56, f57, f58, f59, f60, f61, f62], ds, h, rd⟩ ∧ I m v8 h
theorem lr07_Decode_l0_rule {f0 f1 f2 f3 f4 f5 f6 f7 f10 f11 f12 f13 f14 f15 f16 f17 f18 f19 f20 f21 f22 f23 f24 f25 f26 f27 f28 f29 f30 f48 f49 f50 f51 f52 f53 f54 f55 f56 f57 f58 f59 f60 f61 f62 : Value} {ds : List Deferred} {rd : Option Nat} {Q : QP} (I : Nat → Value → Heap → Prop) (hb : ∀ (m : Nat) (v8 : Value) (h : Heap) (x9 x31 x32 x33 x34 x35 x36 x37 x38 x39 x40 x41 x42 x43 x44 x45 x46 x47 : Value) , I m v8 h → RunC Tryz.prog T0 lr07_Decode_l0 ⟨[f0, f1, f2, f3, f4, f5, f6, f7, v8, x9, f10, f11, f12, f13, f14, f15, f16, f17, f18, f19, f20, f21, f22, f23, f24, f25, f26, f27, f28, f29, f30, x31, x32, x33, x34, x35, x36, x37, x38, x39, x40, x41, x42, x43, x44, x45, x46, x47, f48, f49, f50, f51, f52, f53, f54, f55, f56, f57, f58, f59, f60, f61, f62], ds, h, rd⟩ (loopQ (lr07_Decode_l0_J f0 f1 f2 f3 f4 f5 f6 f7 f10 f11 f12 f13 f14 f15 f16 f17 f18 f19 f20 f21 f22 f23 f24 f25 f26 f27 f28 f29 f30 f48 f49 f50 f51 f52 f53 f54 f55 f56 f57 f58 f59 f60 f61 f62 ds rd I) m Q))
 (m : Nat) {v8 : Value} {h : Heap} {x9 x31 x32 x33 x34 x35 x36 x37 x38 x39 x40 x41 x42 x43 x44 x45 x46 x47 : Value} (hi : I m v8 h) : RunC Tryz.prog T0 (.loop lr07_Decode_l0) ⟨[f0, f1, f2, f3, f4, f5, f6, f7, v8, x9, f10, f11, f12, f13, f14, f15, f16, f17, f18, f19, f20, f21, f22, f23, f24, f25, f26, f27, f28, f29, f30, x31, x32, x33, x34, x35, x36, x37, x38, x39, x40, x41, x42, x43, x44, x45, x46, x47, f48, f49, f50, f51, f52, f53, f54, f55, f56, f57, f58, f59, f60, f61, f62], ds, h, rd⟩ Q :=
 RunC.loopJ (lr07_Decode_l0_J f0 f1 f2 f3 f4 f5 f6 f7 f10 f11 f12 f13 f14 f15 f16 f17 f18 f19 f20 f21 f22 f23 f24 f25 f26 f27 f28 f29 f30 f48 f49 f50 f51 f52 f53 f54 f55 f56 f57 f58 f59 f60 f61 f62 ds rd I) (fun m s hj => by obtain ⟨v8, h, x9, x31, x32, x33, x34, x35, x36, x37, x38, x39, x40, x41, x42, x43, x44, x45, x46, x47, rfl, hi⟩ := hj; exact hb m v8 h x9 x31 x32 x33 x34 x35 x36 x37 x38 x39 x40 x41 x42 x43 x44 x45 x46 x47 hi) m _ ⟨_, h, _, _, _, _, _, _, _, _, _, _, _, _, _, _, _, _, _, _, rfl, hi⟩
theorem lr07_Decode_l0_again {f0 f1 f2 f3 f4 f5 f6 f7 f10 f11 f12 f13 f14 f15 f16 f17 f18 f19 f20 f21 f22 f23 f24 f25 f26 f27 f28 f29 f30 f48 f49 f50 f51 f52 f53 f54 f55 f56 f57 f58 f59 f60 f61 f62 : Value} {ds : List Deferred} {rd : Option Nat} {Q : QP} {I : Nat → Value → Heap → Prop} {m : Nat} (m' : Nat) {v8 : Value} {h : Heap} {x9 x31 x32 x33 x34 x35 x36 x37 x38 x39 x40 x41 x42 x43 x44 x45 x46 x47 : Value} (hm : m' < m) (hi : I m' v8 h) : loopQ (lr07_Decode_l0_J f0 f1 f2 f3 f4 f5 f6 f7 f10 f11 f12 f13 f14 f15 f16 f17 f18 f19 f20 f21 f22 f23 f24 f25 f26 f27 f28 f29 f30 f48 f49 f50 f51 f52 f53 f54 f55 f56 f57 f58 f59 f60 f61 f62 ds rd I) m Q .normal ⟨[f0, f1, f2, f3, f4, f5, f6, f7, v8, x9, f10, f11, f12, f13, f14, f15, f16, f17, f18, f19, f20, f21, f22, f23, f24, f25, f26, f27, f28, f29, f30, x31, x32, x33, x34, x35, x36, x37, x38, x39, x40, x41, x42, x43, x44, x45, x46, x47, f48, f49, f50, f51, f52, f53, f54, f55, f56, f57, f58, f59, f60, f61, f62], ds, h, rd⟩ :=
 loopQ.again m' hm ⟨_, h, _, _, _, _, _, _, _, _, _, _, _, _, _, _, _, _, _, _, rfl, hi⟩
abbrev fn_lr05_Decode : FuncId := 55
noncomputable def lr05_Decode_l0 : ACode :=
 (.seq (.seq (.region [
 o1 17 (.mov (tm 7)),
 o1 18 (.mov (tm 5)),
 o1 19 (.bin .lss (so (.binOp .lss 3 (tm 17) (tm 18) 3) 4) (tm 17) (tm 18))]) (.cond (tm 19)
 .skip
 (.exit 0))) (.seq (.block 1 (.seq (.region [
 o1 22 (.mov (tm 4)),
 o1 23 (.callV (.func 98) [(tm 22)]),
 o1 8 (.alloc 108 [(.int .u8 0), (.int .u8 0), (.int .u8 0), (.int .u8 0)]),
 o3 (.store 4 (tm 8) (tm 23))]) (.regionD [
 o1 24 (.mov (tm 6)),
 o1 25 (.load (some 4) (tm 8)),
 o1 26 (.mov (tm 4)),
 ⟨some 27, .callV (.func 32) [(tm 26)], none, [(some 25, .load (some 4) (tm 8), none), (some 24, .mov (tm 6), none)], false⟩,
 o1 28 (.build [(.int .u8 0), (.int .u8 0), (.int .u8 0), (.int .u8 0), (.int .i64 0)] [(0, 4, (tm 25)), (4, 1, (tm 27))]),
 ⟨some 29, .buildSlice 110 [(.int .u8 0), (.int .u8 0), (.int .u8 0), (.int .u8 0), (.int .i64 0)] 1 [(0, 5, (tm 28))], none, [(some 24, .mov (tm 6), none)], false⟩,
 o2 30 (.append 110 5 16 [(.int .u8 0), (.int .u8 0), (.int .u8 0), (.int .u8 0), (.int .i64 0)] false (tm 24) (tm 29)),
 o2 6 (.mov (tm 30))]))) (.region [
 o1 20 (.mov (tm 7)),
 o1 21 (.bin .add (so (.binOp .add 3 (tm 20) (.const (.int .i64 1)) 3) 3) (tm 20) (.const (.int .i64 1))),
 o1 7 (.mov (tm 21))])))
noncomputable def lr05_Decode_c : ACode :=
 (.seq (.region [
 o1 2 (.mov (.const (.slice none 0 0))),
 o1 3 (.alloc 43 [(.int .i64 0), (.int .i64 0)])]) (.seq (.region [
 o1 10 (.mov (tm 0)),
 o1 11 (.callV (.func 31) [(tm 10)]),
 o1 4 (.mov (tm 11))]) (.seq (.region [
 o1 12 (.mov (tm 4)),
 o1 13 (.callV (.func 32) [(tm 12)]),
 o1 5 (.mov (tm 13))]) (.seq (.seq (.region [
 o1 14 (.mov (tm 5)),
 o1 15 (.bin .gtr (so (.binOp .gtr 3 (tm 14) (.const (.int .i64 64)) 3) 4) (tm 14) (.const (.int .i64 64)))]) (.cond (tm 15)
 (.seq (.region [
 o1 16 (.build [(.int .i64 0), (.int .i64 0)] [(0, 1, (.const (.int .i64 4)))]),
 o1 2 (.mov (.const (.slice none 0 0))),
 o3 (.store 2 (tm 3) (tm 16))]) .ret)
 .skip)) (.seq (.region [
 o1 6 (.mov (.const (.slice none 0 0)))]) (.seq (.seq (.region [
 o1 7 (.mov k0)]) (.block 0 (.loop lr05_Decode_l0))) (.seq (.region [
 o1 31 (.mov (tm 4)),
 o1 32 (.callV (.func 37) [(tm 31)]),
 o1 9 (.alloc 43 [(.int .i64 0), (.int .i64 0)]),
 o3 (.store 2 (tm 9) (tm 32))]) (.seq (.seq (.region [
 o1 33 (.fieldAddr 0 (tm 9)),
 o1 34 (.load none (tm 33)),
 o1 35 (.bin .eql (so (.binOp .eql 41 (tm 34) k0 41) 4) (tm 34) k0)]) (.cond (tm 35)
 (.region [
 o1 36 (.mov (tm 6)),
 o1 37 (.callV (.func 99) [(tm 36)]),
 o1 38 (.fieldAddr 0 (tm 9)),
 o3 (.store 1 (tm 38) (tm 37))])
 .skip)) (.seq (.seq (.region [
 o1 39 (.fieldAddr 0 (tm 9)),
 o1 40 (.load none (tm 39)),
 o1 41 (.bin .neq (so (.binOp .neq 41 (tm 40) k0 41) 4) (tm 40) k0)]) (.cond (tm 41)
 (.seq (.regionD [
 o1 42 (.load (some 2) (tm 9)),
 o1 2 (.mov (.const (.slice none 0 0))),
 ⟨none, .store 2 (tm 3) (tm 42), none, [], true⟩]) .ret)
 .skip)) (.seq (.regionD [
 o1 43 (.mov (tm 6)),
 o1 44 (.load (some 2) (tm 9)),
 o1 2 (.mov (tm 43)),
 ⟨none, .store 2 (tm 3) (tm 44), none, [], true⟩]) .ret))))))))))
noncomputable def lr05_Decode : AFunc := ⟨45, [(2, none), (3, some (some 2))], lr05_Decode_c, none⟩
theorem lr05_Decode_t : T0 55 = some lr05_Decode := withKept_t rfl (withTrue_t rfl (by kernel_rfl : tableOf Tryz.prog 55 = some lr05_Decode))
theorem lr05_Decode_runs {v0 : Value} {h : Heap} {R : RP} {X : XP} (k : RunC Tryz.prog T0 lr05_Decode_c ⟨[v0, U, U, U, U, U, U, U, U, U, U, U, U, U, U, U, U, U, U, U, U, U, U, U, U, U, U, U, U, U, U, U, U, U, U, U, U, U, U, U, U, U, U, U, U], [], h, none⟩ (bodyQ Tryz.prog T0 [(2, none), (3, some (some 2))] R X)) :
 Runs Tryz.prog T0 (.fn 55) [v0] h R X := Runs.fn lr05_Decode_t rfl k
/-- the slots that turn in the loop: v6 v7 -/
noncomputable def lr05_Decode_l0_J (f0 f1 f2 f3 f4 f5 f9 f10 f11 f12 f13 f14 f15 f16 f31 f32 f33 f34 f35 f36 f37 f38 f39 f40 f41 f42 f43 f44 : Value) (ds : List Deferred) (rd : Option Nat) (I : Nat → Value → Value → Heap → Prop) (m : Nat) (s : St) : Prop := ∃ (v6 v7 : Value), ∃ h : Heap, ∃ (x8 x17 x18 x19 x20 x21 x22 x23 x24 x25 x26 x27 x28 x29 x30 : Value), s = ⟨[f0, f1, f2, f3, f4, f5, v6, v7, x8, f9, f10, f11, f12, f13, f14, f15, f16, x17, x18, x19, x20, x21, x22, x23, x24, x25, x26, x27, x28, x29, x30, f31, f32, f33, f34, f35, f36, f37, f38, f39, f40, f41, f42, f43, f44], ds, h, rd⟩ ∧ I m v6 v7 h
theorem lr05_Decode_l0_rule {f0 f1 f2 f3 f4 f5 f9 f10 f11 f12 f13 f14 f15 f16 f31 f32 f33 f34 f35 f36 f37 f38 f39 f40 f41 f42 f43 f44 : Value} {ds : List Deferred} {rd : Option Nat} {Q : QP} (I : Nat → Value → Value → Heap → Prop) (hb : ∀ (m : Nat) (v6 v7 : Value) (h : Heap) (x8 x17 x18 x19 x20 x21 x22 x23 x24 x25 x26 x27 x28 x29 x30 : Value) , I m v6 v7 h → RunC Tryz.prog T0 lr05_Decode_l0 ⟨[f0, f1, f2, f3, f4, f5, v6, v7, x8, f9, f10, f11, f12, f13, f14, f15, f16, x17, x18, x19, x20, x21, x22, x23, x24, x25, x26, x27, x28, x29, x30, f31, f32, f33, f34, f35, f36, f37, f38, f39, f40, f41, f42, f43, f44], ds, h, rd⟩ (loopQ (lr05_Decode_l0_J f0 f1 f2 f3 f4 f5 f9 f10 f11 f12 f13 f14 f15 f16 f31 f32 f33 f34 f35 f36 f37 f38 f39 f40 f41 f42 f43 f44 ds rd I) m Q))
 (m : Nat) {v6 v7 : Value} {h : Heap} {x8 x17 x18 x19 x20 x21 x22 x23 x24 x25 x26 x27 x28 x29 x30 : Value} (hi : I m v6 v7 h) : RunC Tryz.prog T0 (.loop lr05_Decode_l0) ⟨[f0, f1, f2, f3, f4, f5, v6, v7, x8, f9, f10, f11, f12, f13, f14, f15, f16, x17, x18, x19, x20, x21, x22, x23, x24, x25, x26, x27, x28, x29, x30, f31, f32, f33, f34, f35, f36, f37, f38, f39, f40, f41, f42, f43, f44], ds, h, rd⟩ Q :=
 RunC.loopJ (lr05_Decode_l0_J f0 f1 f2 f3 f4 f5 f9 f10 f11 f12 f13 f14 f15 f16 f31 f32 f33 f34 f35 f36 f37 f38 f39 f40 f41 f42 f43 f44 ds rd I) (fun m s hj => by obtain ⟨v6, v7, h, x8, x17, x18, x19, x20, x21, x22, x23, x24, x25, x26, x27, x28, x29, x30, rfl, hi⟩ := hj; exact hb m v6 v7 h x8 x17 x18 x19 x20 x21 x22 x23 x24 x25 x26 x27 x28 x29 x30 hi) m _ ⟨_, _, h, _, _, _, _, _, _, _, _, _, _, _, _, _, _, _, rfl, hi⟩
theorem lr05_Decode_l0_again {f0 f1 f2 f3 f4 f5 f9 f10 f11 f12 f13 f14 f15 f16 f31 f32 f33 f34 f35 f36 f37 f38 f39 f40 f41 f42 f43 f44 : Value} {ds : List Deferred} {rd : Option Nat} {Q : QP} {I : Nat → Value → Value → Heap → Prop} {m : Nat} (m' : Nat) {v6 v7 : Value} {h : Heap} {x8 x17 x18 x19 x20 x21 x22 x23 x24 x25 x26 x27 x28 x29 x30 : Value} (hm : m' < m) (hi : I m' v6 v7 h) : loopQ (lr05_Decode_l0_J f0 f1 f2 f3 f4 f5 f9 f10 f11 f12 f13 f14 f15 f16 f31 f32 f33 f34 f35 f36 f37 f38 f39 f40 f41 f42 f43 f44 ds rd I) m Q .normal ⟨[f0, f1, f2, f3, f4, f5, v6, v7, x8, f9, f10, f11, f12, f13, f14, f15, f16, x17, x18, x19, x20, x21, x22, x23, x24, x25, x26, x27, x28, x29, x30, f31, f32, f33, f34, f35, f36, f37, f38, f39, f40, f41, f42, f43, f44], ds, h, rd⟩ :=
 loopQ.again m' hm ⟨_, _, h, _, _, _, _, _, _, _, _, _, _, _, _, _, _, _, rfl, hi⟩
abbrev fn_lk_SameCommit : FuncId := 56
noncomputable def lk_SameCommit_c : ACode :=
 (.seq (.region [
 o1 2 (.box 33 (tm 0)),
 o1 3 (.box 33 (tm 1)),
 o1 4 (.mov (.const (.bool false)))]) (.seq (.region [
 o1 5 (.fieldAddr 0 (tm 2)),
 o1 6 (.load none (tm 5)),
 o1 7 (.fieldAddr 0 (tm 3)),
 o1 8 (.load none (tm 7)),
 o1 9 (.bin .eql (so (.binOp .eql 3 (tm 6) (tm 8) 3) 4) (tm 6) (tm 8)),
 o1 10 (.mov (tm 9)),
 o4 11 (.fieldAddr 1 (tm 2)) 10,
 o4 12 (.load (some 32) (tm 11)) 10,
 o4 13 (.fieldAddr 1 (tm 3)) 10,
 o4 14 (.load (some 32) (tm 13)) 10,
 o4 15 (.bin .eql (so (.binOp .eql 28 (tm 12) (tm 14) 28) 4) (tm 12) (tm 14)) 10,
 o1 16 (.pick (tm 10) (tm 15) (.const (.bool false))),
 o1 17 (.mov (tm 16)),
 o4 18 (.fieldAddr 33 (tm 2)) 17,
 o4 19 (.load none (tm 18)) 17,
 o4 20 (.fieldAddr 33 (tm 3)) 17,
 o4 21 (.load none (tm 20)) 17,
 o4 22 (.callV (.func 100) [(tm 19), (tm 21)]) 17,
 o1 23 (.pick (tm 17) (tm 22) (.const (.bool false))),
 o1 4 (.mov (tm 23))]) .ret))
noncomputable def lk_SameCommit : AFunc := ⟨24, [(4, none)], lk_SameCommit_c, none⟩
theorem lk_SameCommit_t : T0 56 = some lk_SameCommit := withKept_t rfl (withTrue_t rfl (by kernel_rfl : tableOf Tryz.prog 56 = some lk_SameCommit))
theorem lk_SameCommit_runs {v0 v1 : Value} {h : Heap} {R : RP} {X : XP} (k : RunC Tryz.prog T0 lk_SameCommit_c ⟨[v0, v1, U, U, U, U, U, U, U, U, U, U, U, U, U, U, U, U, U, U, U, U, U, U], [], h, none⟩ (bodyQ Tryz.prog T0 [(4, none)] R X)) :
 Runs Tryz.prog T0 (.fn 56) [v0, v1] h R X := Runs.fn lk_SameCommit_t rfl k
abbrev fn_lk_SameVals : FuncId := 57
noncomputable def lk_SameVals_l0 : ACode :=
 (.seq (.seq (.region [
 o1 12 (.mov (tm 5)),
 o1 13 (.mov (tm 12)),
 o4 14 (.mov (tm 6)) 13,
 o4 15 (.mov (tm 0)) 13,
 o4 16 (.lenSl (tm 15)) 13,
 o4 17 (.bin .lss (so (.binOp .lss 3 (tm 14) (tm 16) 3) 4) (tm 14) (tm 16)) 13,
 o1 18 (.pick (tm 13) (tm 17) (.const (.bool false)))]) (.cond (tm 18)
 .skip
 (.exit 0))) (.seq (.block 1 (.regionD [
 o1 21 (.mov (tm 0)),
 o1 22 (.mov (tm 6)),
 o1 23 (.indexSl 5 (tm 21) (tm 22)),
 o1 24 (.load (some 5) (tm 23)),
 o1 25 (.mov (tm 1)),
 o1 26 (.mov (tm 6)),
 o1 27 (.indexSl 5 (tm 25) (tm 26)),
 o1 28 (.load (some 5) (tm 27)),
 o2 29 (.bin .eql (so (.binOp .eql 110 (tm 24) (tm 28) 110) 4) (tm 24) (tm 28)),
 o2 5 (.mov (tm 29))])) (.region [
 o1 19 (.mov (tm 6)),
 o1 20 (.bin .add (so (.binOp .add 3 (tm 19) (.const (.int .i64 1)) 3) 3) (tm 19) (.const (.int .i64 1))),
 o1 6 (.mov (tm 20))])))
noncomputable def lk_SameVals_c : ACode :=
 (.seq (.region [
 o1 4 (.mov (.const (.bool false)))]) (.seq (.region [
 o1 7 (.mov (tm 0)),
 o1 8 (.lenSl (tm 7)),
 o1 9 (.mov (tm 1)),
 o1 10 (.lenSl (tm 9)),
 o1 11 (.bin .eql (so (.binOp .eql 3 (tm 8) (tm 10) 3) 4) (tm 8) (tm 10)),
 o1 5 (.mov (tm 11))]) (.seq (.seq (.region [
 o1 6 (.mov k0)]) (.block 0 (.loop lk_SameVals_l0))) (.seq (.region [
 o1 30 (.mov (tm 5)),
 o1 4 (.mov (tm 30))]) .ret))))
noncomputable def lk_SameVals : AFunc := ⟨31, [(4, none)], lk_SameVals_c, none⟩
theorem lk_SameVals_t : T0 57 = some lk_SameVals := withKept_t rfl (withTrue_t rfl (by kernel_rfl : tableOf Tryz.prog 57 = some lk_SameVals))
theorem lk_SameVals_runs {v0 v1 : Value} {h : Heap} {R : RP} {X : XP} (k : RunC Tryz.prog T0 lk_SameVals_c ⟨[v0, v1, U, U, U, U, U, U, U, U, U, U, U, U, U, U, U, U, U, U, U, U, U, U, U, U, U, U, U, U, U], [], h, none⟩ (bodyQ Tryz.prog T0 [(4, none)] R X)) :
 Runs Tryz.prog T0 (.fn 57) [v0, v1] h R X := Runs.fn lk_SameVals_t rfl k
/-- the slots that turn in the loop: v5 v6 -/
noncomputable def lk_SameVals_l0_J (f0 f1 f2 f3 f4 f7 f8 f9 f10 f11 f30 : Value) (ds : List Deferred) (rd : Option Nat) (I : Nat → Value → Value → Heap → Prop) (m : Nat) (s : St) : Prop := ∃ (v5 v6 : Value), ∃ h : Heap, ∃ (x12 x13 x14 x15 x16 x17 x18 x19 x20 x21 x22 x23 x24 x25 x26 x27 x28 x29 : Value), s = ⟨[f0, f1, f2, f3, f4, v5, v6, f7, f8, f9, f10, f11, x12, x13, x14, x15, x16, x17, x18, x19, x20, x21, x22, x23, x24, x25, x26, x27, x28, x29, f30], ds, h, rd⟩ ∧ I m v5 v6 h
theorem lk_SameVals_l0_rule {f0 f1 f2 f3 f4 f7 f8 f9 f10 f11 f30 : Value} {ds : List Deferred} {rd : Option Nat} {Q : QP} (I : Nat → Value → Value → Heap → Prop) (hb : ∀ (m : Nat) (v5 v6 : Value) (h : Heap) (x12 x13 x14 x15 x16 x17 x18 x19 x20 x21 x22 x23 x24 x25 x26 x27 x28 x29 : Value) , I m v5 v6 h → RunC Tryz.prog T0 lk_SameVals_l0 ⟨[f0, f1, f2, f3, f4, v5, v6, f7, f8, f9, f10, f11, x12, x13, x14, x15, x16, x17, x18, x19, x20, x21, x22, x23, x24, x25, x26, x27, x28, x29, f30], ds, h, rd⟩ (loopQ (lk_SameVals_l0_J f0 f1 f2 f3 f4 f7 f8 f9 f10 f11 f30 ds rd I) m Q))
 (m : Nat) {v5 v6 : Value} {h : Heap} {x12 x13 x14 x15 x16 x17 x18 x19 x20 x21 x22 x23 x24 x25 x26 x27 x28 x29 : Value} (hi : I m v5 v6 h) : RunC Tryz.prog T0 (.loop lk_SameVals_l0) ⟨[f0, f1, f2, f3, f4, v5, v6, f7, f8, f9, f10, f11, x12, x13, x14, x15, x16, x17, x18, x19, x20, x21, x22, x23, x24, x25, x26, x27, x28, x29, f30], ds, h, rd⟩ Q :=
 RunC.loopJ (lk_SameVals_l0_J f0 f1 f2 f3 f4 f7 f8 f9 f10 f11 f30 ds rd I) (fun m s hj => by obtain ⟨v5, v6, h, x12, x13, x14, x15, x16, x17, x18, x19, x20, x21, x22, x23, x24, x25, x26, x27, x28, x29, rfl, hi⟩ := hj; exact hb m v5 v6 h x12 x13 x14 x15 x16 x17 x18 x19 x20 x21 x22 x23 x24 x25 x26 x27 x28 x29 hi) m _ ⟨_, _, h, _, _, _, _, _, _, _, _, _, _, _, _, _, _, _, _, _, _, rfl, hi⟩
theorem lk_SameVals_l0_again {f0 f1 f2 f3 f4 f7 f8 f9 f10 f11 f30 : Value} {ds : List Deferred} {rd : Option Nat} {Q : QP} {I : Nat → Value → Value → Heap → Prop} {m : Nat} (m' : Nat) {v5 v6 : Value} {h : Heap} {x12 x13 x14 x15 x16 x17 x18 x19 x20 x21 x22 x23 x24 x25 x26 x27 x28 x29 : Value} (hm : m' < m) (hi : I m' v5 v6 h) : loopQ (lk_SameVals_l0_J f0 f1 f2 f3 f4 f7 f8 f9 f10 f11 f30 ds rd I) m Q .normal ⟨[f0, f1, f2, f3, f4, v5, v6, f7, f8, f9, f10, f11, x12, x13, x14, x15, x16, x17, x18, x19, x20, x21, x22, x23, x24, x25, x26, x27, x28, x29, f30], ds, h, rd⟩ :=
 loopQ.again m' hm ⟨_, _, h, _, _, _, _, _, _, _, _, _, _, _, _, _, _, _, _, _, _, rfl, hi⟩
abbrev fn_slices_Clone___byte_byte_ : FuncId := 60
noncomputable def slices_Clone___byte_byte__c : ACode :=
 (.seq (.region [
 o1 2 (.mov (.const (.slice none 0 0)))]) (.seq (.seq (.region [
 o1 3 (.mov (tm 0)),
 o1 4 (.eq .slice false (so (.binOp .eql 22 (tm 3) (.const (.slice none 0 0)) 22) 4) (tm 3) (.const (.slice none 0 0)))]) (.cond (tm 4)
 (.seq (.region [
 o1 2 (.mov (.const (.slice none 0 0)))]) .ret)
 .skip)) (.seq (.region [
 o1 5 (.buildSlice 5 [] 0 []),
 o1 6 (.mov (tm 0)),
 o1 7 (.append 5 1 1 [(.int .u8 0)] false (tm 5) (tm 6)),
 o1 2 (.mov (tm 7))]) .ret)))
noncomputable def slices_Clone___byte_byte_ : AFunc := ⟨8, [(2, none)], slices_Clone___byte_byte__c, none⟩
theorem slices_Clone___byte_byte__t : T0 60 = some slices_Clone___byte_byte_ := withKept_t rfl (withTrue_t rfl (by kernel_rfl : tableOf Tryz.prog 60 = some slices_Clone___byte_byte_))
theorem slices_Clone___byte_byte__runs {v0 : Value} {h : Heap} {R : RP} {X : XP} (k : RunC Tryz.prog T0 slices_Clone___byte_byte__c ⟨[v0, U, U, U, U, U, U, U], [], h, none⟩ (bodyQ Tryz.prog T0 [(2, none)] R X)) :
 Runs Tryz.prog T0 (.fn 60) [v0] h R X := Runs.fn slices_Clone___byte_byte__t rfl k
abbrev fn_wire_reads_int_ : FuncId := 61
noncomputable def wire_reads_int__c : ACode :=
 (.seq (.region [
 o1 4 (.mov k0)]) (.seq (.seq (.region [
 o1 5 (.mov (tm 0)),
 o1 6 (.eq .ptr false (so (.binOp .eql 61 (tm 5) (.const (.pointer none)) 61) 4) (tm 5) (.const (.pointer none))),
 o1 7 (.mov (tm 6)),
 o5 8 (.mov (tm 0)) 7,
 o5 9 (.nilCheck (tm 8)) 7,
 o5 10 (.fieldAddr 4 (tm 9)) 7,
 o5 11 (.load none (tm 10)) 7,
 o5 12 (.raw (so (.unOp .not 4 (tm 11)) 4)) 7,
 o1 13 (.pick (tm 7) (.const (.bool true)) (tm 12)),
 o1 14 (.mov (tm 13)),
 o5 15 (.mov (tm 0)) 14,
 o5 16 (.nilCheck (tm 15)) 14,
 o5 17 (.fieldAddr 2 (tm 16)) 14,
 o5 18 (.fieldAddr 0 (tm 17)) 14,
 o5 19 (.load none (tm 18)) 14,
 o5 20 (.bin .neq (so (.binOp .neq 41 (tm 19) k0 41) 4) (tm 19) k0) 14,
 o1 21 (.pick (tm 14) (.const (.bool true)) (tm 20))]) (.cond (tm 21)
 (.seq (.region [
 o1 22 (.mov (tm 4)),
 o1 4 (.mov (tm 22))]) .ret)
 .skip)) (.seq (.region [
 o1 23 (.mov (tm 0)),
 o3 (.defer (.func 102) [(tm 23)])]) (.seq (.region [
 o1 24 (.mov (tm 1)),
 o1 25 (.mov (tm 0)),
 o1 26 (.nilCheck (tm 25)),
 o1 27 (.fieldAddr 1 (tm 26)),
 o1 28 (.load none (tm 27)),
 o1 29 (.callV (tm 24) [(tm 28)]),
 o1 4 (.mov (tm 29))]) .ret))))
noncomputable def wire_reads_int_ : AFunc := ⟨30, [(4, none)], wire_reads_int__c, none⟩
theorem wire_reads_int__t : T0 61 = some wire_reads_int_ := withKept_t rfl (withTrue_t rfl (by kernel_rfl : tableOf Tryz.prog 61 = some wire_reads_int_))
theorem wire_reads_int__runs {v0 v1 : Value} {h : Heap} {R : RP} {X : XP} (k : RunC Tryz.prog T0 wire_reads_int__c ⟨[v0, v1, U, U, U, U, U, U, U, U, U, U, U, U, U, U, U, U, U, U, U, U, U, U, U, U, U, U, U, U], [], h, none⟩ (bodyQ Tryz.prog T0 [(4, none)] R X)) :
 Runs Tryz.prog T0 (.fn 61) [v0, v1] h R X := Runs.fn wire_reads_int__t rfl k
abbrev fn_wire_Reader_num : FuncId := 62
noncomputable def wire_Reader_num_c : ACode :=
 (.seq (.region [
 o1 4 (.mov k0)]) (.seq (.region [
 o1 8 (.mov (tm 0)),
 o1 9 (.mov (tm 1)),
 o1 10 (.callV (.func 103) [(tm 8), (.const (.int .i64 1)), (tm 9), (.func 104)]),
 o1 11 (.conv .i64 (so (.convert 105 3 (tm 10)) 3) (tm 10)),
 o1 5 (.alloc 3 [(.int .i64 0)]),
 o3 (.store 1 (tm 5) (tm 11))]) (.seq (.region [
 o1 12 (.load none (tm 5)),
 o1 13 (.bin .leq (so (.binOp .leq 3 (tm 12) (.const (.int .i64 8)) 3) 4) (tm 12) (.const (.int .i64 8))),
 o1 14 (.mov (tm 1)),
 o1 15 (.callV (.func 66) [(tm 13), (.const (.int .i64 5)), (tm 14)])]) (.seq (.region [
 o1 6 (.alloc 5 [(.int .u8 0)]),
 o3 (.store 1 (tm 6) (.const (.int .u8 1)))]) (.seq (.region [
 o1 16 (.mov (tm 0)),
 o1 17 (.load none (tm 5)),
 o1 18 (.mov (tm 1)),
 o1 19 (.mkFunc (.func 105) [] [(tm 5), (tm 6)]),
 o1 20 (.callV (.func 103) [(tm 16), (tm 17), (tm 18), (tm 19)]),
 o1 7 (.mov (tm 20))]) (.seq (.region [
 o1 21 (.load none (tm 6)),
 o1 22 (.bin .neq (so (.binOp .neq 5 (tm 21) (.const (.int .u8 0)) 5) 4) (tm 21) (.const (.int .u8 0))),
 o1 23 (.mov (tm 22)),
 o4 24 (.mov (tm 7)) 23,
 o4 25 (.bin .leq (so (.binOp .leq 105 (tm 24) (.const (.int .u64 9223372036854775807)) 105) 4) (tm 24) (.const (.int .u64 9223372036854775807))) 23,
 o1 26 (.pick (tm 23) (tm 25) (.const (.bool false))),
 o1 27 (.mov (tm 1)),
 o1 28 (.callV (.func 66) [(tm 26), (.const (.int .i64 5)), (tm 27)])]) (.seq (.region [
 o1 29 (.mov (tm 7)),
 o1 30 (.conv .i64 (so (.convert 105 3 (tm 29)) 3) (tm 29)),
 o1 4 (.mov (tm 30))]) .ret)))))))
noncomputable def wire_Reader_num : AFunc := ⟨31, [(4, none)], wire_Reader_num_c, none⟩
theorem wire_Reader_num_t : T0 62 = some wire_Reader_num := withKept_t rfl (withTrue_t rfl (by kernel_rfl : tableOf Tryz.prog 62 = some wire_Reader_num))
theorem wire_Reader_num_runs {v0 v1 : Value} {h : Heap} {R : RP} {X : XP} (k : RunC Tryz.prog T0 wire_Reader_num_c ⟨[v0, v1, U, U, U, U, U, U, U, U, U, U, U, U, U, U, U, U, U, U, U, U, U, U, U, U, U, U, U, U, U], [], h, none⟩ (bodyQ Tryz.prog T0 [(4, none)] R X)) :
 Runs Tryz.prog T0 (.fn 62) [v0, v1] h R X := Runs.fn wire_Reader_num_t rfl k
abbrev fn_wire_Reader_Rest : FuncId := 63
noncomputable def wire_Reader_Rest_c : ACode :=
 (.seq (.region [
 o1 2 (.mov k0)]) (.seq (.seq (.region [
 o1 3 (.mov (tm 0)),
 o1 4 (.eq .ptr false (so (.binOp .eql 61 (tm 3) (.const (.pointer none)) 61) 4) (tm 3) (.const (.pointer none))),
 o1 5 (.mov (tm 4)),
 o5 6 (.mov (tm 0)) 5,
 o5 7 (.nilCheck (tm 6)) 5,
 o5 8 (.fieldAddr 4 (tm 7)) 5,
 o5 9 (.load none (tm 8)) 5,
 o5 10 (.raw (so (.unOp .not 4 (tm 9)) 4)) 5,
 o1 11 (.pick (tm 5) (.const (.bool true)) (tm 10)),
 o1 12 (.mov (tm 11)),
 o5 13 (.mov (tm 0)) 12,
 o5 14 (.nilCheck (tm 13)) 12,
 o5 15 (.fieldAddr 2 (tm 14)) 12,
 o5 16 (.fieldAddr 0 (tm 15)) 12,
 o5 17 (.load none (tm 16)) 12,
 o5 18 (.bin .neq (so (.binOp .neq 41 (tm 17) k0 41) 4) (tm 17) k0) 12,
 o1 19 (.pick (tm 12) (.const (.bool true)) (tm 18))]) (.cond (tm 19)
 (.seq (.region [
 o1 2 (.mov k0)]) .ret)
 .skip)) (.seq (.regionD [
 o1 20 (.mov (tm 0)),
 o1 21 (.nilCheck (tm 20)),
 o1 22 (.fieldAddr 0 (tm 21)),
 o1 23 (.load none (tm 22)),
 o1 24 (.lenSl (tm 23)),
 o1 25 (.mov (tm 0)),
 o1 26 (.nilCheck (tm 25)),
 o1 27 (.fieldAddr 1 (tm 26)),
 o1 28 (.load none (tm 27)),
 o2 29 (.bin .sub (so (.binOp .sub 3 (tm 24) (tm 28) 3) 3) (tm 24) (tm 28)),
 o2 2 (.mov (tm 29))]) .ret)))
noncomputable def wire_Reader_Rest : AFunc := ⟨30, [(2, none)], wire_Reader_Rest_c, none⟩
theorem wire_Reader_Rest_t : T0 63 = some wire_Reader_Rest := withKept_t rfl (withTrue_t rfl (by kernel_rfl : tableOf Tryz.prog 63 = some wire_Reader_Rest))
theorem wire_Reader_Rest_runs {v0 : Value} {h : Heap} {R : RP} {X : XP} (k : RunC Tryz.prog T0 wire_Reader_Rest_c ⟨[v0, U, U, U, U, U, U, U, U, U, U, U, U, U, U, U, U, U, U, U, U, U, U, U, U, U, U, U, U, U], [], h, none⟩ (bodyQ Tryz.prog T0 [(2, none)] R X)) :
 Runs Tryz.prog T0 (.fn 63) [v0] h R X := Runs.fn wire_Reader_Rest_t rfl k
abbrev fn_wire_reads___byte_ : FuncId := 64
noncomputable def wire_reads___byte__c : ACode :=
 (.seq (.region [
 o1 4 (.mov (.const (.slice none 0 0)))]) (.seq (.seq (.region [
 o1 5 (.mov (tm 0)),
 o1 6 (.eq .ptr false (so (.binOp .eql 61 (tm 5) (.const (.pointer none)) 61) 4) (tm 5) (.const (.pointer none))),
 o1 7 (.mov (tm 6)),
 o5 8 (.mov (tm 0)) 7,
 o5 9 (.nilCheck (tm 8)) 7,
 o5 10 (.fieldAddr 4 (tm 9)) 7,
 o5 11 (.load none (tm 10)) 7,
 o5 12 (.raw (so (.unOp .not 4 (tm 11)) 4)) 7,
 o1 13 (.pick (tm 7) (.const (.bool true)) (tm 12)),
 o1 14 (.mov (tm 13)),
 o5 15 (.mov (tm 0)) 14,
 o5 16 (.nilCheck (tm 15)) 14,
 o5 17 (.fieldAddr 2 (tm 16)) 14,
 o5 18 (.fieldAddr 0 (tm 17)) 14,
 o5 19 (.load none (tm 18)) 14,
 o5 20 (.bin .neq (so (.binOp .neq 41 (tm 19) k0 41) 4) (tm 19) k0) 14,
 o1 21 (.pick (tm 14) (.const (.bool true)) (tm 20))]) (.cond (tm 21)
 (.seq (.region [
 o1 22 (.mov (tm 4)),
 o1 4 (.mov (tm 22))]) .ret)
 .skip)) (.seq (.region [
 o1 23 (.mov (tm 0)),
 o3 (.defer (.func 102) [(tm 23)])]) (.seq (.region [
 o1 24 (.mov (tm 1)),
 o1 25 (.mov (tm 0)),
 o1 26 (.nilCheck (tm 25)),
 o1 27 (.fieldAddr 1 (tm 26)),
 o1 28 (.load none (tm 27)),
 o1 29 (.callV (tm 24) [(tm 28)]),
 o1 4 (.mov (tm 29))]) .ret))))
noncomputable def wire_reads___byte_ : AFunc := ⟨30, [(4, none)], wire_reads___byte__c, none⟩
theorem wire_reads___byte__t : T0 64 = some wire_reads___byte_ := withKept_t rfl (withTrue_t rfl (by kernel_rfl : tableOf Tryz.prog 64 = some wire_reads___byte_))
theorem wire_reads___byte__runs {v0 v1 : Value} {h : Heap} {R : RP} {X : XP} (k : RunC Tryz.prog T0 wire_reads___byte__c ⟨[v0, v1, U, U, U, U, U, U, U, U, U, U, U, U, U, U, U, U, U, U, U, U, U, U, U, U, U, U, U, U], [], h, none⟩ (bodyQ Tryz.prog T0 [(4, none)] R X)) :
 Runs Tryz.prog T0 (.fn 64) [v0, v1] h R X := Runs.fn wire_reads___byte__t rfl k
abbrev fn_wire_Reader_Bytes_1 : FuncId := 65
noncomputable def wire_Reader_Bytes_1_c : ACode :=
 (.seq (.region [
 o1 4 (.mov (.const (.slice none 0 0)))]) (.seq (.region [
 o1 6 (.load none (tm 1)),
 o1 7 (.mov (tm 0)),
 o1 8 (.callV (.func 62) [(tm 6), (tm 7)]),
 o1 5 (.mov (tm 8))]) (.seq (.region [
 o1 9 (.mov (tm 5)),
 o1 10 (.load none (tm 2)),
 o1 11 (.raw (so (.call ⟨.builtin .max, #[(tm 10), k0], #[3, 3]⟩) 3)),
 o1 12 (.bin .leq (so (.binOp .leq 3 (tm 9) (tm 11) 3) 4) (tm 9) (tm 11)),
 o1 13 (.mov (tm 0)),
 o1 14 (.callV (.func 66) [(tm 12), (.const (.int .i64 4)), (tm 13)])]) (.seq (.region [
 o1 15 (.load none (tm 1)),
 o1 16 (.mov (tm 5)),
 o1 17 (.mov (tm 0)),
 o1 18 (.callV (.func 67) [(tm 15), (tm 16), (tm 17), (.func 60)]),
 o1 4 (.mov (tm 18))]) .ret))))
noncomputable def wire_Reader_Bytes_1 : AFunc := ⟨19, [(4, none)], wire_Reader_Bytes_1_c, none⟩
theorem wire_Reader_Bytes_1_t : T0 65 = some wire_Reader_Bytes_1 := withKept_t rfl (withTrue_t rfl (by kernel_rfl : tableOf Tryz.prog 65 = some wire_Reader_Bytes_1))
theorem wire_Reader_Bytes_1_runs {v0 v1 v2 : Value} {h : Heap} {R : RP} {X : XP} (k : RunC Tryz.prog T0 wire_Reader_Bytes_1_c ⟨[v0, v1, v2, U, U, U, U, U, U, U, U, U, U, U, U, U, U, U, U], [], h, none⟩ (bodyQ Tryz.prog T0 [(4, none)] R X)) :
 Runs Tryz.prog T0 (.fn 65) [v0, v1, v2] h R X := Runs.fn wire_Reader_Bytes_1_t rfl k
abbrev fn_wire_must : FuncId := 66
noncomputable def wire_must_c : ACode :=
 (.seq (.region [
 o1 6 (.mov (tm 0)),
 o1 7 (.raw (so (.unOp .not 4 (tm 6)) 4))]) (.cond (tm 7)
 (.region [
 o1 8 (.mov (tm 1)),
 o1 9 (.mov (tm 2)),
 o1 10 (.build [(.int .i64 0), (.int .i64 0)] [(0, 1, (tm 8)), (1, 1, (tm 9))]),
 o1 11 (.build [(.int .i64 0), (.int .i64 0)] [(0, 2, (tm 10))]),
 o1 12 (.mkIface 150 (tm 11)),
 o3 (.panic (tm 12))])
 .skip))
noncomputable def wire_must : AFunc := ⟨13, [], wire_must_c, none⟩
theorem wire_must_t : T0 66 = some wire_must := withKept_t rfl (withTrue_t rfl (by kernel_rfl : tableOf Tryz.prog 66 = some wire_must))
theorem wire_must_runs {v0 v1 v2 : Value} {h : Heap} {R : RP} {X : XP} (k : RunC Tryz.prog T0 wire_must_c ⟨[v0, v1, v2, U, U, U, U, U, U, U, U, U, U], [], h, none⟩ (bodyQ Tryz.prog T0 [] R X)) :
 Runs Tryz.prog T0 (.fn 66) [v0, v1, v2] h R X := Runs.fn wire_must_t rfl k
abbrev fn_wire_take___byte_ : FuncId := 67
noncomputable def wire_take___byte__c : ACode :=
 (.seq (.region [
 o1 8 (.mov (.const (.slice none 0 0)))]) (.seq (.regionD [
 o1 9 (.mov (tm 1)),
 o1 10 (.mov (tm 0)),
 o1 11 (.nilCheck (tm 10)),
 o1 12 (.fieldAddr 0 (tm 11)),
 o1 13 (.load none (tm 12)),
 o1 14 (.lenSl (tm 13)),
 o1 15 (.mov (tm 0)),
 o1 16 (.nilCheck (tm 15)),
 o1 17 (.fieldAddr 1 (tm 16)),
 o1 18 (.load none (tm 17)),
 o1 19 (.bin .sub (so (.binOp .sub 3 (tm 14) (tm 18) 3) 3) (tm 14) (tm 18)),
 o1 20 (.bin .leq (so (.binOp .leq 3 (tm 9) (tm 19) 3) 4) (tm 9) (tm 19)),
 o1 21 (.mov (tm 2)),
 o2 22 (.callV (.func 66) [(tm 20), (.const (.int .i64 6)), (tm 21)])]) (.seq (.region [
 o1 23 (.mov (tm 0)),
 o1 24 (.nilCheck (tm 23)),
 o1 25 (.fieldAddr 1 (tm 24)),
 o1 26 (.load none (tm 25)),
 o1 27 (.mov (tm 1)),
 o1 28 (.bin .add (so (.binOp .add 3 (tm 26) (tm 27) 3) 3) (tm 26) (tm 27)),
 o1 29 (.nilCheck (tm 23)),
 o1 30 (.fieldAddr 1 (tm 29)),
 o3 (.store 1 (tm 30) (tm 28))]) (.seq (.regionD [
 o1 31 (.mov (tm 3)),
 o1 32 (.mov (tm 0)),
 o1 33 (.nilCheck (tm 32)),
 o1 34 (.fieldAddr 0 (tm 33)),
 o1 35 (.load none (tm 34)),
 o1 36 (.mov (tm 0)),
 o1 37 (.nilCheck (tm 36)),
 o1 38 (.fieldAddr 1 (tm 37)),
 o1 39 (.load none (tm 38)),
 o1 40 (.mov (tm 1)),
 o1 41 (.bin .sub (so (.binOp .sub 3 (tm 39) (tm 40) 3) 3) (tm 39) (tm 40)),
 o1 42 (.mov (tm 0)),
 o1 43 (.nilCheck (tm 42)),
 o1 44 (.fieldAddr 1 (tm 43)),
 o1 45 (.load none (tm 44)),
 o1 46 (.sliceSl 1 (tm 35) (some (tm 41)) (some (tm 45)) none),
 o2 47 (.callV (tm 31) [(tm 46)]),
 o2 8 (.mov (tm 47))]) .ret))))
noncomputable def wire_take___byte_ : AFunc := ⟨48, [(8, none)], wire_take___byte__c, none⟩
theorem wire_take___byte__t : T0 67 = some wire_take___byte_ := withKept_t rfl (withTrue_t rfl (by kernel_rfl : tableOf Tryz.prog 67 = some wire_take___byte_))
theorem wire_take___byte__runs {v0 v1 v2 v3 : Value} {h : Heap} {R : RP} {X : XP} (k : RunC Tryz.prog T0 wire_take___byte__c ⟨[v0, v1, v2, v3, U, U, U, U, U, U, U, U, U, U, U, U, U, U, U, U, U, U, U, U, U, U, U, U, U, U, U, U, U, U, U, U, U, U, U, U, U, U, U, U, U, U, U, U], [], h, none⟩ (bodyQ Tryz.prog T0 [(8, none)] R X)) :
 Runs Tryz.prog T0 (.fn 67) [v0, v1, v2, v3] h R X := Runs.fn wire_take___byte__t rfl k
abbrev fn_lr04_Reader_take : FuncId := 68
noncomputable def lr04_Reader_take_c : ACode :=
 (.seq (.region [
 o1 6 (.mov (.const (.slice none 0 0)))]) (.seq (.seq (.region [
 o1 8 (.mov (tm 0)),
 o1 9 (.nilCheck (tm 8)),
 o1 10 (.fieldAddr 2 (tm 9)),
 o1 11 (.fieldAddr 0 (tm 10)),
 o1 12 (.load none (tm 11)),
 o1 13 (.bin .neq (so (.binOp .neq 41 (tm 12) k0 41) 4) (tm 12) k0)]) (.cond (tm 13)
 (.seq (.region [
 o1 6 (.mov (.const (.slice none 0 0)))]) .ret)
 .skip)) (.seq (.seq (.regionD [
 o1 14 (.mov (tm 1)),
 o1 15 (.mov (tm 0)),
 o1 16 (.nilCheck (tm 15)),
 o1 17 (.fieldAddr 0 (tm 16)),
 o1 18 (.load none (tm 17)),
 o1 19 (.lenSl (tm 18)),
 o1 20 (.mov (tm 0)),
 o1 21 (.nilCheck (tm 20)),
 o1 22 (.fieldAddr 1 (tm 21)),
 o1 23 (.load none (tm 22)),
 o1 24 (.bin .sub (so (.binOp .sub 3 (tm 19) (tm 23) 3) 3) (tm 19) (tm 23)),
 o2 25 (.bin .gtr (so (.binOp .gtr 3 (tm 14) (tm 24) 3) 4) (tm 14) (tm 24))]) (.cond (tm 25)
 (.seq (.region [
 o1 26 (.mov (tm 0)),
 o1 27 (.mov (tm 2)),
 o1 28 (.callV (.func 33) [(tm 26), (.const (.int .i64 6)), (tm 27)])]) (.seq (.region [
 o1 6 (.mov (.const (.slice none 0 0)))]) .ret))
 .skip)) (.seq (.regionD [
 o1 30 (.mov (tm 0)),
 o1 31 (.nilCheck (tm 30)),
 o1 32 (.fieldAddr 0 (tm 31)),
 o1 33 (.load none (tm 32)),
 o1 34 (.mov (tm 0)),
 o1 35 (.nilCheck (tm 34)),
 o1 36 (.fieldAddr 1 (tm 35)),
 o1 37 (.load none (tm 36)),
 o1 38 (.mov (tm 0)),
 o1 39 (.nilCheck (tm 38)),
 o1 40 (.fieldAddr 1 (tm 39)),
 o1 41 (.load none (tm 40)),
 o1 42 (.mov (tm 1)),
 o1 43 (.bin .add (so (.binOp .add 3 (tm 41) (tm 42) 3) 3) (tm 41) (tm 42)),
 o1 44 (.sliceSl 1 (tm 33) (some (tm 37)) (some (tm 43)) none),
 ⟨some 29, .buildSlice 5 [] 0 [], none, [(some 44, .sliceSl 1 (tm 33) (some (tm 37)) (some (tm 43)) none, none), (some 43, .bin .add (so (.binOp .add 3 (tm 41) (tm 42) 3) 3) (tm 41) (tm 42), none), (some 42, .mov (tm 1), none), (some 41, .load none (tm 40), none), (some 40, .fieldAddr 1 (tm 39), none), (some 39, .nilCheck (tm 38), none), (some 38, .mov (tm 0), none), (some 37, .load none (tm 36), none), (some 36, .fieldAddr 1 (tm 35), none), (some 35, .nilCheck (tm 34), none), (some 34, .mov (tm 0), none), (some 33, .load none (tm 32), none), (some 32, .fieldAddr 0 (tm 31), none), (some 31, .nilCheck (tm 30), none), (some 30, .mov (tm 0), none)], false⟩,
 o2 45 (.append 5 1 1 [(.int .u8 0)] false (tm 29) (tm 44)),
 o2 7 (.mov (tm 45))]) (.seq (.region [
 o1 46 (.mov (tm 0)),
 o1 47 (.mov (tm 0)),
 o1 48 (.nilCheck (tm 47)),
 o1 49 (.fieldAddr 1 (tm 48)),
 o1 50 (.load none (tm 49)),
 o1 51 (.mov (tm 1)),
 o1 52 (.bin .add (so (.binOp .add 3 (tm 50) (tm 51) 3) 3) (tm 50) (tm 51)),
 o1 53 (.nilCheck (tm 46)),
 o1 54 (.fieldAddr 1 (tm 53)),
 o3 (.store 1 (tm 54) (tm 52))]) (.seq (.region [
 o1 55 (.mov (tm 7)),
 o1 6 (.mov (tm 55))]) .ret))))))
noncomputable def lr04_Reader_take : AFunc := ⟨56, [(6, none)], lr04_Reader_take_c, none⟩
theorem lr04_Reader_take_t : T0 68 = some lr04_Reader_take := withKept_t rfl (withTrue_t rfl (by kernel_rfl : tableOf Tryz.prog 68 = some lr04_Reader_take))
theorem lr04_Reader_take_runs {v0 v1 v2 : Value} {h : Heap} {R : RP} {X : XP} (k : RunC Tryz.prog T0 lr04_Reader_take_c ⟨[v0, v1, v2, U, U, U, U, U, U, U, U, U, U, U, U, U, U, U, U, U, U, U, U, U, U, U, U, U, U, U, U, U, U, U, U, U, U, U, U, U, U, U, U, U, U, U, U, U, U, U, U, U, U, U, U, U], [], h, none⟩ (bodyQ Tryz.prog T0 [(6, none)] R X)) :
 Runs Tryz.prog T0 (.fn 68) [v0, v1, v2] h R X := Runs.fn lr04_Reader_take_t rfl k
abbrev fn_wire_Reader_Text : FuncId := 84
noncomputable def wire_Reader_Text_c : ACode :=
 (.seq (.region [
 o1 4 (.mov (.const (.string ⟨⟨[]⟩⟩)))]) (.seq (.region [
 o1 5 (.mov (tm 0)),
 o1 6 (.mov (tm 1)),
 o1 7 (.callV (.func 29) [(tm 5), (tm 6)]),
 o1 8 (.bytesToStr (tm 7)),
 o1 4 (.mov (tm 8))]) .ret))
noncomputable def wire_Reader_Text : AFunc := ⟨9, [(4, none)], wire_Reader_Text_c, none⟩
theorem wire_Reader_Text_t : T0 84 = some wire_Reader_Text := withKept_t rfl (withTrue_t rfl (by kernel_rfl : tableOf Tryz.prog 84 = some wire_Reader_Text))
theorem wire_Reader_Text_runs {v0 v1 : Value} {h : Heap} {R : RP} {X : XP} (k : RunC Tryz.prog T0 wire_Reader_Text_c ⟨[v0, v1, U, U, U, U, U, U, U], [], h, none⟩ (bodyQ Tryz.prog T0 [(4, none)] R X)) :
 Runs Tryz.prog T0 (.fn 84) [v0, v1] h R X := Runs.fn wire_Reader_Text_t rfl k
end Go.Proofs.YtfpnmcogfamhaaaGreat.A
