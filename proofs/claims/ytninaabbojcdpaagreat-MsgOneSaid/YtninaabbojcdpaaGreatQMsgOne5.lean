/- Contracts of functions, over the machine. -/
import Derived.Test.YtninaabbojcdpaaGreatQMsgOne4
import Derived.Test.YtninaabbojcdpaaGreatRows
import Derived.Test.YtninaabbojcdpaaGreatVJ
noncomputable section
set_option maxRecDepth 100000
set_option linter.unusedVariables false
namespace Go.Proofs.YtninaabbojcdpaaGreat.R
open Go Go.Vm
abbrev ty_internal_abi_BoundsErrorCode : TypeId := 6
abbrev ty_runtime_boundsError : TypeId := 8
abbrev ty_runtime_errorString : TypeId := 10
abbrev ty_runtime_plainError : TypeId := 11
abbrev ty_runtime_errorAddressString : TypeId := 14
abbrev ty_internal_runtime_maps_unhashableTypeError : TypeId := 19
abbrev ty_api_Ask : TypeId := 26
abbrev ty_api_Hash : TypeId := 28
abbrev ty_api_Header : TypeId := 30
abbrev ty_api_Commit : TypeId := 33
abbrev ty_api_Block : TypeId := 36
abbrev ty_api_Answer : TypeId := 38
abbrev ty_api_Msg : TypeId := 40
abbrev ty_api_Errno : TypeId := 41
abbrev ty_api_Fault : TypeId := 43
abbrev ty_msg_wrong : TypeId := 66
abbrev ty_msg_reader : TypeId := 72
abbrev ty_lr04_Reader : TypeId := 82
abbrev ty_iter_Seq_api_Errno_ : TypeId := 99
abbrev ty_wire_Reader : TypeId := 111
abbrev ty_api_Key : TypeId := 130
abbrev ty_api_Validator : TypeId := 132
abbrev ty_api_Vote : TypeId := 134
abbrev ty_msg_told : TypeId := 136
abbrev ty_lr04_Writer : TypeId := 140
abbrev ty_wire_Writer : TypeId := 149
abbrev ty_wire_wrong : TypeId := 162
abbrev ty_msg_ask : TypeId := 168
abbrev ty_msg_answer : TypeId := 169
abbrev ty_header_rule : TypeId := 175
abbrev ty_vals_look : TypeId := 177
abbrev ty_runtime_TypeAssertionError : TypeId := 207
abbrev ty_runtime_PanicNilError : TypeId := 210
abbrev ty_internal_abi_TFlag : TypeId := 212
abbrev ty_internal_abi_Kind : TypeId := 213
abbrev ty_internal_abi_NameOff : TypeId := 216
abbrev ty_internal_abi_TypeOff : TypeId := 217
abbrev ty_internal_abi_Type : TypeId := 219
instance : IsIface Tryz.prog 20 := ⟨by kernel_rfl⟩
instance : IsIface Tryz.prog 135 := ⟨by kernel_rfl⟩
instance : IsIface Tryz.prog 136 := ⟨by kernel_rfl⟩
abbrev prims : List FuncId := []
abbrev kepts : List FuncId := []
def T0 : Table := withKept (withTrue Tryz.prog prims) kepts
instance : IsBoolT Tryz.prog 4 := ⟨by kernel_rfl⟩
instance : TLeaves Tryz.prog 7 (.i .i64 :: (.i .i64 :: (.b :: (.i .u8 :: [])))) := ⟨by kernel_rfl, by kernel_rfl, by kernel_rfl⟩
instance : TLeaves Tryz.prog 8 (.i .i64 :: (.i .i64 :: (.b :: (.i .u8 :: [])))) := ⟨by kernel_rfl, by kernel_rfl, by kernel_rfl⟩
instance : TLeaves Tryz.prog 25 (.i .i64 :: (.i .i64 :: [])) := ⟨by kernel_rfl, by kernel_rfl, by kernel_rfl⟩
instance : TLeaves Tryz.prog 26 (.i .i64 :: (.i .i64 :: [])) := ⟨by kernel_rfl, by kernel_rfl, by kernel_rfl⟩
instance : TLeaves Tryz.prog 27 (u8s 32) := ⟨by kernel_rfl, by kernel_rfl, by kernel_rfl⟩
instance : TLeaves Tryz.prog 28 (u8s 32) := ⟨by kernel_rfl, by kernel_rfl, by kernel_rfl⟩
instance : TLeaves Tryz.prog 29 (.s :: (.i .i64 :: (.i .i64 :: (u8s 32 ++ (u8s 32 ++ (u8s 32 ++ (u8s 32))))))) := ⟨by kernel_rfl, by kernel_rfl, by kernel_rfl⟩
instance : TLeaves Tryz.prog 30 (.s :: (.i .i64 :: (.i .i64 :: (u8s 32 ++ (u8s 32 ++ (u8s 32 ++ (u8s 32))))))) := ⟨by kernel_rfl, by kernel_rfl, by kernel_rfl⟩
instance : TLeaves Tryz.prog 42 (.i .i64 :: (.i .i64 :: [])) := ⟨by kernel_rfl, by kernel_rfl, by kernel_rfl⟩
instance : TLeaves Tryz.prog 43 (.i .i64 :: (.i .i64 :: [])) := ⟨by kernel_rfl, by kernel_rfl, by kernel_rfl⟩
instance : TLeaves Tryz.prog 65 (.i .i64 :: (.i .i64 :: [])) := ⟨by kernel_rfl, by kernel_rfl, by kernel_rfl⟩
instance : TLeaves Tryz.prog 66 (.i .i64 :: (.i .i64 :: [])) := ⟨by kernel_rfl, by kernel_rfl, by kernel_rfl⟩
instance : TLeaves Tryz.prog 129 (u8s 4) := ⟨by kernel_rfl, by kernel_rfl, by kernel_rfl⟩
instance : TLeaves Tryz.prog 130 (u8s 4) := ⟨by kernel_rfl, by kernel_rfl, by kernel_rfl⟩
instance : TLeaves Tryz.prog 131 (u8s 4 ++ (.i .i64 :: [])) := ⟨by kernel_rfl, by kernel_rfl, by kernel_rfl⟩
instance : TLeaves Tryz.prog 132 (u8s 4 ++ (.i .i64 :: [])) := ⟨by kernel_rfl, by kernel_rfl, by kernel_rfl⟩
instance : TLeaves Tryz.prog 133 (.i .i64 :: (.i .u64 :: [])) := ⟨by kernel_rfl, by kernel_rfl, by kernel_rfl⟩
instance : TLeaves Tryz.prog 134 (.i .i64 :: (.i .u64 :: [])) := ⟨by kernel_rfl, by kernel_rfl, by kernel_rfl⟩
instance : TLeaves Tryz.prog 161 (.i .i64 :: (.i .i64 :: [])) := ⟨by kernel_rfl, by kernel_rfl, by kernel_rfl⟩
instance : TLeaves Tryz.prog 162 (.i .i64 :: (.i .i64 :: [])) := ⟨by kernel_rfl, by kernel_rfl, by kernel_rfl⟩
instance : TLeaves Tryz.prog 168 (.i .i64 :: (.i .i64 :: [])) := ⟨by kernel_rfl, by kernel_rfl, by kernel_rfl⟩
instance : TLeaves Tryz.prog 176 (u8s 4 ++ (.b :: (.i .i64 :: (.i .i64 :: [])))) := ⟨by kernel_rfl, by kernel_rfl, by kernel_rfl⟩
instance : TLeaves Tryz.prog 177 (u8s 4 ++ (.b :: (.i .i64 :: (.i .i64 :: [])))) := ⟨by kernel_rfl, by kernel_rfl, by kernel_rfl⟩
instance : TLeaves Tryz.prog 181 (u8s 4 ++ (u8s 4)) := ⟨by kernel_rfl, by kernel_rfl, by kernel_rfl⟩
instance : TLeaves Tryz.prog 185 (u8s 4 ++ (u8s 4 ++ (.i .u8 :: []))) := ⟨by kernel_rfl, by kernel_rfl, by kernel_rfl⟩
abbrev fn_znbQ : FuncId := 5
def znbQ_c : ACode :=
 (.seq (.region [
 o1 0 (.mov (.const (.bool false)))]) (.seq (.region [
 o1 2 (.buildSlice 5 [(.int .u8 0), (.int .u8 0), (.int .u8 0), (.int .u8 0), (.int .u8 0), (.int .u8 0), (.int .u8 0)] 7 [(0, 1, (.const (.int .u8 1))), (1, 1, (.const (.int .u8 1))), (2, 1, (.const (.int .u8 2))), (3, 1, (.const (.int .u8 1))), (4, 1, (.const (.int .u8 44))), (5, 1, (.const (.int .u8 1))), (6, 1, (.const (.int .u8 1)))]),
 o1 3 (.callV (.func 17) [(.const (.int .i64 300)), (.const (.int .i64 1)), (tm 2), k0]),
 o1 4 (.mov (tm 3)),
 o4 5 (.callV (.func 17) [k0, (.const (.int .i64 1)), (.const (.slice none 0 0)), (.const (.int .i64 3))]) 4,
 o1 6 (.pick (tm 4) (tm 5) (.const (.bool false))),
 o1 7 (.mov (tm 6)),
 o4 8 (.callV (.func 17) [(.const (.int .i64 1)), k0, (.const (.slice none 0 0)), (.const (.int .i64 3))]) 7,
 o1 9 (.pick (tm 7) (tm 8) (.const (.bool false))),
 o1 1 (.mov (tm 9))]) (.seq (.region [
 o1 10 (.callV (.func 9) []),
 o1 11 (.mov (tm 10)),
 o4 12 (.mov (tm 1)) 11,
 o1 13 (.pick (tm 11) (tm 12) (.const (.bool false))),
 o1 14 (.mov (tm 13)),
 o4 15 (.buildSlice 5 [(.int .u8 0), (.int .u8 0), (.int .u8 0), (.int .u8 0), (.int .u8 0)] 5 [(0, 1, (.const (.int .u8 1))), (1, 1, (.const (.int .u8 1))), (2, 1, (.const (.int .u8 0))), (3, 1, (.const (.int .u8 1))), (4, 1, (.const (.int .u8 1)))]) 14,
 o4 16 (.callV (.func 18) [(.const (.int .i64 3)), (.const (.int .i64 2)), (tm 15)]) 14,
 o1 17 (.pick (tm 14) (tm 16) (.const (.bool false))),
 o1 18 (.mov (tm 17)),
 o4 19 (.buildSlice 5 [(.int .u8 0), (.int .u8 0), (.int .u8 0), (.int .u8 0), (.int .u8 0)] 5 [(0, 1, (.const (.int .u8 1))), (1, 1, (.const (.int .u8 1))), (2, 1, (.const (.int .u8 1))), (3, 1, (.const (.int .u8 1))), (4, 1, (.const (.int .u8 0)))]) 18,
 o4 20 (.callV (.func 18) [(.const (.int .i64 3)), (.const (.int .i64 4)), (tm 19)]) 18,
 o1 21 (.pick (tm 18) (tm 20) (.const (.bool false))),
 o1 22 (.mov (tm 21)),
 o4 23 (.buildSlice 5 [(.int .u8 0), (.int .u8 0), (.int .u8 0), (.int .u8 0), (.int .u8 0), (.int .u8 0), (.int .u8 0)] 7 [(0, 1, (.const (.int .u8 1))), (1, 1, (.const (.int .u8 2))), (2, 1, (.const (.int .u8 1))), (3, 1, (.const (.int .u8 1))), (4, 1, (.const (.int .u8 1))), (5, 1, (.const (.int .u8 1))), (6, 1, (.const (.int .u8 0)))]) 22,
 o4 24 (.callV (.func 18) [(.const (.int .i64 5)), (.const (.int .i64 4)), (tm 23)]) 22,
 o1 25 (.pick (tm 22) (tm 24) (.const (.bool false))),
 o1 26 (.mov (tm 25)),
 o4 27 (.buildSlice 5 [(.int .u8 0), (.int .u8 0), (.int .u8 0), (.int .u8 0), (.int .u8 0), (.int .u8 0), (.int .u8 0)] 7 [(0, 1, (.const (.int .u8 1))), (1, 1, (.const (.int .u8 1))), (2, 1, (.const (.int .u8 1))), (3, 1, (.const (.int .u8 1))), (4, 1, (.const (.int .u8 1))), (5, 1, (.const (.int .u8 2))), (6, 1, (.const (.int .u8 0)))]) 26,
 o4 28 (.callV (.func 18) [(.const (.int .i64 4)), (.const (.int .i64 6)), (tm 27)]) 26,
 o1 29 (.pick (tm 26) (tm 28) (.const (.bool false))),
 o1 0 (.mov (tm 29))]) .ret)))
def znbQ : AFunc := ⟨30, [(0, none)], znbQ_c, none⟩
theorem znbQ_t0 : tableOf Tryz.prog 5 = some znbQ := by kernel_rfl
def zqbQ_c : ACode :=
 (.seq (.region [
 o1 0 (.mov (.const (.bool false)))]) (.seq (.region [
 o1 4 (.buildSlice 5 [(.int .u8 0), (.int .u8 0), (.int .u8 0), (.int .u8 0), (.int .u8 0), (.int .u8 0)] 6 [(0, 1, (.const (.int .u8 1))), (1, 1, (.const (.int .u8 1))), (2, 1, (.const (.int .u8 1))), (3, 1, (.const (.int .u8 1))), (4, 1, (.const (.int .u8 1))), (5, 1, (.const (.int .u8 2)))]),
 o1 5 (.callV (.func 11) [(tm 4)]),
 o1 3 (.mov (tm 5)),
 o1 6 (.extract 0 (tm 3)),
 o1 7 (.extract 1 (tm 3)),
 o1 1 (.alloc 40 ((.int .i64 0) :: ((.int .i64 0) :: ((.int .i64 0) :: ((.int .i64 0) :: ((.string ⟨⟨[]⟩⟩) :: ((.int .i64 0) :: ((.int .i64 0) :: (z32 ++ (z32 ++ (z32 ++ (z32 ++ ((.int .i64 0) :: (z32 ++ [(.slice none 0 0), (.slice none 0 0)])))))))))))))),
 o1 2 (.alloc 43 [(.int .i64 0), (.int .i64 0)]),
 o3 (.store 170 (tm 1) (tm 6)),
 o3 (.store 2 (tm 2) (tm 7))]) (.seq (.region [
 o1 8 (.buildSlice 5 [(.int .u8 0), (.int .u8 0), (.int .u8 0), (.int .u8 0), (.int .u8 0), (.int .u8 0)] 6 [(0, 1, (.const (.int .u8 1))), (1, 1, (.const (.int .u8 1))), (2, 1, (.const (.int .u8 1))), (3, 1, (.const (.int .u8 1))), (4, 1, (.const (.int .u8 1))), (5, 1, (.const (.int .u8 2)))]),
 o1 9 (.callV (.func 17) [(.const (.int .i64 1)), (.const (.int .i64 2)), (tm 8), k0]),
 o1 10 (.mov (tm 9)),
 o4 11 (.load (some 170) (tm 1)) 10,
 o4 12 (.build [(.int .i64 0), (.int .i64 0)] [(0, 1, (.const (.int .i64 1))), (1, 1, (.const (.int .i64 2)))]) 10,
 o4 13 (.build ((.int .i64 0) :: ((.int .i64 0) :: ((.int .i64 0) :: ((.int .i64 0) :: ((.string ⟨⟨[]⟩⟩) :: ((.int .i64 0) :: ((.int .i64 0) :: (z32 ++ (z32 ++ (z32 ++ (z32 ++ ((.int .i64 0) :: (z32 ++ [(.slice none 0 0), (.slice none 0 0)]))))))))))))) [(0, 1, (.const (.int .i64 1))), (1, 2, (tm 12))]) 10,
 o4 14 (.callV (.func 13) [(tm 11), (tm 13)]) 10,
 o1 15 (.pick (tm 10) (tm 14) (.const (.bool false))),
 o1 16 (.mov (tm 15)),
 o4 17 (.load (some 2) (tm 2)) 16,
 o4 18 (.build [(.int .i64 0), (.int .i64 0)] []) 16,
 o4 19 (.bin .eql (so (.binOp .eql 43 (tm 17) (tm 18) 43) 4) (tm 17) (tm 18)) 16,
 o1 20 (.pick (tm 16) (tm 19) (.const (.bool false))),
 o1 21 (.mov (tm 20)),
 o4 22 (.buildSlice 5 [(.int .u8 0), (.int .u8 0)] 2 [(0, 1, (.const (.int .u8 1))), (1, 1, (.const (.int .u8 3)))]) 21,
 o4 23 (.callV (.func 18) [(.const (.int .i64 5)), k0, (tm 22)]) 21,
 o1 24 (.pick (tm 21) (tm 23) (.const (.bool false))),
 o1 0 (.mov (tm 24))]) .ret)))
def zqbQ : AFunc := ⟨25, [(0, none)], zqbQ_c, none⟩
theorem zqbQ_t0 : tableOf Tryz.prog 9 = some zqbQ := by kernel_rfl
abbrev fn_zvbQ : FuncId := 11
def zvbQ_c : ACode :=
 (.seq (.region [
 o1 2 (.alloc 40 ((.int .i64 0) :: ((.int .i64 0) :: ((.int .i64 0) :: ((.int .i64 0) :: ((.string ⟨⟨[]⟩⟩) :: ((.int .i64 0) :: ((.int .i64 0) :: (z32 ++ (z32 ++ (z32 ++ (z32 ++ ((.int .i64 0) :: (z32 ++ [(.slice none 0 0), (.slice none 0 0)])))))))))))))),
 o1 3 (.alloc 43 [(.int .i64 0), (.int .i64 0)])]) (.seq (.region [
 o1 10 (.mkFunc (.func 30) [] [(tm 2), (tm 3)]),
 o3 (.defer (tm 10) [])]) (.seq (.region [
 o1 11 (.mov (tm 0)),
 o1 12 (.lenSl (tm 11)),
 o1 13 (.bin .leq (so (.binOp .leq 3 (tm 12) (.const (.int .i64 65536)) 3) 4) (tm 12) (.const (.int .i64 65536))),
 o1 14 (.callV (.func 31) [(tm 13), (.const (.int .i64 4)), (.const (.int .i64 65536))])]) (.seq (.region [
 o1 15 (.mov (tm 0)),
 o1 16 (.callV (.func 32) [(tm 15)]),
 o1 17 (.mov (tm 0)),
 o1 18 (.lenSl (tm 17)),
 o1 19 (.build [(.pointer none), (.int .i64 0)] [(0, 1, (tm 16)), (1, 1, (tm 18))]),
 o1 4 (.alloc 72 [(.pointer none), (.int .i64 0)]),
 o3 (.store 2 (tm 4) (tm 19))]) (.seq (.region [
 o1 20 (.fieldAddr 0 (tm 4)),
 o1 21 (.load none (tm 20)),
 o1 22 (.callV (.func 33) [(tm 21)]),
 o1 23 (.fieldAddr 0 (tm 2)),
 o3 (.store 1 (tm 23) (tm 22))]) (.seq (.region [
 o1 24 (.load (some 2) (tm 4)),
 o1 25 (.callV (.func 34) [(tm 24)])]) (.seq (.region [
 o1 26 (.fieldAddr 0 (tm 2)),
 o1 27 (.load none (tm 26)),
 o1 28 (.bin .eql (so (.binOp .eql 3 (tm 27) (.const (.int .i64 1)) 3) 4) (tm 27) (.const (.int .i64 1))),
 o1 29 (.mov (tm 28)),
 o5 30 (.fieldAddr 0 (tm 2)) 29,
 o5 31 (.load none (tm 30)) 29,
 o5 32 (.bin .eql (so (.binOp .eql 3 (tm 31) (.const (.int .i64 2)) 3) 4) (tm 31) (.const (.int .i64 2))) 29,
 o1 33 (.pick (tm 29) (.const (.bool true)) (tm 32)),
 o1 34 (.callV (.func 31) [(tm 33), (.const (.int .i64 5)), k0])]) (.seq (.region [
 o1 35 (.load (some 2) (tm 4)),
 o1 36 (.callV (.func 35) [(tm 35), (.func 36)]),
 o1 5 (.mov (tm 36))]) (.seq (.seq (.region [
 o1 37 (.fieldAddr 0 (tm 2)),
 o1 38 (.load none (tm 37)),
 o1 39 (.bin .eql (so (.binOp .eql 3 (tm 38) (.const (.int .i64 1)) 3) 4) (tm 38) (.const (.int .i64 1)))]) (.cond (tm 39)
 (.region [
 o1 40 (.mov (tm 5)),
 o1 41 (.load (some 2) (tm 4)),
 o1 42 (.callV (.func 35) [(tm 41), (.func 37)]),
 o1 43 (.build [(.int .i64 0), (.int .i64 0)] [(0, 1, (tm 40)), (1, 1, (tm 42))]),
 o1 44 (.fieldAddr 1 (tm 2)),
 o3 (.store 2 (tm 44) (tm 43))])
 (.seq (.region [
 o1 45 (.load (some 2) (tm 4)),
 o1 46 (.callV (.func 38) [(tm 45)]),
 o1 6 (.mov (tm 46))]) (.seq (.region [
 o1 47 (.fieldAddr 0 (tm 4)),
 o1 48 (.load none (tm 47)),
 o1 49 (.callV (.func 39) [(tm 48), (.const (.int .i64 65536))]),
 o1 7 (.mov (tm 49))]) (.seq (.region [
 o1 50 (.load (some 2) (tm 4)),
 o1 51 (.callV (.func 34) [(tm 50)])]) (.seq (.region [
 o1 53 (.mov (tm 7)),
 o1 54 (.callV (.func 40) [(tm 53)]),
 o1 52 (.mov (tm 54)),
 o1 55 (.extract 0 (tm 52)),
 o1 56 (.extract 1 (tm 52)),
 o1 8 (.alloc 36 ((.string ⟨⟨[]⟩⟩) :: ((.int .i64 0) :: ((.int .i64 0) :: (z32 ++ (z32 ++ (z32 ++ (z32 ++ ((.int .i64 0) :: (z32 ++ [(.slice none 0 0), (.slice none 0 0)])))))))))),
 o1 9 (.alloc 43 [(.int .i64 0), (.int .i64 0)]),
 o3 (.store 166 (tm 8) (tm 55)),
 o3 (.store 2 (tm 9) (tm 56))]) (.seq (.region [
 o1 57 (.load (some 2) (tm 9)),
 o1 58 (.build [(.int .i64 0), (.int .i64 0)] []),
 o1 59 (.bin .eql (so (.binOp .eql 43 (tm 57) (tm 58) 43) 4) (tm 57) (tm 58)),
 o1 60 (.mov (tm 6)),
 o1 61 (.callV (.func 31) [(tm 59), (.const (.int .i64 5)), (tm 60)])]) (.region [
 o1 62 (.mov (tm 5)),
 o1 63 (.load (some 166) (tm 8)),
 o1 64 (.build ((.int .i64 0) :: ((.string ⟨⟨[]⟩⟩) :: ((.int .i64 0) :: ((.int .i64 0) :: (z32 ++ (z32 ++ (z32 ++ (z32 ++ ((.int .i64 0) :: (z32 ++ [(.slice none 0 0), (.slice none 0 0)])))))))))) [(0, 1, (tm 62)), (1, 166, (tm 63))]),
 o1 65 (.fieldAddr 3 (tm 2)),
 o3 (.store 167 (tm 65) (tm 64))])))))))) (.seq (.region [
 o1 66 (.fieldAddr 0 (tm 4)),
 o1 67 (.load none (tm 66)),
 o1 68 (.callV (.func 41) [(tm 67)]),
 o3 (.store 2 (tm 3) (tm 68))]) (.seq (.regionD [
 o1 69 (.load (some 2) (tm 3)),
 o1 70 (.build [(.int .i64 0), (.int .i64 0)] []),
 o1 71 (.bin .eql (so (.binOp .eql 43 (tm 69) (tm 70) 43) 4) (tm 69) (tm 70)),
 o1 72 (.fieldAddr 0 (tm 3)),
 o1 73 (.load none (tm 72)),
 o1 74 (.fieldAddr 1 (tm 3)),
 o1 75 (.load none (tm 74)),
 o2 76 (.callV (.func 31) [(tm 71), (tm 73), (tm 75)])]) (.seq (.regionD [
 o1 77 (.load (some 170) (tm 2)),
 o1 78 (.load (some 2) (tm 3)),
 ⟨none, .store 170 (tm 2) (tm 77), none, [(some 78, .load (some 2) (tm 3), none)], false⟩,
 ⟨none, .store 2 (tm 3) (tm 78), none, [], true⟩]) .ret))))))))))))
def zvbQ : AFunc := ⟨79, [(2, some (some 170)), (3, some (some 2))], zvbQ_c, none⟩
theorem zvbQ_t0 : tableOf Tryz.prog 11 = some zvbQ := by kernel_rfl
theorem zvbQ_t : T0 11 = some zvbQ := withKept_t rfl (withTrue_t rfl zvbQ_t0)
abbrev fn_zjbQ : FuncId := 13
def zjbQ_c : ACode :=
 (.seq (.region [
 o1 2 (.box 40 (tm 0)),
 o1 3 (.box 40 (tm 1)),
 o1 4 (.mov (.const (.bool false)))]) (.seq (.region [
 o1 5 (.fieldAddr 0 (tm 2)),
 o1 6 (.load none (tm 5)),
 o1 7 (.fieldAddr 0 (tm 3)),
 o1 8 (.load none (tm 7)),
 o1 9 (.bin .eql (so (.binOp .eql 3 (tm 6) (tm 8) 3) 4) (tm 6) (tm 8)),
 o1 10 (.mov (tm 9)),
 o4 11 (.fieldAddr 1 (tm 2)) 10,
 o4 12 (.load (some 2) (tm 11)) 10,
 o4 13 (.fieldAddr 1 (tm 3)) 10,
 o4 14 (.load (some 2) (tm 13)) 10,
 o4 15 (.bin .eql (so (.binOp .eql 26 (tm 12) (tm 14) 26) 4) (tm 12) (tm 14)) 10,
 o1 16 (.pick (tm 10) (tm 15) (.const (.bool false))),
 o1 17 (.mov (tm 16)),
 o4 18 (.fieldAddr 3 (tm 2)) 17,
 o4 19 (.fieldAddr 0 (tm 18)) 17,
 o4 20 (.load none (tm 19)) 17,
 o4 21 (.fieldAddr 3 (tm 3)) 17,
 o4 22 (.fieldAddr 0 (tm 21)) 17,
 o4 23 (.load none (tm 22)) 17,
 o4 24 (.bin .eql (so (.binOp .eql 3 (tm 20) (tm 23) 3) 4) (tm 20) (tm 23)) 17,
 o1 25 (.pick (tm 17) (tm 24) (.const (.bool false))),
 o1 26 (.mov (tm 25)),
 o4 27 (.fieldAddr 3 (tm 2)) 26,
 o4 28 (.fieldAddr 1 (tm 27)) 26,
 o4 29 (.load (some 166) (tm 28)) 26,
 o4 30 (.fieldAddr 3 (tm 3)) 26,
 o4 31 (.fieldAddr 1 (tm 30)) 26,
 o4 32 (.load (some 166) (tm 31)) 26,
 o4 33 (.callV (.func 26) [(tm 29), (tm 32)]) 26,
 o1 34 (.pick (tm 26) (tm 33) (.const (.bool false))),
 o1 4 (.mov (tm 34))]) .ret))
def zjbQ : AFunc := ⟨35, [(4, none)], zjbQ_c, none⟩
theorem zjbQ_t0 : tableOf Tryz.prog 13 = some zjbQ := by kernel_rfl
theorem zjbQ_t : T0 13 = some zjbQ := withKept_t rfl (withTrue_t rfl zjbQ_t0)
def zpbQ_c : ACode :=
 (.seq (.region [
 o1 8 (.mov (.const (.bool false)))]) (.seq (.region [
 o1 12 (.mov (tm 0)),
 o1 13 (.mov (tm 1)),
 o1 14 (.build [(.int .i64 0), (.int .i64 0)] [(0, 1, (tm 12)), (1, 1, (tm 13))]),
 o1 15 (.callV (.func 21) [(tm 14)]),
 o1 11 (.mov (tm 15)),
 o1 16 (.extract 0 (tm 11)),
 o1 17 (.extract 1 (tm 11)),
 o1 9 (.mov (tm 16)),
 o1 10 (.mov (tm 17))]) (.seq (.region [
 o1 18 (.mov (tm 9)),
 o1 19 (.mov (tm 2)),
 o1 20 (.callV (.func 25) [(tm 18), (tm 19)]),
 o1 21 (.mov (tm 20)),
 o4 22 (.mov (tm 10)) 21,
 o4 23 (.mov (tm 3)) 21,
 o4 24 (.bin .eql (so (.binOp .eql 41 (tm 22) (tm 23) 41) 4) (tm 22) (tm 23)) 21,
 o1 25 (.pick (tm 21) (tm 24) (.const (.bool false))),
 o1 8 (.mov (tm 25))]) .ret)))
def zpbQ : AFunc := ⟨26, [(8, none)], zpbQ_c, none⟩
theorem zpbQ_t0 : tableOf Tryz.prog 17 = some zpbQ := by kernel_rfl
def zrbQ_c : ACode :=
 (.seq (.region [
 o1 6 (.mov (.const (.bool false)))]) (.seq (.region [
 o1 10 (.mov (tm 2)),
 o1 11 (.callV (.func 11) [(tm 10)]),
 o1 9 (.mov (tm 11)),
 o1 12 (.extract 0 (tm 9)),
 o1 13 (.extract 1 (tm 9)),
 o1 7 (.alloc 40 ((.int .i64 0) :: ((.int .i64 0) :: ((.int .i64 0) :: ((.int .i64 0) :: ((.string ⟨⟨[]⟩⟩) :: ((.int .i64 0) :: ((.int .i64 0) :: (z32 ++ (z32 ++ (z32 ++ (z32 ++ ((.int .i64 0) :: (z32 ++ [(.slice none 0 0), (.slice none 0 0)])))))))))))))),
 o1 8 (.alloc 43 [(.int .i64 0), (.int .i64 0)]),
 o3 (.store 170 (tm 7) (tm 12)),
 o3 (.store 2 (tm 8) (tm 13))]) (.seq (.region [
 o1 14 (.load (some 170) (tm 7)),
 o1 15 (.build ((.int .i64 0) :: ((.int .i64 0) :: ((.int .i64 0) :: ((.int .i64 0) :: ((.string ⟨⟨[]⟩⟩) :: ((.int .i64 0) :: ((.int .i64 0) :: (z32 ++ (z32 ++ (z32 ++ (z32 ++ ((.int .i64 0) :: (z32 ++ [(.slice none 0 0), (.slice none 0 0)]))))))))))))) []),
 o1 16 (.callV (.func 13) [(tm 14), (tm 15)]),
 o1 17 (.mov (tm 16)),
 o4 18 (.load (some 2) (tm 8)) 17,
 o4 19 (.mov (tm 0)) 17,
 o4 20 (.mov (tm 1)) 17,
 o4 21 (.build [(.int .i64 0), (.int .i64 0)] [(0, 1, (tm 19)), (1, 1, (tm 20))]) 17,
 o4 22 (.bin .eql (so (.binOp .eql 43 (tm 18) (tm 21) 43) 4) (tm 18) (tm 21)) 17,
 o1 23 (.pick (tm 17) (tm 22) (.const (.bool false))),
 o1 6 (.mov (tm 23))]) .ret)))
def zrbQ : AFunc := ⟨24, [(6, none)], zrbQ_c, none⟩
theorem zrbQ_t0 : tableOf Tryz.prog 18 = some zrbQ := by kernel_rfl
abbrev fn_zubQ : FuncId := 21
def zubQ_c : ACode :=
 (.seq (.region [
 o1 1 (.box 26 (tm 0)),
 o1 2 (.mov (.const (.slice none 0 0))),
 o1 3 (.mov k0)]) (.seq (.region [
 o1 4 (.load (some 2) (tm 1)),
 o1 5 (.mkIface 26 (tm 4)),
 o1 6 (.callV (.func 54) [(tm 5)]),
 o1 7 (.extract 0 (tm 6)),
 o1 8 (.extract 1 (tm 6)),
 o1 2 (.mov (tm 7)),
 o1 3 (.mov (tm 8))]) .ret))
def zubQ : AFunc := ⟨9, [(2, none), (3, none)], zubQ_c, none⟩
theorem zubQ_t0 : tableOf Tryz.prog 21 = some zubQ := by kernel_rfl
theorem zubQ_t : T0 21 = some zubQ := withKept_t rfl (withTrue_t rfl zubQ_t0)
abbrev fn_zhbQ : FuncId := 25
def zhbQ_c : ACode :=
 (.seq (.region [
 o1 4 (.mov (.const (.bool false)))]) (.seq (.region [
 o1 5 (.mov (tm 0)),
 o1 6 (.bytesToStr (tm 5)),
 o1 7 (.mov (tm 1)),
 o1 8 (.bytesToStr (tm 7)),
 o1 9 (.bin .eql (so (.binOp .eql 9 (tm 6) (tm 8) 9) 4) (tm 6) (tm 8)),
 o1 4 (.mov (tm 9))]) .ret))
def zhbQ : AFunc := ⟨10, [(4, none)], zhbQ_c, none⟩
theorem zhbQ_t0 : tableOf Tryz.prog 25 = some zhbQ := by kernel_rfl
theorem zhbQ_t : T0 25 = some zhbQ := withKept_t rfl (withTrue_t rfl zhbQ_t0)
abbrev fn_zgbQ : FuncId := 26
def zgbQ_c : ACode :=
 (.seq (.region [
 o1 2 (.box 36 (tm 0)),
 o1 3 (.box 36 (tm 1)),
 o1 4 (.mov (.const (.bool false)))]) (.seq (.region [
 o1 5 (.fieldAddr 0 (tm 2)),
 o1 6 (.load (some 131) (tm 5)),
 o1 7 (.fieldAddr 0 (tm 3)),
 o1 8 (.load (some 131) (tm 7)),
 o1 9 (.bin .eql (so (.binOp .eql 30 (tm 6) (tm 8) 30) 4) (tm 6) (tm 8)),
 o1 10 (.mov (tm 9)),
 o4 11 (.fieldAddr 131 (tm 2)) 10,
 o4 12 (.load (some 34) (tm 11)) 10,
 o4 13 (.fieldAddr 131 (tm 3)) 10,
 o4 14 (.load (some 34) (tm 13)) 10,
 o4 15 (.callV (.func 60) [(tm 12), (tm 14)]) 10,
 o1 16 (.pick (tm 10) (tm 15) (.const (.bool false))),
 o1 17 (.mov (tm 16)),
 o4 18 (.fieldAddr 165 (tm 2)) 17,
 o4 19 (.load none (tm 18)) 17,
 o4 20 (.fieldAddr 165 (tm 3)) 17,
 o4 21 (.load none (tm 20)) 17,
 o4 22 (.callV (.func 61) [(tm 19), (tm 21)]) 17,
 o1 23 (.pick (tm 17) (tm 22) (.const (.bool false))),
 o1 4 (.mov (tm 23))]) .ret))
def zgbQ : AFunc := ⟨24, [(4, none)], zgbQ_c, none⟩
theorem zgbQ_t0 : tableOf Tryz.prog 26 = some zgbQ := by kernel_rfl
theorem zgbQ_t : T0 26 = some zgbQ := withKept_t rfl (withTrue_t rfl zgbQ_t0)
abbrev fn_zbQ : FuncId := 28
def zbQ_l0 : ACode :=
 (.seq (.region [
 o1 49 (.bin .lss (so (.binOp .lss 3 (tm 48) (.const (.int .i64 3)) 3) 0) (tm 48) (.const (.int .i64 3)))]) (.seq (.cond (tm 49)
 .skip
 (.exit 0)) (.seq (.block 1 (.seq (.region [
 o1 50 (.index 3 1 none (tm 47) (tm 48)),
 o1 14 (.mov (tm 50))]) (.region [
 o1 51 (.mov (tm 5)),
 o1 52 (.mov (tm 14)),
 o1 53 (.callV (.func 69) [(tm 51), (tm 52)])]))) (.region [
 o1 54 (.bin .add (so (.binOp .add 3 (tm 48) (.const (.int .i64 1)) 3) 3) (tm 48) (.const (.int .i64 1))),
 o1 48 (.mov (tm 54))]))))
def zbQ_c : ACode :=
 (.seq (.region [
 o1 1 (.box 36 (tm 0)),
 o1 2 (.mov (.const (.slice none 0 0))),
 o1 3 (.mov k0)]) (.seq (.seq (.region [
 o1 15 (.load (some 166) (tm 1)),
 o1 16 (.callV (.func 64) [(tm 15)]),
 o1 17 (.callV (.func 63) [(tm 16)]),
 o1 18 (.callV (.func 62) [(tm 17)]),
 o1 4 (.mov (tm 18))]) (.seq (.region [
 o1 19 (.mov (tm 4)),
 o1 20 (.bin .neq (so (.binOp .neq 41 (tm 19) k0 41) 4) (tm 19) k0)]) (.cond (tm 20)
 (.seq (.region [
 o1 21 (.mov (tm 4)),
 o1 2 (.mov (.const (.slice none 0 0))),
 o1 3 (.mov (tm 21))]) .ret)
 .skip))) (.seq (.region [
 o1 23 (.callV (.func 65) [(.const (.int .i64 65536))]),
 o1 22 (.mov (tm 23)),
 o1 24 (.extract 0 (tm 22)),
 o1 25 (.extract 1 (tm 22)),
 o1 5 (.mov (tm 24)),
 o1 6 (.mov (tm 25))]) (.seq (.region [
 o1 27 (.fieldAddr 0 (tm 1)),
 o1 28 (.load (some 131) (tm 27)),
 o1 29 (.callV (.func 66) [(tm 28)]),
 o1 26 (.mov (tm 29)),
 o1 30 (.extract 0 (tm 26)),
 o1 31 (.extract 1 (tm 26)),
 o1 7 (.mov (tm 30)),
 o1 8 (.mov (tm 31))]) (.seq (.region [
 o1 33 (.fieldAddr 131 (tm 1)),
 o1 34 (.load (some 34) (tm 33)),
 o1 35 (.callV (.func 67) [(tm 34)]),
 o1 32 (.mov (tm 35)),
 o1 36 (.extract 0 (tm 32)),
 o1 37 (.extract 1 (tm 32)),
 o1 9 (.mov (tm 36)),
 o1 10 (.mov (tm 37))]) (.seq (.region [
 o1 39 (.fieldAddr 165 (tm 1)),
 o1 40 (.load none (tm 39)),
 o1 41 (.callV (.func 68) [(tm 40)]),
 o1 38 (.mov (tm 41)),
 o1 42 (.extract 0 (tm 38)),
 o1 43 (.extract 1 (tm 38)),
 o1 11 (.mov (tm 42)),
 o1 12 (.mov (tm 43))]) (.seq (.seq (.region [
 o1 44 (.mov (tm 7)),
 o1 45 (.mov (tm 9)),
 o1 46 (.mov (tm 11)),
 o1 47 (.build [(.slice none 0 0), (.slice none 0 0), (.slice none 0 0)] [(0, 1, (tm 44)), (1, 1, (tm 45)), (2, 1, (tm 46))]),
 o1 48 (.mov k0)]) (.block 0 (.loop zbQ_l0))) (.seq (.region [
 o1 55 (.mov (tm 5)),
 o1 56 (.callV (.func 70) [(tm 55)]),
 o1 57 (.extract 0 (tm 56)),
 o1 58 (.extract 1 (tm 56)),
 o1 2 (.mov (tm 57)),
 o1 3 (.mov (tm 58))]) .ret))))))))
def zbQ : AFunc := ⟨59, [(2, none), (3, none)], zbQ_c, none⟩
theorem zbQ_t0 : tableOf Tryz.prog 28 = some zbQ := by kernel_rfl
theorem zbQ_t : T0 28 = some zbQ := withKept_t rfl (withTrue_t rfl zbQ_t0)
abbrev fn_zwbQ : FuncId := 30
def zwbQ_c : ACode :=
 (.seq (.region [
 o1 5 (.recover),
 o1 2 (.mov (tm 5))]) (.seq (.region [
 o1 6 (.mov (tm 2)),
 o1 7 (.eq .iface true (so (.binOp .neq 20 (tm 6) (.const .nilIface) 20) 4) (tm 6) (.const .nilIface))]) (.cond (tm 7)
 (.seq (.region [
 o1 9 (.mov (tm 2)),
 o1 10 (.assertTo 66 (.agg ⟨[(.int .i64 0), (.int .i64 0)]⟩) true (tm 9)),
 o1 8 (.mov (tm 10)),
 o1 11 (.extract 0 (tm 8)),
 o1 12 (.extract 1 (tm 8)),
 o1 3 (.alloc 66 [(.int .i64 0), (.int .i64 0)]),
 o3 (.store 2 (tm 3) (tm 11)),
 o1 4 (.mov (tm 12))]) (.seq (.seq (.region [
 o1 13 (.mov (tm 4)),
 o1 14 (.raw (so (.unOp .not 4 (tm 13)) 4))]) (.cond (tm 14)
 (.region [
 o1 15 (.mov (tm 2)),
 o3 (.panic (tm 15))])
 .skip)) (.regionD [
 o1 16 (.build ((.int .i64 0) :: ((.int .i64 0) :: ((.int .i64 0) :: ((.int .i64 0) :: ((.string ⟨⟨[]⟩⟩) :: ((.int .i64 0) :: ((.int .i64 0) :: (z32 ++ (z32 ++ (z32 ++ (z32 ++ ((.int .i64 0) :: (z32 ++ [(.slice none 0 0), (.slice none 0 0)]))))))))))))) []),
 o1 17 (.fieldAddr 0 (tm 3)),
 o1 18 (.load (some 2) (tm 17)),
 ⟨none, .store 170 (tm 0) (tm 16), none, [(some 18, .load (some 2) (tm 17), none), (some 17, .fieldAddr 0 (tm 3), none)], false⟩,
 ⟨none, .store 2 (tm 1) (tm 18), none, [], true⟩])))
 .skip)))
def zwbQ : AFunc := ⟨19, [], zwbQ_c, none⟩
theorem zwbQ_t0 : tableOf Tryz.prog 30 = some zwbQ := by kernel_rfl
theorem zwbQ_t : T0 30 = some zwbQ := withKept_t rfl (withTrue_t rfl zwbQ_t0)
abbrev fn_zbcQ : FuncId := 31
def zbcQ_c : ACode :=
 (.seq (.region [
 o1 6 (.mov (tm 0)),
 o1 7 (.raw (so (.unOp .not 4 (tm 6)) 4))]) (.cond (tm 7)
 (.region [
 o1 8 (.mov (tm 1)),
 o1 9 (.mov (tm 2)),
 o1 10 (.build [(.int .i64 0), (.int .i64 0)] [(0, 1, (tm 8)), (1, 1, (tm 9))]),
 o1 11 (.build [(.int .i64 0), (.int .i64 0)] [(0, 2, (tm 10))]),
 o1 12 (.mkIface 66 (tm 11)),
 o3 (.panic (tm 12))])
 .skip))
def zbcQ : AFunc := ⟨13, [], zbcQ_c, none⟩
theorem zbcQ_t0 : tableOf Tryz.prog 31 = some zbcQ := by kernel_rfl
theorem zbcQ_t : T0 31 = some zbcQ := withKept_t rfl (withTrue_t rfl zbcQ_t0)
abbrev fn_zocQ : FuncId := 32
def zocQ_c : ACode :=
 (.seq (.region [
 o1 2 (.mov (.const (.pointer none)))]) (.seq (.region [
 o1 3 (.mov (tm 0)),
 o1 4 (.callV (.func 72) [(tm 3)]),
 o1 5 (.build [(.slice none 0 0), (.int .i64 0), (.int .i64 0), (.int .i64 0), (.bool false)] [(0, 1, (tm 4)), (4, 1, (.const (.bool true)))]),
 o1 6 (.box 111 (tm 5)),
 o1 2 (.mov (tm 6))]) .ret))
def zocQ : AFunc := ⟨7, [(2, none)], zocQ_c, none⟩
theorem zocQ_t0 : tableOf Tryz.prog 32 = some zocQ := by kernel_rfl
theorem zocQ_t : T0 32 = some zocQ := withKept_t rfl (withTrue_t rfl zocQ_t0)
abbrev fn_zzcQ : FuncId := 33
def zzcQ_c : ACode :=
 (.seq (.region [
 o1 2 (.mov k0)]) (.seq (.region [
 o1 3 (.mov (tm 0)),
 o1 4 (.mov (tm 0)),
 o1 5 (.mkFunc (.func 74) [(tm 4)] []),
 o1 6 (.callV (.func 73) [(tm 3), (tm 5)]),
 o1 2 (.mov (tm 6))]) .ret))
def zzcQ : AFunc := ⟨7, [(2, none)], zzcQ_c, none⟩
theorem zzcQ_t0 : tableOf Tryz.prog 33 = some zzcQ := by kernel_rfl
theorem zzcQ_t : T0 33 = some zzcQ := withKept_t rfl (withTrue_t rfl zzcQ_t0)
abbrev fn_zfcQ : FuncId := 34
def zfcQ_c : ACode :=
 (.seq (.region [
 o1 1 (.box 72 (tm 0))]) (.seq (.region [
 o1 3 (.fieldAddr 0 (tm 1)),
 o1 4 (.load none (tm 3)),
 o1 5 (.callV (.func 41) [(tm 4)]),
 o1 2 (.alloc 43 [(.int .i64 0), (.int .i64 0)]),
 o3 (.store 2 (tm 2) (tm 5))]) (.regionD [
 o1 6 (.fieldAddr 0 (tm 2)),
 o1 7 (.load none (tm 6)),
 o1 8 (.bin .eql (so (.binOp .eql 41 (tm 7) k0 41) 4) (tm 7) k0),
 o1 9 (.mov (tm 8)),
 o5 10 (.fieldAddr 0 (tm 1)) 9,
 o5 11 (.load none (tm 10)) 9,
 o1 15 (.fieldAddr 0 (tm 2)),
 o1 16 (.load none (tm 15)),
 o1 17 (.fieldAddr 1 (tm 2)),
 o1 18 (.load none (tm 17)),
 ⟨some 12, .callV (.func 75) [(tm 11)], some (9, false), [(some 18, .load none (tm 17), none), (some 17, .fieldAddr 1 (tm 2), none), (some 16, .load none (tm 15), none), (some 15, .fieldAddr 0 (tm 2), none)], false⟩,
 o5 13 (.bin .gtr (so (.binOp .gtr 3 (tm 12) k0 3) 4) (tm 12) k0) 9,
 o1 14 (.pick (tm 9) (.const (.bool true)) (tm 13)),
 o2 19 (.callV (.func 31) [(tm 14), (tm 16), (tm 18)])])))
def zfcQ : AFunc := ⟨20, [], zfcQ_c, none⟩
theorem zfcQ_t0 : tableOf Tryz.prog 34 = some zfcQ := by kernel_rfl
theorem zfcQ_t : T0 34 = some zfcQ := withKept_t rfl (withTrue_t rfl zfcQ_t0)
abbrev fn_zgcQ : FuncId := 35
def zgcQ_c : ACode :=
 (.seq (.region [
 o1 2 (.box 72 (tm 0)),
 o1 4 (.mov k0)]) (.seq (.region [
 o1 7 (.load (some 2) (tm 2)),
 o1 8 (.callV (.func 38) [(tm 7)]),
 o1 5 (.mov (tm 8))]) (.seq (.region [
 o1 9 (.fieldAddr 0 (tm 2)),
 o1 10 (.load none (tm 9)),
 o1 11 (.callV (.func 33) [(tm 10)]),
 o1 6 (.mov (tm 11))]) (.seq (.region [
 o1 12 (.load (some 2) (tm 2)),
 o1 13 (.callV (.func 34) [(tm 12)])]) (.seq (.region [
 o1 14 (.mov (tm 1)),
 o1 15 (.mov (tm 6)),
 o1 16 (.callV (tm 14) [(tm 15)]),
 o1 17 (.mov (tm 5)),
 o1 18 (.callV (.func 31) [(tm 16), (.const (.int .i64 3)), (tm 17)])]) (.seq (.region [
 o1 19 (.mov (tm 6)),
 o1 4 (.mov (tm 19))]) .ret))))))
def zgcQ : AFunc := ⟨20, [(4, none)], zgcQ_c, none⟩
theorem zgcQ_t0 : tableOf Tryz.prog 35 = some zgcQ := by kernel_rfl
theorem zgcQ_t : T0 35 = some zgcQ := withKept_t rfl (withTrue_t rfl zgcQ_t0)
abbrev fn_zccQ : FuncId := 36
def zccQ_c : ACode :=
 (.seq (.region [
 o1 2 (.mov (.const (.bool false)))]) (.seq (.region [
 o1 3 (.mov (tm 0)),
 o1 4 (.bin .geq (so (.binOp .geq 3 (tm 3) (.const (.int .i64 1)) 3) 4) (tm 3) (.const (.int .i64 1))),
 o1 5 (.mov (tm 4)),
 o4 6 (.mov (tm 0)) 5,
 o4 7 (.bin .leq (so (.binOp .leq 3 (tm 6) (.const (.int .i64 1099511627776)) 3) 4) (tm 6) (.const (.int .i64 1099511627776))) 5,
 o1 8 (.pick (tm 5) (tm 7) (.const (.bool false))),
 o1 2 (.mov (tm 8))]) .ret))
def zccQ : AFunc := ⟨9, [(2, none)], zccQ_c, none⟩
theorem zccQ_t0 : tableOf Tryz.prog 36 = some zccQ := by kernel_rfl
theorem zccQ_t : T0 36 = some zccQ := withKept_t rfl (withTrue_t rfl zccQ_t0)
abbrev fn_zacQ : FuncId := 37
def zacQ_c : ACode :=
 (.seq (.region [
 o1 2 (.mov (.const (.bool false)))]) (.seq (.region [
 o1 3 (.mov (tm 0)),
 o1 4 (.bin .geq (so (.binOp .geq 3 (tm 3) (.const (.int .i64 1)) 3) 4) (tm 3) (.const (.int .i64 1))),
 o1 5 (.mov (tm 4)),
 o4 6 (.mov (tm 0)) 5,
 o4 7 (.bin .leq (so (.binOp .leq 3 (tm 6) (.const (.int .i64 1073741824)) 3) 4) (tm 6) (.const (.int .i64 1073741824))) 5,
 o1 8 (.pick (tm 5) (tm 7) (.const (.bool false))),
 o1 2 (.mov (tm 8))]) .ret))
def zacQ : AFunc := ⟨9, [(2, none)], zacQ_c, none⟩
theorem zacQ_t0 : tableOf Tryz.prog 37 = some zacQ := by kernel_rfl
theorem zacQ_t : T0 37 = some zacQ := withKept_t rfl (withTrue_t rfl zacQ_t0)
abbrev fn_zecQ : FuncId := 38
def zecQ_c : ACode :=
 (.seq (.region [
 o1 1 (.box 72 (tm 0)),
 o1 2 (.mov k0)]) (.seq (.regionD [
 o1 3 (.fieldAddr 1 (tm 1)),
 o1 4 (.load none (tm 3)),
 o1 5 (.fieldAddr 0 (tm 1)),
 o1 6 (.load none (tm 5)),
 ⟨some 7, .callV (.func 75) [(tm 6)], none, [(some 4, .load none (tm 3), none), (some 3, .fieldAddr 1 (tm 1), none)], false⟩,
 o2 8 (.bin .sub (so (.binOp .sub 3 (tm 4) (tm 7) 3) 3) (tm 4) (tm 7)),
 o2 2 (.mov (tm 8))]) .ret))
def zecQ : AFunc := ⟨9, [(2, none)], zecQ_c, none⟩
theorem zecQ_t0 : tableOf Tryz.prog 38 = some zecQ := by kernel_rfl
theorem zecQ_t : T0 38 = some zecQ := withKept_t rfl (withTrue_t rfl zecQ_t0)
abbrev fn_zqcQ : FuncId := 39
def zqcQ_c : ACode :=
 (.seq (.region [
 o1 2 (.box 69 (tm 0)),
 o1 3 (.box 3 (tm 1)),
 o1 4 (.mov (.const (.slice none 0 0)))]) (.seq (.region [
 o1 5 (.load none (tm 2)),
 o1 6 (.mkFunc (.func 77) [] [(tm 2), (tm 3)]),
 o1 7 (.callV (.func 76) [(tm 5), (tm 6)]),
 o1 4 (.mov (tm 7))]) .ret))
def zqcQ : AFunc := ⟨8, [(4, none)], zqcQ_c, none⟩
theorem zqcQ_t0 : tableOf Tryz.prog 39 = some zqcQ := by kernel_rfl
theorem zqcQ_t : T0 39 = some zqcQ := withKept_t rfl (withTrue_t rfl zqcQ_t0)
abbrev fn_zaQ : FuncId := 40
def zaQ_c : ACode :=
 (.seq (.region [
 o1 2 (.alloc 36 ((.string ⟨⟨[]⟩⟩) :: ((.int .i64 0) :: ((.int .i64 0) :: (z32 ++ (z32 ++ (z32 ++ (z32 ++ ((.int .i64 0) :: (z32 ++ [(.slice none 0 0), (.slice none 0 0)])))))))))),
 o1 3 (.alloc 43 [(.int .i64 0), (.int .i64 0)])]) (.seq (.region [
 o1 7 (.mov (tm 0)),
 o1 8 (.callV (.func 32) [(tm 7)]),
 o1 4 (.mov (tm 8))]) (.seq (.region [
 o1 5 (.alloc 43 [(.int .i64 0), (.int .i64 0)])]) (.seq (.region [
 o1 9 (.mov (tm 4)),
 o1 10 (.mov (tm 0)),
 o1 11 (.lenSl (tm 10)),
 o1 12 (.callV (.func 80) [(tm 9), (tm 11), (tm 5), (.func 81)]),
 o1 13 (.build ((.string ⟨⟨[]⟩⟩) :: ((.int .i64 0) :: ((.int .i64 0) :: (z32 ++ (z32 ++ (z32 ++ (z32 ++ ((.int .i64 0) :: (z32 ++ [(.slice none 0 0), (.slice none 0 0)]))))))))) [(0, 131, (tm 12))]),
 o1 6 (.alloc 36 ((.string ⟨⟨[]⟩⟩) :: ((.int .i64 0) :: ((.int .i64 0) :: (z32 ++ (z32 ++ (z32 ++ (z32 ++ ((.int .i64 0) :: (z32 ++ [(.slice none 0 0), (.slice none 0 0)])))))))))),
 o3 (.store 166 (tm 6) (tm 13))]) (.seq (.region [
 o1 14 (.mov (tm 4)),
 o1 15 (.mov (tm 0)),
 o1 16 (.lenSl (tm 15)),
 o1 17 (.callV (.func 82) [(tm 14), (tm 16), (tm 5), (.func 83)]),
 o1 18 (.fieldAddr 131 (tm 6)),
 o3 (.store 34 (tm 18) (tm 17))]) (.seq (.region [
 o1 19 (.mov (tm 4)),
 o1 20 (.mov (tm 0)),
 o1 21 (.lenSl (tm 20)),
 o1 22 (.callV (.func 84) [(tm 19), (tm 21), (tm 5), (.func 85)]),
 o1 23 (.fieldAddr 165 (tm 6)),
 o3 (.store 1 (tm 23) (tm 22))]) (.seq (.seq (.region [
 o1 24 (.load (some 2) (tm 5)),
 o1 25 (.build [(.int .i64 0), (.int .i64 0)] []),
 o1 26 (.bin .eql (so (.binOp .eql 43 (tm 24) (tm 25) 43) 4) (tm 24) (tm 25))]) (.cond (tm 26)
 (.region [
 o1 27 (.mov (tm 4)),
 o1 28 (.callV (.func 41) [(tm 27)]),
 o3 (.store 2 (tm 5) (tm 28))])
 .skip)) (.seq (.seq (.region [
 o1 29 (.load (some 2) (tm 5)),
 o1 30 (.build [(.int .i64 0), (.int .i64 0)] []),
 o1 31 (.bin .neq (so (.binOp .neq 43 (tm 29) (tm 30) 43) 4) (tm 29) (tm 30))]) (.cond (tm 31)
 (.seq (.regionD [
 o1 32 (.build ((.string ⟨⟨[]⟩⟩) :: ((.int .i64 0) :: ((.int .i64 0) :: (z32 ++ (z32 ++ (z32 ++ (z32 ++ ((.int .i64 0) :: (z32 ++ [(.slice none 0 0), (.slice none 0 0)]))))))))) []),
 o1 33 (.load (some 2) (tm 5)),
 ⟨none, .store 166 (tm 2) (tm 32), none, [(some 33, .load (some 2) (tm 5), none)], false⟩,
 ⟨none, .store 2 (tm 3) (tm 33), none, [], true⟩]) .ret)
 .skip)) (.seq (.regionD [
 o1 34 (.load (some 166) (tm 6)),
 o1 35 (.load (some 2) (tm 5)),
 ⟨none, .store 166 (tm 2) (tm 34), none, [(some 35, .load (some 2) (tm 5), none)], false⟩,
 ⟨none, .store 2 (tm 3) (tm 35), none, [], true⟩]) .ret)))))))))
def zaQ : AFunc := ⟨36, [(2, some (some 166)), (3, some (some 2))], zaQ_c, none⟩
theorem zaQ_t0 : tableOf Tryz.prog 40 = some zaQ := by kernel_rfl
theorem zaQ_t : T0 40 = some zaQ := withKept_t rfl (withTrue_t rfl zaQ_t0)
abbrev fn_zscQ : FuncId := 41
def zscQ_c : ACode :=
 (.seq (.region [
 o1 2 (.alloc 43 [(.int .i64 0), (.int .i64 0)])]) (.seq (.block 0 (.seq (.region [
 o1 4 (.mov (tm 0)),
 o1 5 (.eq .ptr false (so (.binOp .eql 69 (tm 4) (.const (.pointer none)) 69) 4) (tm 4) (.const (.pointer none))),
 o1 6 (.mov (tm 5)),
 o5 7 (.mov (tm 0)) 6,
 o5 8 (.nilCheck (tm 7)) 6,
 o5 9 (.fieldAddr 4 (tm 8)) 6,
 o5 10 (.load none (tm 9)) 6,
 o5 11 (.raw (so (.unOp .not 4 (tm 10)) 4)) 6,
 o1 12 (.pick (tm 6) (.const (.bool true)) (tm 11)),
 o1 3 (.mov (tm 12))]) (.cond (tm 3)
 (.seq (.region [
 o1 13 (.build [(.int .i64 0), (.int .i64 0)] [(0, 1, (.const (.int .i64 1)))]),
 o3 (.store 2 (tm 2) (tm 13))]) .ret)
 (.seq (.regionD [
 o2 15 (.mov (tm 0)),
 o2 16 (.nilCheck (tm 15)),
 o2 17 (.fieldAddr 2 (tm 16)),
 o2 18 (.fieldAddr 0 (tm 17)),
 o2 19 (.load none (tm 18)),
 o2 20 (.bin .eql (so (.binOp .eql 41 (tm 19) k0 41) 4) (tm 19) k0),
 o2 21 (.mov (tm 20)),
 o4 22 (.mov (tm 0)) 21,
 o4 23 (.nilCheck (tm 22)) 21,
 o4 24 (.fieldAddr 1 (tm 23)) 21,
 o4 25 (.load none (tm 24)) 21,
 o4 26 (.mov (tm 0)) 21,
 o4 27 (.nilCheck (tm 26)) 21,
 o4 28 (.fieldAddr 0 (tm 27)) 21,
 o4 29 (.load none (tm 28)) 21,
 o4 30 (.lenSl (tm 29)) 21,
 ⟨some 31, .bin .lss (so (.binOp .lss 3 (tm 25) (tm 30) 3) 4) (tm 25) (tm 30), some (21, true), [], true⟩,
 o2 32 (.pick (tm 21) (tm 31) (.const (.bool false))),
 o2 14 (.mov (tm 32))]) (.cond (tm 14)
 (.seq (.region [
 o1 33 (.mov (tm 0)),
 o1 34 (.nilCheck (tm 33)),
 o1 35 (.fieldAddr 1 (tm 34)),
 o1 36 (.load none (tm 35)),
 o1 37 (.build [(.int .i64 0), (.int .i64 0)] [(0, 1, (.const (.int .i64 4))), (1, 1, (tm 36))]),
 o3 (.store 2 (tm 2) (tm 37))]) .ret)
 .skip))))) (.seq (.region [
 o1 38 (.mov (tm 0)),
 o1 39 (.nilCheck (tm 38)),
 o1 40 (.fieldAddr 2 (tm 39)),
 o1 41 (.load (some 2) (tm 40)),
 o3 (.store 2 (tm 2) (tm 41))]) .ret)))
def zscQ : AFunc := ⟨42, [(2, some (some 2))], zscQ_c, none⟩
theorem zscQ_t0 : tableOf Tryz.prog 41 = some zscQ := by kernel_rfl
theorem zscQ_t : T0 41 = some zscQ := withKept_t rfl (withTrue_t rfl zscQ_t0)
abbrev fn_zzbQ : FuncId := 54
def zzbQ_c : ACode :=
 (.seq (.region [
 o1 2 (.mov (.const (.slice none 0 0))),
 o1 3 (.mov k0)]) (.seq (.region [
 o1 8 (.callV (.func 65) [(.const (.int .i64 65536))]),
 o1 7 (.mov (tm 8)),
 o1 9 (.extract 0 (tm 7)),
 o1 10 (.extract 1 (tm 7)),
 o1 4 (.mov (tm 9)),
 o1 5 (.mov (tm 10))]) (.seq (.seq (.region [
 o1 11 (.mov (tm 0)),
 o1 12 (.callV (.func 90) [(tm 11)]),
 o1 13 (.mov (tm 4)),
 o1 14 (.invoke (tm 12) "landfall/msg.write" [(tm 13)]),
 o1 6 (.mov (tm 14))]) (.seq (.region [
 o1 15 (.mov (tm 6)),
 o1 16 (.bin .neq (so (.binOp .neq 41 (tm 15) k0 41) 4) (tm 15) k0)]) (.cond (tm 16)
 (.seq (.region [
 o1 17 (.mov (tm 6)),
 o1 2 (.mov (.const (.slice none 0 0))),
 o1 3 (.mov (tm 17))]) .ret)
 .skip))) (.seq (.region [
 o1 18 (.mov (tm 4)),
 o1 19 (.callV (.func 70) [(tm 18)]),
 o1 20 (.extract 0 (tm 19)),
 o1 21 (.extract 1 (tm 19)),
 o1 2 (.mov (tm 20)),
 o1 3 (.mov (tm 21))]) .ret))))
def zzbQ : AFunc := ⟨22, [(2, none), (3, none)], zzbQ_c, none⟩
theorem zzbQ_t0 : tableOf Tryz.prog 54 = some zzbQ := by kernel_rfl
theorem zzbQ_t : T0 54 = some zzbQ := withKept_t rfl (withTrue_t rfl zzbQ_t0)
abbrev fn_zibQ : FuncId := 60
def zibQ_c : ACode :=
 (.seq (.region [
 o1 2 (.box 33 (tm 0)),
 o1 3 (.box 33 (tm 1)),
 o1 4 (.mov (.const (.bool false)))]) (.seq (.region [
 o1 5 (.fieldAddr 0 (tm 2)),
 o1 6 (.load none (tm 5)),
 o1 7 (.fieldAddr 0 (tm 3)),
 o1 8 (.load none (tm 7)),
 o1 9 (.bin .eql (so (.binOp .eql 3 (tm 6) (tm 8) 3) 4) (tm 6) (tm 8)),
 o1 10 (.mov (tm 9)),
 o4 11 (.fieldAddr 1 (tm 2)) 10,
 o4 12 (.load (some 32) (tm 11)) 10,
 o4 13 (.fieldAddr 1 (tm 3)) 10,
 o4 14 (.load (some 32) (tm 13)) 10,
 o4 15 (.bin .eql (so (.binOp .eql 28 (tm 12) (tm 14) 28) 4) (tm 12) (tm 14)) 10,
 o1 16 (.pick (tm 10) (tm 15) (.const (.bool false))),
 o1 17 (.mov (tm 16)),
 o4 18 (.fieldAddr 33 (tm 2)) 17,
 o4 19 (.load none (tm 18)) 17,
 o4 20 (.fieldAddr 33 (tm 3)) 17,
 o4 21 (.load none (tm 20)) 17,
 o4 22 (.callV (.func 98) [(tm 19), (tm 21)]) 17,
 o1 23 (.pick (tm 17) (tm 22) (.const (.bool false))),
 o1 4 (.mov (tm 23))]) .ret))
def zibQ : AFunc := ⟨24, [(4, none)], zibQ_c, none⟩
theorem zibQ_t0 : tableOf Tryz.prog 60 = some zibQ := by kernel_rfl
theorem zibQ_t : T0 60 = some zibQ := withKept_t rfl (withTrue_t rfl zibQ_t0)
abbrev fn_zkbQ : FuncId := 61
def zkbQ_l0 : ACode :=
 (.seq (.seq (.region [
 o1 12 (.mov (tm 5)),
 o1 13 (.mov (tm 12)),
 o4 14 (.mov (tm 6)) 13,
 o4 15 (.mov (tm 0)) 13,
 o4 16 (.lenSl (tm 15)) 13,
 o4 17 (.bin .lss (so (.binOp .lss 3 (tm 14) (tm 16) 3) 4) (tm 14) (tm 16)) 13,
 o1 18 (.pick (tm 13) (tm 17) (.const (.bool false)))]) (.cond (tm 18)
 .skip
 (.exit 0))) (.seq (.block 1 (.regionD [
 o1 21 (.mov (tm 0)),
 o1 22 (.mov (tm 6)),
 o1 23 (.indexSl 5 (tm 21) (tm 22)),
 o1 24 (.load (some 5) (tm 23)),
 o1 25 (.mov (tm 1)),
 o1 26 (.mov (tm 6)),
 o1 27 (.indexSl 5 (tm 25) (tm 26)),
 o1 28 (.load (some 5) (tm 27)),
 o2 29 (.bin .eql (so (.binOp .eql 132 (tm 24) (tm 28) 132) 4) (tm 24) (tm 28)),
 o2 5 (.mov (tm 29))])) (.region [
 o1 19 (.mov (tm 6)),
 o1 20 (.bin .add (so (.binOp .add 3 (tm 19) (.const (.int .i64 1)) 3) 3) (tm 19) (.const (.int .i64 1))),
 o1 6 (.mov (tm 20))])))
def zkbQ_c : ACode :=
 (.seq (.region [
 o1 4 (.mov (.const (.bool false)))]) (.seq (.region [
 o1 7 (.mov (tm 0)),
 o1 8 (.lenSl (tm 7)),
 o1 9 (.mov (tm 1)),
 o1 10 (.lenSl (tm 9)),
 o1 11 (.bin .eql (so (.binOp .eql 3 (tm 8) (tm 10) 3) 4) (tm 8) (tm 10)),
 o1 5 (.mov (tm 11))]) (.seq (.seq (.region [
 o1 6 (.mov k0)]) (.block 0 (.loop zkbQ_l0))) (.seq (.region [
 o1 30 (.mov (tm 5)),
 o1 4 (.mov (tm 30))]) .ret))))
def zkbQ : AFunc := ⟨31, [(4, none)], zkbQ_c, none⟩
theorem zkbQ_t0 : tableOf Tryz.prog 61 = some zkbQ := by kernel_rfl
theorem zkbQ_t : T0 61 = some zkbQ := withKept_t rfl (withTrue_t rfl zkbQ_t0)
abbrev fn_zeQ : FuncId := 62
def zeQ_ra0 : Code := (rangeParts (subCode ((Tryz.prog.funcs[62]?).bind (·.body)) [true, false, true, false])).1
def zeQ_rb0 : Code := (rangeParts (subCode ((Tryz.prog.funcs[62]?).bind (·.body)) [true, false, true, false])).2
def zeQ_a0 : ACode :=
 (.region [
 o1 3 (.mov (tm 5))])
def zeQ_b0 : ACode :=
 (.block 1 (.seq (.region [
 o1 6 (.mov (tm 3)),
 o1 7 (.bin .neq (so (.binOp .neq 41 (tm 6) k0 41) 4) (tm 6) k0)]) (.cond (tm 7)
 (.seq (.region [
 o1 8 (.mov (tm 3)),
 o3 (.store 1 (tm 2) (tm 8))]) .ret)
 .skip)))
theorem zeQ_ca0 : comp Tryz.prog zeQ_ra0 = some zeQ_a0 := by kernel_rfl
theorem zeQ_cb0 : comp Tryz.prog zeQ_rb0 = some zeQ_b0 := by kernel_rfl
theorem zeQ_na0 : noDefer zeQ_ra0 = true := by kernel_rfl
theorem zeQ_nb0 : noDefer zeQ_rb0 = true := by kernel_rfl
def zeQ_c : ACode :=
 (.seq (.region [
 o1 2 (.alloc 41 [(.int .i64 0)])]) (.seq (.seq (.region [
 o1 4 (.mov (tm 0))]) (.block 0 (.rangeFunc (tm 4) [5] zeQ_ra0 zeQ_rb0))) (.seq (.region [
 o3 (.store 1 (tm 2) k0)]) .ret)))
def zeQ : AFunc := ⟨9, [(2, some none)], zeQ_c, none⟩
theorem zeQ_t0 : tableOf Tryz.prog 62 = some zeQ := by kernel_rfl
theorem zeQ_t : T0 62 = some zeQ := withKept_t rfl (withTrue_t rfl zeQ_t0)
abbrev fn_zcQ : FuncId := 63
def zcQ_c : ACode :=
 (.seq (.region [
 o1 1 (.box 101 (tm 0)),
 o1 2 (.mov (.const .nilFunc))]) (.seq (.region [
 o1 3 (.mkFunc (.func 99) [] [(tm 1)]),
 o1 2 (.mov (tm 3))]) .ret))
def zcQ : AFunc := ⟨4, [(2, none)], zcQ_c, none⟩
theorem zcQ_t0 : tableOf Tryz.prog 63 = some zcQ := by kernel_rfl
theorem zcQ_t : T0 63 = some zcQ := withKept_t rfl (withTrue_t rfl zcQ_t0)
abbrev fn_ziQ : FuncId := 64
def ziQ_c : ACode :=
 (.seq (.region [
 o1 1 (.box 36 (tm 0)),
 o1 2 (.mov (.const (.slice none 0 0)))]) (.seq (.region [
 o1 3 (.mkFunc (.func 100) [] [(tm 1)]),
 o1 4 (.mkFunc (.func 102) [] [(tm 1)]),
 o1 5 (.mkFunc (.func 104) [] [(tm 1)]),
 o1 6 (.buildSlice 144 [.nilFunc, .nilFunc, .nilFunc] 3 [(0, 1, (tm 3)), (1, 1, (tm 4)), (2, 1, (tm 5))]),
 o1 2 (.mov (tm 6))]) .ret))
def ziQ : AFunc := ⟨7, [(2, none)], ziQ_c, none⟩
theorem ziQ_t0 : tableOf Tryz.prog 64 = some ziQ := by kernel_rfl
theorem ziQ_t : T0 64 = some ziQ := withKept_t rfl (withTrue_t rfl ziQ_t0)
abbrev fn_zpcQ : FuncId := 65
def zpcQ_c : ACode :=
 (.seq (.region [
 o1 2 (.mov (.const (.pointer none))),
 o1 3 (.mov k0)]) (.seq (.seq (.region [
 o1 4 (.mov (tm 0)),
 o1 5 (.bin .lss (so (.binOp .lss 3 (tm 4) k0 3) 4) (tm 4) k0),
 o1 6 (.mov (tm 5)),
 o5 7 (.mov (tm 0)) 6,
 o5 8 (.bin .gtr (so (.binOp .gtr 3 (tm 7) (.const (.int .i64 1048576)) 3) 4) (tm 7) (.const (.int .i64 1048576))) 6,
 o1 9 (.pick (tm 6) (.const (.bool true)) (tm 8))]) (.cond (tm 9)
 (.seq (.region [
 o1 2 (.mov (.const (.pointer none))),
 o1 3 (.mov (.const (.int .i64 3)))]) .ret)
 .skip)) (.seq (.region [
 o1 10 (.mov (tm 0)),
 o1 11 (.build [(.int .i64 0), (.slice none 0 0), (.int .i64 0), (.bool false)] [(0, 1, (tm 10)), (3, 1, (.const (.bool true)))]),
 o1 12 (.box 149 (tm 11)),
 o1 2 (.mov (tm 12)),
 o1 3 (.mov k0)]) .ret)))
def zpcQ : AFunc := ⟨13, [(2, none), (3, none)], zpcQ_c, none⟩
theorem zpcQ_t0 : tableOf Tryz.prog 65 = some zpcQ := by kernel_rfl
theorem zpcQ_t : T0 65 = some zpcQ := withKept_t rfl (withTrue_t rfl zpcQ_t0)
abbrev fn_zuQ : FuncId := 66
def zuQ_l0 : ACode :=
 (.seq (.region [
 o1 32 (.bin .lss (so (.binOp .lss 3 (tm 31) (.const (.int .i64 4)) 3) 0) (tm 31) (.const (.int .i64 4)))]) (.seq (.cond (tm 32)
 .skip
 (.exit 0)) (.seq (.block 1 (.seq (.region [
 o1 33 (.index 4 1 none (tm 30) (tm 31)),
 o1 8 (.mov (tm 33))]) (.region [
 o1 34 (.mov (tm 5)),
 o1 35 (.mov (tm 8)),
 o1 36 (.nilCheck (tm 35)),
 o1 37 (.load (some 32) (tm 36)),
 o1 38 (.callV (.func 109) [(tm 34), (tm 37)])]))) (.region [
 o1 39 (.bin .add (so (.binOp .add 3 (tm 31) (.const (.int .i64 1)) 3) 3) (tm 31) (.const (.int .i64 1))),
 o1 31 (.mov (tm 39))]))))
def zuQ_c : ACode :=
 (.seq (.region [
 o1 1 (.box 30 (tm 0)),
 o1 2 (.mov (.const (.slice none 0 0))),
 o1 3 (.mov k0)]) (.seq (.seq (.region [
 o1 9 (.load (some 131) (tm 1)),
 o1 10 (.callV (.func 101) [(tm 9)]),
 o1 4 (.mov (tm 10))]) (.seq (.region [
 o1 11 (.mov (tm 4)),
 o1 12 (.bin .neq (so (.binOp .neq 41 (tm 11) k0 41) 4) (tm 11) k0)]) (.cond (tm 12)
 (.seq (.region [
 o1 13 (.mov (tm 4)),
 o1 2 (.mov (.const (.slice none 0 0))),
 o1 3 (.mov (tm 13))]) .ret)
 .skip))) (.seq (.region [
 o1 15 (.callV (.func 65) [(.const (.int .i64 65536))]),
 o1 14 (.mov (tm 15)),
 o1 16 (.extract 0 (tm 14)),
 o1 17 (.extract 1 (tm 14)),
 o1 5 (.mov (tm 16)),
 o1 6 (.mov (tm 17))]) (.seq (.region [
 o1 18 (.mov (tm 5)),
 o1 19 (.fieldAddr 0 (tm 1)),
 o1 20 (.load none (tm 19)),
 o1 21 (.callV (.func 106) [(tm 18), (tm 20)])]) (.seq (.region [
 o1 22 (.mov (tm 5)),
 o1 23 (.fieldAddr 1 (tm 1)),
 o1 24 (.load none (tm 23)),
 o1 25 (.callV (.func 107) [(tm 22), (tm 24)])]) (.seq (.region [
 o1 26 (.mov (tm 5)),
 o1 27 (.fieldAddr 2 (tm 1)),
 o1 28 (.load none (tm 27)),
 o1 29 (.callV (.func 107) [(tm 26), (tm 28)])]) (.seq (.seq (.region [
 o1 30 (.callV (.func 108) [(tm 1)]),
 o1 31 (.mov k0)]) (.block 0 (.loop zuQ_l0))) (.seq (.region [
 o1 40 (.mov (tm 5)),
 o1 41 (.callV (.func 70) [(tm 40)]),
 o1 42 (.extract 0 (tm 41)),
 o1 43 (.extract 1 (tm 41)),
 o1 2 (.mov (tm 42)),
 o1 3 (.mov (tm 43))]) .ret))))))))
def zuQ : AFunc := ⟨44, [(2, none), (3, none)], zuQ_c, none⟩
theorem zuQ_t0 : tableOf Tryz.prog 66 = some zuQ := by kernel_rfl
theorem zuQ_t : T0 66 = some zuQ := withKept_t rfl (withTrue_t rfl zuQ_t0)
abbrev fn_zpQ : FuncId := 67
def zpQ_l0 : ACode :=
 (.seq (.region [
 o1 35 (.bin .lss (so (.binOp .lss 3 (tm 34) (tm 33) 3) 0) (tm 34) (tm 33))]) (.seq (.cond (tm 35)
 .skip
 (.exit 0)) (.seq (.block 1 (.seq (.region [
 o1 36 (.indexSl 2 (tm 32) (tm 34)),
 o1 37 (.load (some 2) (tm 36)),
 o1 8 (.alloc 134 [(.int .i64 0), (.int .u64 0)]),
 o3 (.store 2 (tm 8) (tm 37))]) (.seq (.region [
 o1 38 (.mov (tm 5)),
 o1 39 (.fieldAddr 0 (tm 8)),
 o1 40 (.load none (tm 39)),
 o1 41 (.callV (.func 107) [(tm 38), (tm 40)])]) (.region [
 o1 42 (.mov (tm 5)),
 o1 43 (.fieldAddr 1 (tm 8)),
 o1 44 (.load none (tm 43)),
 o1 45 (.callV (.func 110) [(tm 42), (tm 44)])])))) (.region [
 o1 46 (.bin .add (so (.binOp .add 3 (tm 34) (.const (.int .i64 1)) 3) 3) (tm 34) (.const (.int .i64 1))),
 o1 34 (.mov (tm 46))]))))
def zpQ_c : ACode :=
 (.seq (.region [
 o1 1 (.box 33 (tm 0)),
 o1 2 (.mov (.const (.slice none 0 0))),
 o1 3 (.mov k0)]) (.seq (.seq (.region [
 o1 9 (.load (some 34) (tm 1)),
 o1 10 (.callV (.func 105) [(tm 9)]),
 o1 4 (.mov (tm 10))]) (.seq (.region [
 o1 11 (.mov (tm 4)),
 o1 12 (.bin .neq (so (.binOp .neq 41 (tm 11) k0 41) 4) (tm 11) k0)]) (.cond (tm 12)
 (.seq (.region [
 o1 13 (.mov (tm 4)),
 o1 2 (.mov (.const (.slice none 0 0))),
 o1 3 (.mov (tm 13))]) .ret)
 .skip))) (.seq (.region [
 o1 15 (.callV (.func 65) [(.const (.int .i64 1048576))]),
 o1 14 (.mov (tm 15)),
 o1 16 (.extract 0 (tm 14)),
 o1 17 (.extract 1 (tm 14)),
 o1 5 (.mov (tm 16)),
 o1 6 (.mov (tm 17))]) (.seq (.region [
 o1 18 (.mov (tm 5)),
 o1 19 (.fieldAddr 0 (tm 1)),
 o1 20 (.load none (tm 19)),
 o1 21 (.callV (.func 107) [(tm 18), (tm 20)])]) (.seq (.region [
 o1 22 (.mov (tm 5)),
 o1 23 (.fieldAddr 1 (tm 1)),
 o1 24 (.load (some 32) (tm 23)),
 o1 25 (.callV (.func 109) [(tm 22), (tm 24)])]) (.seq (.region [
 o1 26 (.mov (tm 5)),
 o1 27 (.fieldAddr 33 (tm 1)),
 o1 28 (.load none (tm 27)),
 o1 29 (.lenSl (tm 28)),
 o1 30 (.callV (.func 107) [(tm 26), (tm 29)])]) (.seq (.seq (.region [
 o1 31 (.fieldAddr 33 (tm 1)),
 o1 32 (.load none (tm 31)),
 o1 33 (.lenSl (tm 32)),
 o1 34 (.mov k0)]) (.block 0 (.loop zpQ_l0))) (.seq (.region [
 o1 47 (.mov (tm 5)),
 o1 48 (.callV (.func 70) [(tm 47)]),
 o1 49 (.extract 0 (tm 48)),
 o1 50 (.extract 1 (tm 48)),
 o1 2 (.mov (tm 49)),
 o1 3 (.mov (tm 50))]) .ret))))))))
def zpQ : AFunc := ⟨51, [(2, none), (3, none)], zpQ_c, none⟩
theorem zpQ_t0 : tableOf Tryz.prog 67 = some zpQ := by kernel_rfl
theorem zpQ_t : T0 67 = some zpQ := withKept_t rfl (withTrue_t rfl zpQ_t0)
abbrev fn_zmcQ : FuncId := 68
def zmcQ_l0 : ACode :=
 (.seq (.region [
 o1 25 (.bin .lss (so (.binOp .lss 3 (tm 24) (tm 23) 3) 0) (tm 24) (tm 23))]) (.seq (.cond (tm 25)
 .skip
 (.exit 0)) (.seq (.block 1 (.seq (.region [
 o1 26 (.indexSl 5 (tm 22) (tm 24)),
 o1 27 (.load (some 5) (tm 26)),
 o1 8 (.alloc 132 [(.int .u8 0), (.int .u8 0), (.int .u8 0), (.int .u8 0), (.int .i64 0)]),
 o3 (.store 5 (tm 8) (tm 27))]) (.seq (.region [
 o1 28 (.mov (tm 5)),
 o1 29 (.fieldAddr 0 (tm 8)),
 o1 30 (.load (some 4) (tm 29)),
 o1 31 (.callV (.func 111) [(tm 28), (tm 30)])]) (.region [
 o1 32 (.mov (tm 5)),
 o1 33 (.fieldAddr 4 (tm 8)),
 o1 34 (.load none (tm 33)),
 o1 35 (.callV (.func 107) [(tm 32), (tm 34)])])))) (.region [
 o1 36 (.bin .add (so (.binOp .add 3 (tm 24) (.const (.int .i64 1)) 3) 3) (tm 24) (.const (.int .i64 1))),
 o1 24 (.mov (tm 36))]))))
def zmcQ_c : ACode :=
 (.seq (.region [
 o1 2 (.mov (.const (.slice none 0 0))),
 o1 3 (.mov k0)]) (.seq (.seq (.region [
 o1 9 (.mov (tm 0)),
 o1 10 (.callV (.func 103) [(tm 9)]),
 o1 4 (.mov (tm 10))]) (.seq (.region [
 o1 11 (.mov (tm 4)),
 o1 12 (.bin .neq (so (.binOp .neq 41 (tm 11) k0 41) 4) (tm 11) k0)]) (.cond (tm 12)
 (.seq (.region [
 o1 13 (.mov (tm 4)),
 o1 2 (.mov (.const (.slice none 0 0))),
 o1 3 (.mov (tm 13))]) .ret)
 .skip))) (.seq (.region [
 o1 15 (.callV (.func 65) [(.const (.int .i64 1048576))]),
 o1 14 (.mov (tm 15)),
 o1 16 (.extract 0 (tm 14)),
 o1 17 (.extract 1 (tm 14)),
 o1 5 (.mov (tm 16)),
 o1 6 (.mov (tm 17))]) (.seq (.region [
 o1 18 (.mov (tm 5)),
 o1 19 (.mov (tm 0)),
 o1 20 (.lenSl (tm 19)),
 o1 21 (.callV (.func 107) [(tm 18), (tm 20)])]) (.seq (.seq (.region [
 o1 22 (.mov (tm 0)),
 o1 23 (.lenSl (tm 22)),
 o1 24 (.mov k0)]) (.block 0 (.loop zmcQ_l0))) (.seq (.region [
 o1 37 (.mov (tm 5)),
 o1 38 (.callV (.func 70) [(tm 37)]),
 o1 39 (.extract 0 (tm 38)),
 o1 40 (.extract 1 (tm 38)),
 o1 2 (.mov (tm 39)),
 o1 3 (.mov (tm 40))]) .ret))))))
def zmcQ : AFunc := ⟨41, [(2, none), (3, none)], zmcQ_c, none⟩
theorem zmcQ_t0 : tableOf Tryz.prog 68 = some zmcQ := by kernel_rfl
theorem zmcQ_t : T0 68 = some zmcQ := withKept_t rfl (withTrue_t rfl zmcQ_t0)
abbrev fn_zhdQ : FuncId := 69
def zhdQ_c : ACode :=
 (.seq (.region [
 o1 4 (.mov k0)]) (.seq (.region [
 o1 5 (.mov (tm 0)),
 o1 6 (.mov (tm 1)),
 o1 7 (.lenSl (tm 6)),
 o1 8 (.callV (.func 113) [(tm 7)]),
 o1 9 (.mov (tm 1)),
 o1 10 (.buildSlice 22 [(.slice none 0 0), (.slice none 0 0)] 2 [(0, 1, (tm 8)), (1, 1, (tm 9))]),
 o1 11 (.callV (.func 112) [(tm 5), (.const (.bool true)), (tm 10)]),
 o1 4 (.mov (tm 11))]) .ret))
def zhdQ : AFunc := ⟨12, [(4, none)], zhdQ_c, none⟩
theorem zhdQ_t0 : tableOf Tryz.prog 69 = some zhdQ := by kernel_rfl
theorem zhdQ_t : T0 69 = some zhdQ := withKept_t rfl (withTrue_t rfl zhdQ_t0)
abbrev fn_zidQ : FuncId := 70
def zidQ_c : ACode :=
 (.seq (.region [
 o1 2 (.mov (.const (.slice none 0 0))),
 o1 3 (.mov k0)]) (.seq (.block 0 (.seq (.region [
 o1 5 (.mov (tm 0)),
 o1 6 (.eq .ptr false (so (.binOp .eql 103 (tm 5) (.const (.pointer none)) 103) 4) (tm 5) (.const (.pointer none))),
 o1 7 (.mov (tm 6)),
 o5 8 (.mov (tm 0)) 7,
 o5 9 (.nilCheck (tm 8)) 7,
 o5 10 (.fieldAddr 3 (tm 9)) 7,
 o5 11 (.load none (tm 10)) 7,
 o5 12 (.raw (so (.unOp .not 4 (tm 11)) 4)) 7,
 o1 13 (.pick (tm 7) (.const (.bool true)) (tm 12)),
 o1 4 (.mov (tm 13))]) (.cond (tm 4)
 (.seq (.region [
 o1 2 (.mov (.const (.slice none 0 0))),
 o1 3 (.mov (.const (.int .i64 1)))]) .ret)
 (.seq (.region [
 o1 15 (.mov (tm 0)),
 o1 16 (.nilCheck (tm 15)),
 o1 17 (.fieldAddr 2 (tm 16)),
 o1 18 (.load none (tm 17)),
 o1 19 (.bin .neq (so (.binOp .neq 41 (tm 18) k0 41) 4) (tm 18) k0),
 o1 14 (.mov (tm 19))]) (.cond (tm 14)
 (.seq (.regionD [
 o1 20 (.mov (tm 0)),
 o1 21 (.nilCheck (tm 20)),
 o1 22 (.fieldAddr 2 (tm 21)),
 o1 23 (.load none (tm 22)),
 o1 2 (.mov (.const (.slice none 0 0))),
 o2 3 (.mov (tm 23))]) .ret)
 .skip))))) (.seq (.region [
 o1 24 (.mov (tm 0)),
 o1 25 (.nilCheck (tm 24)),
 o1 26 (.fieldAddr 1 (tm 25)),
 o1 27 (.load none (tm 26)),
 o1 28 (.callV (.func 72) [(tm 27)]),
 o1 2 (.mov (tm 28)),
 o1 3 (.mov k0)]) .ret)))
def zidQ : AFunc := ⟨29, [(2, none), (3, none)], zidQ_c, none⟩
theorem zidQ_t0 : tableOf Tryz.prog 70 = some zidQ := by kernel_rfl
theorem zidQ_t : T0 70 = some zidQ := withKept_t rfl (withTrue_t rfl zidQ_t0)
abbrev fn_zhcQ : FuncId := 72
def zhcQ_c : ACode :=
 (.seq (.region [
 o1 2 (.mov (.const (.slice none 0 0)))]) (.seq (.seq (.region [
 o1 3 (.mov (tm 0)),
 o1 4 (.eq .slice false (so (.binOp .eql 22 (tm 3) (.const (.slice none 0 0)) 22) 4) (tm 3) (.const (.slice none 0 0)))]) (.cond (tm 4)
 (.seq (.region [
 o1 2 (.mov (.const (.slice none 0 0)))]) .ret)
 .skip)) (.seq (.region [
 o1 5 (.buildSlice 5 [] 0 []),
 o1 6 (.mov (tm 0)),
 o1 7 (.append 5 1 1 [(.int .u8 0)] false (tm 5) (tm 6)),
 o1 2 (.mov (tm 7))]) .ret)))
def zhcQ : AFunc := ⟨8, [(2, none)], zhcQ_c, none⟩
theorem zhcQ_t0 : tableOf Tryz.prog 72 = some zhcQ := by kernel_rfl
theorem zhcQ_t : T0 72 = some zhcQ := withKept_t rfl (withTrue_t rfl zhcQ_t0)
abbrev fn_zvdQ : FuncId := 73
def zvdQ_c : ACode :=
 (.seq (.region [
 o1 4 (.mov k0)]) (.seq (.seq (.region [
 o1 5 (.mov (tm 0)),
 o1 6 (.eq .ptr false (so (.binOp .eql 69 (tm 5) (.const (.pointer none)) 69) 4) (tm 5) (.const (.pointer none))),
 o1 7 (.mov (tm 6)),
 o5 8 (.mov (tm 0)) 7,
 o5 9 (.nilCheck (tm 8)) 7,
 o5 10 (.fieldAddr 4 (tm 9)) 7,
 o5 11 (.load none (tm 10)) 7,
 o5 12 (.raw (so (.unOp .not 4 (tm 11)) 4)) 7,
 o1 13 (.pick (tm 7) (.const (.bool true)) (tm 12)),
 o1 14 (.mov (tm 13)),
 o5 15 (.mov (tm 0)) 14,
 o5 16 (.nilCheck (tm 15)) 14,
 o5 17 (.fieldAddr 2 (tm 16)) 14,
 o5 18 (.fieldAddr 0 (tm 17)) 14,
 o5 19 (.load none (tm 18)) 14,
 o5 20 (.bin .neq (so (.binOp .neq 41 (tm 19) k0 41) 4) (tm 19) k0) 14,
 o1 21 (.pick (tm 14) (.const (.bool true)) (tm 20))]) (.cond (tm 21)
 (.seq (.region [
 o1 22 (.mov (tm 4)),
 o1 4 (.mov (tm 22))]) .ret)
 .skip)) (.seq (.region [
 o1 23 (.mov (tm 0)),
 o3 (.defer (.func 114) [(tm 23)])]) (.seq (.region [
 o1 24 (.mov (tm 1)),
 o1 25 (.mov (tm 0)),
 o1 26 (.nilCheck (tm 25)),
 o1 27 (.fieldAddr 1 (tm 26)),
 o1 28 (.load none (tm 27)),
 o1 29 (.callV (tm 24) [(tm 28)]),
 o1 4 (.mov (tm 29))]) .ret))))
def zvdQ : AFunc := ⟨30, [(4, none)], zvdQ_c, none⟩
theorem zvdQ_t0 : tableOf Tryz.prog 73 = some zvdQ := by kernel_rfl
theorem zvdQ_t : T0 73 = some zvdQ := withKept_t rfl (withTrue_t rfl zvdQ_t0)
abbrev fn_zfdQ : FuncId := 74
def zfdQ_c : ACode :=
 (.seq (.region [
 o1 4 (.mov k0)]) (.seq (.region [
 o1 8 (.mov (tm 0)),
 o1 9 (.mov (tm 1)),
 o1 10 (.callV (.func 115) [(tm 8), (.const (.int .i64 1)), (tm 9), (.func 116)]),
 o1 11 (.conv .i64 (so (.convert 124 3 (tm 10)) 3) (tm 10)),
 o1 5 (.alloc 3 [(.int .i64 0)]),
 o3 (.store 1 (tm 5) (tm 11))]) (.seq (.region [
 o1 12 (.load none (tm 5)),
 o1 13 (.bin .leq (so (.binOp .leq 3 (tm 12) (.const (.int .i64 8)) 3) 4) (tm 12) (.const (.int .i64 8))),
 o1 14 (.mov (tm 1)),
 o1 15 (.callV (.func 78) [(tm 13), (.const (.int .i64 5)), (tm 14)])]) (.seq (.region [
 o1 6 (.alloc 5 [(.int .u8 0)]),
 o3 (.store 1 (tm 6) (.const (.int .u8 1)))]) (.seq (.region [
 o1 16 (.mov (tm 0)),
 o1 17 (.load none (tm 5)),
 o1 18 (.mov (tm 1)),
 o1 19 (.mkFunc (.func 117) [] [(tm 5), (tm 6)]),
 o1 20 (.callV (.func 115) [(tm 16), (tm 17), (tm 18), (tm 19)]),
 o1 7 (.mov (tm 20))]) (.seq (.region [
 o1 21 (.load none (tm 6)),
 o1 22 (.bin .neq (so (.binOp .neq 5 (tm 21) (.const (.int .u8 0)) 5) 4) (tm 21) (.const (.int .u8 0))),
 o1 23 (.mov (tm 22)),
 o4 24 (.mov (tm 7)) 23,
 o4 25 (.bin .leq (so (.binOp .leq 124 (tm 24) (.const (.int .u64 9223372036854775807)) 124) 4) (tm 24) (.const (.int .u64 9223372036854775807))) 23,
 o1 26 (.pick (tm 23) (tm 25) (.const (.bool false))),
 o1 27 (.mov (tm 1)),
 o1 28 (.callV (.func 78) [(tm 26), (.const (.int .i64 5)), (tm 27)])]) (.seq (.region [
 o1 29 (.mov (tm 7)),
 o1 30 (.conv .i64 (so (.convert 124 3 (tm 29)) 3) (tm 29)),
 o1 4 (.mov (tm 30))]) .ret)))))))
def zfdQ : AFunc := ⟨31, [(4, none)], zfdQ_c, none⟩
theorem zfdQ_t0 : tableOf Tryz.prog 74 = some zfdQ := by kernel_rfl
theorem zfdQ_t : T0 74 = some zfdQ := withKept_t rfl (withTrue_t rfl zfdQ_t0)
abbrev fn_zadQ : FuncId := 75
def zadQ_c : ACode :=
 (.seq (.region [
 o1 2 (.mov k0)]) (.seq (.seq (.region [
 o1 3 (.mov (tm 0)),
 o1 4 (.eq .ptr false (so (.binOp .eql 69 (tm 3) (.const (.pointer none)) 69) 4) (tm 3) (.const (.pointer none))),
 o1 5 (.mov (tm 4)),
 o5 6 (.mov (tm 0)) 5,
 o5 7 (.nilCheck (tm 6)) 5,
 o5 8 (.fieldAddr 4 (tm 7)) 5,
 o5 9 (.load none (tm 8)) 5,
 o5 10 (.raw (so (.unOp .not 4 (tm 9)) 4)) 5,
 o1 11 (.pick (tm 5) (.const (.bool true)) (tm 10)),
 o1 12 (.mov (tm 11)),
 o5 13 (.mov (tm 0)) 12,
 o5 14 (.nilCheck (tm 13)) 12,
 o5 15 (.fieldAddr 2 (tm 14)) 12,
 o5 16 (.fieldAddr 0 (tm 15)) 12,
 o5 17 (.load none (tm 16)) 12,
 o5 18 (.bin .neq (so (.binOp .neq 41 (tm 17) k0 41) 4) (tm 17) k0) 12,
 o1 19 (.pick (tm 12) (.const (.bool true)) (tm 18))]) (.cond (tm 19)
 (.seq (.region [
 o1 2 (.mov k0)]) .ret)
 .skip)) (.seq (.regionD [
 o1 20 (.mov (tm 0)),
 o1 21 (.nilCheck (tm 20)),
 o1 22 (.fieldAddr 0 (tm 21)),
 o1 23 (.load none (tm 22)),
 o1 24 (.lenSl (tm 23)),
 o1 25 (.mov (tm 0)),
 o1 26 (.nilCheck (tm 25)),
 o1 27 (.fieldAddr 1 (tm 26)),
 o1 28 (.load none (tm 27)),
 o2 29 (.bin .sub (so (.binOp .sub 3 (tm 24) (tm 28) 3) 3) (tm 24) (tm 28)),
 o2 2 (.mov (tm 29))]) .ret)))
def zadQ : AFunc := ⟨30, [(2, none)], zadQ_c, none⟩
theorem zadQ_t0 : tableOf Tryz.prog 75 = some zadQ := by kernel_rfl
theorem zadQ_t : T0 75 = some zadQ := withKept_t rfl (withTrue_t rfl zadQ_t0)
abbrev fn_zsdQ : FuncId := 76
def zsdQ_c : ACode :=
 (.seq (.region [
 o1 4 (.mov (.const (.slice none 0 0)))]) (.seq (.seq (.region [
 o1 5 (.mov (tm 0)),
 o1 6 (.eq .ptr false (so (.binOp .eql 69 (tm 5) (.const (.pointer none)) 69) 4) (tm 5) (.const (.pointer none))),
 o1 7 (.mov (tm 6)),
 o5 8 (.mov (tm 0)) 7,
 o5 9 (.nilCheck (tm 8)) 7,
 o5 10 (.fieldAddr 4 (tm 9)) 7,
 o5 11 (.load none (tm 10)) 7,
 o5 12 (.raw (so (.unOp .not 4 (tm 11)) 4)) 7,
 o1 13 (.pick (tm 7) (.const (.bool true)) (tm 12)),
 o1 14 (.mov (tm 13)),
 o5 15 (.mov (tm 0)) 14,
 o5 16 (.nilCheck (tm 15)) 14,
 o5 17 (.fieldAddr 2 (tm 16)) 14,
 o5 18 (.fieldAddr 0 (tm 17)) 14,
 o5 19 (.load none (tm 18)) 14,
 o5 20 (.bin .neq (so (.binOp .neq 41 (tm 19) k0 41) 4) (tm 19) k0) 14,
 o1 21 (.pick (tm 14) (.const (.bool true)) (tm 20))]) (.cond (tm 21)
 (.seq (.region [
 o1 22 (.mov (tm 4)),
 o1 4 (.mov (tm 22))]) .ret)
 .skip)) (.seq (.region [
 o1 23 (.mov (tm 0)),
 o3 (.defer (.func 114) [(tm 23)])]) (.seq (.region [
 o1 24 (.mov (tm 1)),
 o1 25 (.mov (tm 0)),
 o1 26 (.nilCheck (tm 25)),
 o1 27 (.fieldAddr 1 (tm 26)),
 o1 28 (.load none (tm 27)),
 o1 29 (.callV (tm 24) [(tm 28)]),
 o1 4 (.mov (tm 29))]) .ret))))
def zsdQ : AFunc := ⟨30, [(4, none)], zsdQ_c, none⟩
theorem zsdQ_t0 : tableOf Tryz.prog 76 = some zsdQ := by kernel_rfl
theorem zsdQ_t : T0 76 = some zsdQ := withKept_t rfl (withTrue_t rfl zsdQ_t0)
abbrev fn_zrcQ : FuncId := 77
def zrcQ_c : ACode :=
 (.seq (.region [
 o1 4 (.mov (.const (.slice none 0 0)))]) (.seq (.region [
 o1 6 (.load none (tm 1)),
 o1 7 (.mov (tm 0)),
 o1 8 (.callV (.func 74) [(tm 6), (tm 7)]),
 o1 5 (.mov (tm 8))]) (.seq (.region [
 o1 9 (.mov (tm 5)),
 o1 10 (.load none (tm 2)),
 o1 11 (.raw (so (.call ⟨.builtin .max, #[(tm 10), k0], #[3, 3]⟩) 3)),
 o1 12 (.bin .leq (so (.binOp .leq 3 (tm 9) (tm 11) 3) 4) (tm 9) (tm 11)),
 o1 13 (.mov (tm 0)),
 o1 14 (.callV (.func 78) [(tm 12), (.const (.int .i64 4)), (tm 13)])]) (.seq (.region [
 o1 15 (.load none (tm 1)),
 o1 16 (.mov (tm 5)),
 o1 17 (.mov (tm 0)),
 o1 18 (.callV (.func 79) [(tm 15), (tm 16), (tm 17), (.func 72)]),
 o1 4 (.mov (tm 18))]) .ret))))
def zrcQ : AFunc := ⟨19, [(4, none)], zrcQ_c, none⟩
theorem zrcQ_t0 : tableOf Tryz.prog 77 = some zrcQ := by kernel_rfl
theorem zrcQ_t : T0 77 = some zrcQ := withKept_t rfl (withTrue_t rfl zrcQ_t0)
abbrev fn_zqdQ : FuncId := 78
def zqdQ_c : ACode :=
 (.seq (.region [
 o1 6 (.mov (tm 0)),
 o1 7 (.raw (so (.unOp .not 4 (tm 6)) 4))]) (.cond (tm 7)
 (.region [
 o1 8 (.mov (tm 1)),
 o1 9 (.mov (tm 2)),
 o1 10 (.build [(.int .i64 0), (.int .i64 0)] [(0, 1, (tm 8)), (1, 1, (tm 9))]),
 o1 11 (.build [(.int .i64 0), (.int .i64 0)] [(0, 2, (tm 10))]),
 o1 12 (.mkIface 162 (tm 11)),
 o3 (.panic (tm 12))])
 .skip))
def zqdQ : AFunc := ⟨13, [], zqdQ_c, none⟩
theorem zqdQ_t0 : tableOf Tryz.prog 78 = some zqdQ := by kernel_rfl
theorem zqdQ_t : T0 78 = some zqdQ := withKept_t rfl (withTrue_t rfl zqdQ_t0)
abbrev fn_zxdQ : FuncId := 79
def zxdQ_c : ACode :=
 (.seq (.region [
 o1 8 (.mov (.const (.slice none 0 0)))]) (.seq (.regionD [
 o1 9 (.mov (tm 1)),
 o1 10 (.mov (tm 0)),
 o1 11 (.nilCheck (tm 10)),
 o1 12 (.fieldAddr 0 (tm 11)),
 o1 13 (.load none (tm 12)),
 o1 14 (.lenSl (tm 13)),
 o1 15 (.mov (tm 0)),
 o1 16 (.nilCheck (tm 15)),
 o1 17 (.fieldAddr 1 (tm 16)),
 o1 18 (.load none (tm 17)),
 o1 19 (.bin .sub (so (.binOp .sub 3 (tm 14) (tm 18) 3) 3) (tm 14) (tm 18)),
 o1 20 (.bin .leq (so (.binOp .leq 3 (tm 9) (tm 19) 3) 4) (tm 9) (tm 19)),
 o1 21 (.mov (tm 2)),
 o2 22 (.callV (.func 78) [(tm 20), (.const (.int .i64 6)), (tm 21)])]) (.seq (.region [
 o1 23 (.mov (tm 0)),
 o1 24 (.nilCheck (tm 23)),
 o1 25 (.fieldAddr 1 (tm 24)),
 o1 26 (.load none (tm 25)),
 o1 27 (.mov (tm 1)),
 o1 28 (.bin .add (so (.binOp .add 3 (tm 26) (tm 27) 3) 3) (tm 26) (tm 27)),
 o1 29 (.nilCheck (tm 23)),
 o1 30 (.fieldAddr 1 (tm 29)),
 o3 (.store 1 (tm 30) (tm 28))]) (.seq (.regionD [
 o1 31 (.mov (tm 3)),
 o1 32 (.mov (tm 0)),
 o1 33 (.nilCheck (tm 32)),
 o1 34 (.fieldAddr 0 (tm 33)),
 o1 35 (.load none (tm 34)),
 o1 36 (.mov (tm 0)),
 o1 37 (.nilCheck (tm 36)),
 o1 38 (.fieldAddr 1 (tm 37)),
 o1 39 (.load none (tm 38)),
 o1 40 (.mov (tm 1)),
 o1 41 (.bin .sub (so (.binOp .sub 3 (tm 39) (tm 40) 3) 3) (tm 39) (tm 40)),
 o1 42 (.mov (tm 0)),
 o1 43 (.nilCheck (tm 42)),
 o1 44 (.fieldAddr 1 (tm 43)),
 o1 45 (.load none (tm 44)),
 o1 46 (.sliceSl 1 (tm 35) (some (tm 41)) (some (tm 45)) none),
 o2 47 (.callV (tm 31) [(tm 46)]),
 o2 8 (.mov (tm 47))]) .ret))))
def zxdQ : AFunc := ⟨48, [(8, none)], zxdQ_c, none⟩
theorem zxdQ_t0 : tableOf Tryz.prog 79 = some zxdQ := by kernel_rfl
theorem zxdQ_t : T0 79 = some zxdQ := withKept_t rfl (withTrue_t rfl zxdQ_t0)
abbrev fn_zhQ : FuncId := 80
def zhQ_c : ACode :=
 (.seq (.region [
 o1 8 (.alloc 30 ((.string ⟨⟨[]⟩⟩) :: ((.int .i64 0) :: ((.int .i64 0) :: (z32 ++ (z32 ++ (z32 ++ z32)))))))]) (.seq (.seq (.region [
 o1 13 (.mov (tm 2)),
 o1 14 (.nilCheck (tm 13)),
 o1 15 (.load (some 2) (tm 14)),
 o1 16 (.build [(.int .i64 0), (.int .i64 0)] []),
 o1 17 (.bin .neq (so (.binOp .neq 43 (tm 15) (tm 16) 43) 4) (tm 15) (tm 16))]) (.cond (tm 17)
 (.seq (.region [
 o1 18 (.load (some 131) (tm 8)),
 o3 (.store 131 (tm 8) (tm 18))]) .ret)
 .skip)) (.seq (.region [
 o1 19 (.mov (tm 1)),
 o1 20 (.mov (tm 0)),
 o1 21 (.callV (.func 75) [(tm 20)]),
 o1 22 (.bin .sub (so (.binOp .sub 3 (tm 19) (tm 21) 3) 3) (tm 19) (tm 21)),
 o1 9 (.mov (tm 22))]) (.seq (.region [
 o1 23 (.mov (tm 0)),
 o1 24 (.callV (.func 39) [(tm 23), (.const (.int .i64 65536))]),
 o1 10 (.mov (tm 24))]) (.seq (.seq (.region [
 o1 25 (.mov (tm 0)),
 o1 26 (.callV (.func 75) [(tm 25)]),
 o1 27 (.bin .eql (so (.binOp .eql 3 (tm 26) k0 3) 4) (tm 26) k0),
 o1 28 (.mov (tm 27)),
 o4 29 (.mov (tm 0)) 28,
 o4 30 (.callV (.func 41) [(tm 29)]) 28,
 o4 31 (.build [(.int .i64 0), (.int .i64 0)] []) 28,
 o4 32 (.bin .neq (so (.binOp .neq 43 (tm 30) (tm 31) 43) 4) (tm 30) (tm 31)) 28,
 o1 33 (.pick (tm 28) (tm 32) (.const (.bool false)))]) (.cond (tm 33)
 (.seq (.region [
 o1 34 (.mov (tm 2)),
 o1 35 (.mov (tm 0)),
 o1 36 (.callV (.func 41) [(tm 35)]),
 o1 37 (.nilCheck (tm 34)),
 o3 (.store 2 (tm 37) (tm 36))]) (.seq (.region [
 o1 38 (.load (some 131) (tm 8)),
 o3 (.store 131 (tm 8) (tm 38))]) .ret))
 .skip)) (.seq (.region [
 o1 40 (.mov (tm 3)),
 o1 41 (.mov (tm 10)),
 o1 42 (.callV (tm 40) [(tm 41)]),
 o1 39 (.mov (tm 42)),
 o1 43 (.extract 0 (tm 39)),
 o1 44 (.extract 1 (tm 39)),
 o1 11 (.alloc 30 ((.string ⟨⟨[]⟩⟩) :: ((.int .i64 0) :: ((.int .i64 0) :: (z32 ++ (z32 ++ (z32 ++ z32))))))),
 o1 12 (.alloc 43 [(.int .i64 0), (.int .i64 0)]),
 o3 (.store 131 (tm 11) (tm 43)),
 o3 (.store 2 (tm 12) (tm 44))]) (.seq (.seq (.region [
 o1 45 (.load (some 2) (tm 12)),
 o1 46 (.build [(.int .i64 0), (.int .i64 0)] []),
 o1 47 (.bin .neq (so (.binOp .neq 43 (tm 45) (tm 46) 43) 4) (tm 45) (tm 46))]) (.cond (tm 47)
 (.seq (.region [
 o1 48 (.mov (tm 2)),
 o1 49 (.mov (tm 9)),
 o1 50 (.build [(.int .i64 0), (.int .i64 0)] [(0, 1, (.const (.int .i64 5))), (1, 1, (tm 49))]),
 o1 51 (.nilCheck (tm 48)),
 o3 (.store 2 (tm 51) (tm 50))]) (.seq (.region [
 o1 52 (.load (some 131) (tm 8)),
 o3 (.store 131 (tm 8) (tm 52))]) .ret))
 .skip)) (.seq (.region [
 o1 53 (.load (some 131) (tm 11)),
 o3 (.store 131 (tm 8) (tm 53))]) .ret))))))))
def zhQ : AFunc := ⟨54, [(8, some (some 131))], zhQ_c, none⟩
theorem zhQ_t0 : tableOf Tryz.prog 80 = some zhQ := by kernel_rfl
theorem zhQ_t : T0 80 = some zhQ := withKept_t rfl (withTrue_t rfl zhQ_t0)
abbrev fn_ztQ : FuncId := 81
def ztQ_l0 : ACode :=
 (.seq (.region [
 o1 20 (.bin .lss (so (.binOp .lss 3 (tm 19) (.const (.int .i64 4)) 3) 0) (tm 19) (.const (.int .i64 4)))]) (.seq (.cond (tm 20)
 .skip
 (.exit 0)) (.seq (.block 1 (.seq (.region [
 o1 21 (.index 4 1 none (tm 18) (tm 19)),
 o1 7 (.mov (tm 21))]) (.region [
 o1 22 (.mov (tm 7)),
 o1 23 (.mov (tm 4)),
 o1 24 (.callV (.func 119) [(tm 23)]),
 o1 25 (.nilCheck (tm 22)),
 o3 (.store 32 (tm 25) (tm 24))]))) (.region [
 o1 26 (.bin .add (so (.binOp .add 3 (tm 19) (.const (.int .i64 1)) 3) 3) (tm 19) (.const (.int .i64 1))),
 o1 19 (.mov (tm 26))]))))
def ztQ_c : ACode :=
 (.seq (.region [
 o1 2 (.alloc 30 ((.string ⟨⟨[]⟩⟩) :: ((.int .i64 0) :: ((.int .i64 0) :: (z32 ++ (z32 ++ (z32 ++ z32))))))),
 o1 3 (.alloc 43 [(.int .i64 0), (.int .i64 0)])]) (.seq (.region [
 o1 9 (.mov (tm 0)),
 o1 10 (.callV (.func 32) [(tm 9)]),
 o1 4 (.mov (tm 10))]) (.seq (.region [
 o1 11 (.mov (tm 4)),
 o1 12 (.callV (.func 118) [(tm 11), (.const (.int .i64 32))]),
 o1 13 (.mov (tm 4)),
 o1 14 (.callV (.func 33) [(tm 13)]),
 o1 15 (.mov (tm 4)),
 o1 16 (.callV (.func 33) [(tm 15)]),
 o1 17 (.build ((.string ⟨⟨[]⟩⟩) :: ((.int .i64 0) :: ((.int .i64 0) :: (z32 ++ (z32 ++ (z32 ++ z32)))))) [(0, 1, (tm 12)), (1, 1, (tm 14)), (2, 1, (tm 16))]),
 o1 5 (.alloc 30 ((.string ⟨⟨[]⟩⟩) :: ((.int .i64 0) :: ((.int .i64 0) :: (z32 ++ (z32 ++ (z32 ++ z32))))))),
 o3 (.store 131 (tm 5) (tm 17))]) (.seq (.seq (.region [
 o1 18 (.callV (.func 108) [(tm 5)]),
 o1 19 (.mov k0)]) (.block 0 (.loop ztQ_l0))) (.seq (.region [
 o1 27 (.mov (tm 4)),
 o1 28 (.callV (.func 41) [(tm 27)]),
 o1 8 (.alloc 43 [(.int .i64 0), (.int .i64 0)]),
 o3 (.store 2 (tm 8) (tm 28))]) (.seq (.seq (.region [
 o1 29 (.load (some 2) (tm 8)),
 o1 30 (.build [(.int .i64 0), (.int .i64 0)] []),
 o1 31 (.bin .eql (so (.binOp .eql 43 (tm 29) (tm 30) 43) 4) (tm 29) (tm 30))]) (.cond (tm 31)
 (.region [
 o1 32 (.load (some 131) (tm 5)),
 o1 33 (.callV (.func 101) [(tm 32)]),
 o1 34 (.fieldAddr 0 (tm 8)),
 o3 (.store 1 (tm 34) (tm 33))])
 .skip)) (.seq (.seq (.region [
 o1 35 (.load (some 2) (tm 8)),
 o1 36 (.build [(.int .i64 0), (.int .i64 0)] []),
 o1 37 (.bin .neq (so (.binOp .neq 43 (tm 35) (tm 36) 43) 4) (tm 35) (tm 36))]) (.cond (tm 37)
 (.seq (.regionD [
 o1 38 (.build ((.string ⟨⟨[]⟩⟩) :: ((.int .i64 0) :: ((.int .i64 0) :: (z32 ++ (z32 ++ (z32 ++ z32)))))) []),
 o1 39 (.load (some 2) (tm 8)),
 ⟨none, .store 131 (tm 2) (tm 38), none, [(some 39, .load (some 2) (tm 8), none)], false⟩,
 ⟨none, .store 2 (tm 3) (tm 39), none, [], true⟩]) .ret)
 .skip)) (.seq (.regionD [
 o1 40 (.load (some 131) (tm 5)),
 o1 41 (.load (some 2) (tm 8)),
 ⟨none, .store 131 (tm 2) (tm 40), none, [(some 41, .load (some 2) (tm 8), none)], false⟩,
 ⟨none, .store 2 (tm 3) (tm 41), none, [], true⟩]) .ret))))))))
def ztQ : AFunc := ⟨42, [(2, some (some 131)), (3, some (some 2))], ztQ_c, none⟩
theorem ztQ_t0 : tableOf Tryz.prog 81 = some ztQ := by kernel_rfl
theorem ztQ_t : T0 81 = some ztQ := withKept_t rfl (withTrue_t rfl ztQ_t0)
abbrev fn_zgQ : FuncId := 82
def zgQ_c : ACode :=
 (.seq (.region [
 o1 8 (.alloc 33 ((.int .i64 0) :: (z32 ++ [(.slice none 0 0)])))]) (.seq (.seq (.region [
 o1 13 (.mov (tm 2)),
 o1 14 (.nilCheck (tm 13)),
 o1 15 (.load (some 2) (tm 14)),
 o1 16 (.build [(.int .i64 0), (.int .i64 0)] []),
 o1 17 (.bin .neq (so (.binOp .neq 43 (tm 15) (tm 16) 43) 4) (tm 15) (tm 16))]) (.cond (tm 17)
 (.seq (.region [
 o1 18 (.load (some 34) (tm 8)),
 o3 (.store 34 (tm 8) (tm 18))]) .ret)
 .skip)) (.seq (.region [
 o1 19 (.mov (tm 1)),
 o1 20 (.mov (tm 0)),
 o1 21 (.callV (.func 75) [(tm 20)]),
 o1 22 (.bin .sub (so (.binOp .sub 3 (tm 19) (tm 21) 3) 3) (tm 19) (tm 21)),
 o1 9 (.mov (tm 22))]) (.seq (.region [
 o1 23 (.mov (tm 0)),
 o1 24 (.callV (.func 39) [(tm 23), (.const (.int .i64 65536))]),
 o1 10 (.mov (tm 24))]) (.seq (.seq (.region [
 o1 25 (.mov (tm 0)),
 o1 26 (.callV (.func 75) [(tm 25)]),
 o1 27 (.bin .eql (so (.binOp .eql 3 (tm 26) k0 3) 4) (tm 26) k0),
 o1 28 (.mov (tm 27)),
 o4 29 (.mov (tm 0)) 28,
 o4 30 (.callV (.func 41) [(tm 29)]) 28,
 o4 31 (.build [(.int .i64 0), (.int .i64 0)] []) 28,
 o4 32 (.bin .neq (so (.binOp .neq 43 (tm 30) (tm 31) 43) 4) (tm 30) (tm 31)) 28,
 o1 33 (.pick (tm 28) (tm 32) (.const (.bool false)))]) (.cond (tm 33)
 (.seq (.region [
 o1 34 (.mov (tm 2)),
 o1 35 (.mov (tm 0)),
 o1 36 (.callV (.func 41) [(tm 35)]),
 o1 37 (.nilCheck (tm 34)),
 o3 (.store 2 (tm 37) (tm 36))]) (.seq (.region [
 o1 38 (.load (some 34) (tm 8)),
 o3 (.store 34 (tm 8) (tm 38))]) .ret))
 .skip)) (.seq (.region [
 o1 40 (.mov (tm 3)),
 o1 41 (.mov (tm 10)),
 o1 42 (.callV (tm 40) [(tm 41)]),
 o1 39 (.mov (tm 42)),
 o1 43 (.extract 0 (tm 39)),
 o1 44 (.extract 1 (tm 39)),
 o1 11 (.alloc 33 ((.int .i64 0) :: (z32 ++ [(.slice none 0 0)]))),
 o1 12 (.alloc 43 [(.int .i64 0), (.int .i64 0)]),
 o3 (.store 34 (tm 11) (tm 43)),
 o3 (.store 2 (tm 12) (tm 44))]) (.seq (.seq (.region [
 o1 45 (.load (some 2) (tm 12)),
 o1 46 (.build [(.int .i64 0), (.int .i64 0)] []),
 o1 47 (.bin .neq (so (.binOp .neq 43 (tm 45) (tm 46) 43) 4) (tm 45) (tm 46))]) (.cond (tm 47)
 (.seq (.region [
 o1 48 (.mov (tm 2)),
 o1 49 (.mov (tm 9)),
 o1 50 (.build [(.int .i64 0), (.int .i64 0)] [(0, 1, (.const (.int .i64 5))), (1, 1, (tm 49))]),
 o1 51 (.nilCheck (tm 48)),
 o3 (.store 2 (tm 51) (tm 50))]) (.seq (.region [
 o1 52 (.load (some 34) (tm 8)),
 o3 (.store 34 (tm 8) (tm 52))]) .ret))
 .skip)) (.seq (.region [
 o1 53 (.load (some 34) (tm 11)),
 o3 (.store 34 (tm 8) (tm 53))]) .ret))))))))
def zgQ : AFunc := ⟨54, [(8, some (some 34))], zgQ_c, none⟩
theorem zgQ_t0 : tableOf Tryz.prog 82 = some zgQ := by kernel_rfl
theorem zgQ_t : T0 82 = some zgQ := withKept_t rfl (withTrue_t rfl zgQ_t0)
abbrev fn_zoQ : FuncId := 83
def zoQ_l0 : ACode :=
 (.seq (.region [
 o1 30 (.bin .lss (so (.binOp .lss 3 (tm 29) (tm 28) 3) 4) (tm 29) (tm 28))]) (.seq (.cond (tm 30)
 .skip
 (.exit 0)) (.seq (.block 1 (.seq (.region [
 o1 31 (.mov (tm 4)),
 o1 32 (.callV (.func 33) [(tm 31)]),
 o1 33 (.build [(.int .i64 0), (.int .u64 0)] [(0, 1, (tm 32))]),
 o1 7 (.alloc 134 [(.int .i64 0), (.int .u64 0)]),
 o3 (.store 2 (tm 7) (tm 33))]) (.seq (.region [
 o1 34 (.mov (tm 4)),
 o1 35 (.callV (.func 120) [(tm 34)]),
 o1 36 (.fieldAddr 1 (tm 7)),
 o3 (.store 1 (tm 36) (tm 35))]) (.region [
 o1 37 (.fieldAddr 33 (tm 2)),
 o1 38 (.load none (tm 37)),
 o1 39 (.load (some 2) (tm 7)),
 o1 40 (.buildSlice 134 [(.int .i64 0), (.int .u64 0)] 1 [(0, 2, (tm 39))]),
 o1 41 (.append 134 2 16 [(.int .i64 0), (.int .u64 0)] false (tm 38) (tm 40)),
 o1 42 (.fieldAddr 33 (tm 2)),
 o3 (.store 1 (tm 42) (tm 41))])))) (.region [
 o1 43 (.bin .add (so (.binOp .add 3 (tm 29) (.const (.int .i64 1)) 3) 3) (tm 29) (.const (.int .i64 1))),
 o1 29 (.mov (tm 43))]))))
def zoQ_c : ACode :=
 (.seq (.region [
 o1 2 (.alloc 33 ((.int .i64 0) :: (z32 ++ [(.slice none 0 0)]))),
 o1 3 (.alloc 43 [(.int .i64 0), (.int .i64 0)])]) (.seq (.region [
 o1 8 (.mov (tm 0)),
 o1 9 (.callV (.func 32) [(tm 8)]),
 o1 4 (.mov (tm 9))]) (.seq (.region [
 o1 10 (.mov (tm 4)),
 o1 11 (.callV (.func 33) [(tm 10)]),
 o1 12 (.fieldAddr 0 (tm 2)),
 o3 (.store 1 (tm 12) (tm 11))]) (.seq (.region [
 o1 13 (.mov (tm 4)),
 o1 14 (.callV (.func 119) [(tm 13)]),
 o1 15 (.fieldAddr 1 (tm 2)),
 o3 (.store 32 (tm 15) (tm 14))]) (.seq (.region [
 o1 16 (.mov (tm 0)),
 o1 17 (.lenSl (tm 16)),
 o1 18 (.mov (tm 4)),
 o1 19 (.callV (.func 75) [(tm 18)]),
 o1 20 (.bin .sub (so (.binOp .sub 3 (tm 17) (tm 19) 3) 3) (tm 17) (tm 19)),
 o1 5 (.mov (tm 20))]) (.seq (.region [
 o1 21 (.mov (tm 4)),
 o1 22 (.callV (.func 33) [(tm 21)]),
 o1 6 (.mov (tm 22))]) (.seq (.seq (.region [
 o1 23 (.mov (tm 6)),
 o1 24 (.bin .gtr (so (.binOp .gtr 3 (tm 23) (.const (.int .i64 64)) 3) 4) (tm 23) (.const (.int .i64 64)))]) (.cond (tm 24)
 (.seq (.region [
 o1 25 (.build ((.int .i64 0) :: (z32 ++ [(.slice none 0 0)])) []),
 o1 26 (.mov (tm 5)),
 o1 27 (.build [(.int .i64 0), (.int .i64 0)] [(0, 1, (.const (.int .i64 4))), (1, 1, (tm 26))]),
 o3 (.store 34 (tm 2) (tm 25)),
 o3 (.store 2 (tm 3) (tm 27))]) .ret)
 .skip)) (.seq (.seq (.region [
 o1 28 (.mov (tm 6)),
 o1 29 (.mov k0)]) (.block 0 (.loop zoQ_l0))) (.seq (.seq (.region [
 o1 44 (.mov (tm 4)),
 o1 45 (.callV (.func 41) [(tm 44)]),
 o3 (.store 2 (tm 3) (tm 45))]) (.seq (.region [
 o1 46 (.load (some 2) (tm 3)),
 o1 47 (.build [(.int .i64 0), (.int .i64 0)] []),
 o1 48 (.bin .eql (so (.binOp .eql 43 (tm 46) (tm 47) 43) 4) (tm 46) (tm 47))]) (.cond (tm 48)
 (.region [
 o1 49 (.load (some 34) (tm 2)),
 o1 50 (.callV (.func 105) [(tm 49)]),
 o1 51 (.fieldAddr 0 (tm 3)),
 o3 (.store 1 (tm 51) (tm 50))])
 .skip))) (.seq (.seq (.region [
 o1 52 (.load (some 2) (tm 3)),
 o1 53 (.build [(.int .i64 0), (.int .i64 0)] []),
 o1 54 (.bin .neq (so (.binOp .neq 43 (tm 52) (tm 53) 43) 4) (tm 52) (tm 53))]) (.cond (tm 54)
 (.seq (.regionD [
 o1 55 (.build ((.int .i64 0) :: (z32 ++ [(.slice none 0 0)])) []),
 o1 56 (.load (some 2) (tm 3)),
 ⟨none, .store 34 (tm 2) (tm 55), none, [(some 56, .load (some 2) (tm 3), none)], false⟩,
 ⟨none, .store 2 (tm 3) (tm 56), none, [], true⟩]) .ret)
 .skip)) (.seq (.regionD [
 o1 57 (.load (some 34) (tm 2)),
 o1 58 (.load (some 2) (tm 3)),
 ⟨none, .store 34 (tm 2) (tm 57), none, [(some 58, .load (some 2) (tm 3), none)], false⟩,
 ⟨none, .store 2 (tm 3) (tm 58), none, [], true⟩]) .ret)))))))))))
def zoQ : AFunc := ⟨59, [(2, some (some 34)), (3, some (some 2))], zoQ_c, none⟩
theorem zoQ_t0 : tableOf Tryz.prog 83 = some zoQ := by kernel_rfl
theorem zoQ_t : T0 83 = some zoQ := withKept_t rfl (withTrue_t rfl zoQ_t0)
abbrev fn_zfQ : FuncId := 84
def zfQ_c : ACode :=
 (.seq (.region [
 o1 8 (.mov (.const (.slice none 0 0)))]) (.seq (.seq (.region [
 o1 13 (.mov (tm 2)),
 o1 14 (.nilCheck (tm 13)),
 o1 15 (.load (some 2) (tm 14)),
 o1 16 (.build [(.int .i64 0), (.int .i64 0)] []),
 o1 17 (.bin .neq (so (.binOp .neq 43 (tm 15) (tm 16) 43) 4) (tm 15) (tm 16))]) (.cond (tm 17)
 (.seq (.region [
 o1 18 (.mov (tm 8)),
 o1 8 (.mov (tm 18))]) .ret)
 .skip)) (.seq (.region [
 o1 19 (.mov (tm 1)),
 o1 20 (.mov (tm 0)),
 o1 21 (.callV (.func 75) [(tm 20)]),
 o1 22 (.bin .sub (so (.binOp .sub 3 (tm 19) (tm 21) 3) 3) (tm 19) (tm 21)),
 o1 9 (.mov (tm 22))]) (.seq (.region [
 o1 23 (.mov (tm 0)),
 o1 24 (.callV (.func 39) [(tm 23), (.const (.int .i64 65536))]),
 o1 10 (.mov (tm 24))]) (.seq (.seq (.region [
 o1 25 (.mov (tm 0)),
 o1 26 (.callV (.func 75) [(tm 25)]),
 o1 27 (.bin .eql (so (.binOp .eql 3 (tm 26) k0 3) 4) (tm 26) k0),
 o1 28 (.mov (tm 27)),
 o4 29 (.mov (tm 0)) 28,
 o4 30 (.callV (.func 41) [(tm 29)]) 28,
 o4 31 (.build [(.int .i64 0), (.int .i64 0)] []) 28,
 o4 32 (.bin .neq (so (.binOp .neq 43 (tm 30) (tm 31) 43) 4) (tm 30) (tm 31)) 28,
 o1 33 (.pick (tm 28) (tm 32) (.const (.bool false)))]) (.cond (tm 33)
 (.seq (.region [
 o1 34 (.mov (tm 2)),
 o1 35 (.mov (tm 0)),
 o1 36 (.callV (.func 41) [(tm 35)]),
 o1 37 (.nilCheck (tm 34)),
 o3 (.store 2 (tm 37) (tm 36))]) (.seq (.region [
 o1 38 (.mov (tm 8)),
 o1 8 (.mov (tm 38))]) .ret))
 .skip)) (.seq (.region [
 o1 40 (.mov (tm 3)),
 o1 41 (.mov (tm 10)),
 o1 42 (.callV (tm 40) [(tm 41)]),
 o1 39 (.mov (tm 42)),
 o1 43 (.extract 0 (tm 39)),
 o1 44 (.extract 1 (tm 39)),
 o1 12 (.alloc 43 [(.int .i64 0), (.int .i64 0)]),
 o1 11 (.mov (tm 43)),
 o3 (.store 2 (tm 12) (tm 44))]) (.seq (.seq (.region [
 o1 45 (.load (some 2) (tm 12)),
 o1 46 (.build [(.int .i64 0), (.int .i64 0)] []),
 o1 47 (.bin .neq (so (.binOp .neq 43 (tm 45) (tm 46) 43) 4) (tm 45) (tm 46))]) (.cond (tm 47)
 (.seq (.region [
 o1 48 (.mov (tm 2)),
 o1 49 (.mov (tm 9)),
 o1 50 (.build [(.int .i64 0), (.int .i64 0)] [(0, 1, (.const (.int .i64 5))), (1, 1, (tm 49))]),
 o1 51 (.nilCheck (tm 48)),
 o3 (.store 2 (tm 51) (tm 50))]) (.seq (.region [
 o1 52 (.mov (tm 8)),
 o1 8 (.mov (tm 52))]) .ret))
 .skip)) (.seq (.region [
 o1 53 (.mov (tm 11)),
 o1 8 (.mov (tm 53))]) .ret))))))))
def zfQ : AFunc := ⟨54, [(8, none)], zfQ_c, none⟩
theorem zfQ_t0 : tableOf Tryz.prog 84 = some zfQ := by kernel_rfl
theorem zfQ_t : T0 84 = some zfQ := withKept_t rfl (withTrue_t rfl zfQ_t0)
abbrev fn_zlcQ : FuncId := 85
def zlcQ_l0 : ACode :=
 (.seq (.region [
 o1 16 (.bin .lss (so (.binOp .lss 3 (tm 15) (tm 14) 3) 4) (tm 15) (tm 14))]) (.seq (.cond (tm 16)
 .skip
 (.exit 0)) (.seq (.block 1 (.seq (.region [
 o1 17 (.mov (tm 4)),
 o1 18 (.callV (.func 121) [(tm 17)]),
 o1 19 (.build [(.int .u8 0), (.int .u8 0), (.int .u8 0), (.int .u8 0), (.int .i64 0)] [(0, 4, (tm 18))]),
 o1 6 (.alloc 132 [(.int .u8 0), (.int .u8 0), (.int .u8 0), (.int .u8 0), (.int .i64 0)]),
 o3 (.store 5 (tm 6) (tm 19))]) (.seq (.region [
 o1 20 (.mov (tm 4)),
 o1 21 (.callV (.func 33) [(tm 20)]),
 o1 22 (.fieldAddr 4 (tm 6)),
 o3 (.store 1 (tm 22) (tm 21))]) (.region [
 o1 23 (.mov (tm 2)),
 o1 24 (.load (some 5) (tm 6)),
 o1 25 (.buildSlice 132 [(.int .u8 0), (.int .u8 0), (.int .u8 0), (.int .u8 0), (.int .i64 0)] 1 [(0, 5, (tm 24))]),
 o1 26 (.append 132 5 16 [(.int .u8 0), (.int .u8 0), (.int .u8 0), (.int .u8 0), (.int .i64 0)] false (tm 23) (tm 25)),
 o1 2 (.mov (tm 26))])))) (.region [
 o1 27 (.bin .add (so (.binOp .add 3 (tm 15) (.const (.int .i64 1)) 3) 3) (tm 15) (.const (.int .i64 1))),
 o1 15 (.mov (tm 27))]))))
def zlcQ_c : ACode :=
 (.seq (.region [
 o1 2 (.mov (.const (.slice none 0 0))),
 o1 3 (.alloc 43 [(.int .i64 0), (.int .i64 0)])]) (.seq (.region [
 o1 7 (.mov (tm 0)),
 o1 8 (.callV (.func 32) [(tm 7)]),
 o1 4 (.mov (tm 8))]) (.seq (.region [
 o1 9 (.mov (tm 4)),
 o1 10 (.callV (.func 33) [(tm 9)]),
 o1 5 (.mov (tm 10))]) (.seq (.seq (.region [
 o1 11 (.mov (tm 5)),
 o1 12 (.bin .gtr (so (.binOp .gtr 3 (tm 11) (.const (.int .i64 64)) 3) 4) (tm 11) (.const (.int .i64 64)))]) (.cond (tm 12)
 (.seq (.region [
 o1 13 (.build [(.int .i64 0), (.int .i64 0)] [(0, 1, (.const (.int .i64 4)))]),
 o1 2 (.mov (.const (.slice none 0 0))),
 o3 (.store 2 (tm 3) (tm 13))]) .ret)
 .skip)) (.seq (.seq (.region [
 o1 14 (.mov (tm 5)),
 o1 15 (.mov k0)]) (.block 0 (.loop zlcQ_l0))) (.seq (.seq (.region [
 o1 28 (.mov (tm 4)),
 o1 29 (.callV (.func 41) [(tm 28)]),
 o3 (.store 2 (tm 3) (tm 29))]) (.seq (.region [
 o1 30 (.load (some 2) (tm 3)),
 o1 31 (.build [(.int .i64 0), (.int .i64 0)] []),
 o1 32 (.bin .eql (so (.binOp .eql 43 (tm 30) (tm 31) 43) 4) (tm 30) (tm 31))]) (.cond (tm 32)
 (.region [
 o1 33 (.mov (tm 2)),
 o1 34 (.callV (.func 103) [(tm 33)]),
 o1 35 (.fieldAddr 0 (tm 3)),
 o3 (.store 1 (tm 35) (tm 34))])
 .skip))) (.seq (.seq (.region [
 o1 36 (.load (some 2) (tm 3)),
 o1 37 (.build [(.int .i64 0), (.int .i64 0)] []),
 o1 38 (.bin .neq (so (.binOp .neq 43 (tm 36) (tm 37) 43) 4) (tm 36) (tm 37))]) (.cond (tm 38)
 (.seq (.regionD [
 o1 39 (.load (some 2) (tm 3)),
 o1 2 (.mov (.const (.slice none 0 0))),
 ⟨none, .store 2 (tm 3) (tm 39), none, [], true⟩]) .ret)
 .skip)) (.seq (.regionD [
 o1 40 (.mov (tm 2)),
 o1 41 (.load (some 2) (tm 3)),
 ⟨some 2, .mov (tm 40), none, [(some 41, .load (some 2) (tm 3), none)], false⟩,
 ⟨none, .store 2 (tm 3) (tm 41), none, [], true⟩]) .ret))))))))
def zlcQ : AFunc := ⟨42, [(2, none), (3, some (some 2))], zlcQ_c, none⟩
theorem zlcQ_t0 : tableOf Tryz.prog 85 = some zlcQ := by kernel_rfl
theorem zlcQ_t : T0 85 = some zlcQ := withKept_t rfl (withTrue_t rfl zlcQ_t0)
abbrev fn_zdcQ : FuncId := 90
def zdcQ_c : ACode :=
 (.seq (.region [
 o1 2 (.mov (.const .nilIface))]) (.seq (.seq (.region [
 o1 5 (.mov (tm 0))]) (.block 0 (.seq (.region [
 o1 6 (.assertTo 26 (.agg ⟨[(.int .i64 0), (.int .i64 0)]⟩) true (tm 5)),
 o1 7 (.extract 1 (tm 6)),
 o1 8 (.extract 0 (tm 6))]) (.cond (tm 7)
 (.seq (.region [
 o1 3 (.alloc 26 [(.int .i64 0), (.int .i64 0)]),
 o3 (.store 2 (tm 3) (tm 8))]) (.seq (.region [
 o1 9 (.load (some 2) (tm 3)),
 o1 10 (.mkIface 168 (tm 9)),
 o1 2 (.mov (tm 10))]) .ret))
 (.seq (.region [
 o1 11 (.assertTo 38 (.agg ⟨((.int .i64 0) :: ((.string ⟨⟨[]⟩⟩) :: ((.int .i64 0) :: ((.int .i64 0) :: (z32 ++ (z32 ++ (z32 ++ (z32 ++ ((.int .i64 0) :: (z32 ++ [(.slice none 0 0), (.slice none 0 0)]))))))))))⟩) true (tm 5)),
 o1 12 (.extract 1 (tm 11)),
 o1 13 (.extract 0 (tm 11))]) (.cond (tm 12)
 (.seq (.region [
 o1 4 (.alloc 38 ((.int .i64 0) :: ((.string ⟨⟨[]⟩⟩) :: ((.int .i64 0) :: ((.int .i64 0) :: (z32 ++ (z32 ++ (z32 ++ (z32 ++ ((.int .i64 0) :: (z32 ++ [(.slice none 0 0), (.slice none 0 0)]))))))))))),
 o3 (.store 167 (tm 4) (tm 13))]) (.seq (.region [
 o1 14 (.load (some 167) (tm 4)),
 o1 15 (.mkIface 169 (tm 14)),
 o1 2 (.mov (tm 15))]) .ret))
 .skip)))))) (.seq (.region [
 o1 2 (.mov (.const .nilIface))]) .ret)))
def zdcQ : AFunc := ⟨16, [(2, none)], zdcQ_c, none⟩
theorem zdcQ_t0 : tableOf Tryz.prog 90 = some zdcQ := by kernel_rfl
theorem zdcQ_t : T0 90 = some zdcQ := withKept_t rfl (withTrue_t rfl zdcQ_t0)
abbrev fn_zlbQ : FuncId := 98
def zlbQ_l0 : ACode :=
 (.seq (.seq (.region [
 o1 12 (.mov (tm 5)),
 o1 13 (.mov (tm 12)),
 o4 14 (.mov (tm 6)) 13,
 o4 15 (.mov (tm 0)) 13,
 o4 16 (.lenSl (tm 15)) 13,
 o4 17 (.bin .lss (so (.binOp .lss 3 (tm 14) (tm 16) 3) 4) (tm 14) (tm 16)) 13,
 o1 18 (.pick (tm 13) (tm 17) (.const (.bool false)))]) (.cond (tm 18)
 .skip
 (.exit 0))) (.seq (.block 1 (.regionD [
 o1 21 (.mov (tm 0)),
 o1 22 (.mov (tm 6)),
 o1 23 (.indexSl 2 (tm 21) (tm 22)),
 o1 24 (.load (some 2) (tm 23)),
 o1 25 (.mov (tm 1)),
 o1 26 (.mov (tm 6)),
 o1 27 (.indexSl 2 (tm 25) (tm 26)),
 o1 28 (.load (some 2) (tm 27)),
 o2 29 (.bin .eql (so (.binOp .eql 134 (tm 24) (tm 28) 134) 4) (tm 24) (tm 28)),
 o2 5 (.mov (tm 29))])) (.region [
 o1 19 (.mov (tm 6)),
 o1 20 (.bin .add (so (.binOp .add 3 (tm 19) (.const (.int .i64 1)) 3) 3) (tm 19) (.const (.int .i64 1))),
 o1 6 (.mov (tm 20))])))
def zlbQ_c : ACode :=
 (.seq (.region [
 o1 4 (.mov (.const (.bool false)))]) (.seq (.region [
 o1 7 (.mov (tm 0)),
 o1 8 (.lenSl (tm 7)),
 o1 9 (.mov (tm 1)),
 o1 10 (.lenSl (tm 9)),
 o1 11 (.bin .eql (so (.binOp .eql 3 (tm 8) (tm 10) 3) 4) (tm 8) (tm 10)),
 o1 5 (.mov (tm 11))]) (.seq (.seq (.region [
 o1 6 (.mov k0)]) (.block 0 (.loop zlbQ_l0))) (.seq (.region [
 o1 30 (.mov (tm 5)),
 o1 4 (.mov (tm 30))]) .ret))))
def zlbQ : AFunc := ⟨31, [(4, none)], zlbQ_c, none⟩
theorem zlbQ_t0 : tableOf Tryz.prog 98 = some zlbQ := by kernel_rfl
theorem zlbQ_t : T0 98 = some zlbQ := withKept_t rfl (withTrue_t rfl zlbQ_t0)
abbrev fn_zdQ : FuncId := 99
def zdQ_l0 : ACode :=
 (.seq (.region [
 o1 8 (.bin .lss (so (.binOp .lss 3 (tm 7) (tm 6) 3) 0) (tm 7) (tm 6))]) (.seq (.cond (tm 8)
 .skip
 (.exit 0)) (.seq (.block 1 (.seq (.region [
 o1 9 (.indexSl 1 (tm 5) (tm 7)),
 o1 10 (.load none (tm 9)),
 o1 4 (.mov (tm 10))]) (.seq (.region [
 o1 11 (.mov (tm 0)),
 o1 12 (.mov (tm 4)),
 o1 13 (.callV (tm 12) []),
 o1 14 (.callV (tm 11) [(tm 13)]),
 o1 15 (.raw (so (.unOp .not 4 (tm 14)) 4))]) (.cond (tm 15)
 .ret
 .skip)))) (.region [
 o1 16 (.bin .add (so (.binOp .add 3 (tm 7) (.const (.int .i64 1)) 3) 3) (tm 7) (.const (.int .i64 1))),
 o1 7 (.mov (tm 16))]))))
def zdQ_c : ACode :=
 (.seq (.region [
 o1 5 (.load none (tm 1)),
 o1 6 (.lenSl (tm 5)),
 o1 7 (.mov k0)]) (.block 0 (.loop zdQ_l0)))
def zdQ : AFunc := ⟨17, [], zdQ_c, none⟩
theorem zdQ_t0 : tableOf Tryz.prog 99 = some zdQ := by kernel_rfl
theorem zdQ_t : T0 99 = some zdQ := withKept_t rfl (withTrue_t rfl zdQ_t0)
abbrev fn_zjQ : FuncId := 100
def zjQ_c : ACode :=
 (.seq (.region [
 o1 1 (.mov k0)]) (.seq (.region [
 o1 2 (.fieldAddr 0 (tm 0)),
 o1 3 (.load (some 131) (tm 2)),
 o1 4 (.callV (.func 101) [(tm 3)]),
 o1 1 (.mov (tm 4))]) .ret))
def zjQ : AFunc := ⟨5, [(1, none)], zjQ_c, none⟩
theorem zjQ_t0 : tableOf Tryz.prog 100 = some zjQ := by kernel_rfl
theorem zjQ_t : T0 100 = some zjQ := withKept_t rfl (withTrue_t rfl zjQ_t0)
abbrev fn_zsQ : FuncId := 101
def zsQ_l0 : ACode :=
 (.seq (.region [
 o1 8 (.bin .lss (so (.binOp .lss 3 (tm 7) (tm 6) 3) 0) (tm 7) (tm 6))]) (.seq (.cond (tm 8)
 .skip
 (.exit 0)) (.seq (.block 1 (.seq (.region [
 o1 9 (.indexSl 2 (tm 5) (tm 7)),
 o1 10 (.load (some 2) (tm 9)),
 o1 4 (.alloc 175 [.nilFunc, (.int .i64 0)]),
 o3 (.store 2 (tm 4) (tm 10))]) (.seq (.region [
 o1 11 (.fieldAddr 0 (tm 4)),
 o1 12 (.load none (tm 11)),
 o1 13 (.load (some 131) (tm 1)),
 o1 14 (.callV (tm 12) [(tm 13)]),
 o1 15 (.raw (so (.unOp .not 4 (tm 14)) 4))]) (.cond (tm 15)
 (.seq (.region [
 o1 16 (.fieldAddr 1 (tm 4)),
 o1 17 (.load none (tm 16)),
 o1 2 (.mov (tm 17))]) .ret)
 .skip)))) (.region [
 o1 18 (.bin .add (so (.binOp .add 3 (tm 7) (.const (.int .i64 1)) 3) 3) (tm 7) (.const (.int .i64 1))),
 o1 7 (.mov (tm 18))]))))
def zsQ_c : ACode :=
 (.seq (.region [
 o1 1 (.box 30 (tm 0)),
 o1 2 (.mov k0)]) (.seq (.seq (.region [
 o1 5 (.callV (.func 134) []),
 o1 6 (.lenSl (tm 5)),
 o1 7 (.mov k0)]) (.block 0 (.loop zsQ_l0))) (.seq (.region [
 o1 2 (.mov k0)]) .ret)))
def zsQ : AFunc := ⟨19, [(2, none)], zsQ_c, none⟩
theorem zsQ_t0 : tableOf Tryz.prog 101 = some zsQ := by kernel_rfl
theorem zsQ_t : T0 101 = some zsQ := withKept_t rfl (withTrue_t rfl zsQ_t0)
abbrev fn_zkQ : FuncId := 102
def zkQ_c : ACode :=
 (.seq (.region [
 o1 1 (.mov k0)]) (.seq (.region [
 o1 2 (.fieldAddr 165 (tm 0)),
 o1 3 (.load none (tm 2)),
 o1 4 (.callV (.func 103) [(tm 3)]),
 o1 1 (.mov (tm 4))]) .ret))
def zkQ : AFunc := ⟨5, [(1, none)], zkQ_c, none⟩
theorem zkQ_t0 : tableOf Tryz.prog 102 = some zkQ := by kernel_rfl
theorem zkQ_t : T0 102 = some zkQ := withKept_t rfl (withTrue_t rfl zkQ_t0)
abbrev fn_zkcQ : FuncId := 103
def zkcQ_l0 : ACode :=
 (.seq (.region [
 o1 19 (.bin .lss (so (.binOp .lss 3 (tm 18) (tm 17) 3) 0) (tm 18) (tm 17))]) (.seq (.cond (tm 19)
 .skip
 (.exit 1)) (.seq (.block 2 (.seq (.region [
 o1 20 (.indexSl 5 (tm 16) (tm 18)),
 o1 21 (.load (some 5) (tm 20)),
 o1 5 (.alloc 132 [(.int .u8 0), (.int .u8 0), (.int .u8 0), (.int .u8 0), (.int .i64 0)]),
 o3 (.store 5 (tm 5) (tm 21))]) (.seq (.region [
 o1 22 (.load (some 5) (tm 5)),
 o1 23 (.callV (.func 135) [(tm 3), (tm 22)]),
 o1 6 (.mov (tm 23))]) (.seq (.region [
 o1 24 (.mov (tm 6)),
 o1 25 (.bin .neq (so (.binOp .neq 41 (tm 24) k0 41) 4) (tm 24) k0)]) (.cond (tm 25)
 (.seq (.region [
 o1 26 (.mov (tm 6)),
 o1 2 (.mov (tm 26))]) .ret)
 .skip))))) (.region [
 o1 27 (.bin .add (so (.binOp .add 3 (tm 18) (.const (.int .i64 1)) 3) 3) (tm 18) (.const (.int .i64 1))),
 o1 18 (.mov (tm 27))]))))
def zkcQ_c : ACode :=
 (.seq (.region [
 o1 2 (.mov k0)]) (.seq (.block 0 (.seq (.region [
 o1 8 (.mov (tm 0)),
 o1 9 (.lenSl (tm 8)),
 o1 10 (.bin .eql (so (.binOp .eql 3 (tm 9) k0 3) 4) (tm 9) k0),
 o1 7 (.mov (tm 10))]) (.cond (tm 7)
 (.seq (.region [
 o1 2 (.mov (.const (.int .i64 6)))]) .ret)
 (.seq (.region [
 o1 12 (.mov (tm 0)),
 o1 13 (.lenSl (tm 12)),
 o1 14 (.bin .gtr (so (.binOp .gtr 3 (tm 13) (.const (.int .i64 64)) 3) 4) (tm 13) (.const (.int .i64 64))),
 o1 11 (.mov (tm 14))]) (.cond (tm 11)
 (.seq (.region [
 o1 2 (.mov (.const (.int .i64 4)))]) .ret)
 .skip))))) (.seq (.region [
 o1 15 (.build [(.int .u8 0), (.int .u8 0), (.int .u8 0), (.int .u8 0), (.bool false), (.int .i64 0), (.int .i64 0)] [(5, 1, (.const (.int .i64 1))), (6, 1, (.const (.int .i64 4611686018427387904)))]),
 o1 3 (.alloc 177 [(.int .u8 0), (.int .u8 0), (.int .u8 0), (.int .u8 0), (.bool false), (.int .i64 0), (.int .i64 0)]),
 o3 (.store 7 (tm 3) (tm 15))]) (.seq (.seq (.region [
 o1 16 (.mov (tm 0)),
 o1 17 (.lenSl (tm 16)),
 o1 18 (.mov k0)]) (.block 1 (.loop zkcQ_l0))) (.seq (.region [
 o1 2 (.mov k0)]) .ret)))))
def zkcQ : AFunc := ⟨28, [(2, none)], zkcQ_c, none⟩
theorem zkcQ_t0 : tableOf Tryz.prog 103 = some zkcQ := by kernel_rfl
theorem zkcQ_t : T0 103 = some zkcQ := withKept_t rfl (withTrue_t rfl zkcQ_t0)
abbrev fn_zlQ : FuncId := 104
def zlQ_c : ACode :=
 (.seq (.region [
 o1 1 (.mov k0)]) (.seq (.region [
 o1 2 (.fieldAddr 131 (tm 0)),
 o1 3 (.load (some 34) (tm 2)),
 o1 4 (.callV (.func 105) [(tm 3)]),
 o1 1 (.mov (tm 4))]) .ret))
def zlQ : AFunc := ⟨5, [(1, none)], zlQ_c, none⟩
theorem zlQ_t0 : tableOf Tryz.prog 104 = some zlQ := by kernel_rfl
theorem zlQ_t : T0 104 = some zlQ := withKept_t rfl (withTrue_t rfl zlQ_t0)
abbrev fn_znQ : FuncId := 105
def znQ_l0 : ACode :=
 (.seq (.region [
 o1 26 (.bin .lss (so (.binOp .lss 3 (tm 25) (tm 24) 3) 0) (tm 25) (tm 24))]) (.seq (.cond (tm 26)
 .skip
 (.exit 1)) (.seq (.block 2 (.seq (.region [
 o1 27 (.indexSl 2 (tm 23) (tm 25)),
 o1 28 (.load (some 2) (tm 27)),
 o1 5 (.alloc 134 [(.int .i64 0), (.int .u64 0)]),
 o3 (.store 2 (tm 5) (tm 28))]) (.seq (.region [
 o1 29 (.mov (tm 3)),
 o1 30 (.load (some 2) (tm 5)),
 o1 31 (.callV (tm 29) [(tm 30)]),
 o1 6 (.mov (tm 31))]) (.seq (.region [
 o1 32 (.mov (tm 6)),
 o1 33 (.bin .neq (so (.binOp .neq 41 (tm 32) k0 41) 4) (tm 32) k0)]) (.cond (tm 33)
 (.seq (.region [
 o1 34 (.mov (tm 6)),
 o1 2 (.mov (tm 34))]) .ret)
 .skip))))) (.region [
 o1 35 (.bin .add (so (.binOp .add 3 (tm 25) (.const (.int .i64 1)) 3) 3) (tm 25) (.const (.int .i64 1))),
 o1 25 (.mov (tm 35))]))))
def znQ_c : ACode :=
 (.seq (.region [
 o1 1 (.box 33 (tm 0)),
 o1 2 (.mov k0)]) (.seq (.block 0 (.seq (.region [
 o1 8 (.fieldAddr 0 (tm 1)),
 o1 9 (.load none (tm 8)),
 o1 10 (.bin .lss (so (.binOp .lss 3 (tm 9) (.const (.int .i64 1)) 3) 4) (tm 9) (.const (.int .i64 1))),
 o1 11 (.mov (tm 10)),
 o5 12 (.fieldAddr 0 (tm 1)) 11,
 o5 13 (.load none (tm 12)) 11,
 o5 14 (.bin .gtr (so (.binOp .gtr 3 (tm 13) (.const (.int .i64 1073741824)) 3) 4) (tm 13) (.const (.int .i64 1073741824))) 11,
 o1 15 (.pick (tm 11) (.const (.bool true)) (tm 14)),
 o1 7 (.mov (tm 15))]) (.cond (tm 7)
 (.seq (.region [
 o1 2 (.mov (.const (.int .i64 3)))]) .ret)
 (.seq (.region [
 o1 17 (.fieldAddr 33 (tm 1)),
 o1 18 (.load none (tm 17)),
 o1 19 (.lenSl (tm 18)),
 o1 20 (.bin .gtr (so (.binOp .gtr 3 (tm 19) (.const (.int .i64 64)) 3) 4) (tm 19) (.const (.int .i64 64))),
 o1 16 (.mov (tm 20))]) (.cond (tm 16)
 (.seq (.region [
 o1 2 (.mov (.const (.int .i64 4)))]) .ret)
 .skip))))) (.seq (.region [
 o1 21 (.callV (.func 136) []),
 o1 3 (.mov (tm 21))]) (.seq (.seq (.region [
 o1 22 (.fieldAddr 33 (tm 1)),
 o1 23 (.load none (tm 22)),
 o1 24 (.lenSl (tm 23)),
 o1 25 (.mov k0)]) (.block 1 (.loop znQ_l0))) (.seq (.region [
 o1 2 (.mov k0)]) .ret)))))
def znQ : AFunc := ⟨36, [(2, none)], znQ_c, none⟩
theorem znQ_t0 : tableOf Tryz.prog 105 = some znQ := by kernel_rfl
theorem znQ_t : T0 105 = some znQ := withKept_t rfl (withTrue_t rfl znQ_t0)
abbrev fn_zmdQ : FuncId := 106
def zmdQ_c : ACode :=
 (.seq (.region [
 o1 4 (.mov k0)]) (.seq (.region [
 o1 5 (.mov (tm 0)),
 o1 6 (.mov (tm 1)),
 o1 7 (.strToBytes 5 (tm 6)),
 o1 8 (.callV (.func 69) [(tm 5), (tm 7)]),
 o1 4 (.mov (tm 8))]) .ret))
def zmdQ : AFunc := ⟨9, [(4, none)], zmdQ_c, none⟩
theorem zmdQ_t0 : tableOf Tryz.prog 106 = some zmdQ := by kernel_rfl
theorem zmdQ_t : T0 106 = some zmdQ := withKept_t rfl (withTrue_t rfl zmdQ_t0)
abbrev fn_zldQ : FuncId := 107
def zldQ_c : ACode :=
 (.seq (.region [
 o1 4 (.mov k0)]) (.seq (.region [
 o1 5 (.mov (tm 0)),
 o1 6 (.mov (tm 1)),
 o1 7 (.bin .geq (so (.binOp .geq 3 (tm 6) k0 3) 4) (tm 6) k0),
 o1 8 (.mov (tm 1)),
 o1 9 (.raw (so (.call ⟨.builtin .max, #[(tm 8), k0], #[3, 3]⟩) 3)),
 o1 10 (.callV (.func 113) [(tm 9)]),
 o1 11 (.buildSlice 22 [(.slice none 0 0)] 1 [(0, 1, (tm 10))]),
 o1 12 (.callV (.func 112) [(tm 5), (tm 7), (tm 11)]),
 o1 4 (.mov (tm 12))]) .ret))
def zldQ : AFunc := ⟨13, [(4, none)], zldQ_c, none⟩
theorem zldQ_t0 : tableOf Tryz.prog 107 = some zldQ := by kernel_rfl
theorem zldQ_t : T0 107 = some zldQ := withKept_t rfl (withTrue_t rfl zldQ_t0)
abbrev fn_zxQ : FuncId := 108
def zxQ_c : ACode :=
 (.seq (.region [
 o1 2 (.alloc 152 [(.pointer none), (.pointer none), (.pointer none), (.pointer none)])]) (.seq (.regionD [
 o1 3 (.mov (tm 0)),
 o1 4 (.nilCheck (tm 3)),
 o1 5 (.fieldAddr 3 (tm 4)),
 o1 6 (.mov (tm 0)),
 o1 7 (.nilCheck (tm 6)),
 o1 8 (.fieldAddr 35 (tm 7)),
 o1 9 (.mov (tm 0)),
 o1 10 (.nilCheck (tm 9)),
 o1 11 (.fieldAddr 67 (tm 10)),
 o1 12 (.mov (tm 0)),
 o1 13 (.nilCheck (tm 12)),
 o1 14 (.fieldAddr 99 (tm 13)),
 o2 15 (.build [(.pointer none), (.pointer none), (.pointer none), (.pointer none)] [(0, 1, (tm 5)), (1, 1, (tm 8)), (2, 1, (tm 11)), (3, 1, (tm 14))]),
 ⟨none, .store 4 (tm 2) (tm 15), none, [], true⟩]) .ret))
def zxQ : AFunc := ⟨16, [(2, some (some 4))], zxQ_c, none⟩
theorem zxQ_t0 : tableOf Tryz.prog 108 = some zxQ := by kernel_rfl
theorem zxQ_t : T0 108 = some zxQ := withKept_t rfl (withTrue_t rfl zxQ_t0)
abbrev fn_zjdQ : FuncId := 109
def zjdQ_c : ACode :=
 (.seq (.region [
 o1 3 (.box 28 (tm 1)),
 o1 4 (.mov k0)]) (.seq (.region [
 o1 5 (.mov (tm 0)),
 o1 6 (.sliceArr 32 1 (tm 3) none none),
 o1 7 (.buildSlice 22 [(.slice none 0 0)] 1 [(0, 1, (tm 6))]),
 o1 8 (.callV (.func 112) [(tm 5), (.const (.bool true)), (tm 7)]),
 o1 4 (.mov (tm 8))]) .ret))
def zjdQ : AFunc := ⟨9, [(4, none)], zjdQ_c, none⟩
theorem zjdQ_t0 : tableOf Tryz.prog 109 = some zjdQ := by kernel_rfl
theorem zjdQ_t : T0 109 = some zjdQ := withKept_t rfl (withTrue_t rfl zjdQ_t0)
abbrev fn_zndQ : FuncId := 110
def zndQ_c : ACode :=
 (.seq (.region [
 o1 4 (.mov k0)]) (.seq (.region [
 o1 6 (.mov (tm 1)),
 o1 7 (.callV (.func 137) [(tm 6)]),
 o1 5 (.alloc 181 [(.int .u8 0), (.int .u8 0), (.int .u8 0), (.int .u8 0), (.int .u8 0), (.int .u8 0), (.int .u8 0), (.int .u8 0)]),
 o3 (.store 8 (tm 5) (tm 7))]) (.seq (.region [
 o1 8 (.mov (tm 0)),
 o1 9 (.sliceArr 8 1 (tm 5) none none),
 o1 10 (.buildSlice 22 [(.slice none 0 0)] 1 [(0, 1, (tm 9))]),
 o1 11 (.callV (.func 112) [(tm 8), (.const (.bool true)), (tm 10)]),
 o1 4 (.mov (tm 11))]) .ret)))
def zndQ : AFunc := ⟨12, [(4, none)], zndQ_c, none⟩
theorem zndQ_t0 : tableOf Tryz.prog 110 = some zndQ := by kernel_rfl
theorem zndQ_t : T0 110 = some zndQ := withKept_t rfl (withTrue_t rfl zndQ_t0)
abbrev fn_zkdQ : FuncId := 111
def zkdQ_c : ACode :=
 (.seq (.region [
 o1 3 (.box 130 (tm 1)),
 o1 4 (.mov k0)]) (.seq (.region [
 o1 5 (.mov (tm 0)),
 o1 6 (.sliceArr 4 1 (tm 3) none none),
 o1 7 (.buildSlice 22 [(.slice none 0 0)] 1 [(0, 1, (tm 6))]),
 o1 8 (.callV (.func 112) [(tm 5), (.const (.bool true)), (tm 7)]),
 o1 4 (.mov (tm 8))]) .ret))
def zkdQ : AFunc := ⟨9, [(4, none)], zkdQ_c, none⟩
theorem zkdQ_t0 : tableOf Tryz.prog 111 = some zkdQ := by kernel_rfl
theorem zkdQ_t : T0 111 = some zkdQ := withKept_t rfl (withTrue_t rfl zkdQ_t0)
abbrev fn_zodQ : FuncId := 112
def zodQ_c : ACode :=
 (.seq (.region [
 o1 6 (.mov k0)]) (.seq (.seq (.region [
 o1 8 (.mov (tm 0)),
 o1 9 (.eq .ptr false (so (.binOp .eql 103 (tm 8) (.const (.pointer none)) 103) 4) (tm 8) (.const (.pointer none))),
 o1 10 (.mov (tm 9)),
 o5 11 (.mov (tm 0)) 10,
 o5 12 (.nilCheck (tm 11)) 10,
 o5 13 (.fieldAddr 3 (tm 12)) 10,
 o5 14 (.load none (tm 13)) 10,
 o5 15 (.raw (so (.unOp .not 4 (tm 14)) 4)) 10,
 o1 16 (.pick (tm 10) (.const (.bool true)) (tm 15))]) (.cond (tm 16)
 (.seq (.region [
 o1 6 (.mov (.const (.int .i64 1)))]) .ret)
 .skip)) (.seq (.region [
 o1 17 (.mov (tm 2)),
 o1 18 (.callV (.func 138) [(tm 17)]),
 o1 7 (.mov (tm 18))]) (.seq (.block 0 (.seq (.region [
 o1 29 (.mov (tm 0)),
 o1 30 (.nilCheck (tm 29)),
 o1 31 (.fieldAddr 2 (tm 30)),
 o1 32 (.load none (tm 31)),
 o1 33 (.bin .neq (so (.binOp .neq 41 (tm 32) k0 41) 4) (tm 32) k0),
 o1 28 (.mov (tm 33))]) (.cond (tm 28)
 .skip
 (.seq (.region [
 o1 35 (.mov (tm 1)),
 o1 36 (.raw (so (.unOp .not 4 (tm 35)) 4)),
 o1 34 (.mov (tm 36))]) (.cond (tm 34)
 (.region [
 o1 37 (.mov (tm 0)),
 o1 38 (.nilCheck (tm 37)),
 o1 39 (.fieldAddr 2 (tm 38)),
 o3 (.store 1 (tm 39) (.const (.int .i64 3)))])
 (.seq (.regionD [
 o1 41 (.mov (tm 0)),
 o1 42 (.nilCheck (tm 41)),
 o1 43 (.fieldAddr 1 (tm 42)),
 o1 44 (.load none (tm 43)),
 o1 45 (.lenSl (tm 44)),
 o1 46 (.mov (tm 7)),
 o1 47 (.lenSl (tm 46)),
 o1 48 (.bin .add (so (.binOp .add 3 (tm 45) (tm 47) 3) 3) (tm 45) (tm 47)),
 o1 49 (.mov (tm 0)),
 o1 50 (.nilCheck (tm 49)),
 o1 51 (.fieldAddr 0 (tm 50)),
 o1 52 (.load none (tm 51)),
 o2 53 (.bin .gtr (so (.binOp .gtr 3 (tm 48) (tm 52) 3) 4) (tm 48) (tm 52)),
 o2 40 (.mov (tm 53))]) (.cond (tm 40)
 (.region [
 o1 54 (.mov (tm 0)),
 o1 55 (.nilCheck (tm 54)),
 o1 56 (.fieldAddr 2 (tm 55)),
 o3 (.store 1 (tm 56) (.const (.int .i64 4)))])
 (.region [
 o1 19 (.mov (tm 0)),
 o1 20 (.mov (tm 0)),
 o1 21 (.nilCheck (tm 20)),
 o1 22 (.fieldAddr 1 (tm 21)),
 o1 23 (.load none (tm 22)),
 o1 24 (.mov (tm 7)),
 o1 25 (.append 5 1 1 [(.int .u8 0)] false (tm 23) (tm 24)),
 o1 26 (.nilCheck (tm 19)),
 o1 27 (.fieldAddr 1 (tm 26)),
 o3 (.store 1 (tm 27) (tm 25))])))))))) (.seq (.region [
 o1 57 (.mov (tm 0)),
 o1 58 (.nilCheck (tm 57)),
 o1 59 (.fieldAddr 2 (tm 58)),
 o1 60 (.load none (tm 59)),
 o1 6 (.mov (tm 60))]) .ret)))))
def zodQ : AFunc := ⟨61, [(6, none)], zodQ_c, none⟩
theorem zodQ_t0 : tableOf Tryz.prog 112 = some zodQ := by kernel_rfl
theorem zodQ_t : T0 112 = some zodQ := withKept_t rfl (withTrue_t rfl zodQ_t0)
abbrev fn_zrdQ : FuncId := 113
def zrdQ_l0 : ACode :=
 (.seq (.seq (.region [
 o1 5 (.mov (tm 0)),
 o1 6 (.bin .gtr (so (.binOp .gtr 3 (tm 5) k0 3) 4) (tm 5) k0)]) (.cond (tm 6)
 .skip
 (.exit 0))) (.seq (.block 1 (.seq (.region [
 o1 9 (.mov (tm 4)),
 o1 10 (.bin .sub (so (.binOp .sub 3 (.const (.int .i64 8)) (tm 9) 3) 3) (.const (.int .i64 8)) (tm 9)),
 o1 11 (.mov (tm 0)),
 o1 12 (.conv .u8 (so (.convert 3 5 (tm 11)) 5) (tm 11)),
 o1 13 (.indexArr 9 1 (tm 3) (tm 10)),
 o3 (.store 1 (tm 13) (tm 12))]) (.region [
 o1 14 (.mov (tm 4)),
 o1 15 (.bin .add (so (.binOp .add 3 (tm 14) (.const (.int .i64 1)) 3) 3) (tm 14) (.const (.int .i64 1))),
 o1 4 (.mov (tm 15))]))) (.region [
 o1 7 (.mov (tm 0)),
 o1 8 (.bin .shr (so (.binOp .shr 3 (tm 7) (.const (.int .u64 8)) 125) 3) (tm 7) (.const (.int .u64 8))),
 o1 0 (.mov (tm 8))])))
def zrdQ_c : ACode :=
 (.seq (.region [
 o1 2 (.mov (.const (.slice none 0 0)))]) (.seq (.region [
 o1 3 (.alloc 185 [(.int .u8 0), (.int .u8 0), (.int .u8 0), (.int .u8 0), (.int .u8 0), (.int .u8 0), (.int .u8 0), (.int .u8 0), (.int .u8 0)])]) (.seq (.region [
 o1 4 (.mov k0)]) (.seq (.block 0 (.loop zrdQ_l0)) (.seq (.region [
 o1 16 (.mov (tm 4)),
 o1 17 (.bin .sub (so (.binOp .sub 3 (.const (.int .i64 8)) (tm 16) 3) 3) (.const (.int .i64 8)) (tm 16)),
 o1 18 (.mov (tm 4)),
 o1 19 (.conv .u8 (so (.convert 3 5 (tm 18)) 5) (tm 18)),
 o1 20 (.indexArr 9 1 (tm 3) (tm 17)),
 o3 (.store 1 (tm 20) (tm 19))]) (.seq (.region [
 o1 21 (.mov (tm 4)),
 o1 22 (.bin .sub (so (.binOp .sub 3 (.const (.int .i64 8)) (tm 21) 3) 3) (.const (.int .i64 8)) (tm 21)),
 o1 23 (.sliceArr 9 1 (tm 3) (some (tm 22)) none),
 o1 2 (.mov (tm 23))]) .ret))))))
def zrdQ : AFunc := ⟨24, [(2, none)], zrdQ_c, none⟩
theorem zrdQ_t0 : tableOf Tryz.prog 113 = some zrdQ := by kernel_rfl
theorem zrdQ_t : T0 113 = some zrdQ := withKept_t rfl (withTrue_t rfl zrdQ_t0)
abbrev fn_zedQ : FuncId := 114
def zedQ_c : ACode :=
 (.seq (.region [
 o1 5 (.recover),
 o1 2 (.mov (tm 5))]) (.seq (.region [
 o1 6 (.mov (tm 2)),
 o1 7 (.eq .iface true (so (.binOp .neq 20 (tm 6) (.const .nilIface) 20) 4) (tm 6) (.const .nilIface))]) (.cond (tm 7)
 (.seq (.region [
 o1 9 (.mov (tm 2)),
 o1 10 (.assertTo 162 (.agg ⟨[(.int .i64 0), (.int .i64 0)]⟩) true (tm 9)),
 o1 8 (.mov (tm 10)),
 o1 11 (.extract 0 (tm 8)),
 o1 12 (.extract 1 (tm 8)),
 o1 3 (.alloc 162 [(.int .i64 0), (.int .i64 0)]),
 o3 (.store 2 (tm 3) (tm 11)),
 o1 4 (.mov (tm 12))]) (.seq (.seq (.region [
 o1 13 (.mov (tm 4)),
 o1 14 (.raw (so (.unOp .not 4 (tm 13)) 4))]) (.cond (tm 14)
 (.region [
 o1 15 (.mov (tm 2)),
 o3 (.panic (tm 15))])
 .skip)) (.region [
 o1 16 (.mov (tm 0)),
 o1 17 (.fieldAddr 0 (tm 3)),
 o1 18 (.load (some 2) (tm 17)),
 o1 19 (.nilCheck (tm 16)),
 o1 20 (.fieldAddr 2 (tm 19)),
 o3 (.store 2 (tm 20) (tm 18))])))
 .skip)))
def zedQ : AFunc := ⟨21, [], zedQ_c, none⟩
theorem zedQ_t0 : tableOf Tryz.prog 114 = some zedQ := by kernel_rfl
theorem zedQ_t : T0 114 = some zedQ := withKept_t rfl (withTrue_t rfl zedQ_t0)
abbrev fn_zaeQ : FuncId := 115
def zaeQ_c : ACode :=
 (.seq (.region [
 o1 8 (.mov (.const (.int .u64 0)))]) (.seq (.regionD [
 o1 9 (.mov (tm 1)),
 o1 10 (.mov (tm 0)),
 o1 11 (.nilCheck (tm 10)),
 o1 12 (.fieldAddr 0 (tm 11)),
 o1 13 (.load none (tm 12)),
 o1 14 (.lenSl (tm 13)),
 o1 15 (.mov (tm 0)),
 o1 16 (.nilCheck (tm 15)),
 o1 17 (.fieldAddr 1 (tm 16)),
 o1 18 (.load none (tm 17)),
 o1 19 (.bin .sub (so (.binOp .sub 3 (tm 14) (tm 18) 3) 3) (tm 14) (tm 18)),
 o1 20 (.bin .leq (so (.binOp .leq 3 (tm 9) (tm 19) 3) 4) (tm 9) (tm 19)),
 o1 21 (.mov (tm 2)),
 o2 22 (.callV (.func 78) [(tm 20), (.const (.int .i64 6)), (tm 21)])]) (.seq (.region [
 o1 23 (.mov (tm 0)),
 o1 24 (.nilCheck (tm 23)),
 o1 25 (.fieldAddr 1 (tm 24)),
 o1 26 (.load none (tm 25)),
 o1 27 (.mov (tm 1)),
 o1 28 (.bin .add (so (.binOp .add 3 (tm 26) (tm 27) 3) 3) (tm 26) (tm 27)),
 o1 29 (.nilCheck (tm 23)),
 o1 30 (.fieldAddr 1 (tm 29)),
 o3 (.store 1 (tm 30) (tm 28))]) (.seq (.regionD [
 o1 31 (.mov (tm 3)),
 o1 32 (.mov (tm 0)),
 o1 33 (.nilCheck (tm 32)),
 o1 34 (.fieldAddr 0 (tm 33)),
 o1 35 (.load none (tm 34)),
 o1 36 (.mov (tm 0)),
 o1 37 (.nilCheck (tm 36)),
 o1 38 (.fieldAddr 1 (tm 37)),
 o1 39 (.load none (tm 38)),
 o1 40 (.mov (tm 1)),
 o1 41 (.bin .sub (so (.binOp .sub 3 (tm 39) (tm 40) 3) 3) (tm 39) (tm 40)),
 o1 42 (.mov (tm 0)),
 o1 43 (.nilCheck (tm 42)),
 o1 44 (.fieldAddr 1 (tm 43)),
 o1 45 (.load none (tm 44)),
 o1 46 (.sliceSl 1 (tm 35) (some (tm 41)) (some (tm 45)) none),
 o2 47 (.callV (tm 31) [(tm 46)]),
 o2 8 (.mov (tm 47))]) .ret))))
def zaeQ : AFunc := ⟨48, [(8, none)], zaeQ_c, none⟩
theorem zaeQ_t0 : tableOf Tryz.prog 115 = some zaeQ := by kernel_rfl
theorem zaeQ_t : T0 115 = some zaeQ := withKept_t rfl (withTrue_t rfl zaeQ_t0)
abbrev fn_zpdQ : FuncId := 116
def zpdQ_l0 : ACode :=
 (.seq (.region [
 o1 8 (.bin .lss (so (.binOp .lss 3 (tm 7) (tm 6) 3) 0) (tm 7) (tm 6))]) (.seq (.cond (tm 8)
 .skip
 (.exit 0)) (.seq (.block 1 (.seq (.region [
 o1 9 (.indexSl 1 (tm 5) (tm 7)),
 o1 10 (.load none (tm 9)),
 o1 4 (.mov (tm 10))]) (.region [
 o1 11 (.mov (tm 2)),
 o1 12 (.bin .shl (so (.binOp .shl 124 (tm 11) (.const (.int .u64 8)) 125) 124) (tm 11) (.const (.int .u64 8))),
 o1 13 (.mov (tm 4)),
 o1 14 (.conv .u64 (so (.convert 5 124 (tm 13)) 124) (tm 13)),
 o1 15 (.bin .or (so (.binOp .or 124 (tm 12) (tm 14) 124) 124) (tm 12) (tm 14)),
 o1 2 (.mov (tm 15))]))) (.region [
 o1 16 (.bin .add (so (.binOp .add 3 (tm 7) (.const (.int .i64 1)) 3) 3) (tm 7) (.const (.int .i64 1))),
 o1 7 (.mov (tm 16))]))))
def zpdQ_c : ACode :=
 (.seq (.region [
 o1 2 (.mov (.const (.int .u64 0)))]) (.seq (.seq (.region [
 o1 5 (.mov (tm 0)),
 o1 6 (.lenSl (tm 5)),
 o1 7 (.mov k0)]) (.block 0 (.loop zpdQ_l0))) (.seq (.region [
 o1 17 (.mov (tm 2)),
 o1 2 (.mov (tm 17))]) .ret)))
def zpdQ : AFunc := ⟨18, [(2, none)], zpdQ_c, none⟩
theorem zpdQ_t0 : tableOf Tryz.prog 116 = some zpdQ := by kernel_rfl
theorem zpdQ_t : T0 116 = some zpdQ := withKept_t rfl (withTrue_t rfl zpdQ_t0)
abbrev fn_zgdQ : FuncId := 117
def zgdQ_c : ACode :=
 (.seq (.region [
 o1 4 (.mov (.const (.int .u64 0)))]) (.seq (.seq (.region [
 o1 5 (.load none (tm 1)),
 o1 6 (.bin .gtr (so (.binOp .gtr 3 (tm 5) k0 3) 4) (tm 5) k0)]) (.cond (tm 6)
 (.region [
 o1 7 (.mov (tm 0)),
 o1 8 (.indexSl 1 (tm 7) k0),
 o1 9 (.load none (tm 8)),
 o3 (.store 1 (tm 2) (tm 9))])
 .skip)) (.seq (.region [
 o1 10 (.mov (tm 0)),
 o1 11 (.callV (.func 116) [(tm 10)]),
 o1 4 (.mov (tm 11))]) .ret)))
def zgdQ : AFunc := ⟨12, [(4, none)], zgdQ_c, none⟩
theorem zgdQ_t0 : tableOf Tryz.prog 117 = some zgdQ := by kernel_rfl
theorem zgdQ_t : T0 117 = some zgdQ := withKept_t rfl (withTrue_t rfl zgdQ_t0)
abbrev fn_zbdQ : FuncId := 118
def zbdQ_c : ACode :=
 (.seq (.region [
 o1 4 (.mov (.const (.string ⟨⟨[]⟩⟩)))]) (.seq (.region [
 o1 5 (.mov (tm 0)),
 o1 6 (.mov (tm 1)),
 o1 7 (.callV (.func 39) [(tm 5), (tm 6)]),
 o1 8 (.bytesToStr (tm 7)),
 o1 4 (.mov (tm 8))]) .ret))
def zbdQ : AFunc := ⟨9, [(4, none)], zbdQ_c, none⟩
theorem zbdQ_t0 : tableOf Tryz.prog 118 = some zbdQ := by kernel_rfl
theorem zbdQ_t : T0 118 = some zbdQ := withKept_t rfl (withTrue_t rfl zbdQ_t0)
abbrev fn_ztcQ : FuncId := 119
def ztcQ_c : ACode :=
 (.seq (.region [
 o1 1 (.box 69 (tm 0)),
 o1 2 (.alloc 28 z32)]) (.seq (.region [
 o1 3 (.load none (tm 1)),
 o1 4 (.mkFunc (.func 140) [] [(tm 1)]),
 o1 5 (.callV (.func 139) [(tm 3), (tm 4)]),
 o3 (.store 32 (tm 2) (tm 5))]) .ret))
def ztcQ : AFunc := ⟨6, [(2, some (some 32))], ztcQ_c, none⟩
theorem ztcQ_t0 : tableOf Tryz.prog 119 = some ztcQ := by kernel_rfl
theorem ztcQ_t : T0 119 = some ztcQ := withKept_t rfl (withTrue_t rfl ztcQ_t0)
abbrev fn_zcdQ : FuncId := 120
def zcdQ_c : ACode :=
 (.seq (.region [
 o1 1 (.box 69 (tm 0)),
 o1 2 (.mov (.const (.int .u64 0)))]) (.seq (.region [
 o1 3 (.load none (tm 1)),
 o1 4 (.mkFunc (.func 144) [] [(tm 1)]),
 o1 5 (.callV (.func 143) [(tm 3), (tm 4)]),
 o1 2 (.mov (tm 5))]) .ret))
def zcdQ : AFunc := ⟨6, [(2, none)], zcdQ_c, none⟩
theorem zcdQ_t0 : tableOf Tryz.prog 120 = some zcdQ := by kernel_rfl
theorem zcdQ_t : T0 120 = some zcdQ := withKept_t rfl (withTrue_t rfl zcdQ_t0)
abbrev fn_zwcQ : FuncId := 121
def zwcQ_c : ACode :=
 (.seq (.region [
 o1 1 (.box 69 (tm 0)),
 o1 2 (.alloc 130 [(.int .u8 0), (.int .u8 0), (.int .u8 0), (.int .u8 0)])]) (.seq (.region [
 o1 3 (.load none (tm 1)),
 o1 4 (.mkFunc (.func 146) [] [(tm 1)]),
 o1 5 (.callV (.func 145) [(tm 3), (tm 4)]),
 o3 (.store 4 (tm 2) (tm 5))]) .ret))
def zwcQ : AFunc := ⟨6, [(2, some (some 4))], zwcQ_c, none⟩
theorem zwcQ_t0 : tableOf Tryz.prog 121 = some zwcQ := by kernel_rfl
theorem zwcQ_t : T0 121 = some zwcQ := withKept_t rfl (withTrue_t rfl zwcQ_t0)
abbrev fn_zzQ : FuncId := 134
def zzQ_c : ACode :=
 (.seq (.region [
 o1 0 (.mov (.const (.slice none 0 0)))]) (.seq (.region [
 o1 1 (.build [.nilFunc, (.int .i64 0)] [(0, 1, (.func 154)), (1, 1, (.const (.int .i64 5)))]),
 o1 2 (.build [.nilFunc, (.int .i64 0)] [(0, 1, (.func 156)), (1, 1, (.const (.int .i64 3)))]),
 o1 3 (.build [.nilFunc, (.int .i64 0)] [(0, 1, (.func 157)), (1, 1, (.const (.int .i64 3)))]),
 o1 4 (.buildSlice 175 [.nilFunc, (.int .i64 0), .nilFunc, (.int .i64 0), .nilFunc, (.int .i64 0)] 3 [(0, 2, (tm 1)), (2, 2, (tm 2)), (4, 2, (tm 3))]),
 o1 0 (.mov (tm 4))]) .ret))
def zzQ : AFunc := ⟨5, [(0, none)], zzQ_c, none⟩
theorem zzQ_t0 : tableOf Tryz.prog 134 = some zzQ := by kernel_rfl
theorem zzQ_t : T0 134 = some zzQ := withKept_t rfl (withTrue_t rfl zzQ_t0)
abbrev fn_zncQ : FuncId := 135
def zncQ_c : ACode :=
 (.seq (.region [
 o1 3 (.box 132 (tm 1)),
 o1 4 (.mov k0)]) (.seq (.regionD [
 o2 6 (.mov (tm 0)),
 o2 7 (.nilCheck (tm 6)),
 o2 8 (.fieldAddr 4 (tm 7)),
 o2 9 (.load none (tm 8)),
 o2 10 (.mov (tm 9)),
 o4 11 (.mov (tm 0)) 10,
 o4 12 (.nilCheck (tm 11)) 10,
 o4 13 (.fieldAddr 0 (tm 12)) 10,
 o4 14 (.sliceArr 4 1 (tm 13) none none) 10,
 o4 15 (.fieldAddr 0 (tm 3)) 10,
 o4 16 (.sliceArr 4 1 (tm 15) none none) 10,
 ⟨some 17, .callV (.func 158) [(tm 14), (tm 16)], some (10, true), [], true⟩,
 ⟨some 18, .bin .geq (so (.binOp .geq 3 (tm 17) k0 3) 4) (tm 17) k0, some (10, true), [], true⟩,
 o2 19 (.pick (tm 10) (tm 18) (.const (.bool false))),
 o2 5 (.mov (tm 19))]) (.seq (.region [
 o1 20 (.mov (tm 0)),
 o1 21 (.mov (tm 0)),
 o1 22 (.fieldAddr 0 (tm 3)),
 o1 23 (.load (some 4) (tm 22)),
 o1 24 (.nilCheck (tm 20)),
 o1 25 (.fieldAddr 0 (tm 24)),
 o3 (.store 4 (tm 25) (tm 23)),
 o1 26 (.nilCheck (tm 21)),
 o1 27 (.fieldAddr 4 (tm 26)),
 o3 (.store 1 (tm 27) (.const (.bool true)))]) (.seq (.block 0 (.seq (.region [
 o1 29 (.mov (tm 5)),
 o1 28 (.mov (tm 29))]) (.cond (tm 28)
 (.seq (.region [
 o1 4 (.mov (.const (.int .i64 9)))]) .ret)
 (.seq (.regionD [
 o1 31 (.fieldAddr 4 (tm 3)),
 o1 32 (.load none (tm 31)),
 o1 33 (.mov (tm 0)),
 o1 34 (.nilCheck (tm 33)),
 o1 35 (.fieldAddr 5 (tm 34)),
 o1 36 (.load none (tm 35)),
 o2 37 (.bin .lss (so (.binOp .lss 3 (tm 32) (tm 36) 3) 4) (tm 32) (tm 36)),
 o2 38 (.mov (tm 37)),
 o5 39 (.fieldAddr 4 (tm 3)) 38,
 o5 40 (.load none (tm 39)) 38,
 o5 41 (.mov (tm 0)) 38,
 o5 42 (.nilCheck (tm 41)) 38,
 o5 43 (.fieldAddr 6 (tm 42)) 38,
 o5 44 (.load none (tm 43)) 38,
 ⟨some 45, .bin .gtr (so (.binOp .gtr 3 (tm 40) (tm 44) 3) 4) (tm 40) (tm 44), some (38, false), [], true⟩,
 o2 46 (.pick (tm 38) (.const (.bool true)) (tm 45)),
 o2 30 (.mov (tm 46))]) (.cond (tm 30)
 (.seq (.region [
 o1 4 (.mov (.const (.int .i64 3)))]) .ret)
 .skip))))) (.seq (.region [
 o1 4 (.mov k0)]) .ret)))))
def zncQ : AFunc := ⟨47, [(4, none)], zncQ_c, none⟩
theorem zncQ_t0 : tableOf Tryz.prog 135 = some zncQ := by kernel_rfl
theorem zncQ_t : T0 135 = some zncQ := withKept_t rfl (withTrue_t rfl zncQ_t0)
abbrev fn_zqQ : FuncId := 136
def zqQ_c : ACode :=
 (.seq (.region [
 o1 0 (.mov (.const .nilFunc))]) (.seq (.region [
 o1 1 (.alloc 3 [(.int .i64 0)]),
 o3 (.store 1 (tm 1) (.const (.int .i64 (-1))))]) (.seq (.region [
 o1 2 (.mkFunc (.func 159) [] [(tm 1)]),
 o1 0 (.mov (tm 2))]) .ret)))
def zqQ : AFunc := ⟨3, [(0, none)], zqQ_c, none⟩
theorem zqQ_t0 : tableOf Tryz.prog 136 = some zqQ := by kernel_rfl
theorem zqQ_t : T0 136 = some zqQ := withKept_t rfl (withTrue_t rfl zqQ_t0)
abbrev fn_zbeQ : FuncId := 137
def zbeQ_l0 : ACode :=
 (.seq (.region [
 o1 6 (.bin .lss (so (.binOp .lss 3 (tm 5) (.const (.int .i64 8)) 3) 4) (tm 5) (.const (.int .i64 8)))]) (.seq (.cond (tm 6)
 .skip
 (.exit 0)) (.seq (.block 1 (.seq (.region [
 o1 7 (.mov (tm 5)),
 o1 4 (.mov (tm 7))]) (.region [
 o1 8 (.mov (tm 4)),
 o1 9 (.bin .sub (so (.binOp .sub 3 (.const (.int .i64 7)) (tm 8) 3) 3) (.const (.int .i64 7)) (tm 8)),
 o1 10 (.mov (tm 0)),
 o1 11 (.mov (tm 4)),
 o1 12 (.bin .mul (so (.binOp .mul 3 (.const (.int .i64 8)) (tm 11) 3) 3) (.const (.int .i64 8)) (tm 11)),
 o1 13 (.bin .shr (so (.binOp .shr 124 (tm 10) (tm 12) 3) 124) (tm 10) (tm 12)),
 o1 14 (.conv .u8 (so (.convert 124 5 (tm 13)) 5) (tm 13)),
 o1 15 (.indexArr 8 1 (tm 3) (tm 9)),
 o3 (.store 1 (tm 15) (tm 14))]))) (.region [
 o1 16 (.bin .add (so (.binOp .add 3 (tm 5) (.const (.int .i64 1)) 3) 3) (tm 5) (.const (.int .i64 1))),
 o1 5 (.mov (tm 16))]))))
def zbeQ_c : ACode :=
 (.seq (.region [
 o1 2 (.alloc 181 [(.int .u8 0), (.int .u8 0), (.int .u8 0), (.int .u8 0), (.int .u8 0), (.int .u8 0), (.int .u8 0), (.int .u8 0)])]) (.seq (.region [
 o1 3 (.alloc 181 [(.int .u8 0), (.int .u8 0), (.int .u8 0), (.int .u8 0), (.int .u8 0), (.int .u8 0), (.int .u8 0), (.int .u8 0)])]) (.seq (.seq (.region [
 o1 5 (.mov k0)]) (.block 0 (.loop zbeQ_l0))) (.seq (.region [
 o1 17 (.load (some 8) (tm 3)),
 o3 (.store 8 (tm 2) (tm 17))]) .ret))))
def zbeQ : AFunc := ⟨18, [(2, some (some 8))], zbeQ_c, none⟩
theorem zbeQ_t0 : tableOf Tryz.prog 137 = some zbeQ := by kernel_rfl
theorem zbeQ_t : T0 137 = some zbeQ := withKept_t rfl (withTrue_t rfl zbeQ_t0)
abbrev fn_zicQ : FuncId := 138
def zicQ_l0 : ACode :=
 (.seq (.region [
 o1 12 (.bin .lss (so (.binOp .lss 3 (tm 11) (tm 10) 3) 0) (tm 11) (tm 10))]) (.seq (.cond (tm 12)
 .skip
 (.exit 0)) (.seq (.block 1 (.seq (.region [
 o1 13 (.indexSl 1 (tm 9) (tm 11)),
 o1 14 (.load none (tm 13)),
 o1 5 (.mov (tm 14))]) (.seq (.region [
 o1 15 (.mov (tm 3)),
 o1 16 (.mov (tm 5)),
 o1 17 (.lenSl (tm 16)),
 o1 18 (.bin .add (so (.binOp .add 3 (tm 15) (tm 17) 3) 3) (tm 15) (tm 17)),
 o1 3 (.mov (tm 18))]) (.seq (.region [
 o1 19 (.mov (tm 3)),
 o1 20 (.bin .lss (so (.binOp .lss 3 (tm 19) k0 3) 4) (tm 19) k0)]) (.cond (tm 20)
 (.region [
 o1 21 (.mkIface 9 (.const (.string ⟨⟨[108, 101, 110, 32, 111, 117, 116, 32, 111, 102, 32, 114, 97, 110, 103, 101]⟩⟩))),
 o3 (.panic (tm 21))])
 .skip))))) (.region [
 o1 22 (.bin .add (so (.binOp .add 3 (tm 11) (.const (.int .i64 1)) 3) 3) (tm 11) (.const (.int .i64 1))),
 o1 11 (.mov (tm 22))]))))
def zicQ_l1 : ACode :=
 (.seq (.region [
 o1 28 (.bin .lss (so (.binOp .lss 3 (tm 27) (tm 26) 3) 0) (tm 27) (tm 26))]) (.seq (.cond (tm 28)
 .skip
 (.exit 2)) (.seq (.block 3 (.seq (.region [
 o1 29 (.indexSl 1 (tm 25) (tm 27)),
 o1 30 (.load none (tm 29)),
 o1 8 (.mov (tm 30))]) (.region [
 o1 31 (.mov (tm 6)),
 o1 32 (.mov (tm 8)),
 o1 33 (.append 5 1 1 [(.int .u8 0)] false (tm 31) (tm 32)),
 o1 6 (.mov (tm 33))]))) (.region [
 o1 34 (.bin .add (so (.binOp .add 3 (tm 27) (.const (.int .i64 1)) 3) 3) (tm 27) (.const (.int .i64 1))),
 o1 27 (.mov (tm 34))]))))
def zicQ_c : ACode :=
 (.seq (.region [
 o1 2 (.mov (.const (.slice none 0 0)))]) (.seq (.region [
 o1 3 (.mov k0)]) (.seq (.seq (.region [
 o1 9 (.mov (tm 0)),
 o1 10 (.lenSl (tm 9)),
 o1 11 (.mov k0)]) (.block 0 (.loop zicQ_l0))) (.seq (.region [
 o1 23 (.mov (tm 3)),
 o1 24 (.callV (.func 160) [(.const (.slice none 0 0)), (tm 23)]),
 o1 6 (.mov (tm 24))]) (.seq (.seq (.region [
 o1 25 (.mov (tm 0)),
 o1 26 (.lenSl (tm 25)),
 o1 27 (.mov k0)]) (.block 2 (.loop zicQ_l1))) (.seq (.region [
 o1 35 (.mov (tm 6)),
 o1 2 (.mov (tm 35))]) .ret))))))
def zicQ : AFunc := ⟨36, [(2, none)], zicQ_c, none⟩
theorem zicQ_t0 : tableOf Tryz.prog 138 = some zicQ := by kernel_rfl
theorem zicQ_t : T0 138 = some zicQ := withKept_t rfl (withTrue_t rfl zicQ_t0)
abbrev fn_ztdQ : FuncId := 139
def ztdQ_c : ACode :=
 (.seq (.region [
 o1 4 (.alloc 28 z32)]) (.seq (.seq (.region [
 o1 5 (.mov (tm 0)),
 o1 6 (.eq .ptr false (so (.binOp .eql 69 (tm 5) (.const (.pointer none)) 69) 4) (tm 5) (.const (.pointer none))),
 o1 7 (.mov (tm 6)),
 o5 8 (.mov (tm 0)) 7,
 o5 9 (.nilCheck (tm 8)) 7,
 o5 10 (.fieldAddr 4 (tm 9)) 7,
 o5 11 (.load none (tm 10)) 7,
 o5 12 (.raw (so (.unOp .not 4 (tm 11)) 4)) 7,
 o1 13 (.pick (tm 7) (.const (.bool true)) (tm 12)),
 o1 14 (.mov (tm 13)),
 o5 15 (.mov (tm 0)) 14,
 o5 16 (.nilCheck (tm 15)) 14,
 o5 17 (.fieldAddr 2 (tm 16)) 14,
 o5 18 (.fieldAddr 0 (tm 17)) 14,
 o5 19 (.load none (tm 18)) 14,
 o5 20 (.bin .neq (so (.binOp .neq 41 (tm 19) k0 41) 4) (tm 19) k0) 14,
 o1 21 (.pick (tm 14) (.const (.bool true)) (tm 20))]) (.cond (tm 21)
 (.seq (.region [
 o1 22 (.load (some 32) (tm 4)),
 o3 (.store 32 (tm 4) (tm 22))]) .ret)
 .skip)) (.seq (.region [
 o1 23 (.mov (tm 0)),
 o3 (.defer (.func 114) [(tm 23)])]) (.seq (.region [
 o1 24 (.mov (tm 1)),
 o1 25 (.mov (tm 0)),
 o1 26 (.nilCheck (tm 25)),
 o1 27 (.fieldAddr 1 (tm 26)),
 o1 28 (.load none (tm 27)),
 o1 29 (.callV (tm 24) [(tm 28)]),
 o3 (.store 32 (tm 4) (tm 29))]) .ret))))
def ztdQ : AFunc := ⟨30, [(4, some (some 32))], ztdQ_c, none⟩
theorem ztdQ_t0 : tableOf Tryz.prog 139 = some ztdQ := by kernel_rfl
theorem ztdQ_t : T0 139 = some ztdQ := withKept_t rfl (withTrue_t rfl ztdQ_t0)
abbrev fn_zucQ : FuncId := 140
def zucQ_c : ACode :=
 (.seq (.region [
 o1 3 (.alloc 28 z32)]) (.seq (.region [
 o1 4 (.load none (tm 1)),
 o1 5 (.mov (tm 0)),
 o1 6 (.callV (.func 141) [(tm 4), (.const (.int .i64 32)), (tm 5), (.func 142)]),
 o3 (.store 32 (tm 3) (tm 6))]) .ret))
def zucQ : AFunc := ⟨7, [(3, some (some 32))], zucQ_c, none⟩
theorem zucQ_t0 : tableOf Tryz.prog 140 = some zucQ := by kernel_rfl
theorem zucQ_t : T0 140 = some zucQ := withKept_t rfl (withTrue_t rfl zucQ_t0)
abbrev fn_zydQ : FuncId := 141
def zydQ_c : ACode :=
 (.seq (.region [
 o1 8 (.alloc 28 z32)]) (.seq (.regionD [
 o1 9 (.mov (tm 1)),
 o1 10 (.mov (tm 0)),
 o1 11 (.nilCheck (tm 10)),
 o1 12 (.fieldAddr 0 (tm 11)),
 o1 13 (.load none (tm 12)),
 o1 14 (.lenSl (tm 13)),
 o1 15 (.mov (tm 0)),
 o1 16 (.nilCheck (tm 15)),
 o1 17 (.fieldAddr 1 (tm 16)),
 o1 18 (.load none (tm 17)),
 o1 19 (.bin .sub (so (.binOp .sub 3 (tm 14) (tm 18) 3) 3) (tm 14) (tm 18)),
 o1 20 (.bin .leq (so (.binOp .leq 3 (tm 9) (tm 19) 3) 4) (tm 9) (tm 19)),
 o1 21 (.mov (tm 2)),
 o2 22 (.callV (.func 78) [(tm 20), (.const (.int .i64 6)), (tm 21)])]) (.seq (.region [
 o1 23 (.mov (tm 0)),
 o1 24 (.nilCheck (tm 23)),
 o1 25 (.fieldAddr 1 (tm 24)),
 o1 26 (.load none (tm 25)),
 o1 27 (.mov (tm 1)),
 o1 28 (.bin .add (so (.binOp .add 3 (tm 26) (tm 27) 3) 3) (tm 26) (tm 27)),
 o1 29 (.nilCheck (tm 23)),
 o1 30 (.fieldAddr 1 (tm 29)),
 o3 (.store 1 (tm 30) (tm 28))]) (.seq (.regionD [
 o1 31 (.mov (tm 3)),
 o1 32 (.mov (tm 0)),
 o1 33 (.nilCheck (tm 32)),
 o1 34 (.fieldAddr 0 (tm 33)),
 o1 35 (.load none (tm 34)),
 o1 36 (.mov (tm 0)),
 o1 37 (.nilCheck (tm 36)),
 o1 38 (.fieldAddr 1 (tm 37)),
 o1 39 (.load none (tm 38)),
 o1 40 (.mov (tm 1)),
 o1 41 (.bin .sub (so (.binOp .sub 3 (tm 39) (tm 40) 3) 3) (tm 39) (tm 40)),
 o1 42 (.mov (tm 0)),
 o1 43 (.nilCheck (tm 42)),
 o1 44 (.fieldAddr 1 (tm 43)),
 o1 45 (.load none (tm 44)),
 o1 46 (.sliceSl 1 (tm 35) (some (tm 41)) (some (tm 45)) none),
 o2 47 (.callV (tm 31) [(tm 46)]),
 ⟨none, .store 32 (tm 8) (tm 47), none, [], true⟩]) .ret))))
def zydQ : AFunc := ⟨48, [(8, some (some 32))], zydQ_c, none⟩
theorem zydQ_t0 : tableOf Tryz.prog 141 = some zydQ := by kernel_rfl
theorem zydQ_t : T0 141 = some zydQ := withKept_t rfl (withTrue_t rfl zydQ_t0)
abbrev fn_zvcQ : FuncId := 142
def zvcQ_c : ACode :=
 (.seq (.region [
 o1 2 (.alloc 28 z32)]) (.seq (.region [
 o1 3 (.mov (tm 0)),
 o1 4 (.arrayAt 32 (tm 3)),
 o1 5 (.load (some 32) (tm 4)),
 o3 (.store 32 (tm 2) (tm 5))]) .ret))
def zvcQ : AFunc := ⟨6, [(2, some (some 32))], zvcQ_c, none⟩
theorem zvcQ_t0 : tableOf Tryz.prog 142 = some zvcQ := by kernel_rfl
theorem zvcQ_t : T0 142 = some zvcQ := withKept_t rfl (withTrue_t rfl zvcQ_t0)
abbrev fn_zwdQ : FuncId := 143
def zwdQ_c : ACode :=
 (.seq (.region [
 o1 4 (.mov (.const (.int .u64 0)))]) (.seq (.seq (.region [
 o1 5 (.mov (tm 0)),
 o1 6 (.eq .ptr false (so (.binOp .eql 69 (tm 5) (.const (.pointer none)) 69) 4) (tm 5) (.const (.pointer none))),
 o1 7 (.mov (tm 6)),
 o5 8 (.mov (tm 0)) 7,
 o5 9 (.nilCheck (tm 8)) 7,
 o5 10 (.fieldAddr 4 (tm 9)) 7,
 o5 11 (.load none (tm 10)) 7,
 o5 12 (.raw (so (.unOp .not 4 (tm 11)) 4)) 7,
 o1 13 (.pick (tm 7) (.const (.bool true)) (tm 12)),
 o1 14 (.mov (tm 13)),
 o5 15 (.mov (tm 0)) 14,
 o5 16 (.nilCheck (tm 15)) 14,
 o5 17 (.fieldAddr 2 (tm 16)) 14,
 o5 18 (.fieldAddr 0 (tm 17)) 14,
 o5 19 (.load none (tm 18)) 14,
 o5 20 (.bin .neq (so (.binOp .neq 41 (tm 19) k0 41) 4) (tm 19) k0) 14,
 o1 21 (.pick (tm 14) (.const (.bool true)) (tm 20))]) (.cond (tm 21)
 (.seq (.region [
 o1 22 (.mov (tm 4)),
 o1 4 (.mov (tm 22))]) .ret)
 .skip)) (.seq (.region [
 o1 23 (.mov (tm 0)),
 o3 (.defer (.func 114) [(tm 23)])]) (.seq (.region [
 o1 24 (.mov (tm 1)),
 o1 25 (.mov (tm 0)),
 o1 26 (.nilCheck (tm 25)),
 o1 27 (.fieldAddr 1 (tm 26)),
 o1 28 (.load none (tm 27)),
 o1 29 (.callV (tm 24) [(tm 28)]),
 o1 4 (.mov (tm 29))]) .ret))))
def zwdQ : AFunc := ⟨30, [(4, none)], zwdQ_c, none⟩
theorem zwdQ_t0 : tableOf Tryz.prog 143 = some zwdQ := by kernel_rfl
theorem zwdQ_t : T0 143 = some zwdQ := withKept_t rfl (withTrue_t rfl zwdQ_t0)
abbrev fn_zddQ : FuncId := 144
def zddQ_c : ACode :=
 (.seq (.region [
 o1 3 (.mov (.const (.int .u64 0)))]) (.seq (.region [
 o1 4 (.load none (tm 1)),
 o1 5 (.mov (tm 0)),
 o1 6 (.callV (.func 115) [(tm 4), (.const (.int .i64 8)), (tm 5), (.func 116)]),
 o1 3 (.mov (tm 6))]) .ret))
def zddQ : AFunc := ⟨7, [(3, none)], zddQ_c, none⟩
theorem zddQ_t0 : tableOf Tryz.prog 144 = some zddQ := by kernel_rfl
theorem zddQ_t : T0 144 = some zddQ := withKept_t rfl (withTrue_t rfl zddQ_t0)
abbrev fn_zudQ : FuncId := 145
def zudQ_c : ACode :=
 (.seq (.region [
 o1 4 (.alloc 130 [(.int .u8 0), (.int .u8 0), (.int .u8 0), (.int .u8 0)])]) (.seq (.seq (.region [
 o1 5 (.mov (tm 0)),
 o1 6 (.eq .ptr false (so (.binOp .eql 69 (tm 5) (.const (.pointer none)) 69) 4) (tm 5) (.const (.pointer none))),
 o1 7 (.mov (tm 6)),
 o5 8 (.mov (tm 0)) 7,
 o5 9 (.nilCheck (tm 8)) 7,
 o5 10 (.fieldAddr 4 (tm 9)) 7,
 o5 11 (.load none (tm 10)) 7,
 o5 12 (.raw (so (.unOp .not 4 (tm 11)) 4)) 7,
 o1 13 (.pick (tm 7) (.const (.bool true)) (tm 12)),
 o1 14 (.mov (tm 13)),
 o5 15 (.mov (tm 0)) 14,
 o5 16 (.nilCheck (tm 15)) 14,
 o5 17 (.fieldAddr 2 (tm 16)) 14,
 o5 18 (.fieldAddr 0 (tm 17)) 14,
 o5 19 (.load none (tm 18)) 14,
 o5 20 (.bin .neq (so (.binOp .neq 41 (tm 19) k0 41) 4) (tm 19) k0) 14,
 o1 21 (.pick (tm 14) (.const (.bool true)) (tm 20))]) (.cond (tm 21)
 (.seq (.region [
 o1 22 (.load (some 4) (tm 4)),
 o3 (.store 4 (tm 4) (tm 22))]) .ret)
 .skip)) (.seq (.region [
 o1 23 (.mov (tm 0)),
 o3 (.defer (.func 114) [(tm 23)])]) (.seq (.region [
 o1 24 (.mov (tm 1)),
 o1 25 (.mov (tm 0)),
 o1 26 (.nilCheck (tm 25)),
 o1 27 (.fieldAddr 1 (tm 26)),
 o1 28 (.load none (tm 27)),
 o1 29 (.callV (tm 24) [(tm 28)]),
 o3 (.store 4 (tm 4) (tm 29))]) .ret))))
def zudQ : AFunc := ⟨30, [(4, some (some 4))], zudQ_c, none⟩
theorem zudQ_t0 : tableOf Tryz.prog 145 = some zudQ := by kernel_rfl
theorem zudQ_t : T0 145 = some zudQ := withKept_t rfl (withTrue_t rfl zudQ_t0)
abbrev fn_zxcQ : FuncId := 146
def zxcQ_c : ACode :=
 (.seq (.region [
 o1 3 (.alloc 130 [(.int .u8 0), (.int .u8 0), (.int .u8 0), (.int .u8 0)])]) (.seq (.region [
 o1 4 (.load none (tm 1)),
 o1 5 (.mov (tm 0)),
 o1 6 (.callV (.func 147) [(tm 4), (.const (.int .i64 4)), (tm 5), (.func 148)]),
 o3 (.store 4 (tm 3) (tm 6))]) .ret))
def zxcQ : AFunc := ⟨7, [(3, some (some 4))], zxcQ_c, none⟩
theorem zxcQ_t0 : tableOf Tryz.prog 146 = some zxcQ := by kernel_rfl
theorem zxcQ_t : T0 146 = some zxcQ := withKept_t rfl (withTrue_t rfl zxcQ_t0)
abbrev fn_zzdQ : FuncId := 147
def zzdQ_c : ACode :=
 (.seq (.region [
 o1 8 (.alloc 130 [(.int .u8 0), (.int .u8 0), (.int .u8 0), (.int .u8 0)])]) (.seq (.regionD [
 o1 9 (.mov (tm 1)),
 o1 10 (.mov (tm 0)),
 o1 11 (.nilCheck (tm 10)),
 o1 12 (.fieldAddr 0 (tm 11)),
 o1 13 (.load none (tm 12)),
 o1 14 (.lenSl (tm 13)),
 o1 15 (.mov (tm 0)),
 o1 16 (.nilCheck (tm 15)),
 o1 17 (.fieldAddr 1 (tm 16)),
 o1 18 (.load none (tm 17)),
 o1 19 (.bin .sub (so (.binOp .sub 3 (tm 14) (tm 18) 3) 3) (tm 14) (tm 18)),
 o1 20 (.bin .leq (so (.binOp .leq 3 (tm 9) (tm 19) 3) 4) (tm 9) (tm 19)),
 o1 21 (.mov (tm 2)),
 o2 22 (.callV (.func 78) [(tm 20), (.const (.int .i64 6)), (tm 21)])]) (.seq (.region [
 o1 23 (.mov (tm 0)),
 o1 24 (.nilCheck (tm 23)),
 o1 25 (.fieldAddr 1 (tm 24)),
 o1 26 (.load none (tm 25)),
 o1 27 (.mov (tm 1)),
 o1 28 (.bin .add (so (.binOp .add 3 (tm 26) (tm 27) 3) 3) (tm 26) (tm 27)),
 o1 29 (.nilCheck (tm 23)),
 o1 30 (.fieldAddr 1 (tm 29)),
 o3 (.store 1 (tm 30) (tm 28))]) (.seq (.regionD [
 o1 31 (.mov (tm 3)),
 o1 32 (.mov (tm 0)),
 o1 33 (.nilCheck (tm 32)),
 o1 34 (.fieldAddr 0 (tm 33)),
 o1 35 (.load none (tm 34)),
 o1 36 (.mov (tm 0)),
 o1 37 (.nilCheck (tm 36)),
 o1 38 (.fieldAddr 1 (tm 37)),
 o1 39 (.load none (tm 38)),
 o1 40 (.mov (tm 1)),
 o1 41 (.bin .sub (so (.binOp .sub 3 (tm 39) (tm 40) 3) 3) (tm 39) (tm 40)),
 o1 42 (.mov (tm 0)),
 o1 43 (.nilCheck (tm 42)),
 o1 44 (.fieldAddr 1 (tm 43)),
 o1 45 (.load none (tm 44)),
 o1 46 (.sliceSl 1 (tm 35) (some (tm 41)) (some (tm 45)) none),
 o2 47 (.callV (tm 31) [(tm 46)]),
 ⟨none, .store 4 (tm 8) (tm 47), none, [], true⟩]) .ret))))
def zzdQ : AFunc := ⟨48, [(8, some (some 4))], zzdQ_c, none⟩
theorem zzdQ_t0 : tableOf Tryz.prog 147 = some zzdQ := by kernel_rfl
theorem zzdQ_t : T0 147 = some zzdQ := withKept_t rfl (withTrue_t rfl zzdQ_t0)
abbrev fn_zycQ : FuncId := 148
def zycQ_c : ACode :=
 (.seq (.region [
 o1 2 (.alloc 130 [(.int .u8 0), (.int .u8 0), (.int .u8 0), (.int .u8 0)])]) (.seq (.region [
 o1 3 (.mov (tm 0)),
 o1 4 (.arrayAt 4 (tm 3)),
 o1 5 (.load (some 4) (tm 4)),
 o3 (.store 4 (tm 2) (tm 5))]) .ret))
def zycQ : AFunc := ⟨6, [(2, some (some 4))], zycQ_c, none⟩
theorem zycQ_t0 : tableOf Tryz.prog 148 = some zycQ := by kernel_rfl
theorem zycQ_t : T0 148 = some zycQ := withKept_t rfl (withTrue_t rfl zycQ_t0)
abbrev fn_zabQ : FuncId := 154
def zabQ_c : ACode :=
 (.seq (.region [
 o1 1 (.box 30 (tm 0)),
 o1 2 (.mov (.const (.bool false)))]) (.seq (.region [
 o1 3 (.fieldAddr 0 (tm 1)),
 o1 4 (.load none (tm 3)),
 o1 5 (.callV (.func 155) [(tm 4)]),
 o1 2 (.mov (tm 5))]) .ret))
def zabQ : AFunc := ⟨6, [(2, none)], zabQ_c, none⟩
theorem zabQ_t0 : tableOf Tryz.prog 154 = some zabQ := by kernel_rfl
theorem zabQ_t : T0 154 = some zabQ := withKept_t rfl (withTrue_t rfl zabQ_t0)
abbrev fn_zvQ : FuncId := 155
def zvQ_c : ACode :=
 (.seq (.region [
 o1 2 (.mov (.const (.bool false)))]) (.seq (.region [
 o1 3 (.mov (tm 0)),
 o1 4 (.lenStr (tm 3)),
 o1 5 (.bin .geq (so (.binOp .geq 3 (tm 4) (.const (.int .i64 1)) 3) 4) (tm 4) (.const (.int .i64 1))),
 o1 6 (.mov (tm 5)),
 o4 7 (.mov (tm 0)) 6,
 o4 8 (.lenStr (tm 7)) 6,
 o4 9 (.bin .leq (so (.binOp .leq 3 (tm 8) (.const (.int .i64 32)) 3) 4) (tm 8) (.const (.int .i64 32))) 6,
 o1 10 (.pick (tm 6) (tm 9) (.const (.bool false))),
 o1 11 (.mov (tm 10)),
 o4 12 (.mov (tm 0)) 11,
 o4 13 (.callV (.func 161) [(tm 12), (.func 162)]) 11,
 o1 14 (.pick (tm 11) (tm 13) (.const (.bool false))),
 o1 2 (.mov (tm 14))]) .ret))
def zvQ : AFunc := ⟨15, [(2, none)], zvQ_c, none⟩
theorem zvQ_t0 : tableOf Tryz.prog 155 = some zvQ := by kernel_rfl
theorem zvQ_t : T0 155 = some zvQ := withKept_t rfl (withTrue_t rfl zvQ_t0)
abbrev fn_zbbQ : FuncId := 156
def zbbQ_c : ACode :=
 (.seq (.region [
 o1 1 (.box 30 (tm 0)),
 o1 2 (.mov (.const (.bool false)))]) (.seq (.region [
 o1 3 (.fieldAddr 1 (tm 1)),
 o1 4 (.load none (tm 3)),
 o1 5 (.bin .geq (so (.binOp .geq 3 (tm 4) (.const (.int .i64 1)) 3) 4) (tm 4) (.const (.int .i64 1))),
 o1 6 (.mov (tm 5)),
 o4 7 (.fieldAddr 1 (tm 1)) 6,
 o4 8 (.load none (tm 7)) 6,
 o4 9 (.bin .leq (so (.binOp .leq 3 (tm 8) (.const (.int .i64 1073741824)) 3) 4) (tm 8) (.const (.int .i64 1073741824))) 6,
 o1 10 (.pick (tm 6) (tm 9) (.const (.bool false))),
 o1 2 (.mov (tm 10))]) .ret))
def zbbQ : AFunc := ⟨11, [(2, none)], zbbQ_c, none⟩
theorem zbbQ_t0 : tableOf Tryz.prog 156 = some zbbQ := by kernel_rfl
theorem zbbQ_t : T0 156 = some zbbQ := withKept_t rfl (withTrue_t rfl zbbQ_t0)
abbrev fn_zcbQ : FuncId := 157
def zcbQ_c : ACode :=
 (.seq (.region [
 o1 1 (.box 30 (tm 0)),
 o1 2 (.mov (.const (.bool false)))]) (.seq (.region [
 o1 3 (.fieldAddr 2 (tm 1)),
 o1 4 (.load none (tm 3)),
 o1 5 (.bin .geq (so (.binOp .geq 3 (tm 4) k0 3) 4) (tm 4) k0),
 o1 6 (.mov (tm 5)),
 o4 7 (.fieldAddr 2 (tm 1)) 6,
 o4 8 (.load none (tm 7)) 6,
 o4 9 (.bin .leq (so (.binOp .leq 3 (tm 8) (.const (.int .i64 1099511627776)) 3) 4) (tm 8) (.const (.int .i64 1099511627776))) 6,
 o1 10 (.pick (tm 6) (tm 9) (.const (.bool false))),
 o1 2 (.mov (tm 10))]) .ret))
def zcbQ : AFunc := ⟨11, [(2, none)], zcbQ_c, none⟩
theorem zcbQ_t0 : tableOf Tryz.prog 157 = some zcbQ := by kernel_rfl
theorem zcbQ_t : T0 157 = some zcbQ := withKept_t rfl (withTrue_t rfl zcbQ_t0)
abbrev fn_zmQ : FuncId := 158
def zmQ_c : ACode :=
 (.seq (.region [
 o1 4 (.mov k0)]) (.seq (.region [
 o1 5 (.mov (tm 0)),
 o1 6 (.mov (tm 1)),
 o1 7 (.ext .compare (.func 163) [(tm 5), (tm 6)]),
 o1 4 (.mov (tm 7))]) .ret))
def zmQ : AFunc := ⟨8, [(4, none)], zmQ_c, none⟩
theorem zmQ_t0 : tableOf Tryz.prog 158 = some zmQ := by kernel_rfl
theorem zmQ_t : T0 158 = some zmQ := withKept_t rfl (withTrue_t rfl zmQ_t0)
abbrev fn_zrQ : FuncId := 159
def zrQ_c : ACode :=
 (.seq (.region [
 o1 2 (.box 134 (tm 0)),
 o1 3 (.mov k0)]) (.seq (.block 0 (.seq (.region [
 o1 5 (.fieldAddr 0 (tm 2)),
 o1 6 (.load none (tm 5)),
 o1 7 (.bin .lss (so (.binOp .lss 3 (tm 6) k0 3) 4) (tm 6) k0),
 o1 8 (.mov (tm 7)),
 o5 9 (.fieldAddr 0 (tm 2)) 8,
 o5 10 (.load none (tm 9)) 8,
 o5 11 (.bin .geq (so (.binOp .geq 3 (tm 10) (.const (.int .i64 64)) 3) 4) (tm 10) (.const (.int .i64 64))) 8,
 o1 12 (.pick (tm 8) (.const (.bool true)) (tm 11)),
 o1 4 (.mov (tm 12))]) (.cond (tm 4)
 (.seq (.region [
 o1 3 (.mov (.const (.int .i64 3)))]) .ret)
 (.seq (.region [
 o1 14 (.fieldAddr 0 (tm 2)),
 o1 15 (.load none (tm 14)),
 o1 16 (.load none (tm 1)),
 o1 17 (.bin .leq (so (.binOp .leq 3 (tm 15) (tm 16) 3) 4) (tm 15) (tm 16)),
 o1 13 (.mov (tm 17))]) (.cond (tm 13)
 (.seq (.region [
 o1 3 (.mov (.const (.int .i64 9)))]) .ret)
 .skip))))) (.seq (.region [
 o1 18 (.fieldAddr 0 (tm 2)),
 o1 19 (.load none (tm 18)),
 o3 (.store 1 (tm 1) (tm 19))]) (.seq (.region [
 o1 3 (.mov k0)]) .ret))))
def zrQ : AFunc := ⟨20, [(3, none)], zrQ_c, none⟩
theorem zrQ_t0 : tableOf Tryz.prog 159 = some zrQ := by kernel_rfl
theorem zrQ_t : T0 159 = some zrQ := withKept_t rfl (withTrue_t rfl zrQ_t0)
abbrev fn_zjcQ : FuncId := 160
def zjcQ_c : ACode :=
 (.seq (.region [
 o1 4 (.mov (.const (.slice none 0 0)))]) (.seq (.seq (.region [
 o1 5 (.mov (tm 1)),
 o1 6 (.bin .lss (so (.binOp .lss 3 (tm 5) k0 3) 4) (tm 5) k0)]) (.cond (tm 6)
 (.region [
 o1 7 (.mkIface 9 (.const (.string ⟨⟨[99, 97, 110, 110, 111, 116, 32, 98, 101, 32, 110, 101, 103, 97, 116, 105, 118, 101]⟩⟩))),
 o3 (.panic (tm 7))])
 .skip)) (.seq (.seq (.region [
 o1 8 (.mov (tm 1)),
 o1 9 (.mov (tm 0)),
 o1 10 (.cap (tm 9)),
 o1 11 (.mov (tm 0)),
 o1 12 (.lenSl (tm 11)),
 o1 13 (.bin .sub (so (.binOp .sub 3 (tm 10) (tm 12) 3) 3) (tm 10) (tm 12)),
 o1 14 (.bin .sub (so (.binOp .sub 3 (tm 8) (tm 13) 3) 3) (tm 8) (tm 13)),
 o1 1 (.mov (tm 14))]) (.seq (.region [
 o1 15 (.mov (tm 1)),
 o1 16 (.bin .gtr (so (.binOp .gtr 3 (tm 15) k0 3) 4) (tm 15) k0)]) (.cond (tm 16)
 (.region [
 o1 17 (.mov (tm 0)),
 o1 18 (.mov (tm 0)),
 o1 19 (.cap (tm 18)),
 o1 20 (.sliceSl 1 (tm 17) none (some (tm 19)) none),
 o1 21 (.mov (tm 1)),
 o1 22 (.append 5 1 1 [(.int .u8 0)] true (tm 20) (tm 21)),
 o1 23 (.mov (tm 0)),
 o1 24 (.lenSl (tm 23)),
 o1 25 (.sliceSl 1 (tm 22) none (some (tm 24)) none),
 o1 0 (.mov (tm 25))])
 .skip))) (.seq (.region [
 o1 26 (.mov (tm 0)),
 o1 4 (.mov (tm 26))]) .ret))))
def zjcQ : AFunc := ⟨27, [(4, none)], zjcQ_c, none⟩
theorem zjcQ_t0 : tableOf Tryz.prog 160 = some zjcQ := by kernel_rfl
theorem zjcQ_t : T0 160 = some zjcQ := withKept_t rfl (withTrue_t rfl zjcQ_t0)
abbrev fn_zwQ : FuncId := 161
def zwQ_l0 : ACode :=
 (.seq (.region [
 o1 9 (.nextStr (tm 8)),
 o1 10 (.extract 0 (tm 9))]) (.seq (.cond (tm 10)
 .skip
 (.exit 0)) (.block 1 (.seq (.region [
 o1 11 (.extract 2 (tm 9)),
 o1 6 (.mov (tm 11))]) (.seq (.region [
 o1 12 (.mov (tm 1)),
 o1 13 (.mov (tm 6)),
 o1 14 (.callV (tm 12) [(tm 13)]),
 o1 15 (.raw (so (.unOp .not 4 (tm 14)) 4))]) (.cond (tm 15)
 (.seq (.region [
 o1 4 (.mov (.const (.bool false)))]) .ret)
 .skip))))))
def zwQ_c : ACode :=
 (.seq (.region [
 o1 4 (.mov (.const (.bool false)))]) (.seq (.seq (.region [
 o1 7 (.mov (tm 0)),
 o1 8 (.rangeStr (tm 7))]) (.block 0 (.loop zwQ_l0))) (.seq (.region [
 o1 4 (.mov (.const (.bool true)))]) .ret)))
def zwQ : AFunc := ⟨16, [(4, none)], zwQ_c, none⟩
theorem zwQ_t0 : tableOf Tryz.prog 161 = some zwQ := by kernel_rfl
theorem zwQ_t : T0 161 = some zwQ := withKept_t rfl (withTrue_t rfl zwQ_t0)
abbrev fn_zyQ : FuncId := 162
def zyQ_c : ACode :=
 (.seq (.region [
 o1 2 (.mov (.const (.bool false)))]) (.seq (.region [
 o1 3 (.mov (tm 0)),
 o1 4 (.bin .geq (so (.binOp .geq 21 (tm 3) (.const (.int .i32 97)) 21) 4) (tm 3) (.const (.int .i32 97))),
 o1 5 (.mov (tm 4)),
 o4 6 (.mov (tm 0)) 5,
 o4 7 (.bin .leq (so (.binOp .leq 21 (tm 6) (.const (.int .i32 122)) 21) 4) (tm 6) (.const (.int .i32 122))) 5,
 o1 8 (.pick (tm 5) (tm 7) (.const (.bool false))),
 o1 9 (.mov (tm 8)),
 o5 10 (.mov (tm 0)) 9,
 o5 11 (.bin .geq (so (.binOp .geq 21 (tm 10) (.const (.int .i32 48)) 21) 4) (tm 10) (.const (.int .i32 48))) 9,
 o5 12 (.mov (tm 11)) 9,
 o4 13 (.mov (tm 0)) 12,
 o4 14 (.bin .leq (so (.binOp .leq 21 (tm 13) (.const (.int .i32 57)) 21) 4) (tm 13) (.const (.int .i32 57))) 12,
 o5 15 (.pick (tm 12) (tm 14) (.const (.bool false))) 9,
 o1 16 (.pick (tm 9) (.const (.bool true)) (tm 15)),
 o1 17 (.mov (tm 16)),
 o5 18 (.mov (tm 0)) 17,
 o5 19 (.bin .eql (so (.binOp .eql 21 (tm 18) (.const (.int .i32 45)) 21) 4) (tm 18) (.const (.int .i32 45))) 17,
 o1 20 (.pick (tm 17) (.const (.bool true)) (tm 19)),
 o1 2 (.mov (tm 20))]) .ret))
def zyQ : AFunc := ⟨21, [(2, none)], zyQ_c, none⟩
theorem zyQ_t0 : tableOf Tryz.prog 162 = some zyQ := by kernel_rfl
theorem zyQ_t : T0 162 = some zyQ := withKept_t rfl (withTrue_t rfl zyQ_t0)
abbrev fn_zybQ : FuncId := 183
def zybQ_c : ACode :=
 (.seq (.region [
 o1 2 (.box 168 (tm 0)),
 o1 4 (.mov k0)]) (.seq (.seq (.region [
 o1 5 (.fieldAddr 0 (tm 2)),
 o1 6 (.load none (tm 5)),
 o1 7 (.callV (.func 36) [(tm 6)]),
 o1 8 (.raw (so (.unOp .not 4 (tm 7)) 4)),
 o1 9 (.mov (tm 8)),
 o5 10 (.fieldAddr 1 (tm 2)) 9,
 o5 11 (.load none (tm 10)) 9,
 o5 12 (.callV (.func 37) [(tm 11)]) 9,
 o5 13 (.raw (so (.unOp .not 4 (tm 12)) 4)) 9,
 o1 14 (.pick (tm 9) (.const (.bool true)) (tm 13))]) (.cond (tm 14)
 (.seq (.region [
 o1 4 (.mov (.const (.int .i64 3)))]) .ret)
 .skip)) (.seq (.region [
 o1 15 (.mov (tm 1)),
 o1 16 (.callV (.func 107) [(tm 15), (.const (.int .i64 1))])]) (.seq (.region [
 o1 17 (.mov (tm 1)),
 o1 18 (.fieldAddr 0 (tm 2)),
 o1 19 (.load none (tm 18)),
 o1 20 (.callV (.func 107) [(tm 17), (tm 19)])]) (.seq (.region [
 o1 21 (.mov (tm 1)),
 o1 22 (.fieldAddr 1 (tm 2)),
 o1 23 (.load none (tm 22)),
 o1 24 (.callV (.func 107) [(tm 21), (tm 23)]),
 o1 4 (.mov (tm 24))]) .ret)))))
def zybQ : AFunc := ⟨25, [(4, none)], zybQ_c, none⟩
theorem zybQ_t0 : tableOf Tryz.prog 183 = some zybQ := by kernel_rfl
theorem zybQ_t : T0 183 = some zybQ := withKept_t rfl (withTrue_t rfl zybQ_t0)
abbrev fn_zxbQ : FuncId := 184
def zxbQ_c : ACode :=
 (.seq (.region [
 o1 2 (.box 169 (tm 0)),
 o1 4 (.mov k0)]) (.seq (.seq (.region [
 o1 7 (.fieldAddr 0 (tm 2)),
 o1 8 (.load none (tm 7)),
 o1 9 (.callV (.func 36) [(tm 8)]),
 o1 10 (.raw (so (.unOp .not 4 (tm 9)) 4))]) (.cond (tm 10)
 (.seq (.region [
 o1 4 (.mov (.const (.int .i64 3)))]) .ret)
 .skip)) (.seq (.region [
 o1 12 (.fieldAddr 1 (tm 2)),
 o1 13 (.load (some 166) (tm 12)),
 o1 14 (.callV (.func 28) [(tm 13)]),
 o1 11 (.mov (tm 14)),
 o1 15 (.extract 0 (tm 11)),
 o1 16 (.extract 1 (tm 11)),
 o1 5 (.mov (tm 15)),
 o1 6 (.mov (tm 16))]) (.seq (.seq (.region [
 o1 17 (.mov (tm 6)),
 o1 18 (.bin .neq (so (.binOp .neq 41 (tm 17) k0 41) 4) (tm 17) k0)]) (.cond (tm 18)
 (.seq (.region [
 o1 19 (.mov (tm 6)),
 o1 4 (.mov (tm 19))]) .ret)
 .skip)) (.seq (.region [
 o1 20 (.mov (tm 1)),
 o1 21 (.callV (.func 107) [(tm 20), (.const (.int .i64 2))])]) (.seq (.region [
 o1 22 (.mov (tm 1)),
 o1 23 (.fieldAddr 0 (tm 2)),
 o1 24 (.load none (tm 23)),
 o1 25 (.callV (.func 107) [(tm 22), (tm 24)])]) (.seq (.region [
 o1 26 (.mov (tm 1)),
 o1 27 (.mov (tm 5)),
 o1 28 (.callV (.func 69) [(tm 26), (tm 27)]),
 o1 4 (.mov (tm 28))]) .ret)))))))
def zxbQ : AFunc := ⟨29, [(4, none)], zxbQ_c, none⟩
theorem zxbQ_t0 : tableOf Tryz.prog 184 = some zxbQ := by kernel_rfl
theorem zxbQ_t : T0 184 = some zxbQ := withKept_t rfl (withTrue_t rfl zxbQ_t0)
def table : TT :=
 (.node (.node (.node (.node (.node (.node (.node .nil 5 znbQ .nil) 9 zqbQ (.node .nil 11 zvbQ .nil)) 13 zjbQ (.node (.node .nil 17 zpbQ .nil) 18 zrbQ .nil)) 21 zubQ (.node (.node (.node .nil 25 zhbQ .nil) 26 zgbQ .nil) 28 zbQ (.node (.node .nil 30 zwbQ .nil) 31 zbcQ .nil))) 32 zocQ (.node (.node (.node (.node .nil 33 zzcQ .nil) 34 zfcQ .nil) 35 zgcQ (.node (.node .nil 36 zccQ .nil) 37 zacQ .nil)) 38 zecQ (.node (.node (.node .nil 39 zqcQ .nil) 40 zaQ .nil) 41 zscQ (.node (.node .nil 54 zzbQ .nil) 60 zibQ .nil)))) 61 zkbQ (.node (.node (.node (.node (.node .nil 62 zeQ .nil) 63 zcQ (.node .nil 64 ziQ .nil)) 65 zpcQ (.node (.node .nil 66 zuQ .nil) 67 zpQ .nil)) 68 zmcQ (.node (.node (.node .nil 69 zhdQ .nil) 70 zidQ .nil) 72 zhcQ (.node (.node .nil 73 zvdQ .nil) 74 zfdQ .nil))) 75 zadQ (.node (.node (.node (.node .nil 76 zsdQ .nil) 77 zrcQ .nil) 78 zqdQ (.node (.node .nil 79 zxdQ .nil) 80 zhQ .nil)) 81 ztQ (.node (.node (.node .nil 82 zgQ .nil) 83 zoQ .nil) 84 zfQ (.node (.node .nil 85 zlcQ .nil) 90 zdcQ .nil))))) 98 zlbQ (.node (.node (.node (.node (.node (.node .nil 99 zdQ .nil) 100 zjQ (.node .nil 101 zsQ .nil)) 102 zkQ (.node (.node .nil 103 zkcQ .nil) 104 zlQ .nil)) 105 znQ (.node (.node (.node .nil 106 zmdQ .nil) 107 zldQ .nil) 108 zxQ (.node (.node .nil 109 zjdQ .nil) 110 zndQ .nil))) 111 zkdQ (.node (.node (.node (.node .nil 112 zodQ .nil) 113 zrdQ .nil) 114 zedQ (.node (.node .nil 115 zaeQ .nil) 116 zpdQ .nil)) 117 zgdQ (.node (.node (.node .nil 118 zbdQ .nil) 119 ztcQ .nil) 120 zcdQ (.node (.node .nil 121 zwcQ .nil) 134 zzQ .nil)))) 135 zncQ (.node (.node (.node (.node (.node .nil 136 zqQ .nil) 137 zbeQ (.node .nil 138 zicQ .nil)) 139 ztdQ (.node (.node .nil 140 zucQ .nil) 141 zydQ .nil)) 142 zvcQ (.node (.node (.node .nil 143 zwdQ .nil) 144 zddQ .nil) 145 zudQ (.node (.node .nil 146 zxcQ .nil) 147 zzdQ .nil))) 148 zycQ (.node (.node (.node (.node .nil 154 zabQ .nil) 155 zvQ .nil) 156 zbbQ (.node (.node .nil 157 zcbQ .nil) 158 zmQ .nil)) 159 zrQ (.node (.node (.node .nil 160 zjcQ .nil) 161 zwQ .nil) 162 zyQ (.node (.node .nil 183 zybQ .nil) 184 zxbQ .nil))))))
theorem table_all : table.All Tryz.prog := ⟨zlbQ_t0, ⟨zkbQ_t0, ⟨zocQ_t0, ⟨zubQ_t0, ⟨zjbQ_t0, ⟨zqbQ_t0, ⟨znbQ_t0, trivial, trivial⟩, ⟨zvbQ_t0, trivial, trivial⟩⟩, ⟨zrbQ_t0, ⟨zpbQ_t0, trivial, trivial⟩, trivial⟩⟩, ⟨zbQ_t0, ⟨zgbQ_t0, ⟨zhbQ_t0, trivial, trivial⟩, trivial⟩, ⟨zbcQ_t0, ⟨zwbQ_t0, trivial, trivial⟩, trivial⟩⟩⟩, ⟨zecQ_t0, ⟨zgcQ_t0, ⟨zfcQ_t0, ⟨zzcQ_t0, trivial, trivial⟩, trivial⟩, ⟨zacQ_t0, ⟨zccQ_t0, trivial, trivial⟩, trivial⟩⟩, ⟨zscQ_t0, ⟨zaQ_t0, ⟨zqcQ_t0, trivial, trivial⟩, trivial⟩, ⟨zibQ_t0, ⟨zzbQ_t0, trivial, trivial⟩, trivial⟩⟩⟩⟩, ⟨zadQ_t0, ⟨zmcQ_t0, ⟨zpcQ_t0, ⟨zcQ_t0, ⟨zeQ_t0, trivial, trivial⟩, ⟨ziQ_t0, trivial, trivial⟩⟩, ⟨zpQ_t0, ⟨zuQ_t0, trivial, trivial⟩, trivial⟩⟩, ⟨zhcQ_t0, ⟨zidQ_t0, ⟨zhdQ_t0, trivial, trivial⟩, trivial⟩, ⟨zfdQ_t0, ⟨zvdQ_t0, trivial, trivial⟩, trivial⟩⟩⟩, ⟨ztQ_t0, ⟨zqdQ_t0, ⟨zrcQ_t0, ⟨zsdQ_t0, trivial, trivial⟩, trivial⟩, ⟨zhQ_t0, ⟨zxdQ_t0, trivial, trivial⟩, trivial⟩⟩, ⟨zfQ_t0, ⟨zoQ_t0, ⟨zgQ_t0, trivial, trivial⟩, trivial⟩, ⟨zdcQ_t0, ⟨zlcQ_t0, trivial, trivial⟩, trivial⟩⟩⟩⟩⟩, ⟨zncQ_t0, ⟨zkdQ_t0, ⟨znQ_t0, ⟨zkQ_t0, ⟨zjQ_t0, ⟨zdQ_t0, trivial, trivial⟩, ⟨zsQ_t0, trivial, trivial⟩⟩, ⟨zlQ_t0, ⟨zkcQ_t0, trivial, trivial⟩, trivial⟩⟩, ⟨zxQ_t0, ⟨zldQ_t0, ⟨zmdQ_t0, trivial, trivial⟩, trivial⟩, ⟨zndQ_t0, ⟨zjdQ_t0, trivial, trivial⟩, trivial⟩⟩⟩, ⟨zgdQ_t0, ⟨zedQ_t0, ⟨zrdQ_t0, ⟨zodQ_t0, trivial, trivial⟩, trivial⟩, ⟨zpdQ_t0, ⟨zaeQ_t0, trivial, trivial⟩, trivial⟩⟩, ⟨zcdQ_t0, ⟨ztcQ_t0, ⟨zbdQ_t0, trivial, trivial⟩, trivial⟩, ⟨zzQ_t0, ⟨zwcQ_t0, trivial, trivial⟩, trivial⟩⟩⟩⟩, ⟨zycQ_t0, ⟨zvcQ_t0, ⟨ztdQ_t0, ⟨zbeQ_t0, ⟨zqQ_t0, trivial, trivial⟩, ⟨zicQ_t0, trivial, trivial⟩⟩, ⟨zydQ_t0, ⟨zucQ_t0, trivial, trivial⟩, trivial⟩⟩, ⟨zudQ_t0, ⟨zddQ_t0, ⟨zwdQ_t0, trivial, trivial⟩, trivial⟩, ⟨zzdQ_t0, ⟨zxcQ_t0, trivial, trivial⟩, trivial⟩⟩⟩, ⟨zrQ_t0, ⟨zbbQ_t0, ⟨zvQ_t0, ⟨zabQ_t0, trivial, trivial⟩, trivial⟩, ⟨zmQ_t0, ⟨zcbQ_t0, trivial, trivial⟩, trivial⟩⟩, ⟨zyQ_t0, ⟨zwQ_t0, ⟨zjcQ_t0, trivial, trivial⟩, trivial⟩, ⟨zxbQ_t0, ⟨zybQ_t0, trivial, trivial⟩, trivial⟩⟩⟩⟩⟩⟩
end Go.Proofs.YtninaabbojcdpaaGreat.R

namespace Go.Proofs.YtninaabbojcdpaaGreat.A
open Go Go.Vm
set_option maxRecDepth 100000
theorem ran_5 : allTrue (xcall Tryz.prog R.table.get 1000 60 (.fn 5) [] Heap.init) = true := by kernel_rfl
theorem has_5 : (tableOf Tryz.prog 5).isSome = true := by kernel_rfl
theorem known : KnownAll Tryz.prog prims := ⟨⟨Option.isSome_iff_exists.1 has_5, fun w => known_calls (Checked.mixed Tryz.checked) (TT.table_ok R.table_all) ran_5 w⟩, trivial⟩
theorem T0_ok : TableOK Tryz.prog T0 := withKept_ok (withTrue_ok known) fun k hk => by simp at hk
end Go.Proofs.YtninaabbojcdpaaGreat.A
