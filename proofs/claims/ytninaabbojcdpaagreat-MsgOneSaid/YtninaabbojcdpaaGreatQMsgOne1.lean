/- Contracts of functions, over the machine. -/
import Derived.Test.YtninaabbojcdpaaGreatRows
import Derived.Test.YtninaabbojcdpaaGreatVJ
namespace Go.Vm
abbrev U : Value := undef
abbrev tm (n : Nat) : Operand := .tmp n
abbrev k0 : Operand := .const (.int .i64 0)
abbrev o1 (d : Nat) (x : AOp) : AOper := ⟨some d, x, none, [], false⟩
abbrev o2 (d : Nat) (x : AOp) : AOper := ⟨some d, x, none, [], true⟩
abbrev o3 (x : AOp) : AOper := ⟨none, x, none, [], false⟩
abbrev o4 (d : Nat) (x : AOp) (t : Nat) : AOper := ⟨some d, x, some (t, true), [], false⟩
abbrev o5 (d : Nat) (x : AOp) (t : Nat) : AOper := ⟨some d, x, some (t, false), [], false⟩
end Go.Vm
noncomputable section
set_option maxRecDepth 100000
set_option linter.unusedVariables false
namespace Go.Proofs.YtninaabbojcdpaaGreat.A
open Go Go.Vm
abbrev ty_internal_abi_BoundsErrorCode : TypeId := 6
abbrev ty_runtime_boundsError : TypeId := 8
abbrev ty_runtime_errorString : TypeId := 10
abbrev ty_runtime_plainError : TypeId := 11
abbrev ty_runtime_errorAddressString : TypeId := 14
abbrev ty_internal_runtime_maps_unhashableTypeError : TypeId := 19
abbrev ty_api_Ask : TypeId := 26
abbrev ty_api_Hash : TypeId := 28
abbrev ty_api_Header : TypeId := 30
abbrev ty_api_Commit : TypeId := 33
abbrev ty_api_Block : TypeId := 36
abbrev ty_api_Answer : TypeId := 38
abbrev ty_api_Msg : TypeId := 40
abbrev ty_api_Errno : TypeId := 41
abbrev ty_api_Fault : TypeId := 43
abbrev ty_msg_wrong : TypeId := 66
abbrev ty_msg_reader : TypeId := 72
abbrev ty_lr04_Reader : TypeId := 82
abbrev ty_iter_Seq_api_Errno_ : TypeId := 99
abbrev ty_wire_Reader : TypeId := 111
abbrev ty_api_Key : TypeId := 130
abbrev ty_api_Validator : TypeId := 132
abbrev ty_api_Vote : TypeId := 134
abbrev ty_msg_told : TypeId := 136
abbrev ty_lr04_Writer : TypeId := 140
abbrev ty_wire_Writer : TypeId := 149
abbrev ty_wire_wrong : TypeId := 162
abbrev ty_msg_ask : TypeId := 168
abbrev ty_msg_answer : TypeId := 169
abbrev ty_header_rule : TypeId := 175
abbrev ty_vals_look : TypeId := 177
abbrev ty_runtime_TypeAssertionError : TypeId := 207
abbrev ty_runtime_PanicNilError : TypeId := 210
abbrev ty_internal_abi_TFlag : TypeId := 212
abbrev ty_internal_abi_Kind : TypeId := 213
abbrev ty_internal_abi_NameOff : TypeId := 216
abbrev ty_internal_abi_TypeOff : TypeId := 217
abbrev ty_internal_abi_Type : TypeId := 219
instance : IsIface Tryz.prog 20 := ⟨by kernel_rfl⟩
instance : IsIface Tryz.prog 135 := ⟨by kernel_rfl⟩
instance : IsIface Tryz.prog 136 := ⟨by kernel_rfl⟩
abbrev prims : List FuncId := [5]
abbrev kepts : List FuncId := []
def T0 : Table := withKept (withTrue Tryz.prog prims) kepts
abbrev fn_znbQ : FuncId := 5
theorem znbQ_known {h : Heap} : Runs Tryz.prog T0 (.fn 5) [] h (fun r h' => r = .bool true ∧ h' = h) (fun _ _ => False) := known_runs rfl
instance : IsBoolT Tryz.prog 4 := ⟨by kernel_rfl⟩
instance : TLeaves Tryz.prog 7 (.i .i64 :: (.i .i64 :: (.b :: (.i .u8 :: [])))) := ⟨by kernel_rfl, by kernel_rfl, by kernel_rfl⟩
instance : TLeaves Tryz.prog 8 (.i .i64 :: (.i .i64 :: (.b :: (.i .u8 :: [])))) := ⟨by kernel_rfl, by kernel_rfl, by kernel_rfl⟩
instance : TLeaves Tryz.prog 25 (.i .i64 :: (.i .i64 :: [])) := ⟨by kernel_rfl, by kernel_rfl, by kernel_rfl⟩
instance : TLeaves Tryz.prog 26 (.i .i64 :: (.i .i64 :: [])) := ⟨by kernel_rfl, by kernel_rfl, by kernel_rfl⟩
instance : TLeaves Tryz.prog 27 (u8s 32) := ⟨by kernel_rfl, by kernel_rfl, by kernel_rfl⟩
instance : TLeaves Tryz.prog 28 (u8s 32) := ⟨by kernel_rfl, by kernel_rfl, by kernel_rfl⟩
instance : TLeaves Tryz.prog 29 (.s :: (.i .i64 :: (.i .i64 :: (u8s 32 ++ (u8s 32 ++ (u8s 32 ++ (u8s 32))))))) := ⟨by kernel_rfl, by kernel_rfl, by kernel_rfl⟩
instance : TLeaves Tryz.prog 30 (.s :: (.i .i64 :: (.i .i64 :: (u8s 32 ++ (u8s 32 ++ (u8s 32 ++ (u8s 32))))))) := ⟨by kernel_rfl, by kernel_rfl, by kernel_rfl⟩
instance : TLeaves Tryz.prog 42 (.i .i64 :: (.i .i64 :: [])) := ⟨by kernel_rfl, by kernel_rfl, by kernel_rfl⟩
instance : TLeaves Tryz.prog 43 (.i .i64 :: (.i .i64 :: [])) := ⟨by kernel_rfl, by kernel_rfl, by kernel_rfl⟩
instance : TLeaves Tryz.prog 65 (.i .i64 :: (.i .i64 :: [])) := ⟨by kernel_rfl, by kernel_rfl, by kernel_rfl⟩
instance : TLeaves Tryz.prog 66 (.i .i64 :: (.i .i64 :: [])) := ⟨by kernel_rfl, by kernel_rfl, by kernel_rfl⟩
instance : TLeaves Tryz.prog 129 (u8s 4) := ⟨by kernel_rfl, by kernel_rfl, by kernel_rfl⟩
instance : TLeaves Tryz.prog 130 (u8s 4) := ⟨by kernel_rfl, by kernel_rfl, by kernel_rfl⟩
instance : TLeaves Tryz.prog 131 (u8s 4 ++ (.i .i64 :: [])) := ⟨by kernel_rfl, by kernel_rfl, by kernel_rfl⟩
instance : TLeaves Tryz.prog 132 (u8s 4 ++ (.i .i64 :: [])) := ⟨by kernel_rfl, by kernel_rfl, by kernel_rfl⟩
instance : TLeaves Tryz.prog 133 (.i .i64 :: (.i .u64 :: [])) := ⟨by kernel_rfl, by kernel_rfl, by kernel_rfl⟩
instance : TLeaves Tryz.prog 134 (.i .i64 :: (.i .u64 :: [])) := ⟨by kernel_rfl, by kernel_rfl, by kernel_rfl⟩
instance : TLeaves Tryz.prog 161 (.i .i64 :: (.i .i64 :: [])) := ⟨by kernel_rfl, by kernel_rfl, by kernel_rfl⟩
instance : TLeaves Tryz.prog 162 (.i .i64 :: (.i .i64 :: [])) := ⟨by kernel_rfl, by kernel_rfl, by kernel_rfl⟩
instance : TLeaves Tryz.prog 168 (.i .i64 :: (.i .i64 :: [])) := ⟨by kernel_rfl, by kernel_rfl, by kernel_rfl⟩
instance : TLeaves Tryz.prog 176 (u8s 4 ++ (.b :: (.i .i64 :: (.i .i64 :: [])))) := ⟨by kernel_rfl, by kernel_rfl, by kernel_rfl⟩
instance : TLeaves Tryz.prog 177 (u8s 4 ++ (.b :: (.i .i64 :: (.i .i64 :: [])))) := ⟨by kernel_rfl, by kernel_rfl, by kernel_rfl⟩
instance : TLeaves Tryz.prog 181 (u8s 4 ++ (u8s 4)) := ⟨by kernel_rfl, by kernel_rfl, by kernel_rfl⟩
instance : TLeaves Tryz.prog 185 (u8s 4 ++ (u8s 4 ++ (.i .u8 :: []))) := ⟨by kernel_rfl, by kernel_rfl, by kernel_rfl⟩
def zmbQ_c : ACode :=
 (.seq (.region [
 o1 4 (.box 26 (tm 0)),
 o1 6 (.box 36 (tm 2)),
 o1 8 (.mov (.const (.bool false)))]) (.seq (.region [
 o1 16 (.callV (.func 5) []),
 o1 9 (.mov (tm 16))]) (.seq (.seq (.region [
 o1 17 (.load (some 166) (tm 6)),
 o1 18 (.callV (.func 19) [(tm 17)])]) (.cond (tm 18)
 (.seq (.region [
 o1 19 (.mov (tm 9)),
 o1 8 (.mov (tm 19))]) .ret)
 .skip)) (.seq (.region [
 o1 21 (.load (some 2) (tm 4)),
 o1 22 (.callV (.func 21) [(tm 21)]),
 o1 20 (.mov (tm 22)),
 o1 23 (.extract 0 (tm 20)),
 o1 24 (.extract 1 (tm 20)),
 o1 10 (.mov (tm 23)),
 o1 11 (.mov (tm 24))]) (.seq (.region [
 o1 26 (.mov (tm 1)),
 o1 27 (.load (some 166) (tm 6)),
 o1 28 (.build ((.int .i64 0) :: ((.string ⟨⟨[]⟩⟩) :: ((.int .i64 0) :: ((.int .i64 0) :: (z32 ++ (z32 ++ (z32 ++ (z32 ++ ((.int .i64 0) :: (z32 ++ [(.slice none 0 0), (.slice none 0 0)])))))))))) [(0, 1, (tm 26)), (1, 166, (tm 27))]),
 o1 29 (.callV (.func 23) [(tm 28)]),
 o1 25 (.mov (tm 29)),
 o1 30 (.extract 0 (tm 25)),
 o1 31 (.extract 1 (tm 25)),
 o1 12 (.mov (tm 30)),
 o1 13 (.mov (tm 31))]) (.seq (.region [
 o1 33 (.load (some 166) (tm 6)),
 o1 34 (.callV (.func 28) [(tm 33)]),
 o1 32 (.mov (tm 34)),
 o1 35 (.extract 0 (tm 32)),
 o1 36 (.extract 1 (tm 32)),
 o1 14 (.mov (tm 35)),
 o1 15 (.mov (tm 36))]) (.seq (.seq (.region [
 o1 37 (.mov (tm 11)),
 o1 38 (.bin .eql (so (.binOp .eql 41 (tm 37) k0 41) 4) (tm 37) k0),
 o1 39 (.fieldAddr 0 (tm 4)),
 o1 40 (.load none (tm 39)),
 o1 41 (.bin .geq (so (.binOp .geq 3 (tm 40) (.const (.int .i64 1)) 3) 4) (tm 40) (.const (.int .i64 1))),
 o1 42 (.mov (tm 41)),
 o4 43 (.fieldAddr 0 (tm 4)) 42,
 o4 44 (.load none (tm 43)) 42,
 o4 45 (.bin .leq (so (.binOp .leq 3 (tm 44) (.const (.int .i64 1099511627776)) 3) 4) (tm 44) (.const (.int .i64 1099511627776))) 42,
 o1 46 (.pick (tm 42) (tm 45) (.const (.bool false))),
 o1 47 (.mov (tm 46)),
 o4 48 (.fieldAddr 1 (tm 4)) 47,
 o4 49 (.load none (tm 48)) 47,
 o4 50 (.bin .geq (so (.binOp .geq 3 (tm 49) (.const (.int .i64 1)) 3) 4) (tm 49) (.const (.int .i64 1))) 47,
 o1 51 (.pick (tm 47) (tm 50) (.const (.bool false))),
 o1 52 (.mov (tm 51)),
 o4 53 (.fieldAddr 1 (tm 4)) 52,
 o4 54 (.load none (tm 53)) 52,
 o4 55 (.bin .leq (so (.binOp .leq 3 (tm 54) (.const (.int .i64 1073741824)) 3) 4) (tm 54) (.const (.int .i64 1073741824))) 52,
 o1 56 (.pick (tm 52) (tm 55) (.const (.bool false))),
 o1 57 (.bin .neq (so (.binOp .neq 4 (tm 38) (tm 56) 4) 4) (tm 38) (tm 56)),
 o1 58 (.mov (tm 57)),
 o5 59 (.mov (tm 13)) 58,
 o5 60 (.bin .eql (so (.binOp .eql 41 (tm 59) k0 41) 4) (tm 59) k0) 58,
 o5 61 (.mov (tm 1)) 58,
 o5 62 (.bin .geq (so (.binOp .geq 3 (tm 61) (.const (.int .i64 1)) 3) 4) (tm 61) (.const (.int .i64 1))) 58,
 o5 63 (.mov (tm 62)) 58,
 o4 64 (.mov (tm 1)) 63,
 o4 65 (.bin .leq (so (.binOp .leq 3 (tm 64) (.const (.int .i64 1099511627776)) 3) 4) (tm 64) (.const (.int .i64 1099511627776))) 63,
 o5 66 (.pick (tm 63) (tm 65) (.const (.bool false))) 58,
 o5 67 (.mov (tm 66)) 58,
 o4 68 (.mov (tm 15)) 67,
 o4 69 (.bin .eql (so (.binOp .eql 41 (tm 68) k0 41) 4) (tm 68) k0) 67,
 o5 70 (.pick (tm 67) (tm 69) (.const (.bool false))) 58,
 o5 71 (.bin .neq (so (.binOp .neq 4 (tm 60) (tm 70) 4) 4) (tm 60) (tm 70)) 58,
 o1 72 (.pick (tm 58) (.const (.bool true)) (tm 71))]) (.cond (tm 72)
 (.seq (.region [
 o1 8 (.mov (.const (.bool false)))]) .ret)
 .skip)) (.seq (.seq (.region [
 o1 73 (.mov (tm 11)),
 o1 74 (.bin .eql (so (.binOp .eql 41 (tm 73) k0 41) 4) (tm 73) k0),
 o1 75 (.mov (tm 74)),
 o4 76 (.mov (tm 10)) 75,
 o4 77 (.load (some 2) (tm 4)) 75,
 o4 78 (.build ((.int .i64 0) :: ((.int .i64 0) :: ((.int .i64 0) :: ((.int .i64 0) :: ((.string ⟨⟨[]⟩⟩) :: ((.int .i64 0) :: ((.int .i64 0) :: (z32 ++ (z32 ++ (z32 ++ (z32 ++ ((.int .i64 0) :: (z32 ++ [(.slice none 0 0), (.slice none 0 0)]))))))))))))) [(0, 1, (.const (.int .i64 1))), (1, 2, (tm 77))]) 75,
 o4 79 (.mov (tm 3)) 75,
 o4 80 (.callV (.func 29) [(tm 76), (tm 78), (tm 79)]) 75,
 o4 81 (.raw (so (.unOp .not 4 (tm 80)) 4)) 75,
 o1 82 (.pick (tm 75) (tm 81) (.const (.bool false)))]) (.cond (tm 82)
 (.seq (.region [
 o1 8 (.mov (.const (.bool false)))]) .ret)
 .skip)) (.seq (.region [
 o1 83 (.mov (tm 9)),
 o1 84 (.mov (tm 83)),
 o4 85 (.mov (tm 13)) 84,
 o4 86 (.bin .neq (so (.binOp .neq 41 (tm 85) k0 41) 4) (tm 85) k0) 84,
 o4 87 (.mov (tm 86)) 84,
 o5 88 (.mov (tm 12)) 87,
 o5 89 (.mov (tm 1)) 87,
 o5 90 (.load (some 166) (tm 6)) 87,
 o5 91 (.build ((.int .i64 0) :: ((.string ⟨⟨[]⟩⟩) :: ((.int .i64 0) :: ((.int .i64 0) :: (z32 ++ (z32 ++ (z32 ++ (z32 ++ ((.int .i64 0) :: (z32 ++ [(.slice none 0 0), (.slice none 0 0)])))))))))) [(0, 1, (tm 89)), (1, 166, (tm 90))]) 87,
 o5 92 (.build ((.int .i64 0) :: ((.int .i64 0) :: ((.int .i64 0) :: ((.int .i64 0) :: ((.string ⟨⟨[]⟩⟩) :: ((.int .i64 0) :: ((.int .i64 0) :: (z32 ++ (z32 ++ (z32 ++ (z32 ++ ((.int .i64 0) :: (z32 ++ [(.slice none 0 0), (.slice none 0 0)]))))))))))))) [(0, 1, (.const (.int .i64 2))), (3, 167, (tm 91))]) 87,
 o5 93 (.mov (tm 3)) 87,
 o5 94 (.callV (.func 29) [(tm 88), (tm 92), (tm 93)]) 87,
 o4 95 (.pick (tm 87) (.const (.bool true)) (tm 94)) 84,
 o1 96 (.pick (tm 84) (tm 95) (.const (.bool false))),
 o1 8 (.mov (tm 96))]) .ret)))))))))
def zmbQ : AFunc := ⟨97, [(8, none)], zmbQ_c, none⟩
theorem zmbQ_t0 : tableOf Tryz.prog 7 = some zmbQ := by kernel_rfl
abbrev fn_zobQ : FuncId := 8
def zobQ_c : ACode :=
 (.seq (.region [
 o1 2 (.mov (.const (.bool false)))]) (.seq (.region [
 o1 10 (.callV (.func 5) []),
 o1 3 (.mov (tm 10))]) (.seq (.seq (.region [
 o1 11 (.mov (tm 0)),
 o1 12 (.lenSl (tm 11)),
 o1 13 (.bin .gtr (so (.binOp .gtr 3 (tm 12) (.const (.int .i64 4000)) 3) 4) (tm 12) (.const (.int .i64 4000)))]) (.cond (tm 13)
 (.seq (.region [
 o1 14 (.mov (tm 3)),
 o1 2 (.mov (tm 14))]) .ret)
 .skip)) (.seq (.region [
 o1 16 (.mov (tm 0)),
 o1 17 (.callV (.func 11) [(tm 16)]),
 o1 15 (.mov (tm 17)),
 o1 18 (.extract 0 (tm 15)),
 o1 19 (.extract 1 (tm 15)),
 o1 4 (.alloc 40 ((.int .i64 0) :: ((.int .i64 0) :: ((.int .i64 0) :: ((.int .i64 0) :: ((.string ⟨⟨[]⟩⟩) :: ((.int .i64 0) :: ((.int .i64 0) :: (z32 ++ (z32 ++ (z32 ++ (z32 ++ ((.int .i64 0) :: (z32 ++ [(.slice none 0 0), (.slice none 0 0)])))))))))))))),
 o1 5 (.alloc 43 [(.int .i64 0), (.int .i64 0)]),
 o3 (.store 170 (tm 4) (tm 18)),
 o3 (.store 2 (tm 5) (tm 19))]) (.seq (.seq (.region [
 o1 20 (.fieldAddr 0 (tm 5)),
 o1 21 (.load none (tm 20)),
 o1 22 (.bin .neq (so (.binOp .neq 41 (tm 21) k0 41) 4) (tm 21) k0)]) (.cond (tm 22)
 (.seq (.region [
 o1 23 (.mov (tm 3)),
 o1 24 (.mov (tm 23)),
 o4 25 (.fieldAddr 1 (tm 5)) 24,
 o4 26 (.load none (tm 25)) 24,
 o4 27 (.bin .geq (so (.binOp .geq 3 (tm 26) k0 3) 4) (tm 26) k0) 24,
 o1 28 (.pick (tm 24) (tm 27) (.const (.bool false))),
 o1 29 (.mov (tm 28)),
 o4 30 (.fieldAddr 1 (tm 5)) 29,
 o4 31 (.load none (tm 30)) 29,
 o4 32 (.mov (tm 0)) 29,
 o4 33 (.lenSl (tm 32)) 29,
 o4 34 (.bin .leq (so (.binOp .leq 3 (tm 31) (tm 33) 3) 4) (tm 31) (tm 33)) 29,
 o1 35 (.pick (tm 29) (tm 34) (.const (.bool false))),
 o1 36 (.mov (tm 35)),
 o4 37 (.load (some 170) (tm 4)) 36,
 o4 38 (.build ((.int .i64 0) :: ((.int .i64 0) :: ((.int .i64 0) :: ((.int .i64 0) :: ((.string ⟨⟨[]⟩⟩) :: ((.int .i64 0) :: ((.int .i64 0) :: (z32 ++ (z32 ++ (z32 ++ (z32 ++ ((.int .i64 0) :: (z32 ++ [(.slice none 0 0), (.slice none 0 0)]))))))))))))) []) 36,
 o4 39 (.callV (.func 13) [(tm 37), (tm 38)]) 36,
 o1 40 (.pick (tm 36) (tm 39) (.const (.bool false))),
 o1 2 (.mov (tm 40))]) .ret)
 .skip)) (.seq (.seq (.region [
 o1 41 (.fieldAddr 0 (tm 4)),
 o1 42 (.load none (tm 41)),
 o1 43 (.bin .eql (so (.binOp .eql 3 (tm 42) (.const (.int .i64 1)) 3) 4) (tm 42) (.const (.int .i64 1)))]) (.cond (tm 43)
 (.seq (.region [
 o1 45 (.fieldAddr 1 (tm 4)),
 o1 46 (.load (some 2) (tm 45)),
 o1 47 (.callV (.func 21) [(tm 46)]),
 o1 44 (.mov (tm 47)),
 o1 48 (.extract 0 (tm 44)),
 o1 49 (.extract 1 (tm 44)),
 o1 6 (.mov (tm 48)),
 o1 7 (.mov (tm 49))]) (.seq (.region [
 o1 50 (.mov (tm 3)),
 o1 51 (.mov (tm 50)),
 o4 52 (.mov (tm 7)) 51,
 o4 53 (.bin .eql (so (.binOp .eql 41 (tm 52) k0 41) 4) (tm 52) k0) 51,
 o1 54 (.pick (tm 51) (tm 53) (.const (.bool false))),
 o1 55 (.mov (tm 54)),
 o4 56 (.mov (tm 0)) 55,
 o4 57 (.mov (tm 6)) 55,
 o4 58 (.callV (.func 25) [(tm 56), (tm 57)]) 55,
 o1 59 (.pick (tm 55) (tm 58) (.const (.bool false))),
 o1 60 (.mov (tm 59)),
 o4 61 (.load (some 170) (tm 4)) 60,
 o4 62 (.fieldAddr 1 (tm 4)) 60,
 o4 63 (.load (some 2) (tm 62)) 60,
 o4 64 (.build ((.int .i64 0) :: ((.int .i64 0) :: ((.int .i64 0) :: ((.int .i64 0) :: ((.string ⟨⟨[]⟩⟩) :: ((.int .i64 0) :: ((.int .i64 0) :: (z32 ++ (z32 ++ (z32 ++ (z32 ++ ((.int .i64 0) :: (z32 ++ [(.slice none 0 0), (.slice none 0 0)]))))))))))))) [(0, 1, (.const (.int .i64 1))), (1, 2, (tm 63))]) 60,
 o4 65 (.callV (.func 13) [(tm 61), (tm 64)]) 60,
 o1 66 (.pick (tm 60) (tm 65) (.const (.bool false))),
 o1 2 (.mov (tm 66))]) .ret))
 .skip)) (.seq (.region [
 o1 68 (.fieldAddr 3 (tm 4)),
 o1 69 (.load (some 167) (tm 68)),
 o1 70 (.callV (.func 23) [(tm 69)]),
 o1 67 (.mov (tm 70)),
 o1 71 (.extract 0 (tm 67)),
 o1 72 (.extract 1 (tm 67)),
 o1 8 (.mov (tm 71)),
 o1 9 (.mov (tm 72))]) (.seq (.region [
 o1 73 (.mov (tm 3)),
 o1 74 (.mov (tm 73)),
 o4 75 (.fieldAddr 0 (tm 4)) 74,
 o4 76 (.load none (tm 75)) 74,
 o4 77 (.bin .eql (so (.binOp .eql 3 (tm 76) (.const (.int .i64 2)) 3) 4) (tm 76) (.const (.int .i64 2))) 74,
 o1 78 (.pick (tm 74) (tm 77) (.const (.bool false))),
 o1 79 (.mov (tm 78)),
 o4 80 (.mov (tm 9)) 79,
 o4 81 (.bin .eql (so (.binOp .eql 41 (tm 80) k0 41) 4) (tm 80) k0) 79,
 o1 82 (.pick (tm 79) (tm 81) (.const (.bool false))),
 o1 83 (.mov (tm 82)),
 o4 84 (.mov (tm 0)) 83,
 o4 85 (.mov (tm 8)) 83,
 o4 86 (.callV (.func 25) [(tm 84), (tm 85)]) 83,
 o1 87 (.pick (tm 83) (tm 86) (.const (.bool false))),
 o1 88 (.mov (tm 87)),
 o4 89 (.fieldAddr 1 (tm 4)) 88,
 o4 90 (.load (some 2) (tm 89)) 88,
 o4 91 (.build [(.int .i64 0), (.int .i64 0)] []) 88,
 o4 92 (.bin .eql (so (.binOp .eql 26 (tm 90) (tm 91) 26) 4) (tm 90) (tm 91)) 88,
 o1 93 (.pick (tm 88) (tm 92) (.const (.bool false))),
 o1 2 (.mov (tm 93))]) .ret))))))))
def zobQ : AFunc := ⟨94, [(2, none)], zobQ_c, none⟩
theorem zobQ_t0 : tableOf Tryz.prog 8 = some zobQ := by kernel_rfl
theorem zobQ_t : T0 8 = some zobQ := withKept_t rfl (withTrue_t rfl zobQ_t0)
theorem zobQ_runs {v0 : Value} {h : Heap} {R : RP} {X : XP} (k : RunC Tryz.prog T0 zobQ_c ⟨[v0, U, U, U, U, U, U, U, U, U, U, U, U, U, U, U, U, U, U, U, U, U, U, U, U, U, U, U, U, U, U, U, U, U, U, U, U, U, U, U, U, U, U, U, U, U, U, U, U, U, U, U, U, U, U, U, U, U, U, U, U, U, U, U, U, U, U, U, U, U, U, U, U, U, U, U, U, U, U, U, U, U, U, U, U, U, U, U, U, U, U, U, U, U], [], h, none⟩ (bodyQ Tryz.prog T0 [(2, none)] R X)) :
 Runs Tryz.prog T0 (.fn 8) [v0] h R X := Runs.fn zobQ_t rfl k
abbrev fn_zvbQ : FuncId := 11
def zvbQ_c : ACode :=
 (.seq (.region [
 o1 2 (.alloc 40 ((.int .i64 0) :: ((.int .i64 0) :: ((.int .i64 0) :: ((.int .i64 0) :: ((.string ⟨⟨[]⟩⟩) :: ((.int .i64 0) :: ((.int .i64 0) :: (z32 ++ (z32 ++ (z32 ++ (z32 ++ ((.int .i64 0) :: (z32 ++ [(.slice none 0 0), (.slice none 0 0)])))))))))))))),
 o1 3 (.alloc 43 [(.int .i64 0), (.int .i64 0)])]) (.seq (.region [
 o1 10 (.mkFunc (.func 30) [] [(tm 2), (tm 3)]),
 o3 (.defer (tm 10) [])]) (.seq (.region [
 o1 11 (.mov (tm 0)),
 o1 12 (.lenSl (tm 11)),
 o1 13 (.bin .leq (so (.binOp .leq 3 (tm 12) (.const (.int .i64 65536)) 3) 4) (tm 12) (.const (.int .i64 65536))),
 o1 14 (.callV (.func 31) [(tm 13), (.const (.int .i64 4)), (.const (.int .i64 65536))])]) (.seq (.region [
 o1 15 (.mov (tm 0)),
 o1 16 (.callV (.func 32) [(tm 15)]),
 o1 17 (.mov (tm 0)),
 o1 18 (.lenSl (tm 17)),
 o1 19 (.build [(.pointer none), (.int .i64 0)] [(0, 1, (tm 16)), (1, 1, (tm 18))]),
 o1 4 (.alloc 72 [(.pointer none), (.int .i64 0)]),
 o3 (.store 2 (tm 4) (tm 19))]) (.seq (.region [
 o1 20 (.fieldAddr 0 (tm 4)),
 o1 21 (.load none (tm 20)),
 o1 22 (.callV (.func 33) [(tm 21)]),
 o1 23 (.fieldAddr 0 (tm 2)),
 o3 (.store 1 (tm 23) (tm 22))]) (.seq (.region [
 o1 24 (.load (some 2) (tm 4)),
 o1 25 (.callV (.func 34) [(tm 24)])]) (.seq (.region [
 o1 26 (.fieldAddr 0 (tm 2)),
 o1 27 (.load none (tm 26)),
 o1 28 (.bin .eql (so (.binOp .eql 3 (tm 27) (.const (.int .i64 1)) 3) 4) (tm 27) (.const (.int .i64 1))),
 o1 29 (.mov (tm 28)),
 o5 30 (.fieldAddr 0 (tm 2)) 29,
 o5 31 (.load none (tm 30)) 29,
 o5 32 (.bin .eql (so (.binOp .eql 3 (tm 31) (.const (.int .i64 2)) 3) 4) (tm 31) (.const (.int .i64 2))) 29,
 o1 33 (.pick (tm 29) (.const (.bool true)) (tm 32)),
 o1 34 (.callV (.func 31) [(tm 33), (.const (.int .i64 5)), k0])]) (.seq (.region [
 o1 35 (.load (some 2) (tm 4)),
 o1 36 (.callV (.func 35) [(tm 35), (.func 36)]),
 o1 5 (.mov (tm 36))]) (.seq (.seq (.region [
 o1 37 (.fieldAddr 0 (tm 2)),
 o1 38 (.load none (tm 37)),
 o1 39 (.bin .eql (so (.binOp .eql 3 (tm 38) (.const (.int .i64 1)) 3) 4) (tm 38) (.const (.int .i64 1)))]) (.cond (tm 39)
 (.region [
 o1 40 (.mov (tm 5)),
 o1 41 (.load (some 2) (tm 4)),
 o1 42 (.callV (.func 35) [(tm 41), (.func 37)]),
 o1 43 (.build [(.int .i64 0), (.int .i64 0)] [(0, 1, (tm 40)), (1, 1, (tm 42))]),
 o1 44 (.fieldAddr 1 (tm 2)),
 o3 (.store 2 (tm 44) (tm 43))])
 (.seq (.region [
 o1 45 (.load (some 2) (tm 4)),
 o1 46 (.callV (.func 38) [(tm 45)]),
 o1 6 (.mov (tm 46))]) (.seq (.region [
 o1 47 (.fieldAddr 0 (tm 4)),
 o1 48 (.load none (tm 47)),
 o1 49 (.callV (.func 39) [(tm 48), (.const (.int .i64 65536))]),
 o1 7 (.mov (tm 49))]) (.seq (.region [
 o1 50 (.load (some 2) (tm 4)),
 o1 51 (.callV (.func 34) [(tm 50)])]) (.seq (.region [
 o1 53 (.mov (tm 7)),
 o1 54 (.callV (.func 40) [(tm 53)]),
 o1 52 (.mov (tm 54)),
 o1 55 (.extract 0 (tm 52)),
 o1 56 (.extract 1 (tm 52)),
 o1 8 (.alloc 36 ((.string ⟨⟨[]⟩⟩) :: ((.int .i64 0) :: ((.int .i64 0) :: (z32 ++ (z32 ++ (z32 ++ (z32 ++ ((.int .i64 0) :: (z32 ++ [(.slice none 0 0), (.slice none 0 0)])))))))))),
 o1 9 (.alloc 43 [(.int .i64 0), (.int .i64 0)]),
 o3 (.store 166 (tm 8) (tm 55)),
 o3 (.store 2 (tm 9) (tm 56))]) (.seq (.region [
 o1 57 (.load (some 2) (tm 9)),
 o1 58 (.build [(.int .i64 0), (.int .i64 0)] []),
 o1 59 (.bin .eql (so (.binOp .eql 43 (tm 57) (tm 58) 43) 4) (tm 57) (tm 58)),
 o1 60 (.mov (tm 6)),
 o1 61 (.callV (.func 31) [(tm 59), (.const (.int .i64 5)), (tm 60)])]) (.region [
 o1 62 (.mov (tm 5)),
 o1 63 (.load (some 166) (tm 8)),
 o1 64 (.build ((.int .i64 0) :: ((.string ⟨⟨[]⟩⟩) :: ((.int .i64 0) :: ((.int .i64 0) :: (z32 ++ (z32 ++ (z32 ++ (z32 ++ ((.int .i64 0) :: (z32 ++ [(.slice none 0 0), (.slice none 0 0)])))))))))) [(0, 1, (tm 62)), (1, 166, (tm 63))]),
 o1 65 (.fieldAddr 3 (tm 2)),
 o3 (.store 167 (tm 65) (tm 64))])))))))) (.seq (.region [
 o1 66 (.fieldAddr 0 (tm 4)),
 o1 67 (.load none (tm 66)),
 o1 68 (.callV (.func 41) [(tm 67)]),
 o3 (.store 2 (tm 3) (tm 68))]) (.seq (.regionD [
 o1 69 (.load (some 2) (tm 3)),
 o1 70 (.build [(.int .i64 0), (.int .i64 0)] []),
 o1 71 (.bin .eql (so (.binOp .eql 43 (tm 69) (tm 70) 43) 4) (tm 69) (tm 70)),
 o1 72 (.fieldAddr 0 (tm 3)),
 o1 73 (.load none (tm 72)),
 o1 74 (.fieldAddr 1 (tm 3)),
 o1 75 (.load none (tm 74)),
 o2 76 (.callV (.func 31) [(tm 71), (tm 73), (tm 75)])]) (.seq (.regionD [
 o1 77 (.load (some 170) (tm 2)),
 o1 78 (.load (some 2) (tm 3)),
 ⟨none, .store 170 (tm 2) (tm 77), none, [(some 78, .load (some 2) (tm 3), none)], false⟩,
 ⟨none, .store 2 (tm 3) (tm 78), none, [], true⟩]) .ret))))))))))))
def zvbQ : AFunc := ⟨79, [(2, some (some 170)), (3, some (some 2))], zvbQ_c, none⟩
theorem zvbQ_t0 : tableOf Tryz.prog 11 = some zvbQ := by kernel_rfl
theorem zvbQ_t : T0 11 = some zvbQ := withKept_t rfl (withTrue_t rfl zvbQ_t0)
theorem zvbQ_runs {v0 : Value} {h : Heap} {R : RP} {X : XP} (k : RunC Tryz.prog T0 zvbQ_c ⟨[v0, U, U, U, U, U, U, U, U, U, U, U, U, U, U, U, U, U, U, U, U, U, U, U, U, U, U, U, U, U, U, U, U, U, U, U, U, U, U, U, U, U, U, U, U, U, U, U, U, U, U, U, U, U, U, U, U, U, U, U, U, U, U, U, U, U, U, U, U, U, U, U, U, U, U, U, U, U, U], [], h, none⟩ (bodyQ Tryz.prog T0 [(2, some (some 170)), (3, some (some 2))] R X)) :
 Runs Tryz.prog T0 (.fn 11) [v0] h R X := Runs.fn zvbQ_t rfl k
abbrev fn_zjbQ : FuncId := 13
def zjbQ_c : ACode :=
 (.seq (.region [
 o1 2 (.box 40 (tm 0)),
 o1 3 (.box 40 (tm 1)),
 o1 4 (.mov (.const (.bool false)))]) (.seq (.region [
 o1 5 (.fieldAddr 0 (tm 2)),
 o1 6 (.load none (tm 5)),
 o1 7 (.fieldAddr 0 (tm 3)),
 o1 8 (.load none (tm 7)),
 o1 9 (.bin .eql (so (.binOp .eql 3 (tm 6) (tm 8) 3) 4) (tm 6) (tm 8)),
 o1 10 (.mov (tm 9)),
 o4 11 (.fieldAddr 1 (tm 2)) 10,
 o4 12 (.load (some 2) (tm 11)) 10,
 o4 13 (.fieldAddr 1 (tm 3)) 10,
 o4 14 (.load (some 2) (tm 13)) 10,
 o4 15 (.bin .eql (so (.binOp .eql 26 (tm 12) (tm 14) 26) 4) (tm 12) (tm 14)) 10,
 o1 16 (.pick (tm 10) (tm 15) (.const (.bool false))),
 o1 17 (.mov (tm 16)),
 o4 18 (.fieldAddr 3 (tm 2)) 17,
 o4 19 (.fieldAddr 0 (tm 18)) 17,
 o4 20 (.load none (tm 19)) 17,
 o4 21 (.fieldAddr 3 (tm 3)) 17,
 o4 22 (.fieldAddr 0 (tm 21)) 17,
 o4 23 (.load none (tm 22)) 17,
 o4 24 (.bin .eql (so (.binOp .eql 3 (tm 20) (tm 23) 3) 4) (tm 20) (tm 23)) 17,
 o1 25 (.pick (tm 17) (tm 24) (.const (.bool false))),
 o1 26 (.mov (tm 25)),
 o4 27 (.fieldAddr 3 (tm 2)) 26,
 o4 28 (.fieldAddr 1 (tm 27)) 26,
 o4 29 (.load (some 166) (tm 28)) 26,
 o4 30 (.fieldAddr 3 (tm 3)) 26,
 o4 31 (.fieldAddr 1 (tm 30)) 26,
 o4 32 (.load (some 166) (tm 31)) 26,
 o4 33 (.callV (.func 26) [(tm 29), (tm 32)]) 26,
 o1 34 (.pick (tm 26) (tm 33) (.const (.bool false))),
 o1 4 (.mov (tm 34))]) .ret))
def zjbQ : AFunc := ⟨35, [(4, none)], zjbQ_c, none⟩
theorem zjbQ_t0 : tableOf Tryz.prog 13 = some zjbQ := by kernel_rfl
theorem zjbQ_t : T0 13 = some zjbQ := withKept_t rfl (withTrue_t rfl zjbQ_t0)
theorem zjbQ_runs {v0 v1 : Value} {h : Heap} {R : RP} {X : XP} (k : RunC Tryz.prog T0 zjbQ_c ⟨[v0, v1, U, U, U, U, U, U, U, U, U, U, U, U, U, U, U, U, U, U, U, U, U, U, U, U, U, U, U, U, U, U, U, U, U], [], h, none⟩ (bodyQ Tryz.prog T0 [(4, none)] R X)) :
 Runs Tryz.prog T0 (.fn 13) [v0, v1] h R X := Runs.fn zjbQ_t rfl k
def zfbQ_c : ACode :=
 (.seq (.region [
 o1 4 (.mov k0)]) (.seq (.seq (.region [
 o1 5 (.mov (tm 1)),
 o1 6 (.bin .leq (so (.binOp .leq 3 (tm 5) k0 3) 4) (tm 5) k0)]) (.cond (tm 6)
 (.seq (.region [
 o1 4 (.mov k0)]) .ret)
 .skip)) (.seq (.region [
 o1 7 (.mov (tm 0)),
 o1 8 (.mov (tm 1)),
 o1 9 (.bin .rem (so (.binOp .rem 3 (tm 7) (tm 8) 3) 3) (tm 7) (tm 8)),
 o1 0 (.mov (tm 9))]) (.seq (.seq (.region [
 o1 10 (.mov (tm 0)),
 o1 11 (.bin .lss (so (.binOp .lss 3 (tm 10) k0 3) 4) (tm 10) k0)]) (.cond (tm 11)
 (.region [
 o1 12 (.mov (tm 0)),
 o1 13 (.mov (tm 1)),
 o1 14 (.bin .add (so (.binOp .add 3 (tm 12) (tm 13) 3) 3) (tm 12) (tm 13)),
 o1 0 (.mov (tm 14))])
 .skip)) (.seq (.region [
 o1 15 (.mov (tm 0)),
 o1 4 (.mov (tm 15))]) .ret)))))
def zfbQ : AFunc := ⟨16, [(4, none)], zfbQ_c, none⟩
theorem zfbQ_t0 : tableOf Tryz.prog 16 = some zfbQ := by kernel_rfl
def zebQ_c : ACode :=
 (.seq (.region [
 o1 1 (.box 36 (tm 0)),
 o1 2 (.mov (.const (.bool false)))]) (.seq (.region [
 o1 3 (.fieldAddr 165 (tm 1)),
 o1 4 (.load none (tm 3)),
 o1 5 (.lenSl (tm 4)),
 o1 6 (.bin .gtr (so (.binOp .gtr 3 (tm 5) (.const (.int .i64 70)) 3) 4) (tm 5) (.const (.int .i64 70))),
 o1 7 (.mov (tm 6)),
 o5 8 (.fieldAddr 131 (tm 1)) 7,
 o5 9 (.fieldAddr 33 (tm 8)) 7,
 o5 10 (.load none (tm 9)) 7,
 o5 11 (.lenSl (tm 10)) 7,
 o5 12 (.bin .gtr (so (.binOp .gtr 3 (tm 11) (.const (.int .i64 70)) 3) 4) (tm 11) (.const (.int .i64 70))) 7,
 o1 13 (.pick (tm 7) (.const (.bool true)) (tm 12)),
 o1 14 (.mov (tm 13)),
 o5 15 (.fieldAddr 0 (tm 1)) 14,
 o5 16 (.fieldAddr 0 (tm 15)) 14,
 o5 17 (.load none (tm 16)) 14,
 o5 18 (.lenStr (tm 17)) 14,
 o5 19 (.bin .gtr (so (.binOp .gtr 3 (tm 18) (.const (.int .i64 60)) 3) 4) (tm 18) (.const (.int .i64 60))) 14,
 o1 20 (.pick (tm 14) (.const (.bool true)) (tm 19)),
 o1 2 (.mov (tm 20))]) .ret))
def zebQ : AFunc := ⟨21, [(2, none)], zebQ_c, none⟩
theorem zebQ_t0 : tableOf Tryz.prog 19 = some zebQ := by kernel_rfl
abbrev fn_zubQ : FuncId := 21
def zubQ_c : ACode :=
 (.seq (.region [
 o1 1 (.box 26 (tm 0)),
 o1 2 (.mov (.const (.slice none 0 0))),
 o1 3 (.mov k0)]) (.seq (.region [
 o1 4 (.load (some 2) (tm 1)),
 o1 5 (.mkIface 26 (tm 4)),
 o1 6 (.callV (.func 54) [(tm 5)]),
 o1 7 (.extract 0 (tm 6)),
 o1 8 (.extract 1 (tm 6)),
 o1 2 (.mov (tm 7)),
 o1 3 (.mov (tm 8))]) .ret))
def zubQ : AFunc := ⟨9, [(2, none), (3, none)], zubQ_c, none⟩
theorem zubQ_t0 : tableOf Tryz.prog 21 = some zubQ := by kernel_rfl
theorem zubQ_t : T0 21 = some zubQ := withKept_t rfl (withTrue_t rfl zubQ_t0)
theorem zubQ_runs {v0 : Value} {h : Heap} {R : RP} {X : XP} (k : RunC Tryz.prog T0 zubQ_c ⟨[v0, U, U, U, U, U, U, U, U], [], h, none⟩ (bodyQ Tryz.prog T0 [(2, none), (3, none)] R X)) :
 Runs Tryz.prog T0 (.fn 21) [v0] h R X := Runs.fn zubQ_t rfl k
abbrev fn_ztbQ : FuncId := 23
def ztbQ_c : ACode :=
 (.seq (.region [
 o1 1 (.box 38 (tm 0)),
 o1 2 (.mov (.const (.slice none 0 0))),
 o1 3 (.mov k0)]) (.seq (.region [
 o1 4 (.load (some 167) (tm 1)),
 o1 5 (.mkIface 38 (tm 4)),
 o1 6 (.callV (.func 54) [(tm 5)]),
 o1 7 (.extract 0 (tm 6)),
 o1 8 (.extract 1 (tm 6)),
 o1 2 (.mov (tm 7)),
 o1 3 (.mov (tm 8))]) .ret))
def ztbQ : AFunc := ⟨9, [(2, none), (3, none)], ztbQ_c, none⟩
theorem ztbQ_t0 : tableOf Tryz.prog 23 = some ztbQ := by kernel_rfl
theorem ztbQ_t : T0 23 = some ztbQ := withKept_t rfl (withTrue_t rfl ztbQ_t0)
theorem ztbQ_runs {v0 : Value} {h : Heap} {R : RP} {X : XP} (k : RunC Tryz.prog T0 ztbQ_c ⟨[v0, U, U, U, U, U, U, U, U], [], h, none⟩ (bodyQ Tryz.prog T0 [(2, none), (3, none)] R X)) :
 Runs Tryz.prog T0 (.fn 23) [v0] h R X := Runs.fn ztbQ_t rfl k
abbrev fn_zhbQ : FuncId := 25
def zhbQ_c : ACode :=
 (.seq (.region [
 o1 4 (.mov (.const (.bool false)))]) (.seq (.region [
 o1 5 (.mov (tm 0)),
 o1 6 (.bytesToStr (tm 5)),
 o1 7 (.mov (tm 1)),
 o1 8 (.bytesToStr (tm 7)),
 o1 9 (.bin .eql (so (.binOp .eql 9 (tm 6) (tm 8) 9) 4) (tm 6) (tm 8)),
 o1 4 (.mov (tm 9))]) .ret))
def zhbQ : AFunc := ⟨10, [(4, none)], zhbQ_c, none⟩
theorem zhbQ_t0 : tableOf Tryz.prog 25 = some zhbQ := by kernel_rfl
theorem zhbQ_t : T0 25 = some zhbQ := withKept_t rfl (withTrue_t rfl zhbQ_t0)
theorem zhbQ_runs {v0 v1 : Value} {h : Heap} {R : RP} {X : XP} (k : RunC Tryz.prog T0 zhbQ_c ⟨[v0, v1, U, U, U, U, U, U, U, U], [], h, none⟩ (bodyQ Tryz.prog T0 [(4, none)] R X)) :
 Runs Tryz.prog T0 (.fn 25) [v0, v1] h R X := Runs.fn zhbQ_t rfl k
abbrev fn_zgbQ : FuncId := 26
def zgbQ_c : ACode :=
 (.seq (.region [
 o1 2 (.box 36 (tm 0)),
 o1 3 (.box 36 (tm 1)),
 o1 4 (.mov (.const (.bool false)))]) (.seq (.region [
 o1 5 (.fieldAddr 0 (tm 2)),
 o1 6 (.load (some 131) (tm 5)),
 o1 7 (.fieldAddr 0 (tm 3)),
 o1 8 (.load (some 131) (tm 7)),
 o1 9 (.bin .eql (so (.binOp .eql 30 (tm 6) (tm 8) 30) 4) (tm 6) (tm 8)),
 o1 10 (.mov (tm 9)),
 o4 11 (.fieldAddr 131 (tm 2)) 10,
 o4 12 (.load (some 34) (tm 11)) 10,
 o4 13 (.fieldAddr 131 (tm 3)) 10,
 o4 14 (.load (some 34) (tm 13)) 10,
 o4 15 (.callV (.func 60) [(tm 12), (tm 14)]) 10,
 o1 16 (.pick (tm 10) (tm 15) (.const (.bool false))),
 o1 17 (.mov (tm 16)),
 o4 18 (.fieldAddr 165 (tm 2)) 17,
 o4 19 (.load none (tm 18)) 17,
 o4 20 (.fieldAddr 165 (tm 3)) 17,
 o4 21 (.load none (tm 20)) 17,
 o4 22 (.callV (.func 61) [(tm 19), (tm 21)]) 17,
 o1 23 (.pick (tm 17) (tm 22) (.const (.bool false))),
 o1 4 (.mov (tm 23))]) .ret))
def zgbQ : AFunc := ⟨24, [(4, none)], zgbQ_c, none⟩
theorem zgbQ_t0 : tableOf Tryz.prog 26 = some zgbQ := by kernel_rfl
theorem zgbQ_t : T0 26 = some zgbQ := withKept_t rfl (withTrue_t rfl zgbQ_t0)
theorem zgbQ_runs {v0 v1 : Value} {h : Heap} {R : RP} {X : XP} (k : RunC Tryz.prog T0 zgbQ_c ⟨[v0, v1, U, U, U, U, U, U, U, U, U, U, U, U, U, U, U, U, U, U, U, U, U, U], [], h, none⟩ (bodyQ Tryz.prog T0 [(4, none)] R X)) :
 Runs Tryz.prog T0 (.fn 26) [v0, v1] h R X := Runs.fn zgbQ_t rfl k
abbrev fn_zbQ : FuncId := 28
def zbQ_l0 : ACode :=
 (.seq (.region [
 o1 49 (.bin .lss (so (.binOp .lss 3 (tm 48) (.const (.int .i64 3)) 3) 0) (tm 48) (.const (.int .i64 3)))]) (.seq (.cond (tm 49)
 .skip
 (.exit 0)) (.seq (.block 1 (.seq (.region [
 o1 50 (.index 3 1 none (tm 47) (tm 48)),
 o1 14 (.mov (tm 50))]) (.region [
 o1 51 (.mov (tm 5)),
 o1 52 (.mov (tm 14)),
 o1 53 (.callV (.func 69) [(tm 51), (tm 52)])]))) (.region [
 o1 54 (.bin .add (so (.binOp .add 3 (tm 48) (.const (.int .i64 1)) 3) 3) (tm 48) (.const (.int .i64 1))),
 o1 48 (.mov (tm 54))]))))
def zbQ_c : ACode :=
 (.seq (.region [
 o1 1 (.box 36 (tm 0)),
 o1 2 (.mov (.const (.slice none 0 0))),
 o1 3 (.mov k0)]) (.seq (.seq (.region [
 o1 15 (.load (some 166) (tm 1)),
 o1 16 (.callV (.func 64) [(tm 15)]),
 o1 17 (.callV (.func 63) [(tm 16)]),
 o1 18 (.callV (.func 62) [(tm 17)]),
 o1 4 (.mov (tm 18))]) (.seq (.region [
 o1 19 (.mov (tm 4)),
 o1 20 (.bin .neq (so (.binOp .neq 41 (tm 19) k0 41) 4) (tm 19) k0)]) (.cond (tm 20)
 (.seq (.region [
 o1 21 (.mov (tm 4)),
 o1 2 (.mov (.const (.slice none 0 0))),
 o1 3 (.mov (tm 21))]) .ret)
 .skip))) (.seq (.region [
 o1 23 (.callV (.func 65) [(.const (.int .i64 65536))]),
 o1 22 (.mov (tm 23)),
 o1 24 (.extract 0 (tm 22)),
 o1 25 (.extract 1 (tm 22)),
 o1 5 (.mov (tm 24)),
 o1 6 (.mov (tm 25))]) (.seq (.region [
 o1 27 (.fieldAddr 0 (tm 1)),
 o1 28 (.load (some 131) (tm 27)),
 o1 29 (.callV (.func 66) [(tm 28)]),
 o1 26 (.mov (tm 29)),
 o1 30 (.extract 0 (tm 26)),
 o1 31 (.extract 1 (tm 26)),
 o1 7 (.mov (tm 30)),
 o1 8 (.mov (tm 31))]) (.seq (.region [
 o1 33 (.fieldAddr 131 (tm 1)),
 o1 34 (.load (some 34) (tm 33)),
 o1 35 (.callV (.func 67) [(tm 34)]),
 o1 32 (.mov (tm 35)),
 o1 36 (.extract 0 (tm 32)),
 o1 37 (.extract 1 (tm 32)),
 o1 9 (.mov (tm 36)),
 o1 10 (.mov (tm 37))]) (.seq (.region [
 o1 39 (.fieldAddr 165 (tm 1)),
 o1 40 (.load none (tm 39)),
 o1 41 (.callV (.func 68) [(tm 40)]),
 o1 38 (.mov (tm 41)),
 o1 42 (.extract 0 (tm 38)),
 o1 43 (.extract 1 (tm 38)),
 o1 11 (.mov (tm 42)),
 o1 12 (.mov (tm 43))]) (.seq (.seq (.region [
 o1 44 (.mov (tm 7)),
 o1 45 (.mov (tm 9)),
 o1 46 (.mov (tm 11)),
 o1 47 (.build [(.slice none 0 0), (.slice none 0 0), (.slice none 0 0)] [(0, 1, (tm 44)), (1, 1, (tm 45)), (2, 1, (tm 46))]),
 o1 48 (.mov k0)]) (.block 0 (.loop zbQ_l0))) (.seq (.region [
 o1 55 (.mov (tm 5)),
 o1 56 (.callV (.func 70) [(tm 55)]),
 o1 57 (.extract 0 (tm 56)),
 o1 58 (.extract 1 (tm 56)),
 o1 2 (.mov (tm 57)),
 o1 3 (.mov (tm 58))]) .ret))))))))
def zbQ : AFunc := ⟨59, [(2, none), (3, none)], zbQ_c, none⟩
theorem zbQ_t0 : tableOf Tryz.prog 28 = some zbQ := by kernel_rfl
theorem zbQ_t : T0 28 = some zbQ := withKept_t rfl (withTrue_t rfl zbQ_t0)
theorem zbQ_runs {v0 : Value} {h : Heap} {R : RP} {X : XP} (k : RunC Tryz.prog T0 zbQ_c ⟨[v0, U, U, U, U, U, U, U, U, U, U, U, U, U, U, U, U, U, U, U, U, U, U, U, U, U, U, U, U, U, U, U, U, U, U, U, U, U, U, U, U, U, U, U, U, U, U, U, U, U, U, U, U, U, U, U, U, U, U], [], h, none⟩ (bodyQ Tryz.prog T0 [(2, none), (3, none)] R X)) :
 Runs Tryz.prog T0 (.fn 28) [v0] h R X := Runs.fn zbQ_t rfl k
def zbQ_l0_J (f0 f1 f2 f3 f4 f5 f6 f7 f8 f9 f10 f11 f12 f13 f15 f16 f17 f18 f19 f20 f21 f22 f23 f24 f25 f26 f27 f28 f29 f30 f31 f32 f33 f34 f35 f36 f37 f38 f39 f40 f41 f42 f43 f44 f45 f46 f47 f55 f56 f57 f58 : Value) (ds : List Deferred) (rd : Option Nat) (I : Nat → Value → Heap → Prop) (m : Nat) (s : St) : Prop := ∃ (v48 : Value), ∃ h : Heap, ∃ (x14 x49 x50 x51 x52 x53 x54 : Value), s = ⟨[f0, f1, f2, f3, f4, f5, f6, f7, f8, f9, f10, f11, f12, f13, x14, f15, f16, f17, f18, f19, f20, f21, f22, f23, f24, f25, f26, f27, f28, f29, f30, f31, f32, f33, f34, f35, f36, f37, f38, f39, f40, f41, f42, f43, f44, f45, f46, f47, v48, x49, x50, x51, x52, x53, x54, f55, f56, f57, f58], ds, h, rd⟩ ∧ I m v48 h
theorem zbQ_l0_rule {f0 f1 f2 f3 f4 f5 f6 f7 f8 f9 f10 f11 f12 f13 f15 f16 f17 f18 f19 f20 f21 f22 f23 f24 f25 f26 f27 f28 f29 f30 f31 f32 f33 f34 f35 f36 f37 f38 f39 f40 f41 f42 f43 f44 f45 f46 f47 f55 f56 f57 f58 : Value} {ds : List Deferred} {rd : Option Nat} {Q : QP} (I : Nat → Value → Heap → Prop) (hb : ∀ (m : Nat) (v48 : Value) (h : Heap) (x14 x49 x50 x51 x52 x53 x54 : Value) , I m v48 h → RunC Tryz.prog T0 zbQ_l0 ⟨[f0, f1, f2, f3, f4, f5, f6, f7, f8, f9, f10, f11, f12, f13, x14, f15, f16, f17, f18, f19, f20, f21, f22, f23, f24, f25, f26, f27, f28, f29, f30, f31, f32, f33, f34, f35, f36, f37, f38, f39, f40, f41, f42, f43, f44, f45, f46, f47, v48, x49, x50, x51, x52, x53, x54, f55, f56, f57, f58], ds, h, rd⟩ (loopQ (zbQ_l0_J f0 f1 f2 f3 f4 f5 f6 f7 f8 f9 f10 f11 f12 f13 f15 f16 f17 f18 f19 f20 f21 f22 f23 f24 f25 f26 f27 f28 f29 f30 f31 f32 f33 f34 f35 f36 f37 f38 f39 f40 f41 f42 f43 f44 f45 f46 f47 f55 f56 f57 f58 ds rd I) m Q))
 (m : Nat) {v48 : Value} {h : Heap} {x14 x49 x50 x51 x52 x53 x54 : Value} (hi : I m v48 h) : RunC Tryz.prog T0 (.loop zbQ_l0) ⟨[f0, f1, f2, f3, f4, f5, f6, f7, f8, f9, f10, f11, f12, f13, x14, f15, f16, f17, f18, f19, f20, f21, f22, f23, f24, f25, f26, f27, f28, f29, f30, f31, f32, f33, f34, f35, f36, f37, f38, f39, f40, f41, f42, f43, f44, f45, f46, f47, v48, x49, x50, x51, x52, x53, x54, f55, f56, f57, f58], ds, h, rd⟩ Q :=
 RunC.loopJ (zbQ_l0_J f0 f1 f2 f3 f4 f5 f6 f7 f8 f9 f10 f11 f12 f13 f15 f16 f17 f18 f19 f20 f21 f22 f23 f24 f25 f26 f27 f28 f29 f30 f31 f32 f33 f34 f35 f36 f37 f38 f39 f40 f41 f42 f43 f44 f45 f46 f47 f55 f56 f57 f58 ds rd I) (fun m s hj => by obtain ⟨v48, h, x14, x49, x50, x51, x52, x53, x54, rfl, hi⟩ := hj; exact hb m v48 h x14 x49 x50 x51 x52 x53 x54 hi) m _ ⟨_, h, _, _, _, _, _, _, _, rfl, hi⟩
theorem zbQ_l0_again {f0 f1 f2 f3 f4 f5 f6 f7 f8 f9 f10 f11 f12 f13 f15 f16 f17 f18 f19 f20 f21 f22 f23 f24 f25 f26 f27 f28 f29 f30 f31 f32 f33 f34 f35 f36 f37 f38 f39 f40 f41 f42 f43 f44 f45 f46 f47 f55 f56 f57 f58 : Value} {ds : List Deferred} {rd : Option Nat} {Q : QP} {I : Nat → Value → Heap → Prop} {m : Nat} (m' : Nat) {v48 : Value} {h : Heap} {x14 x49 x50 x51 x52 x53 x54 : Value} (hm : m' < m) (hi : I m' v48 h) : loopQ (zbQ_l0_J f0 f1 f2 f3 f4 f5 f6 f7 f8 f9 f10 f11 f12 f13 f15 f16 f17 f18 f19 f20 f21 f22 f23 f24 f25 f26 f27 f28 f29 f30 f31 f32 f33 f34 f35 f36 f37 f38 f39 f40 f41 f42 f43 f44 f45 f46 f47 f55 f56 f57 f58 ds rd I) m Q .normal ⟨[f0, f1, f2, f3, f4, f5, f6, f7, f8, f9, f10, f11, f12, f13, x14, f15, f16, f17, f18, f19, f20, f21, f22, f23, f24, f25, f26, f27, f28, f29, f30, f31, f32, f33, f34, f35, f36, f37, f38, f39, f40, f41, f42, f43, f44, f45, f46, f47, v48, x49, x50, x51, x52, x53, x54, f55, f56, f57, f58], ds, h, rd⟩ :=
 loopQ.again m' hm ⟨_, h, _, _, _, _, _, _, _, rfl, hi⟩
def zsbQ_c : ACode :=
 (.seq (.region [
 o1 4 (.box 40 (tm 1)),
 o1 6 (.mov (.const (.bool false)))]) (.seq (.seq (.region [
 o1 13 (.mov (tm 0)),
 o1 14 (.lenSl (tm 13)),
 o1 15 (.bin .eql (so (.binOp .eql 3 (tm 14) k0 3) 4) (tm 14) k0)]) (.cond (tm 15)
 (.seq (.region [
 o1 6 (.mov (.const (.bool false)))]) .ret)
 .skip)) (.seq (.region [
 o1 17 (.mov (tm 0)),
 o1 18 (.callV (.func 11) [(tm 17)]),
 o1 16 (.mov (tm 18)),
 o1 19 (.extract 0 (tm 16)),
 o1 20 (.extract 1 (tm 16)),
 o1 7 (.alloc 40 ((.int .i64 0) :: ((.int .i64 0) :: ((.int .i64 0) :: ((.int .i64 0) :: ((.string ⟨⟨[]⟩⟩) :: ((.int .i64 0) :: ((.int .i64 0) :: (z32 ++ (z32 ++ (z32 ++ (z32 ++ ((.int .i64 0) :: (z32 ++ [(.slice none 0 0), (.slice none 0 0)])))))))))))))),
 o1 8 (.alloc 43 [(.int .i64 0), (.int .i64 0)]),
 o3 (.store 170 (tm 7) (tm 19)),
 o3 (.store 2 (tm 8) (tm 20))]) (.seq (.region [
 o1 22 (.mov (tm 0)),
 o1 23 (.mov (tm 2)),
 o1 24 (.mov (tm 0)),
 o1 25 (.lenSl (tm 24)),
 o1 26 (.callV (.func 16) [(tm 23), (tm 25)]),
 o1 27 (.sliceSl 1 (tm 22) none (some (tm 26)) none),
 o1 28 (.callV (.func 11) [(tm 27)]),
 o1 21 (.mov (tm 28)),
 o1 29 (.extract 0 (tm 21)),
 o1 30 (.extract 1 (tm 21)),
 o1 9 (.alloc 40 ((.int .i64 0) :: ((.int .i64 0) :: ((.int .i64 0) :: ((.int .i64 0) :: ((.string ⟨⟨[]⟩⟩) :: ((.int .i64 0) :: ((.int .i64 0) :: (z32 ++ (z32 ++ (z32 ++ (z32 ++ ((.int .i64 0) :: (z32 ++ [(.slice none 0 0), (.slice none 0 0)])))))))))))))),
 o1 10 (.alloc 43 [(.int .i64 0), (.int .i64 0)]),
 o3 (.store 170 (tm 9) (tm 29)),
 o3 (.store 2 (tm 10) (tm 30))]) (.seq (.region [
 o1 32 (.mov (tm 0)),
 o1 33 (.callV (.func 71) [(tm 32)]),
 o1 34 (.buildSlice 5 [(.int .u8 0)] 1 [(0, 1, (.const (.int .u8 0)))]),
 o1 35 (.append 5 1 1 [(.int .u8 0)] false (tm 33) (tm 34)),
 o1 36 (.callV (.func 11) [(tm 35)]),
 o1 31 (.mov (tm 36)),
 o1 37 (.extract 0 (tm 31)),
 o1 38 (.extract 1 (tm 31)),
 o1 11 (.alloc 40 ((.int .i64 0) :: ((.int .i64 0) :: ((.int .i64 0) :: ((.int .i64 0) :: ((.string ⟨⟨[]⟩⟩) :: ((.int .i64 0) :: ((.int .i64 0) :: (z32 ++ (z32 ++ (z32 ++ (z32 ++ ((.int .i64 0) :: (z32 ++ [(.slice none 0 0), (.slice none 0 0)])))))))))))))),
 o1 12 (.alloc 43 [(.int .i64 0), (.int .i64 0)]),
 o3 (.store 170 (tm 11) (tm 37)),
 o3 (.store 2 (tm 12) (tm 38))]) (.seq (.region [
 o1 39 (.load (some 2) (tm 8)),
 o1 40 (.build [(.int .i64 0), (.int .i64 0)] []),
 o1 41 (.bin .eql (so (.binOp .eql 43 (tm 39) (tm 40) 43) 4) (tm 39) (tm 40)),
 o1 42 (.mov (tm 41)),
 o4 43 (.load (some 170) (tm 7)) 42,
 o4 44 (.load (some 170) (tm 4)) 42,
 o4 45 (.callV (.func 13) [(tm 43), (tm 44)]) 42,
 o1 46 (.pick (tm 42) (tm 45) (.const (.bool false))),
 o1 47 (.mov (tm 46)),
 o4 48 (.fieldAddr 0 (tm 10)) 47,
 o4 49 (.load none (tm 48)) 47,
 o4 50 (.bin .neq (so (.binOp .neq 41 (tm 49) k0 41) 4) (tm 49) k0) 47,
 o1 51 (.pick (tm 47) (tm 50) (.const (.bool false))),
 o1 52 (.mov (tm 51)),
 o4 53 (.load (some 2) (tm 12)) 52,
 o4 54 (.mov (tm 0)) 52,
 o4 55 (.lenSl (tm 54)) 52,
 o4 56 (.build [(.int .i64 0), (.int .i64 0)] [(0, 1, (.const (.int .i64 4))), (1, 1, (tm 55))]) 52,
 o4 57 (.bin .eql (so (.binOp .eql 43 (tm 53) (tm 56) 43) 4) (tm 53) (tm 56)) 52,
 o1 58 (.pick (tm 52) (tm 57) (.const (.bool false))),
 o1 6 (.mov (tm 58))]) .ret))))))
def zsbQ : AFunc := ⟨59, [(6, none)], zsbQ_c, none⟩
theorem zsbQ_t0 : tableOf Tryz.prog 29 = some zsbQ := by kernel_rfl
abbrev fn_zwbQ : FuncId := 30
def zwbQ_c : ACode :=
 (.seq (.region [
 o1 5 (.recover),
 o1 2 (.mov (tm 5))]) (.seq (.region [
 o1 6 (.mov (tm 2)),
 o1 7 (.eq .iface true (so (.binOp .neq 20 (tm 6) (.const .nilIface) 20) 4) (tm 6) (.const .nilIface))]) (.cond (tm 7)
 (.seq (.region [
 o1 9 (.mov (tm 2)),
 o1 10 (.assertTo 66 (.agg ⟨[(.int .i64 0), (.int .i64 0)]⟩) true (tm 9)),
 o1 8 (.mov (tm 10)),
 o1 11 (.extract 0 (tm 8)),
 o1 12 (.extract 1 (tm 8)),
 o1 3 (.alloc 66 [(.int .i64 0), (.int .i64 0)]),
 o3 (.store 2 (tm 3) (tm 11)),
 o1 4 (.mov (tm 12))]) (.seq (.seq (.region [
 o1 13 (.mov (tm 4)),
 o1 14 (.raw (so (.unOp .not 4 (tm 13)) 4))]) (.cond (tm 14)
 (.region [
 o1 15 (.mov (tm 2)),
 o3 (.panic (tm 15))])
 .skip)) (.regionD [
 o1 16 (.build ((.int .i64 0) :: ((.int .i64 0) :: ((.int .i64 0) :: ((.int .i64 0) :: ((.string ⟨⟨[]⟩⟩) :: ((.int .i64 0) :: ((.int .i64 0) :: (z32 ++ (z32 ++ (z32 ++ (z32 ++ ((.int .i64 0) :: (z32 ++ [(.slice none 0 0), (.slice none 0 0)]))))))))))))) []),
 o1 17 (.fieldAddr 0 (tm 3)),
 o1 18 (.load (some 2) (tm 17)),
 ⟨none, .store 170 (tm 0) (tm 16), none, [(some 18, .load (some 2) (tm 17), none), (some 17, .fieldAddr 0 (tm 3), none)], false⟩,
 ⟨none, .store 2 (tm 1) (tm 18), none, [], true⟩])))
 .skip)))
def zwbQ : AFunc := ⟨19, [], zwbQ_c, none⟩
theorem zwbQ_t0 : tableOf Tryz.prog 30 = some zwbQ := by kernel_rfl
theorem zwbQ_t : T0 30 = some zwbQ := withKept_t rfl (withTrue_t rfl zwbQ_t0)
theorem zwbQ_df {v0 v1 : Value} {u : FrameMode} {h : Heap} {R : FrameMode → Heap → Prop} {X : List PanicEntry → FrameMode → Heap → Prop} (k : RunT Tryz.prog T0 zwbQ_c ⟨⟨[v0, v1, U, U, U, U, U, U, U, U, U, U, U, U, U, U, U, U, U], [], h, none⟩, u⟩ (doneQ [] R X)) :
 RunDf Tryz.prog T0 30 [v0, v1] u h R X := RunDf.fn zwbQ_t rfl k
abbrev fn_zbcQ : FuncId := 31
def zbcQ_c : ACode :=
 (.seq (.region [
 o1 6 (.mov (tm 0)),
 o1 7 (.raw (so (.unOp .not 4 (tm 6)) 4))]) (.cond (tm 7)
 (.region [
 o1 8 (.mov (tm 1)),
 o1 9 (.mov (tm 2)),
 o1 10 (.build [(.int .i64 0), (.int .i64 0)] [(0, 1, (tm 8)), (1, 1, (tm 9))]),
 o1 11 (.build [(.int .i64 0), (.int .i64 0)] [(0, 2, (tm 10))]),
 o1 12 (.mkIface 66 (tm 11)),
 o3 (.panic (tm 12))])
 .skip))
def zbcQ : AFunc := ⟨13, [], zbcQ_c, none⟩
theorem zbcQ_t0 : tableOf Tryz.prog 31 = some zbcQ := by kernel_rfl
theorem zbcQ_t : T0 31 = some zbcQ := withKept_t rfl (withTrue_t rfl zbcQ_t0)
theorem zbcQ_runs {v0 v1 v2 : Value} {h : Heap} {R : RP} {X : XP} (k : RunC Tryz.prog T0 zbcQ_c ⟨[v0, v1, v2, U, U, U, U, U, U, U, U, U, U], [], h, none⟩ (bodyQ Tryz.prog T0 [] R X)) :
 Runs Tryz.prog T0 (.fn 31) [v0, v1, v2] h R X := Runs.fn zbcQ_t rfl k
abbrev fn_zocQ : FuncId := 32
def zocQ_c : ACode :=
 (.seq (.region [
 o1 2 (.mov (.const (.pointer none)))]) (.seq (.region [
 o1 3 (.mov (tm 0)),
 o1 4 (.callV (.func 72) [(tm 3)]),
 o1 5 (.build [(.slice none 0 0), (.int .i64 0), (.int .i64 0), (.int .i64 0), (.bool false)] [(0, 1, (tm 4)), (4, 1, (.const (.bool true)))]),
 o1 6 (.box 111 (tm 5)),
 o1 2 (.mov (tm 6))]) .ret))
def zocQ : AFunc := ⟨7, [(2, none)], zocQ_c, none⟩
theorem zocQ_t0 : tableOf Tryz.prog 32 = some zocQ := by kernel_rfl
theorem zocQ_t : T0 32 = some zocQ := withKept_t rfl (withTrue_t rfl zocQ_t0)
theorem zocQ_runs {v0 : Value} {h : Heap} {R : RP} {X : XP} (k : RunC Tryz.prog T0 zocQ_c ⟨[v0, U, U, U, U, U, U], [], h, none⟩ (bodyQ Tryz.prog T0 [(2, none)] R X)) :
 Runs Tryz.prog T0 (.fn 32) [v0] h R X := Runs.fn zocQ_t rfl k
abbrev fn_zzcQ : FuncId := 33
def zzcQ_c : ACode :=
 (.seq (.region [
 o1 2 (.mov k0)]) (.seq (.region [
 o1 3 (.mov (tm 0)),
 o1 4 (.mov (tm 0)),
 o1 5 (.mkFunc (.func 74) [(tm 4)] []),
 o1 6 (.callV (.func 73) [(tm 3), (tm 5)]),
 o1 2 (.mov (tm 6))]) .ret))
def zzcQ : AFunc := ⟨7, [(2, none)], zzcQ_c, none⟩
theorem zzcQ_t0 : tableOf Tryz.prog 33 = some zzcQ := by kernel_rfl
theorem zzcQ_t : T0 33 = some zzcQ := withKept_t rfl (withTrue_t rfl zzcQ_t0)
theorem zzcQ_runs {v0 : Value} {h : Heap} {R : RP} {X : XP} (k : RunC Tryz.prog T0 zzcQ_c ⟨[v0, U, U, U, U, U, U], [], h, none⟩ (bodyQ Tryz.prog T0 [(2, none)] R X)) :
 Runs Tryz.prog T0 (.fn 33) [v0] h R X := Runs.fn zzcQ_t rfl k
abbrev fn_zfcQ : FuncId := 34
def zfcQ_c : ACode :=
 (.seq (.region [
 o1 1 (.box 72 (tm 0))]) (.seq (.region [
 o1 3 (.fieldAddr 0 (tm 1)),
 o1 4 (.load none (tm 3)),
 o1 5 (.callV (.func 41) [(tm 4)]),
 o1 2 (.alloc 43 [(.int .i64 0), (.int .i64 0)]),
 o3 (.store 2 (tm 2) (tm 5))]) (.regionD [
 o1 6 (.fieldAddr 0 (tm 2)),
 o1 7 (.load none (tm 6)),
 o1 8 (.bin .eql (so (.binOp .eql 41 (tm 7) k0 41) 4) (tm 7) k0),
 o1 9 (.mov (tm 8)),
 o5 10 (.fieldAddr 0 (tm 1)) 9,
 o5 11 (.load none (tm 10)) 9,
 o1 15 (.fieldAddr 0 (tm 2)),
 o1 16 (.load none (tm 15)),
 o1 17 (.fieldAddr 1 (tm 2)),
 o1 18 (.load none (tm 17)),
 ⟨some 12, .callV (.func 75) [(tm 11)], some (9, false), [(some 18, .load none (tm 17), none), (some 17, .fieldAddr 1 (tm 2), none), (some 16, .load none (tm 15), none), (some 15, .fieldAddr 0 (tm 2), none)], false⟩,
 o5 13 (.bin .gtr (so (.binOp .gtr 3 (tm 12) k0 3) 4) (tm 12) k0) 9,
 o1 14 (.pick (tm 9) (.const (.bool true)) (tm 13)),
 o2 19 (.callV (.func 31) [(tm 14), (tm 16), (tm 18)])])))
def zfcQ : AFunc := ⟨20, [], zfcQ_c, none⟩
theorem zfcQ_t0 : tableOf Tryz.prog 34 = some zfcQ := by kernel_rfl
theorem zfcQ_t : T0 34 = some zfcQ := withKept_t rfl (withTrue_t rfl zfcQ_t0)
theorem zfcQ_runs {v0 : Value} {h : Heap} {R : RP} {X : XP} (k : RunC Tryz.prog T0 zfcQ_c ⟨[v0, U, U, U, U, U, U, U, U, U, U, U, U, U, U, U, U, U, U, U], [], h, none⟩ (bodyQ Tryz.prog T0 [] R X)) :
 Runs Tryz.prog T0 (.fn 34) [v0] h R X := Runs.fn zfcQ_t rfl k
abbrev fn_zgcQ : FuncId := 35
def zgcQ_c : ACode :=
 (.seq (.region [
 o1 2 (.box 72 (tm 0)),
 o1 4 (.mov k0)]) (.seq (.region [
 o1 7 (.load (some 2) (tm 2)),
 o1 8 (.callV (.func 38) [(tm 7)]),
 o1 5 (.mov (tm 8))]) (.seq (.region [
 o1 9 (.fieldAddr 0 (tm 2)),
 o1 10 (.load none (tm 9)),
 o1 11 (.callV (.func 33) [(tm 10)]),
 o1 6 (.mov (tm 11))]) (.seq (.region [
 o1 12 (.load (some 2) (tm 2)),
 o1 13 (.callV (.func 34) [(tm 12)])]) (.seq (.region [
 o1 14 (.mov (tm 1)),
 o1 15 (.mov (tm 6)),
 o1 16 (.callV (tm 14) [(tm 15)]),
 o1 17 (.mov (tm 5)),
 o1 18 (.callV (.func 31) [(tm 16), (.const (.int .i64 3)), (tm 17)])]) (.seq (.region [
 o1 19 (.mov (tm 6)),
 o1 4 (.mov (tm 19))]) .ret))))))
def zgcQ : AFunc := ⟨20, [(4, none)], zgcQ_c, none⟩
theorem zgcQ_t0 : tableOf Tryz.prog 35 = some zgcQ := by kernel_rfl
theorem zgcQ_t : T0 35 = some zgcQ := withKept_t rfl (withTrue_t rfl zgcQ_t0)
theorem zgcQ_runs {v0 v1 : Value} {h : Heap} {R : RP} {X : XP} (k : RunC Tryz.prog T0 zgcQ_c ⟨[v0, v1, U, U, U, U, U, U, U, U, U, U, U, U, U, U, U, U, U, U], [], h, none⟩ (bodyQ Tryz.prog T0 [(4, none)] R X)) :
 Runs Tryz.prog T0 (.fn 35) [v0, v1] h R X := Runs.fn zgcQ_t rfl k
abbrev fn_zccQ : FuncId := 36
def zccQ_c : ACode :=
 (.seq (.region [
 o1 2 (.mov (.const (.bool false)))]) (.seq (.region [
 o1 3 (.mov (tm 0)),
 o1 4 (.bin .geq (so (.binOp .geq 3 (tm 3) (.const (.int .i64 1)) 3) 4) (tm 3) (.const (.int .i64 1))),
 o1 5 (.mov (tm 4)),
 o4 6 (.mov (tm 0)) 5,
 o4 7 (.bin .leq (so (.binOp .leq 3 (tm 6) (.const (.int .i64 1099511627776)) 3) 4) (tm 6) (.const (.int .i64 1099511627776))) 5,
 o1 8 (.pick (tm 5) (tm 7) (.const (.bool false))),
 o1 2 (.mov (tm 8))]) .ret))
def zccQ : AFunc := ⟨9, [(2, none)], zccQ_c, none⟩
theorem zccQ_t0 : tableOf Tryz.prog 36 = some zccQ := by kernel_rfl
theorem zccQ_t : T0 36 = some zccQ := withKept_t rfl (withTrue_t rfl zccQ_t0)
theorem zccQ_runs {v0 : Value} {h : Heap} {R : RP} {X : XP} (k : RunC Tryz.prog T0 zccQ_c ⟨[v0, U, U, U, U, U, U, U, U], [], h, none⟩ (bodyQ Tryz.prog T0 [(2, none)] R X)) :
 Runs Tryz.prog T0 (.fn 36) [v0] h R X := Runs.fn zccQ_t rfl k
abbrev fn_zacQ : FuncId := 37
def zacQ_c : ACode :=
 (.seq (.region [
 o1 2 (.mov (.const (.bool false)))]) (.seq (.region [
 o1 3 (.mov (tm 0)),
 o1 4 (.bin .geq (so (.binOp .geq 3 (tm 3) (.const (.int .i64 1)) 3) 4) (tm 3) (.const (.int .i64 1))),
 o1 5 (.mov (tm 4)),
 o4 6 (.mov (tm 0)) 5,
 o4 7 (.bin .leq (so (.binOp .leq 3 (tm 6) (.const (.int .i64 1073741824)) 3) 4) (tm 6) (.const (.int .i64 1073741824))) 5,
 o1 8 (.pick (tm 5) (tm 7) (.const (.bool false))),
 o1 2 (.mov (tm 8))]) .ret))
def zacQ : AFunc := ⟨9, [(2, none)], zacQ_c, none⟩
theorem zacQ_t0 : tableOf Tryz.prog 37 = some zacQ := by kernel_rfl
theorem zacQ_t : T0 37 = some zacQ := withKept_t rfl (withTrue_t rfl zacQ_t0)
theorem zacQ_runs {v0 : Value} {h : Heap} {R : RP} {X : XP} (k : RunC Tryz.prog T0 zacQ_c ⟨[v0, U, U, U, U, U, U, U, U], [], h, none⟩ (bodyQ Tryz.prog T0 [(2, none)] R X)) :
 Runs Tryz.prog T0 (.fn 37) [v0] h R X := Runs.fn zacQ_t rfl k
abbrev fn_zecQ : FuncId := 38
def zecQ_c : ACode :=
 (.seq (.region [
 o1 1 (.box 72 (tm 0)),
 o1 2 (.mov k0)]) (.seq (.regionD [
 o1 3 (.fieldAddr 1 (tm 1)),
 o1 4 (.load none (tm 3)),
 o1 5 (.fieldAddr 0 (tm 1)),
 o1 6 (.load none (tm 5)),
 ⟨some 7, .callV (.func 75) [(tm 6)], none, [(some 4, .load none (tm 3), none), (some 3, .fieldAddr 1 (tm 1), none)], false⟩,
 o2 8 (.bin .sub (so (.binOp .sub 3 (tm 4) (tm 7) 3) 3) (tm 4) (tm 7)),
 o2 2 (.mov (tm 8))]) .ret))
def zecQ : AFunc := ⟨9, [(2, none)], zecQ_c, none⟩
theorem zecQ_t0 : tableOf Tryz.prog 38 = some zecQ := by kernel_rfl
theorem zecQ_t : T0 38 = some zecQ := withKept_t rfl (withTrue_t rfl zecQ_t0)
theorem zecQ_runs {v0 : Value} {h : Heap} {R : RP} {X : XP} (k : RunC Tryz.prog T0 zecQ_c ⟨[v0, U, U, U, U, U, U, U, U], [], h, none⟩ (bodyQ Tryz.prog T0 [(2, none)] R X)) :
 Runs Tryz.prog T0 (.fn 38) [v0] h R X := Runs.fn zecQ_t rfl k
abbrev fn_zqcQ : FuncId := 39
def zqcQ_c : ACode :=
 (.seq (.region [
 o1 2 (.box 69 (tm 0)),
 o1 3 (.box 3 (tm 1)),
 o1 4 (.mov (.const (.slice none 0 0)))]) (.seq (.region [
 o1 5 (.load none (tm 2)),
 o1 6 (.mkFunc (.func 77) [] [(tm 2), (tm 3)]),
 o1 7 (.callV (.func 76) [(tm 5), (tm 6)]),
 o1 4 (.mov (tm 7))]) .ret))
def zqcQ : AFunc := ⟨8, [(4, none)], zqcQ_c, none⟩
theorem zqcQ_t0 : tableOf Tryz.prog 39 = some zqcQ := by kernel_rfl
theorem zqcQ_t : T0 39 = some zqcQ := withKept_t rfl (withTrue_t rfl zqcQ_t0)
theorem zqcQ_runs {v0 v1 : Value} {h : Heap} {R : RP} {X : XP} (k : RunC Tryz.prog T0 zqcQ_c ⟨[v0, v1, U, U, U, U, U, U], [], h, none⟩ (bodyQ Tryz.prog T0 [(4, none)] R X)) :
 Runs Tryz.prog T0 (.fn 39) [v0, v1] h R X := Runs.fn zqcQ_t rfl k
abbrev fn_zaQ : FuncId := 40
def zaQ_c : ACode :=
 (.seq (.region [
 o1 2 (.alloc 36 ((.string ⟨⟨[]⟩⟩) :: ((.int .i64 0) :: ((.int .i64 0) :: (z32 ++ (z32 ++ (z32 ++ (z32 ++ ((.int .i64 0) :: (z32 ++ [(.slice none 0 0), (.slice none 0 0)])))))))))),
 o1 3 (.alloc 43 [(.int .i64 0), (.int .i64 0)])]) (.seq (.region [
 o1 7 (.mov (tm 0)),
 o1 8 (.callV (.func 32) [(tm 7)]),
 o1 4 (.mov (tm 8))]) (.seq (.region [
 o1 5 (.alloc 43 [(.int .i64 0), (.int .i64 0)])]) (.seq (.region [
 o1 9 (.mov (tm 4)),
 o1 10 (.mov (tm 0)),
 o1 11 (.lenSl (tm 10)),
 o1 12 (.callV (.func 80) [(tm 9), (tm 11), (tm 5), (.func 81)]),
 o1 13 (.build ((.string ⟨⟨[]⟩⟩) :: ((.int .i64 0) :: ((.int .i64 0) :: (z32 ++ (z32 ++ (z32 ++ (z32 ++ ((.int .i64 0) :: (z32 ++ [(.slice none 0 0), (.slice none 0 0)]))))))))) [(0, 131, (tm 12))]),
 o1 6 (.alloc 36 ((.string ⟨⟨[]⟩⟩) :: ((.int .i64 0) :: ((.int .i64 0) :: (z32 ++ (z32 ++ (z32 ++ (z32 ++ ((.int .i64 0) :: (z32 ++ [(.slice none 0 0), (.slice none 0 0)])))))))))),
 o3 (.store 166 (tm 6) (tm 13))]) (.seq (.region [
 o1 14 (.mov (tm 4)),
 o1 15 (.mov (tm 0)),
 o1 16 (.lenSl (tm 15)),
 o1 17 (.callV (.func 82) [(tm 14), (tm 16), (tm 5), (.func 83)]),
 o1 18 (.fieldAddr 131 (tm 6)),
 o3 (.store 34 (tm 18) (tm 17))]) (.seq (.region [
 o1 19 (.mov (tm 4)),
 o1 20 (.mov (tm 0)),
 o1 21 (.lenSl (tm 20)),
 o1 22 (.callV (.func 84) [(tm 19), (tm 21), (tm 5), (.func 85)]),
 o1 23 (.fieldAddr 165 (tm 6)),
 o3 (.store 1 (tm 23) (tm 22))]) (.seq (.seq (.region [
 o1 24 (.load (some 2) (tm 5)),
 o1 25 (.build [(.int .i64 0), (.int .i64 0)] []),
 o1 26 (.bin .eql (so (.binOp .eql 43 (tm 24) (tm 25) 43) 4) (tm 24) (tm 25))]) (.cond (tm 26)
 (.region [
 o1 27 (.mov (tm 4)),
 o1 28 (.callV (.func 41) [(tm 27)]),
 o3 (.store 2 (tm 5) (tm 28))])
 .skip)) (.seq (.seq (.region [
 o1 29 (.load (some 2) (tm 5)),
 o1 30 (.build [(.int .i64 0), (.int .i64 0)] []),
 o1 31 (.bin .neq (so (.binOp .neq 43 (tm 29) (tm 30) 43) 4) (tm 29) (tm 30))]) (.cond (tm 31)
 (.seq (.regionD [
 o1 32 (.build ((.string ⟨⟨[]⟩⟩) :: ((.int .i64 0) :: ((.int .i64 0) :: (z32 ++ (z32 ++ (z32 ++ (z32 ++ ((.int .i64 0) :: (z32 ++ [(.slice none 0 0), (.slice none 0 0)]))))))))) []),
 o1 33 (.load (some 2) (tm 5)),
 ⟨none, .store 166 (tm 2) (tm 32), none, [(some 33, .load (some 2) (tm 5), none)], false⟩,
 ⟨none, .store 2 (tm 3) (tm 33), none, [], true⟩]) .ret)
 .skip)) (.seq (.regionD [
 o1 34 (.load (some 166) (tm 6)),
 o1 35 (.load (some 2) (tm 5)),
 ⟨none, .store 166 (tm 2) (tm 34), none, [(some 35, .load (some 2) (tm 5), none)], false⟩,
 ⟨none, .store 2 (tm 3) (tm 35), none, [], true⟩]) .ret)))))))))
def zaQ : AFunc := ⟨36, [(2, some (some 166)), (3, some (some 2))], zaQ_c, none⟩
theorem zaQ_t0 : tableOf Tryz.prog 40 = some zaQ := by kernel_rfl
theorem zaQ_t : T0 40 = some zaQ := withKept_t rfl (withTrue_t rfl zaQ_t0)
theorem zaQ_runs {v0 : Value} {h : Heap} {R : RP} {X : XP} (k : RunC Tryz.prog T0 zaQ_c ⟨[v0, U, U, U, U, U, U, U, U, U, U, U, U, U, U, U, U, U, U, U, U, U, U, U, U, U, U, U, U, U, U, U, U, U, U, U], [], h, none⟩ (bodyQ Tryz.prog T0 [(2, some (some 166)), (3, some (some 2))] R X)) :
 Runs Tryz.prog T0 (.fn 40) [v0] h R X := Runs.fn zaQ_t rfl k
abbrev fn_zscQ : FuncId := 41
def zscQ_c : ACode :=
 (.seq (.region [
 o1 2 (.alloc 43 [(.int .i64 0), (.int .i64 0)])]) (.seq (.block 0 (.seq (.region [
 o1 4 (.mov (tm 0)),
 o1 5 (.eq .ptr false (so (.binOp .eql 69 (tm 4) (.const (.pointer none)) 69) 4) (tm 4) (.const (.pointer none))),
 o1 6 (.mov (tm 5)),
 o5 7 (.mov (tm 0)) 6,
 o5 8 (.nilCheck (tm 7)) 6,
 o5 9 (.fieldAddr 4 (tm 8)) 6,
 o5 10 (.load none (tm 9)) 6,
 o5 11 (.raw (so (.unOp .not 4 (tm 10)) 4)) 6,
 o1 12 (.pick (tm 6) (.const (.bool true)) (tm 11)),
 o1 3 (.mov (tm 12))]) (.cond (tm 3)
 (.seq (.region [
 o1 13 (.build [(.int .i64 0), (.int .i64 0)] [(0, 1, (.const (.int .i64 1)))]),
 o3 (.store 2 (tm 2) (tm 13))]) .ret)
 (.seq (.regionD [
 o2 15 (.mov (tm 0)),
 o2 16 (.nilCheck (tm 15)),
 o2 17 (.fieldAddr 2 (tm 16)),
 o2 18 (.fieldAddr 0 (tm 17)),
 o2 19 (.load none (tm 18)),
 o2 20 (.bin .eql (so (.binOp .eql 41 (tm 19) k0 41) 4) (tm 19) k0),
 o2 21 (.mov (tm 20)),
 o4 22 (.mov (tm 0)) 21,
 o4 23 (.nilCheck (tm 22)) 21,
 o4 24 (.fieldAddr 1 (tm 23)) 21,
 o4 25 (.load none (tm 24)) 21,
 o4 26 (.mov (tm 0)) 21,
 o4 27 (.nilCheck (tm 26)) 21,
 o4 28 (.fieldAddr 0 (tm 27)) 21,
 o4 29 (.load none (tm 28)) 21,
 o4 30 (.lenSl (tm 29)) 21,
 ⟨some 31, .bin .lss (so (.binOp .lss 3 (tm 25) (tm 30) 3) 4) (tm 25) (tm 30), some (21, true), [], true⟩,
 o2 32 (.pick (tm 21) (tm 31) (.const (.bool false))),
 o2 14 (.mov (tm 32))]) (.cond (tm 14)
 (.seq (.region [
 o1 33 (.mov (tm 0)),
 o1 34 (.nilCheck (tm 33)),
 o1 35 (.fieldAddr 1 (tm 34)),
 o1 36 (.load none (tm 35)),
 o1 37 (.build [(.int .i64 0), (.int .i64 0)] [(0, 1, (.const (.int .i64 4))), (1, 1, (tm 36))]),
 o3 (.store 2 (tm 2) (tm 37))]) .ret)
 .skip))))) (.seq (.region [
 o1 38 (.mov (tm 0)),
 o1 39 (.nilCheck (tm 38)),
 o1 40 (.fieldAddr 2 (tm 39)),
 o1 41 (.load (some 2) (tm 40)),
 o3 (.store 2 (tm 2) (tm 41))]) .ret)))
def zscQ : AFunc := ⟨42, [(2, some (some 2))], zscQ_c, none⟩
theorem zscQ_t0 : tableOf Tryz.prog 41 = some zscQ := by kernel_rfl
theorem zscQ_t : T0 41 = some zscQ := withKept_t rfl (withTrue_t rfl zscQ_t0)
theorem zscQ_runs {v0 : Value} {h : Heap} {R : RP} {X : XP} (k : RunC Tryz.prog T0 zscQ_c ⟨[v0, U, U, U, U, U, U, U, U, U, U, U, U, U, U, U, U, U, U, U, U, U, U, U, U, U, U, U, U, U, U, U, U, U, U, U, U, U, U, U, U, U], [], h, none⟩ (bodyQ Tryz.prog T0 [(2, some (some 2))] R X)) :
 Runs Tryz.prog T0 (.fn 41) [v0] h R X := Runs.fn zscQ_t rfl k
abbrev fn_zzbQ : FuncId := 54
def zzbQ_c : ACode :=
 (.seq (.region [
 o1 2 (.mov (.const (.slice none 0 0))),
 o1 3 (.mov k0)]) (.seq (.region [
 o1 8 (.callV (.func 65) [(.const (.int .i64 65536))]),
 o1 7 (.mov (tm 8)),
 o1 9 (.extract 0 (tm 7)),
 o1 10 (.extract 1 (tm 7)),
 o1 4 (.mov (tm 9)),
 o1 5 (.mov (tm 10))]) (.seq (.seq (.region [
 o1 11 (.mov (tm 0)),
 o1 12 (.callV (.func 90) [(tm 11)]),
 o1 13 (.mov (tm 4)),
 o1 14 (.invoke (tm 12) "landfall/msg.write" [(tm 13)]),
 o1 6 (.mov (tm 14))]) (.seq (.region [
 o1 15 (.mov (tm 6)),
 o1 16 (.bin .neq (so (.binOp .neq 41 (tm 15) k0 41) 4) (tm 15) k0)]) (.cond (tm 16)
 (.seq (.region [
 o1 17 (.mov (tm 6)),
 o1 2 (.mov (.const (.slice none 0 0))),
 o1 3 (.mov (tm 17))]) .ret)
 .skip))) (.seq (.region [
 o1 18 (.mov (tm 4)),
 o1 19 (.callV (.func 70) [(tm 18)]),
 o1 20 (.extract 0 (tm 19)),
 o1 21 (.extract 1 (tm 19)),
 o1 2 (.mov (tm 20)),
 o1 3 (.mov (tm 21))]) .ret))))
def zzbQ : AFunc := ⟨22, [(2, none), (3, none)], zzbQ_c, none⟩
theorem zzbQ_t0 : tableOf Tryz.prog 54 = some zzbQ := by kernel_rfl
theorem zzbQ_t : T0 54 = some zzbQ := withKept_t rfl (withTrue_t rfl zzbQ_t0)
theorem zzbQ_runs {v0 : Value} {h : Heap} {R : RP} {X : XP} (k : RunC Tryz.prog T0 zzbQ_c ⟨[v0, U, U, U, U, U, U, U, U, U, U, U, U, U, U, U, U, U, U, U, U, U], [], h, none⟩ (bodyQ Tryz.prog T0 [(2, none), (3, none)] R X)) :
 Runs Tryz.prog T0 (.fn 54) [v0] h R X := Runs.fn zzbQ_t rfl k
abbrev fn_zibQ : FuncId := 60
def zibQ_c : ACode :=
 (.seq (.region [
 o1 2 (.box 33 (tm 0)),
 o1 3 (.box 33 (tm 1)),
 o1 4 (.mov (.const (.bool false)))]) (.seq (.region [
 o1 5 (.fieldAddr 0 (tm 2)),
 o1 6 (.load none (tm 5)),
 o1 7 (.fieldAddr 0 (tm 3)),
 o1 8 (.load none (tm 7)),
 o1 9 (.bin .eql (so (.binOp .eql 3 (tm 6) (tm 8) 3) 4) (tm 6) (tm 8)),
 o1 10 (.mov (tm 9)),
 o4 11 (.fieldAddr 1 (tm 2)) 10,
 o4 12 (.load (some 32) (tm 11)) 10,
 o4 13 (.fieldAddr 1 (tm 3)) 10,
 o4 14 (.load (some 32) (tm 13)) 10,
 o4 15 (.bin .eql (so (.binOp .eql 28 (tm 12) (tm 14) 28) 4) (tm 12) (tm 14)) 10,
 o1 16 (.pick (tm 10) (tm 15) (.const (.bool false))),
 o1 17 (.mov (tm 16)),
 o4 18 (.fieldAddr 33 (tm 2)) 17,
 o4 19 (.load none (tm 18)) 17,
 o4 20 (.fieldAddr 33 (tm 3)) 17,
 o4 21 (.load none (tm 20)) 17,
 o4 22 (.callV (.func 98) [(tm 19), (tm 21)]) 17,
 o1 23 (.pick (tm 17) (tm 22) (.const (.bool false))),
 o1 4 (.mov (tm 23))]) .ret))
def zibQ : AFunc := ⟨24, [(4, none)], zibQ_c, none⟩
theorem zibQ_t0 : tableOf Tryz.prog 60 = some zibQ := by kernel_rfl
theorem zibQ_t : T0 60 = some zibQ := withKept_t rfl (withTrue_t rfl zibQ_t0)
theorem zibQ_runs {v0 v1 : Value} {h : Heap} {R : RP} {X : XP} (k : RunC Tryz.prog T0 zibQ_c ⟨[v0, v1, U, U, U, U, U, U, U, U, U, U, U, U, U, U, U, U, U, U, U, U, U, U], [], h, none⟩ (bodyQ Tryz.prog T0 [(4, none)] R X)) :
 Runs Tryz.prog T0 (.fn 60) [v0, v1] h R X := Runs.fn zibQ_t rfl k
abbrev fn_zkbQ : FuncId := 61
def zkbQ_l0 : ACode :=
 (.seq (.seq (.region [
 o1 12 (.mov (tm 5)),
 o1 13 (.mov (tm 12)),
 o4 14 (.mov (tm 6)) 13,
 o4 15 (.mov (tm 0)) 13,
 o4 16 (.lenSl (tm 15)) 13,
 o4 17 (.bin .lss (so (.binOp .lss 3 (tm 14) (tm 16) 3) 4) (tm 14) (tm 16)) 13,
 o1 18 (.pick (tm 13) (tm 17) (.const (.bool false)))]) (.cond (tm 18)
 .skip
 (.exit 0))) (.seq (.block 1 (.regionD [
 o1 21 (.mov (tm 0)),
 o1 22 (.mov (tm 6)),
 o1 23 (.indexSl 5 (tm 21) (tm 22)),
 o1 24 (.load (some 5) (tm 23)),
 o1 25 (.mov (tm 1)),
 o1 26 (.mov (tm 6)),
 o1 27 (.indexSl 5 (tm 25) (tm 26)),
 o1 28 (.load (some 5) (tm 27)),
 o2 29 (.bin .eql (so (.binOp .eql 132 (tm 24) (tm 28) 132) 4) (tm 24) (tm 28)),
 o2 5 (.mov (tm 29))])) (.region [
 o1 19 (.mov (tm 6)),
 o1 20 (.bin .add (so (.binOp .add 3 (tm 19) (.const (.int .i64 1)) 3) 3) (tm 19) (.const (.int .i64 1))),
 o1 6 (.mov (tm 20))])))
def zkbQ_c : ACode :=
 (.seq (.region [
 o1 4 (.mov (.const (.bool false)))]) (.seq (.region [
 o1 7 (.mov (tm 0)),
 o1 8 (.lenSl (tm 7)),
 o1 9 (.mov (tm 1)),
 o1 10 (.lenSl (tm 9)),
 o1 11 (.bin .eql (so (.binOp .eql 3 (tm 8) (tm 10) 3) 4) (tm 8) (tm 10)),
 o1 5 (.mov (tm 11))]) (.seq (.seq (.region [
 o1 6 (.mov k0)]) (.block 0 (.loop zkbQ_l0))) (.seq (.region [
 o1 30 (.mov (tm 5)),
 o1 4 (.mov (tm 30))]) .ret))))
def zkbQ : AFunc := ⟨31, [(4, none)], zkbQ_c, none⟩
theorem zkbQ_t0 : tableOf Tryz.prog 61 = some zkbQ := by kernel_rfl
theorem zkbQ_t : T0 61 = some zkbQ := withKept_t rfl (withTrue_t rfl zkbQ_t0)
theorem zkbQ_runs {v0 v1 : Value} {h : Heap} {R : RP} {X : XP} (k : RunC Tryz.prog T0 zkbQ_c ⟨[v0, v1, U, U, U, U, U, U, U, U, U, U, U, U, U, U, U, U, U, U, U, U, U, U, U, U, U, U, U, U, U], [], h, none⟩ (bodyQ Tryz.prog T0 [(4, none)] R X)) :
 Runs Tryz.prog T0 (.fn 61) [v0, v1] h R X := Runs.fn zkbQ_t rfl k
def zkbQ_l0_J (f0 f1 f2 f3 f4 f7 f8 f9 f10 f11 f30 : Value) (ds : List Deferred) (rd : Option Nat) (I : Nat → Value → Value → Heap → Prop) (m : Nat) (s : St) : Prop := ∃ (v5 v6 : Value), ∃ h : Heap, ∃ (x12 x13 x14 x15 x16 x17 x18 x19 x20 x21 x22 x23 x24 x25 x26 x27 x28 x29 : Value), s = ⟨[f0, f1, f2, f3, f4, v5, v6, f7, f8, f9, f10, f11, x12, x13, x14, x15, x16, x17, x18, x19, x20, x21, x22, x23, x24, x25, x26, x27, x28, x29, f30], ds, h, rd⟩ ∧ I m v5 v6 h
theorem zkbQ_l0_rule {f0 f1 f2 f3 f4 f7 f8 f9 f10 f11 f30 : Value} {ds : List Deferred} {rd : Option Nat} {Q : QP} (I : Nat → Value → Value → Heap → Prop) (hb : ∀ (m : Nat) (v5 v6 : Value) (h : Heap) (x12 x13 x14 x15 x16 x17 x18 x19 x20 x21 x22 x23 x24 x25 x26 x27 x28 x29 : Value) , I m v5 v6 h → RunC Tryz.prog T0 zkbQ_l0 ⟨[f0, f1, f2, f3, f4, v5, v6, f7, f8, f9, f10, f11, x12, x13, x14, x15, x16, x17, x18, x19, x20, x21, x22, x23, x24, x25, x26, x27, x28, x29, f30], ds, h, rd⟩ (loopQ (zkbQ_l0_J f0 f1 f2 f3 f4 f7 f8 f9 f10 f11 f30 ds rd I) m Q))
 (m : Nat) {v5 v6 : Value} {h : Heap} {x12 x13 x14 x15 x16 x17 x18 x19 x20 x21 x22 x23 x24 x25 x26 x27 x28 x29 : Value} (hi : I m v5 v6 h) : RunC Tryz.prog T0 (.loop zkbQ_l0) ⟨[f0, f1, f2, f3, f4, v5, v6, f7, f8, f9, f10, f11, x12, x13, x14, x15, x16, x17, x18, x19, x20, x21, x22, x23, x24, x25, x26, x27, x28, x29, f30], ds, h, rd⟩ Q :=
 RunC.loopJ (zkbQ_l0_J f0 f1 f2 f3 f4 f7 f8 f9 f10 f11 f30 ds rd I) (fun m s hj => by obtain ⟨v5, v6, h, x12, x13, x14, x15, x16, x17, x18, x19, x20, x21, x22, x23, x24, x25, x26, x27, x28, x29, rfl, hi⟩ := hj; exact hb m v5 v6 h x12 x13 x14 x15 x16 x17 x18 x19 x20 x21 x22 x23 x24 x25 x26 x27 x28 x29 hi) m _ ⟨_, _, h, _, _, _, _, _, _, _, _, _, _, _, _, _, _, _, _, _, _, rfl, hi⟩
theorem zkbQ_l0_again {f0 f1 f2 f3 f4 f7 f8 f9 f10 f11 f30 : Value} {ds : List Deferred} {rd : Option Nat} {Q : QP} {I : Nat → Value → Value → Heap → Prop} {m : Nat} (m' : Nat) {v5 v6 : Value} {h : Heap} {x12 x13 x14 x15 x16 x17 x18 x19 x20 x21 x22 x23 x24 x25 x26 x27 x28 x29 : Value} (hm : m' < m) (hi : I m' v5 v6 h) : loopQ (zkbQ_l0_J f0 f1 f2 f3 f4 f7 f8 f9 f10 f11 f30 ds rd I) m Q .normal ⟨[f0, f1, f2, f3, f4, v5, v6, f7, f8, f9, f10, f11, x12, x13, x14, x15, x16, x17, x18, x19, x20, x21, x22, x23, x24, x25, x26, x27, x28, x29, f30], ds, h, rd⟩ :=
 loopQ.again m' hm ⟨_, _, h, _, _, _, _, _, _, _, _, _, _, _, _, _, _, _, _, _, _, rfl, hi⟩
abbrev fn_zeQ : FuncId := 62
def zeQ_ra0 : Code := (rangeParts (subCode ((Tryz.prog.funcs[62]?).bind (·.body)) [true, false, true, false])).1
def zeQ_rb0 : Code := (rangeParts (subCode ((Tryz.prog.funcs[62]?).bind (·.body)) [true, false, true, false])).2
def zeQ_a0 : ACode :=
 (.region [
 o1 3 (.mov (tm 5))])
def zeQ_b0 : ACode :=
 (.block 1 (.seq (.region [
 o1 6 (.mov (tm 3)),
 o1 7 (.bin .neq (so (.binOp .neq 41 (tm 6) k0 41) 4) (tm 6) k0)]) (.cond (tm 7)
 (.seq (.region [
 o1 8 (.mov (tm 3)),
 o3 (.store 1 (tm 2) (tm 8))]) .ret)
 .skip)))
theorem zeQ_ca0 : comp Tryz.prog zeQ_ra0 = some zeQ_a0 := by kernel_rfl
theorem zeQ_cb0 : comp Tryz.prog zeQ_rb0 = some zeQ_b0 := by kernel_rfl
theorem zeQ_na0 : noDefer zeQ_ra0 = true := by kernel_rfl
theorem zeQ_nb0 : noDefer zeQ_rb0 = true := by kernel_rfl
def zeQ_c : ACode :=
 (.seq (.region [
 o1 2 (.alloc 41 [(.int .i64 0)])]) (.seq (.seq (.region [
 o1 4 (.mov (tm 0))]) (.block 0 (.rangeFunc (tm 4) [5] zeQ_ra0 zeQ_rb0))) (.seq (.region [
 o3 (.store 1 (tm 2) k0)]) .ret)))
def zeQ : AFunc := ⟨9, [(2, some none)], zeQ_c, none⟩
theorem zeQ_t0 : tableOf Tryz.prog 62 = some zeQ := by kernel_rfl
theorem zeQ_t : T0 62 = some zeQ := withKept_t rfl (withTrue_t rfl zeQ_t0)
theorem zeQ_runs {v0 : Value} {h : Heap} {R : RP} {X : XP} (k : RunC Tryz.prog T0 zeQ_c ⟨[v0, U, U, U, U, U, U, U, U], [], h, none⟩ (bodyQ Tryz.prog T0 [(2, some none)] R X)) :
 Runs Tryz.prog T0 (.fn 62) [v0] h R X := Runs.fn zeQ_t rfl k
abbrev fn_zcQ : FuncId := 63
def zcQ_c : ACode :=
 (.seq (.region [
 o1 1 (.box 101 (tm 0)),
 o1 2 (.mov (.const .nilFunc))]) (.seq (.region [
 o1 3 (.mkFunc (.func 99) [] [(tm 1)]),
 o1 2 (.mov (tm 3))]) .ret))
def zcQ : AFunc := ⟨4, [(2, none)], zcQ_c, none⟩
theorem zcQ_t0 : tableOf Tryz.prog 63 = some zcQ := by kernel_rfl
theorem zcQ_t : T0 63 = some zcQ := withKept_t rfl (withTrue_t rfl zcQ_t0)
theorem zcQ_runs {v0 : Value} {h : Heap} {R : RP} {X : XP} (k : RunC Tryz.prog T0 zcQ_c ⟨[v0, U, U, U], [], h, none⟩ (bodyQ Tryz.prog T0 [(2, none)] R X)) :
 Runs Tryz.prog T0 (.fn 63) [v0] h R X := Runs.fn zcQ_t rfl k
abbrev fn_ziQ : FuncId := 64
def ziQ_c : ACode :=
 (.seq (.region [
 o1 1 (.box 36 (tm 0)),
 o1 2 (.mov (.const (.slice none 0 0)))]) (.seq (.region [
 o1 3 (.mkFunc (.func 100) [] [(tm 1)]),
 o1 4 (.mkFunc (.func 102) [] [(tm 1)]),
 o1 5 (.mkFunc (.func 104) [] [(tm 1)]),
 o1 6 (.buildSlice 144 [.nilFunc, .nilFunc, .nilFunc] 3 [(0, 1, (tm 3)), (1, 1, (tm 4)), (2, 1, (tm 5))]),
 o1 2 (.mov (tm 6))]) .ret))
def ziQ : AFunc := ⟨7, [(2, none)], ziQ_c, none⟩
theorem ziQ_t0 : tableOf Tryz.prog 64 = some ziQ := by kernel_rfl
theorem ziQ_t : T0 64 = some ziQ := withKept_t rfl (withTrue_t rfl ziQ_t0)
theorem ziQ_runs {v0 : Value} {h : Heap} {R : RP} {X : XP} (k : RunC Tryz.prog T0 ziQ_c ⟨[v0, U, U, U, U, U, U], [], h, none⟩ (bodyQ Tryz.prog T0 [(2, none)] R X)) :
 Runs Tryz.prog T0 (.fn 64) [v0] h R X := Runs.fn ziQ_t rfl k
abbrev fn_zpcQ : FuncId := 65
def zpcQ_c : ACode :=
 (.seq (.region [
 o1 2 (.mov (.const (.pointer none))),
 o1 3 (.mov k0)]) (.seq (.seq (.region [
 o1 4 (.mov (tm 0)),
 o1 5 (.bin .lss (so (.binOp .lss 3 (tm 4) k0 3) 4) (tm 4) k0),
 o1 6 (.mov (tm 5)),
 o5 7 (.mov (tm 0)) 6,
 o5 8 (.bin .gtr (so (.binOp .gtr 3 (tm 7) (.const (.int .i64 1048576)) 3) 4) (tm 7) (.const (.int .i64 1048576))) 6,
 o1 9 (.pick (tm 6) (.const (.bool true)) (tm 8))]) (.cond (tm 9)
 (.seq (.region [
 o1 2 (.mov (.const (.pointer none))),
 o1 3 (.mov (.const (.int .i64 3)))]) .ret)
 .skip)) (.seq (.region [
 o1 10 (.mov (tm 0)),
 o1 11 (.build [(.int .i64 0), (.slice none 0 0), (.int .i64 0), (.bool false)] [(0, 1, (tm 10)), (3, 1, (.const (.bool true)))]),
 o1 12 (.box 149 (tm 11)),
 o1 2 (.mov (tm 12)),
 o1 3 (.mov k0)]) .ret)))
def zpcQ : AFunc := ⟨13, [(2, none), (3, none)], zpcQ_c, none⟩
theorem zpcQ_t0 : tableOf Tryz.prog 65 = some zpcQ := by kernel_rfl
theorem zpcQ_t : T0 65 = some zpcQ := withKept_t rfl (withTrue_t rfl zpcQ_t0)
theorem zpcQ_runs {v0 : Value} {h : Heap} {R : RP} {X : XP} (k : RunC Tryz.prog T0 zpcQ_c ⟨[v0, U, U, U, U, U, U, U, U, U, U, U, U], [], h, none⟩ (bodyQ Tryz.prog T0 [(2, none), (3, none)] R X)) :
 Runs Tryz.prog T0 (.fn 65) [v0] h R X := Runs.fn zpcQ_t rfl k
abbrev fn_zuQ : FuncId := 66
def zuQ_l0 : ACode :=
 (.seq (.region [
 o1 32 (.bin .lss (so (.binOp .lss 3 (tm 31) (.const (.int .i64 4)) 3) 0) (tm 31) (.const (.int .i64 4)))]) (.seq (.cond (tm 32)
 .skip
 (.exit 0)) (.seq (.block 1 (.seq (.region [
 o1 33 (.index 4 1 none (tm 30) (tm 31)),
 o1 8 (.mov (tm 33))]) (.region [
 o1 34 (.mov (tm 5)),
 o1 35 (.mov (tm 8)),
 o1 36 (.nilCheck (tm 35)),
 o1 37 (.load (some 32) (tm 36)),
 o1 38 (.callV (.func 109) [(tm 34), (tm 37)])]))) (.region [
 o1 39 (.bin .add (so (.binOp .add 3 (tm 31) (.const (.int .i64 1)) 3) 3) (tm 31) (.const (.int .i64 1))),
 o1 31 (.mov (tm 39))]))))
def zuQ_c : ACode :=
 (.seq (.region [
 o1 1 (.box 30 (tm 0)),
 o1 2 (.mov (.const (.slice none 0 0))),
 o1 3 (.mov k0)]) (.seq (.seq (.region [
 o1 9 (.load (some 131) (tm 1)),
 o1 10 (.callV (.func 101) [(tm 9)]),
 o1 4 (.mov (tm 10))]) (.seq (.region [
 o1 11 (.mov (tm 4)),
 o1 12 (.bin .neq (so (.binOp .neq 41 (tm 11) k0 41) 4) (tm 11) k0)]) (.cond (tm 12)
 (.seq (.region [
 o1 13 (.mov (tm 4)),
 o1 2 (.mov (.const (.slice none 0 0))),
 o1 3 (.mov (tm 13))]) .ret)
 .skip))) (.seq (.region [
 o1 15 (.callV (.func 65) [(.const (.int .i64 65536))]),
 o1 14 (.mov (tm 15)),
 o1 16 (.extract 0 (tm 14)),
 o1 17 (.extract 1 (tm 14)),
 o1 5 (.mov (tm 16)),
 o1 6 (.mov (tm 17))]) (.seq (.region [
 o1 18 (.mov (tm 5)),
 o1 19 (.fieldAddr 0 (tm 1)),
 o1 20 (.load none (tm 19)),
 o1 21 (.callV (.func 106) [(tm 18), (tm 20)])]) (.seq (.region [
 o1 22 (.mov (tm 5)),
 o1 23 (.fieldAddr 1 (tm 1)),
 o1 24 (.load none (tm 23)),
 o1 25 (.callV (.func 107) [(tm 22), (tm 24)])]) (.seq (.region [
 o1 26 (.mov (tm 5)),
 o1 27 (.fieldAddr 2 (tm 1)),
 o1 28 (.load none (tm 27)),
 o1 29 (.callV (.func 107) [(tm 26), (tm 28)])]) (.seq (.seq (.region [
 o1 30 (.callV (.func 108) [(tm 1)]),
 o1 31 (.mov k0)]) (.block 0 (.loop zuQ_l0))) (.seq (.region [
 o1 40 (.mov (tm 5)),
 o1 41 (.callV (.func 70) [(tm 40)]),
 o1 42 (.extract 0 (tm 41)),
 o1 43 (.extract 1 (tm 41)),
 o1 2 (.mov (tm 42)),
 o1 3 (.mov (tm 43))]) .ret))))))))
def zuQ : AFunc := ⟨44, [(2, none), (3, none)], zuQ_c, none⟩
theorem zuQ_t0 : tableOf Tryz.prog 66 = some zuQ := by kernel_rfl
theorem zuQ_t : T0 66 = some zuQ := withKept_t rfl (withTrue_t rfl zuQ_t0)
theorem zuQ_runs {v0 : Value} {h : Heap} {R : RP} {X : XP} (k : RunC Tryz.prog T0 zuQ_c ⟨[v0, U, U, U, U, U, U, U, U, U, U, U, U, U, U, U, U, U, U, U, U, U, U, U, U, U, U, U, U, U, U, U, U, U, U, U, U, U, U, U, U, U, U, U], [], h, none⟩ (bodyQ Tryz.prog T0 [(2, none), (3, none)] R X)) :
 Runs Tryz.prog T0 (.fn 66) [v0] h R X := Runs.fn zuQ_t rfl k
def zuQ_l0_J (f0 f1 f2 f3 f4 f5 f6 f7 f9 f10 f11 f12 f13 f14 f15 f16 f17 f18 f19 f20 f21 f22 f23 f24 f25 f26 f27 f28 f29 f30 f40 f41 f42 f43 : Value) (ds : List Deferred) (rd : Option Nat) (I : Nat → Value → Heap → Prop) (m : Nat) (s : St) : Prop := ∃ (v31 : Value), ∃ h : Heap, ∃ (x8 x32 x33 x34 x35 x36 x37 x38 x39 : Value), s = ⟨[f0, f1, f2, f3, f4, f5, f6, f7, x8, f9, f10, f11, f12, f13, f14, f15, f16, f17, f18, f19, f20, f21, f22, f23, f24, f25, f26, f27, f28, f29, f30, v31, x32, x33, x34, x35, x36, x37, x38, x39, f40, f41, f42, f43], ds, h, rd⟩ ∧ I m v31 h
theorem zuQ_l0_rule {f0 f1 f2 f3 f4 f5 f6 f7 f9 f10 f11 f12 f13 f14 f15 f16 f17 f18 f19 f20 f21 f22 f23 f24 f25 f26 f27 f28 f29 f30 f40 f41 f42 f43 : Value} {ds : List Deferred} {rd : Option Nat} {Q : QP} (I : Nat → Value → Heap → Prop) (hb : ∀ (m : Nat) (v31 : Value) (h : Heap) (x8 x32 x33 x34 x35 x36 x37 x38 x39 : Value) , I m v31 h → RunC Tryz.prog T0 zuQ_l0 ⟨[f0, f1, f2, f3, f4, f5, f6, f7, x8, f9, f10, f11, f12, f13, f14, f15, f16, f17, f18, f19, f20, f21, f22, f23, f24, f25, f26, f27, f28, f29, f30, v31, x32, x33, x34, x35, x36, x37, x38, x39, f40, f41, f42, f43], ds, h, rd⟩ (loopQ (zuQ_l0_J f0 f1 f2 f3 f4 f5 f6 f7 f9 f10 f11 f12 f13 f14 f15 f16 f17 f18 f19 f20 f21 f22 f23 f24 f25 f26 f27 f28 f29 f30 f40 f41 f42 f43 ds rd I) m Q))
 (m : Nat) {v31 : Value} {h : Heap} {x8 x32 x33 x34 x35 x36 x37 x38 x39 : Value} (hi : I m v31 h) : RunC Tryz.prog T0 (.loop zuQ_l0) ⟨[f0, f1, f2, f3, f4, f5, f6, f7, x8, f9, f10, f11, f12, f13, f14, f15, f16, f17, f18, f19, f20, f21, f22, f23, f24, f25, f26, f27, f28, f29, f30, v31, x32, x33, x34, x35, x36, x37, x38, x39, f40, f41, f42, f43], ds, h, rd⟩ Q :=
 RunC.loopJ (zuQ_l0_J f0 f1 f2 f3 f4 f5 f6 f7 f9 f10 f11 f12 f13 f14 f15 f16 f17 f18 f19 f20 f21 f22 f23 f24 f25 f26 f27 f28 f29 f30 f40 f41 f42 f43 ds rd I) (fun m s hj => by obtain ⟨v31, h, x8, x32, x33, x34, x35, x36, x37, x38, x39, rfl, hi⟩ := hj; exact hb m v31 h x8 x32 x33 x34 x35 x36 x37 x38 x39 hi) m _ ⟨_, h, _, _, _, _, _, _, _, _, _, rfl, hi⟩
theorem zuQ_l0_again {f0 f1 f2 f3 f4 f5 f6 f7 f9 f10 f11 f12 f13 f14 f15 f16 f17 f18 f19 f20 f21 f22 f23 f24 f25 f26 f27 f28 f29 f30 f40 f41 f42 f43 : Value} {ds : List Deferred} {rd : Option Nat} {Q : QP} {I : Nat → Value → Heap → Prop} {m : Nat} (m' : Nat) {v31 : Value} {h : Heap} {x8 x32 x33 x34 x35 x36 x37 x38 x39 : Value} (hm : m' < m) (hi : I m' v31 h) : loopQ (zuQ_l0_J f0 f1 f2 f3 f4 f5 f6 f7 f9 f10 f11 f12 f13 f14 f15 f16 f17 f18 f19 f20 f21 f22 f23 f24 f25 f26 f27 f28 f29 f30 f40 f41 f42 f43 ds rd I) m Q .normal ⟨[f0, f1, f2, f3, f4, f5, f6, f7, x8, f9, f10, f11, f12, f13, f14, f15, f16, f17, f18, f19, f20, f21, f22, f23, f24, f25, f26, f27, f28, f29, f30, v31, x32, x33, x34, x35, x36, x37, x38, x39, f40, f41, f42, f43], ds, h, rd⟩ :=
 loopQ.again m' hm ⟨_, h, _, _, _, _, _, _, _, _, _, rfl, hi⟩
abbrev fn_zpQ : FuncId := 67
def zpQ_l0 : ACode :=
 (.seq (.region [
 o1 35 (.bin .lss (so (.binOp .lss 3 (tm 34) (tm 33) 3) 0) (tm 34) (tm 33))]) (.seq (.cond (tm 35)
 .skip
 (.exit 0)) (.seq (.block 1 (.seq (.region [
 o1 36 (.indexSl 2 (tm 32) (tm 34)),
 o1 37 (.load (some 2) (tm 36)),
 o1 8 (.alloc 134 [(.int .i64 0), (.int .u64 0)]),
 o3 (.store 2 (tm 8) (tm 37))]) (.seq (.region [
 o1 38 (.mov (tm 5)),
 o1 39 (.fieldAddr 0 (tm 8)),
 o1 40 (.load none (tm 39)),
 o1 41 (.callV (.func 107) [(tm 38), (tm 40)])]) (.region [
 o1 42 (.mov (tm 5)),
 o1 43 (.fieldAddr 1 (tm 8)),
 o1 44 (.load none (tm 43)),
 o1 45 (.callV (.func 110) [(tm 42), (tm 44)])])))) (.region [
 o1 46 (.bin .add (so (.binOp .add 3 (tm 34) (.const (.int .i64 1)) 3) 3) (tm 34) (.const (.int .i64 1))),
 o1 34 (.mov (tm 46))]))))
def zpQ_c : ACode :=
 (.seq (.region [
 o1 1 (.box 33 (tm 0)),
 o1 2 (.mov (.const (.slice none 0 0))),
 o1 3 (.mov k0)]) (.seq (.seq (.region [
 o1 9 (.load (some 34) (tm 1)),
 o1 10 (.callV (.func 105) [(tm 9)]),
 o1 4 (.mov (tm 10))]) (.seq (.region [
 o1 11 (.mov (tm 4)),
 o1 12 (.bin .neq (so (.binOp .neq 41 (tm 11) k0 41) 4) (tm 11) k0)]) (.cond (tm 12)
 (.seq (.region [
 o1 13 (.mov (tm 4)),
 o1 2 (.mov (.const (.slice none 0 0))),
 o1 3 (.mov (tm 13))]) .ret)
 .skip))) (.seq (.region [
 o1 15 (.callV (.func 65) [(.const (.int .i64 1048576))]),
 o1 14 (.mov (tm 15)),
 o1 16 (.extract 0 (tm 14)),
 o1 17 (.extract 1 (tm 14)),
 o1 5 (.mov (tm 16)),
 o1 6 (.mov (tm 17))]) (.seq (.region [
 o1 18 (.mov (tm 5)),
 o1 19 (.fieldAddr 0 (tm 1)),
 o1 20 (.load none (tm 19)),
 o1 21 (.callV (.func 107) [(tm 18), (tm 20)])]) (.seq (.region [
 o1 22 (.mov (tm 5)),
 o1 23 (.fieldAddr 1 (tm 1)),
 o1 24 (.load (some 32) (tm 23)),
 o1 25 (.callV (.func 109) [(tm 22), (tm 24)])]) (.seq (.region [
 o1 26 (.mov (tm 5)),
 o1 27 (.fieldAddr 33 (tm 1)),
 o1 28 (.load none (tm 27)),
 o1 29 (.lenSl (tm 28)),
 o1 30 (.callV (.func 107) [(tm 26), (tm 29)])]) (.seq (.seq (.region [
 o1 31 (.fieldAddr 33 (tm 1)),
 o1 32 (.load none (tm 31)),
 o1 33 (.lenSl (tm 32)),
 o1 34 (.mov k0)]) (.block 0 (.loop zpQ_l0))) (.seq (.region [
 o1 47 (.mov (tm 5)),
 o1 48 (.callV (.func 70) [(tm 47)]),
 o1 49 (.extract 0 (tm 48)),
 o1 50 (.extract 1 (tm 48)),
 o1 2 (.mov (tm 49)),
 o1 3 (.mov (tm 50))]) .ret))))))))
def zpQ : AFunc := ⟨51, [(2, none), (3, none)], zpQ_c, none⟩
theorem zpQ_t0 : tableOf Tryz.prog 67 = some zpQ := by kernel_rfl
theorem zpQ_t : T0 67 = some zpQ := withKept_t rfl (withTrue_t rfl zpQ_t0)
theorem zpQ_runs {v0 : Value} {h : Heap} {R : RP} {X : XP} (k : RunC Tryz.prog T0 zpQ_c ⟨[v0, U, U, U, U, U, U, U, U, U, U, U, U, U, U, U, U, U, U, U, U, U, U, U, U, U, U, U, U, U, U, U, U, U, U, U, U, U, U, U, U, U, U, U, U, U, U, U, U, U, U], [], h, none⟩ (bodyQ Tryz.prog T0 [(2, none), (3, none)] R X)) :
 Runs Tryz.prog T0 (.fn 67) [v0] h R X := Runs.fn zpQ_t rfl k
def zpQ_l0_J (f0 f1 f2 f3 f4 f5 f6 f7 f9 f10 f11 f12 f13 f14 f15 f16 f17 f18 f19 f20 f21 f22 f23 f24 f25 f26 f27 f28 f29 f30 f31 f32 f33 f47 f48 f49 f50 : Value) (ds : List Deferred) (rd : Option Nat) (I : Nat → Value → Heap → Prop) (m : Nat) (s : St) : Prop := ∃ (v34 : Value), ∃ h : Heap, ∃ (x8 x35 x36 x37 x38 x39 x40 x41 x42 x43 x44 x45 x46 : Value), s = ⟨[f0, f1, f2, f3, f4, f5, f6, f7, x8, f9, f10, f11, f12, f13, f14, f15, f16, f17, f18, f19, f20, f21, f22, f23, f24, f25, f26, f27, f28, f29, f30, f31, f32, f33, v34, x35, x36, x37, x38, x39, x40, x41, x42, x43, x44, x45, x46, f47, f48, f49, f50], ds, h, rd⟩ ∧ I m v34 h
theorem zpQ_l0_rule {f0 f1 f2 f3 f4 f5 f6 f7 f9 f10 f11 f12 f13 f14 f15 f16 f17 f18 f19 f20 f21 f22 f23 f24 f25 f26 f27 f28 f29 f30 f31 f32 f33 f47 f48 f49 f50 : Value} {ds : List Deferred} {rd : Option Nat} {Q : QP} (I : Nat → Value → Heap → Prop) (hb : ∀ (m : Nat) (v34 : Value) (h : Heap) (x8 x35 x36 x37 x38 x39 x40 x41 x42 x43 x44 x45 x46 : Value) , I m v34 h → RunC Tryz.prog T0 zpQ_l0 ⟨[f0, f1, f2, f3, f4, f5, f6, f7, x8, f9, f10, f11, f12, f13, f14, f15, f16, f17, f18, f19, f20, f21, f22, f23, f24, f25, f26, f27, f28, f29, f30, f31, f32, f33, v34, x35, x36, x37, x38, x39, x40, x41, x42, x43, x44, x45, x46, f47, f48, f49, f50], ds, h, rd⟩ (loopQ (zpQ_l0_J f0 f1 f2 f3 f4 f5 f6 f7 f9 f10 f11 f12 f13 f14 f15 f16 f17 f18 f19 f20 f21 f22 f23 f24 f25 f26 f27 f28 f29 f30 f31 f32 f33 f47 f48 f49 f50 ds rd I) m Q))
 (m : Nat) {v34 : Value} {h : Heap} {x8 x35 x36 x37 x38 x39 x40 x41 x42 x43 x44 x45 x46 : Value} (hi : I m v34 h) : RunC Tryz.prog T0 (.loop zpQ_l0) ⟨[f0, f1, f2, f3, f4, f5, f6, f7, x8, f9, f10, f11, f12, f13, f14, f15, f16, f17, f18, f19, f20, f21, f22, f23, f24, f25, f26, f27, f28, f29, f30, f31, f32, f33, v34, x35, x36, x37, x38, x39, x40, x41, x42, x43, x44, x45, x46, f47, f48, f49, f50], ds, h, rd⟩ Q :=
 RunC.loopJ (zpQ_l0_J f0 f1 f2 f3 f4 f5 f6 f7 f9 f10 f11 f12 f13 f14 f15 f16 f17 f18 f19 f20 f21 f22 f23 f24 f25 f26 f27 f28 f29 f30 f31 f32 f33 f47 f48 f49 f50 ds rd I) (fun m s hj => by obtain ⟨v34, h, x8, x35, x36, x37, x38, x39, x40, x41, x42, x43, x44, x45, x46, rfl, hi⟩ := hj; exact hb m v34 h x8 x35 x36 x37 x38 x39 x40 x41 x42 x43 x44 x45 x46 hi) m _ ⟨_, h, _, _, _, _, _, _, _, _, _, _, _, _, _, rfl, hi⟩
theorem zpQ_l0_again {f0 f1 f2 f3 f4 f5 f6 f7 f9 f10 f11 f12 f13 f14 f15 f16 f17 f18 f19 f20 f21 f22 f23 f24 f25 f26 f27 f28 f29 f30 f31 f32 f33 f47 f48 f49 f50 : Value} {ds : List Deferred} {rd : Option Nat} {Q : QP} {I : Nat → Value → Heap → Prop} {m : Nat} (m' : Nat) {v34 : Value} {h : Heap} {x8 x35 x36 x37 x38 x39 x40 x41 x42 x43 x44 x45 x46 : Value} (hm : m' < m) (hi : I m' v34 h) : loopQ (zpQ_l0_J f0 f1 f2 f3 f4 f5 f6 f7 f9 f10 f11 f12 f13 f14 f15 f16 f17 f18 f19 f20 f21 f22 f23 f24 f25 f26 f27 f28 f29 f30 f31 f32 f33 f47 f48 f49 f50 ds rd I) m Q .normal ⟨[f0, f1, f2, f3, f4, f5, f6, f7, x8, f9, f10, f11, f12, f13, f14, f15, f16, f17, f18, f19, f20, f21, f22, f23, f24, f25, f26, f27, f28, f29, f30, f31, f32, f33, v34, x35, x36, x37, x38, x39, x40, x41, x42, x43, x44, x45, x46, f47, f48, f49, f50], ds, h, rd⟩ :=
 loopQ.again m' hm ⟨_, h, _, _, _, _, _, _, _, _, _, _, _, _, _, rfl, hi⟩
abbrev fn_zmcQ : FuncId := 68
def zmcQ_l0 : ACode :=
 (.seq (.region [
 o1 25 (.bin .lss (so (.binOp .lss 3 (tm 24) (tm 23) 3) 0) (tm 24) (tm 23))]) (.seq (.cond (tm 25)
 .skip
 (.exit 0)) (.seq (.block 1 (.seq (.region [
 o1 26 (.indexSl 5 (tm 22) (tm 24)),
 o1 27 (.load (some 5) (tm 26)),
 o1 8 (.alloc 132 [(.int .u8 0), (.int .u8 0), (.int .u8 0), (.int .u8 0), (.int .i64 0)]),
 o3 (.store 5 (tm 8) (tm 27))]) (.seq (.region [
 o1 28 (.mov (tm 5)),
 o1 29 (.fieldAddr 0 (tm 8)),
 o1 30 (.load (some 4) (tm 29)),
 o1 31 (.callV (.func 111) [(tm 28), (tm 30)])]) (.region [
 o1 32 (.mov (tm 5)),
 o1 33 (.fieldAddr 4 (tm 8)),
 o1 34 (.load none (tm 33)),
 o1 35 (.callV (.func 107) [(tm 32), (tm 34)])])))) (.region [
 o1 36 (.bin .add (so (.binOp .add 3 (tm 24) (.const (.int .i64 1)) 3) 3) (tm 24) (.const (.int .i64 1))),
 o1 24 (.mov (tm 36))]))))
def zmcQ_c : ACode :=
 (.seq (.region [
 o1 2 (.mov (.const (.slice none 0 0))),
 o1 3 (.mov k0)]) (.seq (.seq (.region [
 o1 9 (.mov (tm 0)),
 o1 10 (.callV (.func 103) [(tm 9)]),
 o1 4 (.mov (tm 10))]) (.seq (.region [
 o1 11 (.mov (tm 4)),
 o1 12 (.bin .neq (so (.binOp .neq 41 (tm 11) k0 41) 4) (tm 11) k0)]) (.cond (tm 12)
 (.seq (.region [
 o1 13 (.mov (tm 4)),
 o1 2 (.mov (.const (.slice none 0 0))),
 o1 3 (.mov (tm 13))]) .ret)
 .skip))) (.seq (.region [
 o1 15 (.callV (.func 65) [(.const (.int .i64 1048576))]),
 o1 14 (.mov (tm 15)),
 o1 16 (.extract 0 (tm 14)),
 o1 17 (.extract 1 (tm 14)),
 o1 5 (.mov (tm 16)),
 o1 6 (.mov (tm 17))]) (.seq (.region [
 o1 18 (.mov (tm 5)),
 o1 19 (.mov (tm 0)),
 o1 20 (.lenSl (tm 19)),
 o1 21 (.callV (.func 107) [(tm 18), (tm 20)])]) (.seq (.seq (.region [
 o1 22 (.mov (tm 0)),
 o1 23 (.lenSl (tm 22)),
 o1 24 (.mov k0)]) (.block 0 (.loop zmcQ_l0))) (.seq (.region [
 o1 37 (.mov (tm 5)),
 o1 38 (.callV (.func 70) [(tm 37)]),
 o1 39 (.extract 0 (tm 38)),
 o1 40 (.extract 1 (tm 38)),
 o1 2 (.mov (tm 39)),
 o1 3 (.mov (tm 40))]) .ret))))))
def zmcQ : AFunc := ⟨41, [(2, none), (3, none)], zmcQ_c, none⟩
theorem zmcQ_t0 : tableOf Tryz.prog 68 = some zmcQ := by kernel_rfl
theorem zmcQ_t : T0 68 = some zmcQ := withKept_t rfl (withTrue_t rfl zmcQ_t0)
theorem zmcQ_runs {v0 : Value} {h : Heap} {R : RP} {X : XP} (k : RunC Tryz.prog T0 zmcQ_c ⟨[v0, U, U, U, U, U, U, U, U, U, U, U, U, U, U, U, U, U, U, U, U, U, U, U, U, U, U, U, U, U, U, U, U, U, U, U, U, U, U, U, U], [], h, none⟩ (bodyQ Tryz.prog T0 [(2, none), (3, none)] R X)) :
 Runs Tryz.prog T0 (.fn 68) [v0] h R X := Runs.fn zmcQ_t rfl k
def zmcQ_l0_J (f0 f1 f2 f3 f4 f5 f6 f7 f9 f10 f11 f12 f13 f14 f15 f16 f17 f18 f19 f20 f21 f22 f23 f37 f38 f39 f40 : Value) (ds : List Deferred) (rd : Option Nat) (I : Nat → Value → Heap → Prop) (m : Nat) (s : St) : Prop := ∃ (v24 : Value), ∃ h : Heap, ∃ (x8 x25 x26 x27 x28 x29 x30 x31 x32 x33 x34 x35 x36 : Value), s = ⟨[f0, f1, f2, f3, f4, f5, f6, f7, x8, f9, f10, f11, f12, f13, f14, f15, f16, f17, f18, f19, f20, f21, f22, f23, v24, x25, x26, x27, x28, x29, x30, x31, x32, x33, x34, x35, x36, f37, f38, f39, f40], ds, h, rd⟩ ∧ I m v24 h
theorem zmcQ_l0_rule {f0 f1 f2 f3 f4 f5 f6 f7 f9 f10 f11 f12 f13 f14 f15 f16 f17 f18 f19 f20 f21 f22 f23 f37 f38 f39 f40 : Value} {ds : List Deferred} {rd : Option Nat} {Q : QP} (I : Nat → Value → Heap → Prop) (hb : ∀ (m : Nat) (v24 : Value) (h : Heap) (x8 x25 x26 x27 x28 x29 x30 x31 x32 x33 x34 x35 x36 : Value) , I m v24 h → RunC Tryz.prog T0 zmcQ_l0 ⟨[f0, f1, f2, f3, f4, f5, f6, f7, x8, f9, f10, f11, f12, f13, f14, f15, f16, f17, f18, f19, f20, f21, f22, f23, v24, x25, x26, x27, x28, x29, x30, x31, x32, x33, x34, x35, x36, f37, f38, f39, f40], ds, h, rd⟩ (loopQ (zmcQ_l0_J f0 f1 f2 f3 f4 f5 f6 f7 f9 f10 f11 f12 f13 f14 f15 f16 f17 f18 f19 f20 f21 f22 f23 f37 f38 f39 f40 ds rd I) m Q))
 (m : Nat) {v24 : Value} {h : Heap} {x8 x25 x26 x27 x28 x29 x30 x31 x32 x33 x34 x35 x36 : Value} (hi : I m v24 h) : RunC Tryz.prog T0 (.loop zmcQ_l0) ⟨[f0, f1, f2, f3, f4, f5, f6, f7, x8, f9, f10, f11, f12, f13, f14, f15, f16, f17, f18, f19, f20, f21, f22, f23, v24, x25, x26, x27, x28, x29, x30, x31, x32, x33, x34, x35, x36, f37, f38, f39, f40], ds, h, rd⟩ Q :=
 RunC.loopJ (zmcQ_l0_J f0 f1 f2 f3 f4 f5 f6 f7 f9 f10 f11 f12 f13 f14 f15 f16 f17 f18 f19 f20 f21 f22 f23 f37 f38 f39 f40 ds rd I) (fun m s hj => by obtain ⟨v24, h, x8, x25, x26, x27, x28, x29, x30, x31, x32, x33, x34, x35, x36, rfl, hi⟩ := hj; exact hb m v24 h x8 x25 x26 x27 x28 x29 x30 x31 x32 x33 x34 x35 x36 hi) m _ ⟨_, h, _, _, _, _, _, _, _, _, _, _, _, _, _, rfl, hi⟩
theorem zmcQ_l0_again {f0 f1 f2 f3 f4 f5 f6 f7 f9 f10 f11 f12 f13 f14 f15 f16 f17 f18 f19 f20 f21 f22 f23 f37 f38 f39 f40 : Value} {ds : List Deferred} {rd : Option Nat} {Q : QP} {I : Nat → Value → Heap → Prop} {m : Nat} (m' : Nat) {v24 : Value} {h : Heap} {x8 x25 x26 x27 x28 x29 x30 x31 x32 x33 x34 x35 x36 : Value} (hm : m' < m) (hi : I m' v24 h) : loopQ (zmcQ_l0_J f0 f1 f2 f3 f4 f5 f6 f7 f9 f10 f11 f12 f13 f14 f15 f16 f17 f18 f19 f20 f21 f22 f23 f37 f38 f39 f40 ds rd I) m Q .normal ⟨[f0, f1, f2, f3, f4, f5, f6, f7, x8, f9, f10, f11, f12, f13, f14, f15, f16, f17, f18, f19, f20, f21, f22, f23, v24, x25, x26, x27, x28, x29, x30, x31, x32, x33, x34, x35, x36, f37, f38, f39, f40], ds, h, rd⟩ :=
 loopQ.again m' hm ⟨_, h, _, _, _, _, _, _, _, _, _, _, _, _, _, rfl, hi⟩
abbrev fn_zhdQ : FuncId := 69
def zhdQ_c : ACode :=
 (.seq (.region [
 o1 4 (.mov k0)]) (.seq (.region [
 o1 5 (.mov (tm 0)),
 o1 6 (.mov (tm 1)),
 o1 7 (.lenSl (tm 6)),
 o1 8 (.callV (.func 113) [(tm 7)]),
 o1 9 (.mov (tm 1)),
 o1 10 (.buildSlice 22 [(.slice none 0 0), (.slice none 0 0)] 2 [(0, 1, (tm 8)), (1, 1, (tm 9))]),
 o1 11 (.callV (.func 112) [(tm 5), (.const (.bool true)), (tm 10)]),
 o1 4 (.mov (tm 11))]) .ret))
def zhdQ : AFunc := ⟨12, [(4, none)], zhdQ_c, none⟩
theorem zhdQ_t0 : tableOf Tryz.prog 69 = some zhdQ := by kernel_rfl
theorem zhdQ_t : T0 69 = some zhdQ := withKept_t rfl (withTrue_t rfl zhdQ_t0)
theorem zhdQ_runs {v0 v1 : Value} {h : Heap} {R : RP} {X : XP} (k : RunC Tryz.prog T0 zhdQ_c ⟨[v0, v1, U, U, U, U, U, U, U, U, U, U], [], h, none⟩ (bodyQ Tryz.prog T0 [(4, none)] R X)) :
 Runs Tryz.prog T0 (.fn 69) [v0, v1] h R X := Runs.fn zhdQ_t rfl k
abbrev fn_zidQ : FuncId := 70
def zidQ_c : ACode :=
 (.seq (.region [
 o1 2 (.mov (.const (.slice none 0 0))),
 o1 3 (.mov k0)]) (.seq (.block 0 (.seq (.region [
 o1 5 (.mov (tm 0)),
 o1 6 (.eq .ptr false (so (.binOp .eql 103 (tm 5) (.const (.pointer none)) 103) 4) (tm 5) (.const (.pointer none))),
 o1 7 (.mov (tm 6)),
 o5 8 (.mov (tm 0)) 7,
 o5 9 (.nilCheck (tm 8)) 7,
 o5 10 (.fieldAddr 3 (tm 9)) 7,
 o5 11 (.load none (tm 10)) 7,
 o5 12 (.raw (so (.unOp .not 4 (tm 11)) 4)) 7,
 o1 13 (.pick (tm 7) (.const (.bool true)) (tm 12)),
 o1 4 (.mov (tm 13))]) (.cond (tm 4)
 (.seq (.region [
 o1 2 (.mov (.const (.slice none 0 0))),
 o1 3 (.mov (.const (.int .i64 1)))]) .ret)
 (.seq (.region [
 o1 15 (.mov (tm 0)),
 o1 16 (.nilCheck (tm 15)),
 o1 17 (.fieldAddr 2 (tm 16)),
 o1 18 (.load none (tm 17)),
 o1 19 (.bin .neq (so (.binOp .neq 41 (tm 18) k0 41) 4) (tm 18) k0),
 o1 14 (.mov (tm 19))]) (.cond (tm 14)
 (.seq (.regionD [
 o1 20 (.mov (tm 0)),
 o1 21 (.nilCheck (tm 20)),
 o1 22 (.fieldAddr 2 (tm 21)),
 o1 23 (.load none (tm 22)),
 o1 2 (.mov (.const (.slice none 0 0))),
 o2 3 (.mov (tm 23))]) .ret)
 .skip))))) (.seq (.region [
 o1 24 (.mov (tm 0)),
 o1 25 (.nilCheck (tm 24)),
 o1 26 (.fieldAddr 1 (tm 25)),
 o1 27 (.load none (tm 26)),
 o1 28 (.callV (.func 72) [(tm 27)]),
 o1 2 (.mov (tm 28)),
 o1 3 (.mov k0)]) .ret)))
def zidQ : AFunc := ⟨29, [(2, none), (3, none)], zidQ_c, none⟩
theorem zidQ_t0 : tableOf Tryz.prog 70 = some zidQ := by kernel_rfl
theorem zidQ_t : T0 70 = some zidQ := withKept_t rfl (withTrue_t rfl zidQ_t0)
theorem zidQ_runs {v0 : Value} {h : Heap} {R : RP} {X : XP} (k : RunC Tryz.prog T0 zidQ_c ⟨[v0, U, U, U, U, U, U, U, U, U, U, U, U, U, U, U, U, U, U, U, U, U, U, U, U, U, U, U, U], [], h, none⟩ (bodyQ Tryz.prog T0 [(2, none), (3, none)] R X)) :
 Runs Tryz.prog T0 (.fn 70) [v0] h R X := Runs.fn zidQ_t rfl k
def zdbQ_c : ACode :=
 (.seq (.region [
 o1 2 (.mov (.const (.slice none 0 0)))]) (.seq (.region [
 o1 3 (.buildSlice 5 [] 0 []),
 o1 4 (.mov (tm 0)),
 o1 5 (.append 5 1 1 [(.int .u8 0)] false (tm 3) (tm 4)),
 o1 2 (.mov (tm 5))]) .ret))
def zdbQ : AFunc := ⟨6, [(2, none)], zdbQ_c, none⟩
theorem zdbQ_t0 : tableOf Tryz.prog 71 = some zdbQ := by kernel_rfl
abbrev fn_zhcQ : FuncId := 72
def zhcQ_c : ACode :=
 (.seq (.region [
 o1 2 (.mov (.const (.slice none 0 0)))]) (.seq (.seq (.region [
 o1 3 (.mov (tm 0)),
 o1 4 (.eq .slice false (so (.binOp .eql 22 (tm 3) (.const (.slice none 0 0)) 22) 4) (tm 3) (.const (.slice none 0 0)))]) (.cond (tm 4)
 (.seq (.region [
 o1 2 (.mov (.const (.slice none 0 0)))]) .ret)
 .skip)) (.seq (.region [
 o1 5 (.buildSlice 5 [] 0 []),
 o1 6 (.mov (tm 0)),
 o1 7 (.append 5 1 1 [(.int .u8 0)] false (tm 5) (tm 6)),
 o1 2 (.mov (tm 7))]) .ret)))
def zhcQ : AFunc := ⟨8, [(2, none)], zhcQ_c, none⟩
theorem zhcQ_t0 : tableOf Tryz.prog 72 = some zhcQ := by kernel_rfl
theorem zhcQ_t : T0 72 = some zhcQ := withKept_t rfl (withTrue_t rfl zhcQ_t0)
theorem zhcQ_runs {v0 : Value} {h : Heap} {R : RP} {X : XP} (k : RunC Tryz.prog T0 zhcQ_c ⟨[v0, U, U, U, U, U, U, U], [], h, none⟩ (bodyQ Tryz.prog T0 [(2, none)] R X)) :
 Runs Tryz.prog T0 (.fn 72) [v0] h R X := Runs.fn zhcQ_t rfl k
abbrev fn_zvdQ : FuncId := 73
def zvdQ_c : ACode :=
 (.seq (.region [
 o1 4 (.mov k0)]) (.seq (.seq (.region [
 o1 5 (.mov (tm 0)),
 o1 6 (.eq .ptr false (so (.binOp .eql 69 (tm 5) (.const (.pointer none)) 69) 4) (tm 5) (.const (.pointer none))),
 o1 7 (.mov (tm 6)),
 o5 8 (.mov (tm 0)) 7,
 o5 9 (.nilCheck (tm 8)) 7,
 o5 10 (.fieldAddr 4 (tm 9)) 7,
 o5 11 (.load none (tm 10)) 7,
 o5 12 (.raw (so (.unOp .not 4 (tm 11)) 4)) 7,
 o1 13 (.pick (tm 7) (.const (.bool true)) (tm 12)),
 o1 14 (.mov (tm 13)),
 o5 15 (.mov (tm 0)) 14,
 o5 16 (.nilCheck (tm 15)) 14,
 o5 17 (.fieldAddr 2 (tm 16)) 14,
 o5 18 (.fieldAddr 0 (tm 17)) 14,
 o5 19 (.load none (tm 18)) 14,
 o5 20 (.bin .neq (so (.binOp .neq 41 (tm 19) k0 41) 4) (tm 19) k0) 14,
 o1 21 (.pick (tm 14) (.const (.bool true)) (tm 20))]) (.cond (tm 21)
 (.seq (.region [
 o1 22 (.mov (tm 4)),
 o1 4 (.mov (tm 22))]) .ret)
 .skip)) (.seq (.region [
 o1 23 (.mov (tm 0)),
 o3 (.defer (.func 114) [(tm 23)])]) (.seq (.region [
 o1 24 (.mov (tm 1)),
 o1 25 (.mov (tm 0)),
 o1 26 (.nilCheck (tm 25)),
 o1 27 (.fieldAddr 1 (tm 26)),
 o1 28 (.load none (tm 27)),
 o1 29 (.callV (tm 24) [(tm 28)]),
 o1 4 (.mov (tm 29))]) .ret))))
def zvdQ : AFunc := ⟨30, [(4, none)], zvdQ_c, none⟩
theorem zvdQ_t0 : tableOf Tryz.prog 73 = some zvdQ := by kernel_rfl
theorem zvdQ_t : T0 73 = some zvdQ := withKept_t rfl (withTrue_t rfl zvdQ_t0)
theorem zvdQ_runs {v0 v1 : Value} {h : Heap} {R : RP} {X : XP} (k : RunC Tryz.prog T0 zvdQ_c ⟨[v0, v1, U, U, U, U, U, U, U, U, U, U, U, U, U, U, U, U, U, U, U, U, U, U, U, U, U, U, U, U], [], h, none⟩ (bodyQ Tryz.prog T0 [(4, none)] R X)) :
 Runs Tryz.prog T0 (.fn 73) [v0, v1] h R X := Runs.fn zvdQ_t rfl k
abbrev fn_zfdQ : FuncId := 74
def zfdQ_c : ACode :=
 (.seq (.region [
 o1 4 (.mov k0)]) (.seq (.region [
 o1 8 (.mov (tm 0)),
 o1 9 (.mov (tm 1)),
 o1 10 (.callV (.func 115) [(tm 8), (.const (.int .i64 1)), (tm 9), (.func 116)]),
 o1 11 (.conv .i64 (so (.convert 124 3 (tm 10)) 3) (tm 10)),
 o1 5 (.alloc 3 [(.int .i64 0)]),
 o3 (.store 1 (tm 5) (tm 11))]) (.seq (.region [
 o1 12 (.load none (tm 5)),
 o1 13 (.bin .leq (so (.binOp .leq 3 (tm 12) (.const (.int .i64 8)) 3) 4) (tm 12) (.const (.int .i64 8))),
 o1 14 (.mov (tm 1)),
 o1 15 (.callV (.func 78) [(tm 13), (.const (.int .i64 5)), (tm 14)])]) (.seq (.region [
 o1 6 (.alloc 5 [(.int .u8 0)]),
 o3 (.store 1 (tm 6) (.const (.int .u8 1)))]) (.seq (.region [
 o1 16 (.mov (tm 0)),
 o1 17 (.load none (tm 5)),
 o1 18 (.mov (tm 1)),
 o1 19 (.mkFunc (.func 117) [] [(tm 5), (tm 6)]),
 o1 20 (.callV (.func 115) [(tm 16), (tm 17), (tm 18), (tm 19)]),
 o1 7 (.mov (tm 20))]) (.seq (.region [
 o1 21 (.load none (tm 6)),
 o1 22 (.bin .neq (so (.binOp .neq 5 (tm 21) (.const (.int .u8 0)) 5) 4) (tm 21) (.const (.int .u8 0))),
 o1 23 (.mov (tm 22)),
 o4 24 (.mov (tm 7)) 23,
 o4 25 (.bin .leq (so (.binOp .leq 124 (tm 24) (.const (.int .u64 9223372036854775807)) 124) 4) (tm 24) (.const (.int .u64 9223372036854775807))) 23,
 o1 26 (.pick (tm 23) (tm 25) (.const (.bool false))),
 o1 27 (.mov (tm 1)),
 o1 28 (.callV (.func 78) [(tm 26), (.const (.int .i64 5)), (tm 27)])]) (.seq (.region [
 o1 29 (.mov (tm 7)),
 o1 30 (.conv .i64 (so (.convert 124 3 (tm 29)) 3) (tm 29)),
 o1 4 (.mov (tm 30))]) .ret)))))))
def zfdQ : AFunc := ⟨31, [(4, none)], zfdQ_c, none⟩
theorem zfdQ_t0 : tableOf Tryz.prog 74 = some zfdQ := by kernel_rfl
theorem zfdQ_t : T0 74 = some zfdQ := withKept_t rfl (withTrue_t rfl zfdQ_t0)
theorem zfdQ_runs {v0 v1 : Value} {h : Heap} {R : RP} {X : XP} (k : RunC Tryz.prog T0 zfdQ_c ⟨[v0, v1, U, U, U, U, U, U, U, U, U, U, U, U, U, U, U, U, U, U, U, U, U, U, U, U, U, U, U, U, U], [], h, none⟩ (bodyQ Tryz.prog T0 [(4, none)] R X)) :
 Runs Tryz.prog T0 (.fn 74) [v0, v1] h R X := Runs.fn zfdQ_t rfl k
abbrev fn_zadQ : FuncId := 75
def zadQ_c : ACode :=
 (.seq (.region [
 o1 2 (.mov k0)]) (.seq (.seq (.region [
 o1 3 (.mov (tm 0)),
 o1 4 (.eq .ptr false (so (.binOp .eql 69 (tm 3) (.const (.pointer none)) 69) 4) (tm 3) (.const (.pointer none))),
 o1 5 (.mov (tm 4)),
 o5 6 (.mov (tm 0)) 5,
 o5 7 (.nilCheck (tm 6)) 5,
 o5 8 (.fieldAddr 4 (tm 7)) 5,
 o5 9 (.load none (tm 8)) 5,
 o5 10 (.raw (so (.unOp .not 4 (tm 9)) 4)) 5,
 o1 11 (.pick (tm 5) (.const (.bool true)) (tm 10)),
 o1 12 (.mov (tm 11)),
 o5 13 (.mov (tm 0)) 12,
 o5 14 (.nilCheck (tm 13)) 12,
 o5 15 (.fieldAddr 2 (tm 14)) 12,
 o5 16 (.fieldAddr 0 (tm 15)) 12,
 o5 17 (.load none (tm 16)) 12,
 o5 18 (.bin .neq (so (.binOp .neq 41 (tm 17) k0 41) 4) (tm 17) k0) 12,
 o1 19 (.pick (tm 12) (.const (.bool true)) (tm 18))]) (.cond (tm 19)
 (.seq (.region [
 o1 2 (.mov k0)]) .ret)
 .skip)) (.seq (.regionD [
 o1 20 (.mov (tm 0)),
 o1 21 (.nilCheck (tm 20)),
 o1 22 (.fieldAddr 0 (tm 21)),
 o1 23 (.load none (tm 22)),
 o1 24 (.lenSl (tm 23)),
 o1 25 (.mov (tm 0)),
 o1 26 (.nilCheck (tm 25)),
 o1 27 (.fieldAddr 1 (tm 26)),
 o1 28 (.load none (tm 27)),
 o2 29 (.bin .sub (so (.binOp .sub 3 (tm 24) (tm 28) 3) 3) (tm 24) (tm 28)),
 o2 2 (.mov (tm 29))]) .ret)))
def zadQ : AFunc := ⟨30, [(2, none)], zadQ_c, none⟩
theorem zadQ_t0 : tableOf Tryz.prog 75 = some zadQ := by kernel_rfl
theorem zadQ_t : T0 75 = some zadQ := withKept_t rfl (withTrue_t rfl zadQ_t0)
theorem zadQ_runs {v0 : Value} {h : Heap} {R : RP} {X : XP} (k : RunC Tryz.prog T0 zadQ_c ⟨[v0, U, U, U, U, U, U, U, U, U, U, U, U, U, U, U, U, U, U, U, U, U, U, U, U, U, U, U, U, U], [], h, none⟩ (bodyQ Tryz.prog T0 [(2, none)] R X)) :
 Runs Tryz.prog T0 (.fn 75) [v0] h R X := Runs.fn zadQ_t rfl k
abbrev fn_zsdQ : FuncId := 76
def zsdQ_c : ACode :=
 (.seq (.region [
 o1 4 (.mov (.const (.slice none 0 0)))]) (.seq (.seq (.region [
 o1 5 (.mov (tm 0)),
 o1 6 (.eq .ptr false (so (.binOp .eql 69 (tm 5) (.const (.pointer none)) 69) 4) (tm 5) (.const (.pointer none))),
 o1 7 (.mov (tm 6)),
 o5 8 (.mov (tm 0)) 7,
 o5 9 (.nilCheck (tm 8)) 7,
 o5 10 (.fieldAddr 4 (tm 9)) 7,
 o5 11 (.load none (tm 10)) 7,
 o5 12 (.raw (so (.unOp .not 4 (tm 11)) 4)) 7,
 o1 13 (.pick (tm 7) (.const (.bool true)) (tm 12)),
 o1 14 (.mov (tm 13)),
 o5 15 (.mov (tm 0)) 14,
 o5 16 (.nilCheck (tm 15)) 14,
 o5 17 (.fieldAddr 2 (tm 16)) 14,
 o5 18 (.fieldAddr 0 (tm 17)) 14,
 o5 19 (.load none (tm 18)) 14,
 o5 20 (.bin .neq (so (.binOp .neq 41 (tm 19) k0 41) 4) (tm 19) k0) 14,
 o1 21 (.pick (tm 14) (.const (.bool true)) (tm 20))]) (.cond (tm 21)
 (.seq (.region [
 o1 22 (.mov (tm 4)),
 o1 4 (.mov (tm 22))]) .ret)
 .skip)) (.seq (.region [
 o1 23 (.mov (tm 0)),
 o3 (.defer (.func 114) [(tm 23)])]) (.seq (.region [
 o1 24 (.mov (tm 1)),
 o1 25 (.mov (tm 0)),
 o1 26 (.nilCheck (tm 25)),
 o1 27 (.fieldAddr 1 (tm 26)),
 o1 28 (.load none (tm 27)),
 o1 29 (.callV (tm 24) [(tm 28)]),
 o1 4 (.mov (tm 29))]) .ret))))
def zsdQ : AFunc := ⟨30, [(4, none)], zsdQ_c, none⟩
theorem zsdQ_t0 : tableOf Tryz.prog 76 = some zsdQ := by kernel_rfl
theorem zsdQ_t : T0 76 = some zsdQ := withKept_t rfl (withTrue_t rfl zsdQ_t0)
theorem zsdQ_runs {v0 v1 : Value} {h : Heap} {R : RP} {X : XP} (k : RunC Tryz.prog T0 zsdQ_c ⟨[v0, v1, U, U, U, U, U, U, U, U, U, U, U, U, U, U, U, U, U, U, U, U, U, U, U, U, U, U, U, U], [], h, none⟩ (bodyQ Tryz.prog T0 [(4, none)] R X)) :
 Runs Tryz.prog T0 (.fn 76) [v0, v1] h R X := Runs.fn zsdQ_t rfl k
abbrev fn_zrcQ : FuncId := 77
def zrcQ_c : ACode :=
 (.seq (.region [
 o1 4 (.mov (.const (.slice none 0 0)))]) (.seq (.region [
 o1 6 (.load none (tm 1)),
 o1 7 (.mov (tm 0)),
 o1 8 (.callV (.func 74) [(tm 6), (tm 7)]),
 o1 5 (.mov (tm 8))]) (.seq (.region [
 o1 9 (.mov (tm 5)),
 o1 10 (.load none (tm 2)),
 o1 11 (.raw (so (.call ⟨.builtin .max, #[(tm 10), k0], #[3, 3]⟩) 3)),
 o1 12 (.bin .leq (so (.binOp .leq 3 (tm 9) (tm 11) 3) 4) (tm 9) (tm 11)),
 o1 13 (.mov (tm 0)),
 o1 14 (.callV (.func 78) [(tm 12), (.const (.int .i64 4)), (tm 13)])]) (.seq (.region [
 o1 15 (.load none (tm 1)),
 o1 16 (.mov (tm 5)),
 o1 17 (.mov (tm 0)),
 o1 18 (.callV (.func 79) [(tm 15), (tm 16), (tm 17), (.func 72)]),
 o1 4 (.mov (tm 18))]) .ret))))
def zrcQ : AFunc := ⟨19, [(4, none)], zrcQ_c, none⟩
theorem zrcQ_t0 : tableOf Tryz.prog 77 = some zrcQ := by kernel_rfl
theorem zrcQ_t : T0 77 = some zrcQ := withKept_t rfl (withTrue_t rfl zrcQ_t0)
theorem zrcQ_runs {v0 v1 v2 : Value} {h : Heap} {R : RP} {X : XP} (k : RunC Tryz.prog T0 zrcQ_c ⟨[v0, v1, v2, U, U, U, U, U, U, U, U, U, U, U, U, U, U, U, U], [], h, none⟩ (bodyQ Tryz.prog T0 [(4, none)] R X)) :
 Runs Tryz.prog T0 (.fn 77) [v0, v1, v2] h R X := Runs.fn zrcQ_t rfl k
abbrev fn_zqdQ : FuncId := 78
def zqdQ_c : ACode :=
 (.seq (.region [
 o1 6 (.mov (tm 0)),
 o1 7 (.raw (so (.unOp .not 4 (tm 6)) 4))]) (.cond (tm 7)
 (.region [
 o1 8 (.mov (tm 1)),
 o1 9 (.mov (tm 2)),
 o1 10 (.build [(.int .i64 0), (.int .i64 0)] [(0, 1, (tm 8)), (1, 1, (tm 9))]),
 o1 11 (.build [(.int .i64 0), (.int .i64 0)] [(0, 2, (tm 10))]),
 o1 12 (.mkIface 162 (tm 11)),
 o3 (.panic (tm 12))])
 .skip))
def zqdQ : AFunc := ⟨13, [], zqdQ_c, none⟩
theorem zqdQ_t0 : tableOf Tryz.prog 78 = some zqdQ := by kernel_rfl
theorem zqdQ_t : T0 78 = some zqdQ := withKept_t rfl (withTrue_t rfl zqdQ_t0)
theorem zqdQ_runs {v0 v1 v2 : Value} {h : Heap} {R : RP} {X : XP} (k : RunC Tryz.prog T0 zqdQ_c ⟨[v0, v1, v2, U, U, U, U, U, U, U, U, U, U], [], h, none⟩ (bodyQ Tryz.prog T0 [] R X)) :
 Runs Tryz.prog T0 (.fn 78) [v0, v1, v2] h R X := Runs.fn zqdQ_t rfl k
abbrev fn_zxdQ : FuncId := 79
def zxdQ_c : ACode :=
 (.seq (.region [
 o1 8 (.mov (.const (.slice none 0 0)))]) (.seq (.regionD [
 o1 9 (.mov (tm 1)),
 o1 10 (.mov (tm 0)),
 o1 11 (.nilCheck (tm 10)),
 o1 12 (.fieldAddr 0 (tm 11)),
 o1 13 (.load none (tm 12)),
 o1 14 (.lenSl (tm 13)),
 o1 15 (.mov (tm 0)),
 o1 16 (.nilCheck (tm 15)),
 o1 17 (.fieldAddr 1 (tm 16)),
 o1 18 (.load none (tm 17)),
 o1 19 (.bin .sub (so (.binOp .sub 3 (tm 14) (tm 18) 3) 3) (tm 14) (tm 18)),
 o1 20 (.bin .leq (so (.binOp .leq 3 (tm 9) (tm 19) 3) 4) (tm 9) (tm 19)),
 o1 21 (.mov (tm 2)),
 o2 22 (.callV (.func 78) [(tm 20), (.const (.int .i64 6)), (tm 21)])]) (.seq (.region [
 o1 23 (.mov (tm 0)),
 o1 24 (.nilCheck (tm 23)),
 o1 25 (.fieldAddr 1 (tm 24)),
 o1 26 (.load none (tm 25)),
 o1 27 (.mov (tm 1)),
 o1 28 (.bin .add (so (.binOp .add 3 (tm 26) (tm 27) 3) 3) (tm 26) (tm 27)),
 o1 29 (.nilCheck (tm 23)),
 o1 30 (.fieldAddr 1 (tm 29)),
 o3 (.store 1 (tm 30) (tm 28))]) (.seq (.regionD [
 o1 31 (.mov (tm 3)),
 o1 32 (.mov (tm 0)),
 o1 33 (.nilCheck (tm 32)),
 o1 34 (.fieldAddr 0 (tm 33)),
 o1 35 (.load none (tm 34)),
 o1 36 (.mov (tm 0)),
 o1 37 (.nilCheck (tm 36)),
 o1 38 (.fieldAddr 1 (tm 37)),
 o1 39 (.load none (tm 38)),
 o1 40 (.mov (tm 1)),
 o1 41 (.bin .sub (so (.binOp .sub 3 (tm 39) (tm 40) 3) 3) (tm 39) (tm 40)),
 o1 42 (.mov (tm 0)),
 o1 43 (.nilCheck (tm 42)),
 o1 44 (.fieldAddr 1 (tm 43)),
 o1 45 (.load none (tm 44)),
 o1 46 (.sliceSl 1 (tm 35) (some (tm 41)) (some (tm 45)) none),
 o2 47 (.callV (tm 31) [(tm 46)]),
 o2 8 (.mov (tm 47))]) .ret))))
def zxdQ : AFunc := ⟨48, [(8, none)], zxdQ_c, none⟩
theorem zxdQ_t0 : tableOf Tryz.prog 79 = some zxdQ := by kernel_rfl
theorem zxdQ_t : T0 79 = some zxdQ := withKept_t rfl (withTrue_t rfl zxdQ_t0)
theorem zxdQ_runs {v0 v1 v2 v3 : Value} {h : Heap} {R : RP} {X : XP} (k : RunC Tryz.prog T0 zxdQ_c ⟨[v0, v1, v2, v3, U, U, U, U, U, U, U, U, U, U, U, U, U, U, U, U, U, U, U, U, U, U, U, U, U, U, U, U, U, U, U, U, U, U, U, U, U, U, U, U, U, U, U, U], [], h, none⟩ (bodyQ Tryz.prog T0 [(8, none)] R X)) :
 Runs Tryz.prog T0 (.fn 79) [v0, v1, v2, v3] h R X := Runs.fn zxdQ_t rfl k
abbrev fn_zhQ : FuncId := 80
def zhQ_c : ACode :=
 (.seq (.region [
 o1 8 (.alloc 30 ((.string ⟨⟨[]⟩⟩) :: ((.int .i64 0) :: ((.int .i64 0) :: (z32 ++ (z32 ++ (z32 ++ z32)))))))]) (.seq (.seq (.region [
 o1 13 (.mov (tm 2)),
 o1 14 (.nilCheck (tm 13)),
 o1 15 (.load (some 2) (tm 14)),
 o1 16 (.build [(.int .i64 0), (.int .i64 0)] []),
 o1 17 (.bin .neq (so (.binOp .neq 43 (tm 15) (tm 16) 43) 4) (tm 15) (tm 16))]) (.cond (tm 17)
 (.seq (.region [
 o1 18 (.load (some 131) (tm 8)),
 o3 (.store 131 (tm 8) (tm 18))]) .ret)
 .skip)) (.seq (.region [
 o1 19 (.mov (tm 1)),
 o1 20 (.mov (tm 0)),
 o1 21 (.callV (.func 75) [(tm 20)]),
 o1 22 (.bin .sub (so (.binOp .sub 3 (tm 19) (tm 21) 3) 3) (tm 19) (tm 21)),
 o1 9 (.mov (tm 22))]) (.seq (.region [
 o1 23 (.mov (tm 0)),
 o1 24 (.callV (.func 39) [(tm 23), (.const (.int .i64 65536))]),
 o1 10 (.mov (tm 24))]) (.seq (.seq (.region [
 o1 25 (.mov (tm 0)),
 o1 26 (.callV (.func 75) [(tm 25)]),
 o1 27 (.bin .eql (so (.binOp .eql 3 (tm 26) k0 3) 4) (tm 26) k0),
 o1 28 (.mov (tm 27)),
 o4 29 (.mov (tm 0)) 28,
 o4 30 (.callV (.func 41) [(tm 29)]) 28,
 o4 31 (.build [(.int .i64 0), (.int .i64 0)] []) 28,
 o4 32 (.bin .neq (so (.binOp .neq 43 (tm 30) (tm 31) 43) 4) (tm 30) (tm 31)) 28,
 o1 33 (.pick (tm 28) (tm 32) (.const (.bool false)))]) (.cond (tm 33)
 (.seq (.region [
 o1 34 (.mov (tm 2)),
 o1 35 (.mov (tm 0)),
 o1 36 (.callV (.func 41) [(tm 35)]),
 o1 37 (.nilCheck (tm 34)),
 o3 (.store 2 (tm 37) (tm 36))]) (.seq (.region [
 o1 38 (.load (some 131) (tm 8)),
 o3 (.store 131 (tm 8) (tm 38))]) .ret))
 .skip)) (.seq (.region [
 o1 40 (.mov (tm 3)),
 o1 41 (.mov (tm 10)),
 o1 42 (.callV (tm 40) [(tm 41)]),
 o1 39 (.mov (tm 42)),
 o1 43 (.extract 0 (tm 39)),
 o1 44 (.extract 1 (tm 39)),
 o1 11 (.alloc 30 ((.string ⟨⟨[]⟩⟩) :: ((.int .i64 0) :: ((.int .i64 0) :: (z32 ++ (z32 ++ (z32 ++ z32))))))),
 o1 12 (.alloc 43 [(.int .i64 0), (.int .i64 0)]),
 o3 (.store 131 (tm 11) (tm 43)),
 o3 (.store 2 (tm 12) (tm 44))]) (.seq (.seq (.region [
 o1 45 (.load (some 2) (tm 12)),
 o1 46 (.build [(.int .i64 0), (.int .i64 0)] []),
 o1 47 (.bin .neq (so (.binOp .neq 43 (tm 45) (tm 46) 43) 4) (tm 45) (tm 46))]) (.cond (tm 47)
 (.seq (.region [
 o1 48 (.mov (tm 2)),
 o1 49 (.mov (tm 9)),
 o1 50 (.build [(.int .i64 0), (.int .i64 0)] [(0, 1, (.const (.int .i64 5))), (1, 1, (tm 49))]),
 o1 51 (.nilCheck (tm 48)),
 o3 (.store 2 (tm 51) (tm 50))]) (.seq (.region [
 o1 52 (.load (some 131) (tm 8)),
 o3 (.store 131 (tm 8) (tm 52))]) .ret))
 .skip)) (.seq (.region [
 o1 53 (.load (some 131) (tm 11)),
 o3 (.store 131 (tm 8) (tm 53))]) .ret))))))))
def zhQ : AFunc := ⟨54, [(8, some (some 131))], zhQ_c, none⟩
theorem zhQ_t0 : tableOf Tryz.prog 80 = some zhQ := by kernel_rfl
theorem zhQ_t : T0 80 = some zhQ := withKept_t rfl (withTrue_t rfl zhQ_t0)
theorem zhQ_runs {v0 v1 v2 v3 : Value} {h : Heap} {R : RP} {X : XP} (k : RunC Tryz.prog T0 zhQ_c ⟨[v0, v1, v2, v3, U, U, U, U, U, U, U, U, U, U, U, U, U, U, U, U, U, U, U, U, U, U, U, U, U, U, U, U, U, U, U, U, U, U, U, U, U, U, U, U, U, U, U, U, U, U, U, U, U, U], [], h, none⟩ (bodyQ Tryz.prog T0 [(8, some (some 131))] R X)) :
 Runs Tryz.prog T0 (.fn 80) [v0, v1, v2, v3] h R X := Runs.fn zhQ_t rfl k
abbrev fn_ztQ : FuncId := 81
def ztQ_l0 : ACode :=
 (.seq (.region [
 o1 20 (.bin .lss (so (.binOp .lss 3 (tm 19) (.const (.int .i64 4)) 3) 0) (tm 19) (.const (.int .i64 4)))]) (.seq (.cond (tm 20)
 .skip
 (.exit 0)) (.seq (.block 1 (.seq (.region [
 o1 21 (.index 4 1 none (tm 18) (tm 19)),
 o1 7 (.mov (tm 21))]) (.region [
 o1 22 (.mov (tm 7)),
 o1 23 (.mov (tm 4)),
 o1 24 (.callV (.func 119) [(tm 23)]),
 o1 25 (.nilCheck (tm 22)),
 o3 (.store 32 (tm 25) (tm 24))]))) (.region [
 o1 26 (.bin .add (so (.binOp .add 3 (tm 19) (.const (.int .i64 1)) 3) 3) (tm 19) (.const (.int .i64 1))),
 o1 19 (.mov (tm 26))]))))
def ztQ_c : ACode :=
 (.seq (.region [
 o1 2 (.alloc 30 ((.string ⟨⟨[]⟩⟩) :: ((.int .i64 0) :: ((.int .i64 0) :: (z32 ++ (z32 ++ (z32 ++ z32))))))),
 o1 3 (.alloc 43 [(.int .i64 0), (.int .i64 0)])]) (.seq (.region [
 o1 9 (.mov (tm 0)),
 o1 10 (.callV (.func 32) [(tm 9)]),
 o1 4 (.mov (tm 10))]) (.seq (.region [
 o1 11 (.mov (tm 4)),
 o1 12 (.callV (.func 118) [(tm 11), (.const (.int .i64 32))]),
 o1 13 (.mov (tm 4)),
 o1 14 (.callV (.func 33) [(tm 13)]),
 o1 15 (.mov (tm 4)),
 o1 16 (.callV (.func 33) [(tm 15)]),
 o1 17 (.build ((.string ⟨⟨[]⟩⟩) :: ((.int .i64 0) :: ((.int .i64 0) :: (z32 ++ (z32 ++ (z32 ++ z32)))))) [(0, 1, (tm 12)), (1, 1, (tm 14)), (2, 1, (tm 16))]),
 o1 5 (.alloc 30 ((.string ⟨⟨[]⟩⟩) :: ((.int .i64 0) :: ((.int .i64 0) :: (z32 ++ (z32 ++ (z32 ++ z32))))))),
 o3 (.store 131 (tm 5) (tm 17))]) (.seq (.seq (.region [
 o1 18 (.callV (.func 108) [(tm 5)]),
 o1 19 (.mov k0)]) (.block 0 (.loop ztQ_l0))) (.seq (.region [
 o1 27 (.mov (tm 4)),
 o1 28 (.callV (.func 41) [(tm 27)]),
 o1 8 (.alloc 43 [(.int .i64 0), (.int .i64 0)]),
 o3 (.store 2 (tm 8) (tm 28))]) (.seq (.seq (.region [
 o1 29 (.load (some 2) (tm 8)),
 o1 30 (.build [(.int .i64 0), (.int .i64 0)] []),
 o1 31 (.bin .eql (so (.binOp .eql 43 (tm 29) (tm 30) 43) 4) (tm 29) (tm 30))]) (.cond (tm 31)
 (.region [
 o1 32 (.load (some 131) (tm 5)),
 o1 33 (.callV (.func 101) [(tm 32)]),
 o1 34 (.fieldAddr 0 (tm 8)),
 o3 (.store 1 (tm 34) (tm 33))])
 .skip)) (.seq (.seq (.region [
 o1 35 (.load (some 2) (tm 8)),
 o1 36 (.build [(.int .i64 0), (.int .i64 0)] []),
 o1 37 (.bin .neq (so (.binOp .neq 43 (tm 35) (tm 36) 43) 4) (tm 35) (tm 36))]) (.cond (tm 37)
 (.seq (.regionD [
 o1 38 (.build ((.string ⟨⟨[]⟩⟩) :: ((.int .i64 0) :: ((.int .i64 0) :: (z32 ++ (z32 ++ (z32 ++ z32)))))) []),
 o1 39 (.load (some 2) (tm 8)),
 ⟨none, .store 131 (tm 2) (tm 38), none, [(some 39, .load (some 2) (tm 8), none)], false⟩,
 ⟨none, .store 2 (tm 3) (tm 39), none, [], true⟩]) .ret)
 .skip)) (.seq (.regionD [
 o1 40 (.load (some 131) (tm 5)),
 o1 41 (.load (some 2) (tm 8)),
 ⟨none, .store 131 (tm 2) (tm 40), none, [(some 41, .load (some 2) (tm 8), none)], false⟩,
 ⟨none, .store 2 (tm 3) (tm 41), none, [], true⟩]) .ret))))))))
def ztQ : AFunc := ⟨42, [(2, some (some 131)), (3, some (some 2))], ztQ_c, none⟩
theorem ztQ_t0 : tableOf Tryz.prog 81 = some ztQ := by kernel_rfl
theorem ztQ_t : T0 81 = some ztQ := withKept_t rfl (withTrue_t rfl ztQ_t0)
theorem ztQ_runs {v0 : Value} {h : Heap} {R : RP} {X : XP} (k : RunC Tryz.prog T0 ztQ_c ⟨[v0, U, U, U, U, U, U, U, U, U, U, U, U, U, U, U, U, U, U, U, U, U, U, U, U, U, U, U, U, U, U, U, U, U, U, U, U, U, U, U, U, U], [], h, none⟩ (bodyQ Tryz.prog T0 [(2, some (some 131)), (3, some (some 2))] R X)) :
 Runs Tryz.prog T0 (.fn 81) [v0] h R X := Runs.fn ztQ_t rfl k
def ztQ_l0_J (f0 f1 f2 f3 f4 f5 f6 f8 f9 f10 f11 f12 f13 f14 f15 f16 f17 f18 f27 f28 f29 f30 f31 f32 f33 f34 f35 f36 f37 f38 f39 f40 f41 : Value) (ds : List Deferred) (rd : Option Nat) (I : Nat → Value → Heap → Prop) (m : Nat) (s : St) : Prop := ∃ (v19 : Value), ∃ h : Heap, ∃ (x7 x20 x21 x22 x23 x24 x25 x26 : Value), s = ⟨[f0, f1, f2, f3, f4, f5, f6, x7, f8, f9, f10, f11, f12, f13, f14, f15, f16, f17, f18, v19, x20, x21, x22, x23, x24, x25, x26, f27, f28, f29, f30, f31, f32, f33, f34, f35, f36, f37, f38, f39, f40, f41], ds, h, rd⟩ ∧ I m v19 h
theorem ztQ_l0_rule {f0 f1 f2 f3 f4 f5 f6 f8 f9 f10 f11 f12 f13 f14 f15 f16 f17 f18 f27 f28 f29 f30 f31 f32 f33 f34 f35 f36 f37 f38 f39 f40 f41 : Value} {ds : List Deferred} {rd : Option Nat} {Q : QP} (I : Nat → Value → Heap → Prop) (hb : ∀ (m : Nat) (v19 : Value) (h : Heap) (x7 x20 x21 x22 x23 x24 x25 x26 : Value) , I m v19 h → RunC Tryz.prog T0 ztQ_l0 ⟨[f0, f1, f2, f3, f4, f5, f6, x7, f8, f9, f10, f11, f12, f13, f14, f15, f16, f17, f18, v19, x20, x21, x22, x23, x24, x25, x26, f27, f28, f29, f30, f31, f32, f33, f34, f35, f36, f37, f38, f39, f40, f41], ds, h, rd⟩ (loopQ (ztQ_l0_J f0 f1 f2 f3 f4 f5 f6 f8 f9 f10 f11 f12 f13 f14 f15 f16 f17 f18 f27 f28 f29 f30 f31 f32 f33 f34 f35 f36 f37 f38 f39 f40 f41 ds rd I) m Q))
 (m : Nat) {v19 : Value} {h : Heap} {x7 x20 x21 x22 x23 x24 x25 x26 : Value} (hi : I m v19 h) : RunC Tryz.prog T0 (.loop ztQ_l0) ⟨[f0, f1, f2, f3, f4, f5, f6, x7, f8, f9, f10, f11, f12, f13, f14, f15, f16, f17, f18, v19, x20, x21, x22, x23, x24, x25, x26, f27, f28, f29, f30, f31, f32, f33, f34, f35, f36, f37, f38, f39, f40, f41], ds, h, rd⟩ Q :=
 RunC.loopJ (ztQ_l0_J f0 f1 f2 f3 f4 f5 f6 f8 f9 f10 f11 f12 f13 f14 f15 f16 f17 f18 f27 f28 f29 f30 f31 f32 f33 f34 f35 f36 f37 f38 f39 f40 f41 ds rd I) (fun m s hj => by obtain ⟨v19, h, x7, x20, x21, x22, x23, x24, x25, x26, rfl, hi⟩ := hj; exact hb m v19 h x7 x20 x21 x22 x23 x24 x25 x26 hi) m _ ⟨_, h, _, _, _, _, _, _, _, _, rfl, hi⟩
theorem ztQ_l0_again {f0 f1 f2 f3 f4 f5 f6 f8 f9 f10 f11 f12 f13 f14 f15 f16 f17 f18 f27 f28 f29 f30 f31 f32 f33 f34 f35 f36 f37 f38 f39 f40 f41 : Value} {ds : List Deferred} {rd : Option Nat} {Q : QP} {I : Nat → Value → Heap → Prop} {m : Nat} (m' : Nat) {v19 : Value} {h : Heap} {x7 x20 x21 x22 x23 x24 x25 x26 : Value} (hm : m' < m) (hi : I m' v19 h) : loopQ (ztQ_l0_J f0 f1 f2 f3 f4 f5 f6 f8 f9 f10 f11 f12 f13 f14 f15 f16 f17 f18 f27 f28 f29 f30 f31 f32 f33 f34 f35 f36 f37 f38 f39 f40 f41 ds rd I) m Q .normal ⟨[f0, f1, f2, f3, f4, f5, f6, x7, f8, f9, f10, f11, f12, f13, f14, f15, f16, f17, f18, v19, x20, x21, x22, x23, x24, x25, x26, f27, f28, f29, f30, f31, f32, f33, f34, f35, f36, f37, f38, f39, f40, f41], ds, h, rd⟩ :=
 loopQ.again m' hm ⟨_, h, _, _, _, _, _, _, _, _, rfl, hi⟩
abbrev fn_zgQ : FuncId := 82
def zgQ_c : ACode :=
 (.seq (.region [
 o1 8 (.alloc 33 ((.int .i64 0) :: (z32 ++ [(.slice none 0 0)])))]) (.seq (.seq (.region [
 o1 13 (.mov (tm 2)),
 o1 14 (.nilCheck (tm 13)),
 o1 15 (.load (some 2) (tm 14)),
 o1 16 (.build [(.int .i64 0), (.int .i64 0)] []),
 o1 17 (.bin .neq (so (.binOp .neq 43 (tm 15) (tm 16) 43) 4) (tm 15) (tm 16))]) (.cond (tm 17)
 (.seq (.region [
 o1 18 (.load (some 34) (tm 8)),
 o3 (.store 34 (tm 8) (tm 18))]) .ret)
 .skip)) (.seq (.region [
 o1 19 (.mov (tm 1)),
 o1 20 (.mov (tm 0)),
 o1 21 (.callV (.func 75) [(tm 20)]),
 o1 22 (.bin .sub (so (.binOp .sub 3 (tm 19) (tm 21) 3) 3) (tm 19) (tm 21)),
 o1 9 (.mov (tm 22))]) (.seq (.region [
 o1 23 (.mov (tm 0)),
 o1 24 (.callV (.func 39) [(tm 23), (.const (.int .i64 65536))]),
 o1 10 (.mov (tm 24))]) (.seq (.seq (.region [
 o1 25 (.mov (tm 0)),
 o1 26 (.callV (.func 75) [(tm 25)]),
 o1 27 (.bin .eql (so (.binOp .eql 3 (tm 26) k0 3) 4) (tm 26) k0),
 o1 28 (.mov (tm 27)),
 o4 29 (.mov (tm 0)) 28,
 o4 30 (.callV (.func 41) [(tm 29)]) 28,
 o4 31 (.build [(.int .i64 0), (.int .i64 0)] []) 28,
 o4 32 (.bin .neq (so (.binOp .neq 43 (tm 30) (tm 31) 43) 4) (tm 30) (tm 31)) 28,
 o1 33 (.pick (tm 28) (tm 32) (.const (.bool false)))]) (.cond (tm 33)
 (.seq (.region [
 o1 34 (.mov (tm 2)),
 o1 35 (.mov (tm 0)),
 o1 36 (.callV (.func 41) [(tm 35)]),
 o1 37 (.nilCheck (tm 34)),
 o3 (.store 2 (tm 37) (tm 36))]) (.seq (.region [
 o1 38 (.load (some 34) (tm 8)),
 o3 (.store 34 (tm 8) (tm 38))]) .ret))
 .skip)) (.seq (.region [
 o1 40 (.mov (tm 3)),
 o1 41 (.mov (tm 10)),
 o1 42 (.callV (tm 40) [(tm 41)]),
 o1 39 (.mov (tm 42)),
 o1 43 (.extract 0 (tm 39)),
 o1 44 (.extract 1 (tm 39)),
 o1 11 (.alloc 33 ((.int .i64 0) :: (z32 ++ [(.slice none 0 0)]))),
 o1 12 (.alloc 43 [(.int .i64 0), (.int .i64 0)]),
 o3 (.store 34 (tm 11) (tm 43)),
 o3 (.store 2 (tm 12) (tm 44))]) (.seq (.seq (.region [
 o1 45 (.load (some 2) (tm 12)),
 o1 46 (.build [(.int .i64 0), (.int .i64 0)] []),
 o1 47 (.bin .neq (so (.binOp .neq 43 (tm 45) (tm 46) 43) 4) (tm 45) (tm 46))]) (.cond (tm 47)
 (.seq (.region [
 o1 48 (.mov (tm 2)),
 o1 49 (.mov (tm 9)),
 o1 50 (.build [(.int .i64 0), (.int .i64 0)] [(0, 1, (.const (.int .i64 5))), (1, 1, (tm 49))]),
 o1 51 (.nilCheck (tm 48)),
 o3 (.store 2 (tm 51) (tm 50))]) (.seq (.region [
 o1 52 (.load (some 34) (tm 8)),
 o3 (.store 34 (tm 8) (tm 52))]) .ret))
 .skip)) (.seq (.region [
 o1 53 (.load (some 34) (tm 11)),
 o3 (.store 34 (tm 8) (tm 53))]) .ret))))))))
def zgQ : AFunc := ⟨54, [(8, some (some 34))], zgQ_c, none⟩
theorem zgQ_t0 : tableOf Tryz.prog 82 = some zgQ := by kernel_rfl
theorem zgQ_t : T0 82 = some zgQ := withKept_t rfl (withTrue_t rfl zgQ_t0)
theorem zgQ_runs {v0 v1 v2 v3 : Value} {h : Heap} {R : RP} {X : XP} (k : RunC Tryz.prog T0 zgQ_c ⟨[v0, v1, v2, v3, U, U, U, U, U, U, U, U, U, U, U, U, U, U, U, U, U, U, U, U, U, U, U, U, U, U, U, U, U, U, U, U, U, U, U, U, U, U, U, U, U, U, U, U, U, U, U, U, U, U], [], h, none⟩ (bodyQ Tryz.prog T0 [(8, some (some 34))] R X)) :
 Runs Tryz.prog T0 (.fn 82) [v0, v1, v2, v3] h R X := Runs.fn zgQ_t rfl k
abbrev fn_zoQ : FuncId := 83
def zoQ_l0 : ACode :=
 (.seq (.region [
 o1 30 (.bin .lss (so (.binOp .lss 3 (tm 29) (tm 28) 3) 4) (tm 29) (tm 28))]) (.seq (.cond (tm 30)
 .skip
 (.exit 0)) (.seq (.block 1 (.seq (.region [
 o1 31 (.mov (tm 4)),
 o1 32 (.callV (.func 33) [(tm 31)]),
 o1 33 (.build [(.int .i64 0), (.int .u64 0)] [(0, 1, (tm 32))]),
 o1 7 (.alloc 134 [(.int .i64 0), (.int .u64 0)]),
 o3 (.store 2 (tm 7) (tm 33))]) (.seq (.region [
 o1 34 (.mov (tm 4)),
 o1 35 (.callV (.func 120) [(tm 34)]),
 o1 36 (.fieldAddr 1 (tm 7)),
 o3 (.store 1 (tm 36) (tm 35))]) (.region [
 o1 37 (.fieldAddr 33 (tm 2)),
 o1 38 (.load none (tm 37)),
 o1 39 (.load (some 2) (tm 7)),
 o1 40 (.buildSlice 134 [(.int .i64 0), (.int .u64 0)] 1 [(0, 2, (tm 39))]),
 o1 41 (.append 134 2 16 [(.int .i64 0), (.int .u64 0)] false (tm 38) (tm 40)),
 o1 42 (.fieldAddr 33 (tm 2)),
 o3 (.store 1 (tm 42) (tm 41))])))) (.region [
 o1 43 (.bin .add (so (.binOp .add 3 (tm 29) (.const (.int .i64 1)) 3) 3) (tm 29) (.const (.int .i64 1))),
 o1 29 (.mov (tm 43))]))))
def zoQ_c : ACode :=
 (.seq (.region [
 o1 2 (.alloc 33 ((.int .i64 0) :: (z32 ++ [(.slice none 0 0)]))),
 o1 3 (.alloc 43 [(.int .i64 0), (.int .i64 0)])]) (.seq (.region [
 o1 8 (.mov (tm 0)),
 o1 9 (.callV (.func 32) [(tm 8)]),
 o1 4 (.mov (tm 9))]) (.seq (.region [
 o1 10 (.mov (tm 4)),
 o1 11 (.callV (.func 33) [(tm 10)]),
 o1 12 (.fieldAddr 0 (tm 2)),
 o3 (.store 1 (tm 12) (tm 11))]) (.seq (.region [
 o1 13 (.mov (tm 4)),
 o1 14 (.callV (.func 119) [(tm 13)]),
 o1 15 (.fieldAddr 1 (tm 2)),
 o3 (.store 32 (tm 15) (tm 14))]) (.seq (.region [
 o1 16 (.mov (tm 0)),
 o1 17 (.lenSl (tm 16)),
 o1 18 (.mov (tm 4)),
 o1 19 (.callV (.func 75) [(tm 18)]),
 o1 20 (.bin .sub (so (.binOp .sub 3 (tm 17) (tm 19) 3) 3) (tm 17) (tm 19)),
 o1 5 (.mov (tm 20))]) (.seq (.region [
 o1 21 (.mov (tm 4)),
 o1 22 (.callV (.func 33) [(tm 21)]),
 o1 6 (.mov (tm 22))]) (.seq (.seq (.region [
 o1 23 (.mov (tm 6)),
 o1 24 (.bin .gtr (so (.binOp .gtr 3 (tm 23) (.const (.int .i64 64)) 3) 4) (tm 23) (.const (.int .i64 64)))]) (.cond (tm 24)
 (.seq (.region [
 o1 25 (.build ((.int .i64 0) :: (z32 ++ [(.slice none 0 0)])) []),
 o1 26 (.mov (tm 5)),
 o1 27 (.build [(.int .i64 0), (.int .i64 0)] [(0, 1, (.const (.int .i64 4))), (1, 1, (tm 26))]),
 o3 (.store 34 (tm 2) (tm 25)),
 o3 (.store 2 (tm 3) (tm 27))]) .ret)
 .skip)) (.seq (.seq (.region [
 o1 28 (.mov (tm 6)),
 o1 29 (.mov k0)]) (.block 0 (.loop zoQ_l0))) (.seq (.seq (.region [
 o1 44 (.mov (tm 4)),
 o1 45 (.callV (.func 41) [(tm 44)]),
 o3 (.store 2 (tm 3) (tm 45))]) (.seq (.region [
 o1 46 (.load (some 2) (tm 3)),
 o1 47 (.build [(.int .i64 0), (.int .i64 0)] []),
 o1 48 (.bin .eql (so (.binOp .eql 43 (tm 46) (tm 47) 43) 4) (tm 46) (tm 47))]) (.cond (tm 48)
 (.region [
 o1 49 (.load (some 34) (tm 2)),
 o1 50 (.callV (.func 105) [(tm 49)]),
 o1 51 (.fieldAddr 0 (tm 3)),
 o3 (.store 1 (tm 51) (tm 50))])
 .skip))) (.seq (.seq (.region [
 o1 52 (.load (some 2) (tm 3)),
 o1 53 (.build [(.int .i64 0), (.int .i64 0)] []),
 o1 54 (.bin .neq (so (.binOp .neq 43 (tm 52) (tm 53) 43) 4) (tm 52) (tm 53))]) (.cond (tm 54)
 (.seq (.regionD [
 o1 55 (.build ((.int .i64 0) :: (z32 ++ [(.slice none 0 0)])) []),
 o1 56 (.load (some 2) (tm 3)),
 ⟨none, .store 34 (tm 2) (tm 55), none, [(some 56, .load (some 2) (tm 3), none)], false⟩,
 ⟨none, .store 2 (tm 3) (tm 56), none, [], true⟩]) .ret)
 .skip)) (.seq (.regionD [
 o1 57 (.load (some 34) (tm 2)),
 o1 58 (.load (some 2) (tm 3)),
 ⟨none, .store 34 (tm 2) (tm 57), none, [(some 58, .load (some 2) (tm 3), none)], false⟩,
 ⟨none, .store 2 (tm 3) (tm 58), none, [], true⟩]) .ret)))))))))))
def zoQ : AFunc := ⟨59, [(2, some (some 34)), (3, some (some 2))], zoQ_c, none⟩
theorem zoQ_t0 : tableOf Tryz.prog 83 = some zoQ := by kernel_rfl
theorem zoQ_t : T0 83 = some zoQ := withKept_t rfl (withTrue_t rfl zoQ_t0)
theorem zoQ_runs {v0 : Value} {h : Heap} {R : RP} {X : XP} (k : RunC Tryz.prog T0 zoQ_c ⟨[v0, U, U, U, U, U, U, U, U, U, U, U, U, U, U, U, U, U, U, U, U, U, U, U, U, U, U, U, U, U, U, U, U, U, U, U, U, U, U, U, U, U, U, U, U, U, U, U, U, U, U, U, U, U, U, U, U, U, U], [], h, none⟩ (bodyQ Tryz.prog T0 [(2, some (some 34)), (3, some (some 2))] R X)) :
 Runs Tryz.prog T0 (.fn 83) [v0] h R X := Runs.fn zoQ_t rfl k
def zoQ_l0_J (f0 f1 f2 f3 f4 f5 f6 f8 f9 f10 f11 f12 f13 f14 f15 f16 f17 f18 f19 f20 f21 f22 f23 f24 f25 f26 f27 f28 f44 f45 f46 f47 f48 f49 f50 f51 f52 f53 f54 f55 f56 f57 f58 : Value) (ds : List Deferred) (rd : Option Nat) (I : Nat → Value → Heap → Prop) (m : Nat) (s : St) : Prop := ∃ (v29 : Value), ∃ h : Heap, ∃ (x7 x30 x31 x32 x33 x34 x35 x36 x37 x38 x39 x40 x41 x42 x43 : Value), s = ⟨[f0, f1, f2, f3, f4, f5, f6, x7, f8, f9, f10, f11, f12, f13, f14, f15, f16, f17, f18, f19, f20, f21, f22, f23, f24, f25, f26, f27, f28, v29, x30, x31, x32, x33, x34, x35, x36, x37, x38, x39, x40, x41, x42, x43, f44, f45, f46, f47, f48, f49, f50, f51, f52, f53, f54, f55, f56, f57, f58], ds, h, rd⟩ ∧ I m v29 h
theorem zoQ_l0_rule {f0 f1 f2 f3 f4 f5 f6 f8 f9 f10 f11 f12 f13 f14 f15 f16 f17 f18 f19 f20 f21 f22 f23 f24 f25 f26 f27 f28 f44 f45 f46 f47 f48 f49 f50 f51 f52 f53 f54 f55 f56 f57 f58 : Value} {ds : List Deferred} {rd : Option Nat} {Q : QP} (I : Nat → Value → Heap → Prop) (hb : ∀ (m : Nat) (v29 : Value) (h : Heap) (x7 x30 x31 x32 x33 x34 x35 x36 x37 x38 x39 x40 x41 x42 x43 : Value) , I m v29 h → RunC Tryz.prog T0 zoQ_l0 ⟨[f0, f1, f2, f3, f4, f5, f6, x7, f8, f9, f10, f11, f12, f13, f14, f15, f16, f17, f18, f19, f20, f21, f22, f23, f24, f25, f26, f27, f28, v29, x30, x31, x32, x33, x34, x35, x36, x37, x38, x39, x40, x41, x42, x43, f44, f45, f46, f47, f48, f49, f50, f51, f52, f53, f54, f55, f56, f57, f58], ds, h, rd⟩ (loopQ (zoQ_l0_J f0 f1 f2 f3 f4 f5 f6 f8 f9 f10 f11 f12 f13 f14 f15 f16 f17 f18 f19 f20 f21 f22 f23 f24 f25 f26 f27 f28 f44 f45 f46 f47 f48 f49 f50 f51 f52 f53 f54 f55 f56 f57 f58 ds rd I) m Q))
 (m : Nat) {v29 : Value} {h : Heap} {x7 x30 x31 x32 x33 x34 x35 x36 x37 x38 x39 x40 x41 x42 x43 : Value} (hi : I m v29 h) : RunC Tryz.prog T0 (.loop zoQ_l0) ⟨[f0, f1, f2, f3, f4, f5, f6, x7, f8, f9, f10, f11, f12, f13, f14, f15, f16, f17, f18, f19, f20, f21, f22, f23, f24, f25, f26, f27, f28, v29, x30, x31, x32, x33, x34, x35, x36, x37, x38, x39, x40, x41, x42, x43, f44, f45, f46, f47, f48, f49, f50, f51, f52, f53, f54, f55, f56, f57, f58], ds, h, rd⟩ Q :=
 RunC.loopJ (zoQ_l0_J f0 f1 f2 f3 f4 f5 f6 f8 f9 f10 f11 f12 f13 f14 f15 f16 f17 f18 f19 f20 f21 f22 f23 f24 f25 f26 f27 f28 f44 f45 f46 f47 f48 f49 f50 f51 f52 f53 f54 f55 f56 f57 f58 ds rd I) (fun m s hj => by obtain ⟨v29, h, x7, x30, x31, x32, x33, x34, x35, x36, x37, x38, x39, x40, x41, x42, x43, rfl, hi⟩ := hj; exact hb m v29 h x7 x30 x31 x32 x33 x34 x35 x36 x37 x38 x39 x40 x41 x42 x43 hi) m _ ⟨_, h, _, _, _, _, _, _, _, _, _, _, _, _, _, _, _, rfl, hi⟩
theorem zoQ_l0_again {f0 f1 f2 f3 f4 f5 f6 f8 f9 f10 f11 f12 f13 f14 f15 f16 f17 f18 f19 f20 f21 f22 f23 f24 f25 f26 f27 f28 f44 f45 f46 f47 f48 f49 f50 f51 f52 f53 f54 f55 f56 f57 f58 : Value} {ds : List Deferred} {rd : Option Nat} {Q : QP} {I : Nat → Value → Heap → Prop} {m : Nat} (m' : Nat) {v29 : Value} {h : Heap} {x7 x30 x31 x32 x33 x34 x35 x36 x37 x38 x39 x40 x41 x42 x43 : Value} (hm : m' < m) (hi : I m' v29 h) : loopQ (zoQ_l0_J f0 f1 f2 f3 f4 f5 f6 f8 f9 f10 f11 f12 f13 f14 f15 f16 f17 f18 f19 f20 f21 f22 f23 f24 f25 f26 f27 f28 f44 f45 f46 f47 f48 f49 f50 f51 f52 f53 f54 f55 f56 f57 f58 ds rd I) m Q .normal ⟨[f0, f1, f2, f3, f4, f5, f6, x7, f8, f9, f10, f11, f12, f13, f14, f15, f16, f17, f18, f19, f20, f21, f22, f23, f24, f25, f26, f27, f28, v29, x30, x31, x32, x33, x34, x35, x36, x37, x38, x39, x40, x41, x42, x43, f44, f45, f46, f47, f48, f49, f50, f51, f52, f53, f54, f55, f56, f57, f58], ds, h, rd⟩ :=
 loopQ.again m' hm ⟨_, h, _, _, _, _, _, _, _, _, _, _, _, _, _, _, _, rfl, hi⟩
abbrev fn_zfQ : FuncId := 84
def zfQ_c : ACode :=
 (.seq (.region [
 o1 8 (.mov (.const (.slice none 0 0)))]) (.seq (.seq (.region [
 o1 13 (.mov (tm 2)),
 o1 14 (.nilCheck (tm 13)),
 o1 15 (.load (some 2) (tm 14)),
 o1 16 (.build [(.int .i64 0), (.int .i64 0)] []),
 o1 17 (.bin .neq (so (.binOp .neq 43 (tm 15) (tm 16) 43) 4) (tm 15) (tm 16))]) (.cond (tm 17)
 (.seq (.region [
 o1 18 (.mov (tm 8)),
 o1 8 (.mov (tm 18))]) .ret)
 .skip)) (.seq (.region [
 o1 19 (.mov (tm 1)),
 o1 20 (.mov (tm 0)),
 o1 21 (.callV (.func 75) [(tm 20)]),
 o1 22 (.bin .sub (so (.binOp .sub 3 (tm 19) (tm 21) 3) 3) (tm 19) (tm 21)),
 o1 9 (.mov (tm 22))]) (.seq (.region [
 o1 23 (.mov (tm 0)),
 o1 24 (.callV (.func 39) [(tm 23), (.const (.int .i64 65536))]),
 o1 10 (.mov (tm 24))]) (.seq (.seq (.region [
 o1 25 (.mov (tm 0)),
 o1 26 (.callV (.func 75) [(tm 25)]),
 o1 27 (.bin .eql (so (.binOp .eql 3 (tm 26) k0 3) 4) (tm 26) k0),
 o1 28 (.mov (tm 27)),
 o4 29 (.mov (tm 0)) 28,
 o4 30 (.callV (.func 41) [(tm 29)]) 28,
 o4 31 (.build [(.int .i64 0), (.int .i64 0)] []) 28,
 o4 32 (.bin .neq (so (.binOp .neq 43 (tm 30) (tm 31) 43) 4) (tm 30) (tm 31)) 28,
 o1 33 (.pick (tm 28) (tm 32) (.const (.bool false)))]) (.cond (tm 33)
 (.seq (.region [
 o1 34 (.mov (tm 2)),
 o1 35 (.mov (tm 0)),
 o1 36 (.callV (.func 41) [(tm 35)]),
 o1 37 (.nilCheck (tm 34)),
 o3 (.store 2 (tm 37) (tm 36))]) (.seq (.region [
 o1 38 (.mov (tm 8)),
 o1 8 (.mov (tm 38))]) .ret))
 .skip)) (.seq (.region [
 o1 40 (.mov (tm 3)),
 o1 41 (.mov (tm 10)),
 o1 42 (.callV (tm 40) [(tm 41)]),
 o1 39 (.mov (tm 42)),
 o1 43 (.extract 0 (tm 39)),
 o1 44 (.extract 1 (tm 39)),
 o1 12 (.alloc 43 [(.int .i64 0), (.int .i64 0)]),
 o1 11 (.mov (tm 43)),
 o3 (.store 2 (tm 12) (tm 44))]) (.seq (.seq (.region [
 o1 45 (.load (some 2) (tm 12)),
 o1 46 (.build [(.int .i64 0), (.int .i64 0)] []),
 o1 47 (.bin .neq (so (.binOp .neq 43 (tm 45) (tm 46) 43) 4) (tm 45) (tm 46))]) (.cond (tm 47)
 (.seq (.region [
 o1 48 (.mov (tm 2)),
 o1 49 (.mov (tm 9)),
 o1 50 (.build [(.int .i64 0), (.int .i64 0)] [(0, 1, (.const (.int .i64 5))), (1, 1, (tm 49))]),
 o1 51 (.nilCheck (tm 48)),
 o3 (.store 2 (tm 51) (tm 50))]) (.seq (.region [
 o1 52 (.mov (tm 8)),
 o1 8 (.mov (tm 52))]) .ret))
 .skip)) (.seq (.region [
 o1 53 (.mov (tm 11)),
 o1 8 (.mov (tm 53))]) .ret))))))))
def zfQ : AFunc := ⟨54, [(8, none)], zfQ_c, none⟩
theorem zfQ_t0 : tableOf Tryz.prog 84 = some zfQ := by kernel_rfl
theorem zfQ_t : T0 84 = some zfQ := withKept_t rfl (withTrue_t rfl zfQ_t0)
theorem zfQ_runs {v0 v1 v2 v3 : Value} {h : Heap} {R : RP} {X : XP} (k : RunC Tryz.prog T0 zfQ_c ⟨[v0, v1, v2, v3, U, U, U, U, U, U, U, U, U, U, U, U, U, U, U, U, U, U, U, U, U, U, U, U, U, U, U, U, U, U, U, U, U, U, U, U, U, U, U, U, U, U, U, U, U, U, U, U, U, U], [], h, none⟩ (bodyQ Tryz.prog T0 [(8, none)] R X)) :
 Runs Tryz.prog T0 (.fn 84) [v0, v1, v2, v3] h R X := Runs.fn zfQ_t rfl k
abbrev fn_zlcQ : FuncId := 85
def zlcQ_l0 : ACode :=
 (.seq (.region [
 o1 16 (.bin .lss (so (.binOp .lss 3 (tm 15) (tm 14) 3) 4) (tm 15) (tm 14))]) (.seq (.cond (tm 16)
 .skip
 (.exit 0)) (.seq (.block 1 (.seq (.region [
 o1 17 (.mov (tm 4)),
 o1 18 (.callV (.func 121) [(tm 17)]),
 o1 19 (.build [(.int .u8 0), (.int .u8 0), (.int .u8 0), (.int .u8 0), (.int .i64 0)] [(0, 4, (tm 18))]),
 o1 6 (.alloc 132 [(.int .u8 0), (.int .u8 0), (.int .u8 0), (.int .u8 0), (.int .i64 0)]),
 o3 (.store 5 (tm 6) (tm 19))]) (.seq (.region [
 o1 20 (.mov (tm 4)),
 o1 21 (.callV (.func 33) [(tm 20)]),
 o1 22 (.fieldAddr 4 (tm 6)),
 o3 (.store 1 (tm 22) (tm 21))]) (.region [
 o1 23 (.mov (tm 2)),
 o1 24 (.load (some 5) (tm 6)),
 o1 25 (.buildSlice 132 [(.int .u8 0), (.int .u8 0), (.int .u8 0), (.int .u8 0), (.int .i64 0)] 1 [(0, 5, (tm 24))]),
 o1 26 (.append 132 5 16 [(.int .u8 0), (.int .u8 0), (.int .u8 0), (.int .u8 0), (.int .i64 0)] false (tm 23) (tm 25)),
 o1 2 (.mov (tm 26))])))) (.region [
 o1 27 (.bin .add (so (.binOp .add 3 (tm 15) (.const (.int .i64 1)) 3) 3) (tm 15) (.const (.int .i64 1))),
 o1 15 (.mov (tm 27))]))))
def zlcQ_c : ACode :=
 (.seq (.region [
 o1 2 (.mov (.const (.slice none 0 0))),
 o1 3 (.alloc 43 [(.int .i64 0), (.int .i64 0)])]) (.seq (.region [
 o1 7 (.mov (tm 0)),
 o1 8 (.callV (.func 32) [(tm 7)]),
 o1 4 (.mov (tm 8))]) (.seq (.region [
 o1 9 (.mov (tm 4)),
 o1 10 (.callV (.func 33) [(tm 9)]),
 o1 5 (.mov (tm 10))]) (.seq (.seq (.region [
 o1 11 (.mov (tm 5)),
 o1 12 (.bin .gtr (so (.binOp .gtr 3 (tm 11) (.const (.int .i64 64)) 3) 4) (tm 11) (.const (.int .i64 64)))]) (.cond (tm 12)
 (.seq (.region [
 o1 13 (.build [(.int .i64 0), (.int .i64 0)] [(0, 1, (.const (.int .i64 4)))]),
 o1 2 (.mov (.const (.slice none 0 0))),
 o3 (.store 2 (tm 3) (tm 13))]) .ret)
 .skip)) (.seq (.seq (.region [
 o1 14 (.mov (tm 5)),
 o1 15 (.mov k0)]) (.block 0 (.loop zlcQ_l0))) (.seq (.seq (.region [
 o1 28 (.mov (tm 4)),
 o1 29 (.callV (.func 41) [(tm 28)]),
 o3 (.store 2 (tm 3) (tm 29))]) (.seq (.region [
 o1 30 (.load (some 2) (tm 3)),
 o1 31 (.build [(.int .i64 0), (.int .i64 0)] []),
 o1 32 (.bin .eql (so (.binOp .eql 43 (tm 30) (tm 31) 43) 4) (tm 30) (tm 31))]) (.cond (tm 32)
 (.region [
 o1 33 (.mov (tm 2)),
 o1 34 (.callV (.func 103) [(tm 33)]),
 o1 35 (.fieldAddr 0 (tm 3)),
 o3 (.store 1 (tm 35) (tm 34))])
 .skip))) (.seq (.seq (.region [
 o1 36 (.load (some 2) (tm 3)),
 o1 37 (.build [(.int .i64 0), (.int .i64 0)] []),
 o1 38 (.bin .neq (so (.binOp .neq 43 (tm 36) (tm 37) 43) 4) (tm 36) (tm 37))]) (.cond (tm 38)
 (.seq (.regionD [
 o1 39 (.load (some 2) (tm 3)),
 o1 2 (.mov (.const (.slice none 0 0))),
 ⟨none, .store 2 (tm 3) (tm 39), none, [], true⟩]) .ret)
 .skip)) (.seq (.regionD [
 o1 40 (.mov (tm 2)),
 o1 41 (.load (some 2) (tm 3)),
 ⟨some 2, .mov (tm 40), none, [(some 41, .load (some 2) (tm 3), none)], false⟩,
 ⟨none, .store 2 (tm 3) (tm 41), none, [], true⟩]) .ret))))))))
def zlcQ : AFunc := ⟨42, [(2, none), (3, some (some 2))], zlcQ_c, none⟩
theorem zlcQ_t0 : tableOf Tryz.prog 85 = some zlcQ := by kernel_rfl
theorem zlcQ_t : T0 85 = some zlcQ := withKept_t rfl (withTrue_t rfl zlcQ_t0)
theorem zlcQ_runs {v0 : Value} {h : Heap} {R : RP} {X : XP} (k : RunC Tryz.prog T0 zlcQ_c ⟨[v0, U, U, U, U, U, U, U, U, U, U, U, U, U, U, U, U, U, U, U, U, U, U, U, U, U, U, U, U, U, U, U, U, U, U, U, U, U, U, U, U, U], [], h, none⟩ (bodyQ Tryz.prog T0 [(2, none), (3, some (some 2))] R X)) :
 Runs Tryz.prog T0 (.fn 85) [v0] h R X := Runs.fn zlcQ_t rfl k
def zlcQ_l0_J (f0 f1 f3 f4 f5 f7 f8 f9 f10 f11 f12 f13 f14 f28 f29 f30 f31 f32 f33 f34 f35 f36 f37 f38 f39 f40 f41 : Value) (ds : List Deferred) (rd : Option Nat) (I : Nat → Value → Value → Heap → Prop) (m : Nat) (s : St) : Prop := ∃ (v2 v15 : Value), ∃ h : Heap, ∃ (x6 x16 x17 x18 x19 x20 x21 x22 x23 x24 x25 x26 x27 : Value), s = ⟨[f0, f1, v2, f3, f4, f5, x6, f7, f8, f9, f10, f11, f12, f13, f14, v15, x16, x17, x18, x19, x20, x21, x22, x23, x24, x25, x26, x27, f28, f29, f30, f31, f32, f33, f34, f35, f36, f37, f38, f39, f40, f41], ds, h, rd⟩ ∧ I m v2 v15 h
theorem zlcQ_l0_rule {f0 f1 f3 f4 f5 f7 f8 f9 f10 f11 f12 f13 f14 f28 f29 f30 f31 f32 f33 f34 f35 f36 f37 f38 f39 f40 f41 : Value} {ds : List Deferred} {rd : Option Nat} {Q : QP} (I : Nat → Value → Value → Heap → Prop) (hb : ∀ (m : Nat) (v2 v15 : Value) (h : Heap) (x6 x16 x17 x18 x19 x20 x21 x22 x23 x24 x25 x26 x27 : Value) , I m v2 v15 h → RunC Tryz.prog T0 zlcQ_l0 ⟨[f0, f1, v2, f3, f4, f5, x6, f7, f8, f9, f10, f11, f12, f13, f14, v15, x16, x17, x18, x19, x20, x21, x22, x23, x24, x25, x26, x27, f28, f29, f30, f31, f32, f33, f34, f35, f36, f37, f38, f39, f40, f41], ds, h, rd⟩ (loopQ (zlcQ_l0_J f0 f1 f3 f4 f5 f7 f8 f9 f10 f11 f12 f13 f14 f28 f29 f30 f31 f32 f33 f34 f35 f36 f37 f38 f39 f40 f41 ds rd I) m Q))
 (m : Nat) {v2 v15 : Value} {h : Heap} {x6 x16 x17 x18 x19 x20 x21 x22 x23 x24 x25 x26 x27 : Value} (hi : I m v2 v15 h) : RunC Tryz.prog T0 (.loop zlcQ_l0) ⟨[f0, f1, v2, f3, f4, f5, x6, f7, f8, f9, f10, f11, f12, f13, f14, v15, x16, x17, x18, x19, x20, x21, x22, x23, x24, x25, x26, x27, f28, f29, f30, f31, f32, f33, f34, f35, f36, f37, f38, f39, f40, f41], ds, h, rd⟩ Q :=
 RunC.loopJ (zlcQ_l0_J f0 f1 f3 f4 f5 f7 f8 f9 f10 f11 f12 f13 f14 f28 f29 f30 f31 f32 f33 f34 f35 f36 f37 f38 f39 f40 f41 ds rd I) (fun m s hj => by obtain ⟨v2, v15, h, x6, x16, x17, x18, x19, x20, x21, x22, x23, x24, x25, x26, x27, rfl, hi⟩ := hj; exact hb m v2 v15 h x6 x16 x17 x18 x19 x20 x21 x22 x23 x24 x25 x26 x27 hi) m _ ⟨_, _, h, _, _, _, _, _, _, _, _, _, _, _, _, _, rfl, hi⟩
theorem zlcQ_l0_again {f0 f1 f3 f4 f5 f7 f8 f9 f10 f11 f12 f13 f14 f28 f29 f30 f31 f32 f33 f34 f35 f36 f37 f38 f39 f40 f41 : Value} {ds : List Deferred} {rd : Option Nat} {Q : QP} {I : Nat → Value → Value → Heap → Prop} {m : Nat} (m' : Nat) {v2 v15 : Value} {h : Heap} {x6 x16 x17 x18 x19 x20 x21 x22 x23 x24 x25 x26 x27 : Value} (hm : m' < m) (hi : I m' v2 v15 h) : loopQ (zlcQ_l0_J f0 f1 f3 f4 f5 f7 f8 f9 f10 f11 f12 f13 f14 f28 f29 f30 f31 f32 f33 f34 f35 f36 f37 f38 f39 f40 f41 ds rd I) m Q .normal ⟨[f0, f1, v2, f3, f4, f5, x6, f7, f8, f9, f10, f11, f12, f13, f14, v15, x16, x17, x18, x19, x20, x21, x22, x23, x24, x25, x26, x27, f28, f29, f30, f31, f32, f33, f34, f35, f36, f37, f38, f39, f40, f41], ds, h, rd⟩ :=
 loopQ.again m' hm ⟨_, _, h, _, _, _, _, _, _, _, _, _, _, _, _, _, rfl, hi⟩
abbrev fn_zdcQ : FuncId := 90
def zdcQ_c : ACode :=
 (.seq (.region [
 o1 2 (.mov (.const .nilIface))]) (.seq (.seq (.region [
 o1 5 (.mov (tm 0))]) (.block 0 (.seq (.region [
 o1 6 (.assertTo 26 (.agg ⟨[(.int .i64 0), (.int .i64 0)]⟩) true (tm 5)),
 o1 7 (.extract 1 (tm 6)),
 o1 8 (.extract 0 (tm 6))]) (.cond (tm 7)
 (.seq (.region [
 o1 3 (.alloc 26 [(.int .i64 0), (.int .i64 0)]),
 o3 (.store 2 (tm 3) (tm 8))]) (.seq (.region [
 o1 9 (.load (some 2) (tm 3)),
 o1 10 (.mkIface 168 (tm 9)),
 o1 2 (.mov (tm 10))]) .ret))
 (.seq (.region [
 o1 11 (.assertTo 38 (.agg ⟨((.int .i64 0) :: ((.string ⟨⟨[]⟩⟩) :: ((.int .i64 0) :: ((.int .i64 0) :: (z32 ++ (z32 ++ (z32 ++ (z32 ++ ((.int .i64 0) :: (z32 ++ [(.slice none 0 0), (.slice none 0 0)]))))))))))⟩) true (tm 5)),
 o1 12 (.extract 1 (tm 11)),
 o1 13 (.extract 0 (tm 11))]) (.cond (tm 12)
 (.seq (.region [
 o1 4 (.alloc 38 ((.int .i64 0) :: ((.string ⟨⟨[]⟩⟩) :: ((.int .i64 0) :: ((.int .i64 0) :: (z32 ++ (z32 ++ (z32 ++ (z32 ++ ((.int .i64 0) :: (z32 ++ [(.slice none 0 0), (.slice none 0 0)]))))))))))),
 o3 (.store 167 (tm 4) (tm 13))]) (.seq (.region [
 o1 14 (.load (some 167) (tm 4)),
 o1 15 (.mkIface 169 (tm 14)),
 o1 2 (.mov (tm 15))]) .ret))
 .skip)))))) (.seq (.region [
 o1 2 (.mov (.const .nilIface))]) .ret)))
def zdcQ : AFunc := ⟨16, [(2, none)], zdcQ_c, none⟩
theorem zdcQ_t0 : tableOf Tryz.prog 90 = some zdcQ := by kernel_rfl
theorem zdcQ_t : T0 90 = some zdcQ := withKept_t rfl (withTrue_t rfl zdcQ_t0)
theorem zdcQ_runs {v0 : Value} {h : Heap} {R : RP} {X : XP} (k : RunC Tryz.prog T0 zdcQ_c ⟨[v0, U, U, U, U, U, U, U, U, U, U, U, U, U, U, U], [], h, none⟩ (bodyQ Tryz.prog T0 [(2, none)] R X)) :
 Runs Tryz.prog T0 (.fn 90) [v0] h R X := Runs.fn zdcQ_t rfl k
abbrev fn_zlbQ : FuncId := 98
def zlbQ_l0 : ACode :=
 (.seq (.seq (.region [
 o1 12 (.mov (tm 5)),
 o1 13 (.mov (tm 12)),
 o4 14 (.mov (tm 6)) 13,
 o4 15 (.mov (tm 0)) 13,
 o4 16 (.lenSl (tm 15)) 13,
 o4 17 (.bin .lss (so (.binOp .lss 3 (tm 14) (tm 16) 3) 4) (tm 14) (tm 16)) 13,
 o1 18 (.pick (tm 13) (tm 17) (.const (.bool false)))]) (.cond (tm 18)
 .skip
 (.exit 0))) (.seq (.block 1 (.regionD [
 o1 21 (.mov (tm 0)),
 o1 22 (.mov (tm 6)),
 o1 23 (.indexSl 2 (tm 21) (tm 22)),
 o1 24 (.load (some 2) (tm 23)),
 o1 25 (.mov (tm 1)),
 o1 26 (.mov (tm 6)),
 o1 27 (.indexSl 2 (tm 25) (tm 26)),
 o1 28 (.load (some 2) (tm 27)),
 o2 29 (.bin .eql (so (.binOp .eql 134 (tm 24) (tm 28) 134) 4) (tm 24) (tm 28)),
 o2 5 (.mov (tm 29))])) (.region [
 o1 19 (.mov (tm 6)),
 o1 20 (.bin .add (so (.binOp .add 3 (tm 19) (.const (.int .i64 1)) 3) 3) (tm 19) (.const (.int .i64 1))),
 o1 6 (.mov (tm 20))])))
def zlbQ_c : ACode :=
 (.seq (.region [
 o1 4 (.mov (.const (.bool false)))]) (.seq (.region [
 o1 7 (.mov (tm 0)),
 o1 8 (.lenSl (tm 7)),
 o1 9 (.mov (tm 1)),
 o1 10 (.lenSl (tm 9)),
 o1 11 (.bin .eql (so (.binOp .eql 3 (tm 8) (tm 10) 3) 4) (tm 8) (tm 10)),
 o1 5 (.mov (tm 11))]) (.seq (.seq (.region [
 o1 6 (.mov k0)]) (.block 0 (.loop zlbQ_l0))) (.seq (.region [
 o1 30 (.mov (tm 5)),
 o1 4 (.mov (tm 30))]) .ret))))
def zlbQ : AFunc := ⟨31, [(4, none)], zlbQ_c, none⟩
theorem zlbQ_t0 : tableOf Tryz.prog 98 = some zlbQ := by kernel_rfl
theorem zlbQ_t : T0 98 = some zlbQ := withKept_t rfl (withTrue_t rfl zlbQ_t0)
theorem zlbQ_runs {v0 v1 : Value} {h : Heap} {R : RP} {X : XP} (k : RunC Tryz.prog T0 zlbQ_c ⟨[v0, v1, U, U, U, U, U, U, U, U, U, U, U, U, U, U, U, U, U, U, U, U, U, U, U, U, U, U, U, U, U], [], h, none⟩ (bodyQ Tryz.prog T0 [(4, none)] R X)) :
 Runs Tryz.prog T0 (.fn 98) [v0, v1] h R X := Runs.fn zlbQ_t rfl k
def zlbQ_l0_J (f0 f1 f2 f3 f4 f7 f8 f9 f10 f11 f30 : Value) (ds : List Deferred) (rd : Option Nat) (I : Nat → Value → Value → Heap → Prop) (m : Nat) (s : St) : Prop := ∃ (v5 v6 : Value), ∃ h : Heap, ∃ (x12 x13 x14 x15 x16 x17 x18 x19 x20 x21 x22 x23 x24 x25 x26 x27 x28 x29 : Value), s = ⟨[f0, f1, f2, f3, f4, v5, v6, f7, f8, f9, f10, f11, x12, x13, x14, x15, x16, x17, x18, x19, x20, x21, x22, x23, x24, x25, x26, x27, x28, x29, f30], ds, h, rd⟩ ∧ I m v5 v6 h
theorem zlbQ_l0_rule {f0 f1 f2 f3 f4 f7 f8 f9 f10 f11 f30 : Value} {ds : List Deferred} {rd : Option Nat} {Q : QP} (I : Nat → Value → Value → Heap → Prop) (hb : ∀ (m : Nat) (v5 v6 : Value) (h : Heap) (x12 x13 x14 x15 x16 x17 x18 x19 x20 x21 x22 x23 x24 x25 x26 x27 x28 x29 : Value) , I m v5 v6 h → RunC Tryz.prog T0 zlbQ_l0 ⟨[f0, f1, f2, f3, f4, v5, v6, f7, f8, f9, f10, f11, x12, x13, x14, x15, x16, x17, x18, x19, x20, x21, x22, x23, x24, x25, x26, x27, x28, x29, f30], ds, h, rd⟩ (loopQ (zlbQ_l0_J f0 f1 f2 f3 f4 f7 f8 f9 f10 f11 f30 ds rd I) m Q))
 (m : Nat) {v5 v6 : Value} {h : Heap} {x12 x13 x14 x15 x16 x17 x18 x19 x20 x21 x22 x23 x24 x25 x26 x27 x28 x29 : Value} (hi : I m v5 v6 h) : RunC Tryz.prog T0 (.loop zlbQ_l0) ⟨[f0, f1, f2, f3, f4, v5, v6, f7, f8, f9, f10, f11, x12, x13, x14, x15, x16, x17, x18, x19, x20, x21, x22, x23, x24, x25, x26, x27, x28, x29, f30], ds, h, rd⟩ Q :=
 RunC.loopJ (zlbQ_l0_J f0 f1 f2 f3 f4 f7 f8 f9 f10 f11 f30 ds rd I) (fun m s hj => by obtain ⟨v5, v6, h, x12, x13, x14, x15, x16, x17, x18, x19, x20, x21, x22, x23, x24, x25, x26, x27, x28, x29, rfl, hi⟩ := hj; exact hb m v5 v6 h x12 x13 x14 x15 x16 x17 x18 x19 x20 x21 x22 x23 x24 x25 x26 x27 x28 x29 hi) m _ ⟨_, _, h, _, _, _, _, _, _, _, _, _, _, _, _, _, _, _, _, _, _, rfl, hi⟩
theorem zlbQ_l0_again {f0 f1 f2 f3 f4 f7 f8 f9 f10 f11 f30 : Value} {ds : List Deferred} {rd : Option Nat} {Q : QP} {I : Nat → Value → Value → Heap → Prop} {m : Nat} (m' : Nat) {v5 v6 : Value} {h : Heap} {x12 x13 x14 x15 x16 x17 x18 x19 x20 x21 x22 x23 x24 x25 x26 x27 x28 x29 : Value} (hm : m' < m) (hi : I m' v5 v6 h) : loopQ (zlbQ_l0_J f0 f1 f2 f3 f4 f7 f8 f9 f10 f11 f30 ds rd I) m Q .normal ⟨[f0, f1, f2, f3, f4, v5, v6, f7, f8, f9, f10, f11, x12, x13, x14, x15, x16, x17, x18, x19, x20, x21, x22, x23, x24, x25, x26, x27, x28, x29, f30], ds, h, rd⟩ :=
 loopQ.again m' hm ⟨_, _, h, _, _, _, _, _, _, _, _, _, _, _, _, _, _, _, _, _, _, rfl, hi⟩
abbrev fn_zdQ : FuncId := 99
def zdQ_l0 : ACode :=
 (.seq (.region [
 o1 8 (.bin .lss (so (.binOp .lss 3 (tm 7) (tm 6) 3) 0) (tm 7) (tm 6))]) (.seq (.cond (tm 8)
 .skip
 (.exit 0)) (.seq (.block 1 (.seq (.region [
 o1 9 (.indexSl 1 (tm 5) (tm 7)),
 o1 10 (.load none (tm 9)),
 o1 4 (.mov (tm 10))]) (.seq (.region [
 o1 11 (.mov (tm 0)),
 o1 12 (.mov (tm 4)),
 o1 13 (.callV (tm 12) []),
 o1 14 (.callV (tm 11) [(tm 13)]),
 o1 15 (.raw (so (.unOp .not 4 (tm 14)) 4))]) (.cond (tm 15)
 .ret
 .skip)))) (.region [
 o1 16 (.bin .add (so (.binOp .add 3 (tm 7) (.const (.int .i64 1)) 3) 3) (tm 7) (.const (.int .i64 1))),
 o1 7 (.mov (tm 16))]))))
def zdQ_c : ACode :=
 (.seq (.region [
 o1 5 (.load none (tm 1)),
 o1 6 (.lenSl (tm 5)),
 o1 7 (.mov k0)]) (.block 0 (.loop zdQ_l0)))
def zdQ : AFunc := ⟨17, [], zdQ_c, none⟩
theorem zdQ_t0 : tableOf Tryz.prog 99 = some zdQ := by kernel_rfl
theorem zdQ_t : T0 99 = some zdQ := withKept_t rfl (withTrue_t rfl zdQ_t0)
theorem zdQ_runs {v0 v1 : Value} {h : Heap} {R : RP} {X : XP} (k : RunC Tryz.prog T0 zdQ_c ⟨[v0, v1, U, U, U, U, U, U, U, U, U, U, U, U, U, U, U], [], h, none⟩ (bodyQ Tryz.prog T0 [] R X)) :
 Runs Tryz.prog T0 (.fn 99) [v0, v1] h R X := Runs.fn zdQ_t rfl k
def zdQ_l0_J (f0 f1 f2 f3 f5 f6 : Value) (ds : List Deferred) (rd : Option Nat) (I : Nat → Value → Heap → Prop) (m : Nat) (s : St) : Prop := ∃ (v7 : Value), ∃ h : Heap, ∃ (x4 x8 x9 x10 x11 x12 x13 x14 x15 x16 : Value), s = ⟨[f0, f1, f2, f3, x4, f5, f6, v7, x8, x9, x10, x11, x12, x13, x14, x15, x16], ds, h, rd⟩ ∧ I m v7 h
theorem zdQ_l0_rule {f0 f1 f2 f3 f5 f6 : Value} {ds : List Deferred} {rd : Option Nat} {Q : QP} (I : Nat → Value → Heap → Prop) (hb : ∀ (m : Nat) (v7 : Value) (h : Heap) (x4 x8 x9 x10 x11 x12 x13 x14 x15 x16 : Value) , I m v7 h → RunC Tryz.prog T0 zdQ_l0 ⟨[f0, f1, f2, f3, x4, f5, f6, v7, x8, x9, x10, x11, x12, x13, x14, x15, x16], ds, h, rd⟩ (loopQ (zdQ_l0_J f0 f1 f2 f3 f5 f6 ds rd I) m Q))
 (m : Nat) {v7 : Value} {h : Heap} {x4 x8 x9 x10 x11 x12 x13 x14 x15 x16 : Value} (hi : I m v7 h) : RunC Tryz.prog T0 (.loop zdQ_l0) ⟨[f0, f1, f2, f3, x4, f5, f6, v7, x8, x9, x10, x11, x12, x13, x14, x15, x16], ds, h, rd⟩ Q :=
 RunC.loopJ (zdQ_l0_J f0 f1 f2 f3 f5 f6 ds rd I) (fun m s hj => by obtain ⟨v7, h, x4, x8, x9, x10, x11, x12, x13, x14, x15, x16, rfl, hi⟩ := hj; exact hb m v7 h x4 x8 x9 x10 x11 x12 x13 x14 x15 x16 hi) m _ ⟨_, h, _, _, _, _, _, _, _, _, _, _, rfl, hi⟩
theorem zdQ_l0_again {f0 f1 f2 f3 f5 f6 : Value} {ds : List Deferred} {rd : Option Nat} {Q : QP} {I : Nat → Value → Heap → Prop} {m : Nat} (m' : Nat) {v7 : Value} {h : Heap} {x4 x8 x9 x10 x11 x12 x13 x14 x15 x16 : Value} (hm : m' < m) (hi : I m' v7 h) : loopQ (zdQ_l0_J f0 f1 f2 f3 f5 f6 ds rd I) m Q .normal ⟨[f0, f1, f2, f3, x4, f5, f6, v7, x8, x9, x10, x11, x12, x13, x14, x15, x16], ds, h, rd⟩ :=
 loopQ.again m' hm ⟨_, h, _, _, _, _, _, _, _, _, _, _, rfl, hi⟩
abbrev fn_zjQ : FuncId := 100
def zjQ_c : ACode :=
 (.seq (.region [
 o1 1 (.mov k0)]) (.seq (.region [
 o1 2 (.fieldAddr 0 (tm 0)),
 o1 3 (.load (some 131) (tm 2)),
 o1 4 (.callV (.func 101) [(tm 3)]),
 o1 1 (.mov (tm 4))]) .ret))
def zjQ : AFunc := ⟨5, [(1, none)], zjQ_c, none⟩
theorem zjQ_t0 : tableOf Tryz.prog 100 = some zjQ := by kernel_rfl
theorem zjQ_t : T0 100 = some zjQ := withKept_t rfl (withTrue_t rfl zjQ_t0)
theorem zjQ_runs {v0 : Value} {h : Heap} {R : RP} {X : XP} (k : RunC Tryz.prog T0 zjQ_c ⟨[v0, U, U, U, U], [], h, none⟩ (bodyQ Tryz.prog T0 [(1, none)] R X)) :
 Runs Tryz.prog T0 (.fn 100) [v0] h R X := Runs.fn zjQ_t rfl k
abbrev fn_zsQ : FuncId := 101
def zsQ_l0 : ACode :=
 (.seq (.region [
 o1 8 (.bin .lss (so (.binOp .lss 3 (tm 7) (tm 6) 3) 0) (tm 7) (tm 6))]) (.seq (.cond (tm 8)
 .skip
 (.exit 0)) (.seq (.block 1 (.seq (.region [
 o1 9 (.indexSl 2 (tm 5) (tm 7)),
 o1 10 (.load (some 2) (tm 9)),
 o1 4 (.alloc 175 [.nilFunc, (.int .i64 0)]),
 o3 (.store 2 (tm 4) (tm 10))]) (.seq (.region [
 o1 11 (.fieldAddr 0 (tm 4)),
 o1 12 (.load none (tm 11)),
 o1 13 (.load (some 131) (tm 1)),
 o1 14 (.callV (tm 12) [(tm 13)]),
 o1 15 (.raw (so (.unOp .not 4 (tm 14)) 4))]) (.cond (tm 15)
 (.seq (.region [
 o1 16 (.fieldAddr 1 (tm 4)),
 o1 17 (.load none (tm 16)),
 o1 2 (.mov (tm 17))]) .ret)
 .skip)))) (.region [
 o1 18 (.bin .add (so (.binOp .add 3 (tm 7) (.const (.int .i64 1)) 3) 3) (tm 7) (.const (.int .i64 1))),
 o1 7 (.mov (tm 18))]))))
def zsQ_c : ACode :=
 (.seq (.region [
 o1 1 (.box 30 (tm 0)),
 o1 2 (.mov k0)]) (.seq (.seq (.region [
 o1 5 (.callV (.func 134) []),
 o1 6 (.lenSl (tm 5)),
 o1 7 (.mov k0)]) (.block 0 (.loop zsQ_l0))) (.seq (.region [
 o1 2 (.mov k0)]) .ret)))
def zsQ : AFunc := ⟨19, [(2, none)], zsQ_c, none⟩
theorem zsQ_t0 : tableOf Tryz.prog 101 = some zsQ := by kernel_rfl
theorem zsQ_t : T0 101 = some zsQ := withKept_t rfl (withTrue_t rfl zsQ_t0)
theorem zsQ_runs {v0 : Value} {h : Heap} {R : RP} {X : XP} (k : RunC Tryz.prog T0 zsQ_c ⟨[v0, U, U, U, U, U, U, U, U, U, U, U, U, U, U, U, U, U, U], [], h, none⟩ (bodyQ Tryz.prog T0 [(2, none)] R X)) :
 Runs Tryz.prog T0 (.fn 101) [v0] h R X := Runs.fn zsQ_t rfl k
def zsQ_l0_J (f0 f1 f3 f5 f6 : Value) (ds : List Deferred) (rd : Option Nat) (I : Nat → Value → Heap → Prop) (m : Nat) (s : St) : Prop := ∃ (v7 : Value), ∃ h : Heap, ∃ (x2 x4 x8 x9 x10 x11 x12 x13 x14 x15 x16 x17 x18 : Value), s = ⟨[f0, f1, x2, f3, x4, f5, f6, v7, x8, x9, x10, x11, x12, x13, x14, x15, x16, x17, x18], ds, h, rd⟩ ∧ I m v7 h
theorem zsQ_l0_rule {f0 f1 f3 f5 f6 : Value} {ds : List Deferred} {rd : Option Nat} {Q : QP} (I : Nat → Value → Heap → Prop) (hb : ∀ (m : Nat) (v7 : Value) (h : Heap) (x2 x4 x8 x9 x10 x11 x12 x13 x14 x15 x16 x17 x18 : Value) , I m v7 h → RunC Tryz.prog T0 zsQ_l0 ⟨[f0, f1, x2, f3, x4, f5, f6, v7, x8, x9, x10, x11, x12, x13, x14, x15, x16, x17, x18], ds, h, rd⟩ (loopQ (zsQ_l0_J f0 f1 f3 f5 f6 ds rd I) m Q))
 (m : Nat) {v7 : Value} {h : Heap} {x2 x4 x8 x9 x10 x11 x12 x13 x14 x15 x16 x17 x18 : Value} (hi : I m v7 h) : RunC Tryz.prog T0 (.loop zsQ_l0) ⟨[f0, f1, x2, f3, x4, f5, f6, v7, x8, x9, x10, x11, x12, x13, x14, x15, x16, x17, x18], ds, h, rd⟩ Q :=
 RunC.loopJ (zsQ_l0_J f0 f1 f3 f5 f6 ds rd I) (fun m s hj => by obtain ⟨v7, h, x2, x4, x8, x9, x10, x11, x12, x13, x14, x15, x16, x17, x18, rfl, hi⟩ := hj; exact hb m v7 h x2 x4 x8 x9 x10 x11 x12 x13 x14 x15 x16 x17 x18 hi) m _ ⟨_, h, _, _, _, _, _, _, _, _, _, _, _, _, _, rfl, hi⟩
theorem zsQ_l0_again {f0 f1 f3 f5 f6 : Value} {ds : List Deferred} {rd : Option Nat} {Q : QP} {I : Nat → Value → Heap → Prop} {m : Nat} (m' : Nat) {v7 : Value} {h : Heap} {x2 x4 x8 x9 x10 x11 x12 x13 x14 x15 x16 x17 x18 : Value} (hm : m' < m) (hi : I m' v7 h) : loopQ (zsQ_l0_J f0 f1 f3 f5 f6 ds rd I) m Q .normal ⟨[f0, f1, x2, f3, x4, f5, f6, v7, x8, x9, x10, x11, x12, x13, x14, x15, x16, x17, x18], ds, h, rd⟩ :=
 loopQ.again m' hm ⟨_, h, _, _, _, _, _, _, _, _, _, _, _, _, _, rfl, hi⟩
abbrev fn_zkQ : FuncId := 102
def zkQ_c : ACode :=
 (.seq (.region [
 o1 1 (.mov k0)]) (.seq (.region [
 o1 2 (.fieldAddr 165 (tm 0)),
 o1 3 (.load none (tm 2)),
 o1 4 (.callV (.func 103) [(tm 3)]),
 o1 1 (.mov (tm 4))]) .ret))
def zkQ : AFunc := ⟨5, [(1, none)], zkQ_c, none⟩
theorem zkQ_t0 : tableOf Tryz.prog 102 = some zkQ := by kernel_rfl
theorem zkQ_t : T0 102 = some zkQ := withKept_t rfl (withTrue_t rfl zkQ_t0)
theorem zkQ_runs {v0 : Value} {h : Heap} {R : RP} {X : XP} (k : RunC Tryz.prog T0 zkQ_c ⟨[v0, U, U, U, U], [], h, none⟩ (bodyQ Tryz.prog T0 [(1, none)] R X)) :
 Runs Tryz.prog T0 (.fn 102) [v0] h R X := Runs.fn zkQ_t rfl k
abbrev fn_zkcQ : FuncId := 103
def zkcQ_l0 : ACode :=
 (.seq (.region [
 o1 19 (.bin .lss (so (.binOp .lss 3 (tm 18) (tm 17) 3) 0) (tm 18) (tm 17))]) (.seq (.cond (tm 19)
 .skip
 (.exit 1)) (.seq (.block 2 (.seq (.region [
 o1 20 (.indexSl 5 (tm 16) (tm 18)),
 o1 21 (.load (some 5) (tm 20)),
 o1 5 (.alloc 132 [(.int .u8 0), (.int .u8 0), (.int .u8 0), (.int .u8 0), (.int .i64 0)]),
 o3 (.store 5 (tm 5) (tm 21))]) (.seq (.region [
 o1 22 (.load (some 5) (tm 5)),
 o1 23 (.callV (.func 135) [(tm 3), (tm 22)]),
 o1 6 (.mov (tm 23))]) (.seq (.region [
 o1 24 (.mov (tm 6)),
 o1 25 (.bin .neq (so (.binOp .neq 41 (tm 24) k0 41) 4) (tm 24) k0)]) (.cond (tm 25)
 (.seq (.region [
 o1 26 (.mov (tm 6)),
 o1 2 (.mov (tm 26))]) .ret)
 .skip))))) (.region [
 o1 27 (.bin .add (so (.binOp .add 3 (tm 18) (.const (.int .i64 1)) 3) 3) (tm 18) (.const (.int .i64 1))),
 o1 18 (.mov (tm 27))]))))
def zkcQ_c : ACode :=
 (.seq (.region [
 o1 2 (.mov k0)]) (.seq (.block 0 (.seq (.region [
 o1 8 (.mov (tm 0)),
 o1 9 (.lenSl (tm 8)),
 o1 10 (.bin .eql (so (.binOp .eql 3 (tm 9) k0 3) 4) (tm 9) k0),
 o1 7 (.mov (tm 10))]) (.cond (tm 7)
 (.seq (.region [
 o1 2 (.mov (.const (.int .i64 6)))]) .ret)
 (.seq (.region [
 o1 12 (.mov (tm 0)),
 o1 13 (.lenSl (tm 12)),
 o1 14 (.bin .gtr (so (.binOp .gtr 3 (tm 13) (.const (.int .i64 64)) 3) 4) (tm 13) (.const (.int .i64 64))),
 o1 11 (.mov (tm 14))]) (.cond (tm 11)
 (.seq (.region [
 o1 2 (.mov (.const (.int .i64 4)))]) .ret)
 .skip))))) (.seq (.region [
 o1 15 (.build [(.int .u8 0), (.int .u8 0), (.int .u8 0), (.int .u8 0), (.bool false), (.int .i64 0), (.int .i64 0)] [(5, 1, (.const (.int .i64 1))), (6, 1, (.const (.int .i64 4611686018427387904)))]),
 o1 3 (.alloc 177 [(.int .u8 0), (.int .u8 0), (.int .u8 0), (.int .u8 0), (.bool false), (.int .i64 0), (.int .i64 0)]),
 o3 (.store 7 (tm 3) (tm 15))]) (.seq (.seq (.region [
 o1 16 (.mov (tm 0)),
 o1 17 (.lenSl (tm 16)),
 o1 18 (.mov k0)]) (.block 1 (.loop zkcQ_l0))) (.seq (.region [
 o1 2 (.mov k0)]) .ret)))))
def zkcQ : AFunc := ⟨28, [(2, none)], zkcQ_c, none⟩
theorem zkcQ_t0 : tableOf Tryz.prog 103 = some zkcQ := by kernel_rfl
theorem zkcQ_t : T0 103 = some zkcQ := withKept_t rfl (withTrue_t rfl zkcQ_t0)
theorem zkcQ_runs {v0 : Value} {h : Heap} {R : RP} {X : XP} (k : RunC Tryz.prog T0 zkcQ_c ⟨[v0, U, U, U, U, U, U, U, U, U, U, U, U, U, U, U, U, U, U, U, U, U, U, U, U, U, U, U], [], h, none⟩ (bodyQ Tryz.prog T0 [(2, none)] R X)) :
 Runs Tryz.prog T0 (.fn 103) [v0] h R X := Runs.fn zkcQ_t rfl k
def zkcQ_l0_J (f0 f1 f3 f4 f7 f8 f9 f10 f11 f12 f13 f14 f15 f16 f17 : Value) (ds : List Deferred) (rd : Option Nat) (I : Nat → Value → Heap → Prop) (m : Nat) (s : St) : Prop := ∃ (v18 : Value), ∃ h : Heap, ∃ (x2 x5 x6 x19 x20 x21 x22 x23 x24 x25 x26 x27 : Value), s = ⟨[f0, f1, x2, f3, f4, x5, x6, f7, f8, f9, f10, f11, f12, f13, f14, f15, f16, f17, v18, x19, x20, x21, x22, x23, x24, x25, x26, x27], ds, h, rd⟩ ∧ I m v18 h
theorem zkcQ_l0_rule {f0 f1 f3 f4 f7 f8 f9 f10 f11 f12 f13 f14 f15 f16 f17 : Value} {ds : List Deferred} {rd : Option Nat} {Q : QP} (I : Nat → Value → Heap → Prop) (hb : ∀ (m : Nat) (v18 : Value) (h : Heap) (x2 x5 x6 x19 x20 x21 x22 x23 x24 x25 x26 x27 : Value) , I m v18 h → RunC Tryz.prog T0 zkcQ_l0 ⟨[f0, f1, x2, f3, f4, x5, x6, f7, f8, f9, f10, f11, f12, f13, f14, f15, f16, f17, v18, x19, x20, x21, x22, x23, x24, x25, x26, x27], ds, h, rd⟩ (loopQ (zkcQ_l0_J f0 f1 f3 f4 f7 f8 f9 f10 f11 f12 f13 f14 f15 f16 f17 ds rd I) m Q))
 (m : Nat) {v18 : Value} {h : Heap} {x2 x5 x6 x19 x20 x21 x22 x23 x24 x25 x26 x27 : Value} (hi : I m v18 h) : RunC Tryz.prog T0 (.loop zkcQ_l0) ⟨[f0, f1, x2, f3, f4, x5, x6, f7, f8, f9, f10, f11, f12, f13, f14, f15, f16, f17, v18, x19, x20, x21, x22, x23, x24, x25, x26, x27], ds, h, rd⟩ Q :=
 RunC.loopJ (zkcQ_l0_J f0 f1 f3 f4 f7 f8 f9 f10 f11 f12 f13 f14 f15 f16 f17 ds rd I) (fun m s hj => by obtain ⟨v18, h, x2, x5, x6, x19, x20, x21, x22, x23, x24, x25, x26, x27, rfl, hi⟩ := hj; exact hb m v18 h x2 x5 x6 x19 x20 x21 x22 x23 x24 x25 x26 x27 hi) m _ ⟨_, h, _, _, _, _, _, _, _, _, _, _, _, _, rfl, hi⟩
theorem zkcQ_l0_again {f0 f1 f3 f4 f7 f8 f9 f10 f11 f12 f13 f14 f15 f16 f17 : Value} {ds : List Deferred} {rd : Option Nat} {Q : QP} {I : Nat → Value → Heap → Prop} {m : Nat} (m' : Nat) {v18 : Value} {h : Heap} {x2 x5 x6 x19 x20 x21 x22 x23 x24 x25 x26 x27 : Value} (hm : m' < m) (hi : I m' v18 h) : loopQ (zkcQ_l0_J f0 f1 f3 f4 f7 f8 f9 f10 f11 f12 f13 f14 f15 f16 f17 ds rd I) m Q .normal ⟨[f0, f1, x2, f3, f4, x5, x6, f7, f8, f9, f10, f11, f12, f13, f14, f15, f16, f17, v18, x19, x20, x21, x22, x23, x24, x25, x26, x27], ds, h, rd⟩ :=
 loopQ.again m' hm ⟨_, h, _, _, _, _, _, _, _, _, _, _, _, _, rfl, hi⟩
abbrev fn_zlQ : FuncId := 104
def zlQ_c : ACode :=
 (.seq (.region [
 o1 1 (.mov k0)]) (.seq (.region [
 o1 2 (.fieldAddr 131 (tm 0)),
 o1 3 (.load (some 34) (tm 2)),
 o1 4 (.callV (.func 105) [(tm 3)]),
 o1 1 (.mov (tm 4))]) .ret))
def zlQ : AFunc := ⟨5, [(1, none)], zlQ_c, none⟩
theorem zlQ_t0 : tableOf Tryz.prog 104 = some zlQ := by kernel_rfl
theorem zlQ_t : T0 104 = some zlQ := withKept_t rfl (withTrue_t rfl zlQ_t0)
theorem zlQ_runs {v0 : Value} {h : Heap} {R : RP} {X : XP} (k : RunC Tryz.prog T0 zlQ_c ⟨[v0, U, U, U, U], [], h, none⟩ (bodyQ Tryz.prog T0 [(1, none)] R X)) :
 Runs Tryz.prog T0 (.fn 104) [v0] h R X := Runs.fn zlQ_t rfl k
end Go.Proofs.YtninaabbojcdpaaGreat.A
