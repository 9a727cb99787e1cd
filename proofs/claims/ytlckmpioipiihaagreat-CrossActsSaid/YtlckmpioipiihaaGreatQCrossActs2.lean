/- Contracts of functions, over the machine. -/
import Derived.Test.YtlckmpioipiihaaGreatQCrossActs1
import Derived.Test.YtlckmpioipiihaaGreatRows
import Derived.Test.YtlckmpioipiihaaGreatVJ
import Derived.Test.YtlckmpioipiihaaGreatVK
set_option linter.unusedSimpArgs false
noncomputable section
set_option maxRecDepth 100000
set_option linter.unusedVariables false
namespace Go.Proofs.YtlckmpioipiihaaGreat.A
open Go Go.Vm
abbrev ty_internal_abi_BoundsErrorCode : TypeId := 6
abbrev ty_runtime_boundsError : TypeId := 8
abbrev ty_runtime_errorString : TypeId := 10
abbrev ty_runtime_plainError : TypeId := 11
abbrev ty_runtime_errorAddressString : TypeId := 14
abbrev ty_internal_runtime_maps_unhashableTypeError : TypeId := 19
abbrev ty_api_Hash : TypeId := 23
abbrev ty_api_Header : TypeId := 25
abbrev ty_api_Commit : TypeId := 28
abbrev ty_api_Block : TypeId := 31
abbrev ty_api_Errno : TypeId := 40
abbrev ty_ll25_Act : TypeId := 51
abbrev ty_cross_state : TypeId := 64
abbrev ty_cross_witness : TypeId := 66
abbrev ty_cross_Cross : TypeId := 69
abbrev ty_lr25_Cross : TypeId := 72
abbrev ty_iter_Seq2_int__cross_witness_ : TypeId := 81
abbrev ty_api_Key : TypeId := 87
abbrev ty_api_Validator : TypeId := 89
abbrev ty_api_Vote : TypeId := 94
abbrev ty_header_rule : TypeId := 129
abbrev ty_wire_Writer : TypeId := 131
abbrev ty_blake_words : TypeId := 135
abbrev ty_blake_counter : TypeId := 139
abbrev ty_blake_State : TypeId := 141
abbrev ty_lr04_Writer : TypeId := 146
abbrev ty_blake_four : TypeId := 159
abbrev ty_runtime_TypeAssertionError : TypeId := 170
abbrev ty_runtime_PanicNilError : TypeId := 173
abbrev ty_internal_abi_TFlag : TypeId := 174
abbrev ty_internal_abi_Kind : TypeId := 175
abbrev ty_internal_abi_NameOff : TypeId := 178
abbrev ty_internal_abi_TypeOff : TypeId := 179
abbrev ty_internal_abi_Type : TypeId := 181
instance : IsIface Tryz.prog 20 := ⟨by kernel_rfl⟩
abbrev prims : List FuncId := [6]
abbrev kepts : List FuncId := []
def T0 : Table := withKept (withTrue Tryz.prog prims) kepts
theorem zdcQ_known {h : Heap} : Runs Tryz.prog T0 (.fn 6) [] h (fun r h' => r = .bool true ∧ h' = h) (fun _ _ => False) := known_runs rfl
instance : IsBoolT Tryz.prog 4 := ⟨by kernel_rfl⟩
instance : TLeaves Tryz.prog 7 (.i .i64 :: (.i .i64 :: (.b :: (.i .u8 :: [])))) := ⟨by kernel_rfl, by kernel_rfl, by kernel_rfl⟩
instance : TLeaves Tryz.prog 8 (.i .i64 :: (.i .i64 :: (.b :: (.i .u8 :: [])))) := ⟨by kernel_rfl, by kernel_rfl, by kernel_rfl⟩
instance : TLeaves Tryz.prog 22 (u8s 32) := ⟨by kernel_rfl, by kernel_rfl, by kernel_rfl⟩
instance : TLeaves Tryz.prog 23 (u8s 32) := ⟨by kernel_rfl, by kernel_rfl, by kernel_rfl⟩
instance : TLeaves Tryz.prog 24 (.s :: (.i .i64 :: (.i .i64 :: (u8s 32 ++ (u8s 32 ++ (u8s 32 ++ (u8s 32))))))) := ⟨by kernel_rfl, by kernel_rfl, by kernel_rfl⟩
instance : TLeaves Tryz.prog 25 (.s :: (.i .i64 :: (.i .i64 :: (u8s 32 ++ (u8s 32 ++ (u8s 32 ++ (u8s 32))))))) := ⟨by kernel_rfl, by kernel_rfl, by kernel_rfl⟩
instance : TLeaves Tryz.prog 70 (.i .i64 :: (.i .i64 :: (.i .i64 :: (.i .i64 :: (.i .i64 :: (.i .i64 :: (.i .i64 :: (.i .i64 :: (.i .i64 :: (.i .i64 :: (.i .i64 :: (.i .i64 :: (.i .i64 :: (.i .i64 :: (.i .i64 :: (.i .i64 :: [])))))))))))))))) := ⟨by kernel_rfl, by kernel_rfl, by kernel_rfl⟩
instance : TLeaves Tryz.prog 86 (u8s 4) := ⟨by kernel_rfl, by kernel_rfl, by kernel_rfl⟩
instance : TLeaves Tryz.prog 87 (u8s 4) := ⟨by kernel_rfl, by kernel_rfl, by kernel_rfl⟩
instance : TLeaves Tryz.prog 88 (u8s 4 ++ (.i .i64 :: [])) := ⟨by kernel_rfl, by kernel_rfl, by kernel_rfl⟩
instance : TLeaves Tryz.prog 89 (u8s 4 ++ (.i .i64 :: [])) := ⟨by kernel_rfl, by kernel_rfl, by kernel_rfl⟩
instance : TLeaves Tryz.prog 93 (.i .i64 :: (.i .u64 :: [])) := ⟨by kernel_rfl, by kernel_rfl, by kernel_rfl⟩
instance : TLeaves Tryz.prog 94 (.i .i64 :: (.i .u64 :: [])) := ⟨by kernel_rfl, by kernel_rfl, by kernel_rfl⟩
instance : TLeaves Tryz.prog 121 (.i .u32 :: (.i .u32 :: (.i .u32 :: (.i .u32 :: (.i .u32 :: (.i .u32 :: (.i .u32 :: (.i .u32 :: [])))))))) := ⟨by kernel_rfl, by kernel_rfl, by kernel_rfl⟩
instance : TLeaves Tryz.prog 135 (.i .u32 :: (.i .u32 :: (.i .u32 :: (.i .u32 :: (.i .u32 :: (.i .u32 :: (.i .u32 :: (.i .u32 :: [])))))))) := ⟨by kernel_rfl, by kernel_rfl, by kernel_rfl⟩
instance : TLeaves Tryz.prog 138 (.i .i64 :: []) := ⟨by kernel_rfl, by kernel_rfl, by kernel_rfl⟩
instance : TLeaves Tryz.prog 139 (.i .i64 :: []) := ⟨by kernel_rfl, by kernel_rfl, by kernel_rfl⟩
instance : TLeaves Tryz.prog 147 (.i .u32 :: (.i .u32 :: (.i .u32 :: (.i .u32 :: (.i .u32 :: (.i .u32 :: (.i .u32 :: (.i .u32 :: (.i .u32 :: (.i .u32 :: (.i .u32 :: (.i .u32 :: (.i .u32 :: (.i .u32 :: (.i .u32 :: (.i .u32 :: [])))))))))))))))) := ⟨by kernel_rfl, by kernel_rfl, by kernel_rfl⟩
instance : TLeaves Tryz.prog 152 (u8s 4 ++ (u8s 4 ++ (.i .u8 :: []))) := ⟨by kernel_rfl, by kernel_rfl, by kernel_rfl⟩
instance : TLeaves Tryz.prog 160 (.i .i64 :: (.i .i64 :: (.i .i64 :: (.i .i64 :: (.i .i64 :: (.i .i64 :: (.i .i64 :: (.i .i64 :: (.i .i64 :: (.i .i64 :: (.i .i64 :: (.i .i64 :: (.i .i64 :: (.i .i64 :: (.i .i64 :: (.i .i64 :: (.i .i64 :: (.i .i64 :: (.i .i64 :: (.i .i64 :: (.i .i64 :: (.i .i64 :: (.i .i64 :: (.i .i64 :: (.i .i64 :: (.i .i64 :: (.i .i64 :: (.i .i64 :: (.i .i64 :: (.i .i64 :: (.i .i64 :: (.i .i64 :: (.i .i64 :: (.i .i64 :: (.i .i64 :: (.i .i64 :: (.i .i64 :: (.i .i64 :: (.i .i64 :: (.i .i64 :: (.i .i64 :: (.i .i64 :: (.i .i64 :: (.i .i64 :: (.i .i64 :: (.i .i64 :: (.i .i64 :: (.i .i64 :: (.i .i64 :: (.i .i64 :: (.i .i64 :: (.i .i64 :: (.i .i64 :: (.i .i64 :: (.i .i64 :: (.i .i64 :: (.i .i64 :: (.i .i64 :: (.i .i64 :: (.i .i64 :: (.i .i64 :: (.i .i64 :: (.i .i64 :: (.i .i64 :: (.i .i64 :: (.i .i64 :: (.i .i64 :: (.i .i64 :: (.i .i64 :: (.i .i64 :: (.i .i64 :: (.i .i64 :: (.i .i64 :: (.i .i64 :: (.i .i64 :: (.i .i64 :: (.i .i64 :: (.i .i64 :: (.i .i64 :: (.i .i64 :: (.i .i64 :: (.i .i64 :: (.i .i64 :: (.i .i64 :: (.i .i64 :: (.i .i64 :: (.i .i64 :: (.i .i64 :: (.i .i64 :: (.i .i64 :: (.i .i64 :: (.i .i64 :: (.i .i64 :: (.i .i64 :: (.i .i64 :: (.i .i64 :: (.i .i64 :: (.i .i64 :: (.i .i64 :: (.i .i64 :: (.i .i64 :: (.i .i64 :: (.i .i64 :: (.i .i64 :: (.i .i64 :: (.i .i64 :: (.i .i64 :: (.i .i64 :: (.i .i64 :: (.i .i64 :: (.i .i64 :: (.i .i64 :: (.i .i64 :: (.i .i64 :: (.i .i64 :: (.i .i64 :: (.i .i64 :: (.i .i64 :: (.i .i64 :: (.i .i64 :: (.i .i64 :: (.i .i64 :: (.i .i64 :: (.i .i64 :: (.i .i64 :: (.i .i64 :: (.i .i64 :: (.i .i64 :: (.i .i64 :: (.i .i64 :: (.i .i64 :: (.i .i64 :: (.i .i64 :: (.i .i64 :: (.i .i64 :: (.i .i64 :: (.i .i64 :: (.i .i64 :: (.i .i64 :: (.i .i64 :: (.i .i64 :: (.i .i64 :: (.i .i64 :: (.i .i64 :: (.i .i64 :: (.i .i64 :: (.i .i64 :: (.i .i64 :: (.i .i64 :: (.i .i64 :: (.i .i64 :: (.i .i64 :: (.i .i64 :: (.i .i64 :: (.i .i64 :: (.i .i64 :: (.i .i64 :: (.i .i64 :: (.i .i64 :: (.i .i64 :: [])))))))))))))))))))))))))))))))))))))))))))))))))))))))))))))))))))))))))))))))))))))))))))))))))))))))))))))))))))))))))))))))))))))))))))))))))))))))))))))))) := ⟨by kernel_rfl, by kernel_rfl, by kernel_rfl⟩
abbrev fn_zccQ : FuncId := 3
def zccQ_l0 : ACode :=
 (.seq (.seq (.region [
 o1 71 (.mov (tm 11)),
 o1 72 (.eq .ptr true (so (.binOp .neq 43 (tm 71) (.const (.pointer none)) 43) 4) (tm 71) (.const (.pointer none))),
 o1 73 (.mov (tm 72)),
 o4 74 (.mov (tm 13)) 73,
 o4 75 (.mov (tm 2)) 73,
 o4 76 (.lenSl (tm 75)) 73,
 o4 77 (.bin .lss (so (.binOp .lss 3 (tm 74) (tm 76) 3) 4) (tm 74) (tm 76)) 73,
 o1 78 (.pick (tm 73) (tm 77) (.const (.bool false)))]) (.cond (tm 78)
 .skip
 (.exit 0))) (.seq (.block 1 (.seq (.region [
 o1 81 (.mov (tm 2)),
 o1 82 (.mov (tm 13)),
 o1 83 (.indexSl 168 (tm 81) (tm 82)),
 o1 84 (.load (some 168) (tm 83)),
 o1 14 (.alloc 51 ((.int .i64 0) :: ((.int .i64 0) :: ((.string ⟨⟨[]⟩⟩) :: ((.int .i64 0) :: ((.int .i64 0) :: (z32 ++ (z32 ++ (z32 ++ (z32 ++ ((.int .i64 0) :: (z32 ++ [(.slice none 0 0), (.slice none 0 0)])))))))))))),
 o3 (.store 168 (tm 14) (tm 84)),
 o1 15 (.mov (.const (.bool true)))]) (.seq (.region [
 o1 85 (.fieldAddr 2 (tm 14)),
 o1 86 (.load (some 166) (tm 85)),
 o1 87 (.callV (.func 7) [(tm 86)]),
 o1 16 (.alloc 31 ((.string ⟨⟨[]⟩⟩) :: ((.int .i64 0) :: ((.int .i64 0) :: (z32 ++ (z32 ++ (z32 ++ (z32 ++ ((.int .i64 0) :: (z32 ++ [(.slice none 0 0), (.slice none 0 0)])))))))))),
 o3 (.store 166 (tm 16) (tm 87))]) (.seq (.seq (.region [
 o1 88 (.fieldAddr 0 (tm 14)),
 o1 89 (.load none (tm 88))]) (.block 2 (.seq (.region [
 o1 91 (.bin .eql (so (.binOp .eql 3 (tm 89) k0 3) 4) (tm 89) k0),
 o1 90 (.mov (tm 91))]) (.cond (tm 90)
 (.regionD [
 o1 92 (.mov (tm 9)),
 o1 93 (.fieldAddr 1 (tm 14)),
 o1 94 (.load none (tm 93)),
 o1 95 (.load (some 166) (tm 16)),
 o1 97 (.mov (tm 11)),
 o1 98 (.fieldAddr 1 (tm 14)),
 o1 99 (.load none (tm 98)),
 o1 100 (.fieldAddr 2 (tm 14)),
 o1 101 (.load (some 166) (tm 100)),
 ⟨some 96, .callV (.func 15) [(tm 92), (tm 94), (tm 95)], none, [(some 101, .load (some 166) (tm 100), none), (some 100, .fieldAddr 2 (tm 14), none), (some 99, .load none (tm 98), none), (some 98, .fieldAddr 1 (tm 14), none), (some 97, .mov (tm 11), none)], false⟩,
 o2 102 (.callV (.func 16) [(tm 97), (tm 99), (tm 101)]),
 o2 103 (.bin .eql (so (.binOp .eql 40 (tm 96) (tm 102) 40) 4) (tm 96) (tm 102)),
 o2 104 (.mov (tm 103)),
 o4 105 (.load (some 166) (tm 16)) 104,
 o4 106 (.fieldAddr 2 (tm 14)) 104,
 o4 107 (.load (some 166) (tm 106)) 104,
 ⟨some 108, .callV (.func 11) [(tm 105), (tm 107)], some (104, true), [], true⟩,
 o2 109 (.pick (tm 104) (tm 108) (.const (.bool false))),
 o2 15 (.mov (tm 109))])
 (.seq (.region [
 o1 111 (.bin .eql (so (.binOp .eql 3 (tm 89) (.const (.int .i64 1)) 3) 4) (tm 89) (.const (.int .i64 1))),
 o1 110 (.mov (tm 111))]) (.cond (tm 110)
 (.regionD [
 o1 112 (.mov (tm 9)),
 o1 113 (.fieldAddr 1 (tm 14)),
 o1 114 (.load none (tm 113)),
 o1 116 (.mov (tm 11)),
 o1 117 (.fieldAddr 1 (tm 14)),
 o1 118 (.load none (tm 117)),
 ⟨some 115, .callV (.func 17) [(tm 112), (tm 114)], none, [(some 118, .load none (tm 117), none), (some 117, .fieldAddr 1 (tm 14), none), (some 116, .mov (tm 11), none)], false⟩,
 o2 119 (.callV (.func 18) [(tm 116), (tm 118)]),
 o2 120 (.bin .eql (so (.binOp .eql 40 (tm 115) (tm 119) 40) 4) (tm 115) (tm 119)),
 o2 15 (.mov (tm 120))])
 .skip)))))) (.seq (.region [
 o1 121 (.load (some 166) (tm 16)),
 o1 122 (.callV (.func 13) [(tm 121)])]) (.seq (.region [
 o1 123 (.mov (tm 15)),
 o1 124 (.raw (so (.unOp .not 4 (tm 123)) 4)),
 o1 125 (.mov (tm 124)),
 o5 126 (.mov (tm 9)) 125,
 o5 127 (.mov (tm 11)) 125,
 o5 128 (.callV (.func 19) [(tm 126), (tm 127)]) 125,
 o5 129 (.raw (so (.unOp .not 4 (tm 128)) 4)) 125,
 o1 130 (.pick (tm 125) (.const (.bool true)) (tm 129))]) (.cond (tm 130)
 (.seq (.region [
 o1 6 (.mov (.const (.bool false)))]) .ret)
 .skip))))))) (.region [
 o1 79 (.mov (tm 13)),
 o1 80 (.bin .add (so (.binOp .add 3 (tm 79) (.const (.int .i64 1)) 3) 3) (tm 79) (.const (.int .i64 1))),
 o1 13 (.mov (tm 80))])))
def zccQ_c : ACode :=
 (.seq (.region [
 o1 3 (.box 31 (tm 0)),
 o1 6 (.mov (.const (.bool false)))]) (.seq (.seq (.region [
 o1 17 (.load (some 166) (tm 3)),
 o1 18 (.callV (.func 4) [(tm 17)]),
 o1 19 (.mov (tm 18)),
 o5 20 (.mov (tm 1)) 19,
 o5 21 (.lenSl (tm 20)) 19,
 o5 22 (.bin .gtr (so (.binOp .gtr 3 (tm 21) (.const (.int .i64 20)) 3) 4) (tm 21) (.const (.int .i64 20))) 19,
 o1 23 (.pick (tm 19) (.const (.bool true)) (tm 22)),
 o1 24 (.mov (tm 23)),
 o5 25 (.mov (tm 2)) 24,
 o5 26 (.callV (.func 5) [(tm 25)]) 24,
 o1 27 (.pick (tm 24) (.const (.bool true)) (tm 26))]) (.cond (tm 27)
 (.seq (.region [
 o1 28 (.callV (.func 6) []),
 o1 6 (.mov (tm 28))]) .ret)
 .skip)) (.seq (.region [
 o1 29 (.load (some 166) (tm 3)),
 o1 30 (.callV (.func 7) [(tm 29)]),
 o1 31 (.mov (tm 1)),
 o1 32 (.callV (.func 8) [(tm 31)]),
 o1 7 (.alloc 31 ((.string ⟨⟨[]⟩⟩) :: ((.int .i64 0) :: ((.int .i64 0) :: (z32 ++ (z32 ++ (z32 ++ (z32 ++ ((.int .i64 0) :: (z32 ++ [(.slice none 0 0), (.slice none 0 0)])))))))))),
 o3 (.store 166 (tm 7) (tm 30)),
 o1 8 (.mov (tm 32))]) (.seq (.region [
 o1 34 (.load (some 166) (tm 7)),
 o1 35 (.mov (tm 8)),
 o1 36 (.callV (.func 9) [(tm 34), (tm 35)]),
 o1 33 (.mov (tm 36)),
 o1 37 (.extract 0 (tm 33)),
 o1 38 (.extract 1 (tm 33)),
 o1 9 (.mov (tm 37)),
 o1 10 (.mov (tm 38))]) (.seq (.region [
 o1 40 (.load (some 166) (tm 3)),
 o1 41 (.mov (tm 1)),
 o1 42 (.callV (.func 10) [(tm 40), (tm 41)]),
 o1 39 (.mov (tm 42)),
 o1 43 (.extract 0 (tm 39)),
 o1 44 (.extract 1 (tm 39)),
 o1 11 (.mov (tm 43)),
 o1 12 (.mov (tm 44))]) (.seq (.seq (.region [
 o1 45 (.mov (tm 10)),
 o1 46 (.mov (tm 12)),
 o1 47 (.bin .neq (so (.binOp .neq 40 (tm 45) (tm 46) 40) 4) (tm 45) (tm 46)),
 o1 48 (.mov (tm 47)),
 o5 49 (.mov (tm 9)) 48,
 o5 50 (.eq .ptr false (so (.binOp .eql 39 (tm 49) (.const (.pointer none)) 39) 4) (tm 49) (.const (.pointer none))) 48,
 o5 51 (.mov (tm 11)) 48,
 o5 52 (.eq .ptr false (so (.binOp .eql 43 (tm 51) (.const (.pointer none)) 43) 4) (tm 51) (.const (.pointer none))) 48,
 o5 53 (.bin .neq (so (.binOp .neq 4 (tm 50) (tm 52) 4) 4) (tm 50) (tm 52)) 48,
 o1 54 (.pick (tm 48) (.const (.bool true)) (tm 53)),
 o1 55 (.mov (tm 54)),
 o5 56 (.load (some 166) (tm 7)) 55,
 o5 57 (.load (some 166) (tm 3)) 55,
 o5 58 (.callV (.func 11) [(tm 56), (tm 57)]) 55,
 o5 59 (.raw (so (.unOp .not 4 (tm 58)) 4)) 55,
 o1 60 (.pick (tm 55) (.const (.bool true)) (tm 59)),
 o1 61 (.mov (tm 60)),
 o5 62 (.mov (tm 8)) 61,
 o5 63 (.mov (tm 1)) 61,
 o5 64 (.callV (.func 12) [(tm 62), (tm 63)]) 61,
 o5 65 (.raw (so (.unOp .not 4 (tm 64)) 4)) 61,
 o1 66 (.pick (tm 61) (.const (.bool true)) (tm 65))]) (.cond (tm 66)
 (.seq (.region [
 o1 6 (.mov (.const (.bool false)))]) .ret)
 .skip)) (.seq (.region [
 o1 67 (.load (some 166) (tm 7)),
 o1 68 (.callV (.func 13) [(tm 67)])]) (.seq (.region [
 o1 69 (.mov (tm 8)),
 o1 70 (.callV (.func 14) [(tm 69)])]) (.seq (.seq (.region [
 o1 13 (.mov k0)]) (.block 0 (.loop zccQ_l0))) (.seq (.region [
 o1 131 (.mov (tm 11)),
 o1 132 (.eq .ptr false (so (.binOp .eql 43 (tm 131) (.const (.pointer none)) 43) 4) (tm 131) (.const (.pointer none))),
 o1 133 (.mov (tm 132)),
 o5 134 (.mov (tm 9)) 133,
 o5 135 (.mov (tm 11)) 133,
 o5 136 (.callV (.func 19) [(tm 134), (tm 135)]) 133,
 o1 137 (.pick (tm 133) (.const (.bool true)) (tm 136)),
 o1 138 (.mov (tm 137)),
 o4 139 (.callV (.func 6) []) 138,
 o1 140 (.pick (tm 138) (tm 139) (.const (.bool false))),
 o1 6 (.mov (tm 140))]) .ret))))))))))
def zccQ : AFunc := ⟨141, [(6, none)], zccQ_c, none⟩
theorem zccQ_t0 : tableOf Tryz.prog 3 = some zccQ := by kernel_rfl
theorem zccQ_t : T0 3 = some zccQ := withKept_t rfl (withTrue_t rfl zccQ_t0)
theorem zccQ_runs {v0 v1 v2 : Value} {h : Heap} {R : RP} {X : XP} (k : RunC Tryz.prog T0 zccQ_c ⟨[v0, v1, v2, U, U, U, U, U, U, U, U, U, U, U, U, U, U, U, U, U, U, U, U, U, U, U, U, U, U, U, U, U, U, U, U, U, U, U, U, U, U, U, U, U, U, U, U, U, U, U, U, U, U, U, U, U, U, U, U, U, U, U, U, U, U, U, U, U, U, U, U, U, U, U, U, U, U, U, U, U, U, U, U, U, U, U, U, U, U, U, U, U, U, U, U, U, U, U, U, U, U, U, U, U, U, U, U, U, U, U, U, U, U, U, U, U, U, U, U, U, U, U, U, U, U, U, U, U, U, U, U, U, U, U, U, U, U, U, U, U, U], [], h, none⟩ (bodyQ Tryz.prog T0 [(6, none)] R X)) :
 Runs Tryz.prog T0 (.fn 3) [v0, v1, v2] h R X := Runs.fn zccQ_t rfl k
abbrev zccQ_l0_M : List Nat := [0, 0, 0, 0, 0, 0, 1, 0, 0, 0, 0, 0, 0, 2, 1, 1, 1, 0, 0, 0, 0, 0, 0, 0, 0, 0, 0, 0, 0, 0, 0, 0, 0, 0, 0, 0, 0, 0, 0, 0, 0, 0, 0, 0, 0, 0, 0, 0, 0, 0, 0, 0, 0, 0, 0, 0, 0, 0, 0, 0, 0, 0, 0, 0, 0, 0, 0, 0, 0, 0, 0, 1, 1, 1, 1, 1, 1, 1, 1, 1, 1, 1, 1, 1, 1, 1, 1, 1, 1, 1, 1, 1, 1, 1, 1, 1, 1, 1, 1, 1, 1, 1, 1, 1, 1, 1, 1, 1, 1, 1, 1, 1, 1, 1, 1, 1, 1, 1, 1, 1, 1, 1, 1, 1, 1, 1, 1, 1, 1, 1, 1, 0, 0, 0, 0, 0, 0, 0, 0, 0, 0]
abbrev fn_zsbQ : FuncId := 4
def zsbQ_c : ACode :=
 (.seq (.region [
 o1 1 (.box 31 (tm 0)),
 o1 2 (.mov (.const (.bool false)))]) (.seq (.region [
 o1 3 (.fieldAddr 165 (tm 1)),
 o1 4 (.load none (tm 3)),
 o1 5 (.lenSl (tm 4)),
 o1 6 (.bin .gtr (so (.binOp .gtr 3 (tm 5) (.const (.int .i64 70)) 3) 4) (tm 5) (.const (.int .i64 70))),
 o1 7 (.mov (tm 6)),
 o5 8 (.fieldAddr 131 (tm 1)) 7,
 o5 9 (.fieldAddr 33 (tm 8)) 7,
 o5 10 (.load none (tm 9)) 7,
 o5 11 (.lenSl (tm 10)) 7,
 o5 12 (.bin .gtr (so (.binOp .gtr 3 (tm 11) (.const (.int .i64 70)) 3) 4) (tm 11) (.const (.int .i64 70))) 7,
 o1 13 (.pick (tm 7) (.const (.bool true)) (tm 12)),
 o1 14 (.mov (tm 13)),
 o5 15 (.fieldAddr 0 (tm 1)) 14,
 o5 16 (.fieldAddr 0 (tm 15)) 14,
 o5 17 (.load none (tm 16)) 14,
 o5 18 (.lenStr (tm 17)) 14,
 o5 19 (.bin .gtr (so (.binOp .gtr 3 (tm 18) (.const (.int .i64 60)) 3) 4) (tm 18) (.const (.int .i64 60))) 14,
 o1 20 (.pick (tm 14) (.const (.bool true)) (tm 19)),
 o1 2 (.mov (tm 20))]) .ret))
def zsbQ : AFunc := ⟨21, [(2, none)], zsbQ_c, none⟩
theorem zsbQ_t0 : tableOf Tryz.prog 4 = some zsbQ := by kernel_rfl
theorem zsbQ_t : T0 4 = some zsbQ := withKept_t rfl (withTrue_t rfl zsbQ_t0)
theorem zsbQ_runs {v0 : Value} {h : Heap} {R : RP} {X : XP} (k : RunC Tryz.prog T0 zsbQ_c ⟨[v0, U, U, U, U, U, U, U, U, U, U, U, U, U, U, U, U, U, U, U, U], [], h, none⟩ (bodyQ Tryz.prog T0 [(2, none)] R X)) :
 Runs Tryz.prog T0 (.fn 4) [v0] h R X := Runs.fn zsbQ_t rfl k
abbrev fn_zecQ : FuncId := 5
def zecQ_l0 : ACode :=
 (.seq (.seq (.region [
 o1 4 (.mov (tm 3)),
 o1 5 (.mov (tm 0)),
 o1 6 (.lenSl (tm 5)),
 o1 7 (.bin .lss (so (.binOp .lss 3 (tm 4) (tm 6) 3) 4) (tm 4) (tm 6)),
 o1 8 (.mov (tm 7)),
 o4 9 (.mov (tm 3)) 8,
 o4 10 (.bin .lss (so (.binOp .lss 3 (tm 9) (.const (.int .i64 31)) 3) 4) (tm 9) (.const (.int .i64 31))) 8,
 o1 11 (.pick (tm 8) (tm 10) (.const (.bool false)))]) (.cond (tm 11)
 .skip
 (.exit 0))) (.seq (.block 1 (.seq (.region [
 o1 14 (.mov (tm 0)),
 o1 15 (.mov (tm 3)),
 o1 16 (.indexSl 168 (tm 14) (tm 15)),
 o1 17 (.fieldAddr 2 (tm 16)),
 o1 18 (.load (some 166) (tm 17)),
 o1 19 (.callV (.func 4) [(tm 18)])]) (.cond (tm 19)
 (.seq (.region [
 o1 2 (.mov (.const (.bool true)))]) .ret)
 .skip))) (.region [
 o1 12 (.mov (tm 3)),
 o1 13 (.bin .add (so (.binOp .add 3 (tm 12) (.const (.int .i64 1)) 3) 3) (tm 12) (.const (.int .i64 1))),
 o1 3 (.mov (tm 13))])))
def zecQ_c : ACode :=
 (.seq (.region [
 o1 2 (.mov (.const (.bool false)))]) (.seq (.seq (.region [
 o1 3 (.mov k0)]) (.block 0 (.loop zecQ_l0))) (.seq (.region [
 o1 20 (.mov (tm 0)),
 o1 21 (.lenSl (tm 20)),
 o1 22 (.bin .gtr (so (.binOp .gtr 3 (tm 21) (.const (.int .i64 30)) 3) 4) (tm 21) (.const (.int .i64 30))),
 o1 2 (.mov (tm 22))]) .ret)))
def zecQ : AFunc := ⟨23, [(2, none)], zecQ_c, none⟩
theorem zecQ_t0 : tableOf Tryz.prog 5 = some zecQ := by kernel_rfl
theorem zecQ_t : T0 5 = some zecQ := withKept_t rfl (withTrue_t rfl zecQ_t0)
theorem zecQ_runs {v0 : Value} {h : Heap} {R : RP} {X : XP} (k : RunC Tryz.prog T0 zecQ_c ⟨[v0, U, U, U, U, U, U, U, U, U, U, U, U, U, U, U, U, U, U, U, U, U, U], [], h, none⟩ (bodyQ Tryz.prog T0 [(2, none)] R X)) :
 Runs Tryz.prog T0 (.fn 5) [v0] h R X := Runs.fn zecQ_t rfl k
abbrev zecQ_l0_M : List Nat := [0, 0, 1, 2, 1, 1, 1, 1, 1, 1, 1, 1, 1, 1, 1, 1, 1, 1, 1, 1, 0, 0, 0]
abbrev fn_zobQ : FuncId := 7
def zobQ_c : ACode :=
 (.seq (.region [
 o1 1 (.box 31 (tm 0)),
 o1 2 (.alloc 31 ((.string ⟨⟨[]⟩⟩) :: ((.int .i64 0) :: ((.int .i64 0) :: (z32 ++ (z32 ++ (z32 ++ (z32 ++ ((.int .i64 0) :: (z32 ++ [(.slice none 0 0), (.slice none 0 0)]))))))))))]) (.seq (.region [
 o1 3 (.fieldAddr 131 (tm 1)),
 o1 4 (.load (some 34) (tm 3)),
 o1 5 (.callV (.func 24) [(tm 4)]),
 o1 6 (.fieldAddr 131 (tm 1)),
 o3 (.store 34 (tm 6) (tm 5))]) (.seq (.region [
 o1 7 (.fieldAddr 165 (tm 1)),
 o1 8 (.load none (tm 7)),
 o1 9 (.callV (.func 25) [(tm 8)]),
 o1 10 (.fieldAddr 165 (tm 1)),
 o3 (.store 1 (tm 10) (tm 9))]) (.seq (.region [
 o1 11 (.load (some 166) (tm 1)),
 o3 (.store 166 (tm 2) (tm 11))]) .ret))))
def zobQ : AFunc := ⟨12, [(2, some (some 166))], zobQ_c, none⟩
theorem zobQ_t0 : tableOf Tryz.prog 7 = some zobQ := by kernel_rfl
theorem zobQ_t : T0 7 = some zobQ := withKept_t rfl (withTrue_t rfl zobQ_t0)
theorem zobQ_runs {v0 : Value} {h : Heap} {R : RP} {X : XP} (k : RunC Tryz.prog T0 zobQ_c ⟨[v0, U, U, U, U, U, U, U, U, U, U, U], [], h, none⟩ (bodyQ Tryz.prog T0 [(2, some (some 166))] R X)) :
 Runs Tryz.prog T0 (.fn 7) [v0] h R X := Runs.fn zobQ_t rfl k
abbrev fn_zqbQ : FuncId := 8
def zqbQ_c : ACode :=
 (.seq (.region [
 o1 2 (.mov (.const (.slice none 0 0)))]) (.seq (.region [
 o1 3 (.buildSlice 3 [] 0 []),
 o1 4 (.mov (tm 0)),
 o1 5 (.append 3 1 8 [(.int .i64 0)] false (tm 3) (tm 4)),
 o1 2 (.mov (tm 5))]) .ret))
def zqbQ : AFunc := ⟨6, [(2, none)], zqbQ_c, none⟩
theorem zqbQ_t0 : tableOf Tryz.prog 8 = some zqbQ := by kernel_rfl
theorem zqbQ_t : T0 8 = some zqbQ := withKept_t rfl (withTrue_t rfl zqbQ_t0)
theorem zqbQ_runs {v0 : Value} {h : Heap} {R : RP} {X : XP} (k : RunC Tryz.prog T0 zqbQ_c ⟨[v0, U, U, U, U, U], [], h, none⟩ (bodyQ Tryz.prog T0 [(2, none)] R X)) :
 Runs Tryz.prog T0 (.fn 8) [v0] h R X := Runs.fn zqbQ_t rfl k
abbrev fn_zwQ : FuncId := 9
def zwQ_l0 : ACode :=
 (.seq (.region [
 o1 26 (.bin .lss (so (.binOp .lss 3 (tm 25) (tm 24) 3) 0) (tm 25) (tm 24))]) (.seq (.cond (tm 26)
 .skip
 (.exit 0)) (.seq (.block 1 (.seq (.region [
 o1 27 (.indexSl 1 (tm 23) (tm 25)),
 o1 28 (.load none (tm 27)),
 o1 11 (.mov (tm 28))]) (.seq (.block 2 (.seq (.region [
 o1 30 (.mov (tm 11)),
 o1 31 (.bin .lss (so (.binOp .lss 3 (tm 30) k0 3) 4) (tm 30) k0),
 o1 32 (.mov (tm 31)),
 o5 33 (.mov (tm 11)) 32,
 o5 34 (.bin .geq (so (.binOp .geq 3 (tm 33) (.const (.int .i64 16)) 3) 4) (tm 33) (.const (.int .i64 16))) 32,
 o1 35 (.pick (tm 32) (.const (.bool true)) (tm 34)),
 o1 29 (.mov (tm 35))]) (.cond (tm 29)
 (.seq (.region [
 o1 4 (.mov (.const (.pointer none))),
 o1 5 (.mov (.const (.int .i64 3)))]) .ret)
 (.seq (.region [
 o1 37 (.mov (tm 11)),
 o1 38 (.mov (tm 9)),
 o1 39 (.bin .leq (so (.binOp .leq 3 (tm 37) (tm 38) 3) 4) (tm 37) (tm 38)),
 o1 36 (.mov (tm 39))]) (.cond (tm 36)
 (.seq (.region [
 o1 4 (.mov (.const (.pointer none))),
 o1 5 (.mov (.const (.int .i64 9)))]) .ret)
 .skip))))) (.seq (.region [
 o1 40 (.mov (tm 8)),
 o1 41 (.mov (tm 11)),
 o1 42 (.nilCheck (tm 40)),
 o1 43 (.fieldAddr 32 (tm 42)),
 o1 44 (.indexArr 16 167 (tm 43) (tm 41)),
 o1 45 (.fieldAddr 0 (tm 44)),
 o3 (.store 1 (tm 45) (.const (.int .i64 1)))]) (.region [
 o1 46 (.mov (tm 11)),
 o1 9 (.mov (tm 46))]))))) (.region [
 o1 47 (.bin .add (so (.binOp .add 3 (tm 25) (.const (.int .i64 1)) 3) 3) (tm 25) (.const (.int .i64 1))),
 o1 25 (.mov (tm 47))]))))
def zwQ_c : ACode :=
 (.seq (.region [
 o1 2 (.box 31 (tm 0)),
 o1 4 (.mov (.const (.pointer none))),
 o1 5 (.mov k0)]) (.seq (.region [
 o1 13 (.load (some 166) (tm 2)),
 o1 14 (.callV (.func 26) [(tm 13)]),
 o1 12 (.mov (tm 14)),
 o1 15 (.extract 0 (tm 12)),
 o1 16 (.extract 1 (tm 12)),
 o1 6 (.alloc 23 z32),
 o3 (.store 32 (tm 6) (tm 15)),
 o1 7 (.mov (tm 16))]) (.seq (.seq (.region [
 o1 17 (.mov (tm 7)),
 o1 18 (.bin .neq (so (.binOp .neq 40 (tm 17) k0 40) 4) (tm 17) k0)]) (.cond (tm 18)
 (.seq (.region [
 o1 19 (.mov (tm 7)),
 o1 4 (.mov (.const (.pointer none))),
 o1 5 (.mov (tm 19))]) .ret)
 .skip)) (.seq (.region [
 o1 20 (.load (some 32) (tm 6)),
 o1 21 (.build (z32 ++ ((.int .i64 0) :: ((.string ⟨⟨[]⟩⟩) :: ((.int .i64 0) :: ((.int .i64 0) :: (z32 ++ (z32 ++ (z32 ++ (z32 ++ ((.int .i64 0) :: (z32 ++ ((.slice none 0 0) :: ((.slice none 0 0) :: ((.int .i64 0) :: ((.string ⟨⟨[]⟩⟩) :: ((.int .i64 0) :: ((.int .i64 0) :: (z32 ++ (z32 ++ (z32 ++ (z32 ++ ((.int .i64 0) :: (z32 ++ ((.slice none 0 0) :: ((.slice none 0 0) :: ((.int .i64 0) :: ((.string ⟨⟨[]⟩⟩) :: ((.int .i64 0) :: ((.int .i64 0) :: (z32 ++ (z32 ++ (z32 ++ (z32 ++ ((.int .i64 0) :: (z32 ++ ((.slice none 0 0) :: ((.slice none 0 0) :: ((.int .i64 0) :: ((.string ⟨⟨[]⟩⟩) :: ((.int .i64 0) :: ((.int .i64 0) :: (z32 ++ (z32 ++ (z32 ++ (z32 ++ ((.int .i64 0) :: (z32 ++ ((.slice none 0 0) :: ((.slice none 0 0) :: ((.int .i64 0) :: ((.string ⟨⟨[]⟩⟩) :: ((.int .i64 0) :: ((.int .i64 0) :: (z32 ++ (z32 ++ (z32 ++ (z32 ++ ((.int .i64 0) :: (z32 ++ ((.slice none 0 0) :: ((.slice none 0 0) :: ((.int .i64 0) :: ((.string ⟨⟨[]⟩⟩) :: ((.int .i64 0) :: ((.int .i64 0) :: (z32 ++ (z32 ++ (z32 ++ (z32 ++ ((.int .i64 0) :: (z32 ++ ((.slice none 0 0) :: ((.slice none 0 0) :: ((.int .i64 0) :: ((.string ⟨⟨[]⟩⟩) :: ((.int .i64 0) :: ((.int .i64 0) :: (z32 ++ (z32 ++ (z32 ++ (z32 ++ ((.int .i64 0) :: (z32 ++ ((.slice none 0 0) :: ((.slice none 0 0) :: ((.int .i64 0) :: ((.string ⟨⟨[]⟩⟩) :: ((.int .i64 0) :: ((.int .i64 0) :: (z32 ++ (z32 ++ (z32 ++ (z32 ++ ((.int .i64 0) :: (z32 ++ ((.slice none 0 0) :: ((.slice none 0 0) :: ((.int .i64 0) :: ((.string ⟨⟨[]⟩⟩) :: ((.int .i64 0) :: ((.int .i64 0) :: (z32 ++ (z32 ++ (z32 ++ (z32 ++ ((.int .i64 0) :: (z32 ++ ((.slice none 0 0) :: ((.slice none 0 0) :: ((.int .i64 0) :: ((.string ⟨⟨[]⟩⟩) :: ((.int .i64 0) :: ((.int .i64 0) :: (z32 ++ (z32 ++ (z32 ++ (z32 ++ ((.int .i64 0) :: (z32 ++ ((.slice none 0 0) :: ((.slice none 0 0) :: ((.int .i64 0) :: ((.string ⟨⟨[]⟩⟩) :: ((.int .i64 0) :: ((.int .i64 0) :: (z32 ++ (z32 ++ (z32 ++ (z32 ++ ((.int .i64 0) :: (z32 ++ ((.slice none 0 0) :: ((.slice none 0 0) :: ((.int .i64 0) :: ((.string ⟨⟨[]⟩⟩) :: ((.int .i64 0) :: ((.int .i64 0) :: (z32 ++ (z32 ++ (z32 ++ (z32 ++ ((.int .i64 0) :: (z32 ++ ((.slice none 0 0) :: ((.slice none 0 0) :: ((.int .i64 0) :: ((.string ⟨⟨[]⟩⟩) :: ((.int .i64 0) :: ((.int .i64 0) :: (z32 ++ (z32 ++ (z32 ++ (z32 ++ ((.int .i64 0) :: (z32 ++ ((.slice none 0 0) :: ((.slice none 0 0) :: ((.int .i64 0) :: ((.string ⟨⟨[]⟩⟩) :: ((.int .i64 0) :: ((.int .i64 0) :: (z32 ++ (z32 ++ (z32 ++ (z32 ++ ((.int .i64 0) :: (z32 ++ ((.slice none 0 0) :: ((.slice none 0 0) :: ((.int .i64 0) :: ((.string ⟨⟨[]⟩⟩) :: ((.int .i64 0) :: ((.int .i64 0) :: (z32 ++ (z32 ++ (z32 ++ (z32 ++ ((.int .i64 0) :: (z32 ++ ((.slice none 0 0) :: ((.slice none 0 0) :: ((.int .i64 0) :: ((.string ⟨⟨[]⟩⟩) :: ((.int .i64 0) :: ((.int .i64 0) :: (z32 ++ (z32 ++ (z32 ++ (z32 ++ ((.int .i64 0) :: (z32 ++ [(.slice none 0 0), (.slice none 0 0), (.bool false)]))))))))))))))))))))))))))))))))))))))))))))))))))))))))))))))))))))))))))))))))))))))))))))))))))))))))))))))))))))))))))))))))))))))))))))))))))))))))))))))))))))))))))))))))))))))))))))))) [(0, 32, (tm 20)), (2704, 1, (.const (.bool true)))]),
 o1 22 (.box 69 (tm 21)),
 o1 8 (.mov (tm 22))]) (.seq (.region [
 o1 9 (.mov (.const (.int .i64 (-1))))]) (.seq (.seq (.region [
 o1 23 (.mov (tm 1)),
 o1 24 (.lenSl (tm 23)),
 o1 25 (.mov k0)]) (.block 0 (.loop zwQ_l0))) (.seq (.region [
 o1 48 (.mov (tm 8)),
 o1 4 (.mov (tm 48)),
 o1 5 (.mov k0)]) .ret)))))))
def zwQ : AFunc := ⟨49, [(4, none), (5, none)], zwQ_c, none⟩
theorem zwQ_t0 : tableOf Tryz.prog 9 = some zwQ := by kernel_rfl
theorem zwQ_t : T0 9 = some zwQ := withKept_t rfl (withTrue_t rfl zwQ_t0)
theorem zwQ_runs {v0 v1 : Value} {h : Heap} {R : RP} {X : XP} (k : RunC Tryz.prog T0 zwQ_c ⟨[v0, v1, U, U, U, U, U, U, U, U, U, U, U, U, U, U, U, U, U, U, U, U, U, U, U, U, U, U, U, U, U, U, U, U, U, U, U, U, U, U, U, U, U, U, U, U, U, U, U], [], h, none⟩ (bodyQ Tryz.prog T0 [(4, none), (5, none)] R X)) :
 Runs Tryz.prog T0 (.fn 9) [v0, v1] h R X := Runs.fn zwQ_t rfl k
abbrev zwQ_l0_M : List Nat := [0, 0, 0, 0, 1, 1, 0, 0, 0, 2, 0, 1, 0, 0, 0, 0, 0, 0, 0, 0, 0, 0, 0, 0, 0, 2, 1, 1, 1, 1, 1, 1, 1, 1, 1, 1, 1, 1, 1, 1, 1, 1, 1, 1, 1, 1, 1, 1, 0]
abbrev fn_zgdQ : FuncId := 10
def zgdQ_l0 : ACode :=
 (.seq (.seq (.region [
 o1 21 (.mov (tm 9)),
 o1 22 (.mov (tm 1)),
 o1 23 (.lenSl (tm 22)),
 o1 24 (.bin .lss (so (.binOp .lss 3 (tm 21) (tm 23) 3) 4) (tm 21) (tm 23))]) (.cond (tm 24)
 .skip
 (.exit 0))) (.seq (.block 1 (.seq (.block 2 (.seq (.region [
 o1 28 (.mov (tm 1)),
 o1 29 (.mov (tm 9)),
 o1 30 (.indexSl 1 (tm 28) (tm 29)),
 o1 31 (.load none (tm 30)),
 o1 32 (.bin .lss (so (.binOp .lss 3 (tm 31) k0 3) 4) (tm 31) k0),
 o1 33 (.mov (tm 32)),
 o5 34 (.mov (tm 1)) 33,
 o5 35 (.mov (tm 9)) 33,
 o5 36 (.indexSl 1 (tm 34) (tm 35)) 33,
 o5 37 (.load none (tm 36)) 33,
 o5 38 (.bin .gtr (so (.binOp .gtr 3 (tm 37) (.const (.int .i64 15)) 3) 4) (tm 37) (.const (.int .i64 15))) 33,
 o1 39 (.pick (tm 33) (.const (.bool true)) (tm 38)),
 o1 27 (.mov (tm 39))]) (.cond (tm 27)
 (.seq (.region [
 o1 4 (.mov (.const (.pointer none))),
 o1 5 (.mov (.const (.int .i64 3)))]) .ret)
 (.seq (.regionD [
 o2 41 (.mov (tm 9)),
 o2 42 (.bin .gtr (so (.binOp .gtr 3 (tm 41) k0 3) 4) (tm 41) k0),
 o2 43 (.mov (tm 42)),
 o4 44 (.mov (tm 1)) 43,
 o4 45 (.mov (tm 9)) 43,
 o4 46 (.indexSl 1 (tm 44) (tm 45)) 43,
 o4 47 (.load none (tm 46)) 43,
 o4 48 (.mov (tm 1)) 43,
 o4 49 (.mov (tm 9)) 43,
 o4 50 (.bin .sub (so (.binOp .sub 3 (tm 49) (.const (.int .i64 1)) 3) 3) (tm 49) (.const (.int .i64 1))) 43,
 o4 51 (.indexSl 1 (tm 48) (tm 50)) 43,
 o4 52 (.load none (tm 51)) 43,
 ⟨some 53, .bin .leq (so (.binOp .leq 3 (tm 47) (tm 52) 3) 4) (tm 47) (tm 52), some (43, true), [], true⟩,
 o2 54 (.pick (tm 43) (tm 53) (.const (.bool false))),
 o2 40 (.mov (tm 54))]) (.cond (tm 40)
 (.seq (.region [
 o1 4 (.mov (.const (.pointer none))),
 o1 5 (.mov (.const (.int .i64 9)))]) .ret)
 .skip))))) (.regionD [
 o1 55 (.mov (tm 8)),
 o1 56 (.mov (tm 1)),
 o1 57 (.mov (tm 9)),
 o1 58 (.indexSl 1 (tm 56) (tm 57)),
 o1 59 (.load none (tm 58)),
 o1 60 (.nilCheck (tm 55)),
 o1 61 (.fieldAddr 32 (tm 60)),
 o2 62 (.indexArr 16 1 (tm 61) (tm 59)),
 ⟨none, .store 1 (tm 62) (.const (.int .i64 1)), none, [], true⟩]))) (.region [
 o1 25 (.mov (tm 9)),
 o1 26 (.bin .add (so (.binOp .add 3 (tm 25) (.const (.int .i64 1)) 3) 3) (tm 25) (.const (.int .i64 1))),
 o1 9 (.mov (tm 26))])))
def zgdQ_c : ACode :=
 (.seq (.region [
 o1 2 (.box 31 (tm 0)),
 o1 4 (.mov (.const (.pointer none))),
 o1 5 (.mov k0)]) (.seq (.region [
 o1 11 (.load (some 166) (tm 2)),
 o1 12 (.callV (.func 27) [(tm 11)]),
 o1 10 (.mov (tm 12)),
 o1 13 (.extract 0 (tm 10)),
 o1 14 (.extract 1 (tm 10)),
 o1 6 (.alloc 23 z32),
 o3 (.store 32 (tm 6) (tm 13)),
 o1 7 (.mov (tm 14))]) (.seq (.seq (.region [
 o1 15 (.mov (tm 7)),
 o1 16 (.bin .neq (so (.binOp .neq 40 (tm 15) k0 40) 4) (tm 15) k0)]) (.cond (tm 16)
 (.seq (.region [
 o1 17 (.mov (tm 7)),
 o1 4 (.mov (.const (.pointer none))),
 o1 5 (.mov (tm 17))]) .ret)
 .skip)) (.seq (.region [
 o1 18 (.load (some 32) (tm 6)),
 o1 19 (.build (z32 ++ ((.int .i64 0) :: ((.int .i64 0) :: ((.int .i64 0) :: ((.int .i64 0) :: ((.int .i64 0) :: ((.int .i64 0) :: ((.int .i64 0) :: ((.int .i64 0) :: ((.int .i64 0) :: ((.int .i64 0) :: ((.int .i64 0) :: ((.int .i64 0) :: ((.int .i64 0) :: ((.int .i64 0) :: ((.int .i64 0) :: ((.int .i64 0) :: ((.int .i64 0) :: ((.string ⟨⟨[]⟩⟩) :: ((.int .i64 0) :: ((.int .i64 0) :: (z32 ++ (z32 ++ (z32 ++ (z32 ++ ((.int .i64 0) :: (z32 ++ [(.slice none 0 0), (.slice none 0 0)]))))))))))))))))))))))))))) [(0, 32, (tm 18)), (48, 1, (.const (.int .i64 (-1))))]),
 o1 20 (.box 72 (tm 19)),
 o1 8 (.mov (tm 20))]) (.seq (.seq (.region [
 o1 9 (.mov k0)]) (.block 0 (.loop zgdQ_l0))) (.seq (.region [
 o1 63 (.mov (tm 8)),
 o1 4 (.mov (tm 63)),
 o1 5 (.mov k0)]) .ret))))))
def zgdQ : AFunc := ⟨64, [(4, none), (5, none)], zgdQ_c, none⟩
theorem zgdQ_t0 : tableOf Tryz.prog 10 = some zgdQ := by kernel_rfl
theorem zgdQ_t : T0 10 = some zgdQ := withKept_t rfl (withTrue_t rfl zgdQ_t0)
theorem zgdQ_runs {v0 v1 : Value} {h : Heap} {R : RP} {X : XP} (k : RunC Tryz.prog T0 zgdQ_c ⟨[v0, v1, U, U, U, U, U, U, U, U, U, U, U, U, U, U, U, U, U, U, U, U, U, U, U, U, U, U, U, U, U, U, U, U, U, U, U, U, U, U, U, U, U, U, U, U, U, U, U, U, U, U, U, U, U, U, U, U, U, U, U, U, U, U], [], h, none⟩ (bodyQ Tryz.prog T0 [(4, none), (5, none)] R X)) :
 Runs Tryz.prog T0 (.fn 10) [v0, v1] h R X := Runs.fn zgdQ_t rfl k
abbrev zgdQ_l0_M : List Nat := [0, 0, 0, 0, 1, 1, 0, 0, 0, 2, 0, 0, 0, 0, 0, 0, 0, 0, 0, 0, 0, 1, 1, 1, 1, 1, 1, 1, 1, 1, 1, 1, 1, 1, 1, 1, 1, 1, 1, 1, 1, 1, 1, 1, 1, 1, 1, 1, 1, 1, 1, 1, 1, 1, 1, 1, 1, 1, 1, 1, 1, 1, 1, 0]
abbrev fn_zxbQ : FuncId := 11
def zxbQ_c : ACode :=
 (.seq (.region [
 o1 2 (.box 31 (tm 0)),
 o1 3 (.box 31 (tm 1)),
 o1 4 (.mov (.const (.bool false)))]) (.seq (.region [
 o1 5 (.fieldAddr 0 (tm 2)),
 o1 6 (.load (some 131) (tm 5)),
 o1 7 (.fieldAddr 0 (tm 3)),
 o1 8 (.load (some 131) (tm 7)),
 o1 9 (.bin .eql (so (.binOp .eql 25 (tm 6) (tm 8) 25) 4) (tm 6) (tm 8)),
 o1 10 (.mov (tm 9)),
 o4 11 (.fieldAddr 131 (tm 2)) 10,
 o4 12 (.load (some 34) (tm 11)) 10,
 o4 13 (.fieldAddr 131 (tm 3)) 10,
 o4 14 (.load (some 34) (tm 13)) 10,
 o4 15 (.callV (.func 28) [(tm 12), (tm 14)]) 10,
 o1 16 (.pick (tm 10) (tm 15) (.const (.bool false))),
 o1 17 (.mov (tm 16)),
 o4 18 (.fieldAddr 165 (tm 2)) 17,
 o4 19 (.load none (tm 18)) 17,
 o4 20 (.fieldAddr 165 (tm 3)) 17,
 o4 21 (.load none (tm 20)) 17,
 o4 22 (.callV (.func 29) [(tm 19), (tm 21)]) 17,
 o1 23 (.pick (tm 17) (tm 22) (.const (.bool false))),
 o1 4 (.mov (tm 23))]) .ret))
def zxbQ : AFunc := ⟨24, [(4, none)], zxbQ_c, none⟩
theorem zxbQ_t0 : tableOf Tryz.prog 11 = some zxbQ := by kernel_rfl
theorem zxbQ_t : T0 11 = some zxbQ := withKept_t rfl (withTrue_t rfl zxbQ_t0)
theorem zxbQ_runs {v0 v1 : Value} {h : Heap} {R : RP} {X : XP} (k : RunC Tryz.prog T0 zxbQ_c ⟨[v0, v1, U, U, U, U, U, U, U, U, U, U, U, U, U, U, U, U, U, U, U, U, U, U], [], h, none⟩ (bodyQ Tryz.prog T0 [(4, none)] R X)) :
 Runs Tryz.prog T0 (.fn 11) [v0, v1] h R X := Runs.fn zxbQ_t rfl k
abbrev fn_zzbQ : FuncId := 12
def zzbQ_l0 : ACode :=
 (.seq (.seq (.region [
 o1 12 (.mov (tm 5)),
 o1 13 (.mov (tm 12)),
 o4 14 (.mov (tm 6)) 13,
 o4 15 (.mov (tm 0)) 13,
 o4 16 (.lenSl (tm 15)) 13,
 o4 17 (.bin .lss (so (.binOp .lss 3 (tm 14) (tm 16) 3) 4) (tm 14) (tm 16)) 13,
 o1 18 (.pick (tm 13) (tm 17) (.const (.bool false)))]) (.cond (tm 18)
 .skip
 (.exit 0))) (.seq (.block 1 (.regionD [
 o1 21 (.mov (tm 0)),
 o1 22 (.mov (tm 6)),
 o1 23 (.indexSl 1 (tm 21) (tm 22)),
 o1 24 (.load none (tm 23)),
 o1 25 (.mov (tm 1)),
 o1 26 (.mov (tm 6)),
 o1 27 (.indexSl 1 (tm 25) (tm 26)),
 o1 28 (.load none (tm 27)),
 o2 29 (.bin .eql (so (.binOp .eql 3 (tm 24) (tm 28) 3) 4) (tm 24) (tm 28)),
 o2 5 (.mov (tm 29))])) (.region [
 o1 19 (.mov (tm 6)),
 o1 20 (.bin .add (so (.binOp .add 3 (tm 19) (.const (.int .i64 1)) 3) 3) (tm 19) (.const (.int .i64 1))),
 o1 6 (.mov (tm 20))])))
def zzbQ_c : ACode :=
 (.seq (.region [
 o1 4 (.mov (.const (.bool false)))]) (.seq (.region [
 o1 7 (.mov (tm 0)),
 o1 8 (.lenSl (tm 7)),
 o1 9 (.mov (tm 1)),
 o1 10 (.lenSl (tm 9)),
 o1 11 (.bin .eql (so (.binOp .eql 3 (tm 8) (tm 10) 3) 4) (tm 8) (tm 10)),
 o1 5 (.mov (tm 11))]) (.seq (.seq (.region [
 o1 6 (.mov k0)]) (.block 0 (.loop zzbQ_l0))) (.seq (.region [
 o1 30 (.mov (tm 5)),
 o1 4 (.mov (tm 30))]) .ret))))
def zzbQ : AFunc := ⟨31, [(4, none)], zzbQ_c, none⟩
theorem zzbQ_t0 : tableOf Tryz.prog 12 = some zzbQ := by kernel_rfl
theorem zzbQ_t : T0 12 = some zzbQ := withKept_t rfl (withTrue_t rfl zzbQ_t0)
theorem zzbQ_runs {v0 v1 : Value} {h : Heap} {R : RP} {X : XP} (k : RunC Tryz.prog T0 zzbQ_c ⟨[v0, v1, U, U, U, U, U, U, U, U, U, U, U, U, U, U, U, U, U, U, U, U, U, U, U, U, U, U, U, U, U], [], h, none⟩ (bodyQ Tryz.prog T0 [(4, none)] R X)) :
 Runs Tryz.prog T0 (.fn 12) [v0, v1] h R X := Runs.fn zzbQ_t rfl k
abbrev zzbQ_l0_M : List Nat := [0, 0, 0, 0, 0, 2, 2, 0, 0, 0, 0, 0, 1, 1, 1, 1, 1, 1, 1, 1, 1, 1, 1, 1, 1, 1, 1, 1, 1, 1, 0]
abbrev fn_ztbQ : FuncId := 13
def ztbQ_c : ACode :=
 (.seq (.region [
 o1 1 (.box 31 (tm 0))]) (.seq (.region [
 o1 2 (.fieldAddr 165 (tm 1)),
 o1 3 (.load none (tm 2)),
 o1 4 (.callV (.func 30) [(tm 3)])]) (.region [
 o1 5 (.fieldAddr 131 (tm 1)),
 o1 6 (.load (some 34) (tm 5)),
 o1 7 (.callV (.func 31) [(tm 6)])])))
def ztbQ : AFunc := ⟨8, [], ztbQ_c, none⟩
theorem ztbQ_t0 : tableOf Tryz.prog 13 = some ztbQ := by kernel_rfl
theorem ztbQ_t : T0 13 = some ztbQ := withKept_t rfl (withTrue_t rfl ztbQ_t0)
theorem ztbQ_runs {v0 : Value} {h : Heap} {R : RP} {X : XP} (k : RunC Tryz.prog T0 ztbQ_c ⟨[v0, U, U, U, U, U, U, U], [], h, none⟩ (bodyQ Tryz.prog T0 [] R X)) :
 Runs Tryz.prog T0 (.fn 13) [v0] h R X := Runs.fn ztbQ_t rfl k
abbrev fn_zvbQ : FuncId := 14
def zvbQ_l0 : ACode :=
 (.seq (.seq (.region [
 o1 3 (.mov (tm 2)),
 o1 4 (.mov (tm 0)),
 o1 5 (.lenSl (tm 4)),
 o1 6 (.bin .lss (so (.binOp .lss 3 (tm 3) (tm 5) 3) 4) (tm 3) (tm 5))]) (.cond (tm 6)
 .skip
 (.exit 0))) (.seq (.block 1 (.region [
 o1 9 (.mov (tm 0)),
 o1 10 (.mov (tm 2)),
 o1 11 (.indexSl 1 (tm 9) (tm 10)),
 o3 (.store 1 (tm 11) (.const (.int .i64 (-77))))])) (.region [
 o1 7 (.mov (tm 2)),
 o1 8 (.bin .add (so (.binOp .add 3 (tm 7) (.const (.int .i64 1)) 3) 3) (tm 7) (.const (.int .i64 1))),
 o1 2 (.mov (tm 8))])))
def zvbQ_c : ACode :=
 (.seq (.region [
 o1 2 (.mov k0)]) (.block 0 (.loop zvbQ_l0)))
def zvbQ : AFunc := ⟨12, [], zvbQ_c, none⟩
theorem zvbQ_t0 : tableOf Tryz.prog 14 = some zvbQ := by kernel_rfl
theorem zvbQ_t : T0 14 = some zvbQ := withKept_t rfl (withTrue_t rfl zvbQ_t0)
theorem zvbQ_runs {v0 : Value} {h : Heap} {R : RP} {X : XP} (k : RunC Tryz.prog T0 zvbQ_c ⟨[v0, U, U, U, U, U, U, U, U, U, U, U], [], h, none⟩ (bodyQ Tryz.prog T0 [] R X)) :
 Runs Tryz.prog T0 (.fn 14) [v0] h R X := Runs.fn zvbQ_t rfl k
abbrev zvbQ_l0_M : List Nat := [0, 0, 2, 1, 1, 1, 1, 1, 1, 1, 1, 1]
abbrev fn_zqQ : FuncId := 15
def zqQ_c : ACode :=
 (.seq (.region [
 o1 5 (.box 31 (tm 2)),
 o1 6 (.mov k0)]) (.seq (.seq (.region [
 o1 10 (.mov (tm 0)),
 o1 11 (.mov (tm 1)),
 o1 12 (.callV (.func 32) [(tm 10), (tm 11)]),
 o1 7 (.mov (tm 12))]) (.seq (.region [
 o1 13 (.mov (tm 7)),
 o1 14 (.bin .neq (so (.binOp .neq 40 (tm 13) k0 40) 4) (tm 13) k0)]) (.cond (tm 14)
 (.seq (.region [
 o1 15 (.mov (tm 7)),
 o1 6 (.mov (tm 15))]) .ret)
 .skip))) (.seq (.region [
 o1 17 (.load (some 166) (tm 5)),
 o1 18 (.callV (.func 26) [(tm 17)]),
 o1 16 (.mov (tm 18)),
 o1 19 (.extract 0 (tm 16)),
 o1 20 (.extract 1 (tm 16)),
 o1 8 (.alloc 23 z32),
 o3 (.store 32 (tm 8) (tm 19)),
 o1 9 (.mov (tm 20))]) (.seq (.seq (.region [
 o1 21 (.mov (tm 9)),
 o1 22 (.bin .neq (so (.binOp .neq 40 (tm 21) k0 40) 4) (tm 21) k0)]) (.cond (tm 22)
 (.seq (.region [
 o1 23 (.mov (tm 9)),
 o1 6 (.mov (tm 23))]) .ret)
 .skip)) (.seq (.seq (.regionD [
 o1 24 (.load (some 32) (tm 8)),
 o1 25 (.mov (tm 0)),
 o1 26 (.nilCheck (tm 25)),
 o1 27 (.fieldAddr 0 (tm 26)),
 o1 28 (.load (some 32) (tm 27)),
 o2 29 (.bin .eql (so (.binOp .eql 23 (tm 24) (tm 28) 23) 4) (tm 24) (tm 28))]) (.cond (tm 29)
 (.region [
 o1 30 (.mov (tm 0)),
 o1 31 (.mov (tm 1)),
 o1 32 (.nilCheck (tm 30)),
 o1 33 (.fieldAddr 32 (tm 32)),
 o1 34 (.indexArr 16 167 (tm 33) (tm 31)),
 o1 35 (.fieldAddr 0 (tm 34)),
 o3 (.store 1 (tm 35) (.const (.int .i64 2)))])
 (.regionD [
 o1 36 (.mov (tm 0)),
 o1 37 (.mov (tm 1)),
 o1 38 (.load (some 166) (tm 5)),
 o1 41 (.nilCheck (tm 36)),
 o1 42 (.fieldAddr 32 (tm 41)),
 ⟨some 39, .callV (.func 33) [(tm 38)], none, [(some 42, .fieldAddr 32 (tm 41), none), (some 41, .nilCheck (tm 36), none), (some 37, .mov (tm 1), none), (some 36, .mov (tm 0), none)], false⟩,
 o1 40 (.build ((.int .i64 0) :: ((.string ⟨⟨[]⟩⟩) :: ((.int .i64 0) :: ((.int .i64 0) :: (z32 ++ (z32 ++ (z32 ++ (z32 ++ ((.int .i64 0) :: (z32 ++ [(.slice none 0 0), (.slice none 0 0)])))))))))) [(0, 1, (.const (.int .i64 4))), (1, 166, (tm 39))]),
 o2 43 (.indexArr 16 167 (tm 42) (tm 37)),
 ⟨none, .store 167 (tm 43) (tm 40), none, [], true⟩]))) (.seq (.region [
 o1 6 (.mov k0)]) .ret))))))
def zqQ : AFunc := ⟨44, [(6, none)], zqQ_c, none⟩
theorem zqQ_t0 : tableOf Tryz.prog 15 = some zqQ := by kernel_rfl
theorem zqQ_t : T0 15 = some zqQ := withKept_t rfl (withTrue_t rfl zqQ_t0)
theorem zqQ_runs {v0 v1 v2 : Value} {h : Heap} {R : RP} {X : XP} (k : RunC Tryz.prog T0 zqQ_c ⟨[v0, v1, v2, U, U, U, U, U, U, U, U, U, U, U, U, U, U, U, U, U, U, U, U, U, U, U, U, U, U, U, U, U, U, U, U, U, U, U, U, U, U, U, U, U], [], h, none⟩ (bodyQ Tryz.prog T0 [(6, none)] R X)) :
 Runs Tryz.prog T0 (.fn 15) [v0, v1, v2] h R X := Runs.fn zqQ_t rfl k
abbrev fn_zddQ : FuncId := 16
def zddQ_c : ACode :=
 (.seq (.region [
 o1 5 (.box 31 (tm 2)),
 o1 6 (.mov k0)]) (.seq (.region [
 o1 10 (.mov (tm 0)),
 o1 11 (.mov (tm 1)),
 o1 12 (.callV (.func 34) [(tm 10), (tm 11)]),
 o1 7 (.mov (tm 12))]) (.seq (.seq (.region [
 o1 13 (.mov (tm 7)),
 o1 14 (.bin .neq (so (.binOp .neq 40 (tm 13) k0 40) 4) (tm 13) k0)]) (.cond (tm 14)
 (.seq (.region [
 o1 15 (.mov (tm 7)),
 o1 6 (.mov (tm 15))]) .ret)
 .skip)) (.seq (.region [
 o1 17 (.load (some 166) (tm 5)),
 o1 18 (.callV (.func 27) [(tm 17)]),
 o1 16 (.mov (tm 18)),
 o1 19 (.extract 0 (tm 16)),
 o1 20 (.extract 1 (tm 16)),
 o1 8 (.alloc 23 z32),
 o3 (.store 32 (tm 8) (tm 19)),
 o1 9 (.mov (tm 20))]) (.seq (.seq (.region [
 o1 21 (.mov (tm 9)),
 o1 22 (.bin .neq (so (.binOp .neq 40 (tm 21) k0 40) 4) (tm 21) k0)]) (.cond (tm 22)
 (.seq (.region [
 o1 23 (.mov (tm 9)),
 o1 6 (.mov (tm 23))]) .ret)
 .skip)) (.seq (.region [
 o1 24 (.mov (tm 0)),
 o1 25 (.mov (tm 1)),
 o1 26 (.nilCheck (tm 24)),
 o1 27 (.fieldAddr 32 (tm 26)),
 o1 28 (.indexArr 16 1 (tm 27) (tm 25)),
 o3 (.store 1 (tm 28) (.const (.int .i64 2)))]) (.seq (.seq (.regionD [
 o1 29 (.load (some 32) (tm 8)),
 o1 30 (.mov (tm 0)),
 o1 31 (.nilCheck (tm 30)),
 o1 32 (.fieldAddr 0 (tm 31)),
 o1 33 (.load (some 32) (tm 32)),
 o2 34 (.bin .neq (so (.binOp .neq 23 (tm 29) (tm 33) 23) 4) (tm 29) (tm 33))]) (.cond (tm 34)
 (.seq (.region [
 o1 35 (.mov (tm 0)),
 o1 36 (.mov (tm 1)),
 o1 37 (.nilCheck (tm 35)),
 o1 38 (.fieldAddr 32 (tm 37)),
 o1 39 (.indexArr 16 1 (tm 38) (tm 36)),
 o3 (.store 1 (tm 39) (.const (.int .i64 4)))]) (.seq (.region [
 o1 40 (.mov (tm 0)),
 o1 41 (.mov (tm 1)),
 o1 42 (.nilCheck (tm 40)),
 o1 43 (.fieldAddr 48 (tm 42)),
 o3 (.store 1 (tm 43) (tm 41))]) (.region [
 o1 44 (.mov (tm 0)),
 o1 45 (.load (some 166) (tm 5)),
 o1 46 (.callV (.func 7) [(tm 45)]),
 o1 47 (.nilCheck (tm 44)),
 o1 48 (.fieldAddr 49 (tm 47)),
 o3 (.store 166 (tm 48) (tm 46))])))
 .skip)) (.seq (.region [
 o1 6 (.mov k0)]) .ret))))))))
def zddQ : AFunc := ⟨49, [(6, none)], zddQ_c, none⟩
theorem zddQ_t0 : tableOf Tryz.prog 16 = some zddQ := by kernel_rfl
theorem zddQ_t : T0 16 = some zddQ := withKept_t rfl (withTrue_t rfl zddQ_t0)
theorem zddQ_runs {v0 v1 v2 : Value} {h : Heap} {R : RP} {X : XP} (k : RunC Tryz.prog T0 zddQ_c ⟨[v0, v1, v2, U, U, U, U, U, U, U, U, U, U, U, U, U, U, U, U, U, U, U, U, U, U, U, U, U, U, U, U, U, U, U, U, U, U, U, U, U, U, U, U, U, U, U, U, U, U], [], h, none⟩ (bodyQ Tryz.prog T0 [(6, none)] R X)) :
 Runs Tryz.prog T0 (.fn 16) [v0, v1, v2] h R X := Runs.fn zddQ_t rfl k
abbrev fn_zoQ : FuncId := 17
def zoQ_c : ACode :=
 (.seq (.region [
 o1 4 (.mov k0)]) (.seq (.region [
 o1 6 (.mov (tm 0)),
 o1 7 (.mov (tm 1)),
 o1 8 (.callV (.func 32) [(tm 6), (tm 7)]),
 o1 5 (.mov (tm 8))]) (.seq (.seq (.region [
 o1 9 (.mov (tm 5)),
 o1 10 (.bin .eql (so (.binOp .eql 40 (tm 9) k0 40) 4) (tm 9) k0)]) (.cond (tm 10)
 (.region [
 o1 11 (.mov (tm 0)),
 o1 12 (.mov (tm 1)),
 o1 13 (.nilCheck (tm 11)),
 o1 14 (.fieldAddr 32 (tm 13)),
 o1 15 (.indexArr 16 167 (tm 14) (tm 12)),
 o1 16 (.fieldAddr 0 (tm 15)),
 o3 (.store 1 (tm 16) (.const (.int .i64 3)))])
 .skip)) (.seq (.region [
 o1 17 (.mov (tm 5)),
 o1 4 (.mov (tm 17))]) .ret))))
def zoQ : AFunc := ⟨18, [(4, none)], zoQ_c, none⟩
theorem zoQ_t0 : tableOf Tryz.prog 17 = some zoQ := by kernel_rfl
theorem zoQ_t : T0 17 = some zoQ := withKept_t rfl (withTrue_t rfl zoQ_t0)
theorem zoQ_runs {v0 v1 : Value} {h : Heap} {R : RP} {X : XP} (k : RunC Tryz.prog T0 zoQ_c ⟨[v0, v1, U, U, U, U, U, U, U, U, U, U, U, U, U, U, U, U], [], h, none⟩ (bodyQ Tryz.prog T0 [(4, none)] R X)) :
 Runs Tryz.prog T0 (.fn 17) [v0, v1] h R X := Runs.fn zoQ_t rfl k
abbrev fn_zbdQ : FuncId := 18
def zbdQ_c : ACode :=
 (.seq (.region [
 o1 4 (.mov k0)]) (.seq (.region [
 o1 6 (.mov (tm 0)),
 o1 7 (.mov (tm 1)),
 o1 8 (.callV (.func 34) [(tm 6), (tm 7)]),
 o1 5 (.mov (tm 8))]) (.seq (.seq (.region [
 o1 9 (.mov (tm 5)),
 o1 10 (.bin .eql (so (.binOp .eql 40 (tm 9) k0 40) 4) (tm 9) k0)]) (.cond (tm 10)
 (.region [
 o1 11 (.mov (tm 0)),
 o1 12 (.mov (tm 1)),
 o1 13 (.nilCheck (tm 11)),
 o1 14 (.fieldAddr 32 (tm 13)),
 o1 15 (.indexArr 16 1 (tm 14) (tm 12)),
 o3 (.store 1 (tm 15) (.const (.int .i64 3)))])
 .skip)) (.seq (.region [
 o1 16 (.mov (tm 5)),
 o1 4 (.mov (tm 16))]) .ret))))
def zbdQ : AFunc := ⟨17, [(4, none)], zbdQ_c, none⟩
theorem zbdQ_t0 : tableOf Tryz.prog 18 = some zbdQ := by kernel_rfl
theorem zbdQ_t : T0 18 = some zbdQ := withKept_t rfl (withTrue_t rfl zbdQ_t0)
theorem zbdQ_runs {v0 v1 : Value} {h : Heap} {R : RP} {X : XP} (k : RunC Tryz.prog T0 zbdQ_c ⟨[v0, v1, U, U, U, U, U, U, U, U, U, U, U, U, U, U, U], [], h, none⟩ (bodyQ Tryz.prog T0 [(4, none)] R X)) :
 Runs Tryz.prog T0 (.fn 18) [v0, v1] h R X := Runs.fn zbdQ_t rfl k
abbrev fn_zfcQ : FuncId := 19
def zfcQ_l0 : ACode :=
 (.seq (.seq (.region [
 o1 12 (.mov (tm 5)),
 o1 13 (.bin .lss (so (.binOp .lss 3 (tm 12) (.const (.int .i64 6)) 3) 4) (tm 12) (.const (.int .i64 6)))]) (.cond (tm 13)
 .skip
 (.exit 0))) (.seq (.block 1 (.seq (.region [
 o1 16 (.mov (tm 0)),
 o1 17 (.mov (tm 5)),
 o1 18 (.callV (.func 21) [(tm 16), (tm 17)]),
 o1 6 (.mov (tm 18))]) (.seq (.seq (.region [
 o1 19 (.mov (tm 6)),
 o1 20 (.mov (tm 1)),
 o1 21 (.mov (tm 5)),
 o1 22 (.callV (.func 35) [(tm 20), (tm 21)]),
 o1 23 (.callV (.func 12) [(tm 19), (tm 22)]),
 o1 24 (.raw (so (.unOp .not 4 (tm 23)) 4))]) (.cond (tm 24)
 (.seq (.region [
 o1 4 (.mov (.const (.bool false)))]) .ret)
 .skip)) (.region [
 o1 25 (.mov (tm 6)),
 o1 26 (.callV (.func 14) [(tm 25)])])))) (.region [
 o1 14 (.mov (tm 5)),
 o1 15 (.bin .add (so (.binOp .add 3 (tm 14) (.const (.int .i64 1)) 3) 3) (tm 14) (.const (.int .i64 1))),
 o1 5 (.mov (tm 15))])))
def zfcQ_l1 : ACode :=
 (.seq (.seq (.region [
 o1 27 (.mov (tm 7)),
 o1 28 (.bin .lss (so (.binOp .lss 3 (tm 27) (.const (.int .i64 18)) 3) 4) (tm 27) (.const (.int .i64 18)))]) (.cond (tm 28)
 .skip
 (.exit 2))) (.seq (.block 3 (.seq (.region [
 o1 31 (.mov (tm 0)),
 o1 32 (.mov (tm 7)),
 o1 33 (.callV (.func 36) [(tm 31), (tm 32)]),
 o1 34 (.mov (tm 1)),
 o1 35 (.mov (tm 7)),
 o1 36 (.callV (.func 37) [(tm 34), (tm 35)]),
 o1 37 (.bin .neq (so (.binOp .neq 3 (tm 33) (tm 36) 3) 4) (tm 33) (tm 36))]) (.cond (tm 37)
 (.seq (.region [
 o1 4 (.mov (.const (.bool false)))]) .ret)
 .skip))) (.region [
 o1 29 (.mov (tm 7)),
 o1 30 (.bin .add (so (.binOp .add 3 (tm 29) (.const (.int .i64 1)) 3) 3) (tm 29) (.const (.int .i64 1))),
 o1 7 (.mov (tm 30))])))
def zfcQ_c : ACode :=
 (.seq (.region [
 o1 4 (.mov (.const (.bool false)))]) (.seq (.seq (.region [
 o1 5 (.mov (.const (.int .i64 (-1))))]) (.block 0 (.loop zfcQ_l0))) (.seq (.seq (.region [
 o1 7 (.mov (.const (.int .i64 (-1))))]) (.block 2 (.loop zfcQ_l1))) (.seq (.region [
 o1 39 (.mov (tm 0)),
 o1 40 (.callV (.func 38) [(tm 39)]),
 o1 38 (.mov (tm 40)),
 o1 41 (.extract 0 (tm 38)),
 o1 42 (.extract 1 (tm 38)),
 o1 43 (.extract 2 (tm 38)),
 o1 9 (.alloc 31 ((.string ⟨⟨[]⟩⟩) :: ((.int .i64 0) :: ((.int .i64 0) :: (z32 ++ (z32 ++ (z32 ++ (z32 ++ ((.int .i64 0) :: (z32 ++ [(.slice none 0 0), (.slice none 0 0)])))))))))),
 o1 8 (.mov (tm 41)),
 o3 (.store 166 (tm 9) (tm 42)),
 o1 10 (.mov (tm 43))]) (.seq (.regionD [
 o1 44 (.mov (tm 8)),
 o1 45 (.mov (tm 1)),
 o1 46 (.nilCheck (tm 45)),
 o1 47 (.fieldAddr 48 (tm 46)),
 o1 48 (.load none (tm 47)),
 o2 49 (.bin .eql (so (.binOp .eql 3 (tm 44) (tm 48) 3) 4) (tm 44) (tm 48)),
 o2 50 (.mov (tm 49)),
 o4 51 (.load (some 166) (tm 9)) 50,
 o4 52 (.mov (tm 1)) 50,
 o4 53 (.nilCheck (tm 52)) 50,
 o4 54 (.fieldAddr 49 (tm 53)) 50,
 o4 55 (.load (some 166) (tm 54)) 50,
 ⟨some 56, .callV (.func 11) [(tm 51), (tm 55)], some (50, true), [], true⟩,
 o2 57 (.pick (tm 50) (tm 56) (.const (.bool false))),
 o2 58 (.mov (tm 57)),
 o4 59 (.mov (tm 10)) 58,
 o4 60 (.mov (tm 1)) 58,
 o4 61 (.nilCheck (tm 60)) 58,
 o4 62 (.fieldAddr 48 (tm 61)) 58,
 o4 63 (.load none (tm 62)) 58,
 o4 64 (.bin .geq (so (.binOp .geq 3 (tm 63) k0 3) 4) (tm 63) k0) 58,
 ⟨some 65, .bin .eql (so (.binOp .eql 4 (tm 59) (tm 64) 4) 4) (tm 59) (tm 64), some (58, true), [], true⟩,
 o2 66 (.pick (tm 58) (tm 65) (.const (.bool false))),
 o2 67 (.mov (tm 66)),
 o4 68 (.mov (tm 0)) 67,
 o4 70 (.mov (tm 1)) 67,
 ⟨some 69, .callV (.func 22) [(tm 68)], some (67, true), [(some 70, .mov (tm 1), some (67, true))], false⟩,
 ⟨some 71, .callV (.func 39) [(tm 70)], some (67, true), [], true⟩,
 ⟨some 72, .bin .eql (so (.binOp .eql 3 (tm 69) (tm 71) 3) 4) (tm 69) (tm 71), some (67, true), [], true⟩,
 o2 73 (.pick (tm 67) (tm 72) (.const (.bool false))),
 o2 11 (.mov (tm 73))]) (.seq (.region [
 o1 74 (.load (some 166) (tm 9)),
 o1 75 (.callV (.func 13) [(tm 74)])]) (.seq (.region [
 o1 76 (.mov (tm 11)),
 o1 4 (.mov (tm 76))]) .ret)))))))
def zfcQ : AFunc := ⟨77, [(4, none)], zfcQ_c, none⟩
theorem zfcQ_t0 : tableOf Tryz.prog 19 = some zfcQ := by kernel_rfl
theorem zfcQ_t : T0 19 = some zfcQ := withKept_t rfl (withTrue_t rfl zfcQ_t0)
theorem zfcQ_runs {v0 v1 : Value} {h : Heap} {R : RP} {X : XP} (k : RunC Tryz.prog T0 zfcQ_c ⟨[v0, v1, U, U, U, U, U, U, U, U, U, U, U, U, U, U, U, U, U, U, U, U, U, U, U, U, U, U, U, U, U, U, U, U, U, U, U, U, U, U, U, U, U, U, U, U, U, U, U, U, U, U, U, U, U, U, U, U, U, U, U, U, U, U, U, U, U, U, U, U, U, U, U, U, U, U, U], [], h, none⟩ (bodyQ Tryz.prog T0 [(4, none)] R X)) :
 Runs Tryz.prog T0 (.fn 19) [v0, v1] h R X := Runs.fn zfcQ_t rfl k
abbrev zfcQ_l0_M : List Nat := [0, 0, 0, 0, 1, 2, 1, 0, 0, 0, 0, 0, 1, 1, 1, 1, 1, 1, 1, 1, 1, 1, 1, 1, 1, 1, 1, 0, 0, 0, 0, 0, 0, 0, 0, 0, 0, 0, 0, 0, 0, 0, 0, 0, 0, 0, 0, 0, 0, 0, 0, 0, 0, 0, 0, 0, 0, 0, 0, 0, 0, 0, 0, 0, 0, 0, 0, 0, 0, 0, 0, 0, 0, 0, 0, 0, 0]
abbrev zfcQ_l1_M : List Nat := [0, 0, 0, 0, 1, 0, 0, 2, 0, 0, 0, 0, 0, 0, 0, 0, 0, 0, 0, 0, 0, 0, 0, 0, 0, 0, 0, 1, 1, 1, 1, 1, 1, 1, 1, 1, 1, 1, 0, 0, 0, 0, 0, 0, 0, 0, 0, 0, 0, 0, 0, 0, 0, 0, 0, 0, 0, 0, 0, 0, 0, 0, 0, 0, 0, 0, 0, 0, 0, 0, 0, 0, 0, 0, 0, 0, 0]
abbrev fn_zmQ : FuncId := 21
def zmQ_ra0 : Code := (rangeParts (subCode ((Tryz.prog.funcs[21]?).bind (·.body)) [true, false, true, false])).1
def zmQ_rb0 : Code := (rangeParts (subCode ((Tryz.prog.funcs[21]?).bind (·.body)) [true, false, true, false])).2
def zmQ_a0 : ACode :=
 (.seq (.region [
 o1 5 (.mov (tm 9))]) (.region [
 o1 6 (.alloc 66 ((.int .i64 0) :: ((.string ⟨⟨[]⟩⟩) :: ((.int .i64 0) :: ((.int .i64 0) :: (z32 ++ (z32 ++ (z32 ++ (z32 ++ ((.int .i64 0) :: (z32 ++ [(.slice none 0 0), (.slice none 0 0)]))))))))))),
 o3 (.store 167 (tm 6) (tm 10))]))
def zmQ_b0 : ACode :=
 (.block 1 (.seq (.region [
 o1 11 (.fieldAddr 0 (tm 6)),
 o1 12 (.load none (tm 11)),
 o1 13 (.load none (tm 3)),
 o1 14 (.bin .eql (so (.binOp .eql 3 (tm 12) (tm 13) 3) 4) (tm 12) (tm 13))]) (.cond (tm 14)
 (.region [
 o1 15 (.load none (tm 4)),
 o1 16 (.mov (tm 5)),
 o1 17 (.buildSlice 3 [(.int .i64 0)] 1 [(0, 1, (tm 16))]),
 o1 18 (.append 3 1 8 [(.int .i64 0)] false (tm 15) (tm 17)),
 o3 (.store 1 (tm 4) (tm 18))])
 .skip)))
theorem zmQ_ca0 : comp Tryz.prog zmQ_ra0 = some zmQ_a0 := by kernel_rfl
theorem zmQ_cb0 : comp Tryz.prog zmQ_rb0 = some zmQ_b0 := by kernel_rfl
theorem zmQ_na0 : noDefer zmQ_ra0 = true := by kernel_rfl
theorem zmQ_nb0 : noDefer zmQ_rb0 = true := by kernel_rfl
def zmQ_c : ACode :=
 (.seq (.region [
 o1 3 (.box 3 (tm 1)),
 o1 4 (.alloc 32 [(.slice none 0 0)])]) (.seq (.seq (.region [
 o1 7 (.mov (tm 0)),
 o1 8 (.callV (.func 40) [(tm 7)])]) (.block 0 (.rangeFunc (tm 8) [9, 10] zmQ_ra0 zmQ_rb0))) (.seq (.region [
 o1 19 (.load none (tm 4)),
 o3 (.store 1 (tm 4) (tm 19))]) .ret)))
def zmQ : AFunc := ⟨20, [(4, some none)], zmQ_c, none⟩
theorem zmQ_t0 : tableOf Tryz.prog 21 = some zmQ := by kernel_rfl
theorem zmQ_t : T0 21 = some zmQ := withKept_t rfl (withTrue_t rfl zmQ_t0)
theorem zmQ_runs {v0 v1 : Value} {h : Heap} {R : RP} {X : XP} (k : RunC Tryz.prog T0 zmQ_c ⟨[v0, v1, U, U, U, U, U, U, U, U, U, U, U, U, U, U, U, U, U, U], [], h, none⟩ (bodyQ Tryz.prog T0 [(4, some none)] R X)) :
 Runs Tryz.prog T0 (.fn 21) [v0, v1] h R X := Runs.fn zmQ_t rfl k
abbrev fn_zpQ : FuncId := 22
def zpQ_c : ACode :=
 (.seq (.region [
 o1 2 (.mov k0)]) (.seq (.block 0 (.seq (.region [
 o1 4 (.mov (tm 0)),
 o1 5 (.callV (.func 41) [(tm 4)]),
 o1 6 (.mov (tm 5)),
 o5 7 (.mov (tm 0)) 6,
 o5 8 (.callV (.func 40) [(tm 7)]) 6,
 o5 9 (.callV (.func 43) [(.const (.int .i64 4))]) 6,
 o5 10 (.callV (.func 42) [(tm 8), (tm 9)]) 6,
 o5 11 (.raw (so (.unOp .not 4 (tm 10)) 4)) 6,
 o5 12 (.mov (tm 11)) 6,
 o4 13 (.mov (tm 0)) 12,
 o4 14 (.callV (.func 40) [(tm 13)]) 12,
 o4 15 (.callV (.func 43) [(.const (.int .i64 1))]) 12,
 o4 16 (.callV (.func 42) [(tm 14), (tm 15)]) 12,
 o5 17 (.pick (tm 12) (tm 16) (.const (.bool false))) 6,
 o1 18 (.pick (tm 6) (.const (.bool true)) (tm 17)),
 o1 3 (.mov (tm 18))]) (.cond (tm 3)
 (.seq (.region [
 o1 2 (.mov k0)]) .ret)
 (.seq (.region [
 o1 20 (.mov (tm 0)),
 o1 21 (.callV (.func 40) [(tm 20)]),
 o1 22 (.callV (.func 43) [(.const (.int .i64 4))]),
 o1 23 (.callV (.func 42) [(tm 21), (tm 22)]),
 o1 19 (.mov (tm 23))]) (.cond (tm 19)
 (.seq (.region [
 o1 2 (.mov (.const (.int .i64 3)))]) .ret)
 (.seq (.region [
 o1 25 (.mov (tm 0)),
 o1 26 (.callV (.func 40) [(tm 25)]),
 o1 27 (.callV (.func 43) [(.const (.int .i64 2))]),
 o1 28 (.callV (.func 42) [(tm 26), (tm 27)]),
 o1 24 (.mov (tm 28))]) (.cond (tm 24)
 (.seq (.region [
 o1 2 (.mov (.const (.int .i64 1)))]) .ret)
 .skip))))))) (.seq (.region [
 o1 2 (.mov (.const (.int .i64 2)))]) .ret)))
def zpQ : AFunc := ⟨29, [(2, none)], zpQ_c, none⟩
theorem zpQ_t0 : tableOf Tryz.prog 22 = some zpQ := by kernel_rfl
theorem zpQ_t : T0 22 = some zpQ := withKept_t rfl (withTrue_t rfl zpQ_t0)
theorem zpQ_runs {v0 : Value} {h : Heap} {R : RP} {X : XP} (k : RunC Tryz.prog T0 zpQ_c ⟨[v0, U, U, U, U, U, U, U, U, U, U, U, U, U, U, U, U, U, U, U, U, U, U, U, U, U, U, U, U], [], h, none⟩ (bodyQ Tryz.prog T0 [(2, none)] R X)) :
 Runs Tryz.prog T0 (.fn 22) [v0] h R X := Runs.fn zpQ_t rfl k
abbrev fn_zpbQ : FuncId := 24
def zpbQ_c : ACode :=
 (.seq (.region [
 o1 1 (.box 28 (tm 0)),
 o1 2 (.alloc 28 ((.int .i64 0) :: (z32 ++ [(.slice none 0 0)])))]) (.seq (.region [
 o1 3 (.buildSlice 94 [] 0 []),
 o1 4 (.fieldAddr 33 (tm 1)),
 o1 5 (.load none (tm 4)),
 o1 6 (.append 94 2 16 [(.int .i64 0), (.int .u64 0)] false (tm 3) (tm 5)),
 o1 7 (.fieldAddr 33 (tm 1)),
 o3 (.store 1 (tm 7) (tm 6))]) (.seq (.region [
 o1 8 (.load (some 34) (tm 1)),
 o3 (.store 34 (tm 2) (tm 8))]) .ret)))
def zpbQ : AFunc := ⟨9, [(2, some (some 34))], zpbQ_c, none⟩
theorem zpbQ_t0 : tableOf Tryz.prog 24 = some zpbQ := by kernel_rfl
theorem zpbQ_t : T0 24 = some zpbQ := withKept_t rfl (withTrue_t rfl zpbQ_t0)
theorem zpbQ_runs {v0 : Value} {h : Heap} {R : RP} {X : XP} (k : RunC Tryz.prog T0 zpbQ_c ⟨[v0, U, U, U, U, U, U, U, U], [], h, none⟩ (bodyQ Tryz.prog T0 [(2, some (some 34))] R X)) :
 Runs Tryz.prog T0 (.fn 24) [v0] h R X := Runs.fn zpbQ_t rfl k
abbrev fn_zrbQ : FuncId := 25
def zrbQ_c : ACode :=
 (.seq (.region [
 o1 2 (.mov (.const (.slice none 0 0)))]) (.seq (.region [
 o1 3 (.buildSlice 89 [] 0 []),
 o1 4 (.mov (tm 0)),
 o1 5 (.append 89 5 16 [(.int .u8 0), (.int .u8 0), (.int .u8 0), (.int .u8 0), (.int .i64 0)] false (tm 3) (tm 4)),
 o1 2 (.mov (tm 5))]) .ret))
def zrbQ : AFunc := ⟨6, [(2, none)], zrbQ_c, none⟩
theorem zrbQ_t0 : tableOf Tryz.prog 25 = some zrbQ := by kernel_rfl
theorem zrbQ_t : T0 25 = some zrbQ := withKept_t rfl (withTrue_t rfl zrbQ_t0)
theorem zrbQ_runs {v0 : Value} {h : Heap} {R : RP} {X : XP} (k : RunC Tryz.prog T0 zrbQ_c ⟨[v0, U, U, U, U, U], [], h, none⟩ (bodyQ Tryz.prog T0 [(2, none)] R X)) :
 Runs Tryz.prog T0 (.fn 25) [v0] h R X := Runs.fn zrbQ_t rfl k
abbrev fn_zlQ : FuncId := 26
def zlQ_c : ACode :=
 (.seq (.region [
 o1 1 (.box 31 (tm 0)),
 o1 2 (.alloc 23 z32),
 o1 3 (.mov k0)]) (.seq (.region [
 o1 4 (.fieldAddr 0 (tm 1)),
 o1 5 (.load (some 131) (tm 4)),
 o1 6 (.callV (.func 44) [(tm 5)]),
 o1 7 (.extract 0 (tm 6)),
 o1 8 (.extract 1 (tm 6)),
 o3 (.store 32 (tm 2) (tm 7)),
 o1 3 (.mov (tm 8))]) .ret))
def zlQ : AFunc := ⟨9, [(2, some (some 32)), (3, none)], zlQ_c, none⟩
theorem zlQ_t0 : tableOf Tryz.prog 26 = some zlQ := by kernel_rfl
theorem zlQ_t : T0 26 = some zlQ := withKept_t rfl (withTrue_t rfl zlQ_t0)
theorem zlQ_runs {v0 : Value} {h : Heap} {R : RP} {X : XP} (k : RunC Tryz.prog T0 zlQ_c ⟨[v0, U, U, U, U, U, U, U, U], [], h, none⟩ (bodyQ Tryz.prog T0 [(2, some (some 32)), (3, none)] R X)) :
 Runs Tryz.prog T0 (.fn 26) [v0] h R X := Runs.fn zlQ_t rfl k
abbrev fn_zzcQ : FuncId := 27
def zzcQ_c : ACode :=
 (.seq (.region [
 o1 1 (.box 31 (tm 0)),
 o1 2 (.alloc 23 z32),
 o1 3 (.mov k0)]) (.seq (.region [
 o1 4 (.fieldAddr 0 (tm 1)),
 o1 5 (.load (some 131) (tm 4)),
 o1 6 (.callV (.func 45) [(tm 5)]),
 o1 7 (.extract 0 (tm 6)),
 o1 8 (.extract 1 (tm 6)),
 o3 (.store 32 (tm 2) (tm 7)),
 o1 3 (.mov (tm 8))]) .ret))
def zzcQ : AFunc := ⟨9, [(2, some (some 32)), (3, none)], zzcQ_c, none⟩
theorem zzcQ_t0 : tableOf Tryz.prog 27 = some zzcQ := by kernel_rfl
theorem zzcQ_t : T0 27 = some zzcQ := withKept_t rfl (withTrue_t rfl zzcQ_t0)
theorem zzcQ_runs {v0 : Value} {h : Heap} {R : RP} {X : XP} (k : RunC Tryz.prog T0 zzcQ_c ⟨[v0, U, U, U, U, U, U, U, U], [], h, none⟩ (bodyQ Tryz.prog T0 [(2, some (some 32)), (3, none)] R X)) :
 Runs Tryz.prog T0 (.fn 27) [v0] h R X := Runs.fn zzcQ_t rfl k
abbrev fn_zybQ : FuncId := 28
def zybQ_c : ACode :=
 (.seq (.region [
 o1 2 (.box 28 (tm 0)),
 o1 3 (.box 28 (tm 1)),
 o1 4 (.mov (.const (.bool false)))]) (.seq (.region [
 o1 5 (.fieldAddr 0 (tm 2)),
 o1 6 (.load none (tm 5)),
 o1 7 (.fieldAddr 0 (tm 3)),
 o1 8 (.load none (tm 7)),
 o1 9 (.bin .eql (so (.binOp .eql 3 (tm 6) (tm 8) 3) 4) (tm 6) (tm 8)),
 o1 10 (.mov (tm 9)),
 o4 11 (.fieldAddr 1 (tm 2)) 10,
 o4 12 (.load (some 32) (tm 11)) 10,
 o4 13 (.fieldAddr 1 (tm 3)) 10,
 o4 14 (.load (some 32) (tm 13)) 10,
 o4 15 (.bin .eql (so (.binOp .eql 23 (tm 12) (tm 14) 23) 4) (tm 12) (tm 14)) 10,
 o1 16 (.pick (tm 10) (tm 15) (.const (.bool false))),
 o1 17 (.mov (tm 16)),
 o4 18 (.fieldAddr 33 (tm 2)) 17,
 o4 19 (.load none (tm 18)) 17,
 o4 20 (.fieldAddr 33 (tm 3)) 17,
 o4 21 (.load none (tm 20)) 17,
 o4 22 (.callV (.func 46) [(tm 19), (tm 21)]) 17,
 o1 23 (.pick (tm 17) (tm 22) (.const (.bool false))),
 o1 4 (.mov (tm 23))]) .ret))
def zybQ : AFunc := ⟨24, [(4, none)], zybQ_c, none⟩
theorem zybQ_t0 : tableOf Tryz.prog 28 = some zybQ := by kernel_rfl
theorem zybQ_t : T0 28 = some zybQ := withKept_t rfl (withTrue_t rfl zybQ_t0)
theorem zybQ_runs {v0 v1 : Value} {h : Heap} {R : RP} {X : XP} (k : RunC Tryz.prog T0 zybQ_c ⟨[v0, v1, U, U, U, U, U, U, U, U, U, U, U, U, U, U, U, U, U, U, U, U, U, U], [], h, none⟩ (bodyQ Tryz.prog T0 [(4, none)] R X)) :
 Runs Tryz.prog T0 (.fn 28) [v0, v1] h R X := Runs.fn zybQ_t rfl k
abbrev fn_zacQ : FuncId := 29
def zacQ_l0 : ACode :=
 (.seq (.seq (.region [
 o1 12 (.mov (tm 5)),
 o1 13 (.mov (tm 12)),
 o4 14 (.mov (tm 6)) 13,
 o4 15 (.mov (tm 0)) 13,
 o4 16 (.lenSl (tm 15)) 13,
 o4 17 (.bin .lss (so (.binOp .lss 3 (tm 14) (tm 16) 3) 4) (tm 14) (tm 16)) 13,
 o1 18 (.pick (tm 13) (tm 17) (.const (.bool false)))]) (.cond (tm 18)
 .skip
 (.exit 0))) (.seq (.block 1 (.regionD [
 o1 21 (.mov (tm 0)),
 o1 22 (.mov (tm 6)),
 o1 23 (.indexSl 5 (tm 21) (tm 22)),
 o1 24 (.load (some 5) (tm 23)),
 o1 25 (.mov (tm 1)),
 o1 26 (.mov (tm 6)),
 o1 27 (.indexSl 5 (tm 25) (tm 26)),
 o1 28 (.load (some 5) (tm 27)),
 o2 29 (.bin .eql (so (.binOp .eql 89 (tm 24) (tm 28) 89) 4) (tm 24) (tm 28)),
 o2 5 (.mov (tm 29))])) (.region [
 o1 19 (.mov (tm 6)),
 o1 20 (.bin .add (so (.binOp .add 3 (tm 19) (.const (.int .i64 1)) 3) 3) (tm 19) (.const (.int .i64 1))),
 o1 6 (.mov (tm 20))])))
def zacQ_c : ACode :=
 (.seq (.region [
 o1 4 (.mov (.const (.bool false)))]) (.seq (.region [
 o1 7 (.mov (tm 0)),
 o1 8 (.lenSl (tm 7)),
 o1 9 (.mov (tm 1)),
 o1 10 (.lenSl (tm 9)),
 o1 11 (.bin .eql (so (.binOp .eql 3 (tm 8) (tm 10) 3) 4) (tm 8) (tm 10)),
 o1 5 (.mov (tm 11))]) (.seq (.seq (.region [
 o1 6 (.mov k0)]) (.block 0 (.loop zacQ_l0))) (.seq (.region [
 o1 30 (.mov (tm 5)),
 o1 4 (.mov (tm 30))]) .ret))))
def zacQ : AFunc := ⟨31, [(4, none)], zacQ_c, none⟩
theorem zacQ_t0 : tableOf Tryz.prog 29 = some zacQ := by kernel_rfl
theorem zacQ_t : T0 29 = some zacQ := withKept_t rfl (withTrue_t rfl zacQ_t0)
theorem zacQ_runs {v0 v1 : Value} {h : Heap} {R : RP} {X : XP} (k : RunC Tryz.prog T0 zacQ_c ⟨[v0, v1, U, U, U, U, U, U, U, U, U, U, U, U, U, U, U, U, U, U, U, U, U, U, U, U, U, U, U, U, U], [], h, none⟩ (bodyQ Tryz.prog T0 [(4, none)] R X)) :
 Runs Tryz.prog T0 (.fn 29) [v0, v1] h R X := Runs.fn zacQ_t rfl k
abbrev zacQ_l0_M : List Nat := [0, 0, 0, 0, 0, 2, 2, 0, 0, 0, 0, 0, 1, 1, 1, 1, 1, 1, 1, 1, 1, 1, 1, 1, 1, 1, 1, 1, 1, 1, 0]
abbrev fn_zwbQ : FuncId := 30
def zwbQ_l0 : ACode :=
 (.seq (.seq (.region [
 o1 3 (.mov (tm 2)),
 o1 4 (.mov (tm 0)),
 o1 5 (.lenSl (tm 4)),
 o1 6 (.bin .lss (so (.binOp .lss 3 (tm 3) (tm 5) 3) 4) (tm 3) (tm 5))]) (.cond (tm 6)
 .skip
 (.exit 0))) (.seq (.block 1 (.region [
 o1 9 (.mov (tm 0)),
 o1 10 (.mov (tm 2)),
 o1 11 (.build [(.int .u8 0), (.int .u8 0), (.int .u8 0), (.int .u8 0), (.int .i64 0)] [(4, 1, (.const (.int .i64 (-7))))]),
 o1 12 (.indexSl 5 (tm 9) (tm 10)),
 o3 (.store 5 (tm 12) (tm 11))])) (.region [
 o1 7 (.mov (tm 2)),
 o1 8 (.bin .add (so (.binOp .add 3 (tm 7) (.const (.int .i64 1)) 3) 3) (tm 7) (.const (.int .i64 1))),
 o1 2 (.mov (tm 8))])))
def zwbQ_c : ACode :=
 (.seq (.region [
 o1 2 (.mov k0)]) (.block 0 (.loop zwbQ_l0)))
def zwbQ : AFunc := ⟨13, [], zwbQ_c, none⟩
theorem zwbQ_t0 : tableOf Tryz.prog 30 = some zwbQ := by kernel_rfl
theorem zwbQ_t : T0 30 = some zwbQ := withKept_t rfl (withTrue_t rfl zwbQ_t0)
theorem zwbQ_runs {v0 : Value} {h : Heap} {R : RP} {X : XP} (k : RunC Tryz.prog T0 zwbQ_c ⟨[v0, U, U, U, U, U, U, U, U, U, U, U, U], [], h, none⟩ (bodyQ Tryz.prog T0 [] R X)) :
 Runs Tryz.prog T0 (.fn 30) [v0] h R X := Runs.fn zwbQ_t rfl k
abbrev zwbQ_l0_M : List Nat := [0, 0, 2, 1, 1, 1, 1, 1, 1, 1, 1, 1, 1]
abbrev fn_zubQ : FuncId := 31
def zubQ_l0 : ACode :=
 (.seq (.seq (.region [
 o1 3 (.mov (tm 2)),
 o1 4 (.fieldAddr 33 (tm 1)),
 o1 5 (.load none (tm 4)),
 o1 6 (.lenSl (tm 5)),
 o1 7 (.bin .lss (so (.binOp .lss 3 (tm 3) (tm 6) 3) 4) (tm 3) (tm 6))]) (.cond (tm 7)
 .skip
 (.exit 0))) (.seq (.block 1 (.region [
 o1 10 (.fieldAddr 33 (tm 1)),
 o1 11 (.load none (tm 10)),
 o1 12 (.mov (tm 2)),
 o1 13 (.build [(.int .i64 0), (.int .u64 0)] [(0, 1, (.const (.int .i64 (-7))))]),
 o1 14 (.indexSl 2 (tm 11) (tm 12)),
 o3 (.store 2 (tm 14) (tm 13))])) (.region [
 o1 8 (.mov (tm 2)),
 o1 9 (.bin .add (so (.binOp .add 3 (tm 8) (.const (.int .i64 1)) 3) 3) (tm 8) (.const (.int .i64 1))),
 o1 2 (.mov (tm 9))])))
def zubQ_c : ACode :=
 (.seq (.region [
 o1 1 (.box 28 (tm 0))]) (.seq (.region [
 o1 2 (.mov k0)]) (.block 0 (.loop zubQ_l0))))
def zubQ : AFunc := ⟨15, [], zubQ_c, none⟩
theorem zubQ_t0 : tableOf Tryz.prog 31 = some zubQ := by kernel_rfl
theorem zubQ_t : T0 31 = some zubQ := withKept_t rfl (withTrue_t rfl zubQ_t0)
theorem zubQ_runs {v0 : Value} {h : Heap} {R : RP} {X : XP} (k : RunC Tryz.prog T0 zubQ_c ⟨[v0, U, U, U, U, U, U, U, U, U, U, U, U, U, U], [], h, none⟩ (bodyQ Tryz.prog T0 [] R X)) :
 Runs Tryz.prog T0 (.fn 31) [v0] h R X := Runs.fn zubQ_t rfl k
abbrev zubQ_l0_M : List Nat := [0, 0, 2, 1, 1, 1, 1, 1, 1, 1, 1, 1, 1, 1, 1]
abbrev fn_zuQ : FuncId := 32
def zuQ_c : ACode :=
 (.seq (.region [
 o1 4 (.mov k0)]) (.seq (.block 0 (.seq (.region [
 o1 6 (.mov (tm 0)),
 o1 7 (.callV (.func 41) [(tm 6)]),
 o1 5 (.mov (tm 7))]) (.cond (tm 5)
 (.seq (.region [
 o1 4 (.mov (.const (.int .i64 1)))]) .ret)
 (.seq (.region [
 o1 9 (.mov (tm 0)),
 o1 10 (.callV (.func 40) [(tm 9)]),
 o1 11 (.callV (.func 43) [(.const (.int .i64 4))]),
 o1 12 (.callV (.func 42) [(tm 10), (tm 11)]),
 o1 8 (.mov (tm 12))]) (.cond (tm 8)
 (.seq (.region [
 o1 4 (.mov (.const (.int .i64 11)))]) .ret)
 (.seq (.region [
 o1 14 (.mov (tm 1)),
 o1 15 (.bin .lss (so (.binOp .lss 3 (tm 14) k0 3) 4) (tm 14) k0),
 o1 16 (.mov (tm 15)),
 o5 17 (.mov (tm 1)) 16,
 o5 18 (.bin .geq (so (.binOp .geq 3 (tm 17) (.const (.int .i64 16)) 3) 4) (tm 17) (.const (.int .i64 16))) 16,
 o1 19 (.pick (tm 16) (.const (.bool true)) (tm 18)),
 o1 20 (.mov (tm 19)),
 o5 21 (.mov (tm 0)) 20,
 o5 22 (.mov (tm 1)) 20,
 o5 23 (.nilCheck (tm 21)) 20,
 o5 24 (.fieldAddr 32 (tm 23)) 20,
 o5 25 (.indexArr 16 167 (tm 24) (tm 22)) 20,
 o5 26 (.fieldAddr 0 (tm 25)) 20,
 o5 27 (.load none (tm 26)) 20,
 o5 28 (.bin .eql (so (.binOp .eql 64 (tm 27) k0 64) 4) (tm 27) k0) 20,
 o1 29 (.pick (tm 20) (.const (.bool true)) (tm 28)),
 o1 13 (.mov (tm 29))]) (.cond (tm 13)
 (.seq (.region [
 o1 4 (.mov (.const (.int .i64 10)))]) .ret)
 (.seq (.region [
 o1 31 (.mov (tm 0)),
 o1 32 (.mov (tm 1)),
 o1 33 (.nilCheck (tm 31)),
 o1 34 (.fieldAddr 32 (tm 33)),
 o1 35 (.indexArr 16 167 (tm 34) (tm 32)),
 o1 36 (.fieldAddr 0 (tm 35)),
 o1 37 (.load none (tm 36)),
 o1 38 (.bin .neq (so (.binOp .neq 64 (tm 37) (.const (.int .i64 1)) 64) 4) (tm 37) (.const (.int .i64 1))),
 o1 30 (.mov (tm 38))]) (.cond (tm 30)
 (.seq (.region [
 o1 4 (.mov (.const (.int .i64 8)))]) .ret)
 .skip))))))))) (.seq (.region [
 o1 4 (.mov k0)]) .ret)))
def zuQ : AFunc := ⟨39, [(4, none)], zuQ_c, none⟩
theorem zuQ_t0 : tableOf Tryz.prog 32 = some zuQ := by kernel_rfl
theorem zuQ_t : T0 32 = some zuQ := withKept_t rfl (withTrue_t rfl zuQ_t0)
theorem zuQ_runs {v0 v1 : Value} {h : Heap} {R : RP} {X : XP} (k : RunC Tryz.prog T0 zuQ_c ⟨[v0, v1, U, U, U, U, U, U, U, U, U, U, U, U, U, U, U, U, U, U, U, U, U, U, U, U, U, U, U, U, U, U, U, U, U, U, U, U, U], [], h, none⟩ (bodyQ Tryz.prog T0 [(4, none)] R X)) :
 Runs Tryz.prog T0 (.fn 32) [v0, v1] h R X := Runs.fn zuQ_t rfl k
abbrev fn_zabQ : FuncId := 33
def zabQ_c : ACode :=
 (.seq (.region [
 o1 1 (.box 31 (tm 0)),
 o1 2 (.alloc 31 ((.string ⟨⟨[]⟩⟩) :: ((.int .i64 0) :: ((.int .i64 0) :: (z32 ++ (z32 ++ (z32 ++ (z32 ++ ((.int .i64 0) :: (z32 ++ [(.slice none 0 0), (.slice none 0 0)]))))))))))]) (.seq (.regionD [
 o1 3 (.fieldAddr 131 (tm 1)),
 o1 4 (.fieldAddr 33 (tm 3)),
 o1 5 (.load none (tm 4)),
 o1 7 (.fieldAddr 165 (tm 1)),
 o1 8 (.load none (tm 7)),
 ⟨some 6, .callV (.func 47) [(tm 5)], none, [(some 8, .load none (tm 7), none), (some 7, .fieldAddr 165 (tm 1), none)], false⟩,
 o1 10 (.fieldAddr 131 (tm 1)),
 o1 11 (.fieldAddr 33 (tm 10)),
 ⟨some 9, .callV (.func 48) [(tm 8)], none, [(some 11, .fieldAddr 33 (tm 10), none), (some 10, .fieldAddr 131 (tm 1), none)], false⟩,
 ⟨none, .store 1 (tm 11) (tm 6), none, [], true⟩,
 o2 12 (.fieldAddr 165 (tm 1)),
 ⟨none, .store 1 (tm 12) (tm 9), none, [], true⟩]) (.seq (.region [
 o1 13 (.load (some 166) (tm 1)),
 o3 (.store 166 (tm 2) (tm 13))]) .ret)))
def zabQ : AFunc := ⟨14, [(2, some (some 166))], zabQ_c, none⟩
theorem zabQ_t0 : tableOf Tryz.prog 33 = some zabQ := by kernel_rfl
theorem zabQ_t : T0 33 = some zabQ := withKept_t rfl (withTrue_t rfl zabQ_t0)
theorem zabQ_runs {v0 : Value} {h : Heap} {R : RP} {X : XP} (k : RunC Tryz.prog T0 zabQ_c ⟨[v0, U, U, U, U, U, U, U, U, U, U, U, U, U], [], h, none⟩ (bodyQ Tryz.prog T0 [(2, some (some 166))] R X)) :
 Runs Tryz.prog T0 (.fn 33) [v0] h R X := Runs.fn zabQ_t rfl k
abbrev fn_zfdQ : FuncId := 34
def zfdQ_c : ACode :=
 (.seq (.region [
 o1 4 (.mov k0)]) (.seq (.block 0 (.seq (.region [
 o1 6 (.mov (tm 0)),
 o1 7 (.nilCheck (tm 6)),
 o1 8 (.fieldAddr 48 (tm 7)),
 o1 9 (.load none (tm 8)),
 o1 10 (.bin .geq (so (.binOp .geq 3 (tm 9) k0 3) 4) (tm 9) k0),
 o1 5 (.mov (tm 10))]) (.cond (tm 5)
 (.seq (.region [
 o1 4 (.mov (.const (.int .i64 11)))]) .ret)
 (.seq (.region [
 o1 12 (.mov (tm 0)),
 o1 13 (.mov (tm 1)),
 o1 14 (.callV (.func 37) [(tm 12), (tm 13)]),
 o1 15 (.bin .eql (so (.binOp .eql 3 (tm 14) k0 3) 4) (tm 14) k0),
 o1 11 (.mov (tm 15))]) (.cond (tm 11)
 (.seq (.region [
 o1 4 (.mov (.const (.int .i64 10)))]) .ret)
 (.seq (.region [
 o1 17 (.mov (tm 0)),
 o1 18 (.mov (tm 1)),
 o1 19 (.callV (.func 37) [(tm 17), (tm 18)]),
 o1 20 (.bin .neq (so (.binOp .neq 3 (tm 19) (.const (.int .i64 1)) 3) 4) (tm 19) (.const (.int .i64 1))),
 o1 16 (.mov (tm 20))]) (.cond (tm 16)
 (.seq (.region [
 o1 4 (.mov (.const (.int .i64 8)))]) .ret)
 .skip))))))) (.seq (.region [
 o1 4 (.mov k0)]) .ret)))
def zfdQ : AFunc := ⟨21, [(4, none)], zfdQ_c, none⟩
theorem zfdQ_t0 : tableOf Tryz.prog 34 = some zfdQ := by kernel_rfl
theorem zfdQ_t : T0 34 = some zfdQ := withKept_t rfl (withTrue_t rfl zfdQ_t0)
theorem zfdQ_runs {v0 v1 : Value} {h : Heap} {R : RP} {X : XP} (k : RunC Tryz.prog T0 zfdQ_c ⟨[v0, v1, U, U, U, U, U, U, U, U, U, U, U, U, U, U, U, U, U, U, U], [], h, none⟩ (bodyQ Tryz.prog T0 [(4, none)] R X)) :
 Runs Tryz.prog T0 (.fn 34) [v0, v1] h R X := Runs.fn zfdQ_t rfl k
abbrev fn_zadQ : FuncId := 35
def zadQ_l0 : ACode :=
 (.seq (.seq (.region [
 o1 7 (.mov (tm 6)),
 o1 8 (.bin .lss (so (.binOp .lss 3 (tm 7) (.const (.int .i64 16)) 3) 4) (tm 7) (.const (.int .i64 16)))]) (.cond (tm 8)
 .skip
 (.exit 0))) (.seq (.block 1 (.seq (.region [
 o1 11 (.mov (tm 0)),
 o1 12 (.mov (tm 6)),
 o1 13 (.nilCheck (tm 11)),
 o1 14 (.fieldAddr 32 (tm 13)),
 o1 15 (.indexArr 16 1 (tm 14) (tm 12)),
 o1 16 (.load none (tm 15)),
 o1 17 (.mov (tm 1)),
 o1 18 (.bin .eql (so (.binOp .eql 3 (tm 16) (tm 17) 3) 4) (tm 16) (tm 17)),
 o1 19 (.mov (tm 18)),
 o4 20 (.mov (tm 1)) 19,
 o4 21 (.bin .neq (so (.binOp .neq 3 (tm 20) k0 3) 4) (tm 20) k0) 19,
 o1 22 (.pick (tm 19) (tm 21) (.const (.bool false)))]) (.cond (tm 22)
 (.region [
 o1 23 (.mov (tm 5)),
 o1 24 (.mov (tm 6)),
 o1 25 (.buildSlice 3 [(.int .i64 0)] 1 [(0, 1, (tm 24))]),
 o1 26 (.append 3 1 8 [(.int .i64 0)] false (tm 23) (tm 25)),
 o1 5 (.mov (tm 26))])
 .skip))) (.region [
 o1 9 (.mov (tm 6)),
 o1 10 (.bin .add (so (.binOp .add 3 (tm 9) (.const (.int .i64 1)) 3) 3) (tm 9) (.const (.int .i64 1))),
 o1 6 (.mov (tm 10))])))
def zadQ_c : ACode :=
 (.seq (.region [
 o1 4 (.mov (.const (.slice none 0 0)))]) (.seq (.region [
 o1 5 (.mov (.const (.slice none 0 0)))]) (.seq (.seq (.region [
 o1 6 (.mov k0)]) (.block 0 (.loop zadQ_l0))) (.seq (.region [
 o1 27 (.mov (tm 5)),
 o1 4 (.mov (tm 27))]) .ret))))
def zadQ : AFunc := ⟨28, [(4, none)], zadQ_c, none⟩
theorem zadQ_t0 : tableOf Tryz.prog 35 = some zadQ := by kernel_rfl
theorem zadQ_t : T0 35 = some zadQ := withKept_t rfl (withTrue_t rfl zadQ_t0)
theorem zadQ_runs {v0 v1 : Value} {h : Heap} {R : RP} {X : XP} (k : RunC Tryz.prog T0 zadQ_c ⟨[v0, v1, U, U, U, U, U, U, U, U, U, U, U, U, U, U, U, U, U, U, U, U, U, U, U, U, U, U], [], h, none⟩ (bodyQ Tryz.prog T0 [(4, none)] R X)) :
 Runs Tryz.prog T0 (.fn 35) [v0, v1] h R X := Runs.fn zadQ_t rfl k
abbrev zadQ_l0_M : List Nat := [0, 0, 0, 0, 0, 2, 2, 1, 1, 1, 1, 1, 1, 1, 1, 1, 1, 1, 1, 1, 1, 1, 1, 1, 1, 1, 1, 0]
abbrev fn_zrQ : FuncId := 36
def zrQ_c : ACode :=
 (.seq (.region [
 o1 4 (.mov k0)]) (.seq (.seq (.region [
 o1 5 (.mov (tm 0)),
 o1 6 (.callV (.func 41) [(tm 5)]),
 o1 7 (.mov (tm 6)),
 o5 8 (.mov (tm 1)) 7,
 o5 9 (.bin .lss (so (.binOp .lss 3 (tm 8) k0 3) 4) (tm 8) k0) 7,
 o1 10 (.pick (tm 7) (.const (.bool true)) (tm 9)),
 o1 11 (.mov (tm 10)),
 o5 12 (.mov (tm 1)) 11,
 o5 13 (.bin .geq (so (.binOp .geq 3 (tm 12) (.const (.int .i64 16)) 3) 4) (tm 12) (.const (.int .i64 16))) 11,
 o1 14 (.pick (tm 11) (.const (.bool true)) (tm 13))]) (.cond (tm 14)
 (.seq (.region [
 o1 4 (.mov k0)]) .ret)
 .skip)) (.seq (.region [
 o1 15 (.mov (tm 0)),
 o1 16 (.mov (tm 1)),
 o1 17 (.nilCheck (tm 15)),
 o1 18 (.fieldAddr 32 (tm 17)),
 o1 19 (.indexArr 16 167 (tm 18) (tm 16)),
 o1 20 (.fieldAddr 0 (tm 19)),
 o1 21 (.load none (tm 20)),
 o1 4 (.mov (tm 21))]) .ret)))
def zrQ : AFunc := ⟨22, [(4, none)], zrQ_c, none⟩
theorem zrQ_t0 : tableOf Tryz.prog 36 = some zrQ := by kernel_rfl
theorem zrQ_t : T0 36 = some zrQ := withKept_t rfl (withTrue_t rfl zrQ_t0)
theorem zrQ_runs {v0 v1 : Value} {h : Heap} {R : RP} {X : XP} (k : RunC Tryz.prog T0 zrQ_c ⟨[v0, v1, U, U, U, U, U, U, U, U, U, U, U, U, U, U, U, U, U, U, U, U], [], h, none⟩ (bodyQ Tryz.prog T0 [(4, none)] R X)) :
 Runs Tryz.prog T0 (.fn 36) [v0, v1] h R X := Runs.fn zrQ_t rfl k
abbrev fn_zedQ : FuncId := 37
def zedQ_c : ACode :=
 (.seq (.region [
 o1 4 (.mov k0)]) (.seq (.seq (.region [
 o1 5 (.mov (tm 1)),
 o1 6 (.bin .lss (so (.binOp .lss 3 (tm 5) k0 3) 4) (tm 5) k0),
 o1 7 (.mov (tm 6)),
 o5 8 (.mov (tm 1)) 7,
 o5 9 (.bin .gtr (so (.binOp .gtr 3 (tm 8) (.const (.int .i64 15)) 3) 4) (tm 8) (.const (.int .i64 15))) 7,
 o1 10 (.pick (tm 7) (.const (.bool true)) (tm 9))]) (.cond (tm 10)
 (.seq (.region [
 o1 4 (.mov k0)]) .ret)
 .skip)) (.seq (.region [
 o1 11 (.mov (tm 0)),
 o1 12 (.mov (tm 1)),
 o1 13 (.nilCheck (tm 11)),
 o1 14 (.fieldAddr 32 (tm 13)),
 o1 15 (.indexArr 16 1 (tm 14) (tm 12)),
 o1 16 (.load none (tm 15)),
 o1 4 (.mov (tm 16))]) .ret)))
def zedQ : AFunc := ⟨17, [(4, none)], zedQ_c, none⟩
theorem zedQ_t0 : tableOf Tryz.prog 37 = some zedQ := by kernel_rfl
theorem zedQ_t : T0 37 = some zedQ := withKept_t rfl (withTrue_t rfl zedQ_t0)
theorem zedQ_runs {v0 v1 : Value} {h : Heap} {R : RP} {X : XP} (k : RunC Tryz.prog T0 zedQ_c ⟨[v0, v1, U, U, U, U, U, U, U, U, U, U, U, U, U, U, U], [], h, none⟩ (bodyQ Tryz.prog T0 [(4, none)] R X)) :
 Runs Tryz.prog T0 (.fn 37) [v0, v1] h R X := Runs.fn zedQ_t rfl k
abbrev fn_znQ : FuncId := 38
def znQ_ra0 : Code := (rangeParts (subCode ((Tryz.prog.funcs[38]?).bind (·.body)) [true, false, true, false])).1
def znQ_rb0 : Code := (rangeParts (subCode ((Tryz.prog.funcs[38]?).bind (·.body)) [true, false, true, false])).2
def znQ_a0 : ACode :=
 (.seq (.region [
 o1 5 (.mov (tm 9))]) (.region [
 o1 6 (.alloc 66 ((.int .i64 0) :: ((.string ⟨⟨[]⟩⟩) :: ((.int .i64 0) :: ((.int .i64 0) :: (z32 ++ (z32 ++ (z32 ++ (z32 ++ ((.int .i64 0) :: (z32 ++ [(.slice none 0 0), (.slice none 0 0)]))))))))))),
 o3 (.store 167 (tm 6) (tm 10))]))
def znQ_b0 : ACode :=
 (.block 1 (.seq (.region [
 o1 11 (.fieldAddr 0 (tm 6)),
 o1 12 (.load none (tm 11)),
 o1 13 (.bin .eql (so (.binOp .eql 64 (tm 12) (.const (.int .i64 4)) 64) 4) (tm 12) (.const (.int .i64 4)))]) (.cond (tm 13)
 (.seq (.region [
 o1 14 (.mov (tm 5)),
 o1 15 (.fieldAddr 1 (tm 6)),
 o1 16 (.load (some 166) (tm 15)),
 o1 17 (.callV (.func 33) [(tm 16)]),
 o3 (.store 1 (tm 2) (tm 14)),
 o3 (.store 166 (tm 3) (tm 17)),
 o3 (.store 1 (tm 4) (.const (.bool true)))]) .ret)
 .skip)))
theorem znQ_ca0 : comp Tryz.prog znQ_ra0 = some znQ_a0 := by kernel_rfl
theorem znQ_cb0 : comp Tryz.prog znQ_rb0 = some znQ_b0 := by kernel_rfl
theorem znQ_na0 : noDefer znQ_ra0 = true := by kernel_rfl
theorem znQ_nb0 : noDefer znQ_rb0 = true := by kernel_rfl
def znQ_c : ACode :=
 (.seq (.region [
 o1 2 (.alloc 3 [(.int .i64 0)]),
 o1 3 (.alloc 31 ((.string ⟨⟨[]⟩⟩) :: ((.int .i64 0) :: ((.int .i64 0) :: (z32 ++ (z32 ++ (z32 ++ (z32 ++ ((.int .i64 0) :: (z32 ++ [(.slice none 0 0), (.slice none 0 0)])))))))))),
 o1 4 (.alloc 4 [(.bool false)])]) (.seq (.seq (.region [
 o1 7 (.mov (tm 0)),
 o1 8 (.callV (.func 40) [(tm 7)])]) (.block 0 (.rangeFunc (tm 8) [9, 10] znQ_ra0 znQ_rb0))) (.seq (.region [
 o1 18 (.build ((.string ⟨⟨[]⟩⟩) :: ((.int .i64 0) :: ((.int .i64 0) :: (z32 ++ (z32 ++ (z32 ++ (z32 ++ ((.int .i64 0) :: (z32 ++ [(.slice none 0 0), (.slice none 0 0)]))))))))) []),
 o3 (.store 1 (tm 2) (.const (.int .i64 (-1)))),
 o3 (.store 166 (tm 3) (tm 18)),
 o3 (.store 1 (tm 4) (.const (.bool false)))]) .ret)))
def znQ : AFunc := ⟨19, [(2, some none), (3, some (some 166)), (4, some none)], znQ_c, none⟩
theorem znQ_t0 : tableOf Tryz.prog 38 = some znQ := by kernel_rfl
theorem znQ_t : T0 38 = some znQ := withKept_t rfl (withTrue_t rfl znQ_t0)
theorem znQ_runs {v0 : Value} {h : Heap} {R : RP} {X : XP} (k : RunC Tryz.prog T0 znQ_c ⟨[v0, U, U, U, U, U, U, U, U, U, U, U, U, U, U, U, U, U, U], [], h, none⟩ (bodyQ Tryz.prog T0 [(2, some none), (3, some (some 166)), (4, some none)] R X)) :
 Runs Tryz.prog T0 (.fn 38) [v0] h R X := Runs.fn znQ_t rfl k
abbrev fn_zcdQ : FuncId := 39
def zcdQ_c : ACode :=
 (.seq (.region [
 o1 2 (.mov k0)]) (.seq (.block 0 (.seq (.region [
 o1 4 (.mov (tm 0)),
 o1 5 (.nilCheck (tm 4)),
 o1 6 (.fieldAddr 48 (tm 5)),
 o1 7 (.load none (tm 6)),
 o1 8 (.bin .geq (so (.binOp .geq 3 (tm 7) k0 3) 4) (tm 7) k0),
 o1 3 (.mov (tm 8))]) (.cond (tm 3)
 (.seq (.region [
 o1 2 (.mov (.const (.int .i64 3)))]) .ret)
 (.seq (.region [
 o1 10 (.mov (tm 0)),
 o1 11 (.callV (.func 35) [(tm 10), (.const (.int .i64 1))]),
 o1 12 (.lenSl (tm 11)),
 o1 13 (.bin .gtr (so (.binOp .gtr 3 (tm 12) k0 3) 4) (tm 12) k0),
 o1 9 (.mov (tm 13))]) (.cond (tm 9)
 (.seq (.region [
 o1 2 (.mov k0)]) .ret)
 (.seq (.region [
 o1 15 (.mov (tm 0)),
 o1 16 (.callV (.func 35) [(tm 15), (.const (.int .i64 2))]),
 o1 17 (.lenSl (tm 16)),
 o1 18 (.bin .gtr (so (.binOp .gtr 3 (tm 17) k0 3) 4) (tm 17) k0),
 o1 14 (.mov (tm 18))]) (.cond (tm 14)
 (.seq (.region [
 o1 2 (.mov (.const (.int .i64 1)))]) .ret)
 .skip))))))) (.seq (.region [
 o1 2 (.mov (.const (.int .i64 2)))]) .ret)))
def zcdQ : AFunc := ⟨19, [(2, none)], zcdQ_c, none⟩
theorem zcdQ_t0 : tableOf Tryz.prog 39 = some zcdQ := by kernel_rfl
theorem zcdQ_t : T0 39 = some zcdQ := withKept_t rfl (withTrue_t rfl zcdQ_t0)
theorem zcdQ_runs {v0 : Value} {h : Heap} {R : RP} {X : XP} (k : RunC Tryz.prog T0 zcdQ_c ⟨[v0, U, U, U, U, U, U, U, U, U, U, U, U, U, U, U, U, U, U], [], h, none⟩ (bodyQ Tryz.prog T0 [(2, none)] R X)) :
 Runs Tryz.prog T0 (.fn 39) [v0] h R X := Runs.fn zcdQ_t rfl k
abbrev fn_zsQ : FuncId := 40
def zsQ_c : ACode :=
 (.seq (.region [
 o1 1 (.box 39 (tm 0)),
 o1 2 (.mov (.const .nilFunc))]) (.seq (.region [
 o1 3 (.mkFunc (.func 49) [] [(tm 1)]),
 o1 2 (.mov (tm 3))]) .ret))
def zsQ : AFunc := ⟨4, [(2, none)], zsQ_c, none⟩
theorem zsQ_t0 : tableOf Tryz.prog 40 = some zsQ := by kernel_rfl
theorem zsQ_t : T0 40 = some zsQ := withKept_t rfl (withTrue_t rfl zsQ_t0)
theorem zsQ_runs {v0 : Value} {h : Heap} {R : RP} {X : XP} (k : RunC Tryz.prog T0 zsQ_c ⟨[v0, U, U, U], [], h, none⟩ (bodyQ Tryz.prog T0 [(2, none)] R X)) :
 Runs Tryz.prog T0 (.fn 40) [v0] h R X := Runs.fn zsQ_t rfl k
abbrev fn_zvQ : FuncId := 41
def zvQ_c : ACode :=
 (.seq (.region [
 o1 2 (.mov (.const (.bool false)))]) (.seq (.region [
 o1 3 (.mov (tm 0)),
 o1 4 (.eq .ptr false (so (.binOp .eql 39 (tm 3) (.const (.pointer none)) 39) 4) (tm 3) (.const (.pointer none))),
 o1 5 (.mov (tm 4)),
 o5 6 (.mov (tm 0)) 5,
 o5 7 (.nilCheck (tm 6)) 5,
 o5 8 (.fieldAddr 2704 (tm 7)) 5,
 o5 9 (.load none (tm 8)) 5,
 o5 10 (.raw (so (.unOp .not 4 (tm 9)) 4)) 5,
 o1 11 (.pick (tm 5) (.const (.bool true)) (tm 10)),
 o1 2 (.mov (tm 11))]) .ret))
def zvQ : AFunc := ⟨12, [(2, none)], zvQ_c, none⟩
theorem zvQ_t0 : tableOf Tryz.prog 41 = some zvQ := by kernel_rfl
theorem zvQ_t : T0 41 = some zvQ := withKept_t rfl (withTrue_t rfl zvQ_t0)
theorem zvQ_runs {v0 : Value} {h : Heap} {R : RP} {X : XP} (k : RunC Tryz.prog T0 zvQ_c ⟨[v0, U, U, U, U, U, U, U, U, U, U, U], [], h, none⟩ (bodyQ Tryz.prog T0 [(2, none)] R X)) :
 Runs Tryz.prog T0 (.fn 41) [v0] h R X := Runs.fn zvQ_t rfl k
abbrev fn_zzQ : FuncId := 42
def zzQ_ra0 : Code := (rangeParts (subCode ((Tryz.prog.funcs[42]?).bind (·.body)) [true, false, true, false])).1
def zzQ_rb0 : Code := (rangeParts (subCode ((Tryz.prog.funcs[42]?).bind (·.body)) [true, false, true, false])).2
def zzQ_a0 : ACode :=
 (.region [
 o1 6 (.alloc 66 ((.int .i64 0) :: ((.string ⟨⟨[]⟩⟩) :: ((.int .i64 0) :: ((.int .i64 0) :: (z32 ++ (z32 ++ (z32 ++ (z32 ++ ((.int .i64 0) :: (z32 ++ [(.slice none 0 0), (.slice none 0 0)]))))))))))),
 o3 (.store 167 (tm 6) (tm 9))])
def zzQ_b0 : ACode :=
 (.block 1 (.seq (.region [
 o1 10 (.load none (tm 3)),
 o1 11 (.load (some 167) (tm 6)),
 o1 12 (.callV (tm 10) [(tm 11)])]) (.cond (tm 12)
 (.seq (.region [
 o3 (.store 1 (tm 4) (.const (.bool true)))]) .ret)
 .skip)))
theorem zzQ_ca0 : comp Tryz.prog zzQ_ra0 = some zzQ_a0 := by kernel_rfl
theorem zzQ_cb0 : comp Tryz.prog zzQ_rb0 = some zzQ_b0 := by kernel_rfl
theorem zzQ_na0 : noDefer zzQ_ra0 = true := by kernel_rfl
theorem zzQ_nb0 : noDefer zzQ_rb0 = true := by kernel_rfl
def zzQ_c : ACode :=
 (.seq (.region [
 o1 3 (.box 84 (tm 1)),
 o1 4 (.alloc 4 [(.bool false)])]) (.seq (.seq (.region [
 o1 7 (.mov (tm 0))]) (.block 0 (.rangeFunc (tm 7) [8, 9] zzQ_ra0 zzQ_rb0))) (.seq (.region [
 o3 (.store 1 (tm 4) (.const (.bool false)))]) .ret)))
def zzQ : AFunc := ⟨13, [(4, some none)], zzQ_c, none⟩
theorem zzQ_t0 : tableOf Tryz.prog 42 = some zzQ := by kernel_rfl
theorem zzQ_t : T0 42 = some zzQ := withKept_t rfl (withTrue_t rfl zzQ_t0)
theorem zzQ_runs {v0 v1 : Value} {h : Heap} {R : RP} {X : XP} (k : RunC Tryz.prog T0 zzQ_c ⟨[v0, v1, U, U, U, U, U, U, U, U, U, U, U], [], h, none⟩ (bodyQ Tryz.prog T0 [(4, some none)] R X)) :
 Runs Tryz.prog T0 (.fn 42) [v0, v1] h R X := Runs.fn zzQ_t rfl k
abbrev fn_zxQ : FuncId := 43
def zxQ_c : ACode :=
 (.seq (.region [
 o1 1 (.box 64 (tm 0)),
 o1 2 (.mov (.const .nilFunc))]) (.seq (.region [
 o1 3 (.mkFunc (.func 50) [] [(tm 1)]),
 o1 2 (.mov (tm 3))]) .ret))
def zxQ : AFunc := ⟨4, [(2, none)], zxQ_c, none⟩
theorem zxQ_t0 : tableOf Tryz.prog 43 = some zxQ := by kernel_rfl
theorem zxQ_t : T0 43 = some zxQ := withKept_t rfl (withTrue_t rfl zxQ_t0)
theorem zxQ_runs {v0 : Value} {h : Heap} {R : RP} {X : XP} (k : RunC Tryz.prog T0 zxQ_c ⟨[v0, U, U, U], [], h, none⟩ (bodyQ Tryz.prog T0 [(2, none)] R X)) :
 Runs Tryz.prog T0 (.fn 43) [v0] h R X := Runs.fn zxQ_t rfl k
abbrev fn_zdbQ : FuncId := 44
def zdbQ_c : ACode :=
 (.seq (.region [
 o1 1 (.box 25 (tm 0)),
 o1 2 (.alloc 23 z32),
 o1 3 (.mov k0)]) (.seq (.region [
 o1 7 (.load (some 131) (tm 1)),
 o1 8 (.callV (.func 51) [(tm 7)]),
 o1 6 (.mov (tm 8)),
 o1 9 (.extract 0 (tm 6)),
 o1 10 (.extract 1 (tm 6)),
 o1 4 (.mov (tm 9)),
 o1 5 (.mov (tm 10))]) (.seq (.seq (.region [
 o1 11 (.mov (tm 5)),
 o1 12 (.bin .neq (so (.binOp .neq 40 (tm 11) k0 40) 4) (tm 11) k0)]) (.cond (tm 12)
 (.seq (.region [
 o1 13 (.build z32 []),
 o1 14 (.mov (tm 5)),
 o3 (.store 32 (tm 2) (tm 13)),
 o1 3 (.mov (tm 14))]) .ret)
 .skip)) (.seq (.region [
 o1 15 (.buildSlice 5 [(.int .u8 0)] 1 [(0, 1, (.const (.int .u8 72)))]),
 o1 16 (.mov (tm 4)),
 o1 17 (.append 5 1 1 [(.int .u8 0)] false (tm 15) (tm 16)),
 o1 18 (.callV (.func 52) [(tm 17)]),
 o3 (.store 32 (tm 2) (tm 18)),
 o1 3 (.mov k0)]) .ret))))
def zdbQ : AFunc := ⟨19, [(2, some (some 32)), (3, none)], zdbQ_c, none⟩
theorem zdbQ_t0 : tableOf Tryz.prog 44 = some zdbQ := by kernel_rfl
theorem zdbQ_t : T0 44 = some zdbQ := withKept_t rfl (withTrue_t rfl zdbQ_t0)
theorem zdbQ_runs {v0 : Value} {h : Heap} {R : RP} {X : XP} (k : RunC Tryz.prog T0 zdbQ_c ⟨[v0, U, U, U, U, U, U, U, U, U, U, U, U, U, U, U, U, U, U], [], h, none⟩ (bodyQ Tryz.prog T0 [(2, some (some 32)), (3, none)] R X)) :
 Runs Tryz.prog T0 (.fn 44) [v0] h R X := Runs.fn zdbQ_t rfl k
abbrev fn_zwcQ : FuncId := 45
def zwcQ_c : ACode :=
 (.seq (.region [
 o1 1 (.box 25 (tm 0)),
 o1 2 (.alloc 23 z32),
 o1 3 (.mov k0)]) (.seq (.region [
 o1 7 (.load (some 131) (tm 1)),
 o1 8 (.callV (.func 53) [(tm 7)]),
 o1 6 (.mov (tm 8)),
 o1 9 (.extract 0 (tm 6)),
 o1 10 (.extract 1 (tm 6)),
 o1 4 (.mov (tm 9)),
 o1 5 (.mov (tm 10))]) (.seq (.seq (.region [
 o1 11 (.mov (tm 5)),
 o1 12 (.bin .neq (so (.binOp .neq 40 (tm 11) k0 40) 4) (tm 11) k0)]) (.cond (tm 12)
 (.seq (.region [
 o1 13 (.build z32 []),
 o1 14 (.mov (tm 5)),
 o3 (.store 32 (tm 2) (tm 13)),
 o1 3 (.mov (tm 14))]) .ret)
 .skip)) (.seq (.region [
 o1 15 (.buildSlice 5 [(.int .u8 0)] 1 [(0, 1, (.const (.int .u8 72)))]),
 o1 16 (.mov (tm 4)),
 o1 17 (.append 5 1 1 [(.int .u8 0)] false (tm 15) (tm 16)),
 o1 18 (.callV (.func 54) [(tm 17)]),
 o3 (.store 32 (tm 2) (tm 18)),
 o1 3 (.mov k0)]) .ret))))
def zwcQ : AFunc := ⟨19, [(2, some (some 32)), (3, none)], zwcQ_c, none⟩
theorem zwcQ_t0 : tableOf Tryz.prog 45 = some zwcQ := by kernel_rfl
theorem zwcQ_t : T0 45 = some zwcQ := withKept_t rfl (withTrue_t rfl zwcQ_t0)
theorem zwcQ_runs {v0 : Value} {h : Heap} {R : RP} {X : XP} (k : RunC Tryz.prog T0 zwcQ_c ⟨[v0, U, U, U, U, U, U, U, U, U, U, U, U, U, U, U, U, U, U], [], h, none⟩ (bodyQ Tryz.prog T0 [(2, some (some 32)), (3, none)] R X)) :
 Runs Tryz.prog T0 (.fn 45) [v0] h R X := Runs.fn zwcQ_t rfl k
abbrev fn_zbcQ : FuncId := 46
def zbcQ_l0 : ACode :=
 (.seq (.seq (.region [
 o1 12 (.mov (tm 5)),
 o1 13 (.mov (tm 12)),
 o4 14 (.mov (tm 6)) 13,
 o4 15 (.mov (tm 0)) 13,
 o4 16 (.lenSl (tm 15)) 13,
 o4 17 (.bin .lss (so (.binOp .lss 3 (tm 14) (tm 16) 3) 4) (tm 14) (tm 16)) 13,
 o1 18 (.pick (tm 13) (tm 17) (.const (.bool false)))]) (.cond (tm 18)
 .skip
 (.exit 0))) (.seq (.block 1 (.regionD [
 o1 21 (.mov (tm 0)),
 o1 22 (.mov (tm 6)),
 o1 23 (.indexSl 2 (tm 21) (tm 22)),
 o1 24 (.load (some 2) (tm 23)),
 o1 25 (.mov (tm 1)),
 o1 26 (.mov (tm 6)),
 o1 27 (.indexSl 2 (tm 25) (tm 26)),
 o1 28 (.load (some 2) (tm 27)),
 o2 29 (.bin .eql (so (.binOp .eql 94 (tm 24) (tm 28) 94) 4) (tm 24) (tm 28)),
 o2 5 (.mov (tm 29))])) (.region [
 o1 19 (.mov (tm 6)),
 o1 20 (.bin .add (so (.binOp .add 3 (tm 19) (.const (.int .i64 1)) 3) 3) (tm 19) (.const (.int .i64 1))),
 o1 6 (.mov (tm 20))])))
def zbcQ_c : ACode :=
 (.seq (.region [
 o1 4 (.mov (.const (.bool false)))]) (.seq (.region [
 o1 7 (.mov (tm 0)),
 o1 8 (.lenSl (tm 7)),
 o1 9 (.mov (tm 1)),
 o1 10 (.lenSl (tm 9)),
 o1 11 (.bin .eql (so (.binOp .eql 3 (tm 8) (tm 10) 3) 4) (tm 8) (tm 10)),
 o1 5 (.mov (tm 11))]) (.seq (.seq (.region [
 o1 6 (.mov k0)]) (.block 0 (.loop zbcQ_l0))) (.seq (.region [
 o1 30 (.mov (tm 5)),
 o1 4 (.mov (tm 30))]) .ret))))
def zbcQ : AFunc := ⟨31, [(4, none)], zbcQ_c, none⟩
theorem zbcQ_t0 : tableOf Tryz.prog 46 = some zbcQ := by kernel_rfl
theorem zbcQ_t : T0 46 = some zbcQ := withKept_t rfl (withTrue_t rfl zbcQ_t0)
theorem zbcQ_runs {v0 v1 : Value} {h : Heap} {R : RP} {X : XP} (k : RunC Tryz.prog T0 zbcQ_c ⟨[v0, v1, U, U, U, U, U, U, U, U, U, U, U, U, U, U, U, U, U, U, U, U, U, U, U, U, U, U, U, U, U], [], h, none⟩ (bodyQ Tryz.prog T0 [(4, none)] R X)) :
 Runs Tryz.prog T0 (.fn 46) [v0, v1] h R X := Runs.fn zbcQ_t rfl k
abbrev zbcQ_l0_M : List Nat := [0, 0, 0, 0, 0, 2, 2, 0, 0, 0, 0, 0, 1, 1, 1, 1, 1, 1, 1, 1, 1, 1, 1, 1, 1, 1, 1, 1, 1, 1, 0]
abbrev fn_zjdQ : FuncId := 47
def zjdQ_c : ACode :=
 (.seq (.region [
 o1 2 (.mov (.const (.slice none 0 0)))]) (.seq (.seq (.region [
 o1 3 (.mov (tm 0)),
 o1 4 (.eq .slice false (so (.binOp .eql 26 (tm 3) (.const (.slice none 0 0)) 26) 4) (tm 3) (.const (.slice none 0 0)))]) (.cond (tm 4)
 (.seq (.region [
 o1 2 (.mov (.const (.slice none 0 0)))]) .ret)
 .skip)) (.seq (.region [
 o1 5 (.buildSlice 94 [] 0 []),
 o1 6 (.mov (tm 0)),
 o1 7 (.append 94 2 16 [(.int .i64 0), (.int .u64 0)] false (tm 5) (tm 6)),
 o1 2 (.mov (tm 7))]) .ret)))
def zjdQ : AFunc := ⟨8, [(2, none)], zjdQ_c, none⟩
theorem zjdQ_t0 : tableOf Tryz.prog 47 = some zjdQ := by kernel_rfl
theorem zjdQ_t : T0 47 = some zjdQ := withKept_t rfl (withTrue_t rfl zjdQ_t0)
theorem zjdQ_runs {v0 : Value} {h : Heap} {R : RP} {X : XP} (k : RunC Tryz.prog T0 zjdQ_c ⟨[v0, U, U, U, U, U, U, U], [], h, none⟩ (bodyQ Tryz.prog T0 [(2, none)] R X)) :
 Runs Tryz.prog T0 (.fn 47) [v0] h R X := Runs.fn zjdQ_t rfl k
abbrev fn_zidQ : FuncId := 48
def zidQ_c : ACode :=
 (.seq (.region [
 o1 2 (.mov (.const (.slice none 0 0)))]) (.seq (.seq (.region [
 o1 3 (.mov (tm 0)),
 o1 4 (.eq .slice false (so (.binOp .eql 29 (tm 3) (.const (.slice none 0 0)) 29) 4) (tm 3) (.const (.slice none 0 0)))]) (.cond (tm 4)
 (.seq (.region [
 o1 2 (.mov (.const (.slice none 0 0)))]) .ret)
 .skip)) (.seq (.region [
 o1 5 (.buildSlice 89 [] 0 []),
 o1 6 (.mov (tm 0)),
 o1 7 (.append 89 5 16 [(.int .u8 0), (.int .u8 0), (.int .u8 0), (.int .u8 0), (.int .i64 0)] false (tm 5) (tm 6)),
 o1 2 (.mov (tm 7))]) .ret)))
def zidQ : AFunc := ⟨8, [(2, none)], zidQ_c, none⟩
theorem zidQ_t0 : tableOf Tryz.prog 48 = some zidQ := by kernel_rfl
theorem zidQ_t : T0 48 = some zidQ := withKept_t rfl (withTrue_t rfl zidQ_t0)
theorem zidQ_runs {v0 : Value} {h : Heap} {R : RP} {X : XP} (k : RunC Tryz.prog T0 zidQ_c ⟨[v0, U, U, U, U, U, U, U], [], h, none⟩ (bodyQ Tryz.prog T0 [(2, none)] R X)) :
 Runs Tryz.prog T0 (.fn 48) [v0] h R X := Runs.fn zidQ_t rfl k
abbrev fn_ztQ : FuncId := 49
def ztQ_l0 : ACode :=
 (.seq (.region [
 o1 12 (.bin .lss (so (.binOp .lss 3 (tm 11) (.const (.int .i64 16)) 3) 0) (tm 11) (.const (.int .i64 16)))]) (.seq (.cond (tm 12)
 .skip
 (.exit 0)) (.seq (.block 1 (.seq (.region [
 o1 13 (.mov (tm 11)),
 o1 14 (.index 16 167 (some 167) (tm 10) (tm 11)),
 o1 4 (.alloc 66 ((.int .i64 0) :: ((.string ⟨⟨[]⟩⟩) :: ((.int .i64 0) :: ((.int .i64 0) :: (z32 ++ (z32 ++ (z32 ++ (z32 ++ ((.int .i64 0) :: (z32 ++ [(.slice none 0 0), (.slice none 0 0)]))))))))))),
 o1 3 (.mov (tm 13)),
 o3 (.store 167 (tm 4) (tm 14))]) (.seq (.region [
 o1 15 (.fieldAddr 0 (tm 4)),
 o1 16 (.load none (tm 15)),
 o1 17 (.bin .neq (so (.binOp .neq 64 (tm 16) k0 64) 4) (tm 16) k0),
 o1 18 (.mov (tm 17)),
 o4 19 (.mov (tm 0)) 18,
 o4 20 (.mov (tm 3)) 18,
 o4 21 (.load (some 167) (tm 4)) 18,
 o4 22 (.callV (tm 19) [(tm 20), (tm 21)]) 18,
 o4 23 (.raw (so (.unOp .not 4 (tm 22)) 4)) 18,
 o1 24 (.pick (tm 18) (tm 23) (.const (.bool false)))]) (.cond (tm 24)
 .ret
 .skip)))) (.region [
 o1 25 (.bin .add (so (.binOp .add 3 (tm 11) (.const (.int .i64 1)) 3) 3) (tm 11) (.const (.int .i64 1))),
 o1 11 (.mov (tm 25))]))))
def ztQ_c : ACode :=
 (.seq (.seq (.region [
 o1 5 (.load none (tm 1)),
 o1 6 (.callV (.func 41) [(tm 5)])]) (.cond (tm 6)
 .ret
 .skip)) (.seq (.region [
 o1 7 (.load none (tm 1)),
 o1 8 (.nilCheck (tm 7)),
 o1 9 (.fieldAddr 32 (tm 8)),
 o1 10 (.load (some 2672) (tm 9)),
 o1 11 (.mov k0)]) (.block 0 (.loop ztQ_l0))))
def ztQ : AFunc := ⟨26, [], ztQ_c, none⟩
theorem ztQ_t0 : tableOf Tryz.prog 49 = some ztQ := by kernel_rfl
theorem ztQ_t : T0 49 = some ztQ := withKept_t rfl (withTrue_t rfl ztQ_t0)
theorem ztQ_runs {v0 v1 : Value} {h : Heap} {R : RP} {X : XP} (k : RunC Tryz.prog T0 ztQ_c ⟨[v0, v1, U, U, U, U, U, U, U, U, U, U, U, U, U, U, U, U, U, U, U, U, U, U, U, U], [], h, none⟩ (bodyQ Tryz.prog T0 [] R X)) :
 Runs Tryz.prog T0 (.fn 49) [v0, v1] h R X := Runs.fn ztQ_t rfl k
abbrev ztQ_l0_M : List Nat := [0, 0, 0, 1, 1, 0, 0, 0, 0, 0, 0, 2, 1, 1, 1, 1, 1, 1, 1, 1, 1, 1, 1, 1, 1, 1]
abbrev fn_zyQ : FuncId := 50
def zyQ_c : ACode :=
 (.seq (.region [
 o1 2 (.box 66 (tm 0)),
 o1 3 (.mov (.const (.bool false)))]) (.seq (.region [
 o1 4 (.fieldAddr 0 (tm 2)),
 o1 5 (.load none (tm 4)),
 o1 6 (.load none (tm 1)),
 o1 7 (.bin .eql (so (.binOp .eql 64 (tm 5) (tm 6) 64) 4) (tm 5) (tm 6)),
 o1 3 (.mov (tm 7))]) .ret))
def zyQ : AFunc := ⟨8, [(3, none)], zyQ_c, none⟩
theorem zyQ_t0 : tableOf Tryz.prog 50 = some zyQ := by kernel_rfl
theorem zyQ_t : T0 50 = some zyQ := withKept_t rfl (withTrue_t rfl zyQ_t0)
theorem zyQ_runs {v0 v1 : Value} {h : Heap} {R : RP} {X : XP} (k : RunC Tryz.prog T0 zyQ_c ⟨[v0, v1, U, U, U, U, U, U], [], h, none⟩ (bodyQ Tryz.prog T0 [(3, none)] R X)) :
 Runs Tryz.prog T0 (.fn 50) [v0, v1] h R X := Runs.fn zyQ_t rfl k
abbrev fn_zcbQ : FuncId := 51
def zcbQ_l0 : ACode :=
 (.seq (.region [
 o1 32 (.bin .lss (so (.binOp .lss 3 (tm 31) (.const (.int .i64 4)) 3) 0) (tm 31) (.const (.int .i64 4)))]) (.seq (.cond (tm 32)
 .skip
 (.exit 0)) (.seq (.block 1 (.seq (.region [
 o1 33 (.index 4 1 none (tm 30) (tm 31)),
 o1 8 (.mov (tm 33))]) (.region [
 o1 34 (.mov (tm 5)),
 o1 35 (.mov (tm 8)),
 o1 36 (.nilCheck (tm 35)),
 o1 37 (.load (some 32) (tm 36)),
 o1 38 (.callV (.func 60) [(tm 34), (tm 37)])]))) (.region [
 o1 39 (.bin .add (so (.binOp .add 3 (tm 31) (.const (.int .i64 1)) 3) 3) (tm 31) (.const (.int .i64 1))),
 o1 31 (.mov (tm 39))]))))
def zcbQ_c : ACode :=
 (.seq (.region [
 o1 1 (.box 25 (tm 0)),
 o1 2 (.mov (.const (.slice none 0 0))),
 o1 3 (.mov k0)]) (.seq (.seq (.region [
 o1 9 (.load (some 131) (tm 1)),
 o1 10 (.callV (.func 55) [(tm 9)]),
 o1 4 (.mov (tm 10))]) (.seq (.region [
 o1 11 (.mov (tm 4)),
 o1 12 (.bin .neq (so (.binOp .neq 40 (tm 11) k0 40) 4) (tm 11) k0)]) (.cond (tm 12)
 (.seq (.region [
 o1 13 (.mov (tm 4)),
 o1 2 (.mov (.const (.slice none 0 0))),
 o1 3 (.mov (tm 13))]) .ret)
 .skip))) (.seq (.region [
 o1 15 (.callV (.func 56) [(.const (.int .i64 65536))]),
 o1 14 (.mov (tm 15)),
 o1 16 (.extract 0 (tm 14)),
 o1 17 (.extract 1 (tm 14)),
 o1 5 (.mov (tm 16)),
 o1 6 (.mov (tm 17))]) (.seq (.region [
 o1 18 (.mov (tm 5)),
 o1 19 (.fieldAddr 0 (tm 1)),
 o1 20 (.load none (tm 19)),
 o1 21 (.callV (.func 57) [(tm 18), (tm 20)])]) (.seq (.region [
 o1 22 (.mov (tm 5)),
 o1 23 (.fieldAddr 1 (tm 1)),
 o1 24 (.load none (tm 23)),
 o1 25 (.callV (.func 58) [(tm 22), (tm 24)])]) (.seq (.region [
 o1 26 (.mov (tm 5)),
 o1 27 (.fieldAddr 2 (tm 1)),
 o1 28 (.load none (tm 27)),
 o1 29 (.callV (.func 58) [(tm 26), (tm 28)])]) (.seq (.seq (.region [
 o1 30 (.callV (.func 59) [(tm 1)]),
 o1 31 (.mov k0)]) (.block 0 (.loop zcbQ_l0))) (.seq (.region [
 o1 40 (.mov (tm 5)),
 o1 41 (.callV (.func 61) [(tm 40)]),
 o1 42 (.extract 0 (tm 41)),
 o1 43 (.extract 1 (tm 41)),
 o1 2 (.mov (tm 42)),
 o1 3 (.mov (tm 43))]) .ret))))))))
def zcbQ : AFunc := ⟨44, [(2, none), (3, none)], zcbQ_c, none⟩
theorem zcbQ_t0 : tableOf Tryz.prog 51 = some zcbQ := by kernel_rfl
theorem zcbQ_t : T0 51 = some zcbQ := withKept_t rfl (withTrue_t rfl zcbQ_t0)
theorem zcbQ_runs {v0 : Value} {h : Heap} {R : RP} {X : XP} (k : RunC Tryz.prog T0 zcbQ_c ⟨[v0, U, U, U, U, U, U, U, U, U, U, U, U, U, U, U, U, U, U, U, U, U, U, U, U, U, U, U, U, U, U, U, U, U, U, U, U, U, U, U, U, U, U, U], [], h, none⟩ (bodyQ Tryz.prog T0 [(2, none), (3, none)] R X)) :
 Runs Tryz.prog T0 (.fn 51) [v0] h R X := Runs.fn zcbQ_t rfl k
abbrev zcbQ_l0_M : List Nat := [0, 0, 0, 0, 0, 0, 0, 0, 1, 0, 0, 0, 0, 0, 0, 0, 0, 0, 0, 0, 0, 0, 0, 0, 0, 0, 0, 0, 0, 0, 0, 2, 1, 1, 1, 1, 1, 1, 1, 1, 0, 0, 0, 0]
abbrev fn_zvcQ : FuncId := 53
def zvcQ_c : ACode :=
 (.seq (.region [
 o1 1 (.box 25 (tm 0)),
 o1 2 (.mov (.const (.slice none 0 0))),
 o1 3 (.mov k0)]) (.seq (.region [
 o1 7 (.load (some 131) (tm 1)),
 o1 8 (.callV (.func 65) [(tm 7)]),
 o1 4 (.mov (tm 8))]) (.seq (.seq (.region [
 o1 9 (.mov (tm 4)),
 o1 10 (.bin .neq (so (.binOp .neq 40 (tm 9) k0 40) 4) (tm 9) k0)]) (.cond (tm 10)
 (.seq (.region [
 o1 11 (.mov (tm 4)),
 o1 2 (.mov (.const (.slice none 0 0))),
 o1 3 (.mov (tm 11))]) .ret)
 .skip)) (.seq (.region [
 o1 13 (.callV (.func 66) [(.const (.int .i64 1048576))]),
 o1 12 (.mov (tm 13)),
 o1 14 (.extract 0 (tm 12)),
 o1 15 (.extract 1 (tm 12)),
 o1 5 (.mov (tm 14)),
 o1 6 (.mov (tm 15))]) (.seq (.region [
 o1 16 (.mov (tm 5)),
 o1 17 (.load (some 131) (tm 1)),
 o1 18 (.callV (.func 67) [(tm 16), (tm 17)])]) (.seq (.region [
 o1 19 (.mov (tm 5)),
 o1 20 (.callV (.func 68) [(tm 19)]),
 o1 21 (.extract 0 (tm 20)),
 o1 22 (.extract 1 (tm 20)),
 o1 2 (.mov (tm 21)),
 o1 3 (.mov (tm 22))]) .ret))))))
def zvcQ : AFunc := ⟨23, [(2, none), (3, none)], zvcQ_c, none⟩
theorem zvcQ_t0 : tableOf Tryz.prog 53 = some zvcQ := by kernel_rfl
theorem zvcQ_t : T0 53 = some zvcQ := withKept_t rfl (withTrue_t rfl zvcQ_t0)
theorem zvcQ_runs {v0 : Value} {h : Heap} {R : RP} {X : XP} (k : RunC Tryz.prog T0 zvcQ_c ⟨[v0, U, U, U, U, U, U, U, U, U, U, U, U, U, U, U, U, U, U, U, U, U, U], [], h, none⟩ (bodyQ Tryz.prog T0 [(2, none), (3, none)] R X)) :
 Runs Tryz.prog T0 (.fn 53) [v0] h R X := Runs.fn zvcQ_t rfl k
abbrev fn_zgcQ : FuncId := 54
def zgcQ_l0 : ACode :=
 (.seq (.seq (.region [
 o1 11 (.mov (tm 3)),
 o1 12 (.lenSl (tm 11)),
 o1 13 (.bin .eql (so (.binOp .eql 3 (tm 12) k0 3) 4) (tm 12) k0),
 o1 14 (.mov (tm 13)),
 o5 15 (.mov (tm 3)) 14,
 o5 16 (.lenSl (tm 15)) 14,
 o5 17 (.bin .rem (so (.binOp .rem 3 (tm 16) (.const (.int .i64 64)) 3) 3) (tm 16) (.const (.int .i64 64))) 14,
 o5 18 (.bin .neq (so (.binOp .neq 3 (tm 17) k0 3) 4) (tm 17) k0) 14,
 o1 19 (.pick (tm 14) (.const (.bool true)) (tm 18))]) (.cond (tm 19)
 .skip
 (.exit 0))) (.block 1 (.region [
 o1 20 (.mov (tm 3)),
 o1 21 (.buildSlice 5 [(.int .u8 0)] 1 [(0, 1, (.const (.int .u8 0)))]),
 o1 22 (.append 5 1 1 [(.int .u8 0)] false (tm 20) (tm 21)),
 o1 3 (.mov (tm 22))])))
def zgcQ_l1 : ACode :=
 (.seq (.seq (.region [
 o1 28 (.mov (tm 5)),
 o1 29 (.mov (tm 3)),
 o1 30 (.lenSl (tm 29)),
 o1 31 (.bin .lss (so (.binOp .lss 3 (tm 28) (tm 30) 3) 4) (tm 28) (tm 30))]) (.cond (tm 31)
 .skip
 (.exit 2))) (.seq (.block 3 (.regionD [
 o1 34 (.load (some 8) (tm 4)),
 o1 35 (.mov (tm 3)),
 o1 36 (.mov (tm 5)),
 o1 37 (.mov (tm 5)),
 o1 38 (.bin .add (so (.binOp .add 3 (tm 37) (.const (.int .i64 64)) 3) 3) (tm 37) (.const (.int .i64 64))),
 o1 39 (.sliceSl 1 (tm 35) (some (tm 36)) (some (tm 38)) none),
 o1 40 (.mov (tm 0)),
 o1 41 (.lenSl (tm 40)),
 o1 42 (.mov (tm 5)),
 o1 43 (.bin .add (so (.binOp .add 3 (tm 42) (.const (.int .i64 64)) 3) 3) (tm 42) (.const (.int .i64 64))),
 o1 44 (.raw (so (.call ⟨.builtin .min, #[(tm 41), (tm 43)], #[3, 3]⟩) 3)),
 o1 45 (.mov (tm 5)),
 o1 46 (.bin .add (so (.binOp .add 3 (tm 45) (.const (.int .i64 64)) 3) 3) (tm 45) (.const (.int .i64 64))),
 o1 47 (.mov (tm 3)),
 o1 48 (.lenSl (tm 47)),
 o1 49 (.bin .eql (so (.binOp .eql 3 (tm 46) (tm 48) 3) 4) (tm 46) (tm 48)),
 o2 50 (.callV (.func 70) [(tm 34), (tm 39), (tm 44), (tm 49)]),
 ⟨none, .store 8 (tm 4) (tm 50), none, [], true⟩])) (.region [
 o1 32 (.mov (tm 5)),
 o1 33 (.bin .add (so (.binOp .add 3 (tm 32) (.const (.int .i64 64)) 3) 3) (tm 32) (.const (.int .i64 64))),
 o1 5 (.mov (tm 33))])))
def zgcQ_l2 : ACode :=
 (.seq (.seq (.region [
 o1 51 (.mov (tm 7)),
 o1 52 (.bin .lss (so (.binOp .lss 3 (tm 51) (.const (.int .i64 32)) 3) 4) (tm 51) (.const (.int .i64 32)))]) (.cond (tm 52)
 .skip
 (.exit 4))) (.seq (.block 5 (.region [
 o1 55 (.mov (tm 7)),
 o1 56 (.mov (tm 7)),
 o1 57 (.bin .quo (so (.binOp .quo 3 (tm 56) (.const (.int .i64 4)) 3) 3) (tm 56) (.const (.int .i64 4))),
 o1 58 (.indexArr 8 1 (tm 4) (tm 57)),
 o1 59 (.load none (tm 58)),
 o1 60 (.mov (tm 7)),
 o1 61 (.bin .rem (so (.binOp .rem 3 (tm 60) (.const (.int .i64 4)) 3) 3) (tm 60) (.const (.int .i64 4))),
 o1 62 (.bin .mul (so (.binOp .mul 3 (.const (.int .i64 8)) (tm 61) 3) 3) (.const (.int .i64 8)) (tm 61)),
 o1 63 (.conv .u64 (so (.convert 3 124 (tm 62)) 124) (tm 62)),
 o1 64 (.bin .shr (so (.binOp .shr 120 (tm 59) (tm 63) 124) 120) (tm 59) (tm 63)),
 o1 65 (.conv .u8 (so (.convert 120 5 (tm 64)) 5) (tm 64)),
 o1 66 (.indexArr 32 1 (tm 6) (tm 55)),
 o3 (.store 1 (tm 66) (tm 65))])) (.region [
 o1 53 (.mov (tm 7)),
 o1 54 (.bin .add (so (.binOp .add 3 (tm 53) (.const (.int .i64 1)) 3) 3) (tm 53) (.const (.int .i64 1))),
 o1 7 (.mov (tm 54))])))
def zgcQ_c : ACode :=
 (.seq (.region [
 o1 2 (.alloc 23 z32)]) (.seq (.region [
 o1 8 (.buildSlice 5 [] 0 []),
 o1 9 (.mov (tm 0)),
 o1 10 (.append 5 1 1 [(.int .u8 0)] false (tm 8) (tm 9)),
 o1 3 (.mov (tm 10))]) (.seq (.block 0 (.loop zgcQ_l0)) (.seq (.region [
 o1 23 (.callV (.func 69) []),
 o1 4 (.alloc 121 [(.int .u32 0), (.int .u32 0), (.int .u32 0), (.int .u32 0), (.int .u32 0), (.int .u32 0), (.int .u32 0), (.int .u32 0)]),
 o3 (.store 8 (tm 4) (tm 23))]) (.seq (.region [
 o1 24 (.indexArr 8 1 (tm 4) k0),
 o1 25 (.load none (tm 24)),
 o1 26 (.bin .xor (so (.binOp .xor 120 (tm 25) (.const (.int .u32 16842784)) 120) 120) (tm 25) (.const (.int .u32 16842784))),
 o1 27 (.indexArr 8 1 (tm 4) k0),
 o3 (.store 1 (tm 27) (tm 26))]) (.seq (.seq (.region [
 o1 5 (.mov k0)]) (.block 2 (.loop zgcQ_l1))) (.seq (.region [
 o1 6 (.alloc 23 z32)]) (.seq (.seq (.region [
 o1 7 (.mov k0)]) (.block 4 (.loop zgcQ_l2))) (.seq (.region [
 o1 67 (.load (some 32) (tm 6)),
 o3 (.store 32 (tm 2) (tm 67))]) .ret)))))))))
def zgcQ : AFunc := ⟨68, [(2, some (some 32))], zgcQ_c, none⟩
theorem zgcQ_t0 : tableOf Tryz.prog 54 = some zgcQ := by kernel_rfl
theorem zgcQ_t : T0 54 = some zgcQ := withKept_t rfl (withTrue_t rfl zgcQ_t0)
theorem zgcQ_runs {v0 : Value} {h : Heap} {R : RP} {X : XP} (k : RunC Tryz.prog T0 zgcQ_c ⟨[v0, U, U, U, U, U, U, U, U, U, U, U, U, U, U, U, U, U, U, U, U, U, U, U, U, U, U, U, U, U, U, U, U, U, U, U, U, U, U, U, U, U, U, U, U, U, U, U, U, U, U, U, U, U, U, U, U, U, U, U, U, U, U, U, U, U, U, U], [], h, none⟩ (bodyQ Tryz.prog T0 [(2, some (some 32))] R X)) :
 Runs Tryz.prog T0 (.fn 54) [v0] h R X := Runs.fn zgcQ_t rfl k
abbrev zgcQ_l0_M : List Nat := [0, 0, 0, 2, 0, 0, 0, 0, 0, 0, 0, 1, 1, 1, 1, 1, 1, 1, 1, 1, 1, 1, 1, 0, 0, 0, 0, 0, 0, 0, 0, 0, 0, 0, 0, 0, 0, 0, 0, 0, 0, 0, 0, 0, 0, 0, 0, 0, 0, 0, 0, 0, 0, 0, 0, 0, 0, 0, 0, 0, 0, 0, 0, 0, 0, 0, 0, 0]
abbrev zgcQ_l1_M : List Nat := [0, 0, 0, 0, 0, 2, 0, 0, 0, 0, 0, 0, 0, 0, 0, 0, 0, 0, 0, 0, 0, 0, 0, 0, 0, 0, 0, 0, 1, 1, 1, 1, 1, 1, 1, 1, 1, 1, 1, 1, 1, 1, 1, 1, 1, 1, 1, 1, 1, 1, 1, 0, 0, 0, 0, 0, 0, 0, 0, 0, 0, 0, 0, 0, 0, 0, 0, 0]
abbrev zgcQ_l2_M : List Nat := [0, 0, 0, 0, 0, 0, 0, 2, 0, 0, 0, 0, 0, 0, 0, 0, 0, 0, 0, 0, 0, 0, 0, 0, 0, 0, 0, 0, 0, 0, 0, 0, 0, 0, 0, 0, 0, 0, 0, 0, 0, 0, 0, 0, 0, 0, 0, 0, 0, 0, 0, 1, 1, 1, 1, 1, 1, 1, 1, 1, 1, 1, 1, 1, 1, 1, 1, 0]
abbrev fn_zbbQ : FuncId := 55
def zbbQ_l0 : ACode :=
 (.seq (.region [
 o1 8 (.bin .lss (so (.binOp .lss 3 (tm 7) (tm 6) 3) 0) (tm 7) (tm 6))]) (.seq (.cond (tm 8)
 .skip
 (.exit 0)) (.seq (.block 1 (.seq (.region [
 o1 9 (.indexSl 2 (tm 5) (tm 7)),
 o1 10 (.load (some 2) (tm 9)),
 o1 4 (.alloc 129 [.nilFunc, (.int .i64 0)]),
 o3 (.store 2 (tm 4) (tm 10))]) (.seq (.region [
 o1 11 (.fieldAddr 0 (tm 4)),
 o1 12 (.load none (tm 11)),
 o1 13 (.load (some 131) (tm 1)),
 o1 14 (.callV (tm 12) [(tm 13)]),
 o1 15 (.raw (so (.unOp .not 4 (tm 14)) 4))]) (.cond (tm 15)
 (.seq (.region [
 o1 16 (.fieldAddr 1 (tm 4)),
 o1 17 (.load none (tm 16)),
 o1 2 (.mov (tm 17))]) .ret)
 .skip)))) (.region [
 o1 18 (.bin .add (so (.binOp .add 3 (tm 7) (.const (.int .i64 1)) 3) 3) (tm 7) (.const (.int .i64 1))),
 o1 7 (.mov (tm 18))]))))
def zbbQ_c : ACode :=
 (.seq (.region [
 o1 1 (.box 25 (tm 0)),
 o1 2 (.mov k0)]) (.seq (.seq (.region [
 o1 5 (.callV (.func 71) []),
 o1 6 (.lenSl (tm 5)),
 o1 7 (.mov k0)]) (.block 0 (.loop zbbQ_l0))) (.seq (.region [
 o1 2 (.mov k0)]) .ret)))
def zbbQ : AFunc := ⟨19, [(2, none)], zbbQ_c, none⟩
theorem zbbQ_t0 : tableOf Tryz.prog 55 = some zbbQ := by kernel_rfl
theorem zbbQ_t : T0 55 = some zbbQ := withKept_t rfl (withTrue_t rfl zbbQ_t0)
theorem zbbQ_runs {v0 : Value} {h : Heap} {R : RP} {X : XP} (k : RunC Tryz.prog T0 zbbQ_c ⟨[v0, U, U, U, U, U, U, U, U, U, U, U, U, U, U, U, U, U, U], [], h, none⟩ (bodyQ Tryz.prog T0 [(2, none)] R X)) :
 Runs Tryz.prog T0 (.fn 55) [v0] h R X := Runs.fn zbbQ_t rfl k
abbrev zbbQ_l0_M : List Nat := [0, 0, 1, 0, 1, 0, 0, 2, 1, 1, 1, 1, 1, 1, 1, 1, 1, 1, 1]
abbrev fn_zqdQ : FuncId := 56
def zqdQ_c : ACode :=
 (.seq (.region [
 o1 2 (.mov (.const (.pointer none))),
 o1 3 (.mov k0)]) (.seq (.seq (.region [
 o1 4 (.mov (tm 0)),
 o1 5 (.bin .lss (so (.binOp .lss 3 (tm 4) k0 3) 4) (tm 4) k0),
 o1 6 (.mov (tm 5)),
 o5 7 (.mov (tm 0)) 6,
 o5 8 (.bin .gtr (so (.binOp .gtr 3 (tm 7) (.const (.int .i64 1048576)) 3) 4) (tm 7) (.const (.int .i64 1048576))) 6,
 o1 9 (.pick (tm 6) (.const (.bool true)) (tm 8))]) (.cond (tm 9)
 (.seq (.region [
 o1 2 (.mov (.const (.pointer none))),
 o1 3 (.mov (.const (.int .i64 3)))]) .ret)
 .skip)) (.seq (.region [
 o1 10 (.mov (tm 0)),
 o1 11 (.build [(.int .i64 0), (.slice none 0 0), (.int .i64 0), (.bool false)] [(0, 1, (tm 10)), (3, 1, (.const (.bool true)))]),
 o1 12 (.box 131 (tm 11)),
 o1 2 (.mov (tm 12)),
 o1 3 (.mov k0)]) .ret)))
def zqdQ : AFunc := ⟨13, [(2, none), (3, none)], zqdQ_c, none⟩
theorem zqdQ_t0 : tableOf Tryz.prog 56 = some zqdQ := by kernel_rfl
theorem zqdQ_t : T0 56 = some zqdQ := withKept_t rfl (withTrue_t rfl zqdQ_t0)
theorem zqdQ_runs {v0 : Value} {h : Heap} {R : RP} {X : XP} (k : RunC Tryz.prog T0 zqdQ_c ⟨[v0, U, U, U, U, U, U, U, U, U, U, U, U], [], h, none⟩ (bodyQ Tryz.prog T0 [(2, none), (3, none)] R X)) :
 Runs Tryz.prog T0 (.fn 56) [v0] h R X := Runs.fn zqdQ_t rfl k
abbrev fn_zvdQ : FuncId := 57
def zvdQ_c : ACode :=
 (.seq (.region [
 o1 4 (.mov k0)]) (.seq (.region [
 o1 5 (.mov (tm 0)),
 o1 6 (.mov (tm 1)),
 o1 7 (.strToBytes 5 (tm 6)),
 o1 8 (.callV (.func 72) [(tm 5), (tm 7)]),
 o1 4 (.mov (tm 8))]) .ret))
def zvdQ : AFunc := ⟨9, [(4, none)], zvdQ_c, none⟩
theorem zvdQ_t0 : tableOf Tryz.prog 57 = some zvdQ := by kernel_rfl
theorem zvdQ_t : T0 57 = some zvdQ := withKept_t rfl (withTrue_t rfl zvdQ_t0)
theorem zvdQ_runs {v0 v1 : Value} {h : Heap} {R : RP} {X : XP} (k : RunC Tryz.prog T0 zvdQ_c ⟨[v0, v1, U, U, U, U, U, U, U], [], h, none⟩ (bodyQ Tryz.prog T0 [(4, none)] R X)) :
 Runs Tryz.prog T0 (.fn 57) [v0, v1] h R X := Runs.fn zvdQ_t rfl k
abbrev fn_zudQ : FuncId := 58
def zudQ_c : ACode :=
 (.seq (.region [
 o1 4 (.mov k0)]) (.seq (.region [
 o1 5 (.mov (tm 0)),
 o1 6 (.mov (tm 1)),
 o1 7 (.bin .geq (so (.binOp .geq 3 (tm 6) k0 3) 4) (tm 6) k0),
 o1 8 (.mov (tm 1)),
 o1 9 (.raw (so (.call ⟨.builtin .max, #[(tm 8), k0], #[3, 3]⟩) 3)),
 o1 10 (.callV (.func 74) [(tm 9)]),
 o1 11 (.buildSlice 97 [(.slice none 0 0)] 1 [(0, 1, (tm 10))]),
 o1 12 (.callV (.func 73) [(tm 5), (tm 7), (tm 11)]),
 o1 4 (.mov (tm 12))]) .ret))
def zudQ : AFunc := ⟨13, [(4, none)], zudQ_c, none⟩
theorem zudQ_t0 : tableOf Tryz.prog 58 = some zudQ := by kernel_rfl
theorem zudQ_t : T0 58 = some zudQ := withKept_t rfl (withTrue_t rfl zudQ_t0)
theorem zudQ_runs {v0 v1 : Value} {h : Heap} {R : RP} {X : XP} (k : RunC Tryz.prog T0 zudQ_c ⟨[v0, v1, U, U, U, U, U, U, U, U, U, U, U], [], h, none⟩ (bodyQ Tryz.prog T0 [(4, none)] R X)) :
 Runs Tryz.prog T0 (.fn 58) [v0, v1] h R X := Runs.fn zudQ_t rfl k
abbrev fn_zgbQ : FuncId := 59
def zgbQ_c : ACode :=
 (.seq (.region [
 o1 2 (.alloc 107 [(.pointer none), (.pointer none), (.pointer none), (.pointer none)])]) (.seq (.regionD [
 o1 3 (.mov (tm 0)),
 o1 4 (.nilCheck (tm 3)),
 o1 5 (.fieldAddr 3 (tm 4)),
 o1 6 (.mov (tm 0)),
 o1 7 (.nilCheck (tm 6)),
 o1 8 (.fieldAddr 35 (tm 7)),
 o1 9 (.mov (tm 0)),
 o1 10 (.nilCheck (tm 9)),
 o1 11 (.fieldAddr 67 (tm 10)),
 o1 12 (.mov (tm 0)),
 o1 13 (.nilCheck (tm 12)),
 o1 14 (.fieldAddr 99 (tm 13)),
 o2 15 (.build [(.pointer none), (.pointer none), (.pointer none), (.pointer none)] [(0, 1, (tm 5)), (1, 1, (tm 8)), (2, 1, (tm 11)), (3, 1, (tm 14))]),
 ⟨none, .store 4 (tm 2) (tm 15), none, [], true⟩]) .ret))
def zgbQ : AFunc := ⟨16, [(2, some (some 4))], zgbQ_c, none⟩
theorem zgbQ_t0 : tableOf Tryz.prog 59 = some zgbQ := by kernel_rfl
theorem zgbQ_t : T0 59 = some zgbQ := withKept_t rfl (withTrue_t rfl zgbQ_t0)
theorem zgbQ_runs {v0 : Value} {h : Heap} {R : RP} {X : XP} (k : RunC Tryz.prog T0 zgbQ_c ⟨[v0, U, U, U, U, U, U, U, U, U, U, U, U, U, U, U], [], h, none⟩ (bodyQ Tryz.prog T0 [(2, some (some 4))] R X)) :
 Runs Tryz.prog T0 (.fn 59) [v0] h R X := Runs.fn zgbQ_t rfl k
abbrev fn_ztdQ : FuncId := 60
def ztdQ_c : ACode :=
 (.seq (.region [
 o1 3 (.box 23 (tm 1)),
 o1 4 (.mov k0)]) (.seq (.region [
 o1 5 (.mov (tm 0)),
 o1 6 (.sliceArr 32 1 (tm 3) none none),
 o1 7 (.buildSlice 97 [(.slice none 0 0)] 1 [(0, 1, (tm 6))]),
 o1 8 (.callV (.func 73) [(tm 5), (.const (.bool true)), (tm 7)]),
 o1 4 (.mov (tm 8))]) .ret))
def ztdQ : AFunc := ⟨9, [(4, none)], ztdQ_c, none⟩
theorem ztdQ_t0 : tableOf Tryz.prog 60 = some ztdQ := by kernel_rfl
theorem ztdQ_t : T0 60 = some ztdQ := withKept_t rfl (withTrue_t rfl ztdQ_t0)
theorem ztdQ_runs {v0 v1 : Value} {h : Heap} {R : RP} {X : XP} (k : RunC Tryz.prog T0 ztdQ_c ⟨[v0, v1, U, U, U, U, U, U, U], [], h, none⟩ (bodyQ Tryz.prog T0 [(4, none)] R X)) :
 Runs Tryz.prog T0 (.fn 60) [v0, v1] h R X := Runs.fn ztdQ_t rfl k
abbrev fn_zsdQ : FuncId := 61
def zsdQ_c : ACode :=
 (.seq (.region [
 o1 2 (.mov (.const (.slice none 0 0))),
 o1 3 (.mov k0)]) (.seq (.block 0 (.seq (.region [
 o1 5 (.mov (tm 0)),
 o1 6 (.eq .ptr false (so (.binOp .eql 102 (tm 5) (.const (.pointer none)) 102) 4) (tm 5) (.const (.pointer none))),
 o1 7 (.mov (tm 6)),
 o5 8 (.mov (tm 0)) 7,
 o5 9 (.nilCheck (tm 8)) 7,
 o5 10 (.fieldAddr 3 (tm 9)) 7,
 o5 11 (.load none (tm 10)) 7,
 o5 12 (.raw (so (.unOp .not 4 (tm 11)) 4)) 7,
 o1 13 (.pick (tm 7) (.const (.bool true)) (tm 12)),
 o1 4 (.mov (tm 13))]) (.cond (tm 4)
 (.seq (.region [
 o1 2 (.mov (.const (.slice none 0 0))),
 o1 3 (.mov (.const (.int .i64 1)))]) .ret)
 (.seq (.region [
 o1 15 (.mov (tm 0)),
 o1 16 (.nilCheck (tm 15)),
 o1 17 (.fieldAddr 2 (tm 16)),
 o1 18 (.load none (tm 17)),
 o1 19 (.bin .neq (so (.binOp .neq 40 (tm 18) k0 40) 4) (tm 18) k0),
 o1 14 (.mov (tm 19))]) (.cond (tm 14)
 (.seq (.regionD [
 o1 20 (.mov (tm 0)),
 o1 21 (.nilCheck (tm 20)),
 o1 22 (.fieldAddr 2 (tm 21)),
 o1 23 (.load none (tm 22)),
 o1 2 (.mov (.const (.slice none 0 0))),
 o2 3 (.mov (tm 23))]) .ret)
 .skip))))) (.seq (.region [
 o1 24 (.mov (tm 0)),
 o1 25 (.nilCheck (tm 24)),
 o1 26 (.fieldAddr 1 (tm 25)),
 o1 27 (.load none (tm 26)),
 o1 28 (.callV (.func 75) [(tm 27)]),
 o1 2 (.mov (tm 28)),
 o1 3 (.mov k0)]) .ret)))
def zsdQ : AFunc := ⟨29, [(2, none), (3, none)], zsdQ_c, none⟩
theorem zsdQ_t0 : tableOf Tryz.prog 61 = some zsdQ := by kernel_rfl
theorem zsdQ_t : T0 61 = some zsdQ := withKept_t rfl (withTrue_t rfl zsdQ_t0)
theorem zsdQ_runs {v0 : Value} {h : Heap} {R : RP} {X : XP} (k : RunC Tryz.prog T0 zsdQ_c ⟨[v0, U, U, U, U, U, U, U, U, U, U, U, U, U, U, U, U, U, U, U, U, U, U, U, U, U, U, U, U], [], h, none⟩ (bodyQ Tryz.prog T0 [(2, none), (3, none)] R X)) :
 Runs Tryz.prog T0 (.fn 61) [v0] h R X := Runs.fn zsdQ_t rfl k
abbrev fn_zucQ : FuncId := 65
def zucQ_c : ACode :=
 (.seq (.region [
 o1 1 (.box 25 (tm 0)),
 o1 2 (.mov k0)]) (.seq (.block 0 (.seq (.region [
 o1 4 (.fieldAddr 0 (tm 1)),
 o1 5 (.load none (tm 4)),
 o1 6 (.callV (.func 81) [(tm 5)]),
 o1 7 (.raw (so (.unOp .not 4 (tm 6)) 4)),
 o1 3 (.mov (tm 7))]) (.cond (tm 3)
 (.seq (.region [
 o1 2 (.mov (.const (.int .i64 5)))]) .ret)
 (.seq (.region [
 o1 9 (.fieldAddr 1 (tm 1)),
 o1 10 (.load none (tm 9)),
 o1 11 (.bin .lss (so (.binOp .lss 3 (tm 10) (.const (.int .i64 1)) 3) 4) (tm 10) (.const (.int .i64 1))),
 o1 12 (.mov (tm 11)),
 o5 13 (.fieldAddr 1 (tm 1)) 12,
 o5 14 (.load none (tm 13)) 12,
 o5 15 (.bin .gtr (so (.binOp .gtr 3 (tm 14) (.const (.int .i64 1073741824)) 3) 4) (tm 14) (.const (.int .i64 1073741824))) 12,
 o1 16 (.pick (tm 12) (.const (.bool true)) (tm 15)),
 o1 17 (.mov (tm 16)),
 o5 18 (.fieldAddr 2 (tm 1)) 17,
 o5 19 (.load none (tm 18)) 17,
 o5 20 (.bin .lss (so (.binOp .lss 3 (tm 19) k0 3) 4) (tm 19) k0) 17,
 o1 21 (.pick (tm 17) (.const (.bool true)) (tm 20)),
 o1 22 (.mov (tm 21)),
 o5 23 (.fieldAddr 2 (tm 1)) 22,
 o5 24 (.load none (tm 23)) 22,
 o5 25 (.bin .gtr (so (.binOp .gtr 3 (tm 24) (.const (.int .i64 1099511627776)) 3) 4) (tm 24) (.const (.int .i64 1099511627776))) 22,
 o1 26 (.pick (tm 22) (.const (.bool true)) (tm 25)),
 o1 8 (.mov (tm 26))]) (.cond (tm 8)
 (.seq (.region [
 o1 2 (.mov (.const (.int .i64 3)))]) .ret)
 .skip))))) (.seq (.region [
 o1 2 (.mov k0)]) .ret)))
def zucQ : AFunc := ⟨27, [(2, none)], zucQ_c, none⟩
theorem zucQ_t0 : tableOf Tryz.prog 65 = some zucQ := by kernel_rfl
theorem zucQ_t : T0 65 = some zucQ := withKept_t rfl (withTrue_t rfl zucQ_t0)
theorem zucQ_runs {v0 : Value} {h : Heap} {R : RP} {X : XP} (k : RunC Tryz.prog T0 zucQ_c ⟨[v0, U, U, U, U, U, U, U, U, U, U, U, U, U, U, U, U, U, U, U, U, U, U, U, U, U, U], [], h, none⟩ (bodyQ Tryz.prog T0 [(2, none)] R X)) :
 Runs Tryz.prog T0 (.fn 65) [v0] h R X := Runs.fn zucQ_t rfl k
abbrev fn_zncQ : FuncId := 66
def zncQ_c : ACode :=
 (.seq (.region [
 o1 2 (.mov (.const (.pointer none))),
 o1 3 (.mov k0)]) (.seq (.seq (.region [
 o1 4 (.mov (tm 0)),
 o1 5 (.bin .lss (so (.binOp .lss 3 (tm 4) k0 3) 4) (tm 4) k0),
 o1 6 (.mov (tm 5)),
 o5 7 (.mov (tm 0)) 6,
 o5 8 (.bin .gtr (so (.binOp .gtr 3 (tm 7) (.const (.int .i64 1048576)) 3) 4) (tm 7) (.const (.int .i64 1048576))) 6,
 o1 9 (.pick (tm 6) (.const (.bool true)) (tm 8))]) (.cond (tm 9)
 (.seq (.region [
 o1 2 (.mov (.const (.pointer none))),
 o1 3 (.mov (.const (.int .i64 3)))]) .ret)
 .skip)) (.seq (.region [
 o1 10 (.mov (tm 0)),
 o1 11 (.build [(.int .i64 0), (.slice none 0 0), (.int .i64 0)] [(0, 1, (tm 10))]),
 o1 12 (.box 146 (tm 11)),
 o1 2 (.mov (tm 12)),
 o1 3 (.mov k0)]) .ret)))
def zncQ : AFunc := ⟨13, [(2, none), (3, none)], zncQ_c, none⟩
theorem zncQ_t0 : tableOf Tryz.prog 66 = some zncQ := by kernel_rfl
theorem zncQ_t : T0 66 = some zncQ := withKept_t rfl (withTrue_t rfl zncQ_t0)
theorem zncQ_runs {v0 : Value} {h : Heap} {R : RP} {X : XP} (k : RunC Tryz.prog T0 zncQ_c ⟨[v0, U, U, U, U, U, U, U, U, U, U, U, U], [], h, none⟩ (bodyQ Tryz.prog T0 [(2, none), (3, none)] R X)) :
 Runs Tryz.prog T0 (.fn 66) [v0] h R X := Runs.fn zncQ_t rfl k
abbrev fn_zycQ : FuncId := 67
def zycQ_c : ACode :=
 (.seq (.region [
 o1 3 (.box 25 (tm 1))]) (.seq (.region [
 o1 4 (.mov (tm 0)),
 o1 5 (.fieldAddr 0 (tm 3)),
 o1 6 (.load none (tm 5)),
 o1 7 (.callV (.func 82) [(tm 4), (tm 6)])]) (.seq (.region [
 o1 8 (.mov (tm 0)),
 o1 9 (.fieldAddr 1 (tm 3)),
 o1 10 (.load none (tm 9)),
 o1 11 (.callV (.func 83) [(tm 8), (tm 10)])]) (.seq (.region [
 o1 12 (.mov (tm 0)),
 o1 13 (.fieldAddr 2 (tm 3)),
 o1 14 (.load none (tm 13)),
 o1 15 (.callV (.func 83) [(tm 12), (tm 14)])]) (.seq (.region [
 o1 16 (.mov (tm 0)),
 o1 17 (.fieldAddr 3 (tm 3)),
 o1 18 (.load (some 32) (tm 17)),
 o1 19 (.callV (.func 84) [(tm 16), (tm 18)])]) (.seq (.region [
 o1 20 (.mov (tm 0)),
 o1 21 (.fieldAddr 35 (tm 3)),
 o1 22 (.load (some 32) (tm 21)),
 o1 23 (.callV (.func 84) [(tm 20), (tm 22)])]) (.seq (.region [
 o1 24 (.mov (tm 0)),
 o1 25 (.fieldAddr 67 (tm 3)),
 o1 26 (.load (some 32) (tm 25)),
 o1 27 (.callV (.func 84) [(tm 24), (tm 26)])]) (.region [
 o1 28 (.mov (tm 0)),
 o1 29 (.fieldAddr 99 (tm 3)),
 o1 30 (.load (some 32) (tm 29)),
 o1 31 (.callV (.func 84) [(tm 28), (tm 30)])]))))))))
def zycQ : AFunc := ⟨32, [], zycQ_c, none⟩
theorem zycQ_t0 : tableOf Tryz.prog 67 = some zycQ := by kernel_rfl
theorem zycQ_t : T0 67 = some zycQ := withKept_t rfl (withTrue_t rfl zycQ_t0)
theorem zycQ_runs {v0 v1 : Value} {h : Heap} {R : RP} {X : XP} (k : RunC Tryz.prog T0 zycQ_c ⟨[v0, v1, U, U, U, U, U, U, U, U, U, U, U, U, U, U, U, U, U, U, U, U, U, U, U, U, U, U, U, U, U, U], [], h, none⟩ (bodyQ Tryz.prog T0 [] R X)) :
 Runs Tryz.prog T0 (.fn 67) [v0, v1] h R X := Runs.fn zycQ_t rfl k
abbrev fn_zpcQ : FuncId := 68
def zpcQ_c : ACode :=
 (.seq (.region [
 o1 2 (.mov (.const (.slice none 0 0))),
 o1 3 (.mov k0)]) (.seq (.seq (.region [
 o1 4 (.mov (tm 0)),
 o1 5 (.nilCheck (tm 4)),
 o1 6 (.fieldAddr 2 (tm 5)),
 o1 7 (.load none (tm 6)),
 o1 8 (.bin .neq (so (.binOp .neq 40 (tm 7) k0 40) 4) (tm 7) k0)]) (.cond (tm 8)
 (.seq (.regionD [
 o1 9 (.mov (tm 0)),
 o1 10 (.nilCheck (tm 9)),
 o1 11 (.fieldAddr 2 (tm 10)),
 o1 12 (.load none (tm 11)),
 o1 2 (.mov (.const (.slice none 0 0))),
 o2 3 (.mov (tm 12))]) .ret)
 .skip)) (.seq (.region [
 o1 13 (.buildSlice 5 [] 0 []),
 o1 14 (.mov (tm 0)),
 o1 15 (.nilCheck (tm 14)),
 o1 16 (.fieldAddr 1 (tm 15)),
 o1 17 (.load none (tm 16)),
 o1 18 (.append 5 1 1 [(.int .u8 0)] false (tm 13) (tm 17)),
 o1 2 (.mov (tm 18)),
 o1 3 (.mov k0)]) .ret)))
def zpcQ : AFunc := ⟨19, [(2, none), (3, none)], zpcQ_c, none⟩
theorem zpcQ_t0 : tableOf Tryz.prog 68 = some zpcQ := by kernel_rfl
theorem zpcQ_t : T0 68 = some zpcQ := withKept_t rfl (withTrue_t rfl zpcQ_t0)
theorem zpcQ_runs {v0 : Value} {h : Heap} {R : RP} {X : XP} (k : RunC Tryz.prog T0 zpcQ_c ⟨[v0, U, U, U, U, U, U, U, U, U, U, U, U, U, U, U, U, U, U], [], h, none⟩ (bodyQ Tryz.prog T0 [(2, none), (3, none)] R X)) :
 Runs Tryz.prog T0 (.fn 68) [v0] h R X := Runs.fn zpcQ_t rfl k
abbrev fn_zhcQ : FuncId := 69
def zhcQ_c : ACode :=
 (.seq (.region [
 o1 0 (.alloc 121 [(.int .u32 0), (.int .u32 0), (.int .u32 0), (.int .u32 0), (.int .u32 0), (.int .u32 0), (.int .u32 0), (.int .u32 0)])]) (.seq (.region [
 o1 1 (.build [(.int .u32 0), (.int .u32 0), (.int .u32 0), (.int .u32 0), (.int .u32 0), (.int .u32 0), (.int .u32 0), (.int .u32 0)] [(0, 1, (.const (.int .u32 1779033703))), (1, 1, (.const (.int .u32 3144134277))), (2, 1, (.const (.int .u32 1013904242))), (3, 1, (.const (.int .u32 2773480762))), (4, 1, (.const (.int .u32 1359893119))), (5, 1, (.const (.int .u32 2600822924))), (6, 1, (.const (.int .u32 528734635))), (7, 1, (.const (.int .u32 1541459225)))]),
 o3 (.store 8 (tm 0) (tm 1))]) .ret))
def zhcQ : AFunc := ⟨2, [(0, some (some 8))], zhcQ_c, none⟩
theorem zhcQ_t0 : tableOf Tryz.prog 69 = some zhcQ := by kernel_rfl
theorem zhcQ_t : T0 69 = some zhcQ := withKept_t rfl (withTrue_t rfl zhcQ_t0)
theorem zhcQ_runs {v : Value} {h : Heap} {R : RP} {X : XP} (k : RunC Tryz.prog T0 zhcQ_c ⟨[undef, U], [], h, none⟩ (bodyQ Tryz.prog T0 [(0, some (some 8))] R X)) :
 Runs Tryz.prog T0 (.fn 69) [] h R X := Runs.fn zhcQ_t rfl k
abbrev fn_zicQ : FuncId := 70
def zicQ_l0 : ACode :=
 (.seq (.seq (.region [
 o1 18 (.mov (tm 10)),
 o1 19 (.bin .lss (so (.binOp .lss 3 (tm 18) (.const (.int .i64 16)) 3) 4) (tm 18) (.const (.int .i64 16)))]) (.cond (tm 19)
 .skip
 (.exit 0))) (.seq (.block 1 (.regionD [
 o1 22 (.mov (tm 10)),
 o1 23 (.mov (tm 1)),
 o1 24 (.mov (tm 10)),
 o1 25 (.bin .mul (so (.binOp .mul 3 (.const (.int .i64 4)) (tm 24) 3) 3) (.const (.int .i64 4)) (tm 24)),
 o1 26 (.indexSl 1 (tm 23) (tm 25)),
 o1 27 (.load none (tm 26)),
 o1 28 (.conv .u32 (so (.convert 5 120 (tm 27)) 120) (tm 27)),
 o1 29 (.mov (tm 1)),
 o1 30 (.mov (tm 10)),
 o1 31 (.bin .mul (so (.binOp .mul 3 (.const (.int .i64 4)) (tm 30) 3) 3) (.const (.int .i64 4)) (tm 30)),
 o1 32 (.bin .add (so (.binOp .add 3 (tm 31) (.const (.int .i64 1)) 3) 3) (tm 31) (.const (.int .i64 1))),
 o1 33 (.indexSl 1 (tm 29) (tm 32)),
 o1 34 (.load none (tm 33)),
 o1 35 (.conv .u32 (so (.convert 5 120 (tm 34)) 120) (tm 34)),
 o1 36 (.bin .shl (so (.binOp .shl 120 (tm 35) (.const (.int .u64 8)) 124) 120) (tm 35) (.const (.int .u64 8))),
 o1 37 (.bin .or (so (.binOp .or 120 (tm 28) (tm 36) 120) 120) (tm 28) (tm 36)),
 o1 38 (.mov (tm 1)),
 o1 39 (.mov (tm 10)),
 o1 40 (.bin .mul (so (.binOp .mul 3 (.const (.int .i64 4)) (tm 39) 3) 3) (.const (.int .i64 4)) (tm 39)),
 o1 41 (.bin .add (so (.binOp .add 3 (tm 40) (.const (.int .i64 2)) 3) 3) (tm 40) (.const (.int .i64 2))),
 o1 42 (.indexSl 1 (tm 38) (tm 41)),
 o1 43 (.load none (tm 42)),
 o1 44 (.conv .u32 (so (.convert 5 120 (tm 43)) 120) (tm 43)),
 o1 45 (.bin .shl (so (.binOp .shl 120 (tm 44) (.const (.int .u64 16)) 124) 120) (tm 44) (.const (.int .u64 16))),
 o1 46 (.bin .or (so (.binOp .or 120 (tm 37) (tm 45) 120) 120) (tm 37) (tm 45)),
 o1 47 (.mov (tm 1)),
 o1 48 (.mov (tm 10)),
 o1 49 (.bin .mul (so (.binOp .mul 3 (.const (.int .i64 4)) (tm 48) 3) 3) (.const (.int .i64 4)) (tm 48)),
 o1 50 (.bin .add (so (.binOp .add 3 (tm 49) (.const (.int .i64 3)) 3) 3) (tm 49) (.const (.int .i64 3))),
 o1 51 (.indexSl 1 (tm 47) (tm 50)),
 o1 52 (.load none (tm 51)),
 o1 53 (.conv .u32 (so (.convert 5 120 (tm 52)) 120) (tm 52)),
 o1 54 (.bin .shl (so (.binOp .shl 120 (tm 53) (.const (.int .u64 24)) 124) 120) (tm 53) (.const (.int .u64 24))),
 o1 55 (.bin .or (so (.binOp .or 120 (tm 46) (tm 54) 120) 120) (tm 46) (tm 54)),
 o2 56 (.indexArr 16 1 (tm 9) (tm 22)),
 ⟨none, .store 1 (tm 56) (tm 55), none, [], true⟩])) (.region [
 o1 20 (.mov (tm 10)),
 o1 21 (.bin .add (so (.binOp .add 3 (tm 20) (.const (.int .i64 1)) 3) 3) (tm 20) (.const (.int .i64 1))),
 o1 10 (.mov (tm 21))])))
def zicQ_l1 : ACode :=
 (.seq (.seq (.region [
 o1 57 (.mov (tm 12)),
 o1 58 (.bin .lss (so (.binOp .lss 3 (tm 57) (.const (.int .i64 8)) 3) 4) (tm 57) (.const (.int .i64 8)))]) (.cond (tm 58)
 .skip
 (.exit 2))) (.seq (.block 3 (.seq (.region [
 o1 61 (.mov (tm 12)),
 o1 62 (.mov (tm 12)),
 o1 63 (.indexArr 8 1 (tm 4) (tm 62)),
 o1 64 (.load none (tm 63)),
 o1 65 (.indexArr 16 1 (tm 11) (tm 61)),
 o3 (.store 1 (tm 65) (tm 64))]) (.region [
 o1 66 (.mov (tm 12)),
 o1 67 (.bin .add (so (.binOp .add 3 (tm 66) (.const (.int .i64 8)) 3) 3) (tm 66) (.const (.int .i64 8))),
 o1 68 (.callV (.func 69) []),
 o1 69 (.mov (tm 12)),
 o1 70 (.index 8 1 none (tm 68) (tm 69)),
 o1 71 (.indexArr 16 1 (tm 11) (tm 67)),
 o3 (.store 1 (tm 71) (tm 70))]))) (.region [
 o1 59 (.mov (tm 12)),
 o1 60 (.bin .add (so (.binOp .add 3 (tm 59) (.const (.int .i64 1)) 3) 3) (tm 59) (.const (.int .i64 1))),
 o1 12 (.mov (tm 60))])))
def zicQ_l2 : ACode :=
 (.seq (.seq (.region [
 o1 98 (.mov (tm 15)),
 o1 99 (.bin .lss (so (.binOp .lss 3 (tm 98) (.const (.int .i64 4)) 3) 4) (tm 98) (.const (.int .i64 4)))]) (.cond (tm 99)
 .skip
 (.exit 6))) (.seq (.block 7 (.regionD [
 o1 102 (.load (some 16) (tm 11)),
 o1 103 (.mov (tm 15)),
 o1 104 (.mov (tm 15)),
 o1 105 (.bin .add (so (.binOp .add 3 (tm 104) (.const (.int .i64 4)) 3) 3) (tm 104) (.const (.int .i64 4))),
 o1 106 (.mov (tm 15)),
 o1 107 (.bin .add (so (.binOp .add 3 (tm 106) (.const (.int .i64 8)) 3) 3) (tm 106) (.const (.int .i64 8))),
 o1 108 (.mov (tm 15)),
 o1 109 (.bin .add (so (.binOp .add 3 (tm 108) (.const (.int .i64 12)) 3) 3) (tm 108) (.const (.int .i64 12))),
 o1 110 (.mov (tm 15)),
 o1 111 (.bin .mul (so (.binOp .mul 3 (.const (.int .i64 2)) (tm 110) 3) 3) (.const (.int .i64 2)) (tm 110)),
 o1 112 (.indexArr 16 1 (tm 14) (tm 111)),
 o1 113 (.load none (tm 112)),
 o1 114 (.indexArr 16 1 (tm 9) (tm 113)),
 o1 115 (.load none (tm 114)),
 o1 116 (.mov (tm 15)),
 o1 117 (.bin .mul (so (.binOp .mul 3 (.const (.int .i64 2)) (tm 116) 3) 3) (.const (.int .i64 2)) (tm 116)),
 o1 118 (.bin .add (so (.binOp .add 3 (tm 117) (.const (.int .i64 1)) 3) 3) (tm 117) (.const (.int .i64 1))),
 o1 119 (.indexArr 16 1 (tm 14) (tm 118)),
 o1 120 (.load none (tm 119)),
 o1 121 (.indexArr 16 1 (tm 9) (tm 120)),
 o1 122 (.load none (tm 121)),
 o2 123 (.callV (.func 86) [(tm 102), (tm 103), (tm 105), (tm 107), (tm 109), (tm 115), (tm 122)]),
 ⟨none, .store 16 (tm 11) (tm 123), none, [], true⟩])) (.region [
 o1 100 (.mov (tm 15)),
 o1 101 (.bin .add (so (.binOp .add 3 (tm 100) (.const (.int .i64 1)) 3) 3) (tm 100) (.const (.int .i64 1))),
 o1 15 (.mov (tm 101))])))
def zicQ_l3 : ACode :=
 (.seq (.seq (.region [
 o1 124 (.mov (tm 16)),
 o1 125 (.bin .lss (so (.binOp .lss 3 (tm 124) (.const (.int .i64 4)) 3) 4) (tm 124) (.const (.int .i64 4)))]) (.cond (tm 125)
 .skip
 (.exit 8))) (.seq (.block 9 (.regionD [
 o1 128 (.load (some 16) (tm 11)),
 o1 129 (.mov (tm 16)),
 o1 130 (.mov (tm 16)),
 o1 131 (.bin .add (so (.binOp .add 3 (tm 130) (.const (.int .i64 1)) 3) 3) (tm 130) (.const (.int .i64 1))),
 o1 132 (.bin .rem (so (.binOp .rem 3 (tm 131) (.const (.int .i64 4)) 3) 3) (tm 131) (.const (.int .i64 4))),
 o1 133 (.bin .add (so (.binOp .add 3 (.const (.int .i64 4)) (tm 132) 3) 3) (.const (.int .i64 4)) (tm 132)),
 o1 134 (.mov (tm 16)),
 o1 135 (.bin .add (so (.binOp .add 3 (tm 134) (.const (.int .i64 2)) 3) 3) (tm 134) (.const (.int .i64 2))),
 o1 136 (.bin .rem (so (.binOp .rem 3 (tm 135) (.const (.int .i64 4)) 3) 3) (tm 135) (.const (.int .i64 4))),
 o1 137 (.bin .add (so (.binOp .add 3 (.const (.int .i64 8)) (tm 136) 3) 3) (.const (.int .i64 8)) (tm 136)),
 o1 138 (.mov (tm 16)),
 o1 139 (.bin .add (so (.binOp .add 3 (tm 138) (.const (.int .i64 3)) 3) 3) (tm 138) (.const (.int .i64 3))),
 o1 140 (.bin .rem (so (.binOp .rem 3 (tm 139) (.const (.int .i64 4)) 3) 3) (tm 139) (.const (.int .i64 4))),
 o1 141 (.bin .add (so (.binOp .add 3 (.const (.int .i64 12)) (tm 140) 3) 3) (.const (.int .i64 12)) (tm 140)),
 o1 142 (.mov (tm 16)),
 o1 143 (.bin .mul (so (.binOp .mul 3 (.const (.int .i64 2)) (tm 142) 3) 3) (.const (.int .i64 2)) (tm 142)),
 o1 144 (.bin .add (so (.binOp .add 3 (.const (.int .i64 8)) (tm 143) 3) 3) (.const (.int .i64 8)) (tm 143)),
 o1 145 (.indexArr 16 1 (tm 14) (tm 144)),
 o1 146 (.load none (tm 145)),
 o1 147 (.indexArr 16 1 (tm 9) (tm 146)),
 o1 148 (.load none (tm 147)),
 o1 149 (.mov (tm 16)),
 o1 150 (.bin .mul (so (.binOp .mul 3 (.const (.int .i64 2)) (tm 149) 3) 3) (.const (.int .i64 2)) (tm 149)),
 o1 151 (.bin .add (so (.binOp .add 3 (.const (.int .i64 9)) (tm 150) 3) 3) (.const (.int .i64 9)) (tm 150)),
 o1 152 (.indexArr 16 1 (tm 14) (tm 151)),
 o1 153 (.load none (tm 152)),
 o1 154 (.indexArr 16 1 (tm 9) (tm 153)),
 o1 155 (.load none (tm 154)),
 o2 156 (.callV (.func 86) [(tm 128), (tm 129), (tm 133), (tm 137), (tm 141), (tm 148), (tm 155)]),
 ⟨none, .store 16 (tm 11) (tm 156), none, [], true⟩])) (.region [
 o1 126 (.mov (tm 16)),
 o1 127 (.bin .add (so (.binOp .add 3 (tm 126) (.const (.int .i64 1)) 3) 3) (tm 126) (.const (.int .i64 1))),
 o1 16 (.mov (tm 127))])))
def zicQ_l4 : ACode :=
 (.seq (.seq (.region [
 o1 92 (.mov (tm 13)),
 o1 93 (.bin .lss (so (.binOp .lss 3 (tm 92) (.const (.int .i64 10)) 3) 4) (tm 92) (.const (.int .i64 10)))]) (.cond (tm 93)
 .skip
 (.exit 4))) (.seq (.block 5 (.seq (.region [
 o1 96 (.mov (tm 13)),
 o1 97 (.callV (.func 85) [(tm 96)]),
 o1 14 (.alloc 70 [(.int .i64 0), (.int .i64 0), (.int .i64 0), (.int .i64 0), (.int .i64 0), (.int .i64 0), (.int .i64 0), (.int .i64 0), (.int .i64 0), (.int .i64 0), (.int .i64 0), (.int .i64 0), (.int .i64 0), (.int .i64 0), (.int .i64 0), (.int .i64 0)]),
 o3 (.store 16 (tm 14) (tm 97))]) (.seq (.seq (.region [
 o1 15 (.mov k0)]) (.block 6 (.loop zicQ_l2))) (.seq (.region [
 o1 16 (.mov k0)]) (.block 8 (.loop zicQ_l3)))))) (.region [
 o1 94 (.mov (tm 13)),
 o1 95 (.bin .add (so (.binOp .add 3 (tm 94) (.const (.int .i64 1)) 3) 3) (tm 94) (.const (.int .i64 1))),
 o1 13 (.mov (tm 95))])))
def zicQ_l5 : ACode :=
 (.seq (.seq (.region [
 o1 157 (.mov (tm 17)),
 o1 158 (.bin .lss (so (.binOp .lss 3 (tm 157) (.const (.int .i64 8)) 3) 4) (tm 157) (.const (.int .i64 8)))]) (.cond (tm 158)
 .skip
 (.exit 10))) (.seq (.block 11 (.regionD [
 o1 161 (.mov (tm 17)),
 o1 162 (.mov (tm 17)),
 o1 163 (.indexArr 8 1 (tm 4) (tm 162)),
 o1 164 (.load none (tm 163)),
 o1 165 (.mov (tm 17)),
 o1 166 (.indexArr 16 1 (tm 11) (tm 165)),
 o1 167 (.load none (tm 166)),
 o1 168 (.bin .xor (so (.binOp .xor 120 (tm 164) (tm 167) 120) 120) (tm 164) (tm 167)),
 o1 169 (.mov (tm 17)),
 o1 170 (.bin .add (so (.binOp .add 3 (tm 169) (.const (.int .i64 8)) 3) 3) (tm 169) (.const (.int .i64 8))),
 o1 171 (.indexArr 16 1 (tm 11) (tm 170)),
 o1 172 (.load none (tm 171)),
 o1 173 (.bin .xor (so (.binOp .xor 120 (tm 168) (tm 172) 120) 120) (tm 168) (tm 172)),
 o2 174 (.indexArr 8 1 (tm 4) (tm 161)),
 ⟨none, .store 1 (tm 174) (tm 173), none, [], true⟩])) (.region [
 o1 159 (.mov (tm 17)),
 o1 160 (.bin .add (so (.binOp .add 3 (tm 159) (.const (.int .i64 1)) 3) 3) (tm 159) (.const (.int .i64 1))),
 o1 17 (.mov (tm 160))])))
def zicQ_c : ACode :=
 (.seq (.region [
 o1 4 (.box 121 (tm 0)),
 o1 8 (.alloc 121 [(.int .u32 0), (.int .u32 0), (.int .u32 0), (.int .u32 0), (.int .u32 0), (.int .u32 0), (.int .u32 0), (.int .u32 0)])]) (.seq (.region [
 o1 9 (.alloc 147 [(.int .u32 0), (.int .u32 0), (.int .u32 0), (.int .u32 0), (.int .u32 0), (.int .u32 0), (.int .u32 0), (.int .u32 0), (.int .u32 0), (.int .u32 0), (.int .u32 0), (.int .u32 0), (.int .u32 0), (.int .u32 0), (.int .u32 0), (.int .u32 0)])]) (.seq (.seq (.region [
 o1 10 (.mov k0)]) (.block 0 (.loop zicQ_l0))) (.seq (.region [
 o1 11 (.alloc 147 [(.int .u32 0), (.int .u32 0), (.int .u32 0), (.int .u32 0), (.int .u32 0), (.int .u32 0), (.int .u32 0), (.int .u32 0), (.int .u32 0), (.int .u32 0), (.int .u32 0), (.int .u32 0), (.int .u32 0), (.int .u32 0), (.int .u32 0), (.int .u32 0)])]) (.seq (.seq (.region [
 o1 12 (.mov k0)]) (.block 2 (.loop zicQ_l1))) (.seq (.region [
 o1 72 (.indexArr 16 1 (tm 11) (.const (.int .i64 12))),
 o1 73 (.load none (tm 72)),
 o1 74 (.mov (tm 2)),
 o1 75 (.conv .u64 (so (.convert 3 92 (tm 74)) 92) (tm 74)),
 o1 76 (.conv .u32 (so (.convert 92 120 (tm 75)) 120) (tm 75)),
 o1 77 (.bin .xor (so (.binOp .xor 120 (tm 73) (tm 76) 120) 120) (tm 73) (tm 76)),
 o1 78 (.indexArr 16 1 (tm 11) (.const (.int .i64 12))),
 o3 (.store 1 (tm 78) (tm 77))]) (.seq (.region [
 o1 79 (.indexArr 16 1 (tm 11) (.const (.int .i64 13))),
 o1 80 (.load none (tm 79)),
 o1 81 (.mov (tm 2)),
 o1 82 (.conv .u64 (so (.convert 3 92 (tm 81)) 92) (tm 81)),
 o1 83 (.bin .shr (so (.binOp .shr 92 (tm 82) (.const (.int .u64 32)) 124) 92) (tm 82) (.const (.int .u64 32))),
 o1 84 (.conv .u32 (so (.convert 92 120 (tm 83)) 120) (tm 83)),
 o1 85 (.bin .xor (so (.binOp .xor 120 (tm 80) (tm 84) 120) 120) (tm 80) (tm 84)),
 o1 86 (.indexArr 16 1 (tm 11) (.const (.int .i64 13))),
 o3 (.store 1 (tm 86) (tm 85))]) (.seq (.seq (.region [
 o1 87 (.mov (tm 3))]) (.cond (tm 87)
 (.region [
 o1 88 (.indexArr 16 1 (tm 11) (.const (.int .i64 14))),
 o1 89 (.load none (tm 88)),
 o1 90 (.raw (so (.unOp .xor 120 (tm 89)) 120)),
 o1 91 (.indexArr 16 1 (tm 11) (.const (.int .i64 14))),
 o3 (.store 1 (tm 91) (tm 90))])
 .skip)) (.seq (.seq (.region [
 o1 13 (.mov k0)]) (.block 4 (.loop zicQ_l4))) (.seq (.seq (.region [
 o1 17 (.mov k0)]) (.block 10 (.loop zicQ_l5))) (.seq (.region [
 o1 175 (.load (some 8) (tm 4)),
 o3 (.store 8 (tm 8) (tm 175))]) .ret)))))))))))
def zicQ : AFunc := ⟨176, [(8, some (some 8))], zicQ_c, none⟩
theorem zicQ_t0 : tableOf Tryz.prog 70 = some zicQ := by kernel_rfl
theorem zicQ_t : T0 70 = some zicQ := withKept_t rfl (withTrue_t rfl zicQ_t0)
theorem zicQ_runs {v0 v1 v2 v3 : Value} {h : Heap} {R : RP} {X : XP} (k : RunC Tryz.prog T0 zicQ_c ⟨[v0, v1, v2, v3, U, U, U, U, U, U, U, U, U, U, U, U, U, U, U, U, U, U, U, U, U, U, U, U, U, U, U, U, U, U, U, U, U, U, U, U, U, U, U, U, U, U, U, U, U, U, U, U, U, U, U, U, U, U, U, U, U, U, U, U, U, U, U, U, U, U, U, U, U, U, U, U, U, U, U, U, U, U, U, U, U, U, U, U, U, U, U, U, U, U, U, U, U, U, U, U, U, U, U, U, U, U, U, U, U, U, U, U, U, U, U, U, U, U, U, U, U, U, U, U, U, U, U, U, U, U, U, U, U, U, U, U, U, U, U, U, U, U, U, U, U, U, U, U, U, U, U, U, U, U, U, U, U, U, U, U, U, U, U, U, U, U, U, U, U, U, U, U, U, U, U, U], [], h, none⟩ (bodyQ Tryz.prog T0 [(8, some (some 8))] R X)) :
 Runs Tryz.prog T0 (.fn 70) [v0, v1, v2, v3] h R X := Runs.fn zicQ_t rfl k
abbrev zicQ_l0_M : List Nat := [0, 0, 0, 0, 0, 0, 0, 0, 0, 0, 2, 0, 0, 0, 0, 0, 0, 0, 1, 1, 1, 1, 1, 1, 1, 1, 1, 1, 1, 1, 1, 1, 1, 1, 1, 1, 1, 1, 1, 1, 1, 1, 1, 1, 1, 1, 1, 1, 1, 1, 1, 1, 1, 1, 1, 1, 1, 0, 0, 0, 0, 0, 0, 0, 0, 0, 0, 0, 0, 0, 0, 0, 0, 0, 0, 0, 0, 0, 0, 0, 0, 0, 0, 0, 0, 0, 0, 0, 0, 0, 0, 0, 0, 0, 0, 0, 0, 0, 0, 0, 0, 0, 0, 0, 0, 0, 0, 0, 0, 0, 0, 0, 0, 0, 0, 0, 0, 0, 0, 0, 0, 0, 0, 0, 0, 0, 0, 0, 0, 0, 0, 0, 0, 0, 0, 0, 0, 0, 0, 0, 0, 0, 0, 0, 0, 0, 0, 0, 0, 0, 0, 0, 0, 0, 0, 0, 0, 0, 0, 0, 0, 0, 0, 0, 0, 0, 0, 0, 0, 0, 0, 0, 0, 0, 0, 0]
abbrev zicQ_l1_M : List Nat := [0, 0, 0, 0, 0, 0, 0, 0, 0, 0, 0, 0, 2, 0, 0, 0, 0, 0, 0, 0, 0, 0, 0, 0, 0, 0, 0, 0, 0, 0, 0, 0, 0, 0, 0, 0, 0, 0, 0, 0, 0, 0, 0, 0, 0, 0, 0, 0, 0, 0, 0, 0, 0, 0, 0, 0, 0, 1, 1, 1, 1, 1, 1, 1, 1, 1, 1, 1, 1, 1, 1, 1, 0, 0, 0, 0, 0, 0, 0, 0, 0, 0, 0, 0, 0, 0, 0, 0, 0, 0, 0, 0, 0, 0, 0, 0, 0, 0, 0, 0, 0, 0, 0, 0, 0, 0, 0, 0, 0, 0, 0, 0, 0, 0, 0, 0, 0, 0, 0, 0, 0, 0, 0, 0, 0, 0, 0, 0, 0, 0, 0, 0, 0, 0, 0, 0, 0, 0, 0, 0, 0, 0, 0, 0, 0, 0, 0, 0, 0, 0, 0, 0, 0, 0, 0, 0, 0, 0, 0, 0, 0, 0, 0, 0, 0, 0, 0, 0, 0, 0, 0, 0, 0, 0, 0, 0]
abbrev zicQ_l2_M : List Nat := [0, 0, 0, 0, 0, 0, 0, 0, 0, 0, 0, 0, 0, 0, 0, 2, 0, 0, 0, 0, 0, 0, 0, 0, 0, 0, 0, 0, 0, 0, 0, 0, 0, 0, 0, 0, 0, 0, 0, 0, 0, 0, 0, 0, 0, 0, 0, 0, 0, 0, 0, 0, 0, 0, 0, 0, 0, 0, 0, 0, 0, 0, 0, 0, 0, 0, 0, 0, 0, 0, 0, 0, 0, 0, 0, 0, 0, 0, 0, 0, 0, 0, 0, 0, 0, 0, 0, 0, 0, 0, 0, 0, 0, 0, 0, 0, 0, 0, 1, 1, 1, 1, 1, 1, 1, 1, 1, 1, 1, 1, 1, 1, 1, 1, 1, 1, 1, 1, 1, 1, 1, 1, 1, 1, 0, 0, 0, 0, 0, 0, 0, 0, 0, 0, 0, 0, 0, 0, 0, 0, 0, 0, 0, 0, 0, 0, 0, 0, 0, 0, 0, 0, 0, 0, 0, 0, 0, 0, 0, 0, 0, 0, 0, 0, 0, 0, 0, 0, 0, 0, 0, 0, 0, 0, 0, 0]
abbrev zicQ_l3_M : List Nat := [0, 0, 0, 0, 0, 0, 0, 0, 0, 0, 0, 0, 0, 0, 0, 0, 2, 0, 0, 0, 0, 0, 0, 0, 0, 0, 0, 0, 0, 0, 0, 0, 0, 0, 0, 0, 0, 0, 0, 0, 0, 0, 0, 0, 0, 0, 0, 0, 0, 0, 0, 0, 0, 0, 0, 0, 0, 0, 0, 0, 0, 0, 0, 0, 0, 0, 0, 0, 0, 0, 0, 0, 0, 0, 0, 0, 0, 0, 0, 0, 0, 0, 0, 0, 0, 0, 0, 0, 0, 0, 0, 0, 0, 0, 0, 0, 0, 0, 0, 0, 0, 0, 0, 0, 0, 0, 0, 0, 0, 0, 0, 0, 0, 0, 0, 0, 0, 0, 0, 0, 0, 0, 0, 0, 1, 1, 1, 1, 1, 1, 1, 1, 1, 1, 1, 1, 1, 1, 1, 1, 1, 1, 1, 1, 1, 1, 1, 1, 1, 1, 1, 1, 1, 1, 1, 1, 1, 0, 0, 0, 0, 0, 0, 0, 0, 0, 0, 0, 0, 0, 0, 0, 0, 0, 0, 0]
abbrev zicQ_l4_M : List Nat := [0, 0, 0, 0, 0, 0, 0, 0, 0, 0, 0, 0, 0, 2, 1, 1, 1, 0, 0, 0, 0, 0, 0, 0, 0, 0, 0, 0, 0, 0, 0, 0, 0, 0, 0, 0, 0, 0, 0, 0, 0, 0, 0, 0, 0, 0, 0, 0, 0, 0, 0, 0, 0, 0, 0, 0, 0, 0, 0, 0, 0, 0, 0, 0, 0, 0, 0, 0, 0, 0, 0, 0, 0, 0, 0, 0, 0, 0, 0, 0, 0, 0, 0, 0, 0, 0, 0, 0, 0, 0, 0, 0, 1, 1, 1, 1, 1, 1, 1, 1, 1, 1, 1, 1, 1, 1, 1, 1, 1, 1, 1, 1, 1, 1, 1, 1, 1, 1, 1, 1, 1, 1, 1, 1, 1, 1, 1, 1, 1, 1, 1, 1, 1, 1, 1, 1, 1, 1, 1, 1, 1, 1, 1, 1, 1, 1, 1, 1, 1, 1, 1, 1, 1, 1, 1, 1, 1, 0, 0, 0, 0, 0, 0, 0, 0, 0, 0, 0, 0, 0, 0, 0, 0, 0, 0, 0]
abbrev zicQ_l5_M : List Nat := [0, 0, 0, 0, 0, 0, 0, 0, 0, 0, 0, 0, 0, 0, 0, 0, 0, 2, 0, 0, 0, 0, 0, 0, 0, 0, 0, 0, 0, 0, 0, 0, 0, 0, 0, 0, 0, 0, 0, 0, 0, 0, 0, 0, 0, 0, 0, 0, 0, 0, 0, 0, 0, 0, 0, 0, 0, 0, 0, 0, 0, 0, 0, 0, 0, 0, 0, 0, 0, 0, 0, 0, 0, 0, 0, 0, 0, 0, 0, 0, 0, 0, 0, 0, 0, 0, 0, 0, 0, 0, 0, 0, 0, 0, 0, 0, 0, 0, 0, 0, 0, 0, 0, 0, 0, 0, 0, 0, 0, 0, 0, 0, 0, 0, 0, 0, 0, 0, 0, 0, 0, 0, 0, 0, 0, 0, 0, 0, 0, 0, 0, 0, 0, 0, 0, 0, 0, 0, 0, 0, 0, 0, 0, 0, 0, 0, 0, 0, 0, 0, 0, 0, 0, 0, 0, 0, 0, 1, 1, 1, 1, 1, 1, 1, 1, 1, 1, 1, 1, 1, 1, 1, 1, 1, 1, 0]
abbrev fn_zibQ : FuncId := 71
def zibQ_c : ACode :=
 (.seq (.region [
 o1 0 (.mov (.const (.slice none 0 0)))]) (.seq (.region [
 o1 1 (.build [.nilFunc, (.int .i64 0)] [(0, 1, (.func 87)), (1, 1, (.const (.int .i64 5)))]),
 o1 2 (.build [.nilFunc, (.int .i64 0)] [(0, 1, (.func 89)), (1, 1, (.const (.int .i64 3)))]),
 o1 3 (.build [.nilFunc, (.int .i64 0)] [(0, 1, (.func 90)), (1, 1, (.const (.int .i64 3)))]),
 o1 4 (.buildSlice 129 [.nilFunc, (.int .i64 0), .nilFunc, (.int .i64 0), .nilFunc, (.int .i64 0)] 3 [(0, 2, (tm 1)), (2, 2, (tm 2)), (4, 2, (tm 3))]),
 o1 0 (.mov (tm 4))]) .ret))
def zibQ : AFunc := ⟨5, [(0, none)], zibQ_c, none⟩
theorem zibQ_t0 : tableOf Tryz.prog 71 = some zibQ := by kernel_rfl
theorem zibQ_t : T0 71 = some zibQ := withKept_t rfl (withTrue_t rfl zibQ_t0)
theorem zibQ_runs {v : Value} {h : Heap} {R : RP} {X : XP} (k : RunC Tryz.prog T0 zibQ_c ⟨[undef, U, U, U, U], [], h, none⟩ (bodyQ Tryz.prog T0 [(0, none)] R X)) :
 Runs Tryz.prog T0 (.fn 71) [] h R X := Runs.fn zibQ_t rfl k
abbrev fn_zrdQ : FuncId := 72
def zrdQ_c : ACode :=
 (.seq (.region [
 o1 4 (.mov k0)]) (.seq (.region [
 o1 5 (.mov (tm 0)),
 o1 6 (.mov (tm 1)),
 o1 7 (.lenSl (tm 6)),
 o1 8 (.callV (.func 74) [(tm 7)]),
 o1 9 (.mov (tm 1)),
 o1 10 (.buildSlice 97 [(.slice none 0 0), (.slice none 0 0)] 2 [(0, 1, (tm 8)), (1, 1, (tm 9))]),
 o1 11 (.callV (.func 73) [(tm 5), (.const (.bool true)), (tm 10)]),
 o1 4 (.mov (tm 11))]) .ret))
def zrdQ : AFunc := ⟨12, [(4, none)], zrdQ_c, none⟩
theorem zrdQ_t0 : tableOf Tryz.prog 72 = some zrdQ := by kernel_rfl
theorem zrdQ_t : T0 72 = some zrdQ := withKept_t rfl (withTrue_t rfl zrdQ_t0)
theorem zrdQ_runs {v0 v1 : Value} {h : Heap} {R : RP} {X : XP} (k : RunC Tryz.prog T0 zrdQ_c ⟨[v0, v1, U, U, U, U, U, U, U, U, U, U], [], h, none⟩ (bodyQ Tryz.prog T0 [(4, none)] R X)) :
 Runs Tryz.prog T0 (.fn 72) [v0, v1] h R X := Runs.fn zrdQ_t rfl k
abbrev fn_zwdQ : FuncId := 73
def zwdQ_c : ACode :=
 (.seq (.region [
 o1 6 (.mov k0)]) (.seq (.seq (.region [
 o1 8 (.mov (tm 0)),
 o1 9 (.eq .ptr false (so (.binOp .eql 102 (tm 8) (.const (.pointer none)) 102) 4) (tm 8) (.const (.pointer none))),
 o1 10 (.mov (tm 9)),
 o5 11 (.mov (tm 0)) 10,
 o5 12 (.nilCheck (tm 11)) 10,
 o5 13 (.fieldAddr 3 (tm 12)) 10,
 o5 14 (.load none (tm 13)) 10,
 o5 15 (.raw (so (.unOp .not 4 (tm 14)) 4)) 10,
 o1 16 (.pick (tm 10) (.const (.bool true)) (tm 15))]) (.cond (tm 16)
 (.seq (.region [
 o1 6 (.mov (.const (.int .i64 1)))]) .ret)
 .skip)) (.seq (.region [
 o1 17 (.mov (tm 2)),
 o1 18 (.callV (.func 91) [(tm 17)]),
 o1 7 (.mov (tm 18))]) (.seq (.block 0 (.seq (.region [
 o1 29 (.mov (tm 0)),
 o1 30 (.nilCheck (tm 29)),
 o1 31 (.fieldAddr 2 (tm 30)),
 o1 32 (.load none (tm 31)),
 o1 33 (.bin .neq (so (.binOp .neq 40 (tm 32) k0 40) 4) (tm 32) k0),
 o1 28 (.mov (tm 33))]) (.cond (tm 28)
 .skip
 (.seq (.region [
 o1 35 (.mov (tm 1)),
 o1 36 (.raw (so (.unOp .not 4 (tm 35)) 4)),
 o1 34 (.mov (tm 36))]) (.cond (tm 34)
 (.region [
 o1 37 (.mov (tm 0)),
 o1 38 (.nilCheck (tm 37)),
 o1 39 (.fieldAddr 2 (tm 38)),
 o3 (.store 1 (tm 39) (.const (.int .i64 3)))])
 (.seq (.regionD [
 o1 41 (.mov (tm 0)),
 o1 42 (.nilCheck (tm 41)),
 o1 43 (.fieldAddr 1 (tm 42)),
 o1 44 (.load none (tm 43)),
 o1 45 (.lenSl (tm 44)),
 o1 46 (.mov (tm 7)),
 o1 47 (.lenSl (tm 46)),
 o1 48 (.bin .add (so (.binOp .add 3 (tm 45) (tm 47) 3) 3) (tm 45) (tm 47)),
 o1 49 (.mov (tm 0)),
 o1 50 (.nilCheck (tm 49)),
 o1 51 (.fieldAddr 0 (tm 50)),
 o1 52 (.load none (tm 51)),
 o2 53 (.bin .gtr (so (.binOp .gtr 3 (tm 48) (tm 52) 3) 4) (tm 48) (tm 52)),
 o2 40 (.mov (tm 53))]) (.cond (tm 40)
 (.region [
 o1 54 (.mov (tm 0)),
 o1 55 (.nilCheck (tm 54)),
 o1 56 (.fieldAddr 2 (tm 55)),
 o3 (.store 1 (tm 56) (.const (.int .i64 4)))])
 (.region [
 o1 19 (.mov (tm 0)),
 o1 20 (.mov (tm 0)),
 o1 21 (.nilCheck (tm 20)),
 o1 22 (.fieldAddr 1 (tm 21)),
 o1 23 (.load none (tm 22)),
 o1 24 (.mov (tm 7)),
 o1 25 (.append 5 1 1 [(.int .u8 0)] false (tm 23) (tm 24)),
 o1 26 (.nilCheck (tm 19)),
 o1 27 (.fieldAddr 1 (tm 26)),
 o3 (.store 1 (tm 27) (tm 25))])))))))) (.seq (.region [
 o1 57 (.mov (tm 0)),
 o1 58 (.nilCheck (tm 57)),
 o1 59 (.fieldAddr 2 (tm 58)),
 o1 60 (.load none (tm 59)),
 o1 6 (.mov (tm 60))]) .ret)))))
def zwdQ : AFunc := ⟨61, [(6, none)], zwdQ_c, none⟩
theorem zwdQ_t0 : tableOf Tryz.prog 73 = some zwdQ := by kernel_rfl
theorem zwdQ_t : T0 73 = some zwdQ := withKept_t rfl (withTrue_t rfl zwdQ_t0)
theorem zwdQ_runs {v0 v1 v2 : Value} {h : Heap} {R : RP} {X : XP} (k : RunC Tryz.prog T0 zwdQ_c ⟨[v0, v1, v2, U, U, U, U, U, U, U, U, U, U, U, U, U, U, U, U, U, U, U, U, U, U, U, U, U, U, U, U, U, U, U, U, U, U, U, U, U, U, U, U, U, U, U, U, U, U, U, U, U, U, U, U, U, U, U, U, U, U], [], h, none⟩ (bodyQ Tryz.prog T0 [(6, none)] R X)) :
 Runs Tryz.prog T0 (.fn 73) [v0, v1, v2] h R X := Runs.fn zwdQ_t rfl k
abbrev fn_zxdQ : FuncId := 74
def zxdQ_l0 : ACode :=
 (.seq (.seq (.region [
 o1 5 (.mov (tm 0)),
 o1 6 (.bin .gtr (so (.binOp .gtr 3 (tm 5) k0 3) 4) (tm 5) k0)]) (.cond (tm 6)
 .skip
 (.exit 0))) (.seq (.block 1 (.seq (.region [
 o1 9 (.mov (tm 4)),
 o1 10 (.bin .sub (so (.binOp .sub 3 (.const (.int .i64 8)) (tm 9) 3) 3) (.const (.int .i64 8)) (tm 9)),
 o1 11 (.mov (tm 0)),
 o1 12 (.conv .u8 (so (.convert 3 5 (tm 11)) 5) (tm 11)),
 o1 13 (.indexArr 9 1 (tm 3) (tm 10)),
 o3 (.store 1 (tm 13) (tm 12))]) (.region [
 o1 14 (.mov (tm 4)),
 o1 15 (.bin .add (so (.binOp .add 3 (tm 14) (.const (.int .i64 1)) 3) 3) (tm 14) (.const (.int .i64 1))),
 o1 4 (.mov (tm 15))]))) (.region [
 o1 7 (.mov (tm 0)),
 o1 8 (.bin .shr (so (.binOp .shr 3 (tm 7) (.const (.int .u64 8)) 124) 3) (tm 7) (.const (.int .u64 8))),
 o1 0 (.mov (tm 8))])))
def zxdQ_c : ACode :=
 (.seq (.region [
 o1 2 (.mov (.const (.slice none 0 0)))]) (.seq (.region [
 o1 3 (.alloc 152 [(.int .u8 0), (.int .u8 0), (.int .u8 0), (.int .u8 0), (.int .u8 0), (.int .u8 0), (.int .u8 0), (.int .u8 0), (.int .u8 0)])]) (.seq (.region [
 o1 4 (.mov k0)]) (.seq (.block 0 (.loop zxdQ_l0)) (.seq (.region [
 o1 16 (.mov (tm 4)),
 o1 17 (.bin .sub (so (.binOp .sub 3 (.const (.int .i64 8)) (tm 16) 3) 3) (.const (.int .i64 8)) (tm 16)),
 o1 18 (.mov (tm 4)),
 o1 19 (.conv .u8 (so (.convert 3 5 (tm 18)) 5) (tm 18)),
 o1 20 (.indexArr 9 1 (tm 3) (tm 17)),
 o3 (.store 1 (tm 20) (tm 19))]) (.seq (.region [
 o1 21 (.mov (tm 4)),
 o1 22 (.bin .sub (so (.binOp .sub 3 (.const (.int .i64 8)) (tm 21) 3) 3) (.const (.int .i64 8)) (tm 21)),
 o1 23 (.sliceArr 9 1 (tm 3) (some (tm 22)) none),
 o1 2 (.mov (tm 23))]) .ret))))))
def zxdQ : AFunc := ⟨24, [(2, none)], zxdQ_c, none⟩
theorem zxdQ_t0 : tableOf Tryz.prog 74 = some zxdQ := by kernel_rfl
theorem zxdQ_t : T0 74 = some zxdQ := withKept_t rfl (withTrue_t rfl zxdQ_t0)
theorem zxdQ_runs {v0 : Value} {h : Heap} {R : RP} {X : XP} (k : RunC Tryz.prog T0 zxdQ_c ⟨[v0, U, U, U, U, U, U, U, U, U, U, U, U, U, U, U, U, U, U, U, U, U, U, U], [], h, none⟩ (bodyQ Tryz.prog T0 [(2, none)] R X)) :
 Runs Tryz.prog T0 (.fn 74) [v0] h R X := Runs.fn zxdQ_t rfl k
abbrev zxdQ_l0_M : List Nat := [2, 0, 0, 0, 2, 1, 1, 1, 1, 1, 1, 1, 1, 1, 1, 1, 0, 0, 0, 0, 0, 0, 0, 0]
abbrev fn_zkdQ : FuncId := 75
def zkdQ_c : ACode :=
 (.seq (.region [
 o1 2 (.mov (.const (.slice none 0 0)))]) (.seq (.seq (.region [
 o1 3 (.mov (tm 0)),
 o1 4 (.eq .slice false (so (.binOp .eql 97 (tm 3) (.const (.slice none 0 0)) 97) 4) (tm 3) (.const (.slice none 0 0)))]) (.cond (tm 4)
 (.seq (.region [
 o1 2 (.mov (.const (.slice none 0 0)))]) .ret)
 .skip)) (.seq (.region [
 o1 5 (.buildSlice 5 [] 0 []),
 o1 6 (.mov (tm 0)),
 o1 7 (.append 5 1 1 [(.int .u8 0)] false (tm 5) (tm 6)),
 o1 2 (.mov (tm 7))]) .ret)))
def zkdQ : AFunc := ⟨8, [(2, none)], zkdQ_c, none⟩
theorem zkdQ_t0 : tableOf Tryz.prog 75 = some zkdQ := by kernel_rfl
theorem zkdQ_t : T0 75 = some zkdQ := withKept_t rfl (withTrue_t rfl zkdQ_t0)
theorem zkdQ_runs {v0 : Value} {h : Heap} {R : RP} {X : XP} (k : RunC Tryz.prog T0 zkdQ_c ⟨[v0, U, U, U, U, U, U, U], [], h, none⟩ (bodyQ Tryz.prog T0 [(2, none)] R X)) :
 Runs Tryz.prog T0 (.fn 75) [v0] h R X := Runs.fn zkdQ_t rfl k
abbrev fn_zxcQ : FuncId := 81
def zxcQ_l0 : ACode :=
 (.seq (.seq (.region [
 o1 5 (.mov (tm 3)),
 o1 6 (.mov (tm 0)),
 o1 7 (.lenStr (tm 6)),
 o1 8 (.bin .lss (so (.binOp .lss 3 (tm 5) (tm 7) 3) 4) (tm 5) (tm 7))]) (.cond (tm 8)
 .skip
 (.exit 0))) (.seq (.block 1 (.seq (.region [
 o1 11 (.mov (tm 0)),
 o1 12 (.mov (tm 3)),
 o1 13 (.raw (so (.index 9 (tm 11) (tm 12)) 5)),
 o1 4 (.mov (tm 13))]) (.seq (.region [
 o1 14 (.mov (tm 4)),
 o1 15 (.bin .lss (so (.binOp .lss 5 (tm 14) (.const (.int .u8 97)) 5) 4) (tm 14) (.const (.int .u8 97))),
 o1 16 (.mov (tm 15)),
 o5 17 (.mov (tm 4)) 16,
 o5 18 (.bin .gtr (so (.binOp .gtr 5 (tm 17) (.const (.int .u8 122)) 5) 4) (tm 17) (.const (.int .u8 122))) 16,
 o1 19 (.pick (tm 16) (.const (.bool true)) (tm 18)),
 o1 20 (.mov (tm 19)),
 o4 21 (.mov (tm 4)) 20,
 o4 22 (.bin .lss (so (.binOp .lss 5 (tm 21) (.const (.int .u8 48)) 5) 4) (tm 21) (.const (.int .u8 48))) 20,
 o4 23 (.mov (tm 22)) 20,
 o5 24 (.mov (tm 4)) 23,
 o5 25 (.bin .gtr (so (.binOp .gtr 5 (tm 24) (.const (.int .u8 57)) 5) 4) (tm 24) (.const (.int .u8 57))) 23,
 o4 26 (.pick (tm 23) (.const (.bool true)) (tm 25)) 20,
 o1 27 (.pick (tm 20) (tm 26) (.const (.bool false))),
 o1 28 (.mov (tm 27)),
 o4 29 (.mov (tm 4)) 28,
 o4 30 (.bin .neq (so (.binOp .neq 5 (tm 29) (.const (.int .u8 45)) 5) 4) (tm 29) (.const (.int .u8 45))) 28,
 o1 31 (.pick (tm 28) (tm 30) (.const (.bool false)))]) (.cond (tm 31)
 (.seq (.region [
 o1 2 (.mov (.const (.bool false)))]) .ret)
 .skip)))) (.region [
 o1 9 (.mov (tm 3)),
 o1 10 (.bin .add (so (.binOp .add 3 (tm 9) (.const (.int .i64 1)) 3) 3) (tm 9) (.const (.int .i64 1))),
 o1 3 (.mov (tm 10))])))
def zxcQ_c : ACode :=
 (.seq (.region [
 o1 2 (.mov (.const (.bool false)))]) (.seq (.seq (.region [
 o1 3 (.mov k0)]) (.block 0 (.loop zxcQ_l0))) (.seq (.region [
 o1 32 (.mov (tm 0)),
 o1 33 (.lenStr (tm 32)),
 o1 34 (.bin .geq (so (.binOp .geq 3 (tm 33) (.const (.int .i64 1)) 3) 4) (tm 33) (.const (.int .i64 1))),
 o1 35 (.mov (tm 34)),
 o4 36 (.mov (tm 0)) 35,
 o4 37 (.lenStr (tm 36)) 35,
 o4 38 (.bin .leq (so (.binOp .leq 3 (tm 37) (.const (.int .i64 32)) 3) 4) (tm 37) (.const (.int .i64 32))) 35,
 o1 39 (.pick (tm 35) (tm 38) (.const (.bool false))),
 o1 2 (.mov (tm 39))]) .ret)))
def zxcQ : AFunc := ⟨40, [(2, none)], zxcQ_c, none⟩
theorem zxcQ_t0 : tableOf Tryz.prog 81 = some zxcQ := by kernel_rfl
theorem zxcQ_t : T0 81 = some zxcQ := withKept_t rfl (withTrue_t rfl zxcQ_t0)
theorem zxcQ_runs {v0 : Value} {h : Heap} {R : RP} {X : XP} (k : RunC Tryz.prog T0 zxcQ_c ⟨[v0, U, U, U, U, U, U, U, U, U, U, U, U, U, U, U, U, U, U, U, U, U, U, U, U, U, U, U, U, U, U, U, U, U, U, U, U, U, U, U], [], h, none⟩ (bodyQ Tryz.prog T0 [(2, none)] R X)) :
 Runs Tryz.prog T0 (.fn 81) [v0] h R X := Runs.fn zxcQ_t rfl k
abbrev zxcQ_l0_M : List Nat := [0, 0, 1, 2, 1, 1, 1, 1, 1, 1, 1, 1, 1, 1, 1, 1, 1, 1, 1, 1, 1, 1, 1, 1, 1, 1, 1, 1, 1, 1, 1, 1, 0, 0, 0, 0, 0, 0, 0, 0]
abbrev fn_ztcQ : FuncId := 82
def ztcQ_c : ACode :=
 (.seq (.region [
 o1 4 (.mov k0)]) (.seq (.region [
 o1 5 (.mov (tm 0)),
 o1 6 (.mov (tm 1)),
 o1 7 (.strToBytes 5 (tm 6)),
 o1 8 (.callV (.func 96) [(tm 7)]),
 o1 9 (.callV (.func 95) [(tm 5), (tm 8)]),
 o1 4 (.mov (tm 9))]) .ret))
def ztcQ : AFunc := ⟨10, [(4, none)], ztcQ_c, none⟩
theorem ztcQ_t0 : tableOf Tryz.prog 82 = some ztcQ := by kernel_rfl
theorem ztcQ_t : T0 82 = some ztcQ := withKept_t rfl (withTrue_t rfl ztcQ_t0)
theorem ztcQ_runs {v0 v1 : Value} {h : Heap} {R : RP} {X : XP} (k : RunC Tryz.prog T0 ztcQ_c ⟨[v0, v1, U, U, U, U, U, U, U, U], [], h, none⟩ (bodyQ Tryz.prog T0 [(4, none)] R X)) :
 Runs Tryz.prog T0 (.fn 82) [v0, v1] h R X := Runs.fn ztcQ_t rfl k
abbrev fn_zrcQ : FuncId := 83
def zrcQ_c : ACode :=
 (.seq (.region [
 o1 4 (.mov k0)]) (.seq (.seq (.region [
 o1 5 (.mov (tm 1)),
 o1 6 (.bin .lss (so (.binOp .lss 3 (tm 5) k0 3) 4) (tm 5) k0),
 o1 7 (.mov (tm 6)),
 o4 8 (.mov (tm 0)) 7,
 o4 9 (.nilCheck (tm 8)) 7,
 o4 10 (.fieldAddr 2 (tm 9)) 7,
 o4 11 (.load none (tm 10)) 7,
 o4 12 (.bin .eql (so (.binOp .eql 40 (tm 11) k0 40) 4) (tm 11) k0) 7,
 o1 13 (.pick (tm 7) (tm 12) (.const (.bool false)))]) (.cond (tm 13)
 (.region [
 o1 14 (.mov (tm 0)),
 o1 15 (.nilCheck (tm 14)),
 o1 16 (.fieldAddr 2 (tm 15)),
 o3 (.store 1 (tm 16) (.const (.int .i64 3)))])
 .skip)) (.seq (.seq (.region [
 o1 17 (.mov (tm 0)),
 o1 18 (.nilCheck (tm 17)),
 o1 19 (.fieldAddr 2 (tm 18)),
 o1 20 (.load none (tm 19)),
 o1 21 (.bin .neq (so (.binOp .neq 40 (tm 20) k0 40) 4) (tm 20) k0)]) (.cond (tm 21)
 (.seq (.region [
 o1 22 (.mov (tm 0)),
 o1 23 (.nilCheck (tm 22)),
 o1 24 (.fieldAddr 2 (tm 23)),
 o1 25 (.load none (tm 24)),
 o1 4 (.mov (tm 25))]) .ret)
 .skip)) (.seq (.region [
 o1 26 (.mov (tm 0)),
 o1 27 (.mov (tm 1)),
 o1 28 (.callV (.func 97) [(tm 27)]),
 o1 29 (.callV (.func 95) [(tm 26), (tm 28)]),
 o1 4 (.mov (tm 29))]) .ret))))
def zrcQ : AFunc := ⟨30, [(4, none)], zrcQ_c, none⟩
theorem zrcQ_t0 : tableOf Tryz.prog 83 = some zrcQ := by kernel_rfl
theorem zrcQ_t : T0 83 = some zrcQ := withKept_t rfl (withTrue_t rfl zrcQ_t0)
theorem zrcQ_runs {v0 v1 : Value} {h : Heap} {R : RP} {X : XP} (k : RunC Tryz.prog T0 zrcQ_c ⟨[v0, v1, U, U, U, U, U, U, U, U, U, U, U, U, U, U, U, U, U, U, U, U, U, U, U, U, U, U, U, U], [], h, none⟩ (bodyQ Tryz.prog T0 [(4, none)] R X)) :
 Runs Tryz.prog T0 (.fn 83) [v0, v1] h R X := Runs.fn zrcQ_t rfl k
abbrev fn_zqcQ : FuncId := 84
def zqcQ_c : ACode :=
 (.seq (.region [
 o1 3 (.box 23 (tm 1)),
 o1 4 (.mov k0)]) (.seq (.region [
 o1 5 (.mov (tm 0)),
 o1 6 (.buildSlice 5 [] 0 []),
 o1 7 (.sliceArr 32 1 (tm 3) none none),
 o1 8 (.append 5 1 1 [(.int .u8 0)] false (tm 6) (tm 7)),
 o1 9 (.callV (.func 95) [(tm 5), (tm 8)]),
 o1 4 (.mov (tm 9))]) .ret))
def zqcQ : AFunc := ⟨10, [(4, none)], zqcQ_c, none⟩
theorem zqcQ_t0 : tableOf Tryz.prog 84 = some zqcQ := by kernel_rfl
theorem zqcQ_t : T0 84 = some zqcQ := withKept_t rfl (withTrue_t rfl zqcQ_t0)
theorem zqcQ_runs {v0 v1 : Value} {h : Heap} {R : RP} {X : XP} (k : RunC Tryz.prog T0 zqcQ_c ⟨[v0, v1, U, U, U, U, U, U, U, U], [], h, none⟩ (bodyQ Tryz.prog T0 [(4, none)] R X)) :
 Runs Tryz.prog T0 (.fn 84) [v0, v1] h R X := Runs.fn zqcQ_t rfl k
abbrev fn_zkcQ : FuncId := 85
def zkcQ_c : ACode :=
 (.seq (.region [
 o1 2 (.alloc 70 [(.int .i64 0), (.int .i64 0), (.int .i64 0), (.int .i64 0), (.int .i64 0), (.int .i64 0), (.int .i64 0), (.int .i64 0), (.int .i64 0), (.int .i64 0), (.int .i64 0), (.int .i64 0), (.int .i64 0), (.int .i64 0), (.int .i64 0), (.int .i64 0)])]) (.seq (.region [
 o1 4 (.build [(.int .i64 0), (.int .i64 0), (.int .i64 0), (.int .i64 0), (.int .i64 0), (.int .i64 0), (.int .i64 0), (.int .i64 0), (.int .i64 0), (.int .i64 0), (.int .i64 0), (.int .i64 0), (.int .i64 0), (.int .i64 0), (.int .i64 0), (.int .i64 0)] [(0, 1, k0), (1, 1, (.const (.int .i64 1))), (2, 1, (.const (.int .i64 2))), (3, 1, (.const (.int .i64 3))), (4, 1, (.const (.int .i64 4))), (5, 1, (.const (.int .i64 5))), (6, 1, (.const (.int .i64 6))), (7, 1, (.const (.int .i64 7))), (8, 1, (.const (.int .i64 8))), (9, 1, (.const (.int .i64 9))), (10, 1, (.const (.int .i64 10))), (11, 1, (.const (.int .i64 11))), (12, 1, (.const (.int .i64 12))), (13, 1, (.const (.int .i64 13))), (14, 1, (.const (.int .i64 14))), (15, 1, (.const (.int .i64 15)))]),
 o1 5 (.build [(.int .i64 0), (.int .i64 0), (.int .i64 0), (.int .i64 0), (.int .i64 0), (.int .i64 0), (.int .i64 0), (.int .i64 0), (.int .i64 0), (.int .i64 0), (.int .i64 0), (.int .i64 0), (.int .i64 0), (.int .i64 0), (.int .i64 0), (.int .i64 0)] [(0, 1, (.const (.int .i64 14))), (1, 1, (.const (.int .i64 10))), (2, 1, (.const (.int .i64 4))), (3, 1, (.const (.int .i64 8))), (4, 1, (.const (.int .i64 9))), (5, 1, (.const (.int .i64 15))), (6, 1, (.const (.int .i64 13))), (7, 1, (.const (.int .i64 6))), (8, 1, (.const (.int .i64 1))), (9, 1, (.const (.int .i64 12))), (10, 1, k0), (11, 1, (.const (.int .i64 2))), (12, 1, (.const (.int .i64 11))), (13, 1, (.const (.int .i64 7))), (14, 1, (.const (.int .i64 5))), (15, 1, (.const (.int .i64 3)))]),
 o1 6 (.build [(.int .i64 0), (.int .i64 0), (.int .i64 0), (.int .i64 0), (.int .i64 0), (.int .i64 0), (.int .i64 0), (.int .i64 0), (.int .i64 0), (.int .i64 0), (.int .i64 0), (.int .i64 0), (.int .i64 0), (.int .i64 0), (.int .i64 0), (.int .i64 0)] [(0, 1, (.const (.int .i64 11))), (1, 1, (.const (.int .i64 8))), (2, 1, (.const (.int .i64 12))), (3, 1, k0), (4, 1, (.const (.int .i64 5))), (5, 1, (.const (.int .i64 2))), (6, 1, (.const (.int .i64 15))), (7, 1, (.const (.int .i64 13))), (8, 1, (.const (.int .i64 10))), (9, 1, (.const (.int .i64 14))), (10, 1, (.const (.int .i64 3))), (11, 1, (.const (.int .i64 6))), (12, 1, (.const (.int .i64 7))), (13, 1, (.const (.int .i64 1))), (14, 1, (.const (.int .i64 9))), (15, 1, (.const (.int .i64 4)))]),
 o1 7 (.build [(.int .i64 0), (.int .i64 0), (.int .i64 0), (.int .i64 0), (.int .i64 0), (.int .i64 0), (.int .i64 0), (.int .i64 0), (.int .i64 0), (.int .i64 0), (.int .i64 0), (.int .i64 0), (.int .i64 0), (.int .i64 0), (.int .i64 0), (.int .i64 0)] [(0, 1, (.const (.int .i64 7))), (1, 1, (.const (.int .i64 9))), (2, 1, (.const (.int .i64 3))), (3, 1, (.const (.int .i64 1))), (4, 1, (.const (.int .i64 13))), (5, 1, (.const (.int .i64 12))), (6, 1, (.const (.int .i64 11))), (7, 1, (.const (.int .i64 14))), (8, 1, (.const (.int .i64 2))), (9, 1, (.const (.int .i64 6))), (10, 1, (.const (.int .i64 5))), (11, 1, (.const (.int .i64 10))), (12, 1, (.const (.int .i64 4))), (13, 1, k0), (14, 1, (.const (.int .i64 15))), (15, 1, (.const (.int .i64 8)))]),
 o1 8 (.build [(.int .i64 0), (.int .i64 0), (.int .i64 0), (.int .i64 0), (.int .i64 0), (.int .i64 0), (.int .i64 0), (.int .i64 0), (.int .i64 0), (.int .i64 0), (.int .i64 0), (.int .i64 0), (.int .i64 0), (.int .i64 0), (.int .i64 0), (.int .i64 0)] [(0, 1, (.const (.int .i64 9))), (1, 1, k0), (2, 1, (.const (.int .i64 5))), (3, 1, (.const (.int .i64 7))), (4, 1, (.const (.int .i64 2))), (5, 1, (.const (.int .i64 4))), (6, 1, (.const (.int .i64 10))), (7, 1, (.const (.int .i64 15))), (8, 1, (.const (.int .i64 14))), (9, 1, (.const (.int .i64 1))), (10, 1, (.const (.int .i64 11))), (11, 1, (.const (.int .i64 12))), (12, 1, (.const (.int .i64 6))), (13, 1, (.const (.int .i64 8))), (14, 1, (.const (.int .i64 3))), (15, 1, (.const (.int .i64 13)))]),
 o1 9 (.build [(.int .i64 0), (.int .i64 0), (.int .i64 0), (.int .i64 0), (.int .i64 0), (.int .i64 0), (.int .i64 0), (.int .i64 0), (.int .i64 0), (.int .i64 0), (.int .i64 0), (.int .i64 0), (.int .i64 0), (.int .i64 0), (.int .i64 0), (.int .i64 0)] [(0, 1, (.const (.int .i64 2))), (1, 1, (.const (.int .i64 12))), (2, 1, (.const (.int .i64 6))), (3, 1, (.const (.int .i64 10))), (4, 1, k0), (5, 1, (.const (.int .i64 11))), (6, 1, (.const (.int .i64 8))), (7, 1, (.const (.int .i64 3))), (8, 1, (.const (.int .i64 4))), (9, 1, (.const (.int .i64 13))), (10, 1, (.const (.int .i64 7))), (11, 1, (.const (.int .i64 5))), (12, 1, (.const (.int .i64 15))), (13, 1, (.const (.int .i64 14))), (14, 1, (.const (.int .i64 1))), (15, 1, (.const (.int .i64 9)))]),
 o1 10 (.build [(.int .i64 0), (.int .i64 0), (.int .i64 0), (.int .i64 0), (.int .i64 0), (.int .i64 0), (.int .i64 0), (.int .i64 0), (.int .i64 0), (.int .i64 0), (.int .i64 0), (.int .i64 0), (.int .i64 0), (.int .i64 0), (.int .i64 0), (.int .i64 0)] [(0, 1, (.const (.int .i64 12))), (1, 1, (.const (.int .i64 5))), (2, 1, (.const (.int .i64 1))), (3, 1, (.const (.int .i64 15))), (4, 1, (.const (.int .i64 14))), (5, 1, (.const (.int .i64 13))), (6, 1, (.const (.int .i64 4))), (7, 1, (.const (.int .i64 10))), (8, 1, k0), (9, 1, (.const (.int .i64 7))), (10, 1, (.const (.int .i64 6))), (11, 1, (.const (.int .i64 3))), (12, 1, (.const (.int .i64 9))), (13, 1, (.const (.int .i64 2))), (14, 1, (.const (.int .i64 8))), (15, 1, (.const (.int .i64 11)))]),
 o1 11 (.build [(.int .i64 0), (.int .i64 0), (.int .i64 0), (.int .i64 0), (.int .i64 0), (.int .i64 0), (.int .i64 0), (.int .i64 0), (.int .i64 0), (.int .i64 0), (.int .i64 0), (.int .i64 0), (.int .i64 0), (.int .i64 0), (.int .i64 0), (.int .i64 0)] [(0, 1, (.const (.int .i64 13))), (1, 1, (.const (.int .i64 11))), (2, 1, (.const (.int .i64 7))), (3, 1, (.const (.int .i64 14))), (4, 1, (.const (.int .i64 12))), (5, 1, (.const (.int .i64 1))), (6, 1, (.const (.int .i64 3))), (7, 1, (.const (.int .i64 9))), (8, 1, (.const (.int .i64 5))), (9, 1, k0), (10, 1, (.const (.int .i64 15))), (11, 1, (.const (.int .i64 4))), (12, 1, (.const (.int .i64 8))), (13, 1, (.const (.int .i64 6))), (14, 1, (.const (.int .i64 2))), (15, 1, (.const (.int .i64 10)))]),
 o1 12 (.build [(.int .i64 0), (.int .i64 0), (.int .i64 0), (.int .i64 0), (.int .i64 0), (.int .i64 0), (.int .i64 0), (.int .i64 0), (.int .i64 0), (.int .i64 0), (.int .i64 0), (.int .i64 0), (.int .i64 0), (.int .i64 0), (.int .i64 0), (.int .i64 0)] [(0, 1, (.const (.int .i64 6))), (1, 1, (.const (.int .i64 15))), (2, 1, (.const (.int .i64 14))), (3, 1, (.const (.int .i64 9))), (4, 1, (.const (.int .i64 11))), (5, 1, (.const (.int .i64 3))), (6, 1, k0), (7, 1, (.const (.int .i64 8))), (8, 1, (.const (.int .i64 12))), (9, 1, (.const (.int .i64 2))), (10, 1, (.const (.int .i64 13))), (11, 1, (.const (.int .i64 7))), (12, 1, (.const (.int .i64 1))), (13, 1, (.const (.int .i64 4))), (14, 1, (.const (.int .i64 10))), (15, 1, (.const (.int .i64 5)))]),
 o1 13 (.build [(.int .i64 0), (.int .i64 0), (.int .i64 0), (.int .i64 0), (.int .i64 0), (.int .i64 0), (.int .i64 0), (.int .i64 0), (.int .i64 0), (.int .i64 0), (.int .i64 0), (.int .i64 0), (.int .i64 0), (.int .i64 0), (.int .i64 0), (.int .i64 0)] [(0, 1, (.const (.int .i64 10))), (1, 1, (.const (.int .i64 2))), (2, 1, (.const (.int .i64 8))), (3, 1, (.const (.int .i64 4))), (4, 1, (.const (.int .i64 7))), (5, 1, (.const (.int .i64 6))), (6, 1, (.const (.int .i64 1))), (7, 1, (.const (.int .i64 5))), (8, 1, (.const (.int .i64 15))), (9, 1, (.const (.int .i64 11))), (10, 1, (.const (.int .i64 9))), (11, 1, (.const (.int .i64 14))), (12, 1, (.const (.int .i64 3))), (13, 1, (.const (.int .i64 12))), (14, 1, (.const (.int .i64 13))), (15, 1, k0)]),
 o1 14 (.build [(.int .i64 0), (.int .i64 0), (.int .i64 0), (.int .i64 0), (.int .i64 0), (.int .i64 0), (.int .i64 0), (.int .i64 0), (.int .i64 0), (.int .i64 0), (.int .i64 0), (.int .i64 0), (.int .i64 0), (.int .i64 0), (.int .i64 0), (.int .i64 0), (.int .i64 0), (.int .i64 0), (.int .i64 0), (.int .i64 0), (.int .i64 0), (.int .i64 0), (.int .i64 0), (.int .i64 0), (.int .i64 0), (.int .i64 0), (.int .i64 0), (.int .i64 0), (.int .i64 0), (.int .i64 0), (.int .i64 0), (.int .i64 0), (.int .i64 0), (.int .i64 0), (.int .i64 0), (.int .i64 0), (.int .i64 0), (.int .i64 0), (.int .i64 0), (.int .i64 0), (.int .i64 0), (.int .i64 0), (.int .i64 0), (.int .i64 0), (.int .i64 0), (.int .i64 0), (.int .i64 0), (.int .i64 0), (.int .i64 0), (.int .i64 0), (.int .i64 0), (.int .i64 0), (.int .i64 0), (.int .i64 0), (.int .i64 0), (.int .i64 0), (.int .i64 0), (.int .i64 0), (.int .i64 0), (.int .i64 0), (.int .i64 0), (.int .i64 0), (.int .i64 0), (.int .i64 0), (.int .i64 0), (.int .i64 0), (.int .i64 0), (.int .i64 0), (.int .i64 0), (.int .i64 0), (.int .i64 0), (.int .i64 0), (.int .i64 0), (.int .i64 0), (.int .i64 0), (.int .i64 0), (.int .i64 0), (.int .i64 0), (.int .i64 0), (.int .i64 0), (.int .i64 0), (.int .i64 0), (.int .i64 0), (.int .i64 0), (.int .i64 0), (.int .i64 0), (.int .i64 0), (.int .i64 0), (.int .i64 0), (.int .i64 0), (.int .i64 0), (.int .i64 0), (.int .i64 0), (.int .i64 0), (.int .i64 0), (.int .i64 0), (.int .i64 0), (.int .i64 0), (.int .i64 0), (.int .i64 0), (.int .i64 0), (.int .i64 0), (.int .i64 0), (.int .i64 0), (.int .i64 0), (.int .i64 0), (.int .i64 0), (.int .i64 0), (.int .i64 0), (.int .i64 0), (.int .i64 0), (.int .i64 0), (.int .i64 0), (.int .i64 0), (.int .i64 0), (.int .i64 0), (.int .i64 0), (.int .i64 0), (.int .i64 0), (.int .i64 0), (.int .i64 0), (.int .i64 0), (.int .i64 0), (.int .i64 0), (.int .i64 0), (.int .i64 0), (.int .i64 0), (.int .i64 0), (.int .i64 0), (.int .i64 0), (.int .i64 0), (.int .i64 0), (.int .i64 0), (.int .i64 0), (.int .i64 0), (.int .i64 0), (.int .i64 0), (.int .i64 0), (.int .i64 0), (.int .i64 0), (.int .i64 0), (.int .i64 0), (.int .i64 0), (.int .i64 0), (.int .i64 0), (.int .i64 0), (.int .i64 0), (.int .i64 0), (.int .i64 0), (.int .i64 0), (.int .i64 0), (.int .i64 0), (.int .i64 0), (.int .i64 0), (.int .i64 0), (.int .i64 0), (.int .i64 0), (.int .i64 0), (.int .i64 0), (.int .i64 0)] [(0, 16, (tm 4)), (16, 16, (tm 5)), (32, 16, (tm 6)), (48, 16, (tm 7)), (64, 16, (tm 8)), (80, 16, (tm 9)), (96, 16, (tm 10)), (112, 16, (tm 11)), (128, 16, (tm 12)), (144, 16, (tm 13))]),
 o1 3 (.alloc 160 [(.int .i64 0), (.int .i64 0), (.int .i64 0), (.int .i64 0), (.int .i64 0), (.int .i64 0), (.int .i64 0), (.int .i64 0), (.int .i64 0), (.int .i64 0), (.int .i64 0), (.int .i64 0), (.int .i64 0), (.int .i64 0), (.int .i64 0), (.int .i64 0), (.int .i64 0), (.int .i64 0), (.int .i64 0), (.int .i64 0), (.int .i64 0), (.int .i64 0), (.int .i64 0), (.int .i64 0), (.int .i64 0), (.int .i64 0), (.int .i64 0), (.int .i64 0), (.int .i64 0), (.int .i64 0), (.int .i64 0), (.int .i64 0), (.int .i64 0), (.int .i64 0), (.int .i64 0), (.int .i64 0), (.int .i64 0), (.int .i64 0), (.int .i64 0), (.int .i64 0), (.int .i64 0), (.int .i64 0), (.int .i64 0), (.int .i64 0), (.int .i64 0), (.int .i64 0), (.int .i64 0), (.int .i64 0), (.int .i64 0), (.int .i64 0), (.int .i64 0), (.int .i64 0), (.int .i64 0), (.int .i64 0), (.int .i64 0), (.int .i64 0), (.int .i64 0), (.int .i64 0), (.int .i64 0), (.int .i64 0), (.int .i64 0), (.int .i64 0), (.int .i64 0), (.int .i64 0), (.int .i64 0), (.int .i64 0), (.int .i64 0), (.int .i64 0), (.int .i64 0), (.int .i64 0), (.int .i64 0), (.int .i64 0), (.int .i64 0), (.int .i64 0), (.int .i64 0), (.int .i64 0), (.int .i64 0), (.int .i64 0), (.int .i64 0), (.int .i64 0), (.int .i64 0), (.int .i64 0), (.int .i64 0), (.int .i64 0), (.int .i64 0), (.int .i64 0), (.int .i64 0), (.int .i64 0), (.int .i64 0), (.int .i64 0), (.int .i64 0), (.int .i64 0), (.int .i64 0), (.int .i64 0), (.int .i64 0), (.int .i64 0), (.int .i64 0), (.int .i64 0), (.int .i64 0), (.int .i64 0), (.int .i64 0), (.int .i64 0), (.int .i64 0), (.int .i64 0), (.int .i64 0), (.int .i64 0), (.int .i64 0), (.int .i64 0), (.int .i64 0), (.int .i64 0), (.int .i64 0), (.int .i64 0), (.int .i64 0), (.int .i64 0), (.int .i64 0), (.int .i64 0), (.int .i64 0), (.int .i64 0), (.int .i64 0), (.int .i64 0), (.int .i64 0), (.int .i64 0), (.int .i64 0), (.int .i64 0), (.int .i64 0), (.int .i64 0), (.int .i64 0), (.int .i64 0), (.int .i64 0), (.int .i64 0), (.int .i64 0), (.int .i64 0), (.int .i64 0), (.int .i64 0), (.int .i64 0), (.int .i64 0), (.int .i64 0), (.int .i64 0), (.int .i64 0), (.int .i64 0), (.int .i64 0), (.int .i64 0), (.int .i64 0), (.int .i64 0), (.int .i64 0), (.int .i64 0), (.int .i64 0), (.int .i64 0), (.int .i64 0), (.int .i64 0), (.int .i64 0), (.int .i64 0), (.int .i64 0), (.int .i64 0), (.int .i64 0), (.int .i64 0), (.int .i64 0), (.int .i64 0), (.int .i64 0), (.int .i64 0)]),
 o3 (.store 160 (tm 3) (tm 14))]) (.seq (.region [
 o1 15 (.mov (tm 0)),
 o1 16 (.indexArr 10 16 (tm 3) (tm 15)),
 o1 17 (.load (some 16) (tm 16)),
 o3 (.store 16 (tm 2) (tm 17))]) .ret)))
def zkcQ : AFunc := ⟨18, [(2, some (some 16))], zkcQ_c, none⟩
theorem zkcQ_t0 : tableOf Tryz.prog 85 = some zkcQ := by kernel_rfl
theorem zkcQ_t : T0 85 = some zkcQ := withKept_t rfl (withTrue_t rfl zkcQ_t0)
theorem zkcQ_runs {v0 : Value} {h : Heap} {R : RP} {X : XP} (k : RunC Tryz.prog T0 zkcQ_c ⟨[v0, U, U, U, U, U, U, U, U, U, U, U, U, U, U, U, U, U], [], h, none⟩ (bodyQ Tryz.prog T0 [(2, some (some 16))] R X)) :
 Runs Tryz.prog T0 (.fn 85) [v0] h R X := Runs.fn zkcQ_t rfl k
abbrev fn_zjcQ : FuncId := 86
def zjcQ_c : ACode :=
 (.seq (.region [
 o1 7 (.box 147 (tm 0)),
 o1 14 (.alloc 147 [(.int .u32 0), (.int .u32 0), (.int .u32 0), (.int .u32 0), (.int .u32 0), (.int .u32 0), (.int .u32 0), (.int .u32 0), (.int .u32 0), (.int .u32 0), (.int .u32 0), (.int .u32 0), (.int .u32 0), (.int .u32 0), (.int .u32 0), (.int .u32 0)])]) (.seq (.regionD [
 o1 15 (.mov (tm 1)),
 o1 16 (.mov (tm 1)),
 o1 17 (.indexArr 16 1 (tm 7) (tm 16)),
 o1 18 (.load none (tm 17)),
 o1 19 (.mov (tm 2)),
 o1 20 (.indexArr 16 1 (tm 7) (tm 19)),
 o1 21 (.load none (tm 20)),
 o1 22 (.bin .add (so (.binOp .add 120 (tm 18) (tm 21) 120) 120) (tm 18) (tm 21)),
 o1 23 (.mov (tm 5)),
 o1 24 (.bin .add (so (.binOp .add 120 (tm 22) (tm 23) 120) 120) (tm 22) (tm 23)),
 o2 25 (.indexArr 16 1 (tm 7) (tm 15)),
 ⟨none, .store 1 (tm 25) (tm 24), none, [], true⟩]) (.seq (.regionD [
 o1 26 (.mov (tm 4)),
 o1 27 (.mov (tm 4)),
 o1 28 (.indexArr 16 1 (tm 7) (tm 27)),
 o1 29 (.load none (tm 28)),
 o1 30 (.mov (tm 1)),
 o1 31 (.indexArr 16 1 (tm 7) (tm 30)),
 o1 32 (.load none (tm 31)),
 o1 33 (.bin .xor (so (.binOp .xor 120 (tm 29) (tm 32) 120) 120) (tm 29) (tm 32)),
 ⟨some 34, .callV (.func 98) [(tm 33), (.const (.int .u64 16))], none, [(some 26, .mov (tm 4), none)], false⟩,
 o2 35 (.indexArr 16 1 (tm 7) (tm 26)),
 ⟨none, .store 1 (tm 35) (tm 34), none, [], true⟩]) (.seq (.regionD [
 o1 36 (.mov (tm 3)),
 o1 37 (.mov (tm 3)),
 o1 38 (.indexArr 16 1 (tm 7) (tm 37)),
 o1 39 (.load none (tm 38)),
 o1 40 (.mov (tm 4)),
 o1 41 (.indexArr 16 1 (tm 7) (tm 40)),
 o1 42 (.load none (tm 41)),
 o1 43 (.bin .add (so (.binOp .add 120 (tm 39) (tm 42) 120) 120) (tm 39) (tm 42)),
 o2 44 (.indexArr 16 1 (tm 7) (tm 36)),
 ⟨none, .store 1 (tm 44) (tm 43), none, [], true⟩]) (.seq (.regionD [
 o1 45 (.mov (tm 2)),
 o1 46 (.mov (tm 2)),
 o1 47 (.indexArr 16 1 (tm 7) (tm 46)),
 o1 48 (.load none (tm 47)),
 o1 49 (.mov (tm 3)),
 o1 50 (.indexArr 16 1 (tm 7) (tm 49)),
 o1 51 (.load none (tm 50)),
 o1 52 (.bin .xor (so (.binOp .xor 120 (tm 48) (tm 51) 120) 120) (tm 48) (tm 51)),
 ⟨some 53, .callV (.func 98) [(tm 52), (.const (.int .u64 12))], none, [(some 45, .mov (tm 2), none)], false⟩,
 o2 54 (.indexArr 16 1 (tm 7) (tm 45)),
 ⟨none, .store 1 (tm 54) (tm 53), none, [], true⟩]) (.seq (.regionD [
 o1 55 (.mov (tm 1)),
 o1 56 (.mov (tm 1)),
 o1 57 (.indexArr 16 1 (tm 7) (tm 56)),
 o1 58 (.load none (tm 57)),
 o1 59 (.mov (tm 2)),
 o1 60 (.indexArr 16 1 (tm 7) (tm 59)),
 o1 61 (.load none (tm 60)),
 o1 62 (.bin .add (so (.binOp .add 120 (tm 58) (tm 61) 120) 120) (tm 58) (tm 61)),
 o1 63 (.mov (tm 6)),
 o1 64 (.bin .add (so (.binOp .add 120 (tm 62) (tm 63) 120) 120) (tm 62) (tm 63)),
 o2 65 (.indexArr 16 1 (tm 7) (tm 55)),
 ⟨none, .store 1 (tm 65) (tm 64), none, [], true⟩]) (.seq (.regionD [
 o1 66 (.mov (tm 4)),
 o1 67 (.mov (tm 4)),
 o1 68 (.indexArr 16 1 (tm 7) (tm 67)),
 o1 69 (.load none (tm 68)),
 o1 70 (.mov (tm 1)),
 o1 71 (.indexArr 16 1 (tm 7) (tm 70)),
 o1 72 (.load none (tm 71)),
 o1 73 (.bin .xor (so (.binOp .xor 120 (tm 69) (tm 72) 120) 120) (tm 69) (tm 72)),
 ⟨some 74, .callV (.func 98) [(tm 73), (.const (.int .u64 8))], none, [(some 66, .mov (tm 4), none)], false⟩,
 o2 75 (.indexArr 16 1 (tm 7) (tm 66)),
 ⟨none, .store 1 (tm 75) (tm 74), none, [], true⟩]) (.seq (.regionD [
 o1 76 (.mov (tm 3)),
 o1 77 (.mov (tm 3)),
 o1 78 (.indexArr 16 1 (tm 7) (tm 77)),
 o1 79 (.load none (tm 78)),
 o1 80 (.mov (tm 4)),
 o1 81 (.indexArr 16 1 (tm 7) (tm 80)),
 o1 82 (.load none (tm 81)),
 o1 83 (.bin .add (so (.binOp .add 120 (tm 79) (tm 82) 120) 120) (tm 79) (tm 82)),
 o2 84 (.indexArr 16 1 (tm 7) (tm 76)),
 ⟨none, .store 1 (tm 84) (tm 83), none, [], true⟩]) (.seq (.regionD [
 o1 85 (.mov (tm 2)),
 o1 86 (.mov (tm 2)),
 o1 87 (.indexArr 16 1 (tm 7) (tm 86)),
 o1 88 (.load none (tm 87)),
 o1 89 (.mov (tm 3)),
 o1 90 (.indexArr 16 1 (tm 7) (tm 89)),
 o1 91 (.load none (tm 90)),
 o1 92 (.bin .xor (so (.binOp .xor 120 (tm 88) (tm 91) 120) 120) (tm 88) (tm 91)),
 ⟨some 93, .callV (.func 98) [(tm 92), (.const (.int .u64 7))], none, [(some 85, .mov (tm 2), none)], false⟩,
 o2 94 (.indexArr 16 1 (tm 7) (tm 85)),
 ⟨none, .store 1 (tm 94) (tm 93), none, [], true⟩]) (.seq (.region [
 o1 95 (.load (some 16) (tm 7)),
 o3 (.store 16 (tm 14) (tm 95))]) .ret))))))))))
def zjcQ : AFunc := ⟨96, [(14, some (some 16))], zjcQ_c, none⟩
theorem zjcQ_t0 : tableOf Tryz.prog 86 = some zjcQ := by kernel_rfl
theorem zjcQ_t : T0 86 = some zjcQ := withKept_t rfl (withTrue_t rfl zjcQ_t0)
theorem zjcQ_runs {v0 v1 v2 v3 v4 v5 v6 : Value} {h : Heap} {R : RP} {X : XP} (k : RunC Tryz.prog T0 zjcQ_c ⟨[v0, v1, v2, v3, v4, v5, v6, U, U, U, U, U, U, U, U, U, U, U, U, U, U, U, U, U, U, U, U, U, U, U, U, U, U, U, U, U, U, U, U, U, U, U, U, U, U, U, U, U, U, U, U, U, U, U, U, U, U, U, U, U, U, U, U, U, U, U, U, U, U, U, U, U, U, U, U, U, U, U, U, U, U, U, U, U, U, U, U, U, U, U, U, U, U, U, U, U], [], h, none⟩ (bodyQ Tryz.prog T0 [(14, some (some 16))] R X)) :
 Runs Tryz.prog T0 (.fn 86) [v0, v1, v2, v3, v4, v5, v6] h R X := Runs.fn zjcQ_t rfl k
abbrev fn_zjbQ : FuncId := 87
def zjbQ_c : ACode :=
 (.seq (.region [
 o1 1 (.box 25 (tm 0)),
 o1 2 (.mov (.const (.bool false)))]) (.seq (.region [
 o1 3 (.fieldAddr 0 (tm 1)),
 o1 4 (.load none (tm 3)),
 o1 5 (.callV (.func 88) [(tm 4)]),
 o1 2 (.mov (tm 5))]) .ret))
def zjbQ : AFunc := ⟨6, [(2, none)], zjbQ_c, none⟩
theorem zjbQ_t0 : tableOf Tryz.prog 87 = some zjbQ := by kernel_rfl
theorem zjbQ_t : T0 87 = some zjbQ := withKept_t rfl (withTrue_t rfl zjbQ_t0)
theorem zjbQ_runs {v0 : Value} {h : Heap} {R : RP} {X : XP} (k : RunC Tryz.prog T0 zjbQ_c ⟨[v0, U, U, U, U, U], [], h, none⟩ (bodyQ Tryz.prog T0 [(2, none)] R X)) :
 Runs Tryz.prog T0 (.fn 87) [v0] h R X := Runs.fn zjbQ_t rfl k
abbrev fn_zebQ : FuncId := 88
def zebQ_c : ACode :=
 (.seq (.region [
 o1 2 (.mov (.const (.bool false)))]) (.seq (.region [
 o1 3 (.mov (tm 0)),
 o1 4 (.lenStr (tm 3)),
 o1 5 (.bin .geq (so (.binOp .geq 3 (tm 4) (.const (.int .i64 1)) 3) 4) (tm 4) (.const (.int .i64 1))),
 o1 6 (.mov (tm 5)),
 o4 7 (.mov (tm 0)) 6,
 o4 8 (.lenStr (tm 7)) 6,
 o4 9 (.bin .leq (so (.binOp .leq 3 (tm 8) (.const (.int .i64 32)) 3) 4) (tm 8) (.const (.int .i64 32))) 6,
 o1 10 (.pick (tm 6) (tm 9) (.const (.bool false))),
 o1 11 (.mov (tm 10)),
 o4 12 (.mov (tm 0)) 11,
 o4 13 (.callV (.func 99) [(tm 12), (.func 100)]) 11,
 o1 14 (.pick (tm 11) (tm 13) (.const (.bool false))),
 o1 2 (.mov (tm 14))]) .ret))
def zebQ : AFunc := ⟨15, [(2, none)], zebQ_c, none⟩
theorem zebQ_t0 : tableOf Tryz.prog 88 = some zebQ := by kernel_rfl
theorem zebQ_t : T0 88 = some zebQ := withKept_t rfl (withTrue_t rfl zebQ_t0)
theorem zebQ_runs {v0 : Value} {h : Heap} {R : RP} {X : XP} (k : RunC Tryz.prog T0 zebQ_c ⟨[v0, U, U, U, U, U, U, U, U, U, U, U, U, U, U], [], h, none⟩ (bodyQ Tryz.prog T0 [(2, none)] R X)) :
 Runs Tryz.prog T0 (.fn 88) [v0] h R X := Runs.fn zebQ_t rfl k
abbrev fn_zkbQ : FuncId := 89
def zkbQ_c : ACode :=
 (.seq (.region [
 o1 1 (.box 25 (tm 0)),
 o1 2 (.mov (.const (.bool false)))]) (.seq (.region [
 o1 3 (.fieldAddr 1 (tm 1)),
 o1 4 (.load none (tm 3)),
 o1 5 (.bin .geq (so (.binOp .geq 3 (tm 4) (.const (.int .i64 1)) 3) 4) (tm 4) (.const (.int .i64 1))),
 o1 6 (.mov (tm 5)),
 o4 7 (.fieldAddr 1 (tm 1)) 6,
 o4 8 (.load none (tm 7)) 6,
 o4 9 (.bin .leq (so (.binOp .leq 3 (tm 8) (.const (.int .i64 1073741824)) 3) 4) (tm 8) (.const (.int .i64 1073741824))) 6,
 o1 10 (.pick (tm 6) (tm 9) (.const (.bool false))),
 o1 2 (.mov (tm 10))]) .ret))
def zkbQ : AFunc := ⟨11, [(2, none)], zkbQ_c, none⟩
theorem zkbQ_t0 : tableOf Tryz.prog 89 = some zkbQ := by kernel_rfl
theorem zkbQ_t : T0 89 = some zkbQ := withKept_t rfl (withTrue_t rfl zkbQ_t0)
theorem zkbQ_runs {v0 : Value} {h : Heap} {R : RP} {X : XP} (k : RunC Tryz.prog T0 zkbQ_c ⟨[v0, U, U, U, U, U, U, U, U, U, U], [], h, none⟩ (bodyQ Tryz.prog T0 [(2, none)] R X)) :
 Runs Tryz.prog T0 (.fn 89) [v0] h R X := Runs.fn zkbQ_t rfl k
abbrev fn_zlbQ : FuncId := 90
def zlbQ_c : ACode :=
 (.seq (.region [
 o1 1 (.box 25 (tm 0)),
 o1 2 (.mov (.const (.bool false)))]) (.seq (.region [
 o1 3 (.fieldAddr 2 (tm 1)),
 o1 4 (.load none (tm 3)),
 o1 5 (.bin .geq (so (.binOp .geq 3 (tm 4) k0 3) 4) (tm 4) k0),
 o1 6 (.mov (tm 5)),
 o4 7 (.fieldAddr 2 (tm 1)) 6,
 o4 8 (.load none (tm 7)) 6,
 o4 9 (.bin .leq (so (.binOp .leq 3 (tm 8) (.const (.int .i64 1099511627776)) 3) 4) (tm 8) (.const (.int .i64 1099511627776))) 6,
 o1 10 (.pick (tm 6) (tm 9) (.const (.bool false))),
 o1 2 (.mov (tm 10))]) .ret))
def zlbQ : AFunc := ⟨11, [(2, none)], zlbQ_c, none⟩
theorem zlbQ_t0 : tableOf Tryz.prog 90 = some zlbQ := by kernel_rfl
theorem zlbQ_t : T0 90 = some zlbQ := withKept_t rfl (withTrue_t rfl zlbQ_t0)
theorem zlbQ_runs {v0 : Value} {h : Heap} {R : RP} {X : XP} (k : RunC Tryz.prog T0 zlbQ_c ⟨[v0, U, U, U, U, U, U, U, U, U, U], [], h, none⟩ (bodyQ Tryz.prog T0 [(2, none)] R X)) :
 Runs Tryz.prog T0 (.fn 90) [v0] h R X := Runs.fn zlbQ_t rfl k
abbrev fn_zldQ : FuncId := 91
def zldQ_l0 : ACode :=
 (.seq (.region [
 o1 12 (.bin .lss (so (.binOp .lss 3 (tm 11) (tm 10) 3) 0) (tm 11) (tm 10))]) (.seq (.cond (tm 12)
 .skip
 (.exit 0)) (.seq (.block 1 (.seq (.region [
 o1 13 (.indexSl 1 (tm 9) (tm 11)),
 o1 14 (.load none (tm 13)),
 o1 5 (.mov (tm 14))]) (.seq (.region [
 o1 15 (.mov (tm 3)),
 o1 16 (.mov (tm 5)),
 o1 17 (.lenSl (tm 16)),
 o1 18 (.bin .add (so (.binOp .add 3 (tm 15) (tm 17) 3) 3) (tm 15) (tm 17)),
 o1 3 (.mov (tm 18))]) (.seq (.region [
 o1 19 (.mov (tm 3)),
 o1 20 (.bin .lss (so (.binOp .lss 3 (tm 19) k0 3) 4) (tm 19) k0)]) (.cond (tm 20)
 (.region [
 o1 21 (.mkIface 9 (.const (.string ⟨⟨[108, 101, 110, 32, 111, 117, 116, 32, 111, 102, 32, 114, 97, 110, 103, 101]⟩⟩))),
 o3 (.panic (tm 21))])
 .skip))))) (.region [
 o1 22 (.bin .add (so (.binOp .add 3 (tm 11) (.const (.int .i64 1)) 3) 3) (tm 11) (.const (.int .i64 1))),
 o1 11 (.mov (tm 22))]))))
def zldQ_l1 : ACode :=
 (.seq (.region [
 o1 28 (.bin .lss (so (.binOp .lss 3 (tm 27) (tm 26) 3) 0) (tm 27) (tm 26))]) (.seq (.cond (tm 28)
 .skip
 (.exit 2)) (.seq (.block 3 (.seq (.region [
 o1 29 (.indexSl 1 (tm 25) (tm 27)),
 o1 30 (.load none (tm 29)),
 o1 8 (.mov (tm 30))]) (.region [
 o1 31 (.mov (tm 6)),
 o1 32 (.mov (tm 8)),
 o1 33 (.append 5 1 1 [(.int .u8 0)] false (tm 31) (tm 32)),
 o1 6 (.mov (tm 33))]))) (.region [
 o1 34 (.bin .add (so (.binOp .add 3 (tm 27) (.const (.int .i64 1)) 3) 3) (tm 27) (.const (.int .i64 1))),
 o1 27 (.mov (tm 34))]))))
def zldQ_c : ACode :=
 (.seq (.region [
 o1 2 (.mov (.const (.slice none 0 0)))]) (.seq (.region [
 o1 3 (.mov k0)]) (.seq (.seq (.region [
 o1 9 (.mov (tm 0)),
 o1 10 (.lenSl (tm 9)),
 o1 11 (.mov k0)]) (.block 0 (.loop zldQ_l0))) (.seq (.region [
 o1 23 (.mov (tm 3)),
 o1 24 (.callV (.func 101) [(.const (.slice none 0 0)), (tm 23)]),
 o1 6 (.mov (tm 24))]) (.seq (.seq (.region [
 o1 25 (.mov (tm 0)),
 o1 26 (.lenSl (tm 25)),
 o1 27 (.mov k0)]) (.block 2 (.loop zldQ_l1))) (.seq (.region [
 o1 35 (.mov (tm 6)),
 o1 2 (.mov (tm 35))]) .ret))))))
def zldQ : AFunc := ⟨36, [(2, none)], zldQ_c, none⟩
theorem zldQ_t0 : tableOf Tryz.prog 91 = some zldQ := by kernel_rfl
theorem zldQ_t : T0 91 = some zldQ := withKept_t rfl (withTrue_t rfl zldQ_t0)
theorem zldQ_runs {v0 : Value} {h : Heap} {R : RP} {X : XP} (k : RunC Tryz.prog T0 zldQ_c ⟨[v0, U, U, U, U, U, U, U, U, U, U, U, U, U, U, U, U, U, U, U, U, U, U, U, U, U, U, U, U, U, U, U, U, U, U, U], [], h, none⟩ (bodyQ Tryz.prog T0 [(2, none)] R X)) :
 Runs Tryz.prog T0 (.fn 91) [v0] h R X := Runs.fn zldQ_t rfl k
abbrev zldQ_l0_M : List Nat := [0, 0, 0, 2, 0, 1, 0, 0, 0, 0, 0, 2, 1, 1, 1, 1, 1, 1, 1, 1, 1, 1, 1, 0, 0, 0, 0, 0, 0, 0, 0, 0, 0, 0, 0, 0]
abbrev zldQ_l1_M : List Nat := [0, 0, 0, 0, 0, 0, 2, 0, 1, 0, 0, 0, 0, 0, 0, 0, 0, 0, 0, 0, 0, 0, 0, 0, 0, 0, 0, 2, 1, 1, 1, 1, 1, 1, 1, 0]
abbrev fn_zscQ : FuncId := 95
def zscQ_c : ACode :=
 (.seq (.region [
 o1 4 (.mov k0)]) (.seq (.seq (.regionD [
 o2 5 (.mov (tm 0)),
 o2 6 (.nilCheck (tm 5)),
 o2 7 (.fieldAddr 2 (tm 6)),
 o2 8 (.load none (tm 7)),
 o2 9 (.bin .eql (so (.binOp .eql 40 (tm 8) k0 40) 4) (tm 8) k0),
 o2 10 (.mov (tm 9)),
 o4 11 (.mov (tm 0)) 10,
 o4 12 (.nilCheck (tm 11)) 10,
 o4 13 (.fieldAddr 1 (tm 12)) 10,
 o4 14 (.load none (tm 13)) 10,
 o4 15 (.lenSl (tm 14)) 10,
 o4 16 (.mov (tm 1)) 10,
 o4 17 (.lenSl (tm 16)) 10,
 o4 18 (.bin .add (so (.binOp .add 3 (tm 15) (tm 17) 3) 3) (tm 15) (tm 17)) 10,
 o4 19 (.mov (tm 0)) 10,
 o4 20 (.nilCheck (tm 19)) 10,
 o4 21 (.fieldAddr 0 (tm 20)) 10,
 o4 22 (.load none (tm 21)) 10,
 ⟨some 23, .bin .gtr (so (.binOp .gtr 3 (tm 18) (tm 22) 3) 4) (tm 18) (tm 22), some (10, true), [], true⟩,
 o2 24 (.pick (tm 10) (tm 23) (.const (.bool false)))]) (.cond (tm 24)
 (.region [
 o1 25 (.mov (tm 0)),
 o1 26 (.nilCheck (tm 25)),
 o1 27 (.fieldAddr 2 (tm 26)),
 o3 (.store 1 (tm 27) (.const (.int .i64 4)))])
 .skip)) (.seq (.seq (.region [
 o1 28 (.mov (tm 0)),
 o1 29 (.nilCheck (tm 28)),
 o1 30 (.fieldAddr 2 (tm 29)),
 o1 31 (.load none (tm 30)),
 o1 32 (.bin .eql (so (.binOp .eql 40 (tm 31) k0 40) 4) (tm 31) k0)]) (.cond (tm 32)
 (.region [
 o1 33 (.mov (tm 0)),
 o1 34 (.buildSlice 5 [] 0 []),
 o1 35 (.mov (tm 0)),
 o1 36 (.nilCheck (tm 35)),
 o1 37 (.fieldAddr 1 (tm 36)),
 o1 38 (.load none (tm 37)),
 o1 39 (.append 5 1 1 [(.int .u8 0)] false (tm 34) (tm 38)),
 o1 40 (.mov (tm 1)),
 o1 41 (.append 5 1 1 [(.int .u8 0)] false (tm 39) (tm 40)),
 o1 42 (.nilCheck (tm 33)),
 o1 43 (.fieldAddr 1 (tm 42)),
 o3 (.store 1 (tm 43) (tm 41))])
 .skip)) (.seq (.region [
 o1 44 (.mov (tm 0)),
 o1 45 (.nilCheck (tm 44)),
 o1 46 (.fieldAddr 2 (tm 45)),
 o1 47 (.load none (tm 46)),
 o1 4 (.mov (tm 47))]) .ret))))
def zscQ : AFunc := ⟨48, [(4, none)], zscQ_c, none⟩
theorem zscQ_t0 : tableOf Tryz.prog 95 = some zscQ := by kernel_rfl
theorem zscQ_t : T0 95 = some zscQ := withKept_t rfl (withTrue_t rfl zscQ_t0)
theorem zscQ_runs {v0 v1 : Value} {h : Heap} {R : RP} {X : XP} (k : RunC Tryz.prog T0 zscQ_c ⟨[v0, v1, U, U, U, U, U, U, U, U, U, U, U, U, U, U, U, U, U, U, U, U, U, U, U, U, U, U, U, U, U, U, U, U, U, U, U, U, U, U, U, U, U, U, U, U, U, U], [], h, none⟩ (bodyQ Tryz.prog T0 [(4, none)] R X)) :
 Runs Tryz.prog T0 (.fn 95) [v0, v1] h R X := Runs.fn zscQ_t rfl k
abbrev fn_zmcQ : FuncId := 96
def zmcQ_c : ACode :=
 (.seq (.region [
 o1 2 (.mov (.const (.slice none 0 0)))]) (.seq (.region [
 o1 3 (.mov (tm 0)),
 o1 4 (.lenSl (tm 3)),
 o1 5 (.callV (.func 97) [(tm 4)]),
 o1 6 (.mov (tm 0)),
 o1 7 (.append 5 1 1 [(.int .u8 0)] false (tm 5) (tm 6)),
 o1 2 (.mov (tm 7))]) .ret))
def zmcQ : AFunc := ⟨8, [(2, none)], zmcQ_c, none⟩
theorem zmcQ_t0 : tableOf Tryz.prog 96 = some zmcQ := by kernel_rfl
theorem zmcQ_t : T0 96 = some zmcQ := withKept_t rfl (withTrue_t rfl zmcQ_t0)
theorem zmcQ_runs {v0 : Value} {h : Heap} {R : RP} {X : XP} (k : RunC Tryz.prog T0 zmcQ_c ⟨[v0, U, U, U, U, U, U, U], [], h, none⟩ (bodyQ Tryz.prog T0 [(2, none)] R X)) :
 Runs Tryz.prog T0 (.fn 96) [v0] h R X := Runs.fn zmcQ_t rfl k
abbrev fn_zocQ : FuncId := 97
def zocQ_l0 : ACode :=
 (.seq (.seq (.region [
 o1 4 (.mov (tm 0)),
 o1 5 (.bin .gtr (so (.binOp .gtr 3 (tm 4) k0 3) 4) (tm 4) k0)]) (.cond (tm 5)
 .skip
 (.exit 0))) (.block 1 (.seq (.region [
 o1 6 (.mov (tm 0)),
 o1 7 (.conv .u8 (so (.convert 3 5 (tm 6)) 5) (tm 6)),
 o1 8 (.buildSlice 5 [(.int .u8 0)] 1 [(0, 1, (tm 7))]),
 o1 9 (.mov (tm 3)),
 o1 10 (.append 5 1 1 [(.int .u8 0)] false (tm 8) (tm 9)),
 o1 3 (.mov (tm 10))]) (.region [
 o1 11 (.mov (tm 0)),
 o1 12 (.bin .shr (so (.binOp .shr 3 (tm 11) (.const (.int .u64 8)) 124) 3) (tm 11) (.const (.int .u64 8))),
 o1 0 (.mov (tm 12))]))))
def zocQ_c : ACode :=
 (.seq (.region [
 o1 2 (.mov (.const (.slice none 0 0)))]) (.seq (.region [
 o1 3 (.mov (.const (.slice none 0 0)))]) (.seq (.block 0 (.loop zocQ_l0)) (.seq (.region [
 o1 13 (.mov (tm 3)),
 o1 14 (.lenSl (tm 13)),
 o1 15 (.conv .u8 (so (.convert 3 5 (tm 14)) 5) (tm 14)),
 o1 16 (.buildSlice 5 [(.int .u8 0)] 1 [(0, 1, (tm 15))]),
 o1 17 (.mov (tm 3)),
 o1 18 (.append 5 1 1 [(.int .u8 0)] false (tm 16) (tm 17)),
 o1 2 (.mov (tm 18))]) .ret))))
def zocQ : AFunc := ⟨19, [(2, none)], zocQ_c, none⟩
theorem zocQ_t0 : tableOf Tryz.prog 97 = some zocQ := by kernel_rfl
theorem zocQ_t : T0 97 = some zocQ := withKept_t rfl (withTrue_t rfl zocQ_t0)
theorem zocQ_runs {v0 : Value} {h : Heap} {R : RP} {X : XP} (k : RunC Tryz.prog T0 zocQ_c ⟨[v0, U, U, U, U, U, U, U, U, U, U, U, U, U, U, U, U, U, U], [], h, none⟩ (bodyQ Tryz.prog T0 [(2, none)] R X)) :
 Runs Tryz.prog T0 (.fn 97) [v0] h R X := Runs.fn zocQ_t rfl k
abbrev zocQ_l0_M : List Nat := [2, 0, 0, 2, 1, 1, 1, 1, 1, 1, 1, 1, 1, 0, 0, 0, 0, 0, 0]
abbrev fn_zlcQ : FuncId := 98
def zlcQ_c : ACode :=
 (.seq (.region [
 o1 4 (.mov (.const (.int .u32 0)))]) (.seq (.region [
 o1 5 (.mov (tm 0)),
 o1 6 (.mov (tm 1)),
 o1 7 (.bin .shr (so (.binOp .shr 120 (tm 5) (tm 6) 124) 120) (tm 5) (tm 6)),
 o1 8 (.mov (tm 0)),
 o1 9 (.mov (tm 1)),
 o1 10 (.bin .sub (so (.binOp .sub 124 (.const (.int .u64 32)) (tm 9) 124) 124) (.const (.int .u64 32)) (tm 9)),
 o1 11 (.bin .shl (so (.binOp .shl 120 (tm 8) (tm 10) 124) 120) (tm 8) (tm 10)),
 o1 12 (.bin .or (so (.binOp .or 120 (tm 7) (tm 11) 120) 120) (tm 7) (tm 11)),
 o1 4 (.mov (tm 12))]) .ret))
def zlcQ : AFunc := ⟨13, [(4, none)], zlcQ_c, none⟩
theorem zlcQ_t0 : tableOf Tryz.prog 98 = some zlcQ := by kernel_rfl
theorem zlcQ_t : T0 98 = some zlcQ := withKept_t rfl (withTrue_t rfl zlcQ_t0)
theorem zlcQ_runs {v0 v1 : Value} {h : Heap} {R : RP} {X : XP} (k : RunC Tryz.prog T0 zlcQ_c ⟨[v0, v1, U, U, U, U, U, U, U, U, U, U, U], [], h, none⟩ (bodyQ Tryz.prog T0 [(4, none)] R X)) :
 Runs Tryz.prog T0 (.fn 98) [v0, v1] h R X := Runs.fn zlcQ_t rfl k
abbrev fn_zfbQ : FuncId := 99
def zfbQ_l0 : ACode :=
 (.seq (.region [
 o1 9 (.nextStr (tm 8)),
 o1 10 (.extract 0 (tm 9))]) (.seq (.cond (tm 10)
 .skip
 (.exit 0)) (.block 1 (.seq (.region [
 o1 11 (.extract 2 (tm 9)),
 o1 6 (.mov (tm 11))]) (.seq (.region [
 o1 12 (.mov (tm 1)),
 o1 13 (.mov (tm 6)),
 o1 14 (.callV (tm 12) [(tm 13)]),
 o1 15 (.raw (so (.unOp .not 4 (tm 14)) 4))]) (.cond (tm 15)
 (.seq (.region [
 o1 4 (.mov (.const (.bool false)))]) .ret)
 .skip))))))
def zfbQ_c : ACode :=
 (.seq (.region [
 o1 4 (.mov (.const (.bool false)))]) (.seq (.seq (.region [
 o1 7 (.mov (tm 0)),
 o1 8 (.rangeStr (tm 7))]) (.block 0 (.loop zfbQ_l0))) (.seq (.region [
 o1 4 (.mov (.const (.bool true)))]) .ret)))
def zfbQ : AFunc := ⟨16, [(4, none)], zfbQ_c, none⟩
theorem zfbQ_t0 : tableOf Tryz.prog 99 = some zfbQ := by kernel_rfl
theorem zfbQ_t : T0 99 = some zfbQ := withKept_t rfl (withTrue_t rfl zfbQ_t0)
theorem zfbQ_runs {v0 v1 : Value} {h : Heap} {R : RP} {X : XP} (k : RunC Tryz.prog T0 zfbQ_c ⟨[v0, v1, U, U, U, U, U, U, U, U, U, U, U, U, U, U], [], h, none⟩ (bodyQ Tryz.prog T0 [(4, none)] R X)) :
 Runs Tryz.prog T0 (.fn 99) [v0, v1] h R X := Runs.fn zfbQ_t rfl k
abbrev zfbQ_l0_M : List Nat := [0, 0, 0, 0, 1, 0, 1, 0, 0, 1, 1, 1, 1, 1, 1, 1]
abbrev fn_zhbQ : FuncId := 100
def zhbQ_c : ACode :=
 (.seq (.region [
 o1 2 (.mov (.const (.bool false)))]) (.seq (.region [
 o1 3 (.mov (tm 0)),
 o1 4 (.bin .geq (so (.binOp .geq 21 (tm 3) (.const (.int .i32 97)) 21) 4) (tm 3) (.const (.int .i32 97))),
 o1 5 (.mov (tm 4)),
 o4 6 (.mov (tm 0)) 5,
 o4 7 (.bin .leq (so (.binOp .leq 21 (tm 6) (.const (.int .i32 122)) 21) 4) (tm 6) (.const (.int .i32 122))) 5,
 o1 8 (.pick (tm 5) (tm 7) (.const (.bool false))),
 o1 9 (.mov (tm 8)),
 o5 10 (.mov (tm 0)) 9,
 o5 11 (.bin .geq (so (.binOp .geq 21 (tm 10) (.const (.int .i32 48)) 21) 4) (tm 10) (.const (.int .i32 48))) 9,
 o5 12 (.mov (tm 11)) 9,
 o4 13 (.mov (tm 0)) 12,
 o4 14 (.bin .leq (so (.binOp .leq 21 (tm 13) (.const (.int .i32 57)) 21) 4) (tm 13) (.const (.int .i32 57))) 12,
 o5 15 (.pick (tm 12) (tm 14) (.const (.bool false))) 9,
 o1 16 (.pick (tm 9) (.const (.bool true)) (tm 15)),
 o1 17 (.mov (tm 16)),
 o5 18 (.mov (tm 0)) 17,
 o5 19 (.bin .eql (so (.binOp .eql 21 (tm 18) (.const (.int .i32 45)) 21) 4) (tm 18) (.const (.int .i32 45))) 17,
 o1 20 (.pick (tm 17) (.const (.bool true)) (tm 19)),
 o1 2 (.mov (tm 20))]) .ret))
def zhbQ : AFunc := ⟨21, [(2, none)], zhbQ_c, none⟩
theorem zhbQ_t0 : tableOf Tryz.prog 100 = some zhbQ := by kernel_rfl
theorem zhbQ_t : T0 100 = some zhbQ := withKept_t rfl (withTrue_t rfl zhbQ_t0)
theorem zhbQ_runs {v0 : Value} {h : Heap} {R : RP} {X : XP} (k : RunC Tryz.prog T0 zhbQ_c ⟨[v0, U, U, U, U, U, U, U, U, U, U, U, U, U, U, U, U, U, U, U, U], [], h, none⟩ (bodyQ Tryz.prog T0 [(2, none)] R X)) :
 Runs Tryz.prog T0 (.fn 100) [v0] h R X := Runs.fn zhbQ_t rfl k
abbrev fn_zmdQ : FuncId := 101
def zmdQ_c : ACode :=
 (.seq (.region [
 o1 4 (.mov (.const (.slice none 0 0)))]) (.seq (.seq (.region [
 o1 5 (.mov (tm 1)),
 o1 6 (.bin .lss (so (.binOp .lss 3 (tm 5) k0 3) 4) (tm 5) k0)]) (.cond (tm 6)
 (.region [
 o1 7 (.mkIface 9 (.const (.string ⟨⟨[99, 97, 110, 110, 111, 116, 32, 98, 101, 32, 110, 101, 103, 97, 116, 105, 118, 101]⟩⟩))),
 o3 (.panic (tm 7))])
 .skip)) (.seq (.seq (.region [
 o1 8 (.mov (tm 1)),
 o1 9 (.mov (tm 0)),
 o1 10 (.cap (tm 9)),
 o1 11 (.mov (tm 0)),
 o1 12 (.lenSl (tm 11)),
 o1 13 (.bin .sub (so (.binOp .sub 3 (tm 10) (tm 12) 3) 3) (tm 10) (tm 12)),
 o1 14 (.bin .sub (so (.binOp .sub 3 (tm 8) (tm 13) 3) 3) (tm 8) (tm 13)),
 o1 1 (.mov (tm 14))]) (.seq (.region [
 o1 15 (.mov (tm 1)),
 o1 16 (.bin .gtr (so (.binOp .gtr 3 (tm 15) k0 3) 4) (tm 15) k0)]) (.cond (tm 16)
 (.region [
 o1 17 (.mov (tm 0)),
 o1 18 (.mov (tm 0)),
 o1 19 (.cap (tm 18)),
 o1 20 (.sliceSl 1 (tm 17) none (some (tm 19)) none),
 o1 21 (.mov (tm 1)),
 o1 22 (.append 5 1 1 [(.int .u8 0)] true (tm 20) (tm 21)),
 o1 23 (.mov (tm 0)),
 o1 24 (.lenSl (tm 23)),
 o1 25 (.sliceSl 1 (tm 22) none (some (tm 24)) none),
 o1 0 (.mov (tm 25))])
 .skip))) (.seq (.region [
 o1 26 (.mov (tm 0)),
 o1 4 (.mov (tm 26))]) .ret))))
def zmdQ : AFunc := ⟨27, [(4, none)], zmdQ_c, none⟩
theorem zmdQ_t0 : tableOf Tryz.prog 101 = some zmdQ := by kernel_rfl
theorem zmdQ_t : T0 101 = some zmdQ := withKept_t rfl (withTrue_t rfl zmdQ_t0)
theorem zmdQ_runs {v0 v1 : Value} {h : Heap} {R : RP} {X : XP} (k : RunC Tryz.prog T0 zmdQ_c ⟨[v0, v1, U, U, U, U, U, U, U, U, U, U, U, U, U, U, U, U, U, U, U, U, U, U, U, U, U], [], h, none⟩ (bodyQ Tryz.prog T0 [(4, none)] R X)) :
 Runs Tryz.prog T0 (.fn 101) [v0, v1] h R X := Runs.fn zmdQ_t rfl k
end Go.Proofs.YtlckmpioipiihaaGreat.A

namespace Go.Proofs.YtlckmpioipiihaaGreat.A
open Go.Proofs.YtlckmpioipiihaaGreat.K
open Go Go.Vm
set_option maxRecDepth 10000
set_option linter.unusedVariables false
theorem t01 : LeT K.T0 T0 := holed_le (ps := prims) (ks := kepts)
theorem Sum_ok {h : Heap} {v : Value} {l : List UInt8} (hv : Rd h 1 v (bcells l) l.length) (hl : 0 < l.length) (hsm : l.length < 1048576) :
    Runs Tryz.prog T0 (.fn fn_zfQ) [v] h (fun r h' => r = .agg ⟨bcells (sumS l)⟩ ∧ Fr (fun _ => False) h h') (fun _ _ => False) := (K.Sum_ok hv hl hsm).tab t01
end Go.Proofs.YtlckmpioipiihaaGreat.A

namespace Go.Proofs.YtlckmpioipiihaaGreat.A
open Go.Proofs.YtlckmpioipiihaaGreat.K
open Go Go.Vm
set_option maxRecDepth 10000
set_option linter.unusedVariables false
theorem Clone_ok {h : Heap} {v : Value} {l : List UInt8} (hr : Rd h 1 v (bcells l) l.length) (hs : l.length < 1048576) :
    Runs Tryz.prog T0 (.fn fn_zkdQ) [v] h
      (fun r h' => Own h' 1 r (bcells l) l.length ∧ Fr (fun _ => False) h h' ∧ ∀ i, ownedBy r i → h.n ≤ i) (fun _ _ => False) := by
  have hnew := hr.new
  obtain ⟨a, cap, rfl, hlen, hc⟩ := hr
  refine zkdQ_runs ?_
  cases a with
  | none =>
    have hl : l = [] := by
      cases l with
      | nil => rfl
      | cons b l => obtain ⟨_, _, _, h1, _⟩ := hc (by simp); cases h1
    subst hl
    refine stp ?_
    exact ⟨.none, Fr.refl, fun i hi => hi.elim⟩
  | some a =>
    refine stp ?_
    have hz : Own (h.push (.cells [] 0)) 1 (.slice (some ⟨h.n, 0, none⟩) 0 0) [] 0 := .lit (by simp) (by rw [Heap.get_push, if_pos rfl])
    have hnew' := ((Rd.keep (S := fun _ => False) ⟨some a, cap, rfl, hlen, hc⟩ (Fr.refl.push (o := .cells [] 0)) fun _ _ => id).new (size := 1)) [.int .u8 0]
    refine O.append hz hnew' hlen (bcells_one l) (by omega) (by omega) (by omega) (fun v' h' h1 h2 h3 => ?_)
    refine stp ?_
    rw [Nat.zero_add, List.nil_append] at h1
    refine ⟨h1, (Fr.refl.push (o := .cells [] 0)).trans (S := fun _ => False) h2 (fun i hi ho => ?_), fun i hi => ?_⟩
    · have : h.n = i := ho
      omega
    · rcases h3 i hi with h4 | h4
      · have : h.n = i := h4
        omega
      · simp at h4; omega
end Go.Proofs.YtlckmpioipiihaaGreat.A

namespace Go.Proofs.YtlckmpioipiihaaGreat.A
open Go.Proofs.YtlckmpioipiihaaGreat.K
open Go Go.Vm
set_option maxRecDepth 10000
set_option linter.unusedVariables false
end Go.Proofs.YtlckmpioipiihaaGreat.A

namespace Go.Proofs.YtlckmpioipiihaaGreat.A
open Go.Proofs.YtlckmpioipiihaaGreat.K
open Go Go.Vm
set_option maxRecDepth 10000
set_option linter.unusedVariables false
end Go.Proofs.YtlckmpioipiihaaGreat.A

namespace Go.Proofs.YtlckmpioipiihaaGreat.A
open Go.Proofs.YtlckmpioipiihaaGreat.K
open Go Go.Vm
set_option maxRecDepth 10000
set_option linter.unusedVariables false
end Go.Proofs.YtlckmpioipiihaaGreat.A

namespace Go.Proofs.YtlckmpioipiihaaGreat.A
open Go.Proofs.YtlckmpioipiihaaGreat.K
open Go Go.Vm
set_option maxRecDepth 10000
set_option linter.unusedVariables false
theorem l32 {l : List UInt8} (h : l.length = 32) : L32 (bcells l) := ⟨by simpa [bcells] using h⟩
end Go.Proofs.YtlckmpioipiihaaGreat.A
