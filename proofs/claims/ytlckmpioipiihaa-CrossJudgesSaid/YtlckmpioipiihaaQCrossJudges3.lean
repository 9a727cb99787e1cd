/- Contracts of functions, over the machine. -/
import Derived.Test.YtlckmpioipiihaaQCrossJudges2
import Derived.Test.YtlckmpioipiihaaRows
import Derived.Test.YtlckmpioipiihaaVJ
import Derived.Test.YtlckmpioipiihaaVK
set_option linter.unusedSimpArgs false
noncomputable section
set_option maxRecDepth 100000
set_option linter.unusedVariables false
namespace Go.Proofs.Ytlckmpioipiihaa.A
open Go Go.Vm
abbrev ty_internal_abi_BoundsErrorCode : TypeId := 6
abbrev ty_runtime_boundsError : TypeId := 8
abbrev ty_runtime_errorString : TypeId := 10
abbrev ty_runtime_plainError : TypeId := 11
abbrev ty_runtime_errorAddressString : TypeId := 14
abbrev ty_internal_runtime_maps_unhashableTypeError : TypeId := 19
abbrev ty_api_Hash : TypeId := 23
abbrev ty_api_Header : TypeId := 25
abbrev ty_api_Commit : TypeId := 28
abbrev ty_api_Block : TypeId := 31
abbrev ty_cross_state : TypeId := 35
abbrev ty_cross_witness : TypeId := 37
abbrev ty_cross_Cross : TypeId := 40
abbrev ty_api_Errno : TypeId := 44
abbrev ty_ll25_Act : TypeId := 64
abbrev ty_iter_Seq2_int__cross_witness_ : TypeId := 70
abbrev ty_api_Key : TypeId := 79
abbrev ty_api_Validator : TypeId := 81
abbrev ty_api_Vote : TypeId := 87
abbrev ty_header_rule : TypeId := 113
abbrev ty_wire_Writer : TypeId := 115
abbrev ty_blake_words : TypeId := 121
abbrev ty_blake_counter : TypeId := 125
abbrev ty_blake_State : TypeId := 127
abbrev ty_blake_four : TypeId := 142
abbrev ty_runtime_TypeAssertionError : TypeId := 151
abbrev ty_runtime_PanicNilError : TypeId := 154
abbrev ty_internal_abi_TFlag : TypeId := 155
abbrev ty_internal_abi_Kind : TypeId := 156
abbrev ty_internal_abi_NameOff : TypeId := 159
abbrev ty_internal_abi_TypeOff : TypeId := 160
abbrev ty_internal_abi_Type : TypeId := 162
instance : IsIface Try.prog 20 := ⟨by kernel_rfl⟩
abbrev prims : List FuncId := [4]
abbrev kepts : List FuncId := []
def T0 : Table := withKept (withTrue Try.prog prims) kepts
theorem zqbQ_known {h : Heap} : Runs Try.prog T0 (.fn 4) [] h (fun r h' => r = .bool true ∧ h' = h) (fun _ _ => False) := known_runs rfl
instance : IsBoolT Try.prog 4 := ⟨by kernel_rfl⟩
instance : TLeaves Try.prog 7 (.i .i64 :: (.i .i64 :: (.b :: (.i .u8 :: [])))) := ⟨by kernel_rfl, by kernel_rfl, by kernel_rfl⟩
instance : TLeaves Try.prog 8 (.i .i64 :: (.i .i64 :: (.b :: (.i .u8 :: [])))) := ⟨by kernel_rfl, by kernel_rfl, by kernel_rfl⟩
instance : TLeaves Try.prog 22 (u8s 32) := ⟨by kernel_rfl, by kernel_rfl, by kernel_rfl⟩
instance : TLeaves Try.prog 23 (u8s 32) := ⟨by kernel_rfl, by kernel_rfl, by kernel_rfl⟩
instance : TLeaves Try.prog 24 (.s :: (.i .i64 :: (.i .i64 :: (u8s 32 ++ (u8s 32 ++ (u8s 32 ++ (u8s 32))))))) := ⟨by kernel_rfl, by kernel_rfl, by kernel_rfl⟩
instance : TLeaves Try.prog 25 (.s :: (.i .i64 :: (.i .i64 :: (u8s 32 ++ (u8s 32 ++ (u8s 32 ++ (u8s 32))))))) := ⟨by kernel_rfl, by kernel_rfl, by kernel_rfl⟩
instance : TLeaves Try.prog 78 (u8s 4) := ⟨by kernel_rfl, by kernel_rfl, by kernel_rfl⟩
instance : TLeaves Try.prog 79 (u8s 4) := ⟨by kernel_rfl, by kernel_rfl, by kernel_rfl⟩
instance : TLeaves Try.prog 80 (u8s 4 ++ (.i .i64 :: [])) := ⟨by kernel_rfl, by kernel_rfl, by kernel_rfl⟩
instance : TLeaves Try.prog 81 (u8s 4 ++ (.i .i64 :: [])) := ⟨by kernel_rfl, by kernel_rfl, by kernel_rfl⟩
instance : TLeaves Try.prog 86 (.i .i64 :: (.i .u64 :: [])) := ⟨by kernel_rfl, by kernel_rfl, by kernel_rfl⟩
instance : TLeaves Try.prog 87 (.i .i64 :: (.i .u64 :: [])) := ⟨by kernel_rfl, by kernel_rfl, by kernel_rfl⟩
instance : TLeaves Try.prog 120 (.i .u32 :: (.i .u32 :: (.i .u32 :: (.i .u32 :: (.i .u32 :: (.i .u32 :: (.i .u32 :: (.i .u32 :: [])))))))) := ⟨by kernel_rfl, by kernel_rfl, by kernel_rfl⟩
instance : TLeaves Try.prog 121 (.i .u32 :: (.i .u32 :: (.i .u32 :: (.i .u32 :: (.i .u32 :: (.i .u32 :: (.i .u32 :: (.i .u32 :: [])))))))) := ⟨by kernel_rfl, by kernel_rfl, by kernel_rfl⟩
instance : TLeaves Try.prog 124 (.i .i64 :: []) := ⟨by kernel_rfl, by kernel_rfl, by kernel_rfl⟩
instance : TLeaves Try.prog 125 (.i .i64 :: []) := ⟨by kernel_rfl, by kernel_rfl, by kernel_rfl⟩
instance : TLeaves Try.prog 133 (u8s 4 ++ (u8s 4 ++ (.i .u8 :: []))) := ⟨by kernel_rfl, by kernel_rfl, by kernel_rfl⟩
instance : TLeaves Try.prog 136 (.i .u32 :: (.i .u32 :: (.i .u32 :: (.i .u32 :: (.i .u32 :: (.i .u32 :: (.i .u32 :: (.i .u32 :: (.i .u32 :: (.i .u32 :: (.i .u32 :: (.i .u32 :: (.i .u32 :: (.i .u32 :: (.i .u32 :: (.i .u32 :: [])))))))))))))))) := ⟨by kernel_rfl, by kernel_rfl, by kernel_rfl⟩
abbrev fn_zpbQ : FuncId := 5
def zpbQ_l0 : ACode :=
 (.seq (.seq (.region [
 o1 58 (.mov (tm 14)),
 o1 59 (.mov (tm 10)),
 o1 60 (.lenSl (tm 59)),
 o1 61 (.bin .lss (so (.binOp .lss 3 (tm 58) (tm 60) 3) 4) (tm 58) (tm 60))]) (.cond (tm 61)
 .skip
 (.exit 0))) (.seq (.block 1 (.region [
 o1 64 (.mov (tm 13)),
 o1 65 (.mov (tm 10)),
 o1 66 (.mov (tm 14)),
 o1 67 (.indexSl 1 (tm 65) (tm 66)),
 o1 68 (.load none (tm 67)),
 o1 69 (.indexSl 1 (tm 64) (tm 68)),
 o3 (.store 1 (tm 69) (.const (.int .i64 1)))])) (.region [
 o1 62 (.mov (tm 14)),
 o1 63 (.bin .add (so (.binOp .add 3 (tm 62) (.const (.int .i64 1)) 3) 3) (tm 62) (.const (.int .i64 1))),
 o1 14 (.mov (tm 63))])))
def zpbQ_l1 : ACode :=
 (.seq (.seq (.region [
 o1 70 (.mov (tm 16)),
 o1 71 (.mov (tm 2)),
 o1 72 (.lenSl (tm 71)),
 o1 73 (.bin .lss (so (.binOp .lss 3 (tm 70) (tm 72) 3) 4) (tm 70) (tm 72))]) (.cond (tm 73)
 .skip
 (.exit 2))) (.seq (.block 3 (.seq (.region [
 o1 76 (.mov (tm 2)),
 o1 77 (.mov (tm 16)),
 o1 78 (.indexSl 168 (tm 76) (tm 77)),
 o1 79 (.load (some 168) (tm 78)),
 o1 17 (.alloc 64 ((.int .i64 0) :: ((.int .i64 0) :: ((.string ⟨⟨[]⟩⟩) :: ((.int .i64 0) :: ((.int .i64 0) :: (z32 ++ (z32 ++ (z32 ++ (z32 ++ ((.int .i64 0) :: (z32 ++ [(.slice none 0 0), (.slice none 0 0)])))))))))))),
 o3 (.store 168 (tm 17) (tm 79))]) (.seq (.region [
 o1 80 (.mov (tm 15)),
 o1 81 (.bin .lss (so (.binOp .lss 3 (tm 80) k0 3) 4) (tm 80) k0),
 o1 82 (.mov (tm 81)),
 o4 83 (.fieldAddr 1 (tm 17)) 82,
 o4 84 (.load none (tm 83)) 82,
 o4 85 (.bin .geq (so (.binOp .geq 3 (tm 84) k0 3) 4) (tm 84) k0) 82,
 o1 86 (.pick (tm 82) (tm 85) (.const (.bool false))),
 o1 87 (.mov (tm 86)),
 o4 88 (.fieldAddr 1 (tm 17)) 87,
 o4 89 (.load none (tm 88)) 87,
 o4 90 (.bin .lss (so (.binOp .lss 3 (tm 89) (.const (.int .i64 16)) 3) 4) (tm 89) (.const (.int .i64 16))) 87,
 o1 91 (.pick (tm 87) (tm 90) (.const (.bool false))),
 o1 92 (.mov (tm 91)),
 o4 93 (.mov (tm 13)) 92,
 o4 94 (.fieldAddr 1 (tm 17)) 92,
 o4 95 (.load none (tm 94)) 92,
 o4 96 (.callV (.func 21) [(tm 95), (.const (.int .i64 16))]) 92,
 o4 97 (.indexSl 1 (tm 93) (tm 96)) 92,
 o4 98 (.load none (tm 97)) 92,
 o4 99 (.bin .eql (so (.binOp .eql 3 (tm 98) (.const (.int .i64 1)) 3) 4) (tm 98) (.const (.int .i64 1))) 92,
 o1 100 (.pick (tm 92) (tm 99) (.const (.bool false))),
 o1 18 (.mov (tm 100))]) (.seq (.seq (.region [
 o1 101 (.fieldAddr 0 (tm 17)),
 o1 102 (.load none (tm 101)),
 o1 103 (.bin .eql (so (.binOp .eql 3 (tm 102) k0 3) 4) (tm 102) k0)]) (.cond (tm 103)
 (.seq (.region [
 o1 105 (.fieldAddr 2 (tm 17)),
 o1 106 (.load (some 166) (tm 105)),
 o1 107 (.callV (.func 18) [(tm 106)]),
 o1 104 (.mov (tm 107)),
 o1 108 (.extract 0 (tm 104)),
 o1 109 (.extract 1 (tm 104)),
 o1 19 (.alloc 23 z32),
 o3 (.store 32 (tm 19) (tm 108)),
 o1 20 (.mov (tm 109))]) (.seq (.seq (.region [
 o1 110 (.mov (tm 11)),
 o1 111 (.fieldAddr 1 (tm 17)),
 o1 112 (.load none (tm 111)),
 o1 113 (.fieldAddr 2 (tm 17)),
 o1 114 (.load (some 166) (tm 113)),
 o1 115 (.callV (.func 9) [(tm 110), (tm 112), (tm 114)]),
 o1 116 (.bin .eql (so (.binOp .eql 44 (tm 115) k0 44) 4) (tm 115) k0),
 o1 117 (.mov (tm 18)),
 o1 118 (.mov (tm 117)),
 o4 119 (.mov (tm 20)) 118,
 o4 120 (.bin .eql (so (.binOp .eql 44 (tm 119) k0 44) 4) (tm 119) k0) 118,
 o1 121 (.pick (tm 118) (tm 120) (.const (.bool false))),
 o1 122 (.bin .neq (so (.binOp .neq 4 (tm 116) (tm 121) 4) 4) (tm 116) (tm 121))]) (.cond (tm 122)
 (.seq (.region [
 o1 6 (.mov (.const (.bool false)))]) .ret)
 .skip)) (.seq (.seq (.region [
 o1 123 (.mov (tm 18)),
 o1 124 (.mov (tm 123)),
 o4 125 (.mov (tm 20)) 124,
 o4 126 (.bin .eql (so (.binOp .eql 44 (tm 125) k0 44) 4) (tm 125) k0) 124,
 o1 127 (.pick (tm 124) (tm 126) (.const (.bool false))),
 o1 128 (.mov (tm 127)),
 o4 129 (.load (some 32) (tm 19)) 128,
 o4 130 (.load (some 32) (tm 8)) 128,
 o4 131 (.bin .eql (so (.binOp .eql 23 (tm 129) (tm 130) 23) 4) (tm 129) (tm 130)) 128,
 o1 132 (.pick (tm 128) (tm 131) (.const (.bool false)))]) (.cond (tm 132)
 (.region [
 o1 133 (.mov (tm 13)),
 o1 134 (.fieldAddr 1 (tm 17)),
 o1 135 (.load none (tm 134)),
 o1 136 (.indexSl 1 (tm 133) (tm 135)),
 o3 (.store 1 (tm 136) (.const (.int .i64 2)))])
 .skip)) (.seq (.region [
 o1 137 (.mov (tm 18)),
 o1 138 (.mov (tm 137)),
 o4 139 (.mov (tm 20)) 138,
 o4 140 (.bin .eql (so (.binOp .eql 44 (tm 139) k0 44) 4) (tm 139) k0) 138,
 o1 141 (.pick (tm 138) (tm 140) (.const (.bool false))),
 o1 142 (.mov (tm 141)),
 o4 143 (.load (some 32) (tm 19)) 142,
 o4 144 (.load (some 32) (tm 8)) 142,
 o4 145 (.bin .neq (so (.binOp .neq 23 (tm 143) (tm 144) 23) 4) (tm 143) (tm 144)) 142,
 o1 146 (.pick (tm 142) (tm 145) (.const (.bool false)))]) (.cond (tm 146)
 (.seq (.region [
 o1 147 (.mov (tm 13)),
 o1 148 (.fieldAddr 1 (tm 17)),
 o1 149 (.load none (tm 148)),
 o1 150 (.indexSl 1 (tm 147) (tm 149)),
 o3 (.store 1 (tm 150) (.const (.int .i64 4)))]) (.region [
 o1 151 (.fieldAddr 1 (tm 17)),
 o1 152 (.load none (tm 151)),
 o1 15 (.mov (tm 152))]))
 .skip)))))
 (.seq (.seq (.region [
 o1 153 (.mov (tm 11)),
 o1 154 (.fieldAddr 1 (tm 17)),
 o1 155 (.load none (tm 154)),
 o1 156 (.callV (.func 10) [(tm 153), (tm 155)]),
 o1 157 (.bin .eql (so (.binOp .eql 44 (tm 156) k0 44) 4) (tm 156) k0),
 o1 158 (.mov (tm 18)),
 o1 159 (.bin .neq (so (.binOp .neq 4 (tm 157) (tm 158) 4) 4) (tm 157) (tm 158))]) (.cond (tm 159)
 (.seq (.region [
 o1 6 (.mov (.const (.bool false)))]) .ret)
 .skip)) (.seq (.region [
 o1 160 (.mov (tm 18))]) (.cond (tm 160)
 (.region [
 o1 161 (.mov (tm 13)),
 o1 162 (.fieldAddr 1 (tm 17)),
 o1 163 (.load none (tm 162)),
 o1 164 (.indexSl 1 (tm 161) (tm 163)),
 o3 (.store 1 (tm 164) (.const (.int .i64 3)))])
 .skip))))) (.seq (.region [
 o1 165 (.mov (tm 11)),
 o1 166 (.mov (tm 13)),
 o1 167 (.mov (tm 15)),
 o1 168 (.callV (.func 22) [(tm 165), (tm 166), (tm 167)]),
 o1 169 (.raw (so (.unOp .not 4 (tm 168)) 4))]) (.cond (tm 169)
 (.seq (.region [
 o1 6 (.mov (.const (.bool false)))]) .ret)
 .skip)))))) (.region [
 o1 74 (.mov (tm 16)),
 o1 75 (.bin .add (so (.binOp .add 3 (tm 74) (.const (.int .i64 1)) 3) 3) (tm 74) (.const (.int .i64 1))),
 o1 16 (.mov (tm 75))])))
def zpbQ_c : ACode :=
 (.seq (.region [
 o1 3 (.box 31 (tm 0)),
 o1 6 (.mov (.const (.bool false)))]) (.seq (.region [
 o1 21 (.callV (.func 4) []),
 o1 7 (.mov (tm 21))]) (.seq (.region [
 o1 23 (.load (some 166) (tm 3)),
 o1 24 (.callV (.func 18) [(tm 23)]),
 o1 22 (.mov (tm 24)),
 o1 25 (.extract 0 (tm 22)),
 o1 26 (.extract 1 (tm 22)),
 o1 8 (.alloc 23 z32),
 o3 (.store 32 (tm 8) (tm 25)),
 o1 9 (.mov (tm 26))]) (.seq (.seq (.region [
 o1 27 (.load (some 166) (tm 3)),
 o1 28 (.callV (.func 6) [(tm 27)]),
 o1 29 (.mov (tm 28)),
 o5 30 (.mov (tm 1)) 29,
 o5 31 (.lenSl (tm 30)) 29,
 o5 32 (.bin .gtr (so (.binOp .gtr 3 (tm 31) (.const (.int .i64 20)) 3) 4) (tm 31) (.const (.int .i64 20))) 29,
 o1 33 (.pick (tm 29) (.const (.bool true)) (tm 32)),
 o1 34 (.mov (tm 33)),
 o5 35 (.mov (tm 2)) 34,
 o5 36 (.callV (.func 19) [(tm 35)]) 34,
 o1 37 (.pick (tm 34) (.const (.bool true)) (tm 36)),
 o1 38 (.mov (tm 37)),
 o5 39 (.mov (tm 9)) 38,
 o5 40 (.bin .neq (so (.binOp .neq 44 (tm 39) k0 44) 4) (tm 39) k0) 38,
 o1 41 (.pick (tm 38) (.const (.bool true)) (tm 40))]) (.cond (tm 41)
 (.seq (.region [
 o1 42 (.mov (tm 7)),
 o1 6 (.mov (tm 42))]) .ret)
 .skip)) (.seq (.region [
 o1 43 (.mov (tm 1)),
 o1 44 (.callV (.func 20) [(tm 43)]),
 o1 10 (.mov (tm 44))]) (.seq (.region [
 o1 46 (.load (some 166) (tm 3)),
 o1 47 (.mov (tm 10)),
 o1 48 (.callV (.func 17) [(tm 46), (tm 47)]),
 o1 45 (.mov (tm 48)),
 o1 49 (.extract 0 (tm 45)),
 o1 50 (.extract 1 (tm 45)),
 o1 11 (.mov (tm 49)),
 o1 12 (.mov (tm 50))]) (.seq (.seq (.region [
 o1 51 (.mov (tm 12)),
 o1 52 (.bin .neq (so (.binOp .neq 44 (tm 51) k0 44) 4) (tm 51) k0),
 o1 53 (.mov (tm 52)),
 o5 54 (.mov (tm 11)) 53,
 o5 55 (.eq .ptr false (so (.binOp .eql 34 (tm 54) (.const (.pointer none)) 34) 4) (tm 54) (.const (.pointer none))) 53,
 o1 56 (.pick (tm 53) (.const (.bool true)) (tm 55))]) (.cond (tm 56)
 (.seq (.region [
 o1 6 (.mov (.const (.bool false)))]) .ret)
 .skip)) (.seq (.region [
 o1 57 (.makeSlice 3 1 8 [(.int .i64 0)] (.const (.int .i64 16)) (.const (.int .i64 16))),
 o1 13 (.mov (tm 57))]) (.seq (.seq (.region [
 o1 14 (.mov k0)]) (.block 0 (.loop zpbQ_l0))) (.seq (.region [
 o1 15 (.mov (.const (.int .i64 (-1))))]) (.seq (.seq (.region [
 o1 16 (.mov k0)]) (.block 2 (.loop zpbQ_l1))) (.seq (.region [
 o1 170 (.mov (tm 7)),
 o1 171 (.mov (tm 170)),
 o4 172 (.mov (tm 11)) 171,
 o4 173 (.mov (tm 13)) 171,
 o4 174 (.mov (tm 15)) 171,
 o4 175 (.callV (.func 22) [(tm 172), (tm 173), (tm 174)]) 171,
 o1 176 (.pick (tm 171) (tm 175) (.const (.bool false))),
 o1 6 (.mov (tm 176))]) .ret))))))))))))
def zpbQ : AFunc := ⟨177, [(6, none)], zpbQ_c, none⟩
theorem zpbQ_t0 : tableOf Try.prog 5 = some zpbQ := by kernel_rfl
theorem zpbQ_t : T0 5 = some zpbQ := withKept_t rfl (withTrue_t rfl zpbQ_t0)
theorem zpbQ_runs {v0 v1 v2 : Value} {h : Heap} {R : RP} {X : XP} (k : RunC Try.prog T0 zpbQ_c ⟨[v0, v1, v2, U, U, U, U, U, U, U, U, U, U, U, U, U, U, U, U, U, U, U, U, U, U, U, U, U, U, U, U, U, U, U, U, U, U, U, U, U, U, U, U, U, U, U, U, U, U, U, U, U, U, U, U, U, U, U, U, U, U, U, U, U, U, U, U, U, U, U, U, U, U, U, U, U, U, U, U, U, U, U, U, U, U, U, U, U, U, U, U, U, U, U, U, U, U, U, U, U, U, U, U, U, U, U, U, U, U, U, U, U, U, U, U, U, U, U, U, U, U, U, U, U, U, U, U, U, U, U, U, U, U, U, U, U, U, U, U, U, U, U, U, U, U, U, U, U, U, U, U, U, U, U, U, U, U, U, U, U, U, U, U, U, U, U, U, U, U, U, U, U, U, U, U, U, U], [], h, none⟩ (bodyQ Try.prog T0 [(6, none)] R X)) :
 Runs Try.prog T0 (.fn 5) [v0, v1, v2] h R X := Runs.fn zpbQ_t rfl k
abbrev zpbQ_l0_M : List Nat := [0, 0, 0, 0, 0, 0, 0, 0, 0, 0, 0, 0, 0, 0, 2, 0, 0, 0, 0, 0, 0, 0, 0, 0, 0, 0, 0, 0, 0, 0, 0, 0, 0, 0, 0, 0, 0, 0, 0, 0, 0, 0, 0, 0, 0, 0, 0, 0, 0, 0, 0, 0, 0, 0, 0, 0, 0, 0, 1, 1, 1, 1, 1, 1, 1, 1, 1, 1, 1, 1, 0, 0, 0, 0, 0, 0, 0, 0, 0, 0, 0, 0, 0, 0, 0, 0, 0, 0, 0, 0, 0, 0, 0, 0, 0, 0, 0, 0, 0, 0, 0, 0, 0, 0, 0, 0, 0, 0, 0, 0, 0, 0, 0, 0, 0, 0, 0, 0, 0, 0, 0, 0, 0, 0, 0, 0, 0, 0, 0, 0, 0, 0, 0, 0, 0, 0, 0, 0, 0, 0, 0, 0, 0, 0, 0, 0, 0, 0, 0, 0, 0, 0, 0, 0, 0, 0, 0, 0, 0, 0, 0, 0, 0, 0, 0, 0, 0, 0, 0, 0, 0, 0, 0, 0, 0, 0, 0]
abbrev zpbQ_l1_M : List Nat := [0, 0, 0, 0, 0, 0, 1, 0, 0, 0, 0, 0, 0, 0, 0, 2, 2, 1, 1, 1, 1, 0, 0, 0, 0, 0, 0, 0, 0, 0, 0, 0, 0, 0, 0, 0, 0, 0, 0, 0, 0, 0, 0, 0, 0, 0, 0, 0, 0, 0, 0, 0, 0, 0, 0, 0, 0, 0, 0, 0, 0, 0, 0, 0, 0, 0, 0, 0, 0, 0, 1, 1, 1, 1, 1, 1, 1, 1, 1, 1, 1, 1, 1, 1, 1, 1, 1, 1, 1, 1, 1, 1, 1, 1, 1, 1, 1, 1, 1, 1, 1, 1, 1, 1, 1, 1, 1, 1, 1, 1, 1, 1, 1, 1, 1, 1, 1, 1, 1, 1, 1, 1, 1, 1, 1, 1, 1, 1, 1, 1, 1, 1, 1, 1, 1, 1, 1, 1, 1, 1, 1, 1, 1, 1, 1, 1, 1, 1, 1, 1, 1, 1, 1, 1, 1, 1, 1, 1, 1, 1, 1, 1, 1, 1, 1, 1, 1, 1, 1, 1, 0, 0, 0, 0, 0, 0, 0]
abbrev fn_znbQ : FuncId := 6
def znbQ_c : ACode :=
 (.seq (.region [
 o1 1 (.box 31 (tm 0)),
 o1 2 (.mov (.const (.bool false)))]) (.seq (.region [
 o1 3 (.fieldAddr 165 (tm 1)),
 o1 4 (.load none (tm 3)),
 o1 5 (.lenSl (tm 4)),
 o1 6 (.bin .gtr (so (.binOp .gtr 3 (tm 5) (.const (.int .i64 70)) 3) 4) (tm 5) (.const (.int .i64 70))),
 o1 7 (.mov (tm 6)),
 o5 8 (.fieldAddr 131 (tm 1)) 7,
 o5 9 (.fieldAddr 33 (tm 8)) 7,
 o5 10 (.load none (tm 9)) 7,
 o5 11 (.lenSl (tm 10)) 7,
 o5 12 (.bin .gtr (so (.binOp .gtr 3 (tm 11) (.const (.int .i64 70)) 3) 4) (tm 11) (.const (.int .i64 70))) 7,
 o1 13 (.pick (tm 7) (.const (.bool true)) (tm 12)),
 o1 14 (.mov (tm 13)),
 o5 15 (.fieldAddr 0 (tm 1)) 14,
 o5 16 (.fieldAddr 0 (tm 15)) 14,
 o5 17 (.load none (tm 16)) 14,
 o5 18 (.lenStr (tm 17)) 14,
 o5 19 (.bin .gtr (so (.binOp .gtr 3 (tm 18) (.const (.int .i64 60)) 3) 4) (tm 18) (.const (.int .i64 60))) 14,
 o1 20 (.pick (tm 14) (.const (.bool true)) (tm 19)),
 o1 2 (.mov (tm 20))]) .ret))
def znbQ : AFunc := ⟨21, [(2, none)], znbQ_c, none⟩
theorem znbQ_t0 : tableOf Try.prog 6 = some znbQ := by kernel_rfl
theorem znbQ_t : T0 6 = some znbQ := withKept_t rfl (withTrue_t rfl znbQ_t0)
theorem znbQ_runs {v0 : Value} {h : Heap} {R : RP} {X : XP} (k : RunC Try.prog T0 znbQ_c ⟨[v0, U, U, U, U, U, U, U, U, U, U, U, U, U, U, U, U, U, U, U, U], [], h, none⟩ (bodyQ Try.prog T0 [(2, none)] R X)) :
 Runs Try.prog T0 (.fn 6) [v0] h R X := Runs.fn znbQ_t rfl k
abbrev fn_zmQ : FuncId := 8
def zmQ_ra0 : Code := (rangeParts (subCode ((Try.prog.funcs[8]?).bind (·.body)) [true, false, true, false])).1
def zmQ_rb0 : Code := (rangeParts (subCode ((Try.prog.funcs[8]?).bind (·.body)) [true, false, true, false])).2
def zmQ_a0 : ACode :=
 (.seq (.region [
 o1 5 (.mov (tm 9))]) (.region [
 o1 6 (.alloc 37 ((.int .i64 0) :: ((.string ⟨⟨[]⟩⟩) :: ((.int .i64 0) :: ((.int .i64 0) :: (z32 ++ (z32 ++ (z32 ++ (z32 ++ ((.int .i64 0) :: (z32 ++ [(.slice none 0 0), (.slice none 0 0)]))))))))))),
 o3 (.store 167 (tm 6) (tm 10))]))
def zmQ_b0 : ACode :=
 (.block 1 (.seq (.region [
 o1 11 (.fieldAddr 0 (tm 6)),
 o1 12 (.load none (tm 11)),
 o1 13 (.bin .eql (so (.binOp .eql 35 (tm 12) (.const (.int .i64 4)) 35) 4) (tm 12) (.const (.int .i64 4)))]) (.cond (tm 13)
 (.seq (.region [
 o1 14 (.mov (tm 5)),
 o1 15 (.fieldAddr 1 (tm 6)),
 o1 16 (.load (some 166) (tm 15)),
 o1 17 (.callV (.func 25) [(tm 16)]),
 o3 (.store 1 (tm 2) (tm 14)),
 o3 (.store 166 (tm 3) (tm 17)),
 o3 (.store 1 (tm 4) (.const (.bool true)))]) .ret)
 .skip)))
theorem zmQ_ca0 : comp Try.prog zmQ_ra0 = some zmQ_a0 := by kernel_rfl
theorem zmQ_cb0 : comp Try.prog zmQ_rb0 = some zmQ_b0 := by kernel_rfl
theorem zmQ_na0 : noDefer zmQ_ra0 = true := by kernel_rfl
theorem zmQ_nb0 : noDefer zmQ_rb0 = true := by kernel_rfl
def zmQ_c : ACode :=
 (.seq (.region [
 o1 2 (.alloc 3 [(.int .i64 0)]),
 o1 3 (.alloc 31 ((.string ⟨⟨[]⟩⟩) :: ((.int .i64 0) :: ((.int .i64 0) :: (z32 ++ (z32 ++ (z32 ++ (z32 ++ ((.int .i64 0) :: (z32 ++ [(.slice none 0 0), (.slice none 0 0)])))))))))),
 o1 4 (.alloc 4 [(.bool false)])]) (.seq (.seq (.region [
 o1 7 (.mov (tm 0)),
 o1 8 (.callV (.func 24) [(tm 7)])]) (.block 0 (.rangeFunc (tm 8) [9, 10] zmQ_ra0 zmQ_rb0))) (.seq (.region [
 o1 18 (.build ((.string ⟨⟨[]⟩⟩) :: ((.int .i64 0) :: ((.int .i64 0) :: (z32 ++ (z32 ++ (z32 ++ (z32 ++ ((.int .i64 0) :: (z32 ++ [(.slice none 0 0), (.slice none 0 0)]))))))))) []),
 o3 (.store 1 (tm 2) (.const (.int .i64 (-1)))),
 o3 (.store 166 (tm 3) (tm 18)),
 o3 (.store 1 (tm 4) (.const (.bool false)))]) .ret)))
def zmQ : AFunc := ⟨19, [(2, some none), (3, some (some 166)), (4, some none)], zmQ_c, none⟩
theorem zmQ_t0 : tableOf Try.prog 8 = some zmQ := by kernel_rfl
theorem zmQ_t : T0 8 = some zmQ := withKept_t rfl (withTrue_t rfl zmQ_t0)
theorem zmQ_runs {v0 : Value} {h : Heap} {R : RP} {X : XP} (k : RunC Try.prog T0 zmQ_c ⟨[v0, U, U, U, U, U, U, U, U, U, U, U, U, U, U, U, U, U, U], [], h, none⟩ (bodyQ Try.prog T0 [(2, some none), (3, some (some 166)), (4, some none)] R X)) :
 Runs Try.prog T0 (.fn 8) [v0] h R X := Runs.fn zmQ_t rfl k
abbrev fn_zpQ : FuncId := 9
def zpQ_c : ACode :=
 (.seq (.region [
 o1 5 (.box 31 (tm 2)),
 o1 6 (.mov k0)]) (.seq (.seq (.region [
 o1 10 (.mov (tm 0)),
 o1 11 (.mov (tm 1)),
 o1 12 (.callV (.func 26) [(tm 10), (tm 11)]),
 o1 7 (.mov (tm 12))]) (.seq (.region [
 o1 13 (.mov (tm 7)),
 o1 14 (.bin .neq (so (.binOp .neq 44 (tm 13) k0 44) 4) (tm 13) k0)]) (.cond (tm 14)
 (.seq (.region [
 o1 15 (.mov (tm 7)),
 o1 6 (.mov (tm 15))]) .ret)
 .skip))) (.seq (.region [
 o1 17 (.load (some 166) (tm 5)),
 o1 18 (.callV (.func 18) [(tm 17)]),
 o1 16 (.mov (tm 18)),
 o1 19 (.extract 0 (tm 16)),
 o1 20 (.extract 1 (tm 16)),
 o1 8 (.alloc 23 z32),
 o3 (.store 32 (tm 8) (tm 19)),
 o1 9 (.mov (tm 20))]) (.seq (.seq (.region [
 o1 21 (.mov (tm 9)),
 o1 22 (.bin .neq (so (.binOp .neq 44 (tm 21) k0 44) 4) (tm 21) k0)]) (.cond (tm 22)
 (.seq (.region [
 o1 23 (.mov (tm 9)),
 o1 6 (.mov (tm 23))]) .ret)
 .skip)) (.seq (.seq (.regionD [
 o1 24 (.load (some 32) (tm 8)),
 o1 25 (.mov (tm 0)),
 o1 26 (.nilCheck (tm 25)),
 o1 27 (.fieldAddr 0 (tm 26)),
 o1 28 (.load (some 32) (tm 27)),
 o2 29 (.bin .eql (so (.binOp .eql 23 (tm 24) (tm 28) 23) 4) (tm 24) (tm 28))]) (.cond (tm 29)
 (.region [
 o1 30 (.mov (tm 0)),
 o1 31 (.mov (tm 1)),
 o1 32 (.nilCheck (tm 30)),
 o1 33 (.fieldAddr 32 (tm 32)),
 o1 34 (.indexArr 16 167 (tm 33) (tm 31)),
 o1 35 (.fieldAddr 0 (tm 34)),
 o3 (.store 1 (tm 35) (.const (.int .i64 2)))])
 (.regionD [
 o1 36 (.mov (tm 0)),
 o1 37 (.mov (tm 1)),
 o1 38 (.load (some 166) (tm 5)),
 o1 41 (.nilCheck (tm 36)),
 o1 42 (.fieldAddr 32 (tm 41)),
 ⟨some 39, .callV (.func 25) [(tm 38)], none, [(some 42, .fieldAddr 32 (tm 41), none), (some 41, .nilCheck (tm 36), none), (some 37, .mov (tm 1), none), (some 36, .mov (tm 0), none)], false⟩,
 o1 40 (.build ((.int .i64 0) :: ((.string ⟨⟨[]⟩⟩) :: ((.int .i64 0) :: ((.int .i64 0) :: (z32 ++ (z32 ++ (z32 ++ (z32 ++ ((.int .i64 0) :: (z32 ++ [(.slice none 0 0), (.slice none 0 0)])))))))))) [(0, 1, (.const (.int .i64 4))), (1, 166, (tm 39))]),
 o2 43 (.indexArr 16 167 (tm 42) (tm 37)),
 ⟨none, .store 167 (tm 43) (tm 40), none, [], true⟩]))) (.seq (.region [
 o1 6 (.mov k0)]) .ret))))))
def zpQ : AFunc := ⟨44, [(6, none)], zpQ_c, none⟩
theorem zpQ_t0 : tableOf Try.prog 9 = some zpQ := by kernel_rfl
theorem zpQ_t : T0 9 = some zpQ := withKept_t rfl (withTrue_t rfl zpQ_t0)
theorem zpQ_runs {v0 v1 v2 : Value} {h : Heap} {R : RP} {X : XP} (k : RunC Try.prog T0 zpQ_c ⟨[v0, v1, v2, U, U, U, U, U, U, U, U, U, U, U, U, U, U, U, U, U, U, U, U, U, U, U, U, U, U, U, U, U, U, U, U, U, U, U, U, U, U, U, U, U], [], h, none⟩ (bodyQ Try.prog T0 [(6, none)] R X)) :
 Runs Try.prog T0 (.fn 9) [v0, v1, v2] h R X := Runs.fn zpQ_t rfl k
abbrev fn_znQ : FuncId := 10
def znQ_c : ACode :=
 (.seq (.region [
 o1 4 (.mov k0)]) (.seq (.region [
 o1 6 (.mov (tm 0)),
 o1 7 (.mov (tm 1)),
 o1 8 (.callV (.func 26) [(tm 6), (tm 7)]),
 o1 5 (.mov (tm 8))]) (.seq (.seq (.region [
 o1 9 (.mov (tm 5)),
 o1 10 (.bin .eql (so (.binOp .eql 44 (tm 9) k0 44) 4) (tm 9) k0)]) (.cond (tm 10)
 (.region [
 o1 11 (.mov (tm 0)),
 o1 12 (.mov (tm 1)),
 o1 13 (.nilCheck (tm 11)),
 o1 14 (.fieldAddr 32 (tm 13)),
 o1 15 (.indexArr 16 167 (tm 14) (tm 12)),
 o1 16 (.fieldAddr 0 (tm 15)),
 o3 (.store 1 (tm 16) (.const (.int .i64 3)))])
 .skip)) (.seq (.region [
 o1 17 (.mov (tm 5)),
 o1 4 (.mov (tm 17))]) .ret))))
def znQ : AFunc := ⟨18, [(4, none)], znQ_c, none⟩
theorem znQ_t0 : tableOf Try.prog 10 = some znQ := by kernel_rfl
theorem znQ_t : T0 10 = some znQ := withKept_t rfl (withTrue_t rfl znQ_t0)
theorem znQ_runs {v0 v1 : Value} {h : Heap} {R : RP} {X : XP} (k : RunC Try.prog T0 znQ_c ⟨[v0, v1, U, U, U, U, U, U, U, U, U, U, U, U, U, U, U, U], [], h, none⟩ (bodyQ Try.prog T0 [(4, none)] R X)) :
 Runs Try.prog T0 (.fn 10) [v0, v1] h R X := Runs.fn znQ_t rfl k
abbrev fn_zoQ : FuncId := 11
def zoQ_c : ACode :=
 (.seq (.region [
 o1 2 (.mov k0)]) (.seq (.block 0 (.seq (.region [
 o1 4 (.mov (tm 0)),
 o1 5 (.callV (.func 27) [(tm 4)]),
 o1 6 (.mov (tm 5)),
 o5 7 (.mov (tm 0)) 6,
 o5 8 (.callV (.func 24) [(tm 7)]) 6,
 o5 9 (.callV (.func 29) [(.const (.int .i64 4))]) 6,
 o5 10 (.callV (.func 28) [(tm 8), (tm 9)]) 6,
 o5 11 (.raw (so (.unOp .not 4 (tm 10)) 4)) 6,
 o5 12 (.mov (tm 11)) 6,
 o4 13 (.mov (tm 0)) 12,
 o4 14 (.callV (.func 24) [(tm 13)]) 12,
 o4 15 (.callV (.func 29) [(.const (.int .i64 1))]) 12,
 o4 16 (.callV (.func 28) [(tm 14), (tm 15)]) 12,
 o5 17 (.pick (tm 12) (tm 16) (.const (.bool false))) 6,
 o1 18 (.pick (tm 6) (.const (.bool true)) (tm 17)),
 o1 3 (.mov (tm 18))]) (.cond (tm 3)
 (.seq (.region [
 o1 2 (.mov k0)]) .ret)
 (.seq (.region [
 o1 20 (.mov (tm 0)),
 o1 21 (.callV (.func 24) [(tm 20)]),
 o1 22 (.callV (.func 29) [(.const (.int .i64 4))]),
 o1 23 (.callV (.func 28) [(tm 21), (tm 22)]),
 o1 19 (.mov (tm 23))]) (.cond (tm 19)
 (.seq (.region [
 o1 2 (.mov (.const (.int .i64 3)))]) .ret)
 (.seq (.region [
 o1 25 (.mov (tm 0)),
 o1 26 (.callV (.func 24) [(tm 25)]),
 o1 27 (.callV (.func 29) [(.const (.int .i64 2))]),
 o1 28 (.callV (.func 28) [(tm 26), (tm 27)]),
 o1 24 (.mov (tm 28))]) (.cond (tm 24)
 (.seq (.region [
 o1 2 (.mov (.const (.int .i64 1)))]) .ret)
 .skip))))))) (.seq (.region [
 o1 2 (.mov (.const (.int .i64 2)))]) .ret)))
def zoQ : AFunc := ⟨29, [(2, none)], zoQ_c, none⟩
theorem zoQ_t0 : tableOf Try.prog 11 = some zoQ := by kernel_rfl
theorem zoQ_t : T0 11 = some zoQ := withKept_t rfl (withTrue_t rfl zoQ_t0)
theorem zoQ_runs {v0 : Value} {h : Heap} {R : RP} {X : XP} (k : RunC Try.prog T0 zoQ_c ⟨[v0, U, U, U, U, U, U, U, U, U, U, U, U, U, U, U, U, U, U, U, U, U, U, U, U, U, U, U, U], [], h, none⟩ (bodyQ Try.prog T0 [(2, none)] R X)) :
 Runs Try.prog T0 (.fn 11) [v0] h R X := Runs.fn zoQ_t rfl k
abbrev fn_zqQ : FuncId := 12
def zqQ_c : ACode :=
 (.seq (.region [
 o1 4 (.mov k0)]) (.seq (.seq (.region [
 o1 5 (.mov (tm 0)),
 o1 6 (.callV (.func 27) [(tm 5)]),
 o1 7 (.mov (tm 6)),
 o5 8 (.mov (tm 1)) 7,
 o5 9 (.bin .lss (so (.binOp .lss 3 (tm 8) k0 3) 4) (tm 8) k0) 7,
 o1 10 (.pick (tm 7) (.const (.bool true)) (tm 9)),
 o1 11 (.mov (tm 10)),
 o5 12 (.mov (tm 1)) 11,
 o5 13 (.bin .geq (so (.binOp .geq 3 (tm 12) (.const (.int .i64 16)) 3) 4) (tm 12) (.const (.int .i64 16))) 11,
 o1 14 (.pick (tm 11) (.const (.bool true)) (tm 13))]) (.cond (tm 14)
 (.seq (.region [
 o1 4 (.mov k0)]) .ret)
 .skip)) (.seq (.region [
 o1 15 (.mov (tm 0)),
 o1 16 (.mov (tm 1)),
 o1 17 (.nilCheck (tm 15)),
 o1 18 (.fieldAddr 32 (tm 17)),
 o1 19 (.indexArr 16 167 (tm 18) (tm 16)),
 o1 20 (.fieldAddr 0 (tm 19)),
 o1 21 (.load none (tm 20)),
 o1 4 (.mov (tm 21))]) .ret)))
def zqQ : AFunc := ⟨22, [(4, none)], zqQ_c, none⟩
theorem zqQ_t0 : tableOf Try.prog 12 = some zqQ := by kernel_rfl
theorem zqQ_t : T0 12 = some zqQ := withKept_t rfl (withTrue_t rfl zqQ_t0)
theorem zqQ_runs {v0 v1 : Value} {h : Heap} {R : RP} {X : XP} (k : RunC Try.prog T0 zqQ_c ⟨[v0, v1, U, U, U, U, U, U, U, U, U, U, U, U, U, U, U, U, U, U, U, U], [], h, none⟩ (bodyQ Try.prog T0 [(4, none)] R X)) :
 Runs Try.prog T0 (.fn 12) [v0, v1] h R X := Runs.fn zqQ_t rfl k
abbrev fn_zvQ : FuncId := 17
def zvQ_l0 : ACode :=
 (.seq (.region [
 o1 26 (.bin .lss (so (.binOp .lss 3 (tm 25) (tm 24) 3) 0) (tm 25) (tm 24))]) (.seq (.cond (tm 26)
 .skip
 (.exit 0)) (.seq (.block 1 (.seq (.region [
 o1 27 (.indexSl 1 (tm 23) (tm 25)),
 o1 28 (.load none (tm 27)),
 o1 11 (.mov (tm 28))]) (.seq (.block 2 (.seq (.region [
 o1 30 (.mov (tm 11)),
 o1 31 (.bin .lss (so (.binOp .lss 3 (tm 30) k0 3) 4) (tm 30) k0),
 o1 32 (.mov (tm 31)),
 o5 33 (.mov (tm 11)) 32,
 o5 34 (.bin .geq (so (.binOp .geq 3 (tm 33) (.const (.int .i64 16)) 3) 4) (tm 33) (.const (.int .i64 16))) 32,
 o1 35 (.pick (tm 32) (.const (.bool true)) (tm 34)),
 o1 29 (.mov (tm 35))]) (.cond (tm 29)
 (.seq (.region [
 o1 4 (.mov (.const (.pointer none))),
 o1 5 (.mov (.const (.int .i64 3)))]) .ret)
 (.seq (.region [
 o1 37 (.mov (tm 11)),
 o1 38 (.mov (tm 9)),
 o1 39 (.bin .leq (so (.binOp .leq 3 (tm 37) (tm 38) 3) 4) (tm 37) (tm 38)),
 o1 36 (.mov (tm 39))]) (.cond (tm 36)
 (.seq (.region [
 o1 4 (.mov (.const (.pointer none))),
 o1 5 (.mov (.const (.int .i64 9)))]) .ret)
 .skip))))) (.seq (.region [
 o1 40 (.mov (tm 8)),
 o1 41 (.mov (tm 11)),
 o1 42 (.nilCheck (tm 40)),
 o1 43 (.fieldAddr 32 (tm 42)),
 o1 44 (.indexArr 16 167 (tm 43) (tm 41)),
 o1 45 (.fieldAddr 0 (tm 44)),
 o3 (.store 1 (tm 45) (.const (.int .i64 1)))]) (.region [
 o1 46 (.mov (tm 11)),
 o1 9 (.mov (tm 46))]))))) (.region [
 o1 47 (.bin .add (so (.binOp .add 3 (tm 25) (.const (.int .i64 1)) 3) 3) (tm 25) (.const (.int .i64 1))),
 o1 25 (.mov (tm 47))]))))
def zvQ_c : ACode :=
 (.seq (.region [
 o1 2 (.box 31 (tm 0)),
 o1 4 (.mov (.const (.pointer none))),
 o1 5 (.mov k0)]) (.seq (.region [
 o1 13 (.load (some 166) (tm 2)),
 o1 14 (.callV (.func 18) [(tm 13)]),
 o1 12 (.mov (tm 14)),
 o1 15 (.extract 0 (tm 12)),
 o1 16 (.extract 1 (tm 12)),
 o1 6 (.alloc 23 z32),
 o3 (.store 32 (tm 6) (tm 15)),
 o1 7 (.mov (tm 16))]) (.seq (.seq (.region [
 o1 17 (.mov (tm 7)),
 o1 18 (.bin .neq (so (.binOp .neq 44 (tm 17) k0 44) 4) (tm 17) k0)]) (.cond (tm 18)
 (.seq (.region [
 o1 19 (.mov (tm 7)),
 o1 4 (.mov (.const (.pointer none))),
 o1 5 (.mov (tm 19))]) .ret)
 .skip)) (.seq (.region [
 o1 20 (.load (some 32) (tm 6)),
 o1 21 (.build (z32 ++ ((.int .i64 0) :: ((.string ⟨⟨[]⟩⟩) :: ((.int .i64 0) :: ((.int .i64 0) :: (z32 ++ (z32 ++ (z32 ++ (z32 ++ ((.int .i64 0) :: (z32 ++ ((.slice none 0 0) :: ((.slice none 0 0) :: ((.int .i64 0) :: ((.string ⟨⟨[]⟩⟩) :: ((.int .i64 0) :: ((.int .i64 0) :: (z32 ++ (z32 ++ (z32 ++ (z32 ++ ((.int .i64 0) :: (z32 ++ ((.slice none 0 0) :: ((.slice none 0 0) :: ((.int .i64 0) :: ((.string ⟨⟨[]⟩⟩) :: ((.int .i64 0) :: ((.int .i64 0) :: (z32 ++ (z32 ++ (z32 ++ (z32 ++ ((.int .i64 0) :: (z32 ++ ((.slice none 0 0) :: ((.slice none 0 0) :: ((.int .i64 0) :: ((.string ⟨⟨[]⟩⟩) :: ((.int .i64 0) :: ((.int .i64 0) :: (z32 ++ (z32 ++ (z32 ++ (z32 ++ ((.int .i64 0) :: (z32 ++ ((.slice none 0 0) :: ((.slice none 0 0) :: ((.int .i64 0) :: ((.string ⟨⟨[]⟩⟩) :: ((.int .i64 0) :: ((.int .i64 0) :: (z32 ++ (z32 ++ (z32 ++ (z32 ++ ((.int .i64 0) :: (z32 ++ ((.slice none 0 0) :: ((.slice none 0 0) :: ((.int .i64 0) :: ((.string ⟨⟨[]⟩⟩) :: ((.int .i64 0) :: ((.int .i64 0) :: (z32 ++ (z32 ++ (z32 ++ (z32 ++ ((.int .i64 0) :: (z32 ++ ((.slice none 0 0) :: ((.slice none 0 0) :: ((.int .i64 0) :: ((.string ⟨⟨[]⟩⟩) :: ((.int .i64 0) :: ((.int .i64 0) :: (z32 ++ (z32 ++ (z32 ++ (z32 ++ ((.int .i64 0) :: (z32 ++ ((.slice none 0 0) :: ((.slice none 0 0) :: ((.int .i64 0) :: ((.string ⟨⟨[]⟩⟩) :: ((.int .i64 0) :: ((.int .i64 0) :: (z32 ++ (z32 ++ (z32 ++ (z32 ++ ((.int .i64 0) :: (z32 ++ ((.slice none 0 0) :: ((.slice none 0 0) :: ((.int .i64 0) :: ((.string ⟨⟨[]⟩⟩) :: ((.int .i64 0) :: ((.int .i64 0) :: (z32 ++ (z32 ++ (z32 ++ (z32 ++ ((.int .i64 0) :: (z32 ++ ((.slice none 0 0) :: ((.slice none 0 0) :: ((.int .i64 0) :: ((.string ⟨⟨[]⟩⟩) :: ((.int .i64 0) :: ((.int .i64 0) :: (z32 ++ (z32 ++ (z32 ++ (z32 ++ ((.int .i64 0) :: (z32 ++ ((.slice none 0 0) :: ((.slice none 0 0) :: ((.int .i64 0) :: ((.string ⟨⟨[]⟩⟩) :: ((.int .i64 0) :: ((.int .i64 0) :: (z32 ++ (z32 ++ (z32 ++ (z32 ++ ((.int .i64 0) :: (z32 ++ ((.slice none 0 0) :: ((.slice none 0 0) :: ((.int .i64 0) :: ((.string ⟨⟨[]⟩⟩) :: ((.int .i64 0) :: ((.int .i64 0) :: (z32 ++ (z32 ++ (z32 ++ (z32 ++ ((.int .i64 0) :: (z32 ++ ((.slice none 0 0) :: ((.slice none 0 0) :: ((.int .i64 0) :: ((.string ⟨⟨[]⟩⟩) :: ((.int .i64 0) :: ((.int .i64 0) :: (z32 ++ (z32 ++ (z32 ++ (z32 ++ ((.int .i64 0) :: (z32 ++ ((.slice none 0 0) :: ((.slice none 0 0) :: ((.int .i64 0) :: ((.string ⟨⟨[]⟩⟩) :: ((.int .i64 0) :: ((.int .i64 0) :: (z32 ++ (z32 ++ (z32 ++ (z32 ++ ((.int .i64 0) :: (z32 ++ ((.slice none 0 0) :: ((.slice none 0 0) :: ((.int .i64 0) :: ((.string ⟨⟨[]⟩⟩) :: ((.int .i64 0) :: ((.int .i64 0) :: (z32 ++ (z32 ++ (z32 ++ (z32 ++ ((.int .i64 0) :: (z32 ++ ((.slice none 0 0) :: ((.slice none 0 0) :: ((.int .i64 0) :: ((.string ⟨⟨[]⟩⟩) :: ((.int .i64 0) :: ((.int .i64 0) :: (z32 ++ (z32 ++ (z32 ++ (z32 ++ ((.int .i64 0) :: (z32 ++ [(.slice none 0 0), (.slice none 0 0), (.bool false)]))))))))))))))))))))))))))))))))))))))))))))))))))))))))))))))))))))))))))))))))))))))))))))))))))))))))))))))))))))))))))))))))))))))))))))))))))))))))))))))))))))))))))))))))))))))))))))))) [(0, 32, (tm 20)), (2704, 1, (.const (.bool true)))]),
 o1 22 (.box 40 (tm 21)),
 o1 8 (.mov (tm 22))]) (.seq (.region [
 o1 9 (.mov (.const (.int .i64 (-1))))]) (.seq (.seq (.region [
 o1 23 (.mov (tm 1)),
 o1 24 (.lenSl (tm 23)),
 o1 25 (.mov k0)]) (.block 0 (.loop zvQ_l0))) (.seq (.region [
 o1 48 (.mov (tm 8)),
 o1 4 (.mov (tm 48)),
 o1 5 (.mov k0)]) .ret)))))))
def zvQ : AFunc := ⟨49, [(4, none), (5, none)], zvQ_c, none⟩
theorem zvQ_t0 : tableOf Try.prog 17 = some zvQ := by kernel_rfl
theorem zvQ_t : T0 17 = some zvQ := withKept_t rfl (withTrue_t rfl zvQ_t0)
theorem zvQ_runs {v0 v1 : Value} {h : Heap} {R : RP} {X : XP} (k : RunC Try.prog T0 zvQ_c ⟨[v0, v1, U, U, U, U, U, U, U, U, U, U, U, U, U, U, U, U, U, U, U, U, U, U, U, U, U, U, U, U, U, U, U, U, U, U, U, U, U, U, U, U, U, U, U, U, U, U, U], [], h, none⟩ (bodyQ Try.prog T0 [(4, none), (5, none)] R X)) :
 Runs Try.prog T0 (.fn 17) [v0, v1] h R X := Runs.fn zvQ_t rfl k
abbrev zvQ_l0_M : List Nat := [0, 0, 0, 0, 1, 1, 0, 0, 0, 2, 0, 1, 0, 0, 0, 0, 0, 0, 0, 0, 0, 0, 0, 0, 0, 2, 1, 1, 1, 1, 1, 1, 1, 1, 1, 1, 1, 1, 1, 1, 1, 1, 1, 1, 1, 1, 1, 1, 0]
abbrev fn_zlQ : FuncId := 18
def zlQ_c : ACode :=
 (.seq (.region [
 o1 1 (.box 31 (tm 0)),
 o1 2 (.alloc 23 z32),
 o1 3 (.mov k0)]) (.seq (.region [
 o1 4 (.fieldAddr 0 (tm 1)),
 o1 5 (.load (some 131) (tm 4)),
 o1 6 (.callV (.func 32) [(tm 5)]),
 o1 7 (.extract 0 (tm 6)),
 o1 8 (.extract 1 (tm 6)),
 o3 (.store 32 (tm 2) (tm 7)),
 o1 3 (.mov (tm 8))]) .ret))
def zlQ : AFunc := ⟨9, [(2, some (some 32)), (3, none)], zlQ_c, none⟩
theorem zlQ_t0 : tableOf Try.prog 18 = some zlQ := by kernel_rfl
theorem zlQ_t : T0 18 = some zlQ := withKept_t rfl (withTrue_t rfl zlQ_t0)
theorem zlQ_runs {v0 : Value} {h : Heap} {R : RP} {X : XP} (k : RunC Try.prog T0 zlQ_c ⟨[v0, U, U, U, U, U, U, U, U], [], h, none⟩ (bodyQ Try.prog T0 [(2, some (some 32)), (3, none)] R X)) :
 Runs Try.prog T0 (.fn 18) [v0] h R X := Runs.fn zlQ_t rfl k
abbrev fn_zsbQ : FuncId := 19
def zsbQ_l0 : ACode :=
 (.seq (.seq (.region [
 o1 4 (.mov (tm 3)),
 o1 5 (.mov (tm 0)),
 o1 6 (.lenSl (tm 5)),
 o1 7 (.bin .lss (so (.binOp .lss 3 (tm 4) (tm 6) 3) 4) (tm 4) (tm 6)),
 o1 8 (.mov (tm 7)),
 o4 9 (.mov (tm 3)) 8,
 o4 10 (.bin .lss (so (.binOp .lss 3 (tm 9) (.const (.int .i64 31)) 3) 4) (tm 9) (.const (.int .i64 31))) 8,
 o1 11 (.pick (tm 8) (tm 10) (.const (.bool false)))]) (.cond (tm 11)
 .skip
 (.exit 0))) (.seq (.block 1 (.seq (.region [
 o1 14 (.mov (tm 0)),
 o1 15 (.mov (tm 3)),
 o1 16 (.indexSl 168 (tm 14) (tm 15)),
 o1 17 (.fieldAddr 2 (tm 16)),
 o1 18 (.load (some 166) (tm 17)),
 o1 19 (.callV (.func 6) [(tm 18)])]) (.cond (tm 19)
 (.seq (.region [
 o1 2 (.mov (.const (.bool true)))]) .ret)
 .skip))) (.region [
 o1 12 (.mov (tm 3)),
 o1 13 (.bin .add (so (.binOp .add 3 (tm 12) (.const (.int .i64 1)) 3) 3) (tm 12) (.const (.int .i64 1))),
 o1 3 (.mov (tm 13))])))
def zsbQ_c : ACode :=
 (.seq (.region [
 o1 2 (.mov (.const (.bool false)))]) (.seq (.seq (.region [
 o1 3 (.mov k0)]) (.block 0 (.loop zsbQ_l0))) (.seq (.region [
 o1 20 (.mov (tm 0)),
 o1 21 (.lenSl (tm 20)),
 o1 22 (.bin .gtr (so (.binOp .gtr 3 (tm 21) (.const (.int .i64 30)) 3) 4) (tm 21) (.const (.int .i64 30))),
 o1 2 (.mov (tm 22))]) .ret)))
def zsbQ : AFunc := ⟨23, [(2, none)], zsbQ_c, none⟩
theorem zsbQ_t0 : tableOf Try.prog 19 = some zsbQ := by kernel_rfl
theorem zsbQ_t : T0 19 = some zsbQ := withKept_t rfl (withTrue_t rfl zsbQ_t0)
theorem zsbQ_runs {v0 : Value} {h : Heap} {R : RP} {X : XP} (k : RunC Try.prog T0 zsbQ_c ⟨[v0, U, U, U, U, U, U, U, U, U, U, U, U, U, U, U, U, U, U, U, U, U, U], [], h, none⟩ (bodyQ Try.prog T0 [(2, none)] R X)) :
 Runs Try.prog T0 (.fn 19) [v0] h R X := Runs.fn zsbQ_t rfl k
abbrev zsbQ_l0_M : List Nat := [0, 0, 1, 2, 1, 1, 1, 1, 1, 1, 1, 1, 1, 1, 1, 1, 1, 1, 1, 1, 0, 0, 0]
abbrev fn_ztbQ : FuncId := 20
def ztbQ_l0 : ACode :=
 (.seq (.seq (.region [
 o1 5 (.mov (tm 4)),
 o1 6 (.mov (tm 0)),
 o1 7 (.lenSl (tm 6)),
 o1 8 (.bin .lss (so (.binOp .lss 3 (tm 5) (tm 7) 3) 4) (tm 5) (tm 7)),
 o1 9 (.mov (tm 8)),
 o4 10 (.mov (tm 4)) 9,
 o4 11 (.bin .lss (so (.binOp .lss 3 (tm 10) (.const (.int .i64 16)) 3) 4) (tm 10) (.const (.int .i64 16))) 9,
 o1 12 (.pick (tm 9) (tm 11) (.const (.bool false)))]) (.cond (tm 12)
 .skip
 (.exit 0))) (.seq (.block 1 (.seq (.region [
 o1 15 (.mov (tm 0)),
 o1 16 (.mov (tm 4)),
 o1 17 (.indexSl 1 (tm 15) (tm 16)),
 o1 18 (.load none (tm 17))]) (.cond (tm 18)
 (.region [
 o1 19 (.mov (tm 3)),
 o1 20 (.mov (tm 4)),
 o1 21 (.buildSlice 3 [(.int .i64 0)] 1 [(0, 1, (tm 20))]),
 o1 22 (.append 3 1 8 [(.int .i64 0)] false (tm 19) (tm 21)),
 o1 3 (.mov (tm 22))])
 .skip))) (.region [
 o1 13 (.mov (tm 4)),
 o1 14 (.bin .add (so (.binOp .add 3 (tm 13) (.const (.int .i64 1)) 3) 3) (tm 13) (.const (.int .i64 1))),
 o1 4 (.mov (tm 14))])))
def ztbQ_c : ACode :=
 (.seq (.region [
 o1 2 (.mov (.const (.slice none 0 0)))]) (.seq (.region [
 o1 3 (.mov (.const (.slice none 0 0)))]) (.seq (.seq (.region [
 o1 4 (.mov k0)]) (.block 0 (.loop ztbQ_l0))) (.seq (.region [
 o1 23 (.mov (tm 3)),
 o1 2 (.mov (tm 23))]) .ret))))
def ztbQ : AFunc := ⟨24, [(2, none)], ztbQ_c, none⟩
theorem ztbQ_t0 : tableOf Try.prog 20 = some ztbQ := by kernel_rfl
theorem ztbQ_t : T0 20 = some ztbQ := withKept_t rfl (withTrue_t rfl ztbQ_t0)
theorem ztbQ_runs {v0 : Value} {h : Heap} {R : RP} {X : XP} (k : RunC Try.prog T0 ztbQ_c ⟨[v0, U, U, U, U, U, U, U, U, U, U, U, U, U, U, U, U, U, U, U, U, U, U, U], [], h, none⟩ (bodyQ Try.prog T0 [(2, none)] R X)) :
 Runs Try.prog T0 (.fn 20) [v0] h R X := Runs.fn ztbQ_t rfl k
abbrev ztbQ_l0_M : List Nat := [0, 0, 0, 2, 2, 1, 1, 1, 1, 1, 1, 1, 1, 1, 1, 1, 1, 1, 1, 1, 1, 1, 1, 0]
abbrev fn_zobQ : FuncId := 21
def zobQ_c : ACode :=
 (.seq (.region [
 o1 4 (.mov k0)]) (.seq (.seq (.region [
 o1 5 (.mov (tm 1)),
 o1 6 (.bin .leq (so (.binOp .leq 3 (tm 5) k0 3) 4) (tm 5) k0)]) (.cond (tm 6)
 (.seq (.region [
 o1 4 (.mov k0)]) .ret)
 .skip)) (.seq (.region [
 o1 7 (.mov (tm 0)),
 o1 8 (.mov (tm 1)),
 o1 9 (.bin .rem (so (.binOp .rem 3 (tm 7) (tm 8) 3) 3) (tm 7) (tm 8)),
 o1 0 (.mov (tm 9))]) (.seq (.seq (.region [
 o1 10 (.mov (tm 0)),
 o1 11 (.bin .lss (so (.binOp .lss 3 (tm 10) k0 3) 4) (tm 10) k0)]) (.cond (tm 11)
 (.region [
 o1 12 (.mov (tm 0)),
 o1 13 (.mov (tm 1)),
 o1 14 (.bin .add (so (.binOp .add 3 (tm 12) (tm 13) 3) 3) (tm 12) (tm 13)),
 o1 0 (.mov (tm 14))])
 .skip)) (.seq (.region [
 o1 15 (.mov (tm 0)),
 o1 4 (.mov (tm 15))]) .ret)))))
def zobQ : AFunc := ⟨16, [(4, none)], zobQ_c, none⟩
theorem zobQ_t0 : tableOf Try.prog 21 = some zobQ := by kernel_rfl
theorem zobQ_t : T0 21 = some zobQ := withKept_t rfl (withTrue_t rfl zobQ_t0)
theorem zobQ_runs {v0 v1 : Value} {h : Heap} {R : RP} {X : XP} (k : RunC Try.prog T0 zobQ_c ⟨[v0, v1, U, U, U, U, U, U, U, U, U, U, U, U, U, U], [], h, none⟩ (bodyQ Try.prog T0 [(4, none)] R X)) :
 Runs Try.prog T0 (.fn 21) [v0, v1] h R X := Runs.fn zobQ_t rfl k
abbrev fn_zrbQ : FuncId := 22
def zrbQ_l0 : ACode :=
 (.seq (.seq (.region [
 o1 14 (.mov (tm 9)),
 o1 15 (.mov (tm 1)),
 o1 16 (.lenSl (tm 15)),
 o1 17 (.bin .lss (so (.binOp .lss 3 (tm 14) (tm 16) 3) 4) (tm 14) (tm 16))]) (.cond (tm 17)
 .skip
 (.exit 0))) (.seq (.block 1 (.seq (.seq (.regionD [
 o1 20 (.mov (tm 0)),
 o1 21 (.mov (tm 9)),
 o1 23 (.mov (tm 1)),
 o1 24 (.mov (tm 9)),
 o1 25 (.indexSl 1 (tm 23) (tm 24)),
 o1 26 (.load none (tm 25)),
 ⟨some 22, .callV (.func 12) [(tm 20), (tm 21)], none, [(some 26, .load none (tm 25), none), (some 25, .indexSl 1 (tm 23) (tm 24), none), (some 24, .mov (tm 9), none), (some 23, .mov (tm 1), none)], false⟩,
 o2 27 (.bin .neq (so (.binOp .neq 3 (tm 22) (tm 26) 3) 4) (tm 22) (tm 26))]) (.cond (tm 27)
 (.seq (.region [
 o1 6 (.mov (.const (.bool false)))]) .ret)
 .skip)) (.seq (.seq (.region [
 o1 28 (.mov (tm 1)),
 o1 29 (.mov (tm 9)),
 o1 30 (.indexSl 1 (tm 28) (tm 29)),
 o1 31 (.load none (tm 30)),
 o1 32 (.bin .eql (so (.binOp .eql 3 (tm 31) (.const (.int .i64 1)) 3) 4) (tm 31) (.const (.int .i64 1)))]) (.cond (tm 32)
 (.region [
 o1 33 (.mov (tm 7)),
 o1 34 (.bin .add (so (.binOp .add 3 (tm 33) (.const (.int .i64 1)) 3) 3) (tm 33) (.const (.int .i64 1))),
 o1 7 (.mov (tm 34))])
 .skip)) (.seq (.region [
 o1 35 (.mov (tm 1)),
 o1 36 (.mov (tm 9)),
 o1 37 (.indexSl 1 (tm 35) (tm 36)),
 o1 38 (.load none (tm 37)),
 o1 39 (.bin .eql (so (.binOp .eql 3 (tm 38) (.const (.int .i64 2)) 3) 4) (tm 38) (.const (.int .i64 2)))]) (.cond (tm 39)
 (.region [
 o1 40 (.mov (tm 8)),
 o1 41 (.bin .add (so (.binOp .add 3 (tm 40) (.const (.int .i64 1)) 3) 3) (tm 40) (.const (.int .i64 1))),
 o1 8 (.mov (tm 41))])
 .skip))))) (.region [
 o1 18 (.mov (tm 9)),
 o1 19 (.bin .add (so (.binOp .add 3 (tm 18) (.const (.int .i64 1)) 3) 3) (tm 18) (.const (.int .i64 1))),
 o1 9 (.mov (tm 19))])))
def zrbQ_c : ACode :=
 (.seq (.region [
 o1 6 (.mov (.const (.bool false)))]) (.seq (.region [
 o1 7 (.mov k0),
 o1 8 (.mov k0)]) (.seq (.seq (.region [
 o1 9 (.mov k0)]) (.block 0 (.loop zrbQ_l0))) (.seq (.region [
 o1 10 (.mov k0)]) (.seq (.block 2 (.seq (.region [
 o1 43 (.mov (tm 2)),
 o1 44 (.bin .geq (so (.binOp .geq 3 (tm 43) k0 3) 4) (tm 43) k0),
 o1 42 (.mov (tm 44))]) (.cond (tm 42)
 (.region [
 o1 10 (.mov (.const (.int .i64 3)))])
 (.seq (.region [
 o1 46 (.mov (tm 7)),
 o1 47 (.bin .eql (so (.binOp .eql 3 (tm 46) k0 3) 4) (tm 46) k0),
 o1 48 (.mov (tm 47)),
 o4 49 (.mov (tm 8)) 48,
 o4 50 (.bin .gtr (so (.binOp .gtr 3 (tm 49) k0 3) 4) (tm 49) k0) 48,
 o1 51 (.pick (tm 48) (tm 50) (.const (.bool false))),
 o1 45 (.mov (tm 51))]) (.cond (tm 45)
 (.region [
 o1 10 (.mov (.const (.int .i64 1)))])
 (.seq (.region [
 o1 53 (.mov (tm 7)),
 o1 54 (.bin .eql (so (.binOp .eql 3 (tm 53) k0 3) 4) (tm 53) k0),
 o1 52 (.mov (tm 54))]) (.cond (tm 52)
 (.region [
 o1 10 (.mov (.const (.int .i64 2)))])
 .skip))))))) (.seq (.region [
 o1 56 (.mov (tm 0)),
 o1 57 (.callV (.func 8) [(tm 56)]),
 o1 55 (.mov (tm 57)),
 o1 58 (.extract 0 (tm 55)),
 o1 59 (.extract 1 (tm 55)),
 o1 60 (.extract 2 (tm 55)),
 o1 12 (.alloc 31 ((.string ⟨⟨[]⟩⟩) :: ((.int .i64 0) :: ((.int .i64 0) :: (z32 ++ (z32 ++ (z32 ++ (z32 ++ ((.int .i64 0) :: (z32 ++ [(.slice none 0 0), (.slice none 0 0)])))))))))),
 o1 11 (.mov (tm 58)),
 o3 (.store 166 (tm 12) (tm 59)),
 o1 13 (.mov (tm 60))]) (.seq (.region [
 o1 61 (.mov (tm 0)),
 o1 62 (.callV (.func 11) [(tm 61)]),
 o1 63 (.mov (tm 10)),
 o1 64 (.bin .eql (so (.binOp .eql 3 (tm 62) (tm 63) 3) 4) (tm 62) (tm 63)),
 o1 65 (.mov (tm 64)),
 o4 66 (.mov (tm 11)) 65,
 o4 67 (.mov (tm 2)) 65,
 o4 68 (.bin .eql (so (.binOp .eql 3 (tm 66) (tm 67) 3) 4) (tm 66) (tm 67)) 65,
 o1 69 (.pick (tm 65) (tm 68) (.const (.bool false))),
 o1 70 (.mov (tm 69)),
 o4 71 (.mov (tm 13)) 70,
 o4 72 (.mov (tm 2)) 70,
 o4 73 (.bin .geq (so (.binOp .geq 3 (tm 72) k0 3) 4) (tm 72) k0) 70,
 o4 74 (.bin .eql (so (.binOp .eql 4 (tm 71) (tm 73) 4) 4) (tm 71) (tm 73)) 70,
 o1 75 (.pick (tm 70) (tm 74) (.const (.bool false))),
 o1 6 (.mov (tm 75))]) .ret)))))))
def zrbQ : AFunc := ⟨76, [(6, none)], zrbQ_c, none⟩
theorem zrbQ_t0 : tableOf Try.prog 22 = some zrbQ := by kernel_rfl
theorem zrbQ_t : T0 22 = some zrbQ := withKept_t rfl (withTrue_t rfl zrbQ_t0)
theorem zrbQ_runs {v0 v1 v2 : Value} {h : Heap} {R : RP} {X : XP} (k : RunC Try.prog T0 zrbQ_c ⟨[v0, v1, v2, U, U, U, U, U, U, U, U, U, U, U, U, U, U, U, U, U, U, U, U, U, U, U, U, U, U, U, U, U, U, U, U, U, U, U, U, U, U, U, U, U, U, U, U, U, U, U, U, U, U, U, U, U, U, U, U, U, U, U, U, U, U, U, U, U, U, U, U, U, U, U, U, U], [], h, none⟩ (bodyQ Try.prog T0 [(6, none)] R X)) :
 Runs Try.prog T0 (.fn 22) [v0, v1, v2] h R X := Runs.fn zrbQ_t rfl k
abbrev zrbQ_l0_M : List Nat := [0, 0, 0, 0, 0, 0, 1, 2, 2, 2, 0, 0, 0, 0, 1, 1, 1, 1, 1, 1, 1, 1, 1, 1, 1, 1, 1, 1, 1, 1, 1, 1, 1, 1, 1, 1, 1, 1, 1, 1, 1, 1, 0, 0, 0, 0, 0, 0, 0, 0, 0, 0, 0, 0, 0, 0, 0, 0, 0, 0, 0, 0, 0, 0, 0, 0, 0, 0, 0, 0, 0, 0, 0, 0, 0, 0]
abbrev fn_zrQ : FuncId := 24
def zrQ_c : ACode :=
 (.seq (.region [
 o1 1 (.box 34 (tm 0)),
 o1 2 (.mov (.const .nilFunc))]) (.seq (.region [
 o1 3 (.mkFunc (.func 33) [] [(tm 1)]),
 o1 2 (.mov (tm 3))]) .ret))
def zrQ : AFunc := ⟨4, [(2, none)], zrQ_c, none⟩
theorem zrQ_t0 : tableOf Try.prog 24 = some zrQ := by kernel_rfl
theorem zrQ_t : T0 24 = some zrQ := withKept_t rfl (withTrue_t rfl zrQ_t0)
theorem zrQ_runs {v0 : Value} {h : Heap} {R : RP} {X : XP} (k : RunC Try.prog T0 zrQ_c ⟨[v0, U, U, U], [], h, none⟩ (bodyQ Try.prog T0 [(2, none)] R X)) :
 Runs Try.prog T0 (.fn 24) [v0] h R X := Runs.fn zrQ_t rfl k
abbrev fn_zzQ : FuncId := 25
def zzQ_c : ACode :=
 (.seq (.region [
 o1 1 (.box 31 (tm 0)),
 o1 2 (.alloc 31 ((.string ⟨⟨[]⟩⟩) :: ((.int .i64 0) :: ((.int .i64 0) :: (z32 ++ (z32 ++ (z32 ++ (z32 ++ ((.int .i64 0) :: (z32 ++ [(.slice none 0 0), (.slice none 0 0)]))))))))))]) (.seq (.regionD [
 o1 3 (.fieldAddr 131 (tm 1)),
 o1 4 (.fieldAddr 33 (tm 3)),
 o1 5 (.load none (tm 4)),
 o1 7 (.fieldAddr 165 (tm 1)),
 o1 8 (.load none (tm 7)),
 ⟨some 6, .callV (.func 34) [(tm 5)], none, [(some 8, .load none (tm 7), none), (some 7, .fieldAddr 165 (tm 1), none)], false⟩,
 o1 10 (.fieldAddr 131 (tm 1)),
 o1 11 (.fieldAddr 33 (tm 10)),
 ⟨some 9, .callV (.func 35) [(tm 8)], none, [(some 11, .fieldAddr 33 (tm 10), none), (some 10, .fieldAddr 131 (tm 1), none)], false⟩,
 ⟨none, .store 1 (tm 11) (tm 6), none, [], true⟩,
 o2 12 (.fieldAddr 165 (tm 1)),
 ⟨none, .store 1 (tm 12) (tm 9), none, [], true⟩]) (.seq (.region [
 o1 13 (.load (some 166) (tm 1)),
 o3 (.store 166 (tm 2) (tm 13))]) .ret)))
def zzQ : AFunc := ⟨14, [(2, some (some 166))], zzQ_c, none⟩
theorem zzQ_t0 : tableOf Try.prog 25 = some zzQ := by kernel_rfl
theorem zzQ_t : T0 25 = some zzQ := withKept_t rfl (withTrue_t rfl zzQ_t0)
theorem zzQ_runs {v0 : Value} {h : Heap} {R : RP} {X : XP} (k : RunC Try.prog T0 zzQ_c ⟨[v0, U, U, U, U, U, U, U, U, U, U, U, U, U], [], h, none⟩ (bodyQ Try.prog T0 [(2, some (some 166))] R X)) :
 Runs Try.prog T0 (.fn 25) [v0] h R X := Runs.fn zzQ_t rfl k
abbrev fn_ztQ : FuncId := 26
def ztQ_c : ACode :=
 (.seq (.region [
 o1 4 (.mov k0)]) (.seq (.block 0 (.seq (.region [
 o1 6 (.mov (tm 0)),
 o1 7 (.callV (.func 27) [(tm 6)]),
 o1 5 (.mov (tm 7))]) (.cond (tm 5)
 (.seq (.region [
 o1 4 (.mov (.const (.int .i64 1)))]) .ret)
 (.seq (.region [
 o1 9 (.mov (tm 0)),
 o1 10 (.callV (.func 24) [(tm 9)]),
 o1 11 (.callV (.func 29) [(.const (.int .i64 4))]),
 o1 12 (.callV (.func 28) [(tm 10), (tm 11)]),
 o1 8 (.mov (tm 12))]) (.cond (tm 8)
 (.seq (.region [
 o1 4 (.mov (.const (.int .i64 11)))]) .ret)
 (.seq (.region [
 o1 14 (.mov (tm 1)),
 o1 15 (.bin .lss (so (.binOp .lss 3 (tm 14) k0 3) 4) (tm 14) k0),
 o1 16 (.mov (tm 15)),
 o5 17 (.mov (tm 1)) 16,
 o5 18 (.bin .geq (so (.binOp .geq 3 (tm 17) (.const (.int .i64 16)) 3) 4) (tm 17) (.const (.int .i64 16))) 16,
 o1 19 (.pick (tm 16) (.const (.bool true)) (tm 18)),
 o1 20 (.mov (tm 19)),
 o5 21 (.mov (tm 0)) 20,
 o5 22 (.mov (tm 1)) 20,
 o5 23 (.nilCheck (tm 21)) 20,
 o5 24 (.fieldAddr 32 (tm 23)) 20,
 o5 25 (.indexArr 16 167 (tm 24) (tm 22)) 20,
 o5 26 (.fieldAddr 0 (tm 25)) 20,
 o5 27 (.load none (tm 26)) 20,
 o5 28 (.bin .eql (so (.binOp .eql 35 (tm 27) k0 35) 4) (tm 27) k0) 20,
 o1 29 (.pick (tm 20) (.const (.bool true)) (tm 28)),
 o1 13 (.mov (tm 29))]) (.cond (tm 13)
 (.seq (.region [
 o1 4 (.mov (.const (.int .i64 10)))]) .ret)
 (.seq (.region [
 o1 31 (.mov (tm 0)),
 o1 32 (.mov (tm 1)),
 o1 33 (.nilCheck (tm 31)),
 o1 34 (.fieldAddr 32 (tm 33)),
 o1 35 (.indexArr 16 167 (tm 34) (tm 32)),
 o1 36 (.fieldAddr 0 (tm 35)),
 o1 37 (.load none (tm 36)),
 o1 38 (.bin .neq (so (.binOp .neq 35 (tm 37) (.const (.int .i64 1)) 35) 4) (tm 37) (.const (.int .i64 1))),
 o1 30 (.mov (tm 38))]) (.cond (tm 30)
 (.seq (.region [
 o1 4 (.mov (.const (.int .i64 8)))]) .ret)
 .skip))))))))) (.seq (.region [
 o1 4 (.mov k0)]) .ret)))
def ztQ : AFunc := ⟨39, [(4, none)], ztQ_c, none⟩
theorem ztQ_t0 : tableOf Try.prog 26 = some ztQ := by kernel_rfl
theorem ztQ_t : T0 26 = some ztQ := withKept_t rfl (withTrue_t rfl ztQ_t0)
theorem ztQ_runs {v0 v1 : Value} {h : Heap} {R : RP} {X : XP} (k : RunC Try.prog T0 ztQ_c ⟨[v0, v1, U, U, U, U, U, U, U, U, U, U, U, U, U, U, U, U, U, U, U, U, U, U, U, U, U, U, U, U, U, U, U, U, U, U, U, U, U], [], h, none⟩ (bodyQ Try.prog T0 [(4, none)] R X)) :
 Runs Try.prog T0 (.fn 26) [v0, v1] h R X := Runs.fn ztQ_t rfl k
abbrev fn_zuQ : FuncId := 27
def zuQ_c : ACode :=
 (.seq (.region [
 o1 2 (.mov (.const (.bool false)))]) (.seq (.region [
 o1 3 (.mov (tm 0)),
 o1 4 (.eq .ptr false (so (.binOp .eql 34 (tm 3) (.const (.pointer none)) 34) 4) (tm 3) (.const (.pointer none))),
 o1 5 (.mov (tm 4)),
 o5 6 (.mov (tm 0)) 5,
 o5 7 (.nilCheck (tm 6)) 5,
 o5 8 (.fieldAddr 2704 (tm 7)) 5,
 o5 9 (.load none (tm 8)) 5,
 o5 10 (.raw (so (.unOp .not 4 (tm 9)) 4)) 5,
 o1 11 (.pick (tm 5) (.const (.bool true)) (tm 10)),
 o1 2 (.mov (tm 11))]) .ret))
def zuQ : AFunc := ⟨12, [(2, none)], zuQ_c, none⟩
theorem zuQ_t0 : tableOf Try.prog 27 = some zuQ := by kernel_rfl
theorem zuQ_t : T0 27 = some zuQ := withKept_t rfl (withTrue_t rfl zuQ_t0)
theorem zuQ_runs {v0 : Value} {h : Heap} {R : RP} {X : XP} (k : RunC Try.prog T0 zuQ_c ⟨[v0, U, U, U, U, U, U, U, U, U, U, U], [], h, none⟩ (bodyQ Try.prog T0 [(2, none)] R X)) :
 Runs Try.prog T0 (.fn 27) [v0] h R X := Runs.fn zuQ_t rfl k
abbrev fn_zyQ : FuncId := 28
def zyQ_ra0 : Code := (rangeParts (subCode ((Try.prog.funcs[28]?).bind (·.body)) [true, false, true, false])).1
def zyQ_rb0 : Code := (rangeParts (subCode ((Try.prog.funcs[28]?).bind (·.body)) [true, false, true, false])).2
def zyQ_a0 : ACode :=
 (.region [
 o1 6 (.alloc 37 ((.int .i64 0) :: ((.string ⟨⟨[]⟩⟩) :: ((.int .i64 0) :: ((.int .i64 0) :: (z32 ++ (z32 ++ (z32 ++ (z32 ++ ((.int .i64 0) :: (z32 ++ [(.slice none 0 0), (.slice none 0 0)]))))))))))),
 o3 (.store 167 (tm 6) (tm 9))])
def zyQ_b0 : ACode :=
 (.block 1 (.seq (.region [
 o1 10 (.load none (tm 3)),
 o1 11 (.load (some 167) (tm 6)),
 o1 12 (.callV (tm 10) [(tm 11)])]) (.cond (tm 12)
 (.seq (.region [
 o3 (.store 1 (tm 4) (.const (.bool true)))]) .ret)
 .skip)))
theorem zyQ_ca0 : comp Try.prog zyQ_ra0 = some zyQ_a0 := by kernel_rfl
theorem zyQ_cb0 : comp Try.prog zyQ_rb0 = some zyQ_b0 := by kernel_rfl
theorem zyQ_na0 : noDefer zyQ_ra0 = true := by kernel_rfl
theorem zyQ_nb0 : noDefer zyQ_rb0 = true := by kernel_rfl
def zyQ_c : ACode :=
 (.seq (.region [
 o1 3 (.box 74 (tm 1)),
 o1 4 (.alloc 4 [(.bool false)])]) (.seq (.seq (.region [
 o1 7 (.mov (tm 0))]) (.block 0 (.rangeFunc (tm 7) [8, 9] zyQ_ra0 zyQ_rb0))) (.seq (.region [
 o3 (.store 1 (tm 4) (.const (.bool false)))]) .ret)))
def zyQ : AFunc := ⟨13, [(4, some none)], zyQ_c, none⟩
theorem zyQ_t0 : tableOf Try.prog 28 = some zyQ := by kernel_rfl
theorem zyQ_t : T0 28 = some zyQ := withKept_t rfl (withTrue_t rfl zyQ_t0)
theorem zyQ_runs {v0 v1 : Value} {h : Heap} {R : RP} {X : XP} (k : RunC Try.prog T0 zyQ_c ⟨[v0, v1, U, U, U, U, U, U, U, U, U, U, U], [], h, none⟩ (bodyQ Try.prog T0 [(4, some none)] R X)) :
 Runs Try.prog T0 (.fn 28) [v0, v1] h R X := Runs.fn zyQ_t rfl k
abbrev fn_zwQ : FuncId := 29
def zwQ_c : ACode :=
 (.seq (.region [
 o1 1 (.box 35 (tm 0)),
 o1 2 (.mov (.const .nilFunc))]) (.seq (.region [
 o1 3 (.mkFunc (.func 36) [] [(tm 1)]),
 o1 2 (.mov (tm 3))]) .ret))
def zwQ : AFunc := ⟨4, [(2, none)], zwQ_c, none⟩
theorem zwQ_t0 : tableOf Try.prog 29 = some zwQ := by kernel_rfl
theorem zwQ_t : T0 29 = some zwQ := withKept_t rfl (withTrue_t rfl zwQ_t0)
theorem zwQ_runs {v0 : Value} {h : Heap} {R : RP} {X : XP} (k : RunC Try.prog T0 zwQ_c ⟨[v0, U, U, U], [], h, none⟩ (bodyQ Try.prog T0 [(2, none)] R X)) :
 Runs Try.prog T0 (.fn 29) [v0] h R X := Runs.fn zwQ_t rfl k
abbrev fn_zcbQ : FuncId := 32
def zcbQ_c : ACode :=
 (.seq (.region [
 o1 1 (.box 25 (tm 0)),
 o1 2 (.alloc 23 z32),
 o1 3 (.mov k0)]) (.seq (.region [
 o1 7 (.load (some 131) (tm 1)),
 o1 8 (.callV (.func 38) [(tm 7)]),
 o1 6 (.mov (tm 8)),
 o1 9 (.extract 0 (tm 6)),
 o1 10 (.extract 1 (tm 6)),
 o1 4 (.mov (tm 9)),
 o1 5 (.mov (tm 10))]) (.seq (.seq (.region [
 o1 11 (.mov (tm 5)),
 o1 12 (.bin .neq (so (.binOp .neq 44 (tm 11) k0 44) 4) (tm 11) k0)]) (.cond (tm 12)
 (.seq (.region [
 o1 13 (.build z32 []),
 o1 14 (.mov (tm 5)),
 o3 (.store 32 (tm 2) (tm 13)),
 o1 3 (.mov (tm 14))]) .ret)
 .skip)) (.seq (.region [
 o1 15 (.buildSlice 5 [(.int .u8 0)] 1 [(0, 1, (.const (.int .u8 72)))]),
 o1 16 (.mov (tm 4)),
 o1 17 (.append 5 1 1 [(.int .u8 0)] false (tm 15) (tm 16)),
 o1 18 (.callV (.func 39) [(tm 17)]),
 o3 (.store 32 (tm 2) (tm 18)),
 o1 3 (.mov k0)]) .ret))))
def zcbQ : AFunc := ⟨19, [(2, some (some 32)), (3, none)], zcbQ_c, none⟩
theorem zcbQ_t0 : tableOf Try.prog 32 = some zcbQ := by kernel_rfl
theorem zcbQ_t : T0 32 = some zcbQ := withKept_t rfl (withTrue_t rfl zcbQ_t0)
theorem zcbQ_runs {v0 : Value} {h : Heap} {R : RP} {X : XP} (k : RunC Try.prog T0 zcbQ_c ⟨[v0, U, U, U, U, U, U, U, U, U, U, U, U, U, U, U, U, U, U], [], h, none⟩ (bodyQ Try.prog T0 [(2, some (some 32)), (3, none)] R X)) :
 Runs Try.prog T0 (.fn 32) [v0] h R X := Runs.fn zcbQ_t rfl k
abbrev fn_zsQ : FuncId := 33
def zsQ_l0 : ACode :=
 (.seq (.region [
 o1 12 (.bin .lss (so (.binOp .lss 3 (tm 11) (.const (.int .i64 16)) 3) 0) (tm 11) (.const (.int .i64 16)))]) (.seq (.cond (tm 12)
 .skip
 (.exit 0)) (.seq (.block 1 (.seq (.region [
 o1 13 (.mov (tm 11)),
 o1 14 (.index 16 167 (some 167) (tm 10) (tm 11)),
 o1 4 (.alloc 37 ((.int .i64 0) :: ((.string ⟨⟨[]⟩⟩) :: ((.int .i64 0) :: ((.int .i64 0) :: (z32 ++ (z32 ++ (z32 ++ (z32 ++ ((.int .i64 0) :: (z32 ++ [(.slice none 0 0), (.slice none 0 0)]))))))))))),
 o1 3 (.mov (tm 13)),
 o3 (.store 167 (tm 4) (tm 14))]) (.seq (.region [
 o1 15 (.fieldAddr 0 (tm 4)),
 o1 16 (.load none (tm 15)),
 o1 17 (.bin .neq (so (.binOp .neq 35 (tm 16) k0 35) 4) (tm 16) k0),
 o1 18 (.mov (tm 17)),
 o4 19 (.mov (tm 0)) 18,
 o4 20 (.mov (tm 3)) 18,
 o4 21 (.load (some 167) (tm 4)) 18,
 o4 22 (.callV (tm 19) [(tm 20), (tm 21)]) 18,
 o4 23 (.raw (so (.unOp .not 4 (tm 22)) 4)) 18,
 o1 24 (.pick (tm 18) (tm 23) (.const (.bool false)))]) (.cond (tm 24)
 .ret
 .skip)))) (.region [
 o1 25 (.bin .add (so (.binOp .add 3 (tm 11) (.const (.int .i64 1)) 3) 3) (tm 11) (.const (.int .i64 1))),
 o1 11 (.mov (tm 25))]))))
def zsQ_c : ACode :=
 (.seq (.seq (.region [
 o1 5 (.load none (tm 1)),
 o1 6 (.callV (.func 27) [(tm 5)])]) (.cond (tm 6)
 .ret
 .skip)) (.seq (.region [
 o1 7 (.load none (tm 1)),
 o1 8 (.nilCheck (tm 7)),
 o1 9 (.fieldAddr 32 (tm 8)),
 o1 10 (.load (some 2672) (tm 9)),
 o1 11 (.mov k0)]) (.block 0 (.loop zsQ_l0))))
def zsQ : AFunc := ⟨26, [], zsQ_c, none⟩
theorem zsQ_t0 : tableOf Try.prog 33 = some zsQ := by kernel_rfl
theorem zsQ_t : T0 33 = some zsQ := withKept_t rfl (withTrue_t rfl zsQ_t0)
theorem zsQ_runs {v0 v1 : Value} {h : Heap} {R : RP} {X : XP} (k : RunC Try.prog T0 zsQ_c ⟨[v0, v1, U, U, U, U, U, U, U, U, U, U, U, U, U, U, U, U, U, U, U, U, U, U, U, U], [], h, none⟩ (bodyQ Try.prog T0 [] R X)) :
 Runs Try.prog T0 (.fn 33) [v0, v1] h R X := Runs.fn zsQ_t rfl k
abbrev zsQ_l0_M : List Nat := [0, 0, 0, 1, 1, 0, 0, 0, 0, 0, 0, 2, 1, 1, 1, 1, 1, 1, 1, 1, 1, 1, 1, 1, 1, 1]
abbrev fn_zwbQ : FuncId := 34
def zwbQ_c : ACode :=
 (.seq (.region [
 o1 2 (.mov (.const (.slice none 0 0)))]) (.seq (.seq (.region [
 o1 3 (.mov (tm 0)),
 o1 4 (.eq .slice false (so (.binOp .eql 26 (tm 3) (.const (.slice none 0 0)) 26) 4) (tm 3) (.const (.slice none 0 0)))]) (.cond (tm 4)
 (.seq (.region [
 o1 2 (.mov (.const (.slice none 0 0)))]) .ret)
 .skip)) (.seq (.region [
 o1 5 (.buildSlice 87 [] 0 []),
 o1 6 (.mov (tm 0)),
 o1 7 (.append 87 2 16 [(.int .i64 0), (.int .u64 0)] false (tm 5) (tm 6)),
 o1 2 (.mov (tm 7))]) .ret)))
def zwbQ : AFunc := ⟨8, [(2, none)], zwbQ_c, none⟩
theorem zwbQ_t0 : tableOf Try.prog 34 = some zwbQ := by kernel_rfl
theorem zwbQ_t : T0 34 = some zwbQ := withKept_t rfl (withTrue_t rfl zwbQ_t0)
theorem zwbQ_runs {v0 : Value} {h : Heap} {R : RP} {X : XP} (k : RunC Try.prog T0 zwbQ_c ⟨[v0, U, U, U, U, U, U, U], [], h, none⟩ (bodyQ Try.prog T0 [(2, none)] R X)) :
 Runs Try.prog T0 (.fn 34) [v0] h R X := Runs.fn zwbQ_t rfl k
abbrev fn_zvbQ : FuncId := 35
def zvbQ_c : ACode :=
 (.seq (.region [
 o1 2 (.mov (.const (.slice none 0 0)))]) (.seq (.seq (.region [
 o1 3 (.mov (tm 0)),
 o1 4 (.eq .slice false (so (.binOp .eql 29 (tm 3) (.const (.slice none 0 0)) 29) 4) (tm 3) (.const (.slice none 0 0)))]) (.cond (tm 4)
 (.seq (.region [
 o1 2 (.mov (.const (.slice none 0 0)))]) .ret)
 .skip)) (.seq (.region [
 o1 5 (.buildSlice 81 [] 0 []),
 o1 6 (.mov (tm 0)),
 o1 7 (.append 81 5 16 [(.int .u8 0), (.int .u8 0), (.int .u8 0), (.int .u8 0), (.int .i64 0)] false (tm 5) (tm 6)),
 o1 2 (.mov (tm 7))]) .ret)))
def zvbQ : AFunc := ⟨8, [(2, none)], zvbQ_c, none⟩
theorem zvbQ_t0 : tableOf Try.prog 35 = some zvbQ := by kernel_rfl
theorem zvbQ_t : T0 35 = some zvbQ := withKept_t rfl (withTrue_t rfl zvbQ_t0)
theorem zvbQ_runs {v0 : Value} {h : Heap} {R : RP} {X : XP} (k : RunC Try.prog T0 zvbQ_c ⟨[v0, U, U, U, U, U, U, U], [], h, none⟩ (bodyQ Try.prog T0 [(2, none)] R X)) :
 Runs Try.prog T0 (.fn 35) [v0] h R X := Runs.fn zvbQ_t rfl k
abbrev fn_zxQ : FuncId := 36
def zxQ_c : ACode :=
 (.seq (.region [
 o1 2 (.box 37 (tm 0)),
 o1 3 (.mov (.const (.bool false)))]) (.seq (.region [
 o1 4 (.fieldAddr 0 (tm 2)),
 o1 5 (.load none (tm 4)),
 o1 6 (.load none (tm 1)),
 o1 7 (.bin .eql (so (.binOp .eql 35 (tm 5) (tm 6) 35) 4) (tm 5) (tm 6)),
 o1 3 (.mov (tm 7))]) .ret))
def zxQ : AFunc := ⟨8, [(3, none)], zxQ_c, none⟩
theorem zxQ_t0 : tableOf Try.prog 36 = some zxQ := by kernel_rfl
theorem zxQ_t : T0 36 = some zxQ := withKept_t rfl (withTrue_t rfl zxQ_t0)
theorem zxQ_runs {v0 v1 : Value} {h : Heap} {R : RP} {X : XP} (k : RunC Try.prog T0 zxQ_c ⟨[v0, v1, U, U, U, U, U, U], [], h, none⟩ (bodyQ Try.prog T0 [(3, none)] R X)) :
 Runs Try.prog T0 (.fn 36) [v0, v1] h R X := Runs.fn zxQ_t rfl k
abbrev fn_zbbQ : FuncId := 38
def zbbQ_l0 : ACode :=
 (.seq (.region [
 o1 32 (.bin .lss (so (.binOp .lss 3 (tm 31) (.const (.int .i64 4)) 3) 0) (tm 31) (.const (.int .i64 4)))]) (.seq (.cond (tm 32)
 .skip
 (.exit 0)) (.seq (.block 1 (.seq (.region [
 o1 33 (.index 4 1 none (tm 30) (tm 31)),
 o1 8 (.mov (tm 33))]) (.region [
 o1 34 (.mov (tm 5)),
 o1 35 (.mov (tm 8)),
 o1 36 (.nilCheck (tm 35)),
 o1 37 (.load (some 32) (tm 36)),
 o1 38 (.callV (.func 45) [(tm 34), (tm 37)])]))) (.region [
 o1 39 (.bin .add (so (.binOp .add 3 (tm 31) (.const (.int .i64 1)) 3) 3) (tm 31) (.const (.int .i64 1))),
 o1 31 (.mov (tm 39))]))))
def zbbQ_c : ACode :=
 (.seq (.region [
 o1 1 (.box 25 (tm 0)),
 o1 2 (.mov (.const (.slice none 0 0))),
 o1 3 (.mov k0)]) (.seq (.seq (.region [
 o1 9 (.load (some 131) (tm 1)),
 o1 10 (.callV (.func 40) [(tm 9)]),
 o1 4 (.mov (tm 10))]) (.seq (.region [
 o1 11 (.mov (tm 4)),
 o1 12 (.bin .neq (so (.binOp .neq 44 (tm 11) k0 44) 4) (tm 11) k0)]) (.cond (tm 12)
 (.seq (.region [
 o1 13 (.mov (tm 4)),
 o1 2 (.mov (.const (.slice none 0 0))),
 o1 3 (.mov (tm 13))]) .ret)
 .skip))) (.seq (.region [
 o1 15 (.callV (.func 41) [(.const (.int .i64 65536))]),
 o1 14 (.mov (tm 15)),
 o1 16 (.extract 0 (tm 14)),
 o1 17 (.extract 1 (tm 14)),
 o1 5 (.mov (tm 16)),
 o1 6 (.mov (tm 17))]) (.seq (.region [
 o1 18 (.mov (tm 5)),
 o1 19 (.fieldAddr 0 (tm 1)),
 o1 20 (.load none (tm 19)),
 o1 21 (.callV (.func 42) [(tm 18), (tm 20)])]) (.seq (.region [
 o1 22 (.mov (tm 5)),
 o1 23 (.fieldAddr 1 (tm 1)),
 o1 24 (.load none (tm 23)),
 o1 25 (.callV (.func 43) [(tm 22), (tm 24)])]) (.seq (.region [
 o1 26 (.mov (tm 5)),
 o1 27 (.fieldAddr 2 (tm 1)),
 o1 28 (.load none (tm 27)),
 o1 29 (.callV (.func 43) [(tm 26), (tm 28)])]) (.seq (.seq (.region [
 o1 30 (.callV (.func 44) [(tm 1)]),
 o1 31 (.mov k0)]) (.block 0 (.loop zbbQ_l0))) (.seq (.region [
 o1 40 (.mov (tm 5)),
 o1 41 (.callV (.func 46) [(tm 40)]),
 o1 42 (.extract 0 (tm 41)),
 o1 43 (.extract 1 (tm 41)),
 o1 2 (.mov (tm 42)),
 o1 3 (.mov (tm 43))]) .ret))))))))
def zbbQ : AFunc := ⟨44, [(2, none), (3, none)], zbbQ_c, none⟩
theorem zbbQ_t0 : tableOf Try.prog 38 = some zbbQ := by kernel_rfl
theorem zbbQ_t : T0 38 = some zbbQ := withKept_t rfl (withTrue_t rfl zbbQ_t0)
theorem zbbQ_runs {v0 : Value} {h : Heap} {R : RP} {X : XP} (k : RunC Try.prog T0 zbbQ_c ⟨[v0, U, U, U, U, U, U, U, U, U, U, U, U, U, U, U, U, U, U, U, U, U, U, U, U, U, U, U, U, U, U, U, U, U, U, U, U, U, U, U, U, U, U, U], [], h, none⟩ (bodyQ Try.prog T0 [(2, none), (3, none)] R X)) :
 Runs Try.prog T0 (.fn 38) [v0] h R X := Runs.fn zbbQ_t rfl k
abbrev zbbQ_l0_M : List Nat := [0, 0, 0, 0, 0, 0, 0, 0, 1, 0, 0, 0, 0, 0, 0, 0, 0, 0, 0, 0, 0, 0, 0, 0, 0, 0, 0, 0, 0, 0, 0, 2, 1, 1, 1, 1, 1, 1, 1, 1, 0, 0, 0, 0]
abbrev fn_zabQ : FuncId := 40
def zabQ_l0 : ACode :=
 (.seq (.region [
 o1 8 (.bin .lss (so (.binOp .lss 3 (tm 7) (tm 6) 3) 0) (tm 7) (tm 6))]) (.seq (.cond (tm 8)
 .skip
 (.exit 0)) (.seq (.block 1 (.seq (.region [
 o1 9 (.indexSl 2 (tm 5) (tm 7)),
 o1 10 (.load (some 2) (tm 9)),
 o1 4 (.alloc 113 [.nilFunc, (.int .i64 0)]),
 o3 (.store 2 (tm 4) (tm 10))]) (.seq (.region [
 o1 11 (.fieldAddr 0 (tm 4)),
 o1 12 (.load none (tm 11)),
 o1 13 (.load (some 131) (tm 1)),
 o1 14 (.callV (tm 12) [(tm 13)]),
 o1 15 (.raw (so (.unOp .not 4 (tm 14)) 4))]) (.cond (tm 15)
 (.seq (.region [
 o1 16 (.fieldAddr 1 (tm 4)),
 o1 17 (.load none (tm 16)),
 o1 2 (.mov (tm 17))]) .ret)
 .skip)))) (.region [
 o1 18 (.bin .add (so (.binOp .add 3 (tm 7) (.const (.int .i64 1)) 3) 3) (tm 7) (.const (.int .i64 1))),
 o1 7 (.mov (tm 18))]))))
def zabQ_c : ACode :=
 (.seq (.region [
 o1 1 (.box 25 (tm 0)),
 o1 2 (.mov k0)]) (.seq (.seq (.region [
 o1 5 (.callV (.func 50) []),
 o1 6 (.lenSl (tm 5)),
 o1 7 (.mov k0)]) (.block 0 (.loop zabQ_l0))) (.seq (.region [
 o1 2 (.mov k0)]) .ret)))
def zabQ : AFunc := ⟨19, [(2, none)], zabQ_c, none⟩
theorem zabQ_t0 : tableOf Try.prog 40 = some zabQ := by kernel_rfl
theorem zabQ_t : T0 40 = some zabQ := withKept_t rfl (withTrue_t rfl zabQ_t0)
theorem zabQ_runs {v0 : Value} {h : Heap} {R : RP} {X : XP} (k : RunC Try.prog T0 zabQ_c ⟨[v0, U, U, U, U, U, U, U, U, U, U, U, U, U, U, U, U, U, U], [], h, none⟩ (bodyQ Try.prog T0 [(2, none)] R X)) :
 Runs Try.prog T0 (.fn 40) [v0] h R X := Runs.fn zabQ_t rfl k
abbrev zabQ_l0_M : List Nat := [0, 0, 1, 0, 1, 0, 0, 2, 1, 1, 1, 1, 1, 1, 1, 1, 1, 1, 1]
abbrev fn_zdcQ : FuncId := 41
def zdcQ_c : ACode :=
 (.seq (.region [
 o1 2 (.mov (.const (.pointer none))),
 o1 3 (.mov k0)]) (.seq (.seq (.region [
 o1 4 (.mov (tm 0)),
 o1 5 (.bin .lss (so (.binOp .lss 3 (tm 4) k0 3) 4) (tm 4) k0),
 o1 6 (.mov (tm 5)),
 o5 7 (.mov (tm 0)) 6,
 o5 8 (.bin .gtr (so (.binOp .gtr 3 (tm 7) (.const (.int .i64 1048576)) 3) 4) (tm 7) (.const (.int .i64 1048576))) 6,
 o1 9 (.pick (tm 6) (.const (.bool true)) (tm 8))]) (.cond (tm 9)
 (.seq (.region [
 o1 2 (.mov (.const (.pointer none))),
 o1 3 (.mov (.const (.int .i64 3)))]) .ret)
 .skip)) (.seq (.region [
 o1 10 (.mov (tm 0)),
 o1 11 (.build [(.int .i64 0), (.slice none 0 0), (.int .i64 0), (.bool false)] [(0, 1, (tm 10)), (3, 1, (.const (.bool true)))]),
 o1 12 (.box 115 (tm 11)),
 o1 2 (.mov (tm 12)),
 o1 3 (.mov k0)]) .ret)))
def zdcQ : AFunc := ⟨13, [(2, none), (3, none)], zdcQ_c, none⟩
theorem zdcQ_t0 : tableOf Try.prog 41 = some zdcQ := by kernel_rfl
theorem zdcQ_t : T0 41 = some zdcQ := withKept_t rfl (withTrue_t rfl zdcQ_t0)
theorem zdcQ_runs {v0 : Value} {h : Heap} {R : RP} {X : XP} (k : RunC Try.prog T0 zdcQ_c ⟨[v0, U, U, U, U, U, U, U, U, U, U, U, U], [], h, none⟩ (bodyQ Try.prog T0 [(2, none), (3, none)] R X)) :
 Runs Try.prog T0 (.fn 41) [v0] h R X := Runs.fn zdcQ_t rfl k
abbrev fn_zicQ : FuncId := 42
def zicQ_c : ACode :=
 (.seq (.region [
 o1 4 (.mov k0)]) (.seq (.region [
 o1 5 (.mov (tm 0)),
 o1 6 (.mov (tm 1)),
 o1 7 (.strToBytes 5 (tm 6)),
 o1 8 (.callV (.func 51) [(tm 5), (tm 7)]),
 o1 4 (.mov (tm 8))]) .ret))
def zicQ : AFunc := ⟨9, [(4, none)], zicQ_c, none⟩
theorem zicQ_t0 : tableOf Try.prog 42 = some zicQ := by kernel_rfl
theorem zicQ_t : T0 42 = some zicQ := withKept_t rfl (withTrue_t rfl zicQ_t0)
theorem zicQ_runs {v0 v1 : Value} {h : Heap} {R : RP} {X : XP} (k : RunC Try.prog T0 zicQ_c ⟨[v0, v1, U, U, U, U, U, U, U], [], h, none⟩ (bodyQ Try.prog T0 [(4, none)] R X)) :
 Runs Try.prog T0 (.fn 42) [v0, v1] h R X := Runs.fn zicQ_t rfl k
abbrev fn_zhcQ : FuncId := 43
def zhcQ_c : ACode :=
 (.seq (.region [
 o1 4 (.mov k0)]) (.seq (.region [
 o1 5 (.mov (tm 0)),
 o1 6 (.mov (tm 1)),
 o1 7 (.bin .geq (so (.binOp .geq 3 (tm 6) k0 3) 4) (tm 6) k0),
 o1 8 (.mov (tm 1)),
 o1 9 (.raw (so (.call ⟨.builtin .max, #[(tm 8), k0], #[3, 3]⟩) 3)),
 o1 10 (.callV (.func 53) [(tm 9)]),
 o1 11 (.buildSlice 90 [(.slice none 0 0)] 1 [(0, 1, (tm 10))]),
 o1 12 (.callV (.func 52) [(tm 5), (tm 7), (tm 11)]),
 o1 4 (.mov (tm 12))]) .ret))
def zhcQ : AFunc := ⟨13, [(4, none)], zhcQ_c, none⟩
theorem zhcQ_t0 : tableOf Try.prog 43 = some zhcQ := by kernel_rfl
theorem zhcQ_t : T0 43 = some zhcQ := withKept_t rfl (withTrue_t rfl zhcQ_t0)
theorem zhcQ_runs {v0 v1 : Value} {h : Heap} {R : RP} {X : XP} (k : RunC Try.prog T0 zhcQ_c ⟨[v0, v1, U, U, U, U, U, U, U, U, U, U, U], [], h, none⟩ (bodyQ Try.prog T0 [(4, none)] R X)) :
 Runs Try.prog T0 (.fn 43) [v0, v1] h R X := Runs.fn zhcQ_t rfl k
abbrev fn_zfbQ : FuncId := 44
def zfbQ_c : ACode :=
 (.seq (.region [
 o1 2 (.alloc 100 [(.pointer none), (.pointer none), (.pointer none), (.pointer none)])]) (.seq (.regionD [
 o1 3 (.mov (tm 0)),
 o1 4 (.nilCheck (tm 3)),
 o1 5 (.fieldAddr 3 (tm 4)),
 o1 6 (.mov (tm 0)),
 o1 7 (.nilCheck (tm 6)),
 o1 8 (.fieldAddr 35 (tm 7)),
 o1 9 (.mov (tm 0)),
 o1 10 (.nilCheck (tm 9)),
 o1 11 (.fieldAddr 67 (tm 10)),
 o1 12 (.mov (tm 0)),
 o1 13 (.nilCheck (tm 12)),
 o1 14 (.fieldAddr 99 (tm 13)),
 o2 15 (.build [(.pointer none), (.pointer none), (.pointer none), (.pointer none)] [(0, 1, (tm 5)), (1, 1, (tm 8)), (2, 1, (tm 11)), (3, 1, (tm 14))]),
 ⟨none, .store 4 (tm 2) (tm 15), none, [], true⟩]) .ret))
def zfbQ : AFunc := ⟨16, [(2, some (some 4))], zfbQ_c, none⟩
theorem zfbQ_t0 : tableOf Try.prog 44 = some zfbQ := by kernel_rfl
theorem zfbQ_t : T0 44 = some zfbQ := withKept_t rfl (withTrue_t rfl zfbQ_t0)
theorem zfbQ_runs {v0 : Value} {h : Heap} {R : RP} {X : XP} (k : RunC Try.prog T0 zfbQ_c ⟨[v0, U, U, U, U, U, U, U, U, U, U, U, U, U, U, U], [], h, none⟩ (bodyQ Try.prog T0 [(2, some (some 4))] R X)) :
 Runs Try.prog T0 (.fn 44) [v0] h R X := Runs.fn zfbQ_t rfl k
abbrev fn_zgcQ : FuncId := 45
def zgcQ_c : ACode :=
 (.seq (.region [
 o1 3 (.box 23 (tm 1)),
 o1 4 (.mov k0)]) (.seq (.region [
 o1 5 (.mov (tm 0)),
 o1 6 (.sliceArr 32 1 (tm 3) none none),
 o1 7 (.buildSlice 90 [(.slice none 0 0)] 1 [(0, 1, (tm 6))]),
 o1 8 (.callV (.func 52) [(tm 5), (.const (.bool true)), (tm 7)]),
 o1 4 (.mov (tm 8))]) .ret))
def zgcQ : AFunc := ⟨9, [(4, none)], zgcQ_c, none⟩
theorem zgcQ_t0 : tableOf Try.prog 45 = some zgcQ := by kernel_rfl
theorem zgcQ_t : T0 45 = some zgcQ := withKept_t rfl (withTrue_t rfl zgcQ_t0)
theorem zgcQ_runs {v0 v1 : Value} {h : Heap} {R : RP} {X : XP} (k : RunC Try.prog T0 zgcQ_c ⟨[v0, v1, U, U, U, U, U, U, U], [], h, none⟩ (bodyQ Try.prog T0 [(4, none)] R X)) :
 Runs Try.prog T0 (.fn 45) [v0, v1] h R X := Runs.fn zgcQ_t rfl k
abbrev fn_zfcQ : FuncId := 46
def zfcQ_c : ACode :=
 (.seq (.region [
 o1 2 (.mov (.const (.slice none 0 0))),
 o1 3 (.mov k0)]) (.seq (.block 0 (.seq (.region [
 o1 5 (.mov (tm 0)),
 o1 6 (.eq .ptr false (so (.binOp .eql 95 (tm 5) (.const (.pointer none)) 95) 4) (tm 5) (.const (.pointer none))),
 o1 7 (.mov (tm 6)),
 o5 8 (.mov (tm 0)) 7,
 o5 9 (.nilCheck (tm 8)) 7,
 o5 10 (.fieldAddr 3 (tm 9)) 7,
 o5 11 (.load none (tm 10)) 7,
 o5 12 (.raw (so (.unOp .not 4 (tm 11)) 4)) 7,
 o1 13 (.pick (tm 7) (.const (.bool true)) (tm 12)),
 o1 4 (.mov (tm 13))]) (.cond (tm 4)
 (.seq (.region [
 o1 2 (.mov (.const (.slice none 0 0))),
 o1 3 (.mov (.const (.int .i64 1)))]) .ret)
 (.seq (.region [
 o1 15 (.mov (tm 0)),
 o1 16 (.nilCheck (tm 15)),
 o1 17 (.fieldAddr 2 (tm 16)),
 o1 18 (.load none (tm 17)),
 o1 19 (.bin .neq (so (.binOp .neq 44 (tm 18) k0 44) 4) (tm 18) k0),
 o1 14 (.mov (tm 19))]) (.cond (tm 14)
 (.seq (.regionD [
 o1 20 (.mov (tm 0)),
 o1 21 (.nilCheck (tm 20)),
 o1 22 (.fieldAddr 2 (tm 21)),
 o1 23 (.load none (tm 22)),
 o1 2 (.mov (.const (.slice none 0 0))),
 o2 3 (.mov (tm 23))]) .ret)
 .skip))))) (.seq (.region [
 o1 24 (.mov (tm 0)),
 o1 25 (.nilCheck (tm 24)),
 o1 26 (.fieldAddr 1 (tm 25)),
 o1 27 (.load none (tm 26)),
 o1 28 (.callV (.func 54) [(tm 27)]),
 o1 2 (.mov (tm 28)),
 o1 3 (.mov k0)]) .ret)))
def zfcQ : AFunc := ⟨29, [(2, none), (3, none)], zfcQ_c, none⟩
theorem zfcQ_t0 : tableOf Try.prog 46 = some zfcQ := by kernel_rfl
theorem zfcQ_t : T0 46 = some zfcQ := withKept_t rfl (withTrue_t rfl zfcQ_t0)
theorem zfcQ_runs {v0 : Value} {h : Heap} {R : RP} {X : XP} (k : RunC Try.prog T0 zfcQ_c ⟨[v0, U, U, U, U, U, U, U, U, U, U, U, U, U, U, U, U, U, U, U, U, U, U, U, U, U, U, U, U], [], h, none⟩ (bodyQ Try.prog T0 [(2, none), (3, none)] R X)) :
 Runs Try.prog T0 (.fn 46) [v0] h R X := Runs.fn zfcQ_t rfl k
abbrev fn_zhbQ : FuncId := 50
def zhbQ_c : ACode :=
 (.seq (.region [
 o1 0 (.mov (.const (.slice none 0 0)))]) (.seq (.region [
 o1 1 (.build [.nilFunc, (.int .i64 0)] [(0, 1, (.func 60)), (1, 1, (.const (.int .i64 5)))]),
 o1 2 (.build [.nilFunc, (.int .i64 0)] [(0, 1, (.func 62)), (1, 1, (.const (.int .i64 3)))]),
 o1 3 (.build [.nilFunc, (.int .i64 0)] [(0, 1, (.func 63)), (1, 1, (.const (.int .i64 3)))]),
 o1 4 (.buildSlice 113 [.nilFunc, (.int .i64 0), .nilFunc, (.int .i64 0), .nilFunc, (.int .i64 0)] 3 [(0, 2, (tm 1)), (2, 2, (tm 2)), (4, 2, (tm 3))]),
 o1 0 (.mov (tm 4))]) .ret))
def zhbQ : AFunc := ⟨5, [(0, none)], zhbQ_c, none⟩
theorem zhbQ_t0 : tableOf Try.prog 50 = some zhbQ := by kernel_rfl
theorem zhbQ_t : T0 50 = some zhbQ := withKept_t rfl (withTrue_t rfl zhbQ_t0)
theorem zhbQ_runs {v : Value} {h : Heap} {R : RP} {X : XP} (k : RunC Try.prog T0 zhbQ_c ⟨[undef, U, U, U, U], [], h, none⟩ (bodyQ Try.prog T0 [(0, none)] R X)) :
 Runs Try.prog T0 (.fn 50) [] h R X := Runs.fn zhbQ_t rfl k
abbrev fn_zecQ : FuncId := 51
def zecQ_c : ACode :=
 (.seq (.region [
 o1 4 (.mov k0)]) (.seq (.region [
 o1 5 (.mov (tm 0)),
 o1 6 (.mov (tm 1)),
 o1 7 (.lenSl (tm 6)),
 o1 8 (.callV (.func 53) [(tm 7)]),
 o1 9 (.mov (tm 1)),
 o1 10 (.buildSlice 90 [(.slice none 0 0), (.slice none 0 0)] 2 [(0, 1, (tm 8)), (1, 1, (tm 9))]),
 o1 11 (.callV (.func 52) [(tm 5), (.const (.bool true)), (tm 10)]),
 o1 4 (.mov (tm 11))]) .ret))
def zecQ : AFunc := ⟨12, [(4, none)], zecQ_c, none⟩
theorem zecQ_t0 : tableOf Try.prog 51 = some zecQ := by kernel_rfl
theorem zecQ_t : T0 51 = some zecQ := withKept_t rfl (withTrue_t rfl zecQ_t0)
theorem zecQ_runs {v0 v1 : Value} {h : Heap} {R : RP} {X : XP} (k : RunC Try.prog T0 zecQ_c ⟨[v0, v1, U, U, U, U, U, U, U, U, U, U], [], h, none⟩ (bodyQ Try.prog T0 [(4, none)] R X)) :
 Runs Try.prog T0 (.fn 51) [v0, v1] h R X := Runs.fn zecQ_t rfl k
abbrev fn_zjcQ : FuncId := 52
def zjcQ_c : ACode :=
 (.seq (.region [
 o1 6 (.mov k0)]) (.seq (.seq (.region [
 o1 8 (.mov (tm 0)),
 o1 9 (.eq .ptr false (so (.binOp .eql 95 (tm 8) (.const (.pointer none)) 95) 4) (tm 8) (.const (.pointer none))),
 o1 10 (.mov (tm 9)),
 o5 11 (.mov (tm 0)) 10,
 o5 12 (.nilCheck (tm 11)) 10,
 o5 13 (.fieldAddr 3 (tm 12)) 10,
 o5 14 (.load none (tm 13)) 10,
 o5 15 (.raw (so (.unOp .not 4 (tm 14)) 4)) 10,
 o1 16 (.pick (tm 10) (.const (.bool true)) (tm 15))]) (.cond (tm 16)
 (.seq (.region [
 o1 6 (.mov (.const (.int .i64 1)))]) .ret)
 .skip)) (.seq (.region [
 o1 17 (.mov (tm 2)),
 o1 18 (.callV (.func 64) [(tm 17)]),
 o1 7 (.mov (tm 18))]) (.seq (.block 0 (.seq (.region [
 o1 29 (.mov (tm 0)),
 o1 30 (.nilCheck (tm 29)),
 o1 31 (.fieldAddr 2 (tm 30)),
 o1 32 (.load none (tm 31)),
 o1 33 (.bin .neq (so (.binOp .neq 44 (tm 32) k0 44) 4) (tm 32) k0),
 o1 28 (.mov (tm 33))]) (.cond (tm 28)
 .skip
 (.seq (.region [
 o1 35 (.mov (tm 1)),
 o1 36 (.raw (so (.unOp .not 4 (tm 35)) 4)),
 o1 34 (.mov (tm 36))]) (.cond (tm 34)
 (.region [
 o1 37 (.mov (tm 0)),
 o1 38 (.nilCheck (tm 37)),
 o1 39 (.fieldAddr 2 (tm 38)),
 o3 (.store 1 (tm 39) (.const (.int .i64 3)))])
 (.seq (.regionD [
 o1 41 (.mov (tm 0)),
 o1 42 (.nilCheck (tm 41)),
 o1 43 (.fieldAddr 1 (tm 42)),
 o1 44 (.load none (tm 43)),
 o1 45 (.lenSl (tm 44)),
 o1 46 (.mov (tm 7)),
 o1 47 (.lenSl (tm 46)),
 o1 48 (.bin .add (so (.binOp .add 3 (tm 45) (tm 47) 3) 3) (tm 45) (tm 47)),
 o1 49 (.mov (tm 0)),
 o1 50 (.nilCheck (tm 49)),
 o1 51 (.fieldAddr 0 (tm 50)),
 o1 52 (.load none (tm 51)),
 o2 53 (.bin .gtr (so (.binOp .gtr 3 (tm 48) (tm 52) 3) 4) (tm 48) (tm 52)),
 o2 40 (.mov (tm 53))]) (.cond (tm 40)
 (.region [
 o1 54 (.mov (tm 0)),
 o1 55 (.nilCheck (tm 54)),
 o1 56 (.fieldAddr 2 (tm 55)),
 o3 (.store 1 (tm 56) (.const (.int .i64 4)))])
 (.region [
 o1 19 (.mov (tm 0)),
 o1 20 (.mov (tm 0)),
 o1 21 (.nilCheck (tm 20)),
 o1 22 (.fieldAddr 1 (tm 21)),
 o1 23 (.load none (tm 22)),
 o1 24 (.mov (tm 7)),
 o1 25 (.append 5 1 1 [(.int .u8 0)] false (tm 23) (tm 24)),
 o1 26 (.nilCheck (tm 19)),
 o1 27 (.fieldAddr 1 (tm 26)),
 o3 (.store 1 (tm 27) (tm 25))])))))))) (.seq (.region [
 o1 57 (.mov (tm 0)),
 o1 58 (.nilCheck (tm 57)),
 o1 59 (.fieldAddr 2 (tm 58)),
 o1 60 (.load none (tm 59)),
 o1 6 (.mov (tm 60))]) .ret)))))
def zjcQ : AFunc := ⟨61, [(6, none)], zjcQ_c, none⟩
theorem zjcQ_t0 : tableOf Try.prog 52 = some zjcQ := by kernel_rfl
theorem zjcQ_t : T0 52 = some zjcQ := withKept_t rfl (withTrue_t rfl zjcQ_t0)
theorem zjcQ_runs {v0 v1 v2 : Value} {h : Heap} {R : RP} {X : XP} (k : RunC Try.prog T0 zjcQ_c ⟨[v0, v1, v2, U, U, U, U, U, U, U, U, U, U, U, U, U, U, U, U, U, U, U, U, U, U, U, U, U, U, U, U, U, U, U, U, U, U, U, U, U, U, U, U, U, U, U, U, U, U, U, U, U, U, U, U, U, U, U, U, U, U], [], h, none⟩ (bodyQ Try.prog T0 [(6, none)] R X)) :
 Runs Try.prog T0 (.fn 52) [v0, v1, v2] h R X := Runs.fn zjcQ_t rfl k
abbrev fn_zkcQ : FuncId := 53
def zkcQ_l0 : ACode :=
 (.seq (.seq (.region [
 o1 5 (.mov (tm 0)),
 o1 6 (.bin .gtr (so (.binOp .gtr 3 (tm 5) k0 3) 4) (tm 5) k0)]) (.cond (tm 6)
 .skip
 (.exit 0))) (.seq (.block 1 (.seq (.region [
 o1 9 (.mov (tm 4)),
 o1 10 (.bin .sub (so (.binOp .sub 3 (.const (.int .i64 8)) (tm 9) 3) 3) (.const (.int .i64 8)) (tm 9)),
 o1 11 (.mov (tm 0)),
 o1 12 (.conv .u8 (so (.convert 3 5 (tm 11)) 5) (tm 11)),
 o1 13 (.indexArr 9 1 (tm 3) (tm 10)),
 o3 (.store 1 (tm 13) (tm 12))]) (.region [
 o1 14 (.mov (tm 4)),
 o1 15 (.bin .add (so (.binOp .add 3 (tm 14) (.const (.int .i64 1)) 3) 3) (tm 14) (.const (.int .i64 1))),
 o1 4 (.mov (tm 15))]))) (.region [
 o1 7 (.mov (tm 0)),
 o1 8 (.bin .shr (so (.binOp .shr 3 (tm 7) (.const (.int .u64 8)) 134) 3) (tm 7) (.const (.int .u64 8))),
 o1 0 (.mov (tm 8))])))
def zkcQ_c : ACode :=
 (.seq (.region [
 o1 2 (.mov (.const (.slice none 0 0)))]) (.seq (.region [
 o1 3 (.alloc 133 [(.int .u8 0), (.int .u8 0), (.int .u8 0), (.int .u8 0), (.int .u8 0), (.int .u8 0), (.int .u8 0), (.int .u8 0), (.int .u8 0)])]) (.seq (.region [
 o1 4 (.mov k0)]) (.seq (.block 0 (.loop zkcQ_l0)) (.seq (.region [
 o1 16 (.mov (tm 4)),
 o1 17 (.bin .sub (so (.binOp .sub 3 (.const (.int .i64 8)) (tm 16) 3) 3) (.const (.int .i64 8)) (tm 16)),
 o1 18 (.mov (tm 4)),
 o1 19 (.conv .u8 (so (.convert 3 5 (tm 18)) 5) (tm 18)),
 o1 20 (.indexArr 9 1 (tm 3) (tm 17)),
 o3 (.store 1 (tm 20) (tm 19))]) (.seq (.region [
 o1 21 (.mov (tm 4)),
 o1 22 (.bin .sub (so (.binOp .sub 3 (.const (.int .i64 8)) (tm 21) 3) 3) (.const (.int .i64 8)) (tm 21)),
 o1 23 (.sliceArr 9 1 (tm 3) (some (tm 22)) none),
 o1 2 (.mov (tm 23))]) .ret))))))
def zkcQ : AFunc := ⟨24, [(2, none)], zkcQ_c, none⟩
theorem zkcQ_t0 : tableOf Try.prog 53 = some zkcQ := by kernel_rfl
theorem zkcQ_t : T0 53 = some zkcQ := withKept_t rfl (withTrue_t rfl zkcQ_t0)
theorem zkcQ_runs {v0 : Value} {h : Heap} {R : RP} {X : XP} (k : RunC Try.prog T0 zkcQ_c ⟨[v0, U, U, U, U, U, U, U, U, U, U, U, U, U, U, U, U, U, U, U, U, U, U, U], [], h, none⟩ (bodyQ Try.prog T0 [(2, none)] R X)) :
 Runs Try.prog T0 (.fn 53) [v0] h R X := Runs.fn zkcQ_t rfl k
abbrev zkcQ_l0_M : List Nat := [2, 0, 0, 0, 2, 1, 1, 1, 1, 1, 1, 1, 1, 1, 1, 1, 0, 0, 0, 0, 0, 0, 0, 0]
abbrev fn_zxbQ : FuncId := 54
def zxbQ_c : ACode :=
 (.seq (.region [
 o1 2 (.mov (.const (.slice none 0 0)))]) (.seq (.seq (.region [
 o1 3 (.mov (tm 0)),
 o1 4 (.eq .slice false (so (.binOp .eql 90 (tm 3) (.const (.slice none 0 0)) 90) 4) (tm 3) (.const (.slice none 0 0)))]) (.cond (tm 4)
 (.seq (.region [
 o1 2 (.mov (.const (.slice none 0 0)))]) .ret)
 .skip)) (.seq (.region [
 o1 5 (.buildSlice 5 [] 0 []),
 o1 6 (.mov (tm 0)),
 o1 7 (.append 5 1 1 [(.int .u8 0)] false (tm 5) (tm 6)),
 o1 2 (.mov (tm 7))]) .ret)))
def zxbQ : AFunc := ⟨8, [(2, none)], zxbQ_c, none⟩
theorem zxbQ_t0 : tableOf Try.prog 54 = some zxbQ := by kernel_rfl
theorem zxbQ_t : T0 54 = some zxbQ := withKept_t rfl (withTrue_t rfl zxbQ_t0)
theorem zxbQ_runs {v0 : Value} {h : Heap} {R : RP} {X : XP} (k : RunC Try.prog T0 zxbQ_c ⟨[v0, U, U, U, U, U, U, U], [], h, none⟩ (bodyQ Try.prog T0 [(2, none)] R X)) :
 Runs Try.prog T0 (.fn 54) [v0] h R X := Runs.fn zxbQ_t rfl k
abbrev fn_zibQ : FuncId := 60
def zibQ_c : ACode :=
 (.seq (.region [
 o1 1 (.box 25 (tm 0)),
 o1 2 (.mov (.const (.bool false)))]) (.seq (.region [
 o1 3 (.fieldAddr 0 (tm 1)),
 o1 4 (.load none (tm 3)),
 o1 5 (.callV (.func 61) [(tm 4)]),
 o1 2 (.mov (tm 5))]) .ret))
def zibQ : AFunc := ⟨6, [(2, none)], zibQ_c, none⟩
theorem zibQ_t0 : tableOf Try.prog 60 = some zibQ := by kernel_rfl
theorem zibQ_t : T0 60 = some zibQ := withKept_t rfl (withTrue_t rfl zibQ_t0)
theorem zibQ_runs {v0 : Value} {h : Heap} {R : RP} {X : XP} (k : RunC Try.prog T0 zibQ_c ⟨[v0, U, U, U, U, U], [], h, none⟩ (bodyQ Try.prog T0 [(2, none)] R X)) :
 Runs Try.prog T0 (.fn 60) [v0] h R X := Runs.fn zibQ_t rfl k
abbrev fn_zdbQ : FuncId := 61
def zdbQ_c : ACode :=
 (.seq (.region [
 o1 2 (.mov (.const (.bool false)))]) (.seq (.region [
 o1 3 (.mov (tm 0)),
 o1 4 (.lenStr (tm 3)),
 o1 5 (.bin .geq (so (.binOp .geq 3 (tm 4) (.const (.int .i64 1)) 3) 4) (tm 4) (.const (.int .i64 1))),
 o1 6 (.mov (tm 5)),
 o4 7 (.mov (tm 0)) 6,
 o4 8 (.lenStr (tm 7)) 6,
 o4 9 (.bin .leq (so (.binOp .leq 3 (tm 8) (.const (.int .i64 32)) 3) 4) (tm 8) (.const (.int .i64 32))) 6,
 o1 10 (.pick (tm 6) (tm 9) (.const (.bool false))),
 o1 11 (.mov (tm 10)),
 o4 12 (.mov (tm 0)) 11,
 o4 13 (.callV (.func 68) [(tm 12), (.func 69)]) 11,
 o1 14 (.pick (tm 11) (tm 13) (.const (.bool false))),
 o1 2 (.mov (tm 14))]) .ret))
def zdbQ : AFunc := ⟨15, [(2, none)], zdbQ_c, none⟩
theorem zdbQ_t0 : tableOf Try.prog 61 = some zdbQ := by kernel_rfl
theorem zdbQ_t : T0 61 = some zdbQ := withKept_t rfl (withTrue_t rfl zdbQ_t0)
theorem zdbQ_runs {v0 : Value} {h : Heap} {R : RP} {X : XP} (k : RunC Try.prog T0 zdbQ_c ⟨[v0, U, U, U, U, U, U, U, U, U, U, U, U, U, U], [], h, none⟩ (bodyQ Try.prog T0 [(2, none)] R X)) :
 Runs Try.prog T0 (.fn 61) [v0] h R X := Runs.fn zdbQ_t rfl k
abbrev fn_zjbQ : FuncId := 62
def zjbQ_c : ACode :=
 (.seq (.region [
 o1 1 (.box 25 (tm 0)),
 o1 2 (.mov (.const (.bool false)))]) (.seq (.region [
 o1 3 (.fieldAddr 1 (tm 1)),
 o1 4 (.load none (tm 3)),
 o1 5 (.bin .geq (so (.binOp .geq 3 (tm 4) (.const (.int .i64 1)) 3) 4) (tm 4) (.const (.int .i64 1))),
 o1 6 (.mov (tm 5)),
 o4 7 (.fieldAddr 1 (tm 1)) 6,
 o4 8 (.load none (tm 7)) 6,
 o4 9 (.bin .leq (so (.binOp .leq 3 (tm 8) (.const (.int .i64 1073741824)) 3) 4) (tm 8) (.const (.int .i64 1073741824))) 6,
 o1 10 (.pick (tm 6) (tm 9) (.const (.bool false))),
 o1 2 (.mov (tm 10))]) .ret))
def zjbQ : AFunc := ⟨11, [(2, none)], zjbQ_c, none⟩
theorem zjbQ_t0 : tableOf Try.prog 62 = some zjbQ := by kernel_rfl
theorem zjbQ_t : T0 62 = some zjbQ := withKept_t rfl (withTrue_t rfl zjbQ_t0)
theorem zjbQ_runs {v0 : Value} {h : Heap} {R : RP} {X : XP} (k : RunC Try.prog T0 zjbQ_c ⟨[v0, U, U, U, U, U, U, U, U, U, U], [], h, none⟩ (bodyQ Try.prog T0 [(2, none)] R X)) :
 Runs Try.prog T0 (.fn 62) [v0] h R X := Runs.fn zjbQ_t rfl k
abbrev fn_zkbQ : FuncId := 63
def zkbQ_c : ACode :=
 (.seq (.region [
 o1 1 (.box 25 (tm 0)),
 o1 2 (.mov (.const (.bool false)))]) (.seq (.region [
 o1 3 (.fieldAddr 2 (tm 1)),
 o1 4 (.load none (tm 3)),
 o1 5 (.bin .geq (so (.binOp .geq 3 (tm 4) k0 3) 4) (tm 4) k0),
 o1 6 (.mov (tm 5)),
 o4 7 (.fieldAddr 2 (tm 1)) 6,
 o4 8 (.load none (tm 7)) 6,
 o4 9 (.bin .leq (so (.binOp .leq 3 (tm 8) (.const (.int .i64 1099511627776)) 3) 4) (tm 8) (.const (.int .i64 1099511627776))) 6,
 o1 10 (.pick (tm 6) (tm 9) (.const (.bool false))),
 o1 2 (.mov (tm 10))]) .ret))
def zkbQ : AFunc := ⟨11, [(2, none)], zkbQ_c, none⟩
theorem zkbQ_t0 : tableOf Try.prog 63 = some zkbQ := by kernel_rfl
theorem zkbQ_t : T0 63 = some zkbQ := withKept_t rfl (withTrue_t rfl zkbQ_t0)
theorem zkbQ_runs {v0 : Value} {h : Heap} {R : RP} {X : XP} (k : RunC Try.prog T0 zkbQ_c ⟨[v0, U, U, U, U, U, U, U, U, U, U], [], h, none⟩ (bodyQ Try.prog T0 [(2, none)] R X)) :
 Runs Try.prog T0 (.fn 63) [v0] h R X := Runs.fn zkbQ_t rfl k
abbrev fn_zybQ : FuncId := 64
def zybQ_l0 : ACode :=
 (.seq (.region [
 o1 12 (.bin .lss (so (.binOp .lss 3 (tm 11) (tm 10) 3) 0) (tm 11) (tm 10))]) (.seq (.cond (tm 12)
 .skip
 (.exit 0)) (.seq (.block 1 (.seq (.region [
 o1 13 (.indexSl 1 (tm 9) (tm 11)),
 o1 14 (.load none (tm 13)),
 o1 5 (.mov (tm 14))]) (.seq (.region [
 o1 15 (.mov (tm 3)),
 o1 16 (.mov (tm 5)),
 o1 17 (.lenSl (tm 16)),
 o1 18 (.bin .add (so (.binOp .add 3 (tm 15) (tm 17) 3) 3) (tm 15) (tm 17)),
 o1 3 (.mov (tm 18))]) (.seq (.region [
 o1 19 (.mov (tm 3)),
 o1 20 (.bin .lss (so (.binOp .lss 3 (tm 19) k0 3) 4) (tm 19) k0)]) (.cond (tm 20)
 (.region [
 o1 21 (.mkIface 9 (.const (.string ⟨⟨[108, 101, 110, 32, 111, 117, 116, 32, 111, 102, 32, 114, 97, 110, 103, 101]⟩⟩))),
 o3 (.panic (tm 21))])
 .skip))))) (.region [
 o1 22 (.bin .add (so (.binOp .add 3 (tm 11) (.const (.int .i64 1)) 3) 3) (tm 11) (.const (.int .i64 1))),
 o1 11 (.mov (tm 22))]))))
def zybQ_l1 : ACode :=
 (.seq (.region [
 o1 28 (.bin .lss (so (.binOp .lss 3 (tm 27) (tm 26) 3) 0) (tm 27) (tm 26))]) (.seq (.cond (tm 28)
 .skip
 (.exit 2)) (.seq (.block 3 (.seq (.region [
 o1 29 (.indexSl 1 (tm 25) (tm 27)),
 o1 30 (.load none (tm 29)),
 o1 8 (.mov (tm 30))]) (.region [
 o1 31 (.mov (tm 6)),
 o1 32 (.mov (tm 8)),
 o1 33 (.append 5 1 1 [(.int .u8 0)] false (tm 31) (tm 32)),
 o1 6 (.mov (tm 33))]))) (.region [
 o1 34 (.bin .add (so (.binOp .add 3 (tm 27) (.const (.int .i64 1)) 3) 3) (tm 27) (.const (.int .i64 1))),
 o1 27 (.mov (tm 34))]))))
def zybQ_c : ACode :=
 (.seq (.region [
 o1 2 (.mov (.const (.slice none 0 0)))]) (.seq (.region [
 o1 3 (.mov k0)]) (.seq (.seq (.region [
 o1 9 (.mov (tm 0)),
 o1 10 (.lenSl (tm 9)),
 o1 11 (.mov k0)]) (.block 0 (.loop zybQ_l0))) (.seq (.region [
 o1 23 (.mov (tm 3)),
 o1 24 (.callV (.func 70) [(.const (.slice none 0 0)), (tm 23)]),
 o1 6 (.mov (tm 24))]) (.seq (.seq (.region [
 o1 25 (.mov (tm 0)),
 o1 26 (.lenSl (tm 25)),
 o1 27 (.mov k0)]) (.block 2 (.loop zybQ_l1))) (.seq (.region [
 o1 35 (.mov (tm 6)),
 o1 2 (.mov (tm 35))]) .ret))))))
def zybQ : AFunc := ⟨36, [(2, none)], zybQ_c, none⟩
theorem zybQ_t0 : tableOf Try.prog 64 = some zybQ := by kernel_rfl
theorem zybQ_t : T0 64 = some zybQ := withKept_t rfl (withTrue_t rfl zybQ_t0)
theorem zybQ_runs {v0 : Value} {h : Heap} {R : RP} {X : XP} (k : RunC Try.prog T0 zybQ_c ⟨[v0, U, U, U, U, U, U, U, U, U, U, U, U, U, U, U, U, U, U, U, U, U, U, U, U, U, U, U, U, U, U, U, U, U, U, U], [], h, none⟩ (bodyQ Try.prog T0 [(2, none)] R X)) :
 Runs Try.prog T0 (.fn 64) [v0] h R X := Runs.fn zybQ_t rfl k
abbrev zybQ_l0_M : List Nat := [0, 0, 0, 2, 0, 1, 0, 0, 0, 0, 0, 2, 1, 1, 1, 1, 1, 1, 1, 1, 1, 1, 1, 0, 0, 0, 0, 0, 0, 0, 0, 0, 0, 0, 0, 0]
abbrev zybQ_l1_M : List Nat := [0, 0, 0, 0, 0, 0, 2, 0, 1, 0, 0, 0, 0, 0, 0, 0, 0, 0, 0, 0, 0, 0, 0, 0, 0, 0, 0, 2, 1, 1, 1, 1, 1, 1, 1, 0]
abbrev fn_zebQ : FuncId := 68
def zebQ_l0 : ACode :=
 (.seq (.region [
 o1 9 (.nextStr (tm 8)),
 o1 10 (.extract 0 (tm 9))]) (.seq (.cond (tm 10)
 .skip
 (.exit 0)) (.block 1 (.seq (.region [
 o1 11 (.extract 2 (tm 9)),
 o1 6 (.mov (tm 11))]) (.seq (.region [
 o1 12 (.mov (tm 1)),
 o1 13 (.mov (tm 6)),
 o1 14 (.callV (tm 12) [(tm 13)]),
 o1 15 (.raw (so (.unOp .not 4 (tm 14)) 4))]) (.cond (tm 15)
 (.seq (.region [
 o1 4 (.mov (.const (.bool false)))]) .ret)
 .skip))))))
def zebQ_c : ACode :=
 (.seq (.region [
 o1 4 (.mov (.const (.bool false)))]) (.seq (.seq (.region [
 o1 7 (.mov (tm 0)),
 o1 8 (.rangeStr (tm 7))]) (.block 0 (.loop zebQ_l0))) (.seq (.region [
 o1 4 (.mov (.const (.bool true)))]) .ret)))
def zebQ : AFunc := ⟨16, [(4, none)], zebQ_c, none⟩
theorem zebQ_t0 : tableOf Try.prog 68 = some zebQ := by kernel_rfl
theorem zebQ_t : T0 68 = some zebQ := withKept_t rfl (withTrue_t rfl zebQ_t0)
theorem zebQ_runs {v0 v1 : Value} {h : Heap} {R : RP} {X : XP} (k : RunC Try.prog T0 zebQ_c ⟨[v0, v1, U, U, U, U, U, U, U, U, U, U, U, U, U, U], [], h, none⟩ (bodyQ Try.prog T0 [(4, none)] R X)) :
 Runs Try.prog T0 (.fn 68) [v0, v1] h R X := Runs.fn zebQ_t rfl k
abbrev zebQ_l0_M : List Nat := [0, 0, 0, 0, 1, 0, 1, 0, 0, 1, 1, 1, 1, 1, 1, 1]
abbrev fn_zgbQ : FuncId := 69
def zgbQ_c : ACode :=
 (.seq (.region [
 o1 2 (.mov (.const (.bool false)))]) (.seq (.region [
 o1 3 (.mov (tm 0)),
 o1 4 (.bin .geq (so (.binOp .geq 21 (tm 3) (.const (.int .i32 97)) 21) 4) (tm 3) (.const (.int .i32 97))),
 o1 5 (.mov (tm 4)),
 o4 6 (.mov (tm 0)) 5,
 o4 7 (.bin .leq (so (.binOp .leq 21 (tm 6) (.const (.int .i32 122)) 21) 4) (tm 6) (.const (.int .i32 122))) 5,
 o1 8 (.pick (tm 5) (tm 7) (.const (.bool false))),
 o1 9 (.mov (tm 8)),
 o5 10 (.mov (tm 0)) 9,
 o5 11 (.bin .geq (so (.binOp .geq 21 (tm 10) (.const (.int .i32 48)) 21) 4) (tm 10) (.const (.int .i32 48))) 9,
 o5 12 (.mov (tm 11)) 9,
 o4 13 (.mov (tm 0)) 12,
 o4 14 (.bin .leq (so (.binOp .leq 21 (tm 13) (.const (.int .i32 57)) 21) 4) (tm 13) (.const (.int .i32 57))) 12,
 o5 15 (.pick (tm 12) (tm 14) (.const (.bool false))) 9,
 o1 16 (.pick (tm 9) (.const (.bool true)) (tm 15)),
 o1 17 (.mov (tm 16)),
 o5 18 (.mov (tm 0)) 17,
 o5 19 (.bin .eql (so (.binOp .eql 21 (tm 18) (.const (.int .i32 45)) 21) 4) (tm 18) (.const (.int .i32 45))) 17,
 o1 20 (.pick (tm 17) (.const (.bool true)) (tm 19)),
 o1 2 (.mov (tm 20))]) .ret))
def zgbQ : AFunc := ⟨21, [(2, none)], zgbQ_c, none⟩
theorem zgbQ_t0 : tableOf Try.prog 69 = some zgbQ := by kernel_rfl
theorem zgbQ_t : T0 69 = some zgbQ := withKept_t rfl (withTrue_t rfl zgbQ_t0)
theorem zgbQ_runs {v0 : Value} {h : Heap} {R : RP} {X : XP} (k : RunC Try.prog T0 zgbQ_c ⟨[v0, U, U, U, U, U, U, U, U, U, U, U, U, U, U, U, U, U, U, U, U], [], h, none⟩ (bodyQ Try.prog T0 [(2, none)] R X)) :
 Runs Try.prog T0 (.fn 69) [v0] h R X := Runs.fn zgbQ_t rfl k
abbrev fn_zzbQ : FuncId := 70
def zzbQ_c : ACode :=
 (.seq (.region [
 o1 4 (.mov (.const (.slice none 0 0)))]) (.seq (.seq (.region [
 o1 5 (.mov (tm 1)),
 o1 6 (.bin .lss (so (.binOp .lss 3 (tm 5) k0 3) 4) (tm 5) k0)]) (.cond (tm 6)
 (.region [
 o1 7 (.mkIface 9 (.const (.string ⟨⟨[99, 97, 110, 110, 111, 116, 32, 98, 101, 32, 110, 101, 103, 97, 116, 105, 118, 101]⟩⟩))),
 o3 (.panic (tm 7))])
 .skip)) (.seq (.seq (.region [
 o1 8 (.mov (tm 1)),
 o1 9 (.mov (tm 0)),
 o1 10 (.cap (tm 9)),
 o1 11 (.mov (tm 0)),
 o1 12 (.lenSl (tm 11)),
 o1 13 (.bin .sub (so (.binOp .sub 3 (tm 10) (tm 12) 3) 3) (tm 10) (tm 12)),
 o1 14 (.bin .sub (so (.binOp .sub 3 (tm 8) (tm 13) 3) 3) (tm 8) (tm 13)),
 o1 1 (.mov (tm 14))]) (.seq (.region [
 o1 15 (.mov (tm 1)),
 o1 16 (.bin .gtr (so (.binOp .gtr 3 (tm 15) k0 3) 4) (tm 15) k0)]) (.cond (tm 16)
 (.region [
 o1 17 (.mov (tm 0)),
 o1 18 (.mov (tm 0)),
 o1 19 (.cap (tm 18)),
 o1 20 (.sliceSl 1 (tm 17) none (some (tm 19)) none),
 o1 21 (.mov (tm 1)),
 o1 22 (.append 5 1 1 [(.int .u8 0)] true (tm 20) (tm 21)),
 o1 23 (.mov (tm 0)),
 o1 24 (.lenSl (tm 23)),
 o1 25 (.sliceSl 1 (tm 22) none (some (tm 24)) none),
 o1 0 (.mov (tm 25))])
 .skip))) (.seq (.region [
 o1 26 (.mov (tm 0)),
 o1 4 (.mov (tm 26))]) .ret))))
def zzbQ : AFunc := ⟨27, [(4, none)], zzbQ_c, none⟩
theorem zzbQ_t0 : tableOf Try.prog 70 = some zzbQ := by kernel_rfl
theorem zzbQ_t : T0 70 = some zzbQ := withKept_t rfl (withTrue_t rfl zzbQ_t0)
theorem zzbQ_runs {v0 v1 : Value} {h : Heap} {R : RP} {X : XP} (k : RunC Try.prog T0 zzbQ_c ⟨[v0, v1, U, U, U, U, U, U, U, U, U, U, U, U, U, U, U, U, U, U, U, U, U, U, U, U, U], [], h, none⟩ (bodyQ Try.prog T0 [(4, none)] R X)) :
 Runs Try.prog T0 (.fn 70) [v0, v1] h R X := Runs.fn zzbQ_t rfl k
end Go.Proofs.Ytlckmpioipiihaa.A

namespace Go.Proofs.Ytlckmpioipiihaa.A
open Go.Proofs.Ytlckmpioipiihaa.K
open Go Go.Vm
set_option maxRecDepth 10000
set_option linter.unusedVariables false
theorem t01 : LeT K.T0 T0 := holed_le (ps := prims) (ks := kepts)
theorem Sum_ok {h : Heap} {v : Value} {l : List UInt8} (hv : Rd h 1 v (bcells l) l.length) (hl : 0 < l.length) (hsm : l.length < 1048576) :
    Runs Try.prog T0 (.fn fn_zfQ) [v] h (fun r h' => r = .agg ⟨bcells (sumS l)⟩ ∧ Fr (fun _ => False) h h') (fun _ _ => False) := (K.Sum_ok hv hl hsm).tab t01
end Go.Proofs.Ytlckmpioipiihaa.A

namespace Go.Proofs.Ytlckmpioipiihaa.A
open Go.Proofs.Ytlckmpioipiihaa.K
open Go Go.Vm
set_option maxRecDepth 10000
set_option linter.unusedVariables false
theorem Clone_ok {h : Heap} {v : Value} {l : List UInt8} (hr : Rd h 1 v (bcells l) l.length) (hs : l.length < 1048576) :
    Runs Try.prog T0 (.fn fn_zxbQ) [v] h
      (fun r h' => Own h' 1 r (bcells l) l.length ∧ Fr (fun _ => False) h h' ∧ ∀ i, ownedBy r i → h.n ≤ i) (fun _ _ => False) := by
  have hnew := hr.new
  obtain ⟨a, cap, rfl, hlen, hc⟩ := hr
  refine zxbQ_runs ?_
  cases a with
  | none =>
    have hl : l = [] := by
      cases l with
      | nil => rfl
      | cons b l => obtain ⟨_, _, _, h1, _⟩ := hc (by simp); cases h1
    subst hl
    refine stp ?_
    exact ⟨.none, Fr.refl, fun i hi => hi.elim⟩
  | some a =>
    refine stp ?_
    have hz : Own (h.push (.cells [] 0)) 1 (.slice (some ⟨h.n, 0, none⟩) 0 0) [] 0 := .lit (by simp) (by rw [Heap.get_push, if_pos rfl])
    have hnew' := ((Rd.keep (S := fun _ => False) ⟨some a, cap, rfl, hlen, hc⟩ (Fr.refl.push (o := .cells [] 0)) fun _ _ => id).new (size := 1)) [.int .u8 0]
    refine O.append hz hnew' hlen (bcells_one l) (by omega) (by omega) (by omega) (fun v' h' h1 h2 h3 => ?_)
    refine stp ?_
    rw [Nat.zero_add, List.nil_append] at h1
    refine ⟨h1, (Fr.refl.push (o := .cells [] 0)).trans (S := fun _ => False) h2 (fun i hi ho => ?_), fun i hi => ?_⟩
    · have : h.n = i := ho
      omega
    · rcases h3 i hi with h4 | h4
      · have : h.n = i := h4
        omega
      · simp at h4; omega
end Go.Proofs.Ytlckmpioipiihaa.A

namespace Go.Proofs.Ytlckmpioipiihaa.A
open Go.Proofs.Ytlckmpioipiihaa.K
open Go Go.Vm
set_option maxRecDepth 10000
set_option linter.unusedVariables false
end Go.Proofs.Ytlckmpioipiihaa.A

namespace Go.Proofs.Ytlckmpioipiihaa.A
open Go.Proofs.Ytlckmpioipiihaa.K
open Go Go.Vm
set_option maxRecDepth 10000
set_option linter.unusedVariables false
end Go.Proofs.Ytlckmpioipiihaa.A

namespace Go.Proofs.Ytlckmpioipiihaa.A
open Go.Proofs.Ytlckmpioipiihaa.K
open Go Go.Vm
set_option maxRecDepth 10000
set_option linter.unusedVariables false
end Go.Proofs.Ytlckmpioipiihaa.A

namespace Go.Proofs.Ytlckmpioipiihaa.A
open Go.Proofs.Ytlckmpioipiihaa.K
open Go Go.Vm
set_option maxRecDepth 10000
set_option linter.unusedVariables false
theorem l32 {l : List UInt8} (h : l.length = 32) : L32 (bcells l) := ⟨by simpa [bcells] using h⟩
end Go.Proofs.Ytlckmpioipiihaa.A

namespace Go.Proofs.Ytlckmpioipiihaa.A
open Go.Proofs.Ytlckmpioipiihaa.K
open Go Go.Vm
set_option maxRecDepth 10000
set_option linter.unusedVariables false
def beN (n : Nat) : List UInt8 := if h : n = 0 then [] else beN (n / 256) ++ [UInt8.ofNat (n % 256)]
  termination_by n
  decreasing_by omega
theorem beN_zero : beN 0 = [] := by unfold beN; simp
theorem beN_pos {n : Nat} (h : n ≠ 0) : beN n = beN (n / 256) ++ [UInt8.ofNat (n % 256)] := by rw [beN]; rw [dif_neg h]
def numF (n : Nat) : List UInt8 := UInt8.ofNat (beN n).length :: beN n
theorem beN_len : ∀ (k n : Nat), n < 256 ^ k → (beN n).length ≤ k
  | 0, n, h => by
    obtain rfl : n = 0 := by simpa using h
    rw [beN_zero]; simp
  | k + 1, n, h => by
    by_cases h0 : n = 0
    · subst h0; rw [beN_zero]; simp
    · rw [beN_pos h0, List.length_append]
      have : n / 256 < 256 ^ k := Nat.div_lt_of_lt_mul (by rw [Nat.pow_succ] at h; omega)
      have := beN_len k _ this
      simp; omega
theorem u8nat {n : Nat} (h : n < 256) : (UInt8.ofNat n).toNat = n := by
  rw [UInt8.toNat_ofNat']
  exact Nat.mod_eq_of_lt h
theorem number_ok {h : Heap} {N : Nat} (hN : N ≤ 9223372036854775807) :
    Runs Try.prog T0 (.fn fn_zkcQ) [.int .i64 N] h (fun r h' => Rd h' 1 r (bcells (numF N)) (numF N).length ∧ (∀ i, blockOf r i → h.n ≤ i) ∧ Fr (fun _ => False) h h') (fun _ _ => False) := by
  refine zkcQ_runs ?_
  refine stp ?_
  refine loop2 zkcQ_l0_M 0 4 (fun m v0 v4 h' => ∃ (n k : Nat) (c : List Value) (ds : List UInt8), n = m ∧ v0 = .int .i64 n ∧ v4 = .int .i64 k ∧ k ≤ 8 ∧ n < 256 ^ (8 - k) ∧ n ≤ N ∧ h' = h.push (.cells c 0) ∧ c.length = 9 ∧ ds.length = k ∧ c.drop (9 - k) = bcells ds ∧ beN N = beN n ++ ds) ?_ N
    ⟨N, 0, _, [], rfl, rfl, rfl, by omega, by simp; omega, Nat.le_refl _, rfl, rfl, rfl, rfl, by simp⟩
  rintro m v0 v4 h' x5 x6 x7 x8 x9 x10 x11 x12 x13 x14 x15 ⟨n, k, c, ds, hnm, rfl, rfl, hk, hn, hnN, rfl, hc, hds, hd, hbe⟩
  subst hnm
  refine stp ?_
  refine C.if (fun hpos => ?_) (fun hz => ?_)
  · have hk8 : k < 8 := by
      rcases Nat.lt_or_ge k 8 with h | h
      · exact h
      · obtain rfl : k = 8 := by omega
        simp at hn; omega
    have h256 : n % 256 < 256 := Nat.mod_lt _ (by omega)
    have hw : (IntKind.wrap .u8 (n : Int)) = (((UInt8.ofNat (n % 256)).toNat : Nat) : Int) := by
      rw [wrap_u8, u8nat h256]
      omega
    refine stp ?_
    have h8 : ((8 : Int) - (k : Int)).toNat = 8 - k := by omega
    rw [hw, h8]
    simp only [Nat.zero_add, Nat.mul_one]
    refine O.by0 (XOp.mkStore1 (P := Try.prog) (h := h.push (.cells c 0)) (c := c) (r := h.n) (o := 8 - k) (v := .int .u8 (UInt8.ofNat (n % 256)).toNat) (sp := none) (by omega)).eq rfl ?_
    refine stp ?_
    refine O.how XOp.shr8 ?_
    refine stp ?_
    have hdiv : ((n : Int) / 256) = ((n / 256 : Nat) : Int) := by omega
    rw [hdiv, Heap.push_set]
    refine loop2a 0 4 (n / 256) (by omega) ⟨n / 256, k + 1, lset c (8 - k) (.int .u8 (UInt8.ofNat (n % 256)).toNat), UInt8.ofNat (n % 256) :: ds, rfl, rfl, by simp, by omega, ?_, by omega, rfl, by rw [lset_len]; exact hc, by simp [hds], ?_, ?_⟩
    · have : 256 ^ (8 - k) = 256 ^ (8 - (k + 1)) * 256 := by rw [← Nat.pow_succ]; congr 1; omega
      exact Nat.div_lt_of_lt_mul (by omega)
    · rw [show 9 - (k + 1) = 8 - k from by omega, lset_drop _ _ _ (by omega), show 8 - k + 1 = 9 - k from by omega, hd]
      rfl
    · rw [hbe, beN_pos (by omega)]
      simp
  · have hn0 : n = 0 := by omega
    subst hn0
    rw [beN_zero, List.nil_append] at hbe
    have hw : (k : Int) = (((UInt8.ofNat k).toNat : Nat) : Int) := by
      rw [u8nat (by omega)]
    refine stp ?_
    have h8 : ((8 : Int) - (k : Int)).toNat = 8 - k := by omega
    rw [h8]
    simp only [Nat.zero_add, Nat.mul_one]
    refine O.by0 (XOp.mkStore1 (P := Try.prog) (h := h.push (.cells c 0)) (c := c) (r := h.n) (o := 8 - k) (v := .int .u8 k) (sp := none) (by omega)).eq rfl ?_
    refine stp ?_
    rw [Heap.push_set]
    refine O.how (XOp.mkSliceArrLo (8 - k) (by omega) (by omega)) ?_
    refine stp ?_
    rw [show 9 - (8 - k) = k + 1 from by omega, Nat.zero_add, Nat.mul_one]
    have hlen : (numF N).length = k + 1 := by simp [numF, hbe, hds]
    refine ⟨?_, fun i hi => by rw [← hi.1]; exact Nat.le_refl _, Fr.refl.push⟩
    rw [hlen]
    refine Rd.mk (by simp) ?_
    rw [cellsAt_of (c := lset c (8 - k) (.int .u8 k)) (by rw [Heap.get_push, if_pos rfl]; rfl) (by rw [lset_len]; omega), lset_drop _ _ _ (by omega), show 8 - k + 1 = 9 - k from by omega, hd]
    congr 1
    rw [List.take_of_length_le (by simp [bcells, hds])]
    unfold numF
    rw [hbe, hds]
    show _ :: _ = Value.int .u8 ((UInt8.ofNat k).toNat : Nat) :: _
    rw [u8nat (by omega)]
    rfl
end Go.Proofs.Ytlckmpioipiihaa.A

namespace Go.Proofs.Ytlckmpioipiihaa.A
open Go.Proofs.Ytlckmpioipiihaa.K
open Go Go.Vm
set_option maxRecDepth 10000
set_option linter.unusedVariables false
theorem repeatL_len (n : Nat) : (repeatL [.int .u8 0] n).length = n := by
  induction n with
  | zero => rfl
  | succ n ih => simp [repeatL, ih]
theorem Grow_ok {h : Heap} {n : Nat} (hn : n < 1048576) :
    Runs Try.prog T0 (.fn fn_zzbQ) [.slice none 0 0, .int .i64 n] h (fun r h' => Own h' 1 r [] 0 ∧ (∀ i, ownedBy r i → h.n ≤ i) ∧ Fr (fun _ => False) h h') (fun _ _ => False) := by
  refine zzbQ_runs ?_
  refine stp ?_
  refine C.if (fun hpos => ?_) (fun hz => ?_)
  · rw [show ((n : Int) - (((0 : Nat) : Int) - ((0 : Nat) : Int))) = (n : Int) from by omega]
    refine stp ?_
    refine O.by (v := .slice none 0 0) (h' := h) (by rfl) rfl ?_
    refine stp ?_
    have hx : appendOf 1 1 [.int .u8 0] true (.slice none 0 0) (.int .i64 (n : Int)) h = .ok (.slice (some ⟨h.n, 0, some 0⟩) n n) (h.push (.cells (repeatL [.int .u8 0] n) 1)) := by
      unfold appendOf newCells
      rw [if_neg (by omega)]
      simp only [Bool.true_and, show (decide ((0 : Int) ≤ (n : Int))) = true from by simp, if_true, Int.toNat_natCast, Nat.zero_add]
      rw [if_neg (by omega), if_neg (by omega), if_neg (by omega)]
    refine O.by hx rfl ?_
    refine stp ?_
    refine O.by (v := .slice (some ⟨h.n, 0, some 0⟩) 0 n) (h' := h.push (.cells (repeatL [.int .u8 0] n) 1)) ?_ rfl ?_
    · show sliceOf _ 1 (.slice (some ⟨h.n, 0, some 0⟩) n n) none (some _) none _ = _
      simp only [sliceOf, bnd, eval, lget]
      rw [show idx (n + 1) (.int .i64 ((0 : Nat) : Int)) = some 0 from idx_in (by omega)]
      simp
    refine stp ?_
    refine ⟨.grown (c := []) (j := repeatL [.int .u8 0] n) (by simp) (by omega) (by omega) rfl (by simp [repeatL_len]) (by rw [Heap.get_push, if_pos rfl]; rfl), fun i hi => by rw [← hi]; exact Nat.le_refl _, Fr.refl.push⟩
  · refine stp ?_
    exact ⟨.none, fun i hi => hi.elim, Fr.refl⟩
def Parts (h : Heap) (ls : List (Value × List UInt8)) : Prop := ∀ p ∈ ls, Rd h 1 p.1 (bcells p.2) p.2.length
theorem Parts.keep {h h' : Heap} {ls : List (Value × List UInt8)} (hp : Parts h ls) (hf : Fr (fun _ => False) h h') : Parts h' ls := fun p hm => (hp p hm).keep hf fun _ _ => id
def flat (ls : List (Value × List UInt8)) : List UInt8 := ls.flatMap (·.2)
theorem flat_take {ls : List (Value × List UInt8)} {k : Nat} (hk : k < ls.length) : flat (ls.take (k + 1)) = flat (ls.take k) ++ ls[k].2 := by
  unfold flat
  rw [List.take_succ_eq_append_getElem hk]
  simp only [List.flatMap_append, List.flatMap_cons, List.flatMap_nil, List.append_nil]
theorem flat_le {ls : List (Value × List UInt8)} (k : Nat) : (flat (ls.take k)).length ≤ (flat ls).length := by
  conv => rhs; rw [← List.take_append_drop k ls]
  unfold flat
  rw [List.flatMap_append]
  simp
theorem lget_map {ls : List (Value × List UInt8)} {k : Nat} (hk : k < ls.length) : lget (ls.map (·.1)) k = ls[k].1 := by
  induction ls generalizing k with
  | nil => simp at hk
  | cons a l ih =>
    cases k with
    | zero => rfl
    | succ k => exact ih (by simpa using hk)
theorem Concat_ok {h : Heap} {v : Value} {ls : List (Value × List UInt8)} (hv : Rd h 1 v (ls.map (·.1)) ls.length) (hp : Parts h ls) (hn : ls.length < 1048576) (hs : (flat ls).length < 1048576) :
    Runs Try.prog T0 (.fn fn_zybQ) [v] h (fun r h' => Own h' 1 r (bcells (flat ls)) (flat ls).length ∧ (∀ i, ownedBy r i → h.n ≤ i) ∧ Fr (fun _ => False) h h') (fun _ _ => False) := by
  have hv' := hv
  obtain ⟨a, cap, rfl, hlen, hc⟩ := hv
  refine zybQ_runs ?_
  refine stp ?_
  refine loop2 zybQ_l0_M 3 11 (fun m v3 v11 h' => ∃ k : Nat, k ≤ ls.length ∧ m = ls.length - k ∧ v3 = .int .i64 (flat (ls.take k)).length ∧ v11 = .int .i64 k ∧ h = h') ?_ ls.length ⟨0, by omega, rfl, rfl, rfl, rfl⟩
  rintro m v3 v11 h' x5 x12 x13 x14 x15 x16 x17 x18 x19 x20 x21 x22 ⟨k, hk, rfl, rfl, rfl, rfl⟩
  refine stp ?_
  refine C.if (fun hlt => ?_) (fun hge => ?_)
  · have hk' : k < ls.length := by omega
    obtain ⟨b, o, sp, rfl, hb, hcc⟩ := hc (by omega)
    rw [Nat.mul_one] at hcc
    haveI := cell_at (k := k) hcc hk'
    rw [lget_map hk'] at this
    haveI := this
    obtain ⟨a1, cap1, hv1, _, _⟩ := hp ls[k] (List.getElem_mem _)
    have hfl := flat_le (ls := ls) (k + 1)
    rw [flat_take hk', List.length_append] at hfl
    refine stp ?_
    rw [hv1]
    refine stp ?_
    refine loop2a 3 11 (ls.length - (k + 1)) (by omega) ⟨k + 1, by omega, rfl, ?_, rfl, rfl⟩
    rw [flat_take hk', List.length_append]
    rfl
  · obtain rfl : k = ls.length := by omega
    rw [List.take_length]
    refine stp ?_
    refine O.call' (Grow_ok hs) (fun r h1 hr => ?_)
    obtain ⟨ho, hnew, hf⟩ := hr
    refine stp ?_
    refine loop2 zybQ_l1_M 6 27 (fun m v6 v27 h' => ∃ k : Nat, k ≤ ls.length ∧ m = ls.length - k ∧ v27 = .int .i64 k ∧ Own h' 1 v6 (bcells (flat (ls.take k))) (flat (ls.take k)).length ∧ (∀ i, ownedBy v6 i → h'.n ≤ i ∨ h.n ≤ i) ∧ Fr (fun _ => False) h h') ?_ ls.length ⟨0, by omega, rfl, rfl, ho, fun i hi => .inr (hnew i hi), hf⟩
    clear ho hnew hf
    rintro m v6 v27 h' x8 x28 x29 x30 x31 x32 x33 x34 ⟨k, hk, rfl, rfl, ho, hnew, hf⟩
    refine stp ?_
    refine C.if (fun hlt => ?_) (fun hge => ?_)
    · have hk' : k < ls.length := by omega
      obtain ⟨b, o, sp, rfl, hb, hcc⟩ := hc (by omega)
      rw [Nat.mul_one, ← cellsAt_keep hf hb id] at hcc
      haveI := cell_at (k := k) hcc hk'
      rw [lget_map hk'] at this
      haveI := this
      have hpk := (hp ls[k] (List.getElem_mem _)).keep hf fun _ _ => id
      have hfl := flat_le (ls := ls) (k + 1)
      rw [flat_take hk', List.length_append] at hfl
      refine stp ?_
      refine O.append ho (hpk.new [.int .u8 0]) (by rw [bcells_len]; omega) (bcells_one _) (by omega) (by omega) (by omega) (fun v' h2 h3 h4 h5 => ?_)
      refine stp ?_
      refine loop2a 6 27 (ls.length - (k + 1)) (by omega) ⟨k + 1, by omega, rfl, rfl, ?_, fun i hi => ?_, ?_⟩
      · rw [flat_take hk', List.length_append, bcells_append]
        exact h3
      · rcases h5 i hi with h6 | h6
        · rcases hnew i h6 with h7 | h7
          · exact .inr (Nat.le_trans hf.n h7)
          · exact .inr h7
        · exact .inr (Nat.le_trans hf.n h6)
      · refine Fr.trans (S := fun _ => False) hf h4 fun i hi ho' => ?_
        rcases hnew i ho' with h7 | h7
        · have := hf.n; omega
        · omega
    · obtain rfl : k = ls.length := by omega
      rw [List.take_length] at ho
      refine stp ?_
      exact ⟨ho, fun i hi => (hnew i hi).elim (Nat.le_trans hf.n) id, hf⟩
end Go.Proofs.Ytlckmpioipiihaa.A

namespace Go.Proofs.Ytlckmpioipiihaa.A
open Go.Proofs.Ytlckmpioipiihaa.K
open Go Go.Vm
set_option maxRecDepth 10000
set_option linter.unusedVariables false
structure PW (h : Heap) (lo p : Nat) (sv : Value) (bs : List UInt8) (lim : Nat) (e : Int) : Prop where
  lt : p < h.n
  le : lo ≤ p
  get : h.get p = .cells [.int .i64 lim, sv, .int .i64 e, .bool true] 0
  own : Own h 1 sv (bcells bs) bs.length
  apart : ¬ ownedBy sv p
  above : ∀ i, ownedBy sv i → lo ≤ i
  small : bs.length < 1048576
structure WSt where
  bs : List UInt8
  e : Int
structure PWs (h : Heap) (lo p lim : Nat) (st : WSt) : Prop where
  ex : ∃ sv, PW h lo p sv st.bs lim st.e
def putS (lim : Nat) (may : Bool) (part : List UInt8) (st : WSt) : WSt :=
  if st.e ≠ 0 then st else if may = false then ⟨st.bs, 3⟩ else if lim < st.bs.length + part.length then ⟨st.bs, 4⟩ else ⟨st.bs ++ part, 0⟩
theorem PW.keep {S : Nat → Prop} {h h' : Heap} {lo p : Nat} {sv : Value} {bs : List UInt8} {lim : Nat} {e : Int} (hp : PW h lo p sv bs lim e) (hf : Fr S h h') (hs : ¬ S p) (hb : ∀ i, ownedBy sv i → ¬ S i) : PW h' lo p sv bs lim e :=
  ⟨hf.lt hp.lt, hp.le, by rw [hf.get p hp.lt hs, hp.get], hp.own.keep hf hb, hp.apart, hp.above, hp.small⟩
theorem PWs.keep {S : Nat → Prop} {h h' : Heap} {lo p lim : Nat} {st : WSt} (hp : PWs h lo p lim st) (hf : Fr S h h') (hs : ∀ i, S i → i < lo) : PWs h' lo p lim st :=
  let ⟨sv, hw⟩ := hp.ex
  ⟨sv, hw.keep hf (fun h => by have := hs _ h; have := hw.le; omega) fun i hi h => by have := hs _ h; have := hw.above i hi; omega⟩
theorem PWs.none {h h' : Heap} {lo p lim : Nat} {st : WSt} (hp : PWs h lo p lim st) (hf : Fr (fun _ => False) h h') : PWs h' lo p lim st := hp.keep hf fun _ h => h.elim
theorem PWs.lo_le {h : Heap} {lo p lim : Nat} {st : WSt} (hp : PWs h lo p lim st) : lo ≤ h.n := let ⟨_, hw⟩ := hp.ex; Nat.le_of_lt (Nat.lt_of_le_of_lt hw.le hw.lt)
def Writes (h : Heap) (lo p lim : Nat) (st : WSt) (r : Value) (h' : Heap) : Prop := r = .int .i64 st.e ∧ PWs h' lo p lim st ∧ Fr (fun i => lo ≤ i) h h'
theorem put_ok {h : Heap} {lo p lim : Nat} {st : WSt} {may : Bool} {v : Value} {ls : List (Value × List UInt8)} (hw : PWs h lo p lim st) (hv : Rd h 1 v (ls.map (·.1)) ls.length) (hp : Parts h ls) (hn : ls.length < 1048576) (hs : st.bs.length + (flat ls).length < 1048576) :
    Runs Try.prog T0 (.fn fn_zjcQ) [.pointer (some ⟨p, 0, none⟩), .bool may, v] h (Writes h lo p lim (putS lim may (flat ls) st)) (fun _ _ => False) := by
  obtain ⟨bs, e⟩ := st
  obtain ⟨sv, hw⟩ := hw.ex
  have hs : bs.length + (flat ls).length < 1048576 := hs
  have hw : PW h lo p sv bs lim e := hw
  have hle := hw.le
  have hlt := hw.lt
  obtain ⟨a0, cap0, rfl, hl0, _⟩ := hw.own.rd
  haveI : HGet h p _ := ⟨hw.get⟩
  refine zjcQ_runs ?_
  refine stp ?_
  refine O.call' (Concat_ok hv hp hn (by omega)) (fun r h1 hr => ?_)
  obtain ⟨ho, hnew, hf⟩ := hr
  obtain ⟨a1, cap1, rfl, hl1, _⟩ := ho.rd
  have hw1 := hw.keep hf id fun _ _ => id
  haveI : HGet h1 p _ := ⟨hw1.get⟩
  have hfl : Fr (fun i => lo ≤ i) h h1 := hf.mono fun _ _ h => h.elim
  refine stp ?_
  refine C.ifN (fun he => ?_) (fun he => ?_)
  · refine stp ?_
    unfold putS
    rw [if_pos (by simpa using he)]
    exact ⟨rfl, ⟨_, hw1⟩, hfl⟩
  · subst he
    refine stp ?_
    cases may with
    | false =>
      refine stp ?_
      unfold putS
      rw [if_neg (by simp), if_pos rfl]
      refine ⟨rfl, ⟨.slice a0 bs.length cap0, by simpa using hw1.lt, hw.le, by rw [Heap.get_set, if_pos rfl], hw1.own.keep (S := fun i => i = p) (Fr.refl.set fun _ => rfl) fun i hi hp => hw1.apart (hp ▸ hi), hw1.apart, hw1.above, hw1.small⟩, hfl.set fun _ => hw.le⟩
    | true =>
      refine stp ?_
      refine C.if (fun hlong => ?_) (fun hfit => ?_)
      · refine stp ?_
        unfold putS
        rw [if_neg (by simp), if_neg (by simp), if_pos (by simp only; omega)]
        refine ⟨rfl, ⟨.slice a0 bs.length cap0, by simpa using hw1.lt, hw.le, by rw [Heap.get_set, if_pos rfl], hw1.own.keep (S := fun i => i = p) (Fr.refl.set fun _ => rfl) fun i hi hp => hw1.apart (hp ▸ hi), hw1.apart, hw1.above, hw1.small⟩, hfl.set fun _ => hw.le⟩
      · refine stp ?_
        refine O.append hw1.own (ho.rd.new [.int .u8 0]) (by rw [bcells_len]; omega) (bcells_one _) (by omega) (by omega) (by omega) (fun v' h2 h3 h4 h5 => ?_)
        obtain ⟨a2, cap2, rfl, hl2, _⟩ := h3.rd
        have hp2 : HGet h2 p _ := h4.keep ⟨hw1.get⟩ hw1.lt hw1.apart
        refine stp ?_
        have hnp : ¬ ownedBy (.slice a2 (bs.length + (flat ls).length) cap2) p := fun hi => by
          rcases h5 p hi with h6 | h6
          · exact hw1.apart h6
          · have := hw1.lt; omega
        unfold putS
        rw [if_neg (by simp), if_neg (by simp), if_neg (by simp only; omega)]
        refine ⟨rfl, ⟨_, by have := h4.lt hw1.lt; simpa using this, hw.le, by rw [Heap.get_set, if_pos rfl], ?_, hnp, fun i hi => ?_, by simp; omega⟩, Fr.set (Fr.trans (S := fun i => lo ≤ i) hfl h4 fun i hi ho' => hw1.above i ho') fun _ => hw.le⟩
        · show Own _ 1 (.slice a2 (bs.length + (flat ls).length) cap2) (bcells (bs ++ flat ls)) (bs ++ flat ls).length
          rw [bcells_append, List.length_append]
          exact h3.keep (S := fun i => i = p) (Fr.refl.set fun _ => rfl) fun i hi hp => hnp (hp ▸ hi)
        · rcases h5 i hi with h6 | h6
          · exact hw1.above i h6
          · have := hw1.lt; omega
end Go.Proofs.Ytlckmpioipiihaa.A

namespace Go.Proofs.Ytlckmpioipiihaa.A
open Go.Proofs.Ytlckmpioipiihaa.K
open Go Go.Vm
set_option maxRecDepth 10000
set_option linter.unusedVariables false
theorem numF_len {n : Nat} (h : n ≤ 9223372036854775807) : (numF n).length ≤ 9 := by
  have := beN_len 8 n (by omega)
  simp [numF]; omega
theorem rd_lit {h : Heap} {c : List Value} {n es : Nat} (hc : c.length = n) : Rd (h.push (.cells c es)) 1 (.slice (some ⟨h.n, 0, none⟩) n n) c n := by
  refine Rd.mk (by simp) ?_
  rw [cellsAt_of (c := c) (by rw [Heap.get_push, if_pos rfl]; rfl) (by omega), List.drop_zero, List.take_of_length_le (by omega)]
theorem WNum_ok {h : Heap} {lo p lim : Nat} {st : WSt} {n : Int} (hw : PWs h lo p lim st) (hn : n ≤ 9223372036854775807) (hs : st.bs.length + 9 < 1048576) :
    Runs Try.prog T0 (.fn fn_zhcQ) [.pointer (some ⟨p, 0, none⟩), .int .i64 n] h (Writes h lo p lim (putS lim (decide (0 ≤ n)) (numF n.toNat) st)) (fun _ _ => False) := by
  have hlo := hw.lo_le
  refine zhcQ_runs ?_
  refine stp ?_
  have hm : (if (0 : Int) > n then 0 else n) = ((n.toNat : Nat) : Int) := by split <;> omega
  rw [hm]
  refine O.call' (number_ok (N := n.toNat) (by omega)) (fun r h1 hr => ?_)
  obtain ⟨hrd, hnew, hf⟩ := hr
  have hw1 := hw.none hf
  have hfl := numF_len (n := n.toNat) (by omega)
  obtain ⟨a1, cap1, rfl, hl1, _⟩ := id hrd
  refine stp ?_
  refine O.call' (put_ok (ls := [(.slice a1 (numF n.toNat).length cap1, numF n.toNat)]) (hw1.none Fr.refl.push) (rd_lit rfl) ?_ (by simp) (by simp [flat]; omega)) (fun r h2 hr => ?_)
  · intro q hq
    simp at hq
    subst hq
    exact hrd.keep (S := fun _ => False) Fr.refl.push fun _ _ => id
  · refine stp ?_
    rw [show flat [(Value.slice a1 (numF n.toNat).length cap1, numF n.toNat)] = numF n.toNat from by simp [flat]] at hr
    exact ⟨hr.1, hr.2.1, Fr.trans (S := fun i => lo ≤ i) (hf.mono fun _ _ h => h.elim) (Fr.trans (S := fun i => lo ≤ i) Fr.refl.push hr.2.2 fun _ _ h => h) fun _ _ h => h⟩
theorem WBytes_ok {h : Heap} {lo p lim : Nat} {st : WSt} {v : Value} {l : List UInt8} (hw : PWs h lo p lim st) (hv : Rd h 1 v (bcells l) l.length) (hs : st.bs.length + l.length + 9 < 1048576) :
    Runs Try.prog T0 (.fn fn_zecQ) [.pointer (some ⟨p, 0, none⟩), v] h (Writes h lo p lim (putS lim true (numF l.length ++ l) st)) (fun _ _ => False) := by
  have hlo := hw.lo_le
  have hv' := hv
  obtain ⟨a0, cap0, rfl, hl0, _⟩ := hv
  refine zecQ_runs ?_
  refine stp ?_
  refine O.call' (number_ok (N := l.length) (by omega)) (fun r h1 hr => ?_)
  obtain ⟨hrd, hnew, hf⟩ := hr
  have hw1 := hw.none hf
  have hfl := numF_len (n := l.length) (by omega)
  obtain ⟨a1, cap1, rfl, hl1, _⟩ := id hrd
  refine stp ?_
  refine O.call' (put_ok (ls := [(.slice a1 (numF l.length).length cap1, numF l.length), (.slice a0 l.length cap0, l)]) (hw1.none Fr.refl.push) (rd_lit rfl) ?_ (by simp) (by simp [flat]; omega)) (fun r h2 hr => ?_)
  · intro q hq
    simp at hq
    rcases hq with rfl | rfl
    · exact hrd.keep (S := fun _ => False) Fr.refl.push fun _ _ => id
    · exact (hv'.keep hf fun _ _ => id).keep (S := fun _ => False) Fr.refl.push fun _ _ => id
  · refine stp ?_
    rw [show flat [(Value.slice a1 (numF l.length).length cap1, numF l.length), (Value.slice a0 l.length cap0, l)] = numF l.length ++ l from by simp [flat]] at hr
    exact ⟨hr.1, hr.2.1, Fr.trans (S := fun i => lo ≤ i) (hf.mono fun _ _ h => h.elim) (Fr.trans (S := fun i => lo ≤ i) Fr.refl.push hr.2.2 fun _ _ h => h) fun _ _ h => h⟩
theorem bcells_data (s : ByteArray) : (bcells s.data.toList).length = s.size := by simp [bcells]
theorem WText_ok {h : Heap} {lo p lim : Nat} {st : WSt} {s : ByteArray} (hw : PWs h lo p lim st) (hs : st.bs.length + s.size + 9 < 1048576) :
    Runs Try.prog T0 (.fn fn_zicQ) [.pointer (some ⟨p, 0, none⟩), .string s] h (Writes h lo p lim (putS lim true (numF s.size ++ s.data.toList) st)) (fun _ _ => False) := by
  have hlo := hw.lo_le
  have hsz : s.data.toList.length = s.size := by simp
  refine zicQ_runs ?_
  refine stp ?_
  refine O.call' (WBytes_ok (l := s.data.toList) (hw.none Fr.refl.push) ?_ (by omega)) (fun r h2 hr => ?_)
  · rw [hsz]
    refine Rd.mk (by simp) ?_
    rw [cellsAt_of (c := bcells s.data.toList) (by rw [Heap.get_push, if_pos rfl]; rfl) (by rw [bcells_data]; omega), List.drop_zero, List.take_of_length_le (by rw [bcells_data]; omega)]
  · refine stp ?_
    rw [hsz] at hr
    exact ⟨hr.1, hr.2.1, Fr.trans (S := fun i => lo ≤ i) Fr.refl.push hr.2.2 fun _ _ h => h⟩
theorem WHash_ok {h : Heap} {lo p lim : Nat} {st : WSt} {l : List UInt8} (hw : PWs h lo p lim st) (hl : l.length = 32) (hs : st.bs.length + 32 < 1048576) :
    Runs Try.prog T0 (.fn fn_zgcQ) [.pointer (some ⟨p, 0, none⟩), .agg ⟨bcells l⟩] h (Writes h lo p lim (putS lim true l st)) (fun _ _ => False) := by
  have hlo := hw.lo_le
  haveI := l32 hl
  refine zgcQ_runs ?_
  refine stp ?_
  refine O.call' (put_ok (ls := [(.slice (some ⟨h.n, 0, none⟩) 32 32, l)]) (hw.none Fr.refl.push.push) (rd_lit rfl) ?_ (by simp) (by simp [flat]; omega)) (fun r h2 hr => ?_)
  · intro q hq
    simp at hq
    subst hq
    rw [hl]
    exact (rd_lit (h := h) (c := bcells l) (es := 0) (n := 32) (by simpa [bcells] using hl)).keep (S := fun _ => False) Fr.refl.push fun _ _ => id
  · refine stp ?_
    rw [show flat [(Value.slice (some ⟨h.n, 0, none⟩) 32 32, l)] = l from by simp [flat]] at hr
    exact ⟨hr.1, hr.2.1, Fr.trans (S := fun i => lo ≤ i) Fr.refl.push.push hr.2.2 fun _ _ h => h⟩
theorem NewWriter_ok {h : Heap} {lim : Nat} (hl : lim ≤ 1048576) :
    Runs Try.prog T0 (.fn fn_zdcQ) [.int .i64 lim] h (fun r h' => r = .tuple ⟨[.pointer (some ⟨h.n, 0, none⟩), .int .i64 0]⟩ ∧ PWs h' h.n h.n lim ⟨[], 0⟩ ∧ Fr (fun _ => False) h h') (fun _ _ => False) := by
  refine zdcQ_runs ?_
  refine stp ?_
  refine C.if (fun h1 => by omega) (fun _ => ?_)
  refine stp ?_
  refine ⟨rfl, ⟨.slice none 0 0, by simp, Nat.le_refl _, by rw [Heap.get_push, if_pos rfl], .none, fun h => h, fun i h => h.elim, by simp⟩, Fr.refl.push⟩
theorem Done_ok {h : Heap} {lo p lim : Nat} {st : WSt} (hw : PWs h lo p lim st) :
    Runs Try.prog T0 (.fn fn_zfcQ) [.pointer (some ⟨p, 0, none⟩)] h
      (fun r h' => ∃ v, r = .tuple ⟨[v, .int .i64 st.e]⟩ ∧ Own h' 1 v (bcells (if st.e = 0 then st.bs else [])) (if st.e = 0 then st.bs else []).length ∧ (∀ i, ownedBy v i → h.n ≤ i) ∧ Fr (fun _ => False) h h') (fun _ _ => False) := by
  obtain ⟨bs, e⟩ := st
  obtain ⟨sv, hw⟩ := hw.ex
  have hw : PW h lo p sv bs lim e := hw
  obtain ⟨a0, cap0, rfl, hl0, _⟩ := hw.own.rd
  haveI : HGet h p _ := ⟨hw.get⟩
  refine zfcQ_runs ?_
  refine stp ?_
  refine C.ifN (fun he => ?_) (fun he => ?_)
  · refine stp ?_
    rw [if_neg he]
    exact ⟨_, rfl, .none, fun i h => h.elim, Fr.refl⟩
  · subst he
    refine stp ?_
    refine O.call' (Clone_ok hw.own.rd hw.small) (fun r h1 hr => ?_)
    refine stp ?_
    exact ⟨_, rfl, hr.1, hr.2.2, hr.2.1⟩
end Go.Proofs.Ytlckmpioipiihaa.A

namespace Go.Proofs.Ytlckmpioipiihaa.A
open Go.Proofs.Ytlckmpioipiihaa.K
open Go Go.Vm
set_option maxRecDepth 10000
set_option linter.unusedVariables false
def plainP (c : Int) : Prop := (97 ≤ c ∧ c ≤ 122) ∨ (48 ≤ c ∧ c ≤ 57) ∨ c = 45
instance (c : Int) : Decidable (plainP c) := by unfold plainP; infer_instance
theorem plain_ok {h : Heap} {c : Int} : Runs Try.prog T0 (.fn fn_zgbQ) [.int .i32 c] h (fun r h' => r = .bool (decide (plainP c)) ∧ h' = h) (fun _ _ => False) := by
  have fin : ∀ {b : Bool}, (b = true ↔ plainP c) → Value.bool b = .bool (decide (plainP c)) := fun {b} hb => by
    congr 1
    by_cases hp : plainP c
    · rw [decide_eq_true hp]; exact hb.2 hp
    · rw [decide_eq_false hp]
      cases b with
      | false => rfl
      | true => exact absurd (hb.1 rfl) hp
  unfold plainP at fin
  refine zgbQ_runs ?_
  refine stp ?_
  refine O.dec (fun h1 => ?_) (fun h1 => ?_)
  · refine stp ?_
    refine O.dec (fun h2 => ?_) (fun h2 => ?_)
    · refine stp ?_
      exact ⟨fin (by simp; omega), rfl⟩
    · refine stp ?_
      refine O.dec (fun h3 => ?_) (fun h3 => ?_)
      · refine stp ?_
        refine O.dec (fun h4 => ?_) (fun h4 => ?_)
        · refine stp ?_
          exact ⟨fin (by simp; omega), rfl⟩
        · refine stp ?_
          exact ⟨fin (by simp; omega), rfl⟩
      · refine stp ?_
        exact ⟨fin (by simp; omega), rfl⟩
  · refine stp ?_
    refine O.dec (fun h3 => ?_) (fun h3 => ?_)
    · refine stp ?_
      refine O.dec (fun h4 => ?_) (fun h4 => ?_)
      · refine stp ?_
        exact ⟨fin (by simp; omega), rfl⟩
      · refine stp ?_
        exact ⟨fin (by simp; omega), rfl⟩
    · refine stp ?_
      exact ⟨fin (by simp; omega), rfl⟩
def plainB (b : UInt8) : Bool := decide (plainP (b.toNat : Nat))
theorem each_ok {h : Heap} {l : List UInt8} : Runs Try.prog T0 (.fn fn_zebQ) [.string ⟨⟨l⟩⟩, .func (.func fn_zgbQ) ⟨[]⟩ ⟨[]⟩] h (fun r h' => r = .bool (l.all plainB) ∧ Fr (fun _ => False) h h') (fun _ _ => False) := by
  refine zebQ_runs ?_
  refine stp ?_
  refine loop0 zebQ_l0_M (fun m h' => ∃ pos : Nat, pos ≤ l.length ∧ m = l.length - pos ∧ h' = h.push (.strIter ⟨⟨l⟩⟩ pos) ∧ (l.take pos).all plainB = true) ?_ l.length ⟨0, by omega, rfl, rfl, by simp⟩
  rintro m h' x4 x6 x9 x10 x11 x12 x13 x14 x15 ⟨pos, hpos, rfl, rfl, hall⟩
  refine stp ?_
  by_cases hlt : pos < l.length
  · have hsz : pos < (ByteArray.mk ⟨l⟩).size := hlt
    refine O.how (XOp.mkNextStr hsz) ?_
    refine stp ?_
    refine O.call' plain_ok (fun r h2 hr => ?_)
    obtain ⟨rfl, rfl⟩ := hr
    refine stp ?_
    have hb : (ByteArray.mk ⟨l⟩)[pos] = l[pos] := rfl
    have htake : l.take (pos + 1) = l.take pos ++ [l[pos]] := List.take_succ_eq_append_getElem hlt
    refine C.ifN (fun hp => ?_) (fun hp => ?_)
    · refine stp ?_
      rw [Heap.push_set]
      refine ⟨?_, Fr.refl.push⟩
      have : plainB l[pos] = false := by
        unfold plainB
        by_cases ha : (l[pos]).toNat < 128
        · rw [decode_ascii _ _ hsz (by rw [hb]; exact ha)] at hp
          exact decide_eq_false (by rw [hb] at hp; exact hp)
        · refine decide_eq_false fun h => ?_
          unfold plainP at h
          omega
      congr 1
      refine (List.all_eq_false.2 ⟨l[pos], List.getElem_mem _, by rw [this]; simp⟩).symm
    · have ha : (l[pos]).toNat < 128 := by
        rcases Nat.lt_or_ge (l[pos]).toNat 128 with h | h
        · exact h
        · have := (decode_high _ _ hsz (by rw [hb]; exact h)).1
          unfold plainP at hp
          omega
      rw [decode_ascii _ _ hsz (by rw [hb]; exact ha)] at hp
      rw [decode_ascii _ _ hsz (by rw [hb]; exact ha)]
      refine stp ?_
      rw [Heap.push_set]
      refine loop0a (l.length - (pos + 1)) (by omega) ⟨pos + 1, by omega, rfl, rfl, ?_⟩
      rw [htake, List.all_append, hall]
      simp only [List.all_cons, List.all_nil, Bool.and_true, Bool.true_and]
      exact decide_eq_true (by rw [hb] at hp; exact hp)
  · obtain rfl : pos = l.length := by omega
    refine O.how (XOp.mkNextEnd (s := ⟨⟨l⟩⟩) (pos := l.length) (by show ¬ l.length < l.length; omega)) ?_
    refine stp ?_
    rw [List.take_length] at hall
    rw [hall]
    exact ⟨rfl, Fr.refl.push⟩
def nameS (l : List UInt8) : Bool := decide (1 ≤ l.length) && decide (l.length ≤ 32) && l.all plainB
theorem Name_ok {h : Heap} {l : List UInt8} : Runs Try.prog T0 (.fn fn_zdbQ) [.string ⟨⟨l⟩⟩] h (fun r h' => r = .bool (nameS l) ∧ Fr (fun _ => False) h h') (fun _ _ => False) := by
  have hsz : (ByteArray.mk ⟨l⟩).size = l.length := rfl
  refine zdbQ_runs ?_
  refine stp ?_
  unfold nameS
  refine O.dec (fun h1 => ?_) (fun h1 => ?_)
  · refine stp ?_
    refine O.dec (fun h2 => ?_) (fun h2 => ?_)
    · refine stp ?_
      refine O.callT each_ok (fun r h' hr => ?_)
      obtain ⟨rfl, hf⟩ := hr
      refine stp ?_
      rw [decide_eq_true (show 1 ≤ l.length by omega), decide_eq_true (show l.length ≤ 32 by omega)]
      exact ⟨rfl, hf⟩
    · refine stp ?_
      rw [decide_eq_false (show ¬ l.length ≤ 32 by omega)]
      exact ⟨by simp, Fr.refl⟩
  · refine stp ?_
    rw [decide_eq_false (show ¬ 1 ≤ l.length by omega)]
    exact ⟨by simp, Fr.refl⟩
end Go.Proofs.Ytlckmpioipiihaa.A

namespace Go.Proofs.Ytlckmpioipiihaa.A
open Go.Proofs.Ytlckmpioipiihaa.K
open Go Go.Vm
set_option maxRecDepth 10000
set_option linter.unusedVariables false
structure Hd where
  chain : List UInt8
  height : Int
  time : Int
  prev : List UInt8
  vals : List UInt8
  next : List UInt8
  app : List UInt8
structure Hd.ok (x : Hd) : Prop where
  prev : x.prev.length = 32
  vals : x.vals.length = 32
  next : x.next.length = 32
  app : x.app.length = 32
abbrev Hd.cells (x : Hd) : List Value := .string ⟨⟨x.chain⟩⟩ :: .int .i64 x.height :: .int .i64 x.time :: (bcells x.prev ++ (bcells x.vals ++ (bcells x.next ++ bcells x.app)))
theorem rules1_ok {h : Heap} {x : Hd} (hx : x.ok) : Runs Try.prog T0 (.fn fn_zibQ) [.agg ⟨x.cells⟩] h (fun r h' => r = .bool (nameS x.chain) ∧ Fr (fun _ => False) h h') (fun _ _ => False) := by
  refine zibQ_runs ?_
  refine stpP ?_
  refine O.call' Name_ok (fun r h' hr => ?_)
  obtain ⟨rfl, hf⟩ := hr
  refine stpP ?_
  exact ⟨rfl, Fr.trans (S := fun _ => False) Fr.refl.push hf fun _ _ h => h⟩
theorem rules2_ok {h : Heap} {x : Hd} (hx : x.ok) : Runs Try.prog T0 (.fn fn_zjbQ) [.agg ⟨x.cells⟩] h (fun r h' => r = .bool (decide (1 ≤ x.height ∧ x.height ≤ 1073741824)) ∧ Fr (fun _ => False) h h') (fun _ _ => False) := by
  refine zjbQ_runs ?_
  refine stpP ?_
  refine O.dec (fun h1 => ?_) (fun h1 => ?_)
  · refine stpP ?_
    exact ⟨by simp [h1], Fr.refl.push⟩
  · refine stpP ?_
    exact ⟨by simp [h1], Fr.refl.push⟩
theorem rules3_ok {h : Heap} {x : Hd} (hx : x.ok) : Runs Try.prog T0 (.fn fn_zkbQ) [.agg ⟨x.cells⟩] h (fun r h' => r = .bool (decide (0 ≤ x.time ∧ x.time ≤ 1099511627776)) ∧ Fr (fun _ => False) h h') (fun _ _ => False) := by
  refine zkbQ_runs ?_
  refine stpP ?_
  refine O.dec (fun h1 => ?_) (fun h1 => ?_)
  · refine stpP ?_
    exact ⟨by simp [h1], Fr.refl.push⟩
  · refine stpP ?_
    exact ⟨by simp [h1], Fr.refl.push⟩
theorem rules_ok {h : Heap} : Runs Try.prog T0 (.fn fn_zhbQ) [] h (fun r h' => r = .slice (some ⟨h.n, 0, none⟩) 3 3 ∧ h' = h.push (.cells [.func (.func fn_zibQ) ⟨[]⟩ ⟨[]⟩, .int .i64 5, .func (.func fn_zjbQ) ⟨[]⟩ ⟨[]⟩, .int .i64 3, .func (.func fn_zkbQ) ⟨[]⟩ ⟨[]⟩, .int .i64 3] 0)) (fun _ _ => False) := by
  refine zhbQ_runs (v := undef) ?_
  refine stpP ?_
  exact ⟨rfl, rfl⟩
def checkS (x : Hd) : Int := if nameS x.chain = false then 5 else if ¬ (1 ≤ x.height ∧ x.height ≤ 1073741824) then 3 else if ¬ (0 ≤ x.time ∧ x.time ≤ 1099511627776) then 3 else 0
theorem Check_ok {h : Heap} {x : Hd} (hx : x.ok) : Runs Try.prog T0 (.fn fn_zabQ) [.agg ⟨x.cells⟩] h (fun r h' => r = .int .i64 (checkS x) ∧ Fr (fun _ => False) h h') (fun _ _ => False) := by
  haveI := l32 hx.prev
  haveI := l32 hx.vals
  haveI := l32 hx.next
  haveI := l32 hx.app
  refine zabQ_runs ?_
  refine stpP ?_
  refine O.call' rules_ok (fun r h1 hr => ?_)
  obtain ⟨rfl, rfl⟩ := hr
  refine stpP ?_
  refine loop1 zabQ_l0_M 7 (fun m v7 h' => ∃ k : Nat, k ≤ 3 ∧ m = 3 - k ∧ v7 = .int .i64 k ∧ Fr (fun _ => False) ((h.push (.cells x.cells 0)).push (.cells [.func (.func fn_zibQ) ⟨[]⟩ ⟨[]⟩, .int .i64 5, .func (.func fn_zjbQ) ⟨[]⟩ ⟨[]⟩, .int .i64 3, .func (.func fn_zkbQ) ⟨[]⟩ ⟨[]⟩, .int .i64 3] 0)) h' ∧
    (0 < k → nameS x.chain = true) ∧ (1 < k → 1 ≤ x.height ∧ x.height ≤ 1073741824) ∧ (2 < k → 0 ≤ x.time ∧ x.time ≤ 1099511627776)) ?_ 3 ⟨0, by omega, rfl, rfl, Fr.refl, by omega, by omega, by omega⟩
  rintro m v7 h' x2 x4 x8 x9 x10 x11 x12 x13 x14 x15 x16 x17 x18 ⟨k, hk, rfl, rfl, hf, h1, h2, h3⟩
  have hf0 : Fr (fun _ => False) h h' := Fr.trans (S := fun _ => False) Fr.refl.push.push hf fun _ _ h => h
  haveI : HGet h' h.n _ := hf.keep (b := h.n) (HGet.push (k := BLt.new) (g := HGet.new)) (by simp; omega) id
  haveI : HGet h' (h.push (.cells x.cells 0)).n _ := hf.keep (b := (h.push (.cells x.cells 0)).n) HGet.new (by simp) id
  haveI : BLt h.n h' := ⟨by have := hf.n; simp at this; omega⟩
  haveI : BLt (h.push (.cells x.cells 0)).n h' := ⟨by have := hf.n; simp at this ⊢; omega⟩
  have hend : ∀ {o : AObj} {b : Heap}, Fr (fun _ => False) (h'.push o) b → Fr (fun _ => False) h' b := fun hb => Fr.trans (S := fun _ => False) Fr.refl.push hb fun _ _ h => h
  rcases (show k = 0 ∨ k = 1 ∨ k = 2 ∨ k = 3 by omega) with rfl | rfl | rfl | rfl
  · refine stpP ?_
    rw [Nat.zero_mul]
    refine stpP ?_
    refine O.call' (rules1_ok hx) (fun r h2' hr => ?_)
    obtain ⟨rfl, hf2⟩ := hr
    haveI : HGet h2' h'.n _ := hf2.keep (b := h'.n) HGet.new (by simp) id
    refine stpP ?_
    refine C.ifB (fun hb => ?_) (fun hb => ?_)
    · refine stpP ?_
      unfold checkS
      rw [if_pos (by simpa using hb)]
      exact ⟨rfl, hf0.trans' (hend hf2)⟩
    · refine stpP ?_
      exact loop1a 7 2 (by omega) ⟨1, by omega, rfl, rfl, hf.trans' (hend hf2), fun _ => by simpa using hb, by omega, by omega⟩
  · refine stpP ?_
    refine O.call' (rules2_ok hx) (fun r h2' hr => ?_)
    obtain ⟨rfl, hf2⟩ := hr
    haveI : HGet h2' h'.n _ := hf2.keep (b := h'.n) HGet.new (by simp) id
    refine stpP ?_
    refine C.ifN (fun hb => ?_) (fun hb => ?_)
    · refine stpP ?_
      unfold checkS
      rw [if_neg (by rw [h1 (by omega)]; simp), if_pos hb]
      exact ⟨rfl, hf0.trans' (hend hf2)⟩
    · refine stpP ?_
      exact loop1a 7 1 (by omega) ⟨2, by omega, rfl, rfl, hf.trans' (hend hf2), fun _ => h1 (by omega), fun _ => hb, by omega⟩
  · refine stpP ?_
    refine O.call' (rules3_ok hx) (fun r h2' hr => ?_)
    obtain ⟨rfl, hf2⟩ := hr
    haveI : HGet h2' h'.n _ := hf2.keep (b := h'.n) HGet.new (by simp) id
    refine stpP ?_
    refine C.ifN (fun hb => ?_) (fun hb => ?_)
    · refine stpP ?_
      unfold checkS
      rw [if_neg (by rw [h1 (by omega)]; simp), if_neg (fun h => h (h2 (by omega))), if_pos hb]
      exact ⟨rfl, hf0.trans' (hend hf2)⟩
    · refine stpP ?_
      exact loop1a 7 0 (by omega) ⟨3, by omega, rfl, rfl, hf.trans' (hend hf2), fun _ => h1 (by omega), fun _ => h2 (by omega), fun _ => hb⟩
  · refine stpP ?_
    unfold checkS
    rw [if_neg (by rw [h1 (by omega)]; simp), if_neg (fun h => h (h2 (by omega))), if_neg (fun h => h (h3 (by omega)))]
    exact ⟨rfl, hf0⟩
theorem hashes_ok {h : Heap} {x : Hd} {q : Nat} (hq : h.get q = .cells x.cells 0) (hlt : q < h.n) : Runs Try.prog T0 (.fn fn_zfbQ) [.pointer (some ⟨q, 0, none⟩)] h
    (fun r h' => r = .agg ⟨[.pointer (some ⟨q, 3, none⟩), .pointer (some ⟨q, 35, none⟩), .pointer (some ⟨q, 67, none⟩), .pointer (some ⟨q, 99, none⟩)]⟩ ∧ Fr (fun _ => False) h h') (fun _ _ => False) := by
  refine zfbQ_runs ?_
  refine stpP ?_
  exact ⟨rfl, Fr.refl.push⟩
end Go.Proofs.Ytlckmpioipiihaa.A

namespace Go.Proofs.Ytlckmpioipiihaa.A
open Go.Proofs.Ytlckmpioipiihaa.K
open Go Go.Vm
set_option maxRecDepth 10000
set_option linter.unusedVariables false
def encS (x : Hd) : List UInt8 := numF x.chain.length ++ x.chain ++ numF x.height.toNat ++ numF x.time.toNat ++ x.prev ++ x.vals ++ x.next ++ x.app
theorem putS_fit {lim : Nat} {part : List UInt8} {bs : List UInt8} (h : bs.length + part.length ≤ lim) : putS lim true part ⟨bs, 0⟩ = ⟨bs ++ part, 0⟩ := by
  unfold putS
  rw [if_neg (by simp), if_neg (by simp), if_neg (by simp only; omega)]
theorem checkS_ok {x : Hd} (h : checkS x = 0) : nameS x.chain = true ∧ (1 ≤ x.height ∧ x.height ≤ 1073741824) ∧ (0 ≤ x.time ∧ x.time ≤ 1099511627776) := by
  unfold checkS at h
  split at h
  · cases h
  · rename_i h1
    split at h
    · cases h
    · rename_i h2
      split at h
      · cases h
      · rename_i h3
        exact ⟨by simpa using h1, Classical.not_not.1 h2, Classical.not_not.1 h3⟩
theorem nameS_len {l : List UInt8} (h : nameS l = true) : 1 ≤ l.length ∧ l.length ≤ 32 ∧ l.all plainB = true := by
  unfold nameS at h
  simp only [Bool.and_eq_true, decide_eq_true_eq] at h
  exact ⟨h.1.1, h.1.2, h.2⟩
theorem Encode_ok {h : Heap} {x : Hd} (hx : x.ok) : Runs Try.prog T0 (.fn fn_zbbQ) [.agg ⟨x.cells⟩] h
    (fun r h' => ∃ v, r = .tuple ⟨[v, .int .i64 (checkS x)]⟩ ∧ Own h' 1 v (bcells (if checkS x = 0 then encS x else [])) (if checkS x = 0 then encS x else []).length ∧ (∀ i, ownedBy v i → h.n ≤ i) ∧ Fr (fun _ => False) h h') (fun _ _ => False) := by
  haveI := l32 hx.prev
  haveI := l32 hx.vals
  haveI := l32 hx.next
  haveI := l32 hx.app
  refine zbbQ_runs ?_
  refine stp ?_
  refine O.call' (Check_ok hx) (fun r h1 hr => ?_)
  obtain ⟨rfl, hf1⟩ := hr
  have hn1 := hf1.n
  simp at hn1
  haveI : HGet h1 h.n _ := hf1.keep (b := h.n) HGet.new (by simp) id
  have hf1' : Fr (fun _ => False) h h1 := Fr.trans (S := fun _ => False) Fr.refl.push hf1 fun _ _ h => h
  refine stp ?_
  refine C.ifN (fun hc => ?_) (fun hc => ?_)
  · refine stp ?_
    rw [if_neg hc]
    exact ⟨_, rfl, .none, fun i h => h.elim, hf1'⟩
  · refine stp ?_
    obtain ⟨c1, c2, c3⟩ := checkS_ok hc
    obtain ⟨d1, d2, d3⟩ := nameS_len c1
    have hsz : (ByteArray.mk ⟨x.chain⟩).size = x.chain.length := rfl
    have l1 := numF_len (n := x.chain.length) (by omega)
    have l2 := numF_len (n := x.height.toNat) (by omega)
    have l3 := numF_len (n := x.time.toNat) (by omega)
    have l4 := hx.prev
    have l5 := hx.vals
    have l6 := hx.next
    have l7 := hx.app
    refine O.call' (NewWriter_ok (lim := 65536) (by omega)) (fun r h2 hr => ?_)
    obtain ⟨rfl, hw2, hf2⟩ := hr
    haveI : HGet h2 h.n _ := hf2.keep (b := h.n) inferInstance (by omega) id
    have hlt2 := hf2.n
    refine stp ?_
    refine O.call' (WText_ok hw2 (by simp only [List.length_nil]; omega)) (fun r h3 hr => ?_)
    obtain ⟨rfl, hw3, hf3⟩ := hr
    haveI : HGet h3 h.n _ := hf3.keep (b := h.n) inferInstance (by omega) (by omega)
    have hlt3 := hf3.n
    have e3 : putS 65536 true (numF x.chain.length ++ x.chain) ⟨[], 0⟩ = ⟨numF x.chain.length ++ x.chain, 0⟩ := putS_fit (by simp only [List.length_nil, List.length_append]; omega)
    have hw3 : PWs h3 h1.n h1.n 65536 ⟨numF x.chain.length ++ x.chain, 0⟩ := by rw [← e3]; exact hw3
    refine stp ?_
    refine O.call' (WNum_ok hw3 (by omega) (by simp only [List.length_append]; omega)) (fun r h4 hr => ?_)
    obtain ⟨rfl, hw4, hf4⟩ := hr
    haveI : HGet h4 h.n _ := hf4.keep (b := h.n) inferInstance (by omega) (by omega)
    have hlt4 := hf4.n
    have e4 : putS 65536 (decide (0 ≤ x.height)) (numF x.height.toNat) ⟨numF x.chain.length ++ x.chain, 0⟩ = ⟨numF x.chain.length ++ x.chain ++ numF x.height.toNat, 0⟩ := by
      rw [decide_eq_true (by omega)]
      exact putS_fit (by simp only [List.length_append]; omega)
    have hw4 : PWs h4 h1.n h1.n 65536 ⟨numF x.chain.length ++ x.chain ++ numF x.height.toNat, 0⟩ := by rw [← e4]; exact hw4
    refine stp ?_
    refine O.call' (WNum_ok hw4 (by omega) (by simp only [List.length_append]; omega)) (fun r h5 hr => ?_)
    obtain ⟨rfl, hw5, hf5⟩ := hr
    haveI : HGet h5 h.n _ := hf5.keep (b := h.n) inferInstance (by omega) (by omega)
    have hlt5 := hf5.n
    have e5 : putS 65536 (decide (0 ≤ x.time)) (numF x.time.toNat) ⟨numF x.chain.length ++ x.chain ++ numF x.height.toNat, 0⟩ = ⟨numF x.chain.length ++ x.chain ++ numF x.height.toNat ++ numF x.time.toNat, 0⟩ := by
      rw [decide_eq_true (by omega)]
      exact putS_fit (by simp only [List.length_append]; omega)
    have hw5 : PWs h5 h1.n h1.n 65536 ⟨numF x.chain.length ++ x.chain ++ numF x.height.toNat ++ numF x.time.toNat, 0⟩ := by rw [← e5]; exact hw5
    have g5 : h5.get h.n = .cells x.cells 0 := HGet.eq
    refine stp ?_
    refine O.call' (hashes_ok (x := x) g5 (by omega)) (fun r h6 hr => ?_)
    obtain ⟨rfl, hf6⟩ := hr
    have hw6 := hw5.none hf6
    have hf06 : Fr (fun _ => False) h h6 := by
      refine Fr.trans (S := fun _ => False) (S' := fun i => h1.n ≤ i) hf1' ?_ (fun i hi h => by omega)
      exact Fr.trans (S := fun i => h1.n ≤ i) (S' := fun i => h1.n ≤ i) (hf2.mono fun _ _ h => h.elim) (hf3.trans' (hf4.trans' (hf5.trans' (hf6.mono fun _ _ h => h.elim)))) fun _ _ h => h
    generalize hB : numF x.chain.length ++ x.chain ++ numF x.height.toNat ++ numF x.time.toNat = bb at *
    have hBl : bb.length ≤ 100 := by rw [← hB]; simp only [List.length_append]; omega
    have g6 : h6.get h.n = .cells x.cells 0 := by rw [hf6.get _ (by omega) id, g5]
    have hn6 := hf6.n
    refine stp ?_
    refine loop1 zbbQ_l0_M 31 (fun m v31 h' => ∃ (k : Nat) (c : List UInt8), k ≤ 4 ∧ m = 4 - k ∧ v31 = .int .i64 k ∧ PWs h' h1.n h1.n 65536 ⟨bb ++ c, 0⟩ ∧ Fr (fun i => h1.n ≤ i) h6 h' ∧
      c = ([x.prev, x.vals, x.next, x.app].take k).flatten) ?_ 4 ⟨0, [], by omega, rfl, rfl, by simpa using hw6, Fr.refl, rfl⟩
    rintro m v31 h' x8 x32 x33 x34 x35 x36 x37 x38 x39 ⟨k, c, hk, rfl, rfl, hw, hf, hc'⟩
    haveI : HGet h' h.n (.cells x.cells 0) := hf.keep (b := h.n) ⟨g6⟩ (by omega) (by omega)
    have hone : ∀ {l : List UInt8} {h2 : Heap}, Fr (fun i => h1.n ≤ i) h' h2 → Fr (fun i => h1.n ≤ i) h6 h2 := fun hx => hf.trans' hx
    rcases (show k = 0 ∨ k = 1 ∨ k = 2 ∨ k = 3 ∨ k = 4 by omega) with rfl | rfl | rfl | rfl | rfl
    · have hcl : c.length = 0 := by rw [hc']; simp
      refine stp ?_
      refine O.how (XOp.mkIndex1 (m := 0) 0 rfl (by omega) rfl) ?_
      refine stp ?_
      refine O.call' (WHash_ok hw l4 (by simp only [List.length_append]; omega)) (fun r h7 hr => ?_)
      obtain ⟨rfl, hw7, hf7⟩ := hr
      rw [putS_fit (by simp only [List.length_append]; omega)] at hw7
      refine stp ?_
      exact loop1a 31 3 (by omega) ⟨1, c ++ x.prev, by omega, rfl, rfl, by rw [← List.append_assoc]; exact hw7, hf.trans' hf7, by rw [hc']; simp⟩
    · have hcl : c.length = 32 := by rw [hc']; simp [l4]
      refine stp ?_
      refine O.how (XOp.mkIndex1 (m := 1) 1 rfl (by omega) rfl) ?_
      refine stp ?_
      refine O.call' (WHash_ok hw l5 (by simp only [List.length_append]; omega)) (fun r h7 hr => ?_)
      obtain ⟨rfl, hw7, hf7⟩ := hr
      rw [putS_fit (by simp only [List.length_append]; omega)] at hw7
      refine stp ?_
      exact loop1a 31 2 (by omega) ⟨2, c ++ x.vals, by omega, rfl, rfl, by rw [← List.append_assoc]; exact hw7, hf.trans' hf7, by rw [hc']; simp⟩
    · have hcl : c.length = 64 := by rw [hc']; simp [l4, l5]
      refine stp ?_
      refine O.how (XOp.mkIndex1 (m := 2) 2 rfl (by omega) rfl) ?_
      refine stp ?_
      refine O.call' (WHash_ok hw l6 (by simp only [List.length_append]; omega)) (fun r h7 hr => ?_)
      obtain ⟨rfl, hw7, hf7⟩ := hr
      rw [putS_fit (by simp only [List.length_append]; omega)] at hw7
      refine stp ?_
      exact loop1a 31 1 (by omega) ⟨3, c ++ x.next, by omega, rfl, rfl, by rw [← List.append_assoc]; exact hw7, hf.trans' hf7, by rw [hc']; simp⟩
    · have hcl : c.length = 96 := by rw [hc']; simp [l4, l5, l6]
      refine stp ?_
      refine O.how (XOp.mkIndex1 (m := 3) 3 rfl (by omega) rfl) ?_
      refine stp ?_
      refine O.call' (WHash_ok hw l7 (by simp only [List.length_append]; omega)) (fun r h7 hr => ?_)
      obtain ⟨rfl, hw7, hf7⟩ := hr
      rw [putS_fit (by simp only [List.length_append]; omega)] at hw7
      refine stp ?_
      exact loop1a 31 0 (by omega) ⟨4, c ++ x.app, by omega, rfl, rfl, by rw [← List.append_assoc]; exact hw7, hf.trans' hf7, by rw [hc']; simp⟩
    · refine stp ?_
      refine O.call' (Done_ok hw) (fun r h7 hr => ?_)
      obtain ⟨v, rfl, ho, hnew, hf7⟩ := hr
      refine stp ?_
      rw [hc] at *
      rw [if_pos rfl]
      have he : encS x = bb ++ c := by
        rw [hc', ← hB]
        simp [encS]
      rw [he]
      refine ⟨v, rfl, by simpa using ho, fun i hi => ?_, Fr.trans (S := fun _ => False) (S' := fun i => h1.n ≤ i) hf06 (hf.trans' (hf7.mono fun _ _ h => h.elim)) fun i hi h => by omega⟩
      have := hnew i hi
      have := hf.n
      omega
end Go.Proofs.Ytlckmpioipiihaa.A

namespace Go.Proofs.Ytlckmpioipiihaa.A
open Go.Proofs.Ytlckmpioipiihaa.K
open Go Go.Vm
set_option maxRecDepth 10000
set_option linter.unusedVariables false
section
variable {P : Program} {T : Table} {ts : List Value} {ds : List Deferred} {h : Heap} {rd : Option Nat} {v w : Value} {dst size bytes n m el q : Nat} {zero c d : List Value} {zeros : Bool} {x y : Operand} {chk : List (Option Nat × AOp × Option (Nat × Bool))} {pan : Bool} {rest : List AOper} {Q : QP} {F : Value → List Value}
theorem O.appendLit [e1 : Ev ts x (.slice (some ⟨q, 0, none⟩) n n)] [e2 : Ev ts y w] [s : LSetF ts dst F] (hc : cellsAt h q 0 (n * size) = some c) (hx : newCells h size zero zeros w = some (m, d)) (hd : d.length = m * size) (hs : size ≠ 0) (hb : bytes < 1048576) (hsm : n + m < 1048576) (hm : 0 < m)
    (hk : ∀ h', Own h' size (.slice (some ⟨h.n, 0, some 0⟩) (n + m) (n + m)) (c ++ d) (n + m) → Fr (fun _ => False) h h' → h'.n = h.n + 1 → RunO P T rest ⟨F (.slice (some ⟨h.n, 0, some 0⟩) (n + m) (n + m)), ds, h', rd⟩ Q) :
    RunO P T (⟨some dst, .append el size bytes zero zeros x y, none, chk, pan⟩ :: rest) ⟨ts, ds, h, rd⟩ Q := by
  have hcl := cellsAt_length hc
  have ho : Own (h.push (.cells (c ++ d) size)) size (.slice (some ⟨h.n, 0, some 0⟩) (n + m) (n + m)) (c ++ d) (n + m) := .grown (j := []) (by simp) (by omega) (Nat.le_refl _) (by rw [List.length_append, hcl, hd, Nat.add_mul]) (by rw [List.append_nil, List.length_append, hcl, hd, Nat.add_mul]) (by rw [Heap.get_push, if_pos rfl, List.append_nil])
  have hop : XOp P ts h (.append el size bytes zero zeros x y) (.slice (some ⟨h.n, 0, some 0⟩) (n + m) (n + m)) (h.push (.cells (c ++ d) size)) := by
    refine ⟨rfl, ?_⟩
    simp only [xop, e1.eq, e2.eq]
    unfold appendOf
    rw [if_neg hs, hx]
    simp only
    rw [if_neg (by omega), if_neg (by omega), hc]
  haveI : LSet ts dst (.slice (some ⟨h.n, 0, some 0⟩) (n + m) (n + m)) (F (.slice (some ⟨h.n, 0, some 0⟩) (n + m) (n + m))) := ⟨s.eq _⟩
  exact O.how hop (hk _ ho Fr.refl.push (by simp))
end
theorem HHash_ok {h : Heap} {x : Hd} (hx : x.ok) : Runs Try.prog T0 (.fn fn_zcbQ) [.agg ⟨x.cells⟩] h
    (fun r h' => r = .tuple ⟨[.agg ⟨bcells (if checkS x = 0 then sumS (72 :: encS x) else zb32)⟩, .int .i64 (checkS x)]⟩ ∧ Fr (fun _ => False) h h') (fun _ _ => False) := by
  haveI := l32 hx.prev
  haveI := l32 hx.vals
  haveI := l32 hx.next
  haveI := l32 hx.app
  refine zcbQ_runs ?_
  refine stp ?_
  refine O.call' (Encode_ok hx) (fun r h1 hr => ?_)
  obtain ⟨v, rfl, ho, hnew, hf⟩ := hr
  have hn1 := hf.n
  simp only [Heap.n_push] at hn1
  have hf1 : Fr (fun _ => False) h h1 := Fr.trans (S := fun _ => False) Fr.refl.push.push hf fun _ _ h => h
  haveI gO : HGet h1 (h.n + 1) (.cells z32 0) := hf.keep (b := h.n + 1) (HGet.new (h := h.push _)) (by simp) id
  haveI : BLt (h.n + 1) h1 := ⟨by omega⟩
  simp only [Heap.n_push]
  refine stp ?_
  refine C.ifN (fun he => ?_) (fun he => ?_)
  · refine stp ?_
    rw [if_neg he]
    exact ⟨rfl, Fr.set hf1 fun h => by omega⟩
  · rw [if_pos he] at ho ⊢
    have hel : 0 < (encS x).length ∧ (encS x).length < 1000 := by
      obtain ⟨c1, c2, c3⟩ := checkS_ok he
      obtain ⟨d1, d2, d3⟩ := nameS_len c1
      have l1 := numF_len (n := x.chain.length) (by omega)
      have l2 := numF_len (n := x.height.toNat) (by omega)
      have l3 := numF_len (n := x.time.toNat) (by omega)
      have l4 := hx.prev
      have l5 := hx.vals
      have l6 := hx.next
      have l7 := hx.app
      unfold encS
      simp only [List.length_append]
      omega
    refine stp ?_
    refine O.appendLit (c := [.int .u8 72]) (by rw [cellsAt_of (c := [.int .u8 72]) (by rw [Heap.get_push, if_pos rfl]; rfl) (by simp)]; rfl) ((ho.rd.keep (S := fun _ => False) Fr.refl.push fun _ _ => id).new _) (by rw [bcells_len, Nat.mul_one]) (by omega) (by omega) (by omega) hel.1 (fun h2 ho2 hf2 hn2 => ?_)
    simp only [Heap.n_push] at ho2 hn2 ⊢
    have e1 : 1 + (encS x).length = (72 :: encS x).length := by simp; omega
    rw [e1] at ho2 ⊢
    refine stp ?_
    refine O.call' (Sum_ok (l := 72 :: encS x) ho2.rd (by simp) (by simp; omega)) (fun r h3 hr => ?_)
    obtain ⟨rfl, hf3⟩ := hr
    have hn3 := hf3.n
    have hsl := sumS_len (72 :: encS x)
    haveI : L32 (bcells (sumS (72 :: encS x))) := ⟨by rw [bcells_len, hsl]⟩
    have f13 : Fr (fun _ => False) h1 h3 := Fr.trans (S := fun _ => False) Fr.refl.push (hf2.trans' hf3) fun _ _ h => h
    haveI := f13.keep gO (by omega) id
    haveI : BLt (h.n + 1) h3 := ⟨by omega⟩
    rw [he]
    refine stp ?_
    exact ⟨rfl, Fr.set (Fr.trans (S := fun _ => False) hf1 f13 fun _ _ h => h) fun h => by omega⟩
end Go.Proofs.Ytlckmpioipiihaa.A

namespace Go.Proofs.Ytlckmpioipiihaa.A
open Go.Proofs.Ytlckmpioipiihaa.K
open Go Go.Vm
set_option maxRecDepth 10000
set_option linter.unusedVariables false
structure Val where
  k0 : UInt8
  k1 : UInt8
  k2 : UInt8
  k3 : UInt8
  p : Int
deriving DecidableEq
abbrev Val.key (v : Val) : List UInt8 := [v.k0, v.k1, v.k2, v.k3]
abbrev Val.cells (v : Val) : List Value := [.int .u8 v.k0.toNat, .int .u8 v.k1.toNat, .int .u8 v.k2.toNat, .int .u8 v.k3.toNat, .int .i64 v.p]
def Val.of (l : List UInt8) (p : Int) : Val := ⟨l.getD 0 0, l.getD 1 0, l.getD 2 0, l.getD 3 0, p⟩
def vcells (l : List Val) : List Value := l.flatMap Val.cells
theorem vcells_nil : vcells [] = [] := rfl
theorem vcells_cons (v : Val) (l : List Val) : vcells (v :: l) = v.cells ++ vcells l := rfl
theorem vcells_len : ∀ l : List Val, (vcells l).length = l.length * 5
  | [] => rfl
  | v :: l => by rw [vcells_cons, List.length_append, vcells_len l]; simp; omega
theorem vcells_one : ∀ l : List Val, (vcells l).all Value.oneCell' = true
  | [] => rfl
  | v :: l => by rw [vcells_cons, List.all_append, vcells_one l]; rfl
end Go.Proofs.Ytlckmpioipiihaa.A

namespace Go.Proofs.Ytlckmpioipiihaa.A
open Go.Proofs.Ytlckmpioipiihaa.K
open Go Go.Vm
set_option maxRecDepth 10000
set_option linter.unusedVariables false
theorem Rd.block_lt {h : Heap} {size n : Nat} {v : Value} {c : List Value} (hv : Rd h size v c n) {i : Nat} (hi : blockOf v i) : i < h.n := by
  obtain ⟨a, cap, rfl, _, hc⟩ := hv
  cases a with
  | none => exact hi.elim
  | some a =>
    obtain ⟨h1, h2⟩ := hi
    obtain ⟨b, o, sp, e, hb, _⟩ := hc h2
    cases e
    subst h1
    exact hb
end Go.Proofs.Ytlckmpioipiihaa.A

namespace Go.Proofs.Ytlckmpioipiihaa.A
open Go.Proofs.Ytlckmpioipiihaa.K
open Go Go.Vm
set_option maxRecDepth 10000
set_option linter.unusedVariables false
structure Vote where
  at' : Int
  sig : Nat
abbrev Vote.cells (v : Vote) : List Value := [.int .i64 v.at', .int .u64 v.sig]
def tcells (l : List Vote) : List Value := l.flatMap Vote.cells
theorem tcells_nil : tcells [] = [] := rfl
theorem tcells_cons (v : Vote) (l : List Vote) : tcells (v :: l) = v.cells ++ tcells l := rfl
theorem tcells_len : ∀ l : List Vote, (tcells l).length = l.length * 2
  | [] => rfl
  | v :: l => by rw [tcells_cons, List.length_append, tcells_len l]; simp; omega
end Go.Proofs.Ytlckmpioipiihaa.A

namespace Go.Proofs.Ytlckmpioipiihaa.A
open Go.Proofs.Ytlckmpioipiihaa.K
open Go Go.Vm
set_option maxRecDepth 10000
set_option linter.unusedVariables false
structure Cm where
  height : Int
  hash : List UInt8
  votes : List Vote
abbrev Cm.cells (x : Cm) (sv : Value) : List Value := .int .i64 x.height :: (bcells x.hash ++ [sv])
abbrev zCm : Cm := ⟨0, zb32, []⟩
end Go.Proofs.Ytlckmpioipiihaa.A

namespace Go.Proofs.Ytlckmpioipiihaa.A
open Go.Proofs.Ytlckmpioipiihaa.K
open Go Go.Vm
set_option maxRecDepth 10000
set_option linter.unusedVariables false
def zeroHd : Hd := ⟨[], 0, 0, zb32, zb32, zb32, zb32⟩
theorem zeroHd_ok : zeroHd.ok := ⟨rfl, rfl, rfl, rfl⟩
end Go.Proofs.Ytlckmpioipiihaa.A

namespace Go.Proofs.Ytlckmpioipiihaa.A
open Go.Proofs.Ytlckmpioipiihaa.K
open Go Go.Vm
set_option maxRecDepth 10000
set_option linter.unusedVariables false
structure Bk where
  h : Hd
  c : Cm
  vals : List Val
abbrev zBk : Bk := ⟨zeroHd, zCm, []⟩
structure Bk.ok (x : Bk) : Prop where
  h : x.h.ok
  hash : x.c.hash.length = 32
  votes : x.c.votes.length ≤ 64
  vals : x.vals.length ≤ 64
abbrev Bk.cells (x : Bk) (sv sl : Value) : List Value := .string ⟨⟨x.h.chain⟩⟩ :: .int .i64 x.h.height :: .int .i64 x.h.time :: (bcells x.h.prev ++ (bcells x.h.vals ++ (bcells x.h.next ++ (bcells x.h.app ++ (.int .i64 x.c.height :: (bcells x.c.hash ++ [sv, sl]))))))
abbrev zBc : List Value := .string ⟨⟨[]⟩⟩ :: .int .i64 0 :: .int .i64 0 :: (z32 ++ (z32 ++ (z32 ++ (z32 ++ (.int .i64 0 :: (z32 ++ [.slice none 0 0, .slice none 0 0]))))))
end Go.Proofs.Ytlckmpioipiihaa.A

namespace Go.Proofs.Ytlckmpioipiihaa.A
open Go.Proofs.Ytlckmpioipiihaa.K
open Go Go.Vm
set_option maxRecDepth 10000
set_option linter.unusedVariables false
theorem appendLitV {P : Program} {T : Table} {ts : List Value} {ds : List Deferred} {h : Heap} {rd : Option Nat} {dst bytes el : Nat} {x y : Operand} {chk : List (Option Nat × AOp × Option (Nat × Bool))} {pan : Bool} {rest : List AOper} {Q : QP} {F : Value → List Value} {w : Value} {l : List Val}
    [e1 : Ev ts x (.slice (some ⟨h.n, 0, none⟩) 0 0)] [e2 : Ev ts y w] [s : LSetF ts dst F] (hv : Rd h 5 w (vcells l) l.length) (hs : l.length < 1048576) (hb : bytes < 1048576)
    (hk : ∀ v' h', Own h' 5 v' (vcells l) l.length → Fr (fun _ => False) h h' → (∀ i, ownedBy v' i → h.n ≤ i) → RunO P T rest ⟨F v', ds, h', rd⟩ Q) :
    RunO P T (⟨some dst, .append el 5 bytes [.int .u8 0, .int .u8 0, .int .u8 0, .int .u8 0, .int .i64 0] false x y, none, chk, pan⟩ :: rest) ⟨ts, ds, h.push (.cells [] 0), rd⟩ Q := by
  have f0 : Fr (fun _ => False) h (h.push (.cells [] 0)) := Fr.refl.push
  have hz : Own (h.push (.cells [] 0)) 5 (.slice (some ⟨h.n, 0, none⟩) 0 0) [] 0 := .lit (by simp) (by rw [Heap.get_push, if_pos rfl])
  refine O.append hz ((hv.keep f0 fun _ _ => id).new _) (vcells_len l) (vcells_one l) (by omega) (by omega) (by omega) (fun v' h' h1 h2 h3 => ?_)
  rw [Nat.zero_add, List.nil_append] at h1
  refine hk v' h' h1 (f0.trans (S := fun _ => False) h2 fun i hi ho => ?_) fun i hi => ?_
  · have : h.n = i := ho
    omega
  · rcases h3 i hi with h4 | h4
    · have : h.n = i := h4
      omega
    · simp at h4; omega
theorem CloneV_ok {h : Heap} {v : Value} {l : List Val} (hr : Rd h 5 v (vcells l) l.length) (hs : l.length < 1048576) :
    Runs Try.prog T0 (.fn fn_zvbQ) [v] h
      (fun r h' => Own h' 5 r (vcells l) l.length ∧ Fr (fun _ => False) h h' ∧ ∀ i, ownedBy r i → h.n ≤ i) (fun _ _ => False) := by
  have hr0 := hr
  obtain ⟨a, cap, rfl, hlen, hc⟩ := hr
  refine zvbQ_runs ?_
  cases a with
  | none =>
    have hl : l = [] := by
      cases l with
      | nil => rfl
      | cons b l => obtain ⟨_, _, _, h1, _⟩ := hc (by simp); cases h1
    subst hl
    refine stp ?_
    exact ⟨.none, Fr.refl, fun i hi => hi.elim⟩
  | some a =>
    refine stp ?_
    refine appendLitV hr0 hs (by omega) (fun v' h' h1 h2 h3 => ?_)
    refine stp ?_
    exact ⟨h1, h2, h3⟩
end Go.Proofs.Ytlckmpioipiihaa.A

namespace Go.Proofs.Ytlckmpioipiihaa.A
open Go.Proofs.Ytlckmpioipiihaa.K
open Go Go.Vm
set_option maxRecDepth 10000
set_option linter.unusedVariables false
structure BkRd (h : Heap) (x : Bk) (sv sl : Value) : Prop where
  hd : x.h.ok
  hash : x.c.hash.length = 32
  sv : Rd h 2 sv (tcells x.c.votes) x.c.votes.length
  sl : Rd h 5 sl (vcells x.vals) x.vals.length
theorem BkRd.keep {S : Nat → Prop} {h h' : Heap} {x : Bk} {sv sl : Value} (hb : BkRd h x sv sl) (hf : Fr S h h') (hs : ∀ i, i < h.n → ¬ S i) : BkRd h' x sv sl :=
  ⟨hb.hd, hb.hash, hb.sv.keep hf fun i hi => hs i (Rd.block_lt hb.sv hi), hb.sl.keep hf fun i hi => hs i (Rd.block_lt hb.sl hi)⟩
end Go.Proofs.Ytlckmpioipiihaa.A

namespace Go.Proofs.Ytlckmpioipiihaa.A
open Go.Proofs.Ytlckmpioipiihaa.K
open Go Go.Vm
set_option maxRecDepth 10000
set_option linter.unusedVariables false
theorem LongBlock_ok {h : Heap} {x : Bk} {sv sl : Value} (hb : BkRd h x sv sl) :
    Runs Try.prog T0 (.fn fn_znbQ) [.agg ⟨x.cells sv sl⟩] h (fun r h' => (∃ b : Bool, r = .bool b ∧ (b = false → x.vals.length ≤ 70 ∧ x.c.votes.length ≤ 70 ∧ x.h.chain.length ≤ 60)) ∧ Fr (fun _ => False) h h') (fun _ _ => False) := by
  have hx := hb.hd
  have hch := hb.hash
  haveI := l32 hx.prev
  haveI := l32 hx.vals
  haveI := l32 hx.next
  haveI := l32 hx.app
  haveI := l32 hch
  obtain ⟨a1, c1, rfl, _, _⟩ := id hb.sv
  obtain ⟨a2, c2, rfl, _, _⟩ := id hb.sl
  have hsz : (ByteArray.mk ⟨x.h.chain⟩).size = x.h.chain.length := rfl
  refine znbQ_runs ?_
  refine stp ?_
  refine O.dec (fun h1 => ?_) (fun h1 => ?_)
  · refine stp ?_
    exact ⟨⟨true, rfl, fun h => by cases h⟩, Fr.refl.push⟩
  refine stp ?_
  refine O.dec (fun h2 => ?_) (fun h2 => ?_)
  · refine stp ?_
    exact ⟨⟨true, rfl, fun h => by cases h⟩, Fr.refl.push⟩
  refine stp ?_
  exact ⟨⟨_, rfl, fun h => by have := of_decide_eq_false h; omega⟩, Fr.refl.push⟩
theorem tcells_oneE : ∀ l : List Vote, (tcells l).all Value.oneCell' = true
  | [] => rfl
  | v :: l => by rw [tcells_cons, List.all_append, tcells_oneE l]; rfl
theorem appendLitC {P : Program} {T : Table} {ts : List Value} {ds : List Deferred} {h : Heap} {rd : Option Nat} {dst bytes el : Nat} {x y : Operand} {chk : List (Option Nat × AOp × Option (Nat × Bool))} {pan : Bool} {rest : List AOper} {Q : QP} {F : Value → List Value} {w : Value} {l : List Vote} {zero : List Value}
    [e1 : Ev ts x (.slice (some ⟨h.n, 0, none⟩) 0 0)] [e2 : Ev ts y w] [s : LSetF ts dst F] (hv : Rd h 2 w (tcells l) l.length) (hs : l.length < 1048576) (hb : bytes < 1048576)
    (hk : ∀ v' h', Own h' 2 v' (tcells l) l.length → Fr (fun _ => False) h h' → (∀ i, ownedBy v' i → h.n ≤ i) → RunO P T rest ⟨F v', ds, h', rd⟩ Q) :
    RunO P T (⟨some dst, .append el 2 bytes zero false x y, none, chk, pan⟩ :: rest) ⟨ts, ds, h.push (.cells [] 0), rd⟩ Q := by
  have f0 : Fr (fun _ => False) h (h.push (.cells [] 0)) := Fr.refl.push
  have hz : Own (h.push (.cells [] 0)) 2 (.slice (some ⟨h.n, 0, none⟩) 0 0) [] 0 := .lit (by simp) (by rw [Heap.get_push, if_pos rfl])
  have one := tcells_oneE l
  refine O.append hz ((hv.keep f0 fun _ _ => id).new _) (tcells_len l) one (by omega) (by omega) (by omega) (fun v' h' h1 h2 h3 => ?_)
  rw [Nat.zero_add, List.nil_append] at h1
  refine hk v' h' h1 (f0.trans (S := fun _ => False) h2 fun i hi ho => ?_) fun i hi => ?_
  · have : h.n = i := ho
    omega
  · rcases h3 i hi with h4 | h4
    · have : h.n = i := h4
      omega
    · simp at h4; omega
end Go.Proofs.Ytlckmpioipiihaa.A

namespace Go.Proofs.Ytlckmpioipiihaa.A
open Go.Proofs.Ytlckmpioipiihaa.K
open Go Go.Vm
set_option maxRecDepth 10000
set_option linter.unusedVariables false
def hashH (x : Hd) : List UInt8 := if checkS x = 0 then sumS (72 :: encS x) else zb32
theorem hashH_len (x : Hd) : (hashH x).length = 32 := by
  unfold hashH
  split
  · exact sumS_len _
  · rfl
end Go.Proofs.Ytlckmpioipiihaa.A

namespace Go.Proofs.Ytlckmpioipiihaa.A
open Go.Proofs.Ytlckmpioipiihaa.K
open Go Go.Vm
set_option maxRecDepth 10000
set_option linter.unusedVariables false
theorem BHash_ok {h : Heap} {x : Bk} {sv sl : Value} (hb : BkRd h x sv sl) :
    Runs Try.prog T0 (.fn fn_zlQ) [.agg ⟨x.cells sv sl⟩] h (fun r h' => r = .tuple ⟨[.agg ⟨bcells (hashH x.h)⟩, .int .i64 (checkS x.h)]⟩ ∧ Fr (fun _ => False) h h') (fun _ _ => False) := by
  have hx := hb.hd
  have hch := hb.hash
  haveI := l32 hx.prev
  haveI := l32 hx.vals
  haveI := l32 hx.next
  haveI := l32 hx.app
  haveI := l32 hch
  haveI := l32 (hashH_len x.h)
  obtain ⟨a1, c1, rfl, _, _⟩ := id hb.sv
  obtain ⟨a2, c2, rfl, _, _⟩ := id hb.sl
  refine zlQ_runs ?_
  refine stp ?_
  refine O.call' (HHash_ok hx) (fun r h2 hr => ?_)
  obtain ⟨rfl, hf2⟩ := hr
  have n2 := hf2.n
  simp only [Heap.n_push] at n2
  rw [show (if checkS x.h = 0 then sumS (72 :: encS x.h) else zb32) = hashH x.h from rfl]
  haveI gZ : HGet h2 (h.n + 1) (.cells z32 0) := hf2.keep (b := h.n + 1) (HGet.new (h := h.push _)) (by simp) id
  haveI : BLt (h.n + 1) h2 := ⟨by omega⟩
  simp only [Heap.n_push]
  refine stp ?_
  exact ⟨rfl, Fr.set (Fr.trans (S := fun _ => False) Fr.refl.push.push hf2 fun _ _ h => h) fun e => by omega⟩
end Go.Proofs.Ytlckmpioipiihaa.A

namespace Go.Proofs.Ytlckmpioipiihaa.A
open Go.Proofs.Ytlckmpioipiihaa.K
open Go Go.Vm
set_option maxRecDepth 10000
set_option linter.unusedVariables false
def pickS (x n : Int) : Int := if n ≤ 0 then 0 else x % n
theorem Pick_ok {h : Heap} {x n : Int} (hn : n ≤ 9223372036854775807) : Runs Try.prog T0 (.fn fn_zobQ) [.int .i64 x, .int .i64 n] h (fun r h' => r = .int .i64 (pickS x n) ∧ h' = h) (fun _ _ => False) := by
  refine zobQ_runs ?_
  refine stp ?_
  unfold pickS
  refine C.if (fun h0 => ?_) (fun h0 => ?_)
  · refine stp ?_
    rw [if_pos h0]
    exact ⟨rfl, rfl⟩
  · refine stp ?_
    refine O.how (XOp.remI (by omega)) ?_
    have h1 := Int.tmod_lt_of_pos x (show 0 < n by omega)
    have h2 : -n < x.tmod n := by
      have := Int.lt_tmod_of_pos x (show 0 < n by omega)
      omega
    have e := Int.tmod_eq_emod (a := x) (b := n)
    have p1 := Int.emod_nonneg x (show n ≠ 0 by omega)
    have p2 := Int.emod_lt_of_pos x (show 0 < n by omega)
    have p3 : (n.natAbs : Int) = n := Int.natAbs_of_nonneg (by omega)
    refine stp ?_
    rw [if_neg h0]
    refine C.if (fun h3 => ?_) (fun h3 => ?_)
    · refine stp ?_
      refine ⟨?_, rfl⟩
      congr 1
      split at e <;> omega
    · refine stp ?_
      refine ⟨?_, rfl⟩
      congr 1
      split at e <;> omega
end Go.Proofs.Ytlckmpioipiihaa.A

namespace Go.Proofs.Ytlckmpioipiihaa.A
open Go.Proofs.Ytlckmpioipiihaa.K
open Go Go.Vm
set_option maxRecDepth 10000
set_option linter.unusedVariables false
theorem u8_of {a b : UInt8} (h : (a.toNat : Int) = (b.toNat : Int)) : a = b := by
  apply UInt8.toNat_inj.1
  omega
end Go.Proofs.Ytlckmpioipiihaa.A

namespace Go.Proofs.Ytlckmpioipiihaa.A
open Go.Proofs.Ytlckmpioipiihaa.K
open Go Go.Vm
set_option maxRecDepth 10000
set_option linter.unusedVariables false
theorem bcells_eq : ∀ {l m : List UInt8}, bcells l = bcells m → l = m
  | [], [], _ => rfl
  | [], _ :: _, h => by simp [bcells] at h
  | _ :: _, [], h => by simp [bcells] at h
  | a :: l, b :: m, h => by
    simp only [bcells, List.map_cons, List.cons.injEq, Value.int.injEq, true_and] at h
    rw [u8_of h.1, bcells_eq (l := l) (m := m) h.2]
theorem same_bytes {l m : List UInt8} : same (bcells l) (bcells m) = decide (l = m) := by
  by_cases h : l = m
  · rw [h, same_self, decide_eq_true rfl]
  · rw [decide_eq_false h, same_ne]
    exact fun e => h (bcells_eq e)
end Go.Proofs.Ytlckmpioipiihaa.A

namespace Go.Proofs.Ytlckmpioipiihaa.A
open Go.Proofs.Ytlckmpioipiihaa.K
open Go Go.Vm
set_option maxRecDepth 10000
set_option linter.unusedVariables false
structure Wit where
  st : Int
  b : Bk
  sv : Value
  sl : Value
abbrev Wit.cells (w : Wit) : List Value := .int .i64 w.st :: w.b.cells w.sv w.sl
structure Wit.ok (w : Wit) : Prop where
  hd : w.b.h.ok
  hash : w.b.c.hash.length = 32
  cv : One1 w.sv
  cl : One1 w.sl
def zWit : Wit := ⟨0, zBk, .slice none 0 0, .slice none 0 0⟩
theorem zWit_ok : zWit.ok := ⟨zeroHd_ok, rfl, inferInstanceAs (One1 (.slice none 0 0)), inferInstanceAs (One1 (.slice none 0 0))⟩
theorem Wit.len {w : Wit} (h : w.ok) : w.cells.length = 167 := by
  have h1 := h.hd.prev
  have h2 := h.hd.vals
  have h3 := h.hd.next
  have h4 := h.hd.app
  have h5 := h.hash
  simp only [Wit.cells, Bk.cells, List.length_cons, List.length_append, bcells_len, List.length_nil]
  omega
def wtc (l : List Wit) : List Value := l.flatMap Wit.cells
theorem wtc_cons (w : Wit) (l : List Wit) : wtc (w :: l) = w.cells ++ wtc l := rfl
theorem wtc_append (l m : List Wit) : wtc (l ++ m) = wtc l ++ wtc m := by simp [wtc]
theorem wtc_len : ∀ {l : List Wit}, (∀ w ∈ l, w.ok) → (wtc l).length = l.length * 167
  | [], _ => rfl
  | w :: l, h => by
    rw [wtc_cons, List.length_append, wtc_len fun w hw => h w (by simp [hw]), Wit.len (h w (by simp)), List.length_cons]
    omega
theorem wtc_split {l : List Wit} {k : Nat} (hk : k < l.length) : wtc l = wtc (l.take k) ++ ((l.getD k zWit).cells ++ wtc (l.drop (k + 1))) := by
  have e : l = l.take k ++ (l.getD k zWit :: l.drop (k + 1)) := by
    have g : l.getD k zWit = l[k] := by simp [List.getD_eq_getElem?_getD, hk]
    rw [g, List.getElem_cons_drop, List.take_append_drop]
  conv => lhs; rw [e]
  rw [wtc_append, wtc_cons]
theorem wtc_set {l : List Wit} {k : Nat} (hk : k < l.length) (w : Wit) : wtc (l.set k w) = wtc (l.take k) ++ (w.cells ++ wtc (l.drop (k + 1))) := by
  rw [List.set_eq_take_append_cons_drop, if_pos hk, wtc_append, wtc_cons]
theorem wit_mem {l : List Wit} {k : Nat} (hk : k < l.length) : l.getD k zWit ∈ l := by
  simp [List.getD, hk]
theorem ok_take {l : List Wit} {k : Nat} (h : ∀ w ∈ l, w.ok) : ∀ w ∈ l.take k, w.ok := fun w hw => h w (List.mem_of_mem_take hw)
structure Cr where
  hash : List UInt8
  ws : List Wit
abbrev Cr.cells (c : Cr) : List Value := bcells c.hash ++ (wtc c.ws ++ [.bool true])
structure Cr.ok (c : Cr) : Prop where
  hash : c.hash.length = 32
  len : c.ws.length = 16
  all : ∀ w ∈ c.ws, w.ok
theorem Cr.get {c : Cr} (h : c.ok) {k : Nat} (hk : k < 16) : (c.ws.getD k zWit).ok := h.all _ (wit_mem (by rw [h.len]; exact hk))
theorem Cr.length {c : Cr} (h : c.ok) : c.cells.length = 2705 := by
  simp only [Cr.cells, List.length_append, bcells_len, h.hash, wtc_len h.all, h.len, List.length_cons, List.length_nil]
theorem Cr.split {c : Cr} (h : c.ok) {k : Nat} (hk : k < 16) : ∃ A B : List Value, A.length = 32 + k * 167 ∧ c.cells = A ++ ((c.ws.getD k zWit).cells ++ B) ∧ ∀ w : Wit, ({ c with ws := c.ws.set k w } : Cr).cells = A ++ (w.cells ++ B) := by
  have hk' : k < c.ws.length := by rw [h.len]; exact hk
  refine ⟨bcells c.hash ++ wtc (c.ws.take k), wtc (c.ws.drop (k + 1)) ++ [.bool true], ?_, ?_, fun w => ?_⟩
  · rw [List.length_append, bcells_len, h.hash, wtc_len (ok_take h.all), List.length_take]
    omega
  · simp only [Cr.cells]
    rw [wtc_split hk']
    simp only [List.append_assoc]
  · simp only [Cr.cells]
    rw [wtc_set hk']
    simp only [List.append_assoc]
theorem Cr.st {h : Heap} {c : Cr} {p k : Nat} (hc : c.ok) (hg : h.get p = .cells c.cells 0) (hk : k < 16) : Cell h p (32 + k * 167) (.int .i64 (c.ws.getD k zWit).st) := ⟨by
  obtain ⟨A, B, hA, hs, _⟩ := Cr.split hc hk
  have hl := Cr.length hc
  rw [cellsAt_of (c := c.cells) (by rw [hg]; rfl) (by omega), hs, ← hA, List.drop_left]
  rfl⟩
theorem Cr.made {h : Heap} {c : Cr} {p : Nat} (hc : c.ok) (hg : h.get p = .cells c.cells 0) : Cell h p 2704 (.bool true) := ⟨by
  have hl := Cr.length hc
  rw [cellsAt_of (c := c.cells) (by rw [hg]; rfl) (by omega)]
  have e : 2704 = (bcells c.hash ++ wtc c.ws).length := by rw [List.length_append, bcells_len, hc.hash, wtc_len hc.all, hc.len]
  rw [show c.cells = (bcells c.hash ++ wtc c.ws) ++ [.bool true] by simp only [Cr.cells, List.append_assoc], e, List.drop_left]
  rfl⟩
theorem Cr.sum {h : Heap} {c : Cr} {p : Nat} (hc : c.ok) (hg : h.get p = .cells c.cells 0) : Cells h p 0 32 (bcells c.hash) := ⟨by
  have hl := Cr.length hc
  have e : 32 = (bcells c.hash).length := by rw [bcells_len, hc.hash]
  rw [cellsAt_of (c := c.cells) (by rw [hg]; rfl) (by omega), List.drop_zero, e, List.take_left]⟩
theorem Cr.arr {h : Heap} {c : Cr} {p : Nat} (hc : c.ok) (hg : h.get p = .cells c.cells 0) : Cells h p 32 2672 (wtc c.ws) := ⟨by
  have hl := Cr.length hc
  have e : 32 = (bcells c.hash).length := by rw [bcells_len, hc.hash]
  have e2 : 2672 = (wtc c.ws).length := by rw [wtc_len hc.all, hc.len]
  rw [cellsAt_of (c := c.cells) (by rw [hg]; rfl) (by omega)]
  rw [e, List.drop_left, e2, List.take_left]⟩
theorem over_mid (A B C D : List Value) (h : D.length ≤ B.length) : over (A ++ (B ++ C)) A.length D = A ++ (D ++ (B.drop D.length ++ C)) := by
  have := over_app A (B ++ C) D 0
  rw [Nat.add_zero] at this
  rw [this, over_front _ _ (by rw [List.length_append]; omega), List.drop_append_of_le_length h]
theorem Cr.putW {h : Heap} {c : Cr} {p k : Nat} {w : Wit} (hc : c.ok) (hw : w.ok) (hg : h.get p = .cells c.cells 0) (hk : k < 16) : Put h p (32 + k * 167) w.cells (h.set p (.cells ({ c with ws := c.ws.set k w } : Cr).cells 0)) := ⟨by
  obtain ⟨A, B, hA, hs, hs2⟩ := Cr.split hc hk
  have hl := Cr.length hc
  have l1 := Wit.len hw
  have l2 := Wit.len (Cr.get hc hk)
  haveI := hw.cv
  haveI := hw.cl
  have ho : w.cells.all Value.oneCell' = true := One.eq
  simp only [putAt, hg]
  rw [if_pos ⟨by omega, ho⟩, hs2, hs, ← hA, over_mid _ _ _ _ (by omega), l1, ← l2, List.drop_length, List.nil_append]⟩
theorem Cr.putS {h : Heap} {c : Cr} {p k : Nat} (hc : c.ok) (hg : h.get p = .cells c.cells 0) (hk : k < 16) (n : Int) : Put h p (32 + k * 167) [.int .i64 n] (h.set p (.cells ({ c with ws := c.ws.set k { c.ws.getD k zWit with st := n } } : Cr).cells 0)) := ⟨by
  obtain ⟨A, B, hA, hs, hs2⟩ := Cr.split hc hk
  have hl := Cr.length hc
  simp only [putAt, hg]
  rw [if_pos ⟨by simp only [List.length_cons, List.length_nil]; omega, rfl⟩, hs2, hs, ← hA, over_mid _ _ _ _ (by simp)]
  rfl⟩
theorem Cr.okS {c : Cr} (hc : c.ok) {k : Nat} {w : Wit} (hw : w.ok) : ({ c with ws := c.ws.set k w } : Cr).ok :=
  ⟨hc.hash, by rw [List.length_set]; exact hc.len, fun v hv => by
    rcases List.mem_or_eq_of_mem_set hv with h | h
    · exact hc.all v h
    · rw [h]; exact hw⟩
theorem wtc_at {l : List Wit} {k : Nat} (h : ∀ w ∈ l, w.ok) (hk : k < l.length) : ((wtc l).drop (k * 167)).take 167 = (l.getD k zWit).cells := by
  have e : k * 167 = (wtc (l.take k)).length := by rw [wtc_len (ok_take h), List.length_take, Nat.min_eq_left (by omega)]
  rw [wtc_split hk, e, List.drop_left, ← Wit.len (h _ (wit_mem hk)), List.take_left]
section
variable {P : Program} {T : Table} {ts ts' : List Value} {ds : List Deferred} {h h' : Heap} {rd : Option Nat} {op : AOp} {v : Value} {d : Nat} {chk : List (Option Nat × AOp × Option (Nat × Bool))} {pan : Bool} {rest : List AOper} {Q : QP} {F : Value → List Value}
theorem O.yieldT {l t : Nat} {b : Bool} {f : Operand} {args : List Operand} {vs : List Value} [g : LGet ts t (.bool b)] [e : Ev ts f (.func (.yield l) ⟨[]⟩ ⟨[]⟩)] [k : EvL ts args vs] [s : LSetF ts d F] {R : RP}
    (hr : Runs P T (.yield l) vs h R (fun _ _ => False)) (hk : ∀ v h', R v h' → RunO P T rest ⟨F v, ds, h', rd⟩ Q) :
    RunO P T (⟨some d, .callV f args, some (t, b), chk, pan⟩ :: rest) ⟨ts, ds, h, rd⟩ Q :=
  RunO.cons (by simp only [wantedT, g.eq]; cases b <;> rfl) (fun _ _ e => by cases e) (RunX.call (t := .yield l) (vs := vs) (by simp only [e.eq, k.eq, target]) (Runs.mono hr (fun v h' hv => by
    show RunO P T rest ⟨lset ts d v, ds, h', rd⟩ Q
    rw [s.eq]; exact hk v h' hv) fun _ _ hx => hx.elim))
theorem put_two {ts ts1 ts2 : List Value} {k j : Nat} {v w : Value} [s : LSet ts k v ts1] [t : LSet ts1 j w ts2] : putAll ts [k, j] [v, w] = ts2 := by
  show lset (lset ts k v) j w = _
  rw [s.eq, t.eq]
theorem XOp.mkWit {x i : Operand} {K : IntKind} {p : Int} {c : Cr} (k : Nat) (hc : c.ok) (hp : p = k) (hk : k < 16) [e : Ev ts x (.agg ⟨wtc c.ws⟩)] [f : Ev ts i (.int K p)] : XOp P ts h (.index 16 167 (some 167) x i) (.agg ⟨(c.ws.getD k zWit).cells⟩) h := ⟨rfl, by
  subst hp
  have hi : idx 16 (.int K (k : Int)) = some k := by rw [idx_in (by omega)]; simp
  simp only [xop, e.eq, f.eq, hi]
  rw [if_pos (by rw [wtc_len hc.all, hc.len]; omega), wtc_at hc.all (by rw [hc.len]; exact hk)]⟩
end
end Go.Proofs.Ytlckmpioipiihaa.A

namespace Go.Proofs.Ytlckmpioipiihaa.A
open Go.Proofs.Ytlckmpioipiihaa.K
open Go Go.Vm
set_option maxRecDepth 10000
set_option linter.unusedVariables false
structure WAt (h : Heap) (p : Nat) (w : Wit) : Prop where
  sv : Rd h 2 w.sv (tcells w.b.c.votes) w.b.c.votes.length
  sl : Rd h 5 w.sl (vcells w.b.vals) w.b.vals.length
  nv : ¬ blockOf w.sv p
  nl : ¬ blockOf w.sl p
  lv : w.b.c.votes.length ≤ 70
  ll : w.b.vals.length ≤ 70
structure CrAt (h : Heap) (p : Nat) (c : Cr) : Prop where
  ok : c.ok
  lt : p < h.n
  get : h.get p = .cells c.cells 0
  ws : ∀ w ∈ c.ws, WAt h p w
theorem WAt.keep {S : Nat → Prop} {h h' : Heap} {p : Nat} {w : Wit} (hw : WAt h p w) (hf : Fr S h h') (hs : ∀ i, i < h.n → i ≠ p → ¬ S i) : WAt h' p w :=
  ⟨hw.sv.keep hf fun i hi => hs i (Rd.block_lt hw.sv hi) fun e => hw.nv (by rw [← e]; exact hi), hw.sl.keep hf fun i hi => hs i (Rd.block_lt hw.sl hi) fun e => hw.nl (by rw [← e]; exact hi), hw.nv, hw.nl, hw.lv, hw.ll⟩
theorem CrAt.keep {S : Nat → Prop} {h h' : Heap} {p : Nat} {c : Cr} (hc : CrAt h p c) (hf : Fr S h h') (hs : ∀ i, i < h.n → ¬ S i) : CrAt h' p c :=
  ⟨hc.ok, hf.lt hc.lt, by rw [hf.get _ hc.lt (hs _ hc.lt)]; exact hc.get, fun w hw => (hc.ws w hw).keep hf fun i hi _ => hs i hi⟩
theorem off_ok {h : Heap} {p : Nat} {c : Cr} (hc : CrAt h p c) : Runs Try.prog T0 (.fn fn_zuQ) [.pointer (some ⟨p, 0, none⟩)] h (fun r h' => r = .bool false ∧ h' = h) (fun _ _ => False) := by
  haveI := Cr.made hc.ok hc.get
  refine zuQ_runs ?_
  refine stp ?_
  exact ⟨rfl, rfl⟩
theorem all_ok {h : Heap} {p : Nat} : Runs Try.prog T0 (.fn fn_zrQ) [.pointer (some ⟨p, 0, none⟩)] h (fun r h' => r = .func (.func fn_zsQ) ⟨[]⟩ ⟨[.pointer (some ⟨h.n, 0, none⟩)]⟩ ∧ h'.n = h.n + 1 ∧ h'.get h.n = .cells [.pointer (some ⟨p, 0, none⟩)] 0 ∧ Fr (fun _ => False) h h') (fun _ _ => False) := by
  refine zrQ_runs ?_
  refine stp ?_
  exact ⟨rfl, rfl, HGet.new.eq, Fr.refl.push⟩
theorem are_ok {h : Heap} {s : Int} : Runs Try.prog T0 (.fn fn_zwQ) [.int .i64 s] h (fun r h' => r = .func (.func fn_zxQ) ⟨[]⟩ ⟨[.pointer (some ⟨h.n, 0, none⟩)]⟩ ∧ h'.n = h.n + 1 ∧ h'.get h.n = .cells [.int .i64 s] 0 ∧ Fr (fun _ => False) h h') (fun _ _ => False) := by
  refine zwQ_runs ?_
  refine stp ?_
  exact ⟨rfl, rfl, HGet.new.eq, Fr.refl.push⟩
theorem are1_ok {h : Heap} {s : Int} {b : Nat} {w : Wit} (hw : w.ok) (hg : h.get b = .cells [.int .i64 s] 0) (hb : b < h.n) : Runs Try.prog T0 (.fn fn_zxQ) [.agg ⟨w.cells⟩, .pointer (some ⟨b, 0, none⟩)] h (fun r h' => r = .bool (decide (w.st = s)) ∧ Fr (fun _ => False) h h') (fun _ _ => False) := by
  haveI := l32 hw.hd.prev
  haveI := l32 hw.hd.vals
  haveI := l32 hw.hd.next
  haveI := l32 hw.hd.app
  haveI := l32 hw.hash
  haveI := hw.cv
  haveI := hw.cl
  haveI : HGet h b _ := ⟨hg⟩
  haveI : BLt b h := ⟨hb⟩
  refine zxQ_runs ?_
  refine stp ?_
  exact ⟨rfl, Fr.refl.push⟩
set_option maxHeartbeats 4000000 in
theorem all1_ok {h : Heap} {bx p y : Nat} {c : Cr} {I : Nat → Heap → Prop} {K : Heap → Prop} (hbx : h.get bx = .cells [.pointer (some ⟨p, 0, none⟩)] 0) (hb : bx < h.n) (hc : CrAt h p c)
    (hk : ∀ k hx hx', I k hx → Fr (fun _ => False) hx hx' → I k hx') (h0 : I 0 h)
    (hr : ∀ k hx, k < 16 → I k hx → (c.ws.getD k zWit).st ≠ 0 → Runs Try.prog T0 (.yield y) [.int .i64 k, .agg ⟨(c.ws.getD k zWit).cells⟩] hx (fun r h' => (r = .bool true ∧ I (k + 1) h') ∨ (r = .bool false ∧ K h')) (fun _ _ => False))
    (hs : ∀ k hx, k < 16 → I k hx → (c.ws.getD k zWit).st = 0 → I (k + 1) hx) :
    Runs Try.prog T0 (.fn fn_zsQ) [.func (.yield y) ⟨[]⟩ ⟨[]⟩, .pointer (some ⟨bx, 0, none⟩)] h (fun _ h' => I 16 h' ∨ K h') (fun _ _ => False) := by
  haveI : HGet h bx _ := ⟨hbx⟩
  haveI : BLt bx h := ⟨hb⟩
  haveI := Cr.arr hc.ok hc.get
  refine zsQ_runs ?_
  refine stp ?_
  refine O.call' (off_ok hc) (fun r h1 hr1 => ?_)
  obtain ⟨rfl, rfl⟩ := hr1
  refine stp ?_
  refine loop1 zsQ_l0_M 11 (fun m v11 h' => ∃ k : Nat, k ≤ 16 ∧ m = 16 - k ∧ v11 = .int .i64 k ∧ I k h') ?_ 16 ⟨0, by omega, rfl, rfl, h0⟩
  rintro m v11 h' x3 x4 x12 x13 x14 x15 x16 x17 x18 x19 x20 x21 x22 x23 x24 x25 ⟨k, hk16, rfl, rfl, hi⟩
  refine stp ?_
  refine C.if (fun hlt => ?_) (fun hge => ?_)
  · have hlt : k < 16 := by omega
    have hw := Cr.get hc.ok hlt
    have hr1 := hr k _ hlt (hk k _ (h'.push (.cells (c.ws.getD k zWit).cells 0)) hi Fr.refl.push)
    have hs1 := hs k _ hlt (hk k _ (h'.push (.cells (c.ws.getD k zWit).cells 0)) hi Fr.refl.push)
    refine stp ?_
    refine O.how (XOp.mkWit k hc.ok rfl hlt) ?_
    generalize c.ws.getD k zWit = w at *
    haveI := l32 hw.hd.prev
    haveI := l32 hw.hd.vals
    haveI := l32 hw.hd.next
    haveI := l32 hw.hd.app
    haveI := l32 hw.hash
    haveI := hw.cv
    haveI := hw.cl
    refine stp ?_
    refine O.decN (fun e1 => ?_) (fun e1 => ?_)
    · refine stp ?_
      refine O.yieldT (hr1 e1) (fun r h3 hr => ?_)
      rcases hr with ⟨rfl, hi3⟩ | ⟨rfl, hk3⟩
      · refine stp ?_
        exact loop1a 11 (16 - (k + 1)) (by omega) ⟨k + 1, by omega, rfl, rfl, hi3⟩
      · refine stp ?_
        exact .inr hk3
    · refine stp ?_
      exact loop1a 11 (16 - (k + 1)) (by omega) ⟨k + 1, by omega, rfl, rfl, hs1 e1⟩
  · obtain rfl : k = 16 := by omega
    refine stp ?_
    exact .inl hi
end Go.Proofs.Ytlckmpioipiihaa.A

namespace Go.Proofs.Ytlckmpioipiihaa.A
open Go.Proofs.Ytlckmpioipiihaa.K
open Go Go.Vm
set_option maxRecDepth 10000
set_option linter.unusedVariables false
theorem CloneT_ok {h : Heap} {v : Value} {l : List Vote} (hr : Rd h 2 v (tcells l) l.length) (hs : l.length < 1048576) :
    Runs Try.prog T0 (.fn fn_zwbQ) [v] h
      (fun r h' => Own h' 2 r (tcells l) l.length ∧ Fr (fun _ => False) h h' ∧ ∀ i, ownedBy r i → h.n ≤ i) (fun _ _ => False) := by
  have hr0 := hr
  obtain ⟨a, cap, rfl, hlen, hc⟩ := hr
  refine zwbQ_runs ?_
  cases a with
  | none =>
    have hl : l = [] := by
      cases l with
      | nil => rfl
      | cons b l => obtain ⟨_, _, _, h1, _⟩ := hc (by simp); cases h1
    subst hl
    refine stp ?_
    exact ⟨.none, Fr.refl, fun i hi => hi.elim⟩
  | some a =>
    refine stp ?_
    refine appendLitC hr0 hs (by omega) (fun v' h' h1 h2 h3 => ?_)
    refine stp ?_
    exact ⟨h1, h2, h3⟩
set_option maxHeartbeats 4000000 in
theorem own_ok {h : Heap} {x : Bk} {sv sl : Value} (hb : BkRd h x sv sl) (h1 : x.c.votes.length < 1048576) (h2 : x.vals.length < 1048576) :
    Runs Try.prog T0 (.fn fn_zzQ) [.agg ⟨x.cells sv sl⟩] h
      (fun r h' => ∃ sw sm, r = .agg ⟨x.cells sw sm⟩ ∧ Own h' 2 sw (tcells x.c.votes) x.c.votes.length ∧ Own h' 5 sm (vcells x.vals) x.vals.length ∧ (∀ i, ownedBy sw i → h.n ≤ i) ∧ (∀ i, ownedBy sm i → h.n ≤ i) ∧ Fr (fun _ => False) h h') (fun _ _ => False) := by
  have hx := hb.hd
  have hch := hb.hash
  haveI := l32 hx.prev
  haveI := l32 hx.vals
  haveI := l32 hx.next
  haveI := l32 hx.app
  haveI := l32 hch
  obtain ⟨a1, c1, rfl, _, _⟩ := id hb.sv
  obtain ⟨a2, c2, rfl, _, _⟩ := id hb.sl
  refine zzQ_runs ?_
  refine stp ?_
  have gA : HGet ((h.push (.cells (x.cells (.slice a1 x.c.votes.length c1) (.slice a2 x.vals.length c2)) 0)).push (.cells zBc 0)) h.n (.cells (x.cells (.slice a1 x.c.votes.length c1) (.slice a2 x.vals.length c2)) 0) := HGet.push (k := BLt.new) (g := HGet.new)
  have gB : HGet ((h.push (.cells (x.cells (.slice a1 x.c.votes.length c1) (.slice a2 x.vals.length c2)) 0)).push (.cells zBc 0)) (h.push (.cells (x.cells (.slice a1 x.c.votes.length c1) (.slice a2 x.vals.length c2)) 0)).n (.cells zBc 0) := HGet.new
  have f0 : Fr (fun _ => False) h ((h.push (.cells (x.cells (.slice a1 x.c.votes.length c1) (.slice a2 x.vals.length c2)) 0)).push (.cells zBc 0)) := Fr.refl.push.push
  have n0 : ((h.push (.cells (x.cells (.slice a1 x.c.votes.length c1) (.slice a2 x.vals.length c2)) 0)).push (.cells zBc 0)).n = h.n + 2 := rfl
  have nb : (h.push (.cells (x.cells (.slice a1 x.c.votes.length c1) (.slice a2 x.vals.length c2)) 0)).n = h.n + 1 := rfl
  generalize (h.push (.cells (x.cells (.slice a1 x.c.votes.length c1) (.slice a2 x.vals.length c2)) 0)).push (.cells zBc 0) = h0 at *
  generalize (h.push (.cells (x.cells (.slice a1 x.c.votes.length c1) (.slice a2 x.vals.length c2)) 0)).n = pb at *
  haveI := gA
  haveI : BLt h.n h0 := ⟨by omega⟩
  refine stp ?_
  refine D.callX (CloneT_ok (hb.keep f0 fun _ _ => id).sv h1) (fun r h3 hr => ?_) (fun r h3 hr => ?_) (fun _ _ hx => hx.elim)
  · obtain ⟨_, hf, _⟩ := hr
    haveI := hf.keep gA (by omega) id
    haveI : BLt h.n h3 := ⟨by have := hf.n; omega⟩
    exact StabL.ok
  obtain ⟨ho, hf3, hnew⟩ := hr
  have gA3 := hf3.keep gA (by omega) id
  have gB3 := hf3.keep gB (by omega) id
  have n3 := hf3.n
  have F3 := f0.trans' hf3
  haveI := gA3
  haveI : BLt h.n h3 := ⟨by omega⟩
  refine stp ?_
  refine D.callX (CloneV_ok (hb.keep F3 fun _ _ => id).sl h2) (fun r h4 hr => ?_) (fun r h4 hr => ?_) (fun _ _ hx => hx.elim)
  · obtain ⟨_, hf, _⟩ := hr
    haveI := hf.keep gA3 (by omega) id
    haveI : BLt h.n h4 := ⟨by have := hf.n; omega⟩
    exact StabL.ok
  obtain ⟨hov, hf4, hnv⟩ := hr
  have gA4 := hf4.keep gA3 (by omega) id
  have gB4 := hf4.keep gB3 (by omega) id
  have n4 := hf4.n
  have F4 := F3.trans' hf4
  have ho4 := ho.keep hf4 fun _ _ => id
  obtain ⟨a3, c3, rfl, _, _⟩ := id ho.rd
  obtain ⟨a4, c4, rfl, _, _⟩ := id hov.rd
  haveI := gA4
  haveI := gB4
  haveI : BLt h.n h4 := ⟨by omega⟩
  haveI : BLt pb h4 := ⟨by omega⟩
  haveI : BNe pb h.n := ⟨by omega⟩
  haveI : BNe h.n pb := ⟨by omega⟩
  refine stp ?_
  have f6 : ∀ {o1 o2 : AObj}, Fr (fun i => i = h.n ∨ i = pb) h4 ((h4.set h.n o1).set pb o2) := fun {o1 o2} => (Fr.refl.set fun _ => .inl rfl).set fun _ => .inr rfl
  refine ⟨_, _, rfl, ho4.keep f6 fun b hb e => by have := hnew b hb; omega, hov.keep f6 fun b hb e => by have := hnv b hb; omega, fun i hi => by have := hnew i hi; omega, fun i hi => by have := hnv i hi; omega, F4.trans f6 fun i hi e => by omega⟩
end Go.Proofs.Ytlckmpioipiihaa.A

namespace Go.Proofs.Ytlckmpioipiihaa.A
open Go.Proofs.Ytlckmpioipiihaa.K
open Go Go.Vm
set_option maxRecDepth 10000
set_option linter.unusedVariables false
def anyS (c : Cr) (s : Int) : Bool := c.ws.any fun w => decide (w.st = s)
theorem wit_take {l : List Wit} {s : Int} {k : Nat} (hk : k < l.length) : (∀ w ∈ l.take (k + 1), w.st ≠ s) ↔ (∀ w ∈ l.take k, w.st ≠ s) ∧ (l.getD k zWit).st ≠ s := by
  have g : l.getD k zWit = l[k] := by simp [List.getD_eq_getElem?_getD, hk]
  rw [List.take_succ_eq_append_getElem hk, g]
  constructor
  · exact fun h => ⟨fun v hv => h v (List.mem_append.2 (.inl hv)), h _ (List.mem_append.2 (.inr (List.mem_singleton.2 rfl)))⟩
  · rintro ⟨h1, h2⟩ v hv
    rw [List.mem_append, List.mem_singleton] at hv
    rcases hv with hv | rfl
    · exact h1 v hv
    · exact h2
theorem one_round {h : Heap} {lp pb pe bs : Nat} {n s : Int} {w : Wit} {f0 f1 f2 f5 f6 f7 f8 f9 f10 f11 f12 : Value} (hw : w.ok) (hlp : h.get lp = .loop .ready none [f0, f1, f2, .pointer (some ⟨pb, 0, none⟩), .pointer (some ⟨pe, 0, none⟩), f5, f6, f7, f8, f9, f10, f11, f12] [8, 9] zyQ_ra0 zyQ_rb0)
    (hpb : h.get pb = .cells [.func (.func fn_zxQ) ⟨[]⟩ ⟨[.pointer (some ⟨bs, 0, none⟩)]⟩] 0) (hpe : h.get pe = .cells [.bool false] 0) (hbs : h.get bs = .cells [.int .i64 s] 0) (ll : lp < h.n) (lb : pb < h.n) (le : pe < h.n) (ls : bs < h.n) (n1 : pe ≠ lp) (n2 : pb ≠ lp) (n3 : bs ≠ lp) :
    Runs Try.prog T0 (.yield lp) [.int .i64 n, .agg ⟨w.cells⟩] h (fun r h2 => (w.st ≠ s ∧ r = .bool true ∧ h2.get lp = .loop .ready none [f0, f1, f2, .pointer (some ⟨pb, 0, none⟩), .pointer (some ⟨pe, 0, none⟩), f5, f6, f7, f8, f9, f10, f11, f12] [8, 9] zyQ_ra0 zyQ_rb0 ∧ Fr (fun i => i = lp) h h2) ∨
      (w.st = s ∧ r = .bool false ∧ h2.get lp = .loop .done (some .ret) [f0, f1, f2, .pointer (some ⟨pb, 0, none⟩), .pointer (some ⟨pe, 0, none⟩), f5, f6, f7, f8, f9, f10, f11, f12] [8, 9] zyQ_ra0 zyQ_rb0 ∧ h2.get pe = .cells [.bool true] 0 ∧ Fr (fun i => i = lp ∨ i = pe) h h2)) (fun _ _ => False) := by
  haveI := l32 hw.hd.prev
  haveI := l32 hw.hd.vals
  haveI := l32 hw.hd.next
  haveI := l32 hw.hd.app
  haveI := l32 hw.hash
  haveI := hw.cv
  haveI := hw.cl
  haveI : HGet h lp _ := ⟨hlp⟩
  haveI : HGet h pb _ := ⟨hpb⟩
  haveI : HGet h pe _ := ⟨hpe⟩
  haveI : BLt lp h := ⟨ll⟩
  haveI : BLt pb h := ⟨lb⟩
  haveI : BLt pe h := ⟨le⟩
  haveI : BNe pe lp := ⟨n1⟩
  haveI : BNe lp pe := ⟨fun e => n1 e.symm⟩
  haveI : BNe pb lp := ⟨n2⟩
  refine Runs.round hlp put_two rfl zyQ_na0 zyQ_nb0 zyQ_ca0 zyQ_cb0 ?_
  refine stp ?_
  refine A.go ?_
  refine stp ?_
  refine O.call' (are1_ok hw (b := bs) (s := s) (by rw [Heap.get_set, if_neg n3, Heap.get_push, if_neg (by omega)]; exact hbs) (by simp; omega)) (fun r h3 hr => ?_)
  obtain ⟨rfl, f3⟩ := hr
  have m3 := f3.n
  simp only [Heap.n_set, Heap.n_push] at m3
  haveI g1 := f3.keep (b := lp) inferInstance (by simp; omega) id
  haveI g2 := f3.keep (b := pe) (o := .cells [.bool false] 0) inferInstance (by simp; omega) id
  haveI : BLt lp h3 := ⟨by omega⟩
  haveI : BLt pe h3 := ⟨by omega⟩
  have F3 : Fr (fun i => i = lp) h h3 := (Fr.refl.push.set (S := fun i => i = lp) fun _ => rfl).trans' (f3.mono fun _ _ e => e.elim)
  refine stp ?_
  refine C.if (fun e => ?_) (fun e => ?_)
  · refine stp ?_
    refine A.ret ?_
    refine .inr ⟨e, rfl, by rw [Heap.get_set, if_pos rfl], by rw [Heap.get_set, if_neg n1, Heap.get_set, if_pos rfl], ?_⟩
    exact (((F3.mono fun _ _ e => .inl e).set fun _ => .inr rfl).set fun _ => .inl rfl)
  · refine stp ?_
    refine A.on ?_
    exact .inl ⟨e, rfl, by rw [Heap.get_set, if_pos rfl], F3.set fun _ => rfl⟩
noncomputable abbrev orec (bx bs pb pe : Nat) (st : LoopState) (pend : Option Code) : AObj := .loop st pend [.func (.func fn_zsQ) ⟨[]⟩ ⟨[.pointer (some ⟨bx, 0, none⟩)]⟩, .func (.func fn_zxQ) ⟨[]⟩ ⟨[.pointer (some ⟨bs, 0, none⟩)]⟩, undef, .pointer (some ⟨pb, 0, none⟩), .pointer (some ⟨pe, 0, none⟩), undef, undef, .func (.func fn_zsQ) ⟨[]⟩ ⟨[.pointer (some ⟨bx, 0, none⟩)]⟩, undef, undef, undef, undef, undef] [8, 9] zyQ_ra0 zyQ_rb0
set_option maxHeartbeats 4000000 in
theorem one_ok {h : Heap} {p : Nat} {c : Cr} {s : Int} (hs : s ≠ 0) (hc : CrAt h p c) {bx bs : Nat} (hbx : h.get bx = .cells [.pointer (some ⟨p, 0, none⟩)] 0) (hbs : h.get bs = .cells [.int .i64 s] 0) (lx : bx < h.n) (ls : bs < h.n) :
    Runs Try.prog T0 (.fn fn_zyQ) [.func (.func fn_zsQ) ⟨[]⟩ ⟨[.pointer (some ⟨bx, 0, none⟩)]⟩, .func (.func fn_zxQ) ⟨[]⟩ ⟨[.pointer (some ⟨bs, 0, none⟩)]⟩] h (fun r h' => r = .bool (anyS c s) ∧ Fr (fun _ => False) h h') (fun _ _ => False) := by
  refine zyQ_runs ?_
  refine stp ?_
  have F0 : Fr (fun _ => False) h ((h.push (.cells [.func (.func fn_zxQ) ⟨[]⟩ ⟨[.pointer (some ⟨bs, 0, none⟩)]⟩] 0)).push (.cells [.bool false] 0)) := Fr.refl.push.push
  have n0 : ((h.push (.cells [.func (.func fn_zxQ) ⟨[]⟩ ⟨[.pointer (some ⟨bs, 0, none⟩)]⟩] 0)).push (.cells [.bool false] 0)).n = h.n + 2 := rfl
  have ne : (h.push (.cells [.func (.func fn_zxQ) ⟨[]⟩ ⟨[.pointer (some ⟨bs, 0, none⟩)]⟩] 0)).n = h.n + 1 := rfl
  have gpb : HGet ((h.push (.cells [.func (.func fn_zxQ) ⟨[]⟩ ⟨[.pointer (some ⟨bs, 0, none⟩)]⟩] 0)).push (.cells [.bool false] 0)) h.n (.cells [.func (.func fn_zxQ) ⟨[]⟩ ⟨[.pointer (some ⟨bs, 0, none⟩)]⟩] 0) := HGet.push (k := BLt.new) (g := HGet.new)
  have gpe : HGet ((h.push (.cells [.func (.func fn_zxQ) ⟨[]⟩ ⟨[.pointer (some ⟨bs, 0, none⟩)]⟩] 0)).push (.cells [.bool false] 0)) (h.push (.cells [.func (.func fn_zxQ) ⟨[]⟩ ⟨[.pointer (some ⟨bs, 0, none⟩)]⟩] 0)).n (.cells [.bool false] 0) := HGet.new
  generalize (h.push (.cells [.func (.func fn_zxQ) ⟨[]⟩ ⟨[.pointer (some ⟨bs, 0, none⟩)]⟩] 0)).push (.cells [.bool false] 0) = ha at *
  generalize (h.push (.cells [.func (.func fn_zxQ) ⟨[]⟩ ⟨[.pointer (some ⟨bs, 0, none⟩)]⟩] 0)).n = pe at *
  have FL : Fr (fun _ => False) ha ((ha.push (.defs false)).push (orec bx bs h.n pe .ready none)) := Fr.refl.push.push
  have F1 := F0.trans' FL
  have ca := hc.keep F1 fun _ _ => id
  have hlen := hc.ok.len
  refine range_ret (J := fun hx => (∀ w ∈ c.ws, w.st ≠ s) ∧ Fr (fun i => i = ha.n + 1) (ha.push (.defs false)) hx) (K := fun hx => (∃ w ∈ c.ws, w.st = s) ∧ hx.get pe = .cells [.bool true] 0 ∧ Fr (fun i => i = ha.n + 1 ∨ i = pe) (ha.push (.defs false)) hx) ?_ (fun hx hJ => ?_) (fun hx hK => ?_)
  · refine Runs.mono (all1_ok (I := fun k hx => hx.get (ha.n + 1) = orec bx bs h.n pe .ready none ∧ (∀ w ∈ c.ws.take k, w.st ≠ s) ∧ ha.n + 1 < hx.n ∧ Fr (fun i => i = ha.n + 1) (ha.push (.defs false)) hx) (K := fun hx => hx.get (ha.n + 1) = orec bx bs h.n pe .done (some .ret) ∧ (∃ w ∈ c.ws, w.st = s) ∧ hx.get pe = .cells [.bool true] 0 ∧ Fr (fun i => i = ha.n + 1 ∨ i = pe) (ha.push (.defs false)) hx) (by rw [F1.get _ lx id]; exact hbx) (F1.lt lx) ca ?_ ?_ ?_ ?_) (fun _ h' hh => ?_) (fun _ _ h => h)
    · rintro k hx hx' ⟨i1, i2, i3, i4⟩ hf
      exact ⟨by rw [hf.get _ i3 id]; exact i1, i2, hf.lt i3, i4.trans' (hf.mono fun _ _ e => e.elim)⟩
    · exact ⟨HGet.new.eq, by simp, by simp, Fr.refl.push⟩
    · rintro k hx hk ⟨i1, i2, i3, i4⟩ hst
      have hd : (ha.push (.defs false)).n = ha.n + 1 := rfl
      have i5 := i4.n
      refine Runs.mono (one_round (s := s) (pb := h.n) (pe := pe) (bs := bs) (Cr.get hc.ok hk) i1 ?_ ?_ ?_ i3 (by omega) (by omega) (by omega) (by omega) (by omega) (by omega)) (fun r h' hh => ?_) (fun _ _ h => h)
      · rw [i4.get _ (by omega) (by omega), Heap.get_push, if_neg (by omega)]; exact gpb.eq
      · rw [i4.get _ (by omega) (by omega), Heap.get_push, if_neg (by omega)]; exact gpe.eq
      · rw [i4.get _ (by omega) (by omega), Heap.get_push, if_neg (by omega), F0.get _ ls id]; exact hbs
      · rcases hh with ⟨e1, rfl, e2, e3⟩ | ⟨e1, rfl, e2, e3, e4⟩
        · exact .inl ⟨rfl, e2, (wit_take (by omega)).2 ⟨i2, e1⟩, e3.lt i3, i4.trans' e3⟩
        · exact .inr ⟨rfl, e2, ⟨_, wit_mem (by omega), e1⟩, e3, (i4.mono fun _ _ e => .inl e).trans' e4⟩
    · rintro k hx hk ⟨i1, i2, i3, i4⟩ hst
      exact ⟨i1, (wit_take (by omega)).2 ⟨i2, by omega⟩, i3, i4⟩
    · rcases hh with ⟨i1, i2, i3, i4⟩ | ⟨i1, i2, i3, i4⟩
      · exact .inl ⟨i1, fun w hw => i2 w (by rw [List.take_of_length_le (by omega)]; exact hw), i4⟩
      · exact .inr ⟨i1, i2, i3, i4⟩
  · obtain ⟨h0, hf⟩ := hJ
    have hd : (ha.push (.defs false)).n = ha.n + 1 := rfl
    have gpe2 : hx.get pe = .cells [.bool false] 0 := by rw [hf.get _ (by omega) (by omega), Heap.get_push, if_neg (by omega)]; exact gpe.eq
    have gdf : hx.get ha.n = .defs false := by rw [hf.get _ (by omega) (by omega)]; exact HGet.new.eq
    have hfx : Fr (fun _ => False) h hx := F0.push.trans hf fun i hi e => by omega
    have hxn := hf.n
    haveI : HGet hx pe _ := ⟨gpe2⟩
    haveI : HGet hx ha.n _ := ⟨gdf⟩
    haveI : BLt pe hx := ⟨by omega⟩
    haveI : BNe pe (ha.n + 1) := ⟨by omega⟩
    haveI : BNe ha.n (ha.n + 1) := ⟨by omega⟩
    haveI : BNe ha.n pe := ⟨by omega⟩
    haveI : BNe pe ha.n := ⟨by omega⟩
    refine stp ?_
    refine B.retC ?_
    have ea : anyS c s = false := by
      unfold anyS
      rw [List.any_eq_false]
      exact fun w hw => by simpa using h0 w hw
    rw [ea]
    exact ⟨rfl, (((hfx.set fun e => by omega).set fun e => by omega).set fun e => by omega).set fun e => by omega⟩
  · obtain ⟨⟨w, hw, e0⟩, gpe2, hf⟩ := hK
    have hd : (ha.push (.defs false)).n = ha.n + 1 := rfl
    have gdf : hx.get ha.n = .defs false := by rw [hf.get _ (by omega) (by omega)]; exact HGet.new.eq
    have hfx : Fr (fun _ => False) h hx := F0.push.trans hf fun i hi e => by omega
    have hxn := hf.n
    haveI : HGet hx pe _ := ⟨gpe2⟩
    haveI : HGet hx ha.n _ := ⟨gdf⟩
    haveI : BLt pe hx := ⟨by omega⟩
    haveI : BNe pe (ha.n + 1) := ⟨by omega⟩
    haveI : BNe ha.n (ha.n + 1) := ⟨by omega⟩
    haveI : BNe ha.n pe := ⟨by omega⟩
    haveI : BNe pe ha.n := ⟨by omega⟩
    refine stp ?_
    refine B.retC ?_
    have ea : anyS c s = true := by
      unfold anyS
      rw [List.any_eq_true]
      exact ⟨w, hw, by simpa using e0⟩
    rw [ea]
    exact ⟨rfl, ((hfx.set fun e => by omega).set fun e => by omega).set fun e => by omega⟩
end Go.Proofs.Ytlckmpioipiihaa.A
