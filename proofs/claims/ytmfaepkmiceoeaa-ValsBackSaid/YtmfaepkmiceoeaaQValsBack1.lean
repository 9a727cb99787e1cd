/- Contracts of functions, over the machine. -/
import Derived.Test.YtmfaepkmiceoeaaRows
import Derived.Test.YtmfaepkmiceoeaaVJ
import Derived.Test.YtmfaepkmiceoeaaVK
import Derived.Test.YtmfaepkmiceoeaaVI
namespace Go.Vm
abbrev U : Value := undef
abbrev tm (n : Nat) : Operand := .tmp n
abbrev k0 : Operand := .const (.int .i64 0)
abbrev o1 (d : Nat) (x : AOp) : AOper := ⟨some d, x, none, [], false⟩
abbrev o2 (d : Nat) (x : AOp) : AOper := ⟨some d, x, none, [], true⟩
abbrev o3 (x : AOp) : AOper := ⟨none, x, none, [], false⟩
abbrev o4 (d : Nat) (x : AOp) (t : Nat) : AOper := ⟨some d, x, some (t, true), [], false⟩
abbrev o5 (d : Nat) (x : AOp) (t : Nat) : AOper := ⟨some d, x, some (t, false), [], false⟩
end Go.Vm
noncomputable section
set_option maxRecDepth 100000
set_option linter.unusedVariables false
namespace Go.Proofs.Ytmfaepkmiceoeaa.A
open Go Go.Vm
abbrev ty_wire_wrong : TypeId := 157
instance : IsIface Try.prog 20 := ⟨by kernel_rfl⟩
abbrev prims : List FuncId := [5, 9]
abbrev kepts : List FuncId := []
def T0 : Table := withKept (withTrue Try.prog prims) kepts
theorem zgQ_known {h : Heap} : Runs Try.prog T0 (.fn 5) [] h (fun r h' => r = .bool true ∧ h' = h) (fun _ _ => False) := known_runs rfl
instance : IsBoolT Try.prog 4 := ⟨by kernel_rfl⟩
instance : TLeaves Try.prog 7 (.i .i64 :: (.i .i64 :: (.b :: (.i .u8 :: [])))) := ⟨by kernel_rfl, by kernel_rfl, by kernel_rfl⟩
instance : TLeaves Try.prog 8 (.i .i64 :: (.i .i64 :: (.b :: (.i .u8 :: [])))) := ⟨by kernel_rfl, by kernel_rfl, by kernel_rfl⟩
instance : TLeaves Try.prog 27 (.i .i64 :: (.i .i64 :: [])) := ⟨by kernel_rfl, by kernel_rfl, by kernel_rfl⟩
instance : TLeaves Try.prog 28 (.i .i64 :: (.i .i64 :: [])) := ⟨by kernel_rfl, by kernel_rfl, by kernel_rfl⟩
instance : TLeaves Try.prog 41 (u8s 4) := ⟨by kernel_rfl, by kernel_rfl, by kernel_rfl⟩
instance : TLeaves Try.prog 42 (u8s 4) := ⟨by kernel_rfl, by kernel_rfl, by kernel_rfl⟩
instance : TLeaves Try.prog 51 (.i .u64 :: (.i .u64 :: [])) := ⟨by kernel_rfl, by kernel_rfl, by kernel_rfl⟩
instance : TLeaves Try.prog 52 (.i .u64 :: (.i .u64 :: [])) := ⟨by kernel_rfl, by kernel_rfl, by kernel_rfl⟩
instance : TLeaves Try.prog 53 (u8s 4 ++ (.i .i64 :: [])) := ⟨by kernel_rfl, by kernel_rfl, by kernel_rfl⟩
instance : TLeaves Try.prog 54 (u8s 4 ++ (.i .i64 :: [])) := ⟨by kernel_rfl, by kernel_rfl, by kernel_rfl⟩
instance : TLeaves Try.prog 62 (u8s 32) := ⟨by kernel_rfl, by kernel_rfl, by kernel_rfl⟩
instance : TLeaves Try.prog 63 (u8s 32) := ⟨by kernel_rfl, by kernel_rfl, by kernel_rfl⟩
instance : TLeaves Try.prog 75 (u8s 4 ++ (.b :: (.i .i64 :: (.i .i64 :: [])))) := ⟨by kernel_rfl, by kernel_rfl, by kernel_rfl⟩
instance : TLeaves Try.prog 76 (u8s 4 ++ (.b :: (.i .i64 :: (.i .i64 :: [])))) := ⟨by kernel_rfl, by kernel_rfl, by kernel_rfl⟩
instance : TLeaves Try.prog 94 (.i .u64 :: (.i .u64 :: (.i .u64 :: []))) := ⟨by kernel_rfl, by kernel_rfl, by kernel_rfl⟩
instance : TLeaves Try.prog 95 (.i .u64 :: (.i .u64 :: (.i .u64 :: []))) := ⟨by kernel_rfl, by kernel_rfl, by kernel_rfl⟩
instance : TLeaves Try.prog 132 (.i .u32 :: (.i .u32 :: (.i .u32 :: (.i .u32 :: (.i .u32 :: (.i .u32 :: (.i .u32 :: (.i .u32 :: [])))))))) := ⟨by kernel_rfl, by kernel_rfl, by kernel_rfl⟩
instance : TLeaves Try.prog 140 (u8s 4 ++ (u8s 4 ++ (.i .u8 :: []))) := ⟨by kernel_rfl, by kernel_rfl, by kernel_rfl⟩
instance : TLeaves Try.prog 143 (.i .u32 :: (.i .u32 :: (.i .u32 :: (.i .u32 :: (.i .u32 :: (.i .u32 :: (.i .u32 :: (.i .u32 :: [])))))))) := ⟨by kernel_rfl, by kernel_rfl, by kernel_rfl⟩
instance : TLeaves Try.prog 146 (.i .i64 :: []) := ⟨by kernel_rfl, by kernel_rfl, by kernel_rfl⟩
instance : TLeaves Try.prog 147 (.i .i64 :: []) := ⟨by kernel_rfl, by kernel_rfl, by kernel_rfl⟩
instance : TLeaves Try.prog 152 (.i .u32 :: (.i .u32 :: (.i .u32 :: (.i .u32 :: (.i .u32 :: (.i .u32 :: (.i .u32 :: (.i .u32 :: (.i .u32 :: (.i .u32 :: (.i .u32 :: (.i .u32 :: (.i .u32 :: (.i .u32 :: (.i .u32 :: (.i .u32 :: [])))))))))))))))) := ⟨by kernel_rfl, by kernel_rfl, by kernel_rfl⟩
instance : TLeaves Try.prog 153 (.i .i64 :: (.i .i64 :: (.i .i64 :: (.i .i64 :: (.i .i64 :: (.i .i64 :: (.i .i64 :: (.i .i64 :: (.i .i64 :: (.i .i64 :: (.i .i64 :: (.i .i64 :: (.i .i64 :: (.i .i64 :: (.i .i64 :: (.i .i64 :: [])))))))))))))))) := ⟨by kernel_rfl, by kernel_rfl, by kernel_rfl⟩
instance : TLeaves Try.prog 156 (.i .i64 :: (.i .i64 :: [])) := ⟨by kernel_rfl, by kernel_rfl, by kernel_rfl⟩
instance : TLeaves Try.prog 157 (.i .i64 :: (.i .i64 :: [])) := ⟨by kernel_rfl, by kernel_rfl, by kernel_rfl⟩
instance : TLeaves Try.prog 167 (.i .i64 :: (.i .i64 :: (.i .i64 :: (.i .i64 :: (.i .i64 :: (.i .i64 :: (.i .i64 :: (.i .i64 :: (.i .i64 :: (.i .i64 :: (.i .i64 :: (.i .i64 :: (.i .i64 :: (.i .i64 :: (.i .i64 :: (.i .i64 :: (.i .i64 :: (.i .i64 :: (.i .i64 :: (.i .i64 :: (.i .i64 :: (.i .i64 :: (.i .i64 :: (.i .i64 :: (.i .i64 :: (.i .i64 :: (.i .i64 :: (.i .i64 :: (.i .i64 :: (.i .i64 :: (.i .i64 :: (.i .i64 :: (.i .i64 :: (.i .i64 :: (.i .i64 :: (.i .i64 :: (.i .i64 :: (.i .i64 :: (.i .i64 :: (.i .i64 :: (.i .i64 :: (.i .i64 :: (.i .i64 :: (.i .i64 :: (.i .i64 :: (.i .i64 :: (.i .i64 :: (.i .i64 :: (.i .i64 :: (.i .i64 :: (.i .i64 :: (.i .i64 :: (.i .i64 :: (.i .i64 :: (.i .i64 :: (.i .i64 :: (.i .i64 :: (.i .i64 :: (.i .i64 :: (.i .i64 :: (.i .i64 :: (.i .i64 :: (.i .i64 :: (.i .i64 :: (.i .i64 :: (.i .i64 :: (.i .i64 :: (.i .i64 :: (.i .i64 :: (.i .i64 :: (.i .i64 :: (.i .i64 :: (.i .i64 :: (.i .i64 :: (.i .i64 :: (.i .i64 :: (.i .i64 :: (.i .i64 :: (.i .i64 :: (.i .i64 :: (.i .i64 :: (.i .i64 :: (.i .i64 :: (.i .i64 :: (.i .i64 :: (.i .i64 :: (.i .i64 :: (.i .i64 :: (.i .i64 :: (.i .i64 :: (.i .i64 :: (.i .i64 :: (.i .i64 :: (.i .i64 :: (.i .i64 :: (.i .i64 :: (.i .i64 :: (.i .i64 :: (.i .i64 :: (.i .i64 :: (.i .i64 :: (.i .i64 :: (.i .i64 :: (.i .i64 :: (.i .i64 :: (.i .i64 :: (.i .i64 :: (.i .i64 :: (.i .i64 :: (.i .i64 :: (.i .i64 :: (.i .i64 :: (.i .i64 :: (.i .i64 :: (.i .i64 :: (.i .i64 :: (.i .i64 :: (.i .i64 :: (.i .i64 :: (.i .i64 :: (.i .i64 :: (.i .i64 :: (.i .i64 :: (.i .i64 :: (.i .i64 :: (.i .i64 :: (.i .i64 :: (.i .i64 :: (.i .i64 :: (.i .i64 :: (.i .i64 :: (.i .i64 :: (.i .i64 :: (.i .i64 :: (.i .i64 :: (.i .i64 :: (.i .i64 :: (.i .i64 :: (.i .i64 :: (.i .i64 :: (.i .i64 :: (.i .i64 :: (.i .i64 :: (.i .i64 :: (.i .i64 :: (.i .i64 :: (.i .i64 :: (.i .i64 :: (.i .i64 :: (.i .i64 :: (.i .i64 :: (.i .i64 :: (.i .i64 :: (.i .i64 :: (.i .i64 :: (.i .i64 :: (.i .i64 :: (.i .i64 :: (.i .i64 :: (.i .i64 :: [])))))))))))))))))))))))))))))))))))))))))))))))))))))))))))))))))))))))))))))))))))))))))))))))))))))))))))))))))))))))))))))))))))))))))))))))))))))))))))))))) := ⟨by kernel_rfl, by kernel_rfl, by kernel_rfl⟩
abbrev fn_zfQ : FuncId := 6
def zfQ_l0 : ACode :=
 (.seq (.seq (.region [
 o1 143 (.mov (tm 21)),
 o1 144 (.mov (tm 0)),
 o1 145 (.lenSl (tm 144)),
 o1 146 (.bin .lss (so (.binOp .lss 3 (tm 143) (tm 145) 3) 4) (tm 143) (tm 145))]) (.cond (tm 146)
 .skip
 (.exit 0))) (.seq (.block 1 (.seq (.region [
 o1 150 (.mov (tm 0)),
 o1 151 (.mov (tm 0)),
 o1 152 (.mov (tm 21)),
 o1 153 (.indexSl 5 (tm 151) (tm 152)),
 o1 154 (.fieldAddr 0 (tm 153)),
 o1 155 (.load (some 4) (tm 154)),
 o1 156 (.callV (.func 19) [(tm 150), (tm 155)]),
 o1 149 (.mov (tm 156)),
 o1 157 (.extract 0 (tm 149)),
 o1 158 (.extract 1 (tm 149)),
 o1 22 (.mov (tm 157)),
 o1 23 (.mov (tm 158))]) (.seq (.region [
 o1 160 (.mov (tm 0)),
 o1 161 (.mov (tm 21)),
 o1 162 (.indexSl 5 (tm 160) (tm 161)),
 o1 163 (.fieldAddr 4 (tm 162)),
 o1 164 (.load none (tm 163)),
 o1 165 (.callV (.func 29) [(tm 164)]),
 o1 159 (.mov (tm 165)),
 o1 166 (.extract 0 (tm 159)),
 o1 167 (.extract 1 (tm 159)),
 o1 24 (.alloc 52 [(.int .u64 0), (.int .u64 0)]),
 o3 (.store 2 (tm 24) (tm 166)),
 o1 25 (.mov (tm 167))]) (.seq (.region [
 o1 169 (.load (some 2) (tm 20)),
 o1 170 (.load (some 2) (tm 24)),
 o1 171 (.callV (.func 30) [(tm 169), (tm 170)]),
 o1 168 (.mov (tm 171)),
 o1 172 (.extract 0 (tm 168)),
 o1 173 (.extract 1 (tm 168)),
 o1 26 (.alloc 52 [(.int .u64 0), (.int .u64 0)]),
 o3 (.store 2 (tm 26) (tm 172)),
 o1 27 (.mov (tm 173))]) (.seq (.seq (.region [
 o1 174 (.mov (tm 22)),
 o1 175 (.mov (tm 21)),
 o1 176 (.bin .neq (so (.binOp .neq 3 (tm 174) (tm 175) 3) 4) (tm 174) (tm 175)),
 o1 177 (.mov (tm 176)),
 o5 178 (.mov (tm 23)) 177,
 o5 179 (.raw (so (.unOp .not 4 (tm 178)) 4)) 177,
 o1 180 (.pick (tm 177) (.const (.bool true)) (tm 179)),
 o1 181 (.mov (tm 180)),
 o5 182 (.mov (tm 25)) 181,
 o5 183 (.bin .neq (so (.binOp .neq 26 (tm 182) k0 26) 4) (tm 182) k0) 181,
 o1 184 (.pick (tm 181) (.const (.bool true)) (tm 183)),
 o1 185 (.mov (tm 184)),
 o5 186 (.mov (tm 27)) 185,
 o5 187 (.bin .neq (so (.binOp .neq 26 (tm 186) k0 26) 4) (tm 186) k0) 185,
 o1 188 (.pick (tm 185) (.const (.bool true)) (tm 187))]) (.cond (tm 188)
 (.seq (.region [
 o1 6 (.mov (.const (.bool false)))]) .ret)
 .skip)) (.region [
 o1 189 (.load (some 2) (tm 26)),
 o3 (.store 2 (tm 20) (tm 189))])))))) (.region [
 o1 147 (.mov (tm 21)),
 o1 148 (.bin .add (so (.binOp .add 3 (tm 147) (.const (.int .i64 1)) 3) 3) (tm 147) (.const (.int .i64 1))),
 o1 21 (.mov (tm 148))])))
def zfQ_c : ACode :=
 (.seq (.region [
 o1 6 (.mov (.const (.bool false)))]) (.seq (.region [
 o1 30 (.callV (.func 5) []),
 o1 7 (.mov (tm 30))]) (.seq (.seq (.region [
 o1 31 (.mov (tm 0)),
 o1 32 (.lenSl (tm 31)),
 o1 33 (.bin .gtr (so (.binOp .gtr 3 (tm 32) (.const (.int .i64 64)) 3) 4) (tm 32) (.const (.int .i64 64))),
 o1 34 (.mov (tm 33)),
 o5 35 (.mov (tm 2)) 34,
 o5 36 (.lenSl (tm 35)) 34,
 o5 37 (.bin .gtr (so (.binOp .gtr 3 (tm 36) (.const (.int .i64 1000)) 3) 4) (tm 36) (.const (.int .i64 1000))) 34,
 o1 38 (.pick (tm 34) (.const (.bool true)) (tm 37))]) (.cond (tm 38)
 (.seq (.region [
 o1 39 (.mov (tm 7)),
 o1 6 (.mov (tm 39))]) .ret)
 .skip)) (.seq (.region [
 o1 41 (.mov (tm 2)),
 o1 42 (.callV (.func 11) [(tm 41)]),
 o1 40 (.mov (tm 42)),
 o1 43 (.extract 0 (tm 40)),
 o1 44 (.extract 1 (tm 40)),
 o1 9 (.alloc 28 [(.int .i64 0), (.int .i64 0)]),
 o1 8 (.mov (tm 43)),
 o3 (.store 2 (tm 9) (tm 44))]) (.seq (.region [
 o1 46 (.mov (tm 8)),
 o1 47 (.callV (.func 25) [(tm 46)]),
 o1 45 (.mov (tm 47)),
 o1 48 (.extract 0 (tm 45)),
 o1 49 (.extract 1 (tm 45)),
 o1 10 (.mov (tm 48)),
 o1 11 (.mov (tm 49))]) (.seq (.seq (.region [
 o1 50 (.load (some 2) (tm 9)),
 o1 51 (.build [(.int .i64 0), (.int .i64 0)] []),
 o1 52 (.bin .eql (so (.binOp .eql 28 (tm 50) (tm 51) 28) 4) (tm 50) (tm 51)),
 o1 53 (.mov (tm 52)),
 o4 54 (.mov (tm 11)) 53,
 o4 55 (.bin .neq (so (.binOp .neq 26 (tm 54) k0 26) 4) (tm 54) k0) 53,
 o4 56 (.mov (tm 55)) 53,
 o5 57 (.mov (tm 2)) 56,
 o5 58 (.mov (tm 10)) 56,
 o5 59 (.callV (.func 26) [(tm 57), (tm 58)]) 56,
 o5 60 (.raw (so (.unOp .not 4 (tm 59)) 4)) 56,
 o4 61 (.pick (tm 56) (.const (.bool true)) (tm 60)) 53,
 o1 62 (.pick (tm 53) (tm 61) (.const (.bool false))),
 o1 63 (.mov (tm 62)),
 o5 64 (.load (some 2) (tm 9)) 63,
 o5 65 (.build [(.int .i64 0), (.int .i64 0)] []) 63,
 o5 66 (.bin .neq (so (.binOp .neq 28 (tm 64) (tm 65) 28) 4) (tm 64) (tm 65)) 63,
 o5 67 (.mov (tm 66)) 63,
 o4 68 (.mov (tm 8)) 67,
 o4 69 (.lenSl (tm 68)) 67,
 o4 70 (.bin .gtr (so (.binOp .gtr 3 (tm 69) k0 3) 4) (tm 69) k0) 67,
 o4 71 (.mov (tm 70)) 67,
 o5 72 (.fieldAddr 1 (tm 9)) 71,
 o5 73 (.load none (tm 72)) 71,
 o5 74 (.bin .lss (so (.binOp .lss 3 (tm 73) k0 3) 4) (tm 73) k0) 71,
 o4 75 (.pick (tm 71) (.const (.bool true)) (tm 74)) 67,
 o4 76 (.mov (tm 75)) 67,
 o5 77 (.fieldAddr 1 (tm 9)) 76,
 o5 78 (.load none (tm 77)) 76,
 o5 79 (.mov (tm 2)) 76,
 o5 80 (.lenSl (tm 79)) 76,
 o5 81 (.bin .gtr (so (.binOp .gtr 3 (tm 78) (tm 80) 3) 4) (tm 78) (tm 80)) 76,
 o4 82 (.pick (tm 76) (.const (.bool true)) (tm 81)) 67,
 o5 83 (.pick (tm 67) (tm 82) (.const (.bool false))) 63,
 o1 84 (.pick (tm 63) (.const (.bool true)) (tm 83))]) (.cond (tm 84)
 (.seq (.region [
 o1 6 (.mov (.const (.bool false)))]) .ret)
 .skip)) (.seq (.seq (.region [
 o1 85 (.mov (tm 0)),
 o1 86 (.callV (.func 22) [(tm 85)]),
 o1 87 (.bin .neq (so (.binOp .neq 26 (tm 86) k0 26) 4) (tm 86) k0)]) (.cond (tm 87)
 (.seq (.region [
 o1 88 (.mov (tm 7)),
 o1 6 (.mov (tm 88))]) .ret)
 .skip)) (.seq (.region [
 o1 90 (.mov (tm 0)),
 o1 91 (.callV (.func 25) [(tm 90)]),
 o1 89 (.mov (tm 91)),
 o1 92 (.extract 0 (tm 89)),
 o1 93 (.extract 1 (tm 89)),
 o1 12 (.mov (tm 92)),
 o1 13 (.mov (tm 93))]) (.seq (.region [
 o1 95 (.mov (tm 12)),
 o1 96 (.callV (.func 11) [(tm 95)]),
 o1 94 (.mov (tm 96)),
 o1 97 (.extract 0 (tm 94)),
 o1 98 (.extract 1 (tm 94)),
 o1 15 (.alloc 28 [(.int .i64 0), (.int .i64 0)]),
 o1 14 (.mov (tm 97)),
 o3 (.store 2 (tm 15) (tm 98))]) (.seq (.region [
 o1 100 (.mov (tm 12)),
 o1 101 (.mov (tm 1)),
 o1 102 (.mov (tm 12)),
 o1 103 (.lenSl (tm 102)),
 o1 104 (.callV (.func 27) [(tm 101), (tm 103)]),
 o1 105 (.sliceSl 1 (tm 100) none (some (tm 104)) none),
 o1 106 (.callV (.func 11) [(tm 105)]),
 o1 99 (.mov (tm 106)),
 o1 107 (.extract 0 (tm 99)),
 o1 108 (.extract 1 (tm 99)),
 o1 17 (.alloc 28 [(.int .i64 0), (.int .i64 0)]),
 o1 16 (.mov (tm 107)),
 o3 (.store 2 (tm 17) (tm 108))]) (.seq (.region [
 o1 110 (.mov (tm 12)),
 o1 111 (.callV (.func 28) [(tm 110)]),
 o1 112 (.buildSlice 5 [(.int .u8 0)] 1 [(0, 1, (.const (.int .u8 1)))]),
 o1 113 (.append 5 1 1 [(.int .u8 0)] false (tm 111) (tm 112)),
 o1 114 (.callV (.func 11) [(tm 113)]),
 o1 109 (.mov (tm 114)),
 o1 115 (.extract 0 (tm 109)),
 o1 116 (.extract 1 (tm 109)),
 o1 19 (.alloc 28 [(.int .i64 0), (.int .i64 0)]),
 o1 18 (.mov (tm 115)),
 o3 (.store 2 (tm 19) (tm 116))]) (.seq (.seq (.region [
 o1 117 (.mov (tm 13)),
 o1 118 (.bin .neq (so (.binOp .neq 26 (tm 117) k0 26) 4) (tm 117) k0),
 o1 119 (.mov (tm 118)),
 o5 120 (.load (some 2) (tm 15)) 119,
 o5 121 (.build [(.int .i64 0), (.int .i64 0)] []) 119,
 o5 122 (.bin .neq (so (.binOp .neq 28 (tm 120) (tm 121) 28) 4) (tm 120) (tm 121)) 119,
 o1 123 (.pick (tm 119) (.const (.bool true)) (tm 122)),
 o1 124 (.mov (tm 123)),
 o5 125 (.mov (tm 14)) 124,
 o5 126 (.mov (tm 0)) 124,
 o5 127 (.callV (.func 13) [(tm 125), (tm 126)]) 124,
 o5 128 (.raw (so (.unOp .not 4 (tm 127)) 4)) 124,
 o1 129 (.pick (tm 124) (.const (.bool true)) (tm 128)),
 o1 130 (.mov (tm 129)),
 o5 131 (.fieldAddr 0 (tm 17)) 130,
 o5 132 (.load none (tm 131)) 130,
 o5 133 (.bin .eql (so (.binOp .eql 26 (tm 132) k0 26) 4) (tm 132) k0) 130,
 o1 134 (.pick (tm 130) (.const (.bool true)) (tm 133)),
 o1 135 (.mov (tm 134)),
 o5 136 (.load (some 2) (tm 19)) 135,
 o5 137 (.mov (tm 12)) 135,
 o5 138 (.lenSl (tm 137)) 135,
 o5 139 (.build [(.int .i64 0), (.int .i64 0)] [(0, 1, (.const (.int .i64 4))), (1, 1, (tm 138))]) 135,
 o5 140 (.bin .neq (so (.binOp .neq 28 (tm 136) (tm 139) 28) 4) (tm 136) (tm 139)) 135,
 o1 141 (.pick (tm 135) (.const (.bool true)) (tm 140))]) (.cond (tm 141)
 (.seq (.region [
 o1 6 (.mov (.const (.bool false)))]) .ret)
 .skip)) (.seq (.region [
 o1 142 (.build [(.int .u64 0), (.int .u64 0)] []),
 o1 20 (.alloc 52 [(.int .u64 0), (.int .u64 0)]),
 o3 (.store 2 (tm 20) (tm 142))]) (.seq (.seq (.region [
 o1 21 (.mov k0)]) (.block 0 (.loop zfQ_l0))) (.seq (.region [
 o1 191 (.mov (tm 0)),
 o1 192 (.callV (.func 31) [(tm 191)]),
 o1 190 (.mov (tm 192)),
 o1 193 (.extract 0 (tm 190)),
 o1 194 (.extract 1 (tm 190)),
 o1 28 (.alloc 52 [(.int .u64 0), (.int .u64 0)]),
 o3 (.store 2 (tm 28) (tm 193)),
 o1 29 (.mov (tm 194))]) (.seq (.region [
 o1 195 (.mov (tm 7)),
 o1 196 (.mov (tm 195)),
 o4 197 (.mov (tm 29)) 196,
 o4 198 (.bin .eql (so (.binOp .eql 26 (tm 197) k0 26) 4) (tm 197) k0) 196,
 o1 199 (.pick (tm 196) (tm 198) (.const (.bool false))),
 o1 200 (.mov (tm 199)),
 o4 201 (.load (some 2) (tm 28)) 200,
 o4 202 (.load (some 2) (tm 20)) 200,
 o4 203 (.bin .eql (so (.binOp .eql 52 (tm 201) (tm 202) 52) 4) (tm 201) (tm 202)) 200,
 o1 204 (.pick (tm 200) (tm 203) (.const (.bool false))),
 o1 6 (.mov (tm 204))]) .ret))))))))))))))))
def zfQ : AFunc := ⟨205, [(6, none)], zfQ_c, none⟩
theorem zfQ_t0 : tableOf Try.prog 6 = some zfQ := by kernel_rfl
theorem zfQ_t : T0 6 = some zfQ := withKept_t rfl (withTrue_t rfl zfQ_t0)
theorem zfQ_runs {v0 v1 v2 : Value} {h : Heap} {R : RP} {X : XP} (k : RunC Try.prog T0 zfQ_c ⟨[v0, v1, v2, U, U, U, U, U, U, U, U, U, U, U, U, U, U, U, U, U, U, U, U, U, U, U, U, U, U, U, U, U, U, U, U, U, U, U, U, U, U, U, U, U, U, U, U, U, U, U, U, U, U, U, U, U, U, U, U, U, U, U, U, U, U, U, U, U, U, U, U, U, U, U, U, U, U, U, U, U, U, U, U, U, U, U, U, U, U, U, U, U, U, U, U, U, U, U, U, U, U, U, U, U, U, U, U, U, U, U, U, U, U, U, U, U, U, U, U, U, U, U, U, U, U, U, U, U, U, U, U, U, U, U, U, U, U, U, U, U, U, U, U, U, U, U, U, U, U, U, U, U, U, U, U, U, U, U, U, U, U, U, U, U, U, U, U, U, U, U, U, U, U, U, U, U, U, U, U, U, U, U, U, U, U, U, U, U, U, U, U, U, U, U, U, U, U, U, U, U, U, U, U, U, U], [], h, none⟩ (bodyQ Try.prog T0 [(6, none)] R X)) :
 Runs Try.prog T0 (.fn 6) [v0, v1, v2] h R X := Runs.fn zfQ_t rfl k
def zfQ_l0_J (f0 f1 f2 f3 f4 f5 f7 f8 f9 f10 f11 f12 f13 f14 f15 f16 f17 f18 f19 f20 f28 f29 f30 f31 f32 f33 f34 f35 f36 f37 f38 f39 f40 f41 f42 f43 f44 f45 f46 f47 f48 f49 f50 f51 f52 f53 f54 f55 f56 f57 f58 f59 f60 f61 f62 f63 f64 f65 f66 f67 f68 f69 f70 f71 f72 f73 f74 f75 f76 f77 f78 f79 f80 f81 f82 f83 f84 f85 f86 f87 f88 f89 f90 f91 f92 f93 f94 f95 f96 f97 f98 f99 f100 f101 f102 f103 f104 f105 f106 f107 f108 f109 f110 f111 f112 f113 f114 f115 f116 f117 f118 f119 f120 f121 f122 f123 f124 f125 f126 f127 f128 f129 f130 f131 f132 f133 f134 f135 f136 f137 f138 f139 f140 f141 f142 f190 f191 f192 f193 f194 f195 f196 f197 f198 f199 f200 f201 f202 f203 f204 : Value) (ds : List Deferred) (rd : Option Nat) (I : Nat → Value → Heap → Prop) (m : Nat) (s : St) : Prop := ∃ (v21 : Value), ∃ h : Heap, ∃ (x6 x22 x23 x24 x25 x26 x27 x143 x144 x145 x146 x147 x148 x149 x150 x151 x152 x153 x154 x155 x156 x157 x158 x159 x160 x161 x162 x163 x164 x165 x166 x167 x168 x169 x170 x171 x172 x173 x174 x175 x176 x177 x178 x179 x180 x181 x182 x183 x184 x185 x186 x187 x188 x189 : Value), s = ⟨[f0, f1, f2, f3, f4, f5, x6, f7, f8, f9, f10, f11, f12, f13, f14, f15, f16, f17, f18, f19, f20, v21, x22, x23, x24, x25, x26, x27, f28, f29, f30, f31, f32, f33, f34, f35, f36, f37, f38, f39, f40, f41, f42, f43, f44, f45, f46, f47, f48, f49, f50, f51, f52, f53, f54, f55, f56, f57, f58, f59, f60, f61, f62, f63, f64, f65, f66, f67, f68, f69, f70, f71, f72, f73, f74, f75, f76, f77, f78, f79, f80, f81, f82, f83, f84, f85, f86, f87, f88, f89, f90, f91, f92, f93, f94, f95, f96, f97, f98, f99, f100, f101, f102, f103, f104, f105, f106, f107, f108, f109, f110, f111, f112, f113, f114, f115, f116, f117, f118, f119, f120, f121, f122, f123, f124, f125, f126, f127, f128, f129, f130, f131, f132, f133, f134, f135, f136, f137, f138, f139, f140, f141, f142, x143, x144, x145, x146, x147, x148, x149, x150, x151, x152, x153, x154, x155, x156, x157, x158, x159, x160, x161, x162, x163, x164, x165, x166, x167, x168, x169, x170, x171, x172, x173, x174, x175, x176, x177, x178, x179, x180, x181, x182, x183, x184, x185, x186, x187, x188, x189, f190, f191, f192, f193, f194, f195, f196, f197, f198, f199, f200, f201, f202, f203, f204], ds, h, rd⟩ ∧ I m v21 h
theorem zfQ_l0_rule {f0 f1 f2 f3 f4 f5 f7 f8 f9 f10 f11 f12 f13 f14 f15 f16 f17 f18 f19 f20 f28 f29 f30 f31 f32 f33 f34 f35 f36 f37 f38 f39 f40 f41 f42 f43 f44 f45 f46 f47 f48 f49 f50 f51 f52 f53 f54 f55 f56 f57 f58 f59 f60 f61 f62 f63 f64 f65 f66 f67 f68 f69 f70 f71 f72 f73 f74 f75 f76 f77 f78 f79 f80 f81 f82 f83 f84 f85 f86 f87 f88 f89 f90 f91 f92 f93 f94 f95 f96 f97 f98 f99 f100 f101 f102 f103 f104 f105 f106 f107 f108 f109 f110 f111 f112 f113 f114 f115 f116 f117 f118 f119 f120 f121 f122 f123 f124 f125 f126 f127 f128 f129 f130 f131 f132 f133 f134 f135 f136 f137 f138 f139 f140 f141 f142 f190 f191 f192 f193 f194 f195 f196 f197 f198 f199 f200 f201 f202 f203 f204 : Value} {ds : List Deferred} {rd : Option Nat} {Q : QP} (I : Nat → Value → Heap → Prop) (hb : ∀ (m : Nat) (v21 : Value) (h : Heap) (x6 x22 x23 x24 x25 x26 x27 x143 x144 x145 x146 x147 x148 x149 x150 x151 x152 x153 x154 x155 x156 x157 x158 x159 x160 x161 x162 x163 x164 x165 x166 x167 x168 x169 x170 x171 x172 x173 x174 x175 x176 x177 x178 x179 x180 x181 x182 x183 x184 x185 x186 x187 x188 x189 : Value) , I m v21 h → RunC Try.prog T0 zfQ_l0 ⟨[f0, f1, f2, f3, f4, f5, x6, f7, f8, f9, f10, f11, f12, f13, f14, f15, f16, f17, f18, f19, f20, v21, x22, x23, x24, x25, x26, x27, f28, f29, f30, f31, f32, f33, f34, f35, f36, f37, f38, f39, f40, f41, f42, f43, f44, f45, f46, f47, f48, f49, f50, f51, f52, f53, f54, f55, f56, f57, f58, f59, f60, f61, f62, f63, f64, f65, f66, f67, f68, f69, f70, f71, f72, f73, f74, f75, f76, f77, f78, f79, f80, f81, f82, f83, f84, f85, f86, f87, f88, f89, f90, f91, f92, f93, f94, f95, f96, f97, f98, f99, f100, f101, f102, f103, f104, f105, f106, f107, f108, f109, f110, f111, f112, f113, f114, f115, f116, f117, f118, f119, f120, f121, f122, f123, f124, f125, f126, f127, f128, f129, f130, f131, f132, f133, f134, f135, f136, f137, f138, f139, f140, f141, f142, x143, x144, x145, x146, x147, x148, x149, x150, x151, x152, x153, x154, x155, x156, x157, x158, x159, x160, x161, x162, x163, x164, x165, x166, x167, x168, x169, x170, x171, x172, x173, x174, x175, x176, x177, x178, x179, x180, x181, x182, x183, x184, x185, x186, x187, x188, x189, f190, f191, f192, f193, f194, f195, f196, f197, f198, f199, f200, f201, f202, f203, f204], ds, h, rd⟩ (loopQ (zfQ_l0_J f0 f1 f2 f3 f4 f5 f7 f8 f9 f10 f11 f12 f13 f14 f15 f16 f17 f18 f19 f20 f28 f29 f30 f31 f32 f33 f34 f35 f36 f37 f38 f39 f40 f41 f42 f43 f44 f45 f46 f47 f48 f49 f50 f51 f52 f53 f54 f55 f56 f57 f58 f59 f60 f61 f62 f63 f64 f65 f66 f67 f68 f69 f70 f71 f72 f73 f74 f75 f76 f77 f78 f79 f80 f81 f82 f83 f84 f85 f86 f87 f88 f89 f90 f91 f92 f93 f94 f95 f96 f97 f98 f99 f100 f101 f102 f103 f104 f105 f106 f107 f108 f109 f110 f111 f112 f113 f114 f115 f116 f117 f118 f119 f120 f121 f122 f123 f124 f125 f126 f127 f128 f129 f130 f131 f132 f133 f134 f135 f136 f137 f138 f139 f140 f141 f142 f190 f191 f192 f193 f194 f195 f196 f197 f198 f199 f200 f201 f202 f203 f204 ds rd I) m Q))
 (m : Nat) {v21 : Value} {h : Heap} {x6 x22 x23 x24 x25 x26 x27 x143 x144 x145 x146 x147 x148 x149 x150 x151 x152 x153 x154 x155 x156 x157 x158 x159 x160 x161 x162 x163 x164 x165 x166 x167 x168 x169 x170 x171 x172 x173 x174 x175 x176 x177 x178 x179 x180 x181 x182 x183 x184 x185 x186 x187 x188 x189 : Value} (hi : I m v21 h) : RunC Try.prog T0 (.loop zfQ_l0) ⟨[f0, f1, f2, f3, f4, f5, x6, f7, f8, f9, f10, f11, f12, f13, f14, f15, f16, f17, f18, f19, f20, v21, x22, x23, x24, x25, x26, x27, f28, f29, f30, f31, f32, f33, f34, f35, f36, f37, f38, f39, f40, f41, f42, f43, f44, f45, f46, f47, f48, f49, f50, f51, f52, f53, f54, f55, f56, f57, f58, f59, f60, f61, f62, f63, f64, f65, f66, f67, f68, f69, f70, f71, f72, f73, f74, f75, f76, f77, f78, f79, f80, f81, f82, f83, f84, f85, f86, f87, f88, f89, f90, f91, f92, f93, f94, f95, f96, f97, f98, f99, f100, f101, f102, f103, f104, f105, f106, f107, f108, f109, f110, f111, f112, f113, f114, f115, f116, f117, f118, f119, f120, f121, f122, f123, f124, f125, f126, f127, f128, f129, f130, f131, f132, f133, f134, f135, f136, f137, f138, f139, f140, f141, f142, x143, x144, x145, x146, x147, x148, x149, x150, x151, x152, x153, x154, x155, x156, x157, x158, x159, x160, x161, x162, x163, x164, x165, x166, x167, x168, x169, x170, x171, x172, x173, x174, x175, x176, x177, x178, x179, x180, x181, x182, x183, x184, x185, x186, x187, x188, x189, f190, f191, f192, f193, f194, f195, f196, f197, f198, f199, f200, f201, f202, f203, f204], ds, h, rd⟩ Q :=
 RunC.loopJ (zfQ_l0_J f0 f1 f2 f3 f4 f5 f7 f8 f9 f10 f11 f12 f13 f14 f15 f16 f17 f18 f19 f20 f28 f29 f30 f31 f32 f33 f34 f35 f36 f37 f38 f39 f40 f41 f42 f43 f44 f45 f46 f47 f48 f49 f50 f51 f52 f53 f54 f55 f56 f57 f58 f59 f60 f61 f62 f63 f64 f65 f66 f67 f68 f69 f70 f71 f72 f73 f74 f75 f76 f77 f78 f79 f80 f81 f82 f83 f84 f85 f86 f87 f88 f89 f90 f91 f92 f93 f94 f95 f96 f97 f98 f99 f100 f101 f102 f103 f104 f105 f106 f107 f108 f109 f110 f111 f112 f113 f114 f115 f116 f117 f118 f119 f120 f121 f122 f123 f124 f125 f126 f127 f128 f129 f130 f131 f132 f133 f134 f135 f136 f137 f138 f139 f140 f141 f142 f190 f191 f192 f193 f194 f195 f196 f197 f198 f199 f200 f201 f202 f203 f204 ds rd I) (fun m s hj => by obtain ⟨v21, h, x6, x22, x23, x24, x25, x26, x27, x143, x144, x145, x146, x147, x148, x149, x150, x151, x152, x153, x154, x155, x156, x157, x158, x159, x160, x161, x162, x163, x164, x165, x166, x167, x168, x169, x170, x171, x172, x173, x174, x175, x176, x177, x178, x179, x180, x181, x182, x183, x184, x185, x186, x187, x188, x189, rfl, hi⟩ := hj; exact hb m v21 h x6 x22 x23 x24 x25 x26 x27 x143 x144 x145 x146 x147 x148 x149 x150 x151 x152 x153 x154 x155 x156 x157 x158 x159 x160 x161 x162 x163 x164 x165 x166 x167 x168 x169 x170 x171 x172 x173 x174 x175 x176 x177 x178 x179 x180 x181 x182 x183 x184 x185 x186 x187 x188 x189 hi) m _ ⟨_, h, _, _, _, _, _, _, _, _, _, _, _, _, _, _, _, _, _, _, _, _, _, _, _, _, _, _, _, _, _, _, _, _, _, _, _, _, _, _, _, _, _, _, _, _, _, _, _, _, _, _, _, _, _, _, rfl, hi⟩
theorem zfQ_l0_again {f0 f1 f2 f3 f4 f5 f7 f8 f9 f10 f11 f12 f13 f14 f15 f16 f17 f18 f19 f20 f28 f29 f30 f31 f32 f33 f34 f35 f36 f37 f38 f39 f40 f41 f42 f43 f44 f45 f46 f47 f48 f49 f50 f51 f52 f53 f54 f55 f56 f57 f58 f59 f60 f61 f62 f63 f64 f65 f66 f67 f68 f69 f70 f71 f72 f73 f74 f75 f76 f77 f78 f79 f80 f81 f82 f83 f84 f85 f86 f87 f88 f89 f90 f91 f92 f93 f94 f95 f96 f97 f98 f99 f100 f101 f102 f103 f104 f105 f106 f107 f108 f109 f110 f111 f112 f113 f114 f115 f116 f117 f118 f119 f120 f121 f122 f123 f124 f125 f126 f127 f128 f129 f130 f131 f132 f133 f134 f135 f136 f137 f138 f139 f140 f141 f142 f190 f191 f192 f193 f194 f195 f196 f197 f198 f199 f200 f201 f202 f203 f204 : Value} {ds : List Deferred} {rd : Option Nat} {Q : QP} {I : Nat → Value → Heap → Prop} {m : Nat} (m' : Nat) {v21 : Value} {h : Heap} {x6 x22 x23 x24 x25 x26 x27 x143 x144 x145 x146 x147 x148 x149 x150 x151 x152 x153 x154 x155 x156 x157 x158 x159 x160 x161 x162 x163 x164 x165 x166 x167 x168 x169 x170 x171 x172 x173 x174 x175 x176 x177 x178 x179 x180 x181 x182 x183 x184 x185 x186 x187 x188 x189 : Value} (hm : m' < m) (hi : I m' v21 h) : loopQ (zfQ_l0_J f0 f1 f2 f3 f4 f5 f7 f8 f9 f10 f11 f12 f13 f14 f15 f16 f17 f18 f19 f20 f28 f29 f30 f31 f32 f33 f34 f35 f36 f37 f38 f39 f40 f41 f42 f43 f44 f45 f46 f47 f48 f49 f50 f51 f52 f53 f54 f55 f56 f57 f58 f59 f60 f61 f62 f63 f64 f65 f66 f67 f68 f69 f70 f71 f72 f73 f74 f75 f76 f77 f78 f79 f80 f81 f82 f83 f84 f85 f86 f87 f88 f89 f90 f91 f92 f93 f94 f95 f96 f97 f98 f99 f100 f101 f102 f103 f104 f105 f106 f107 f108 f109 f110 f111 f112 f113 f114 f115 f116 f117 f118 f119 f120 f121 f122 f123 f124 f125 f126 f127 f128 f129 f130 f131 f132 f133 f134 f135 f136 f137 f138 f139 f140 f141 f142 f190 f191 f192 f193 f194 f195 f196 f197 f198 f199 f200 f201 f202 f203 f204 ds rd I) m Q .normal ⟨[f0, f1, f2, f3, f4, f5, x6, f7, f8, f9, f10, f11, f12, f13, f14, f15, f16, f17, f18, f19, f20, v21, x22, x23, x24, x25, x26, x27, f28, f29, f30, f31, f32, f33, f34, f35, f36, f37, f38, f39, f40, f41, f42, f43, f44, f45, f46, f47, f48, f49, f50, f51, f52, f53, f54, f55, f56, f57, f58, f59, f60, f61, f62, f63, f64, f65, f66, f67, f68, f69, f70, f71, f72, f73, f74, f75, f76, f77, f78, f79, f80, f81, f82, f83, f84, f85, f86, f87, f88, f89, f90, f91, f92, f93, f94, f95, f96, f97, f98, f99, f100, f101, f102, f103, f104, f105, f106, f107, f108, f109, f110, f111, f112, f113, f114, f115, f116, f117, f118, f119, f120, f121, f122, f123, f124, f125, f126, f127, f128, f129, f130, f131, f132, f133, f134, f135, f136, f137, f138, f139, f140, f141, f142, x143, x144, x145, x146, x147, x148, x149, x150, x151, x152, x153, x154, x155, x156, x157, x158, x159, x160, x161, x162, x163, x164, x165, x166, x167, x168, x169, x170, x171, x172, x173, x174, x175, x176, x177, x178, x179, x180, x181, x182, x183, x184, x185, x186, x187, x188, x189, f190, f191, f192, f193, f194, f195, f196, f197, f198, f199, f200, f201, f202, f203, f204], ds, h, rd⟩ :=
 loopQ.again m' hm ⟨_, h, _, _, _, _, _, _, _, _, _, _, _, _, _, _, _, _, _, _, _, _, _, _, _, _, _, _, _, _, _, _, _, _, _, _, _, _, _, _, _, _, _, _, _, _, _, _, _, _, _, _, _, _, _, _, rfl, hi⟩
abbrev fn_zoQ : FuncId := 11
def zoQ_l0 : ACode :=
 (.seq (.region [
 o1 16 (.bin .lss (so (.binOp .lss 3 (tm 15) (tm 14) 3) 4) (tm 15) (tm 14))]) (.seq (.cond (tm 16)
 .skip
 (.exit 0)) (.seq (.block 1 (.seq (.region [
 o1 17 (.mov (tm 4)),
 o1 18 (.callV (.func 42) [(tm 17)]),
 o1 19 (.build [(.int .u8 0), (.int .u8 0), (.int .u8 0), (.int .u8 0), (.int .i64 0)] [(0, 4, (tm 18))]),
 o1 6 (.alloc 54 [(.int .u8 0), (.int .u8 0), (.int .u8 0), (.int .u8 0), (.int .i64 0)]),
 o3 (.store 5 (tm 6) (tm 19))]) (.seq (.region [
 o1 20 (.mov (tm 4)),
 o1 21 (.callV (.func 41) [(tm 20)]),
 o1 22 (.fieldAddr 4 (tm 6)),
 o3 (.store 1 (tm 22) (tm 21))]) (.region [
 o1 23 (.mov (tm 2)),
 o1 24 (.load (some 5) (tm 6)),
 o1 25 (.buildSlice 54 [(.int .u8 0), (.int .u8 0), (.int .u8 0), (.int .u8 0), (.int .i64 0)] 1 [(0, 5, (tm 24))]),
 o1 26 (.append 54 5 16 [(.int .u8 0), (.int .u8 0), (.int .u8 0), (.int .u8 0), (.int .i64 0)] false (tm 23) (tm 25)),
 o1 2 (.mov (tm 26))])))) (.region [
 o1 27 (.bin .add (so (.binOp .add 3 (tm 15) (.const (.int .i64 1)) 3) 3) (tm 15) (.const (.int .i64 1))),
 o1 15 (.mov (tm 27))]))))
def zoQ_c : ACode :=
 (.seq (.region [
 o1 2 (.mov (.const (.slice none 0 0))),
 o1 3 (.alloc 28 [(.int .i64 0), (.int .i64 0)])]) (.seq (.region [
 o1 7 (.mov (tm 0)),
 o1 8 (.callV (.func 40) [(tm 7)]),
 o1 4 (.mov (tm 8))]) (.seq (.region [
 o1 9 (.mov (tm 4)),
 o1 10 (.callV (.func 41) [(tm 9)]),
 o1 5 (.mov (tm 10))]) (.seq (.seq (.region [
 o1 11 (.mov (tm 5)),
 o1 12 (.bin .gtr (so (.binOp .gtr 3 (tm 11) (.const (.int .i64 64)) 3) 4) (tm 11) (.const (.int .i64 64)))]) (.cond (tm 12)
 (.seq (.region [
 o1 13 (.build [(.int .i64 0), (.int .i64 0)] [(0, 1, (.const (.int .i64 4)))]),
 o1 2 (.mov (.const (.slice none 0 0))),
 o3 (.store 2 (tm 3) (tm 13))]) .ret)
 .skip)) (.seq (.seq (.region [
 o1 14 (.mov (tm 5)),
 o1 15 (.mov k0)]) (.block 0 (.loop zoQ_l0))) (.seq (.seq (.region [
 o1 28 (.mov (tm 4)),
 o1 29 (.callV (.func 43) [(tm 28)]),
 o3 (.store 2 (tm 3) (tm 29))]) (.seq (.region [
 o1 30 (.load (some 2) (tm 3)),
 o1 31 (.build [(.int .i64 0), (.int .i64 0)] []),
 o1 32 (.bin .eql (so (.binOp .eql 28 (tm 30) (tm 31) 28) 4) (tm 30) (tm 31))]) (.cond (tm 32)
 (.region [
 o1 33 (.mov (tm 2)),
 o1 34 (.callV (.func 22) [(tm 33)]),
 o1 35 (.fieldAddr 0 (tm 3)),
 o3 (.store 1 (tm 35) (tm 34))])
 .skip))) (.seq (.seq (.region [
 o1 36 (.load (some 2) (tm 3)),
 o1 37 (.build [(.int .i64 0), (.int .i64 0)] []),
 o1 38 (.bin .neq (so (.binOp .neq 28 (tm 36) (tm 37) 28) 4) (tm 36) (tm 37))]) (.cond (tm 38)
 (.seq (.regionD [
 o1 39 (.load (some 2) (tm 3)),
 o1 2 (.mov (.const (.slice none 0 0))),
 ⟨none, .store 2 (tm 3) (tm 39), none, [], true⟩]) .ret)
 .skip)) (.seq (.regionD [
 o1 40 (.mov (tm 2)),
 o1 41 (.load (some 2) (tm 3)),
 ⟨some 2, .mov (tm 40), none, [(some 41, .load (some 2) (tm 3), none)], false⟩,
 ⟨none, .store 2 (tm 3) (tm 41), none, [], true⟩]) .ret))))))))
def zoQ : AFunc := ⟨42, [(2, none), (3, some (some 2))], zoQ_c, none⟩
theorem zoQ_t0 : tableOf Try.prog 11 = some zoQ := by kernel_rfl
theorem zoQ_t : T0 11 = some zoQ := withKept_t rfl (withTrue_t rfl zoQ_t0)
theorem zoQ_runs {v0 : Value} {h : Heap} {R : RP} {X : XP} (k : RunC Try.prog T0 zoQ_c ⟨[v0, U, U, U, U, U, U, U, U, U, U, U, U, U, U, U, U, U, U, U, U, U, U, U, U, U, U, U, U, U, U, U, U, U, U, U, U, U, U, U, U, U], [], h, none⟩ (bodyQ Try.prog T0 [(2, none), (3, some (some 2))] R X)) :
 Runs Try.prog T0 (.fn 11) [v0] h R X := Runs.fn zoQ_t rfl k
def zoQ_l0_J (f0 f1 f3 f4 f5 f7 f8 f9 f10 f11 f12 f13 f14 f28 f29 f30 f31 f32 f33 f34 f35 f36 f37 f38 f39 f40 f41 : Value) (ds : List Deferred) (rd : Option Nat) (I : Nat → Value → Value → Heap → Prop) (m : Nat) (s : St) : Prop := ∃ (v2 v15 : Value), ∃ h : Heap, ∃ (x6 x16 x17 x18 x19 x20 x21 x22 x23 x24 x25 x26 x27 : Value), s = ⟨[f0, f1, v2, f3, f4, f5, x6, f7, f8, f9, f10, f11, f12, f13, f14, v15, x16, x17, x18, x19, x20, x21, x22, x23, x24, x25, x26, x27, f28, f29, f30, f31, f32, f33, f34, f35, f36, f37, f38, f39, f40, f41], ds, h, rd⟩ ∧ I m v2 v15 h
theorem zoQ_l0_rule {f0 f1 f3 f4 f5 f7 f8 f9 f10 f11 f12 f13 f14 f28 f29 f30 f31 f32 f33 f34 f35 f36 f37 f38 f39 f40 f41 : Value} {ds : List Deferred} {rd : Option Nat} {Q : QP} (I : Nat → Value → Value → Heap → Prop) (hb : ∀ (m : Nat) (v2 v15 : Value) (h : Heap) (x6 x16 x17 x18 x19 x20 x21 x22 x23 x24 x25 x26 x27 : Value) , I m v2 v15 h → RunC Try.prog T0 zoQ_l0 ⟨[f0, f1, v2, f3, f4, f5, x6, f7, f8, f9, f10, f11, f12, f13, f14, v15, x16, x17, x18, x19, x20, x21, x22, x23, x24, x25, x26, x27, f28, f29, f30, f31, f32, f33, f34, f35, f36, f37, f38, f39, f40, f41], ds, h, rd⟩ (loopQ (zoQ_l0_J f0 f1 f3 f4 f5 f7 f8 f9 f10 f11 f12 f13 f14 f28 f29 f30 f31 f32 f33 f34 f35 f36 f37 f38 f39 f40 f41 ds rd I) m Q))
 (m : Nat) {v2 v15 : Value} {h : Heap} {x6 x16 x17 x18 x19 x20 x21 x22 x23 x24 x25 x26 x27 : Value} (hi : I m v2 v15 h) : RunC Try.prog T0 (.loop zoQ_l0) ⟨[f0, f1, v2, f3, f4, f5, x6, f7, f8, f9, f10, f11, f12, f13, f14, v15, x16, x17, x18, x19, x20, x21, x22, x23, x24, x25, x26, x27, f28, f29, f30, f31, f32, f33, f34, f35, f36, f37, f38, f39, f40, f41], ds, h, rd⟩ Q :=
 RunC.loopJ (zoQ_l0_J f0 f1 f3 f4 f5 f7 f8 f9 f10 f11 f12 f13 f14 f28 f29 f30 f31 f32 f33 f34 f35 f36 f37 f38 f39 f40 f41 ds rd I) (fun m s hj => by obtain ⟨v2, v15, h, x6, x16, x17, x18, x19, x20, x21, x22, x23, x24, x25, x26, x27, rfl, hi⟩ := hj; exact hb m v2 v15 h x6 x16 x17 x18 x19 x20 x21 x22 x23 x24 x25 x26 x27 hi) m _ ⟨_, _, h, _, _, _, _, _, _, _, _, _, _, _, _, _, rfl, hi⟩
theorem zoQ_l0_again {f0 f1 f3 f4 f5 f7 f8 f9 f10 f11 f12 f13 f14 f28 f29 f30 f31 f32 f33 f34 f35 f36 f37 f38 f39 f40 f41 : Value} {ds : List Deferred} {rd : Option Nat} {Q : QP} {I : Nat → Value → Value → Heap → Prop} {m : Nat} (m' : Nat) {v2 v15 : Value} {h : Heap} {x6 x16 x17 x18 x19 x20 x21 x22 x23 x24 x25 x26 x27 : Value} (hm : m' < m) (hi : I m' v2 v15 h) : loopQ (zoQ_l0_J f0 f1 f3 f4 f5 f7 f8 f9 f10 f11 f12 f13 f14 f28 f29 f30 f31 f32 f33 f34 f35 f36 f37 f38 f39 f40 f41 ds rd I) m Q .normal ⟨[f0, f1, v2, f3, f4, f5, x6, f7, f8, f9, f10, f11, f12, f13, f14, v15, x16, x17, x18, x19, x20, x21, x22, x23, x24, x25, x26, x27, f28, f29, f30, f31, f32, f33, f34, f35, f36, f37, f38, f39, f40, f41], ds, h, rd⟩ :=
 loopQ.again m' hm ⟨_, _, h, _, _, _, _, _, _, _, _, _, _, _, _, _, rfl, hi⟩
abbrev fn_zeQ : FuncId := 13
def zeQ_l0 : ACode :=
 (.seq (.seq (.region [
 o1 12 (.mov (tm 5)),
 o1 13 (.mov (tm 12)),
 o4 14 (.mov (tm 6)) 13,
 o4 15 (.mov (tm 0)) 13,
 o4 16 (.lenSl (tm 15)) 13,
 o4 17 (.bin .lss (so (.binOp .lss 3 (tm 14) (tm 16) 3) 4) (tm 14) (tm 16)) 13,
 o1 18 (.pick (tm 13) (tm 17) (.const (.bool false)))]) (.cond (tm 18)
 .skip
 (.exit 0))) (.seq (.block 1 (.regionD [
 o1 21 (.mov (tm 0)),
 o1 22 (.mov (tm 6)),
 o1 23 (.indexSl 5 (tm 21) (tm 22)),
 o1 24 (.load (some 5) (tm 23)),
 o1 25 (.mov (tm 1)),
 o1 26 (.mov (tm 6)),
 o1 27 (.indexSl 5 (tm 25) (tm 26)),
 o1 28 (.load (some 5) (tm 27)),
 o2 29 (.bin .eql (so (.binOp .eql 54 (tm 24) (tm 28) 54) 4) (tm 24) (tm 28)),
 o2 5 (.mov (tm 29))])) (.region [
 o1 19 (.mov (tm 6)),
 o1 20 (.bin .add (so (.binOp .add 3 (tm 19) (.const (.int .i64 1)) 3) 3) (tm 19) (.const (.int .i64 1))),
 o1 6 (.mov (tm 20))])))
def zeQ_c : ACode :=
 (.seq (.region [
 o1 4 (.mov (.const (.bool false)))]) (.seq (.region [
 o1 7 (.mov (tm 0)),
 o1 8 (.lenSl (tm 7)),
 o1 9 (.mov (tm 1)),
 o1 10 (.lenSl (tm 9)),
 o1 11 (.bin .eql (so (.binOp .eql 3 (tm 8) (tm 10) 3) 4) (tm 8) (tm 10)),
 o1 5 (.mov (tm 11))]) (.seq (.seq (.region [
 o1 6 (.mov k0)]) (.block 0 (.loop zeQ_l0))) (.seq (.region [
 o1 30 (.mov (tm 5)),
 o1 4 (.mov (tm 30))]) .ret))))
def zeQ : AFunc := ⟨31, [(4, none)], zeQ_c, none⟩
theorem zeQ_t0 : tableOf Try.prog 13 = some zeQ := by kernel_rfl
theorem zeQ_t : T0 13 = some zeQ := withKept_t rfl (withTrue_t rfl zeQ_t0)
theorem zeQ_runs {v0 v1 : Value} {h : Heap} {R : RP} {X : XP} (k : RunC Try.prog T0 zeQ_c ⟨[v0, v1, U, U, U, U, U, U, U, U, U, U, U, U, U, U, U, U, U, U, U, U, U, U, U, U, U, U, U, U, U], [], h, none⟩ (bodyQ Try.prog T0 [(4, none)] R X)) :
 Runs Try.prog T0 (.fn 13) [v0, v1] h R X := Runs.fn zeQ_t rfl k
def zeQ_l0_J (f0 f1 f2 f3 f4 f7 f8 f9 f10 f11 f30 : Value) (ds : List Deferred) (rd : Option Nat) (I : Nat → Value → Value → Heap → Prop) (m : Nat) (s : St) : Prop := ∃ (v5 v6 : Value), ∃ h : Heap, ∃ (x12 x13 x14 x15 x16 x17 x18 x19 x20 x21 x22 x23 x24 x25 x26 x27 x28 x29 : Value), s = ⟨[f0, f1, f2, f3, f4, v5, v6, f7, f8, f9, f10, f11, x12, x13, x14, x15, x16, x17, x18, x19, x20, x21, x22, x23, x24, x25, x26, x27, x28, x29, f30], ds, h, rd⟩ ∧ I m v5 v6 h
theorem zeQ_l0_rule {f0 f1 f2 f3 f4 f7 f8 f9 f10 f11 f30 : Value} {ds : List Deferred} {rd : Option Nat} {Q : QP} (I : Nat → Value → Value → Heap → Prop) (hb : ∀ (m : Nat) (v5 v6 : Value) (h : Heap) (x12 x13 x14 x15 x16 x17 x18 x19 x20 x21 x22 x23 x24 x25 x26 x27 x28 x29 : Value) , I m v5 v6 h → RunC Try.prog T0 zeQ_l0 ⟨[f0, f1, f2, f3, f4, v5, v6, f7, f8, f9, f10, f11, x12, x13, x14, x15, x16, x17, x18, x19, x20, x21, x22, x23, x24, x25, x26, x27, x28, x29, f30], ds, h, rd⟩ (loopQ (zeQ_l0_J f0 f1 f2 f3 f4 f7 f8 f9 f10 f11 f30 ds rd I) m Q))
 (m : Nat) {v5 v6 : Value} {h : Heap} {x12 x13 x14 x15 x16 x17 x18 x19 x20 x21 x22 x23 x24 x25 x26 x27 x28 x29 : Value} (hi : I m v5 v6 h) : RunC Try.prog T0 (.loop zeQ_l0) ⟨[f0, f1, f2, f3, f4, v5, v6, f7, f8, f9, f10, f11, x12, x13, x14, x15, x16, x17, x18, x19, x20, x21, x22, x23, x24, x25, x26, x27, x28, x29, f30], ds, h, rd⟩ Q :=
 RunC.loopJ (zeQ_l0_J f0 f1 f2 f3 f4 f7 f8 f9 f10 f11 f30 ds rd I) (fun m s hj => by obtain ⟨v5, v6, h, x12, x13, x14, x15, x16, x17, x18, x19, x20, x21, x22, x23, x24, x25, x26, x27, x28, x29, rfl, hi⟩ := hj; exact hb m v5 v6 h x12 x13 x14 x15 x16 x17 x18 x19 x20 x21 x22 x23 x24 x25 x26 x27 x28 x29 hi) m _ ⟨_, _, h, _, _, _, _, _, _, _, _, _, _, _, _, _, _, _, _, _, _, rfl, hi⟩
theorem zeQ_l0_again {f0 f1 f2 f3 f4 f7 f8 f9 f10 f11 f30 : Value} {ds : List Deferred} {rd : Option Nat} {Q : QP} {I : Nat → Value → Value → Heap → Prop} {m : Nat} (m' : Nat) {v5 v6 : Value} {h : Heap} {x12 x13 x14 x15 x16 x17 x18 x19 x20 x21 x22 x23 x24 x25 x26 x27 x28 x29 : Value} (hm : m' < m) (hi : I m' v5 v6 h) : loopQ (zeQ_l0_J f0 f1 f2 f3 f4 f7 f8 f9 f10 f11 f30 ds rd I) m Q .normal ⟨[f0, f1, f2, f3, f4, v5, v6, f7, f8, f9, f10, f11, x12, x13, x14, x15, x16, x17, x18, x19, x20, x21, x22, x23, x24, x25, x26, x27, x28, x29, f30], ds, h, rd⟩ :=
 loopQ.again m' hm ⟨_, _, h, _, _, _, _, _, _, _, _, _, _, _, _, _, _, _, _, _, _, rfl, hi⟩
abbrev fn_zqQ : FuncId := 19
def zqQ_c : ACode :=
 (.seq (.region [
 o1 3 (.box 42 (tm 1)),
 o1 4 (.mov k0),
 o1 5 (.mov (.const (.bool false)))]) (.seq (.seq (.region [
 o1 9 (.mov (tm 0)),
 o1 10 (.callV (.func 22) [(tm 9)]),
 o1 11 (.bin .eql (so (.binOp .eql 26 (tm 10) k0 26) 4) (tm 10) k0)]) (.cond (tm 11)
 (.seq (.region [
 o1 13 (.mov (tm 0)),
 o1 14 (.load (some 4) (tm 3)),
 o1 15 (.callV (.func 52) [(tm 13), (tm 14), (.func 53)]),
 o1 12 (.mov (tm 15)),
 o1 16 (.extract 0 (tm 12)),
 o1 17 (.extract 1 (tm 12)),
 o1 6 (.mov (tm 16)),
 o1 7 (.mov (tm 17))]) (.seq (.seq (.region [
 o1 18 (.mov (tm 7)),
 o1 19 (.raw (so (.unOp .not 4 (tm 18)) 4))]) (.cond (tm 19)
 (.region [
 o1 6 (.mov k0)])
 .skip)) (.seq (.region [
 o1 20 (.mov (tm 6)),
 o1 21 (.mov (tm 7)),
 o1 4 (.mov (tm 20)),
 o1 5 (.mov (tm 21))]) .ret)))
 .skip)) (.seq (.region [
 o1 22 (.mov (tm 0)),
 o1 23 (.mkFunc (.func 55) [] [(tm 3)]),
 o1 24 (.callV (.func 54) [(tm 22), (tm 23)]),
 o1 8 (.mov (tm 24))]) (.seq (.region [
 o1 25 (.mov (tm 8)),
 o1 26 (.raw (so (.call ⟨.builtin .max, #[(tm 25), k0], #[3, 3]⟩) 3)),
 o1 27 (.mov (tm 8)),
 o1 28 (.bin .geq (so (.binOp .geq 3 (tm 27) k0 3) 4) (tm 27) k0),
 o1 4 (.mov (tm 26)),
 o1 5 (.mov (tm 28))]) .ret))))
def zqQ : AFunc := ⟨29, [(4, none), (5, none)], zqQ_c, none⟩
theorem zqQ_t0 : tableOf Try.prog 19 = some zqQ := by kernel_rfl
theorem zqQ_t : T0 19 = some zqQ := withKept_t rfl (withTrue_t rfl zqQ_t0)
theorem zqQ_runs {v0 v1 : Value} {h : Heap} {R : RP} {X : XP} (k : RunC Try.prog T0 zqQ_c ⟨[v0, v1, U, U, U, U, U, U, U, U, U, U, U, U, U, U, U, U, U, U, U, U, U, U, U, U, U, U, U], [], h, none⟩ (bodyQ Try.prog T0 [(4, none), (5, none)] R X)) :
 Runs Try.prog T0 (.fn 19) [v0, v1] h R X := Runs.fn zqQ_t rfl k
abbrev fn_znQ : FuncId := 22
def znQ_l0 : ACode :=
 (.seq (.region [
 o1 19 (.bin .lss (so (.binOp .lss 3 (tm 18) (tm 17) 3) 0) (tm 18) (tm 17))]) (.seq (.cond (tm 19)
 .skip
 (.exit 1)) (.seq (.block 2 (.seq (.region [
 o1 20 (.indexSl 5 (tm 16) (tm 18)),
 o1 21 (.load (some 5) (tm 20)),
 o1 5 (.alloc 54 [(.int .u8 0), (.int .u8 0), (.int .u8 0), (.int .u8 0), (.int .i64 0)]),
 o3 (.store 5 (tm 5) (tm 21))]) (.seq (.region [
 o1 22 (.load (some 5) (tm 5)),
 o1 23 (.callV (.func 48) [(tm 3), (tm 22)]),
 o1 6 (.mov (tm 23))]) (.seq (.region [
 o1 24 (.mov (tm 6)),
 o1 25 (.bin .neq (so (.binOp .neq 26 (tm 24) k0 26) 4) (tm 24) k0)]) (.cond (tm 25)
 (.seq (.region [
 o1 26 (.mov (tm 6)),
 o1 2 (.mov (tm 26))]) .ret)
 .skip))))) (.region [
 o1 27 (.bin .add (so (.binOp .add 3 (tm 18) (.const (.int .i64 1)) 3) 3) (tm 18) (.const (.int .i64 1))),
 o1 18 (.mov (tm 27))]))))
def znQ_c : ACode :=
 (.seq (.region [
 o1 2 (.mov k0)]) (.seq (.block 0 (.seq (.region [
 o1 8 (.mov (tm 0)),
 o1 9 (.lenSl (tm 8)),
 o1 10 (.bin .eql (so (.binOp .eql 3 (tm 9) k0 3) 4) (tm 9) k0),
 o1 7 (.mov (tm 10))]) (.cond (tm 7)
 (.seq (.region [
 o1 2 (.mov (.const (.int .i64 6)))]) .ret)
 (.seq (.region [
 o1 12 (.mov (tm 0)),
 o1 13 (.lenSl (tm 12)),
 o1 14 (.bin .gtr (so (.binOp .gtr 3 (tm 13) (.const (.int .i64 64)) 3) 4) (tm 13) (.const (.int .i64 64))),
 o1 11 (.mov (tm 14))]) (.cond (tm 11)
 (.seq (.region [
 o1 2 (.mov (.const (.int .i64 4)))]) .ret)
 .skip))))) (.seq (.region [
 o1 15 (.build [(.int .u8 0), (.int .u8 0), (.int .u8 0), (.int .u8 0), (.bool false), (.int .i64 0), (.int .i64 0)] [(5, 1, (.const (.int .i64 1))), (6, 1, (.const (.int .i64 4611686018427387904)))]),
 o1 3 (.alloc 76 [(.int .u8 0), (.int .u8 0), (.int .u8 0), (.int .u8 0), (.bool false), (.int .i64 0), (.int .i64 0)]),
 o3 (.store 7 (tm 3) (tm 15))]) (.seq (.seq (.region [
 o1 16 (.mov (tm 0)),
 o1 17 (.lenSl (tm 16)),
 o1 18 (.mov k0)]) (.block 1 (.loop znQ_l0))) (.seq (.region [
 o1 2 (.mov k0)]) .ret)))))
def znQ : AFunc := ⟨28, [(2, none)], znQ_c, none⟩
theorem znQ_t0 : tableOf Try.prog 22 = some znQ := by kernel_rfl
theorem znQ_t : T0 22 = some znQ := withKept_t rfl (withTrue_t rfl znQ_t0)
theorem znQ_runs {v0 : Value} {h : Heap} {R : RP} {X : XP} (k : RunC Try.prog T0 znQ_c ⟨[v0, U, U, U, U, U, U, U, U, U, U, U, U, U, U, U, U, U, U, U, U, U, U, U, U, U, U, U], [], h, none⟩ (bodyQ Try.prog T0 [(2, none)] R X)) :
 Runs Try.prog T0 (.fn 22) [v0] h R X := Runs.fn znQ_t rfl k
def znQ_l0_J (f0 f1 f3 f4 f7 f8 f9 f10 f11 f12 f13 f14 f15 f16 f17 : Value) (ds : List Deferred) (rd : Option Nat) (I : Nat → Value → Heap → Prop) (m : Nat) (s : St) : Prop := ∃ (v18 : Value), ∃ h : Heap, ∃ (x2 x5 x6 x19 x20 x21 x22 x23 x24 x25 x26 x27 : Value), s = ⟨[f0, f1, x2, f3, f4, x5, x6, f7, f8, f9, f10, f11, f12, f13, f14, f15, f16, f17, v18, x19, x20, x21, x22, x23, x24, x25, x26, x27], ds, h, rd⟩ ∧ I m v18 h
theorem znQ_l0_rule {f0 f1 f3 f4 f7 f8 f9 f10 f11 f12 f13 f14 f15 f16 f17 : Value} {ds : List Deferred} {rd : Option Nat} {Q : QP} (I : Nat → Value → Heap → Prop) (hb : ∀ (m : Nat) (v18 : Value) (h : Heap) (x2 x5 x6 x19 x20 x21 x22 x23 x24 x25 x26 x27 : Value) , I m v18 h → RunC Try.prog T0 znQ_l0 ⟨[f0, f1, x2, f3, f4, x5, x6, f7, f8, f9, f10, f11, f12, f13, f14, f15, f16, f17, v18, x19, x20, x21, x22, x23, x24, x25, x26, x27], ds, h, rd⟩ (loopQ (znQ_l0_J f0 f1 f3 f4 f7 f8 f9 f10 f11 f12 f13 f14 f15 f16 f17 ds rd I) m Q))
 (m : Nat) {v18 : Value} {h : Heap} {x2 x5 x6 x19 x20 x21 x22 x23 x24 x25 x26 x27 : Value} (hi : I m v18 h) : RunC Try.prog T0 (.loop znQ_l0) ⟨[f0, f1, x2, f3, f4, x5, x6, f7, f8, f9, f10, f11, f12, f13, f14, f15, f16, f17, v18, x19, x20, x21, x22, x23, x24, x25, x26, x27], ds, h, rd⟩ Q :=
 RunC.loopJ (znQ_l0_J f0 f1 f3 f4 f7 f8 f9 f10 f11 f12 f13 f14 f15 f16 f17 ds rd I) (fun m s hj => by obtain ⟨v18, h, x2, x5, x6, x19, x20, x21, x22, x23, x24, x25, x26, x27, rfl, hi⟩ := hj; exact hb m v18 h x2 x5 x6 x19 x20 x21 x22 x23 x24 x25 x26 x27 hi) m _ ⟨_, h, _, _, _, _, _, _, _, _, _, _, _, _, rfl, hi⟩
theorem znQ_l0_again {f0 f1 f3 f4 f7 f8 f9 f10 f11 f12 f13 f14 f15 f16 f17 : Value} {ds : List Deferred} {rd : Option Nat} {Q : QP} {I : Nat → Value → Heap → Prop} {m : Nat} (m' : Nat) {v18 : Value} {h : Heap} {x2 x5 x6 x19 x20 x21 x22 x23 x24 x25 x26 x27 : Value} (hm : m' < m) (hi : I m' v18 h) : loopQ (znQ_l0_J f0 f1 f3 f4 f7 f8 f9 f10 f11 f12 f13 f14 f15 f16 f17 ds rd I) m Q .normal ⟨[f0, f1, x2, f3, f4, x5, x6, f7, f8, f9, f10, f11, f12, f13, f14, f15, f16, f17, v18, x19, x20, x21, x22, x23, x24, x25, x26, x27], ds, h, rd⟩ :=
 loopQ.again m' hm ⟨_, h, _, _, _, _, _, _, _, _, _, _, _, _, rfl, hi⟩
abbrev fn_zpQ : FuncId := 25
def zpQ_l0 : ACode :=
 (.seq (.region [
 o1 25 (.bin .lss (so (.binOp .lss 3 (tm 24) (tm 23) 3) 0) (tm 24) (tm 23))]) (.seq (.cond (tm 25)
 .skip
 (.exit 0)) (.seq (.block 1 (.seq (.region [
 o1 26 (.indexSl 5 (tm 22) (tm 24)),
 o1 27 (.load (some 5) (tm 26)),
 o1 8 (.alloc 54 [(.int .u8 0), (.int .u8 0), (.int .u8 0), (.int .u8 0), (.int .i64 0)]),
 o3 (.store 5 (tm 8) (tm 27))]) (.seq (.region [
 o1 28 (.mov (tm 5)),
 o1 29 (.fieldAddr 0 (tm 8)),
 o1 30 (.load (some 4) (tm 29)),
 o1 31 (.callV (.func 58) [(tm 28), (tm 30)])]) (.region [
 o1 32 (.mov (tm 5)),
 o1 33 (.fieldAddr 4 (tm 8)),
 o1 34 (.load none (tm 33)),
 o1 35 (.callV (.func 57) [(tm 32), (tm 34)])])))) (.region [
 o1 36 (.bin .add (so (.binOp .add 3 (tm 24) (.const (.int .i64 1)) 3) 3) (tm 24) (.const (.int .i64 1))),
 o1 24 (.mov (tm 36))]))))
def zpQ_c : ACode :=
 (.seq (.region [
 o1 2 (.mov (.const (.slice none 0 0))),
 o1 3 (.mov k0)]) (.seq (.seq (.region [
 o1 9 (.mov (tm 0)),
 o1 10 (.callV (.func 22) [(tm 9)]),
 o1 4 (.mov (tm 10))]) (.seq (.region [
 o1 11 (.mov (tm 4)),
 o1 12 (.bin .neq (so (.binOp .neq 26 (tm 11) k0 26) 4) (tm 11) k0)]) (.cond (tm 12)
 (.seq (.region [
 o1 13 (.mov (tm 4)),
 o1 2 (.mov (.const (.slice none 0 0))),
 o1 3 (.mov (tm 13))]) .ret)
 .skip))) (.seq (.region [
 o1 15 (.callV (.func 56) [(.const (.int .i64 1048576))]),
 o1 14 (.mov (tm 15)),
 o1 16 (.extract 0 (tm 14)),
 o1 17 (.extract 1 (tm 14)),
 o1 5 (.mov (tm 16)),
 o1 6 (.mov (tm 17))]) (.seq (.region [
 o1 18 (.mov (tm 5)),
 o1 19 (.mov (tm 0)),
 o1 20 (.lenSl (tm 19)),
 o1 21 (.callV (.func 57) [(tm 18), (tm 20)])]) (.seq (.seq (.region [
 o1 22 (.mov (tm 0)),
 o1 23 (.lenSl (tm 22)),
 o1 24 (.mov k0)]) (.block 0 (.loop zpQ_l0))) (.seq (.region [
 o1 37 (.mov (tm 5)),
 o1 38 (.callV (.func 59) [(tm 37)]),
 o1 39 (.extract 0 (tm 38)),
 o1 40 (.extract 1 (tm 38)),
 o1 2 (.mov (tm 39)),
 o1 3 (.mov (tm 40))]) .ret))))))
def zpQ : AFunc := ⟨41, [(2, none), (3, none)], zpQ_c, none⟩
theorem zpQ_t0 : tableOf Try.prog 25 = some zpQ := by kernel_rfl
theorem zpQ_t : T0 25 = some zpQ := withKept_t rfl (withTrue_t rfl zpQ_t0)
theorem zpQ_runs {v0 : Value} {h : Heap} {R : RP} {X : XP} (k : RunC Try.prog T0 zpQ_c ⟨[v0, U, U, U, U, U, U, U, U, U, U, U, U, U, U, U, U, U, U, U, U, U, U, U, U, U, U, U, U, U, U, U, U, U, U, U, U, U, U, U, U], [], h, none⟩ (bodyQ Try.prog T0 [(2, none), (3, none)] R X)) :
 Runs Try.prog T0 (.fn 25) [v0] h R X := Runs.fn zpQ_t rfl k
def zpQ_l0_J (f0 f1 f2 f3 f4 f5 f6 f7 f9 f10 f11 f12 f13 f14 f15 f16 f17 f18 f19 f20 f21 f22 f23 f37 f38 f39 f40 : Value) (ds : List Deferred) (rd : Option Nat) (I : Nat → Value → Heap → Prop) (m : Nat) (s : St) : Prop := ∃ (v24 : Value), ∃ h : Heap, ∃ (x8 x25 x26 x27 x28 x29 x30 x31 x32 x33 x34 x35 x36 : Value), s = ⟨[f0, f1, f2, f3, f4, f5, f6, f7, x8, f9, f10, f11, f12, f13, f14, f15, f16, f17, f18, f19, f20, f21, f22, f23, v24, x25, x26, x27, x28, x29, x30, x31, x32, x33, x34, x35, x36, f37, f38, f39, f40], ds, h, rd⟩ ∧ I m v24 h
theorem zpQ_l0_rule {f0 f1 f2 f3 f4 f5 f6 f7 f9 f10 f11 f12 f13 f14 f15 f16 f17 f18 f19 f20 f21 f22 f23 f37 f38 f39 f40 : Value} {ds : List Deferred} {rd : Option Nat} {Q : QP} (I : Nat → Value → Heap → Prop) (hb : ∀ (m : Nat) (v24 : Value) (h : Heap) (x8 x25 x26 x27 x28 x29 x30 x31 x32 x33 x34 x35 x36 : Value) , I m v24 h → RunC Try.prog T0 zpQ_l0 ⟨[f0, f1, f2, f3, f4, f5, f6, f7, x8, f9, f10, f11, f12, f13, f14, f15, f16, f17, f18, f19, f20, f21, f22, f23, v24, x25, x26, x27, x28, x29, x30, x31, x32, x33, x34, x35, x36, f37, f38, f39, f40], ds, h, rd⟩ (loopQ (zpQ_l0_J f0 f1 f2 f3 f4 f5 f6 f7 f9 f10 f11 f12 f13 f14 f15 f16 f17 f18 f19 f20 f21 f22 f23 f37 f38 f39 f40 ds rd I) m Q))
 (m : Nat) {v24 : Value} {h : Heap} {x8 x25 x26 x27 x28 x29 x30 x31 x32 x33 x34 x35 x36 : Value} (hi : I m v24 h) : RunC Try.prog T0 (.loop zpQ_l0) ⟨[f0, f1, f2, f3, f4, f5, f6, f7, x8, f9, f10, f11, f12, f13, f14, f15, f16, f17, f18, f19, f20, f21, f22, f23, v24, x25, x26, x27, x28, x29, x30, x31, x32, x33, x34, x35, x36, f37, f38, f39, f40], ds, h, rd⟩ Q :=
 RunC.loopJ (zpQ_l0_J f0 f1 f2 f3 f4 f5 f6 f7 f9 f10 f11 f12 f13 f14 f15 f16 f17 f18 f19 f20 f21 f22 f23 f37 f38 f39 f40 ds rd I) (fun m s hj => by obtain ⟨v24, h, x8, x25, x26, x27, x28, x29, x30, x31, x32, x33, x34, x35, x36, rfl, hi⟩ := hj; exact hb m v24 h x8 x25 x26 x27 x28 x29 x30 x31 x32 x33 x34 x35 x36 hi) m _ ⟨_, h, _, _, _, _, _, _, _, _, _, _, _, _, _, rfl, hi⟩
theorem zpQ_l0_again {f0 f1 f2 f3 f4 f5 f6 f7 f9 f10 f11 f12 f13 f14 f15 f16 f17 f18 f19 f20 f21 f22 f23 f37 f38 f39 f40 : Value} {ds : List Deferred} {rd : Option Nat} {Q : QP} {I : Nat → Value → Heap → Prop} {m : Nat} (m' : Nat) {v24 : Value} {h : Heap} {x8 x25 x26 x27 x28 x29 x30 x31 x32 x33 x34 x35 x36 : Value} (hm : m' < m) (hi : I m' v24 h) : loopQ (zpQ_l0_J f0 f1 f2 f3 f4 f5 f6 f7 f9 f10 f11 f12 f13 f14 f15 f16 f17 f18 f19 f20 f21 f22 f23 f37 f38 f39 f40 ds rd I) m Q .normal ⟨[f0, f1, f2, f3, f4, f5, f6, f7, x8, f9, f10, f11, f12, f13, f14, f15, f16, f17, f18, f19, f20, f21, f22, f23, v24, x25, x26, x27, x28, x29, x30, x31, x32, x33, x34, x35, x36, f37, f38, f39, f40], ds, h, rd⟩ :=
 loopQ.again m' hm ⟨_, h, _, _, _, _, _, _, _, _, _, _, _, _, _, rfl, hi⟩
abbrev fn_zdQ : FuncId := 26
def zdQ_c : ACode :=
 (.seq (.region [
 o1 4 (.mov (.const (.bool false)))]) (.seq (.region [
 o1 5 (.mov (tm 0)),
 o1 6 (.bytesToStr (tm 5)),
 o1 7 (.mov (tm 1)),
 o1 8 (.bytesToStr (tm 7)),
 o1 9 (.bin .eql (so (.binOp .eql 9 (tm 6) (tm 8) 9) 4) (tm 6) (tm 8)),
 o1 4 (.mov (tm 9))]) .ret))
def zdQ : AFunc := ⟨10, [(4, none)], zdQ_c, none⟩
theorem zdQ_t0 : tableOf Try.prog 26 = some zdQ := by kernel_rfl
theorem zdQ_t : T0 26 = some zdQ := withKept_t rfl (withTrue_t rfl zdQ_t0)
theorem zdQ_runs {v0 v1 : Value} {h : Heap} {R : RP} {X : XP} (k : RunC Try.prog T0 zdQ_c ⟨[v0, v1, U, U, U, U, U, U, U, U], [], h, none⟩ (bodyQ Try.prog T0 [(4, none)] R X)) :
 Runs Try.prog T0 (.fn 26) [v0, v1] h R X := Runs.fn zdQ_t rfl k
abbrev fn_zcQ : FuncId := 27
def zcQ_c : ACode :=
 (.seq (.region [
 o1 4 (.mov k0)]) (.seq (.seq (.region [
 o1 5 (.mov (tm 1)),
 o1 6 (.bin .leq (so (.binOp .leq 3 (tm 5) k0 3) 4) (tm 5) k0)]) (.cond (tm 6)
 (.seq (.region [
 o1 4 (.mov k0)]) .ret)
 .skip)) (.seq (.region [
 o1 7 (.mov (tm 0)),
 o1 8 (.mov (tm 1)),
 o1 9 (.bin .rem (so (.binOp .rem 3 (tm 7) (tm 8) 3) 3) (tm 7) (tm 8)),
 o1 0 (.mov (tm 9))]) (.seq (.seq (.region [
 o1 10 (.mov (tm 0)),
 o1 11 (.bin .lss (so (.binOp .lss 3 (tm 10) k0 3) 4) (tm 10) k0)]) (.cond (tm 11)
 (.region [
 o1 12 (.mov (tm 0)),
 o1 13 (.mov (tm 1)),
 o1 14 (.bin .add (so (.binOp .add 3 (tm 12) (tm 13) 3) 3) (tm 12) (tm 13)),
 o1 0 (.mov (tm 14))])
 .skip)) (.seq (.region [
 o1 15 (.mov (tm 0)),
 o1 4 (.mov (tm 15))]) .ret)))))
def zcQ : AFunc := ⟨16, [(4, none)], zcQ_c, none⟩
theorem zcQ_t0 : tableOf Try.prog 27 = some zcQ := by kernel_rfl
theorem zcQ_t : T0 27 = some zcQ := withKept_t rfl (withTrue_t rfl zcQ_t0)
theorem zcQ_runs {v0 v1 : Value} {h : Heap} {R : RP} {X : XP} (k : RunC Try.prog T0 zcQ_c ⟨[v0, v1, U, U, U, U, U, U, U, U, U, U, U, U, U, U], [], h, none⟩ (bodyQ Try.prog T0 [(4, none)] R X)) :
 Runs Try.prog T0 (.fn 27) [v0, v1] h R X := Runs.fn zcQ_t rfl k
abbrev fn_zbQ : FuncId := 28
def zbQ_c : ACode :=
 (.seq (.region [
 o1 2 (.mov (.const (.slice none 0 0)))]) (.seq (.region [
 o1 3 (.buildSlice 5 [] 0 []),
 o1 4 (.mov (tm 0)),
 o1 5 (.append 5 1 1 [(.int .u8 0)] false (tm 3) (tm 4)),
 o1 2 (.mov (tm 5))]) .ret))
def zbQ : AFunc := ⟨6, [(2, none)], zbQ_c, none⟩
theorem zbQ_t0 : tableOf Try.prog 28 = some zbQ := by kernel_rfl
theorem zbQ_t : T0 28 = some zbQ := withKept_t rfl (withTrue_t rfl zbQ_t0)
theorem zbQ_runs {v0 : Value} {h : Heap} {R : RP} {X : XP} (k : RunC Try.prog T0 zbQ_c ⟨[v0, U, U, U, U, U], [], h, none⟩ (bodyQ Try.prog T0 [(2, none)] R X)) :
 Runs Try.prog T0 (.fn 28) [v0] h R X := Runs.fn zbQ_t rfl k
abbrev fn_zvQ : FuncId := 29
def zvQ_c : ACode :=
 (.seq (.region [
 o1 2 (.alloc 52 [(.int .u64 0), (.int .u64 0)]),
 o1 3 (.mov k0)]) (.seq (.seq (.region [
 o1 4 (.mov (tm 0)),
 o1 5 (.bin .lss (so (.binOp .lss 3 (tm 4) k0 3) 4) (tm 4) k0)]) (.cond (tm 5)
 (.seq (.region [
 o1 6 (.build [(.int .u64 0), (.int .u64 0)] []),
 o3 (.store 2 (tm 2) (tm 6)),
 o1 3 (.mov (.const (.int .i64 3)))]) .ret)
 .skip)) (.seq (.region [
 o1 7 (.mov (tm 0)),
 o1 8 (.conv .u64 (so (.convert 3 50 (tm 7)) 50) (tm 7)),
 o1 9 (.build [(.int .u64 0), (.int .u64 0)] [(1, 1, (tm 8))]),
 o3 (.store 2 (tm 2) (tm 9)),
 o1 3 (.mov k0)]) .ret)))
def zvQ : AFunc := ⟨10, [(2, some (some 2)), (3, none)], zvQ_c, none⟩
theorem zvQ_t0 : tableOf Try.prog 29 = some zvQ := by kernel_rfl
theorem zvQ_t : T0 29 = some zvQ := withKept_t rfl (withTrue_t rfl zvQ_t0)
theorem zvQ_runs {v0 : Value} {h : Heap} {R : RP} {X : XP} (k : RunC Try.prog T0 zvQ_c ⟨[v0, U, U, U, U, U, U, U, U, U], [], h, none⟩ (bodyQ Try.prog T0 [(2, some (some 2)), (3, none)] R X)) :
 Runs Try.prog T0 (.fn 29) [v0] h R X := Runs.fn zvQ_t rfl k
abbrev fn_zwQ : FuncId := 30
def zwQ_c : ACode :=
 (.seq (.region [
 o1 2 (.box 52 (tm 0)),
 o1 3 (.box 52 (tm 1)),
 o1 4 (.alloc 52 [(.int .u64 0), (.int .u64 0)]),
 o1 5 (.mov k0)]) (.seq (.region [
 o1 7 (.fieldAddr 1 (tm 2)),
 o1 8 (.load none (tm 7)),
 o1 9 (.fieldAddr 0 (tm 2)),
 o1 10 (.load none (tm 9)),
 o1 11 (.build [(.int .u64 0), (.int .u64 0), (.int .u64 0)] [(0, 1, (tm 8)), (1, 1, (tm 10))]),
 o1 6 (.alloc 95 [(.int .u64 0), (.int .u64 0), (.int .u64 0)]),
 o3 (.store 3 (tm 6) (tm 11))]) (.seq (.region [
 o1 12 (.fieldAddr 1 (tm 3)),
 o1 13 (.load none (tm 12)),
 o1 14 (.callV (.func 60) [(tm 6), k0, (tm 13)])]) (.seq (.region [
 o1 15 (.fieldAddr 0 (tm 3)),
 o1 16 (.load none (tm 15)),
 o1 17 (.callV (.func 60) [(tm 6), (.const (.int .i64 1)), (tm 16)])]) (.seq (.region [
 o1 18 (.load (some 3) (tm 6)),
 o1 19 (.callV (.func 61) [(tm 18)]),
 o1 20 (.extract 0 (tm 19)),
 o1 21 (.extract 1 (tm 19)),
 o3 (.store 2 (tm 4) (tm 20)),
 o1 5 (.mov (tm 21))]) .ret)))))
def zwQ : AFunc := ⟨22, [(4, some (some 2)), (5, none)], zwQ_c, none⟩
theorem zwQ_t0 : tableOf Try.prog 30 = some zwQ := by kernel_rfl
theorem zwQ_t : T0 30 = some zwQ := withKept_t rfl (withTrue_t rfl zwQ_t0)
theorem zwQ_runs {v0 v1 : Value} {h : Heap} {R : RP} {X : XP} (k : RunC Try.prog T0 zwQ_c ⟨[v0, v1, U, U, U, U, U, U, U, U, U, U, U, U, U, U, U, U, U, U, U, U], [], h, none⟩ (bodyQ Try.prog T0 [(4, some (some 2)), (5, none)] R X)) :
 Runs Try.prog T0 (.fn 30) [v0, v1] h R X := Runs.fn zwQ_t rfl k
abbrev fn_zsQ : FuncId := 31
def zsQ_l0 : ACode :=
 (.seq (.region [
 o1 17 (.bin .lss (so (.binOp .lss 3 (tm 16) (tm 15) 3) 0) (tm 16) (tm 15))]) (.seq (.cond (tm 17)
 .skip
 (.exit 0)) (.seq (.block 1 (.seq (.region [
 o1 18 (.indexSl 5 (tm 14) (tm 16)),
 o1 19 (.load (some 5) (tm 18)),
 o1 7 (.alloc 54 [(.int .u8 0), (.int .u8 0), (.int .u8 0), (.int .u8 0), (.int .i64 0)]),
 o3 (.store 5 (tm 7) (tm 19))]) (.region [
 o1 20 (.mov (tm 5)),
 o1 21 (.fieldAddr 4 (tm 7)),
 o1 22 (.load none (tm 21)),
 o1 23 (.buildSlice 3 [(.int .i64 0)] 1 [(0, 1, (tm 22))]),
 o1 24 (.append 3 1 8 [(.int .i64 0)] false (tm 20) (tm 23)),
 o1 5 (.mov (tm 24))]))) (.region [
 o1 25 (.bin .add (so (.binOp .add 3 (tm 16) (.const (.int .i64 1)) 3) 3) (tm 16) (.const (.int .i64 1))),
 o1 16 (.mov (tm 25))]))))
def zsQ_c : ACode :=
 (.seq (.region [
 o1 2 (.alloc 52 [(.int .u64 0), (.int .u64 0)]),
 o1 3 (.mov k0)]) (.seq (.seq (.region [
 o1 8 (.mov (tm 0)),
 o1 9 (.callV (.func 22) [(tm 8)]),
 o1 4 (.mov (tm 9))]) (.seq (.region [
 o1 10 (.mov (tm 4)),
 o1 11 (.bin .neq (so (.binOp .neq 26 (tm 10) k0 26) 4) (tm 10) k0)]) (.cond (tm 11)
 (.seq (.region [
 o1 12 (.build [(.int .u64 0), (.int .u64 0)] []),
 o1 13 (.mov (tm 4)),
 o3 (.store 2 (tm 2) (tm 12)),
 o1 3 (.mov (tm 13))]) .ret)
 .skip))) (.seq (.region [
 o1 5 (.mov (.const (.slice none 0 0)))]) (.seq (.seq (.region [
 o1 14 (.mov (tm 0)),
 o1 15 (.lenSl (tm 14)),
 o1 16 (.mov k0)]) (.block 0 (.loop zsQ_l0))) (.seq (.region [
 o1 26 (.mov (tm 5)),
 o1 27 (.callV (.func 62) [(tm 26)]),
 o1 28 (.extract 0 (tm 27)),
 o1 29 (.extract 1 (tm 27)),
 o3 (.store 2 (tm 2) (tm 28)),
 o1 3 (.mov (tm 29))]) .ret)))))
def zsQ : AFunc := ⟨30, [(2, some (some 2)), (3, none)], zsQ_c, none⟩
theorem zsQ_t0 : tableOf Try.prog 31 = some zsQ := by kernel_rfl
theorem zsQ_t : T0 31 = some zsQ := withKept_t rfl (withTrue_t rfl zsQ_t0)
theorem zsQ_runs {v0 : Value} {h : Heap} {R : RP} {X : XP} (k : RunC Try.prog T0 zsQ_c ⟨[v0, U, U, U, U, U, U, U, U, U, U, U, U, U, U, U, U, U, U, U, U, U, U, U, U, U, U, U, U, U], [], h, none⟩ (bodyQ Try.prog T0 [(2, some (some 2)), (3, none)] R X)) :
 Runs Try.prog T0 (.fn 31) [v0] h R X := Runs.fn zsQ_t rfl k
def zsQ_l0_J (f0 f1 f2 f3 f4 f6 f8 f9 f10 f11 f12 f13 f14 f15 f26 f27 f28 f29 : Value) (ds : List Deferred) (rd : Option Nat) (I : Nat → Value → Value → Heap → Prop) (m : Nat) (s : St) : Prop := ∃ (v5 v16 : Value), ∃ h : Heap, ∃ (x7 x17 x18 x19 x20 x21 x22 x23 x24 x25 : Value), s = ⟨[f0, f1, f2, f3, f4, v5, f6, x7, f8, f9, f10, f11, f12, f13, f14, f15, v16, x17, x18, x19, x20, x21, x22, x23, x24, x25, f26, f27, f28, f29], ds, h, rd⟩ ∧ I m v5 v16 h
theorem zsQ_l0_rule {f0 f1 f2 f3 f4 f6 f8 f9 f10 f11 f12 f13 f14 f15 f26 f27 f28 f29 : Value} {ds : List Deferred} {rd : Option Nat} {Q : QP} (I : Nat → Value → Value → Heap → Prop) (hb : ∀ (m : Nat) (v5 v16 : Value) (h : Heap) (x7 x17 x18 x19 x20 x21 x22 x23 x24 x25 : Value) , I m v5 v16 h → RunC Try.prog T0 zsQ_l0 ⟨[f0, f1, f2, f3, f4, v5, f6, x7, f8, f9, f10, f11, f12, f13, f14, f15, v16, x17, x18, x19, x20, x21, x22, x23, x24, x25, f26, f27, f28, f29], ds, h, rd⟩ (loopQ (zsQ_l0_J f0 f1 f2 f3 f4 f6 f8 f9 f10 f11 f12 f13 f14 f15 f26 f27 f28 f29 ds rd I) m Q))
 (m : Nat) {v5 v16 : Value} {h : Heap} {x7 x17 x18 x19 x20 x21 x22 x23 x24 x25 : Value} (hi : I m v5 v16 h) : RunC Try.prog T0 (.loop zsQ_l0) ⟨[f0, f1, f2, f3, f4, v5, f6, x7, f8, f9, f10, f11, f12, f13, f14, f15, v16, x17, x18, x19, x20, x21, x22, x23, x24, x25, f26, f27, f28, f29], ds, h, rd⟩ Q :=
 RunC.loopJ (zsQ_l0_J f0 f1 f2 f3 f4 f6 f8 f9 f10 f11 f12 f13 f14 f15 f26 f27 f28 f29 ds rd I) (fun m s hj => by obtain ⟨v5, v16, h, x7, x17, x18, x19, x20, x21, x22, x23, x24, x25, rfl, hi⟩ := hj; exact hb m v5 v16 h x7 x17 x18 x19 x20 x21 x22 x23 x24 x25 hi) m _ ⟨_, _, h, _, _, _, _, _, _, _, _, _, _, rfl, hi⟩
theorem zsQ_l0_again {f0 f1 f2 f3 f4 f6 f8 f9 f10 f11 f12 f13 f14 f15 f26 f27 f28 f29 : Value} {ds : List Deferred} {rd : Option Nat} {Q : QP} {I : Nat → Value → Value → Heap → Prop} {m : Nat} (m' : Nat) {v5 v16 : Value} {h : Heap} {x7 x17 x18 x19 x20 x21 x22 x23 x24 x25 : Value} (hm : m' < m) (hi : I m' v5 v16 h) : loopQ (zsQ_l0_J f0 f1 f2 f3 f4 f6 f8 f9 f10 f11 f12 f13 f14 f15 f26 f27 f28 f29 ds rd I) m Q .normal ⟨[f0, f1, f2, f3, f4, v5, f6, x7, f8, f9, f10, f11, f12, f13, f14, f15, v16, x17, x18, x19, x20, x21, x22, x23, x24, x25, f26, f27, f28, f29], ds, h, rd⟩ :=
 loopQ.again m' hm ⟨_, _, h, _, _, _, _, _, _, _, _, _, _, rfl, hi⟩
abbrev fn_zcbQ : FuncId := 40
def zcbQ_c : ACode :=
 (.seq (.region [
 o1 2 (.mov (.const (.pointer none)))]) (.seq (.region [
 o1 3 (.mov (tm 0)),
 o1 4 (.callV (.func 70) [(tm 3)]),
 o1 5 (.build [(.slice none 0 0), (.int .i64 0), (.int .i64 0), (.int .i64 0), (.bool false)] [(0, 1, (tm 4)), (4, 1, (.const (.bool true)))]),
 o1 6 (.box 104 (tm 5)),
 o1 2 (.mov (tm 6))]) .ret))
def zcbQ : AFunc := ⟨7, [(2, none)], zcbQ_c, none⟩
theorem zcbQ_t0 : tableOf Try.prog 40 = some zcbQ := by kernel_rfl
theorem zcbQ_t : T0 40 = some zcbQ := withKept_t rfl (withTrue_t rfl zcbQ_t0)
theorem zcbQ_runs {v0 : Value} {h : Heap} {R : RP} {X : XP} (k : RunC Try.prog T0 zcbQ_c ⟨[v0, U, U, U, U, U, U], [], h, none⟩ (bodyQ Try.prog T0 [(2, none)] R X)) :
 Runs Try.prog T0 (.fn 40) [v0] h R X := Runs.fn zcbQ_t rfl k
abbrev fn_zibQ : FuncId := 41
def zibQ_c : ACode :=
 (.seq (.region [
 o1 2 (.mov k0)]) (.seq (.region [
 o1 3 (.mov (tm 0)),
 o1 4 (.mov (tm 0)),
 o1 5 (.mkFunc (.func 72) [(tm 4)] []),
 o1 6 (.callV (.func 71) [(tm 3), (tm 5)]),
 o1 2 (.mov (tm 6))]) .ret))
def zibQ : AFunc := ⟨7, [(2, none)], zibQ_c, none⟩
theorem zibQ_t0 : tableOf Try.prog 41 = some zibQ := by kernel_rfl
theorem zibQ_t : T0 41 = some zibQ := withKept_t rfl (withTrue_t rfl zibQ_t0)
theorem zibQ_runs {v0 : Value} {h : Heap} {R : RP} {X : XP} (k : RunC Try.prog T0 zibQ_c ⟨[v0, U, U, U, U, U, U], [], h, none⟩ (bodyQ Try.prog T0 [(2, none)] R X)) :
 Runs Try.prog T0 (.fn 41) [v0] h R X := Runs.fn zibQ_t rfl k
abbrev fn_zfbQ : FuncId := 42
def zfbQ_c : ACode :=
 (.seq (.region [
 o1 1 (.box 68 (tm 0)),
 o1 2 (.alloc 42 [(.int .u8 0), (.int .u8 0), (.int .u8 0), (.int .u8 0)])]) (.seq (.region [
 o1 3 (.load none (tm 1)),
 o1 4 (.mkFunc (.func 74) [] [(tm 1)]),
 o1 5 (.callV (.func 73) [(tm 3), (tm 4)]),
 o3 (.store 4 (tm 2) (tm 5))]) .ret))
def zfbQ : AFunc := ⟨6, [(2, some (some 4))], zfbQ_c, none⟩
theorem zfbQ_t0 : tableOf Try.prog 42 = some zfbQ := by kernel_rfl
theorem zfbQ_t : T0 42 = some zfbQ := withKept_t rfl (withTrue_t rfl zfbQ_t0)
theorem zfbQ_runs {v0 : Value} {h : Heap} {R : RP} {X : XP} (k : RunC Try.prog T0 zfbQ_c ⟨[v0, U, U, U, U, U], [], h, none⟩ (bodyQ Try.prog T0 [(2, some (some 4))] R X)) :
 Runs Try.prog T0 (.fn 42) [v0] h R X := Runs.fn zfbQ_t rfl k
abbrev fn_zebQ : FuncId := 43
def zebQ_c : ACode :=
 (.seq (.region [
 o1 2 (.alloc 28 [(.int .i64 0), (.int .i64 0)])]) (.seq (.block 0 (.seq (.region [
 o1 4 (.mov (tm 0)),
 o1 5 (.eq .ptr false (so (.binOp .eql 68 (tm 4) (.const (.pointer none)) 68) 4) (tm 4) (.const (.pointer none))),
 o1 6 (.mov (tm 5)),
 o5 7 (.mov (tm 0)) 6,
 o5 8 (.nilCheck (tm 7)) 6,
 o5 9 (.fieldAddr 4 (tm 8)) 6,
 o5 10 (.load none (tm 9)) 6,
 o5 11 (.raw (so (.unOp .not 4 (tm 10)) 4)) 6,
 o1 12 (.pick (tm 6) (.const (.bool true)) (tm 11)),
 o1 3 (.mov (tm 12))]) (.cond (tm 3)
 (.seq (.region [
 o1 13 (.build [(.int .i64 0), (.int .i64 0)] [(0, 1, (.const (.int .i64 1)))]),
 o3 (.store 2 (tm 2) (tm 13))]) .ret)
 (.seq (.regionD [
 o2 15 (.mov (tm 0)),
 o2 16 (.nilCheck (tm 15)),
 o2 17 (.fieldAddr 2 (tm 16)),
 o2 18 (.fieldAddr 0 (tm 17)),
 o2 19 (.load none (tm 18)),
 o2 20 (.bin .eql (so (.binOp .eql 26 (tm 19) k0 26) 4) (tm 19) k0),
 o2 21 (.mov (tm 20)),
 o4 22 (.mov (tm 0)) 21,
 o4 23 (.nilCheck (tm 22)) 21,
 o4 24 (.fieldAddr 1 (tm 23)) 21,
 o4 25 (.load none (tm 24)) 21,
 o4 26 (.mov (tm 0)) 21,
 o4 27 (.nilCheck (tm 26)) 21,
 o4 28 (.fieldAddr 0 (tm 27)) 21,
 o4 29 (.load none (tm 28)) 21,
 o4 30 (.lenSl (tm 29)) 21,
 ⟨some 31, .bin .lss (so (.binOp .lss 3 (tm 25) (tm 30) 3) 4) (tm 25) (tm 30), some (21, true), [], true⟩,
 o2 32 (.pick (tm 21) (tm 31) (.const (.bool false))),
 o2 14 (.mov (tm 32))]) (.cond (tm 14)
 (.seq (.region [
 o1 33 (.mov (tm 0)),
 o1 34 (.nilCheck (tm 33)),
 o1 35 (.fieldAddr 1 (tm 34)),
 o1 36 (.load none (tm 35)),
 o1 37 (.build [(.int .i64 0), (.int .i64 0)] [(0, 1, (.const (.int .i64 4))), (1, 1, (tm 36))]),
 o3 (.store 2 (tm 2) (tm 37))]) .ret)
 .skip))))) (.seq (.region [
 o1 38 (.mov (tm 0)),
 o1 39 (.nilCheck (tm 38)),
 o1 40 (.fieldAddr 2 (tm 39)),
 o1 41 (.load (some 2) (tm 40)),
 o3 (.store 2 (tm 2) (tm 41))]) .ret)))
def zebQ : AFunc := ⟨42, [(2, some (some 2))], zebQ_c, none⟩
theorem zebQ_t0 : tableOf Try.prog 43 = some zebQ := by kernel_rfl
theorem zebQ_t : T0 43 = some zebQ := withKept_t rfl (withTrue_t rfl zebQ_t0)
theorem zebQ_runs {v0 : Value} {h : Heap} {R : RP} {X : XP} (k : RunC Try.prog T0 zebQ_c ⟨[v0, U, U, U, U, U, U, U, U, U, U, U, U, U, U, U, U, U, U, U, U, U, U, U, U, U, U, U, U, U, U, U, U, U, U, U, U, U, U, U, U, U], [], h, none⟩ (bodyQ Try.prog T0 [(2, some (some 2))] R X)) :
 Runs Try.prog T0 (.fn 43) [v0] h R X := Runs.fn zebQ_t rfl k
abbrev fn_zuQ : FuncId := 48
def zuQ_c : ACode :=
 (.seq (.region [
 o1 3 (.box 54 (tm 1)),
 o1 4 (.mov k0)]) (.seq (.regionD [
 o2 6 (.mov (tm 0)),
 o2 7 (.nilCheck (tm 6)),
 o2 8 (.fieldAddr 4 (tm 7)),
 o2 9 (.load none (tm 8)),
 o2 10 (.mov (tm 9)),
 o4 11 (.mov (tm 0)) 10,
 o4 12 (.nilCheck (tm 11)) 10,
 o4 13 (.fieldAddr 0 (tm 12)) 10,
 o4 14 (.sliceArr 4 1 (tm 13) none none) 10,
 o4 15 (.fieldAddr 0 (tm 3)) 10,
 o4 16 (.sliceArr 4 1 (tm 15) none none) 10,
 ⟨some 17, .callV (.func 79) [(tm 14), (tm 16)], some (10, true), [], true⟩,
 ⟨some 18, .bin .geq (so (.binOp .geq 3 (tm 17) k0 3) 4) (tm 17) k0, some (10, true), [], true⟩,
 o2 19 (.pick (tm 10) (tm 18) (.const (.bool false))),
 o2 5 (.mov (tm 19))]) (.seq (.region [
 o1 20 (.mov (tm 0)),
 o1 21 (.mov (tm 0)),
 o1 22 (.fieldAddr 0 (tm 3)),
 o1 23 (.load (some 4) (tm 22)),
 o1 24 (.nilCheck (tm 20)),
 o1 25 (.fieldAddr 0 (tm 24)),
 o3 (.store 4 (tm 25) (tm 23)),
 o1 26 (.nilCheck (tm 21)),
 o1 27 (.fieldAddr 4 (tm 26)),
 o3 (.store 1 (tm 27) (.const (.bool true)))]) (.seq (.block 0 (.seq (.region [
 o1 29 (.mov (tm 5)),
 o1 28 (.mov (tm 29))]) (.cond (tm 28)
 (.seq (.region [
 o1 4 (.mov (.const (.int .i64 9)))]) .ret)
 (.seq (.regionD [
 o1 31 (.fieldAddr 4 (tm 3)),
 o1 32 (.load none (tm 31)),
 o1 33 (.mov (tm 0)),
 o1 34 (.nilCheck (tm 33)),
 o1 35 (.fieldAddr 5 (tm 34)),
 o1 36 (.load none (tm 35)),
 o2 37 (.bin .lss (so (.binOp .lss 3 (tm 32) (tm 36) 3) 4) (tm 32) (tm 36)),
 o2 38 (.mov (tm 37)),
 o5 39 (.fieldAddr 4 (tm 3)) 38,
 o5 40 (.load none (tm 39)) 38,
 o5 41 (.mov (tm 0)) 38,
 o5 42 (.nilCheck (tm 41)) 38,
 o5 43 (.fieldAddr 6 (tm 42)) 38,
 o5 44 (.load none (tm 43)) 38,
 ⟨some 45, .bin .gtr (so (.binOp .gtr 3 (tm 40) (tm 44) 3) 4) (tm 40) (tm 44), some (38, false), [], true⟩,
 o2 46 (.pick (tm 38) (.const (.bool true)) (tm 45)),
 o2 30 (.mov (tm 46))]) (.cond (tm 30)
 (.seq (.region [
 o1 4 (.mov (.const (.int .i64 3)))]) .ret)
 .skip))))) (.seq (.region [
 o1 4 (.mov k0)]) .ret)))))
def zuQ : AFunc := ⟨47, [(4, none)], zuQ_c, none⟩
theorem zuQ_t0 : tableOf Try.prog 48 = some zuQ := by kernel_rfl
theorem zuQ_t : T0 48 = some zuQ := withKept_t rfl (withTrue_t rfl zuQ_t0)
theorem zuQ_runs {v0 v1 : Value} {h : Heap} {R : RP} {X : XP} (k : RunC Try.prog T0 zuQ_c ⟨[v0, v1, U, U, U, U, U, U, U, U, U, U, U, U, U, U, U, U, U, U, U, U, U, U, U, U, U, U, U, U, U, U, U, U, U, U, U, U, U, U, U, U, U, U, U, U, U], [], h, none⟩ (bodyQ Try.prog T0 [(4, none)] R X)) :
 Runs Try.prog T0 (.fn 48) [v0, v1] h R X := Runs.fn zuQ_t rfl k
abbrev fn_ziQ : FuncId := 52
def ziQ_l0 : ACode :=
 (.seq (.seq (.region [
 o1 15 (.mov (tm 9)),
 o1 16 (.mov (tm 10)),
 o1 17 (.bin .lss (so (.binOp .lss 3 (tm 15) (tm 16) 3) 4) (tm 15) (tm 16))]) (.cond (tm 17)
 .skip
 (.exit 0))) (.block 1 (.seq (.region [
 o1 18 (.mov (tm 9)),
 o1 19 (.mov (tm 10)),
 o1 20 (.bin .add (so (.binOp .add 3 (tm 18) (tm 19) 3) 3) (tm 18) (tm 19)),
 o1 21 (.conv .u64 (so (.convert 3 115 (tm 20)) 115) (tm 20)),
 o1 22 (.bin .shr (so (.binOp .shr 115 (tm 21) (.const (.int .u64 1)) 115) 115) (tm 21) (.const (.int .u64 1))),
 o1 23 (.conv .i64 (so (.convert 115 3 (tm 22)) 3) (tm 22)),
 o1 11 (.mov (tm 23))]) (.seq (.regionD [
 o1 24 (.mov (tm 2)),
 o1 25 (.mov (tm 0)),
 o1 26 (.mov (tm 11)),
 o1 27 (.indexSl 5 (tm 25) (tm 26)),
 o1 28 (.load (some 5) (tm 27)),
 o1 29 (.load (some 4) (tm 4)),
 o2 30 (.callV (tm 24) [(tm 28), (tm 29)]),
 o2 31 (.bin .lss (so (.binOp .lss 3 (tm 30) k0 3) 4) (tm 30) k0)]) (.cond (tm 31)
 (.region [
 o1 32 (.mov (tm 11)),
 o1 33 (.bin .add (so (.binOp .add 3 (tm 32) (.const (.int .i64 1)) 3) 3) (tm 32) (.const (.int .i64 1))),
 o1 9 (.mov (tm 33))])
 (.region [
 o1 34 (.mov (tm 11)),
 o1 10 (.mov (tm 34))]))))))
def ziQ_c : ACode :=
 (.seq (.region [
 o1 4 (.box 42 (tm 1)),
 o1 6 (.mov k0),
 o1 7 (.mov (.const (.bool false)))]) (.seq (.region [
 o1 12 (.mov (tm 0)),
 o1 13 (.lenSl (tm 12)),
 o1 8 (.mov (tm 13))]) (.seq (.region [
 o1 14 (.mov (tm 8)),
 o1 9 (.mov k0),
 o1 10 (.mov (tm 14))]) (.seq (.block 0 (.loop ziQ_l0)) (.seq (.regionD [
 o1 35 (.mov (tm 9)),
 o1 36 (.mov (tm 9)),
 o1 37 (.mov (tm 8)),
 o1 38 (.bin .lss (so (.binOp .lss 3 (tm 36) (tm 37) 3) 4) (tm 36) (tm 37)),
 o1 39 (.mov (tm 38)),
 o4 40 (.mov (tm 2)) 39,
 o4 41 (.mov (tm 0)) 39,
 o4 42 (.mov (tm 9)) 39,
 o4 43 (.indexSl 5 (tm 41) (tm 42)) 39,
 o4 44 (.load (some 5) (tm 43)) 39,
 o4 45 (.load (some 4) (tm 4)) 39,
 ⟨some 46, .callV (tm 40) [(tm 44), (tm 45)], some (39, true), [(some 35, .mov (tm 9), none)], false⟩,
 o4 47 (.bin .eql (so (.binOp .eql 3 (tm 46) k0 3) 4) (tm 46) k0) 39,
 o1 48 (.pick (tm 39) (tm 47) (.const (.bool false))),
 o1 6 (.mov (tm 35)),
 o2 7 (.mov (tm 48))]) .ret)))))
def ziQ : AFunc := ⟨49, [(6, none), (7, none)], ziQ_c, none⟩
theorem ziQ_t0 : tableOf Try.prog 52 = some ziQ := by kernel_rfl
theorem ziQ_t : T0 52 = some ziQ := withKept_t rfl (withTrue_t rfl ziQ_t0)
theorem ziQ_runs {v0 v1 v2 : Value} {h : Heap} {R : RP} {X : XP} (k : RunC Try.prog T0 ziQ_c ⟨[v0, v1, v2, U, U, U, U, U, U, U, U, U, U, U, U, U, U, U, U, U, U, U, U, U, U, U, U, U, U, U, U, U, U, U, U, U, U, U, U, U, U, U, U, U, U, U, U, U, U], [], h, none⟩ (bodyQ Try.prog T0 [(6, none), (7, none)] R X)) :
 Runs Try.prog T0 (.fn 52) [v0, v1, v2] h R X := Runs.fn ziQ_t rfl k
def ziQ_l0_J (f0 f1 f2 f3 f4 f5 f6 f7 f8 f12 f13 f14 f35 f36 f37 f38 f39 f40 f41 f42 f43 f44 f45 f46 f47 f48 : Value) (ds : List Deferred) (rd : Option Nat) (I : Nat → Value → Value → Heap → Prop) (m : Nat) (s : St) : Prop := ∃ (v9 v10 : Value), ∃ h : Heap, ∃ (x11 x15 x16 x17 x18 x19 x20 x21 x22 x23 x24 x25 x26 x27 x28 x29 x30 x31 x32 x33 x34 : Value), s = ⟨[f0, f1, f2, f3, f4, f5, f6, f7, f8, v9, v10, x11, f12, f13, f14, x15, x16, x17, x18, x19, x20, x21, x22, x23, x24, x25, x26, x27, x28, x29, x30, x31, x32, x33, x34, f35, f36, f37, f38, f39, f40, f41, f42, f43, f44, f45, f46, f47, f48], ds, h, rd⟩ ∧ I m v9 v10 h
theorem ziQ_l0_rule {f0 f1 f2 f3 f4 f5 f6 f7 f8 f12 f13 f14 f35 f36 f37 f38 f39 f40 f41 f42 f43 f44 f45 f46 f47 f48 : Value} {ds : List Deferred} {rd : Option Nat} {Q : QP} (I : Nat → Value → Value → Heap → Prop) (hb : ∀ (m : Nat) (v9 v10 : Value) (h : Heap) (x11 x15 x16 x17 x18 x19 x20 x21 x22 x23 x24 x25 x26 x27 x28 x29 x30 x31 x32 x33 x34 : Value) , I m v9 v10 h → RunC Try.prog T0 ziQ_l0 ⟨[f0, f1, f2, f3, f4, f5, f6, f7, f8, v9, v10, x11, f12, f13, f14, x15, x16, x17, x18, x19, x20, x21, x22, x23, x24, x25, x26, x27, x28, x29, x30, x31, x32, x33, x34, f35, f36, f37, f38, f39, f40, f41, f42, f43, f44, f45, f46, f47, f48], ds, h, rd⟩ (loopQ (ziQ_l0_J f0 f1 f2 f3 f4 f5 f6 f7 f8 f12 f13 f14 f35 f36 f37 f38 f39 f40 f41 f42 f43 f44 f45 f46 f47 f48 ds rd I) m Q))
 (m : Nat) {v9 v10 : Value} {h : Heap} {x11 x15 x16 x17 x18 x19 x20 x21 x22 x23 x24 x25 x26 x27 x28 x29 x30 x31 x32 x33 x34 : Value} (hi : I m v9 v10 h) : RunC Try.prog T0 (.loop ziQ_l0) ⟨[f0, f1, f2, f3, f4, f5, f6, f7, f8, v9, v10, x11, f12, f13, f14, x15, x16, x17, x18, x19, x20, x21, x22, x23, x24, x25, x26, x27, x28, x29, x30, x31, x32, x33, x34, f35, f36, f37, f38, f39, f40, f41, f42, f43, f44, f45, f46, f47, f48], ds, h, rd⟩ Q :=
 RunC.loopJ (ziQ_l0_J f0 f1 f2 f3 f4 f5 f6 f7 f8 f12 f13 f14 f35 f36 f37 f38 f39 f40 f41 f42 f43 f44 f45 f46 f47 f48 ds rd I) (fun m s hj => by obtain ⟨v9, v10, h, x11, x15, x16, x17, x18, x19, x20, x21, x22, x23, x24, x25, x26, x27, x28, x29, x30, x31, x32, x33, x34, rfl, hi⟩ := hj; exact hb m v9 v10 h x11 x15 x16 x17 x18 x19 x20 x21 x22 x23 x24 x25 x26 x27 x28 x29 x30 x31 x32 x33 x34 hi) m _ ⟨_, _, h, _, _, _, _, _, _, _, _, _, _, _, _, _, _, _, _, _, _, _, _, _, rfl, hi⟩
theorem ziQ_l0_again {f0 f1 f2 f3 f4 f5 f6 f7 f8 f12 f13 f14 f35 f36 f37 f38 f39 f40 f41 f42 f43 f44 f45 f46 f47 f48 : Value} {ds : List Deferred} {rd : Option Nat} {Q : QP} {I : Nat → Value → Value → Heap → Prop} {m : Nat} (m' : Nat) {v9 v10 : Value} {h : Heap} {x11 x15 x16 x17 x18 x19 x20 x21 x22 x23 x24 x25 x26 x27 x28 x29 x30 x31 x32 x33 x34 : Value} (hm : m' < m) (hi : I m' v9 v10 h) : loopQ (ziQ_l0_J f0 f1 f2 f3 f4 f5 f6 f7 f8 f12 f13 f14 f35 f36 f37 f38 f39 f40 f41 f42 f43 f44 f45 f46 f47 f48 ds rd I) m Q .normal ⟨[f0, f1, f2, f3, f4, f5, f6, f7, f8, v9, v10, x11, f12, f13, f14, x15, x16, x17, x18, x19, x20, x21, x22, x23, x24, x25, x26, x27, x28, x29, x30, x31, x32, x33, x34, f35, f36, f37, f38, f39, f40, f41, f42, f43, f44, f45, f46, f47, f48], ds, h, rd⟩ :=
 loopQ.again m' hm ⟨_, _, h, _, _, _, _, _, _, _, _, _, _, _, _, _, _, _, _, _, _, _, _, _, rfl, hi⟩
abbrev fn_ztQ : FuncId := 53
def ztQ_c : ACode :=
 (.seq (.region [
 o1 2 (.box 54 (tm 0)),
 o1 3 (.box 42 (tm 1)),
 o1 4 (.mov k0)]) (.seq (.regionD [
 o1 5 (.fieldAddr 0 (tm 2)),
 o1 6 (.sliceArr 4 1 (tm 5) none none),
 o1 7 (.sliceArr 4 1 (tm 3) none none),
 o2 8 (.callV (.func 79) [(tm 6), (tm 7)]),
 o2 4 (.mov (tm 8))]) .ret))
def ztQ : AFunc := ⟨9, [(4, none)], ztQ_c, none⟩
theorem ztQ_t0 : tableOf Try.prog 53 = some ztQ := by kernel_rfl
theorem ztQ_t : T0 53 = some ztQ := withKept_t rfl (withTrue_t rfl ztQ_t0)
theorem ztQ_runs {v0 v1 : Value} {h : Heap} {R : RP} {X : XP} (k : RunC Try.prog T0 ztQ_c ⟨[v0, v1, U, U, U, U, U, U, U], [], h, none⟩ (bodyQ Try.prog T0 [(4, none)] R X)) :
 Runs Try.prog T0 (.fn 53) [v0, v1] h R X := Runs.fn ztQ_t rfl k
abbrev fn_zmQ : FuncId := 54
def zmQ_l0 : ACode :=
 (.seq (.region [
 o1 9 (.bin .lss (so (.binOp .lss 3 (tm 8) (tm 7) 3) 0) (tm 8) (tm 7))]) (.seq (.cond (tm 9)
 .skip
 (.exit 0)) (.seq (.block 1 (.seq (.region [
 o1 10 (.mov (tm 8)),
 o1 5 (.mov (tm 10))]) (.seq (.region [
 o1 11 (.mov (tm 1)),
 o1 12 (.mov (tm 0)),
 o1 13 (.mov (tm 5)),
 o1 14 (.indexSl 5 (tm 12) (tm 13)),
 o1 15 (.load (some 5) (tm 14)),
 o1 16 (.callV (tm 11) [(tm 15)])]) (.cond (tm 16)
 (.seq (.region [
 o1 17 (.mov (tm 5)),
 o1 4 (.mov (tm 17))]) .ret)
 .skip)))) (.region [
 o1 18 (.bin .add (so (.binOp .add 3 (tm 8) (.const (.int .i64 1)) 3) 3) (tm 8) (.const (.int .i64 1))),
 o1 8 (.mov (tm 18))]))))
def zmQ_c : ACode :=
 (.seq (.region [
 o1 4 (.mov k0)]) (.seq (.seq (.region [
 o1 6 (.mov (tm 0)),
 o1 7 (.lenSl (tm 6)),
 o1 8 (.mov k0)]) (.block 0 (.loop zmQ_l0))) (.seq (.region [
 o1 4 (.mov (.const (.int .i64 (-1))))]) .ret)))
def zmQ : AFunc := ⟨19, [(4, none)], zmQ_c, none⟩
theorem zmQ_t0 : tableOf Try.prog 54 = some zmQ := by kernel_rfl
theorem zmQ_t : T0 54 = some zmQ := withKept_t rfl (withTrue_t rfl zmQ_t0)
theorem zmQ_runs {v0 v1 : Value} {h : Heap} {R : RP} {X : XP} (k : RunC Try.prog T0 zmQ_c ⟨[v0, v1, U, U, U, U, U, U, U, U, U, U, U, U, U, U, U, U, U], [], h, none⟩ (bodyQ Try.prog T0 [(4, none)] R X)) :
 Runs Try.prog T0 (.fn 54) [v0, v1] h R X := Runs.fn zmQ_t rfl k
def zmQ_l0_J (f0 f1 f2 f3 f6 f7 : Value) (ds : List Deferred) (rd : Option Nat) (I : Nat → Value → Heap → Prop) (m : Nat) (s : St) : Prop := ∃ (v8 : Value), ∃ h : Heap, ∃ (x4 x5 x9 x10 x11 x12 x13 x14 x15 x16 x17 x18 : Value), s = ⟨[f0, f1, f2, f3, x4, x5, f6, f7, v8, x9, x10, x11, x12, x13, x14, x15, x16, x17, x18], ds, h, rd⟩ ∧ I m v8 h
theorem zmQ_l0_rule {f0 f1 f2 f3 f6 f7 : Value} {ds : List Deferred} {rd : Option Nat} {Q : QP} (I : Nat → Value → Heap → Prop) (hb : ∀ (m : Nat) (v8 : Value) (h : Heap) (x4 x5 x9 x10 x11 x12 x13 x14 x15 x16 x17 x18 : Value) , I m v8 h → RunC Try.prog T0 zmQ_l0 ⟨[f0, f1, f2, f3, x4, x5, f6, f7, v8, x9, x10, x11, x12, x13, x14, x15, x16, x17, x18], ds, h, rd⟩ (loopQ (zmQ_l0_J f0 f1 f2 f3 f6 f7 ds rd I) m Q))
 (m : Nat) {v8 : Value} {h : Heap} {x4 x5 x9 x10 x11 x12 x13 x14 x15 x16 x17 x18 : Value} (hi : I m v8 h) : RunC Try.prog T0 (.loop zmQ_l0) ⟨[f0, f1, f2, f3, x4, x5, f6, f7, v8, x9, x10, x11, x12, x13, x14, x15, x16, x17, x18], ds, h, rd⟩ Q :=
 RunC.loopJ (zmQ_l0_J f0 f1 f2 f3 f6 f7 ds rd I) (fun m s hj => by obtain ⟨v8, h, x4, x5, x9, x10, x11, x12, x13, x14, x15, x16, x17, x18, rfl, hi⟩ := hj; exact hb m v8 h x4 x5 x9 x10 x11 x12 x13 x14 x15 x16 x17 x18 hi) m _ ⟨_, h, _, _, _, _, _, _, _, _, _, _, _, _, rfl, hi⟩
theorem zmQ_l0_again {f0 f1 f2 f3 f6 f7 : Value} {ds : List Deferred} {rd : Option Nat} {Q : QP} {I : Nat → Value → Heap → Prop} {m : Nat} (m' : Nat) {v8 : Value} {h : Heap} {x4 x5 x9 x10 x11 x12 x13 x14 x15 x16 x17 x18 : Value} (hm : m' < m) (hi : I m' v8 h) : loopQ (zmQ_l0_J f0 f1 f2 f3 f6 f7 ds rd I) m Q .normal ⟨[f0, f1, f2, f3, x4, x5, f6, f7, v8, x9, x10, x11, x12, x13, x14, x15, x16, x17, x18], ds, h, rd⟩ :=
 loopQ.again m' hm ⟨_, h, _, _, _, _, _, _, _, _, _, _, _, _, rfl, hi⟩
abbrev fn_zrQ : FuncId := 55
def zrQ_c : ACode :=
 (.seq (.region [
 o1 2 (.box 54 (tm 0)),
 o1 3 (.mov (.const (.bool false)))]) (.seq (.region [
 o1 4 (.fieldAddr 0 (tm 2)),
 o1 5 (.load (some 4) (tm 4)),
 o1 6 (.load (some 4) (tm 1)),
 o1 7 (.bin .eql (so (.binOp .eql 42 (tm 5) (tm 6) 42) 4) (tm 5) (tm 6)),
 o1 3 (.mov (tm 7))]) .ret))
def zrQ : AFunc := ⟨8, [(3, none)], zrQ_c, none⟩
theorem zrQ_t0 : tableOf Try.prog 55 = some zrQ := by kernel_rfl
theorem zrQ_t : T0 55 = some zrQ := withKept_t rfl (withTrue_t rfl zrQ_t0)
theorem zrQ_runs {v0 v1 : Value} {h : Heap} {R : RP} {X : XP} (k : RunC Try.prog T0 zrQ_c ⟨[v0, v1, U, U, U, U, U, U], [], h, none⟩ (bodyQ Try.prog T0 [(3, none)] R X)) :
 Runs Try.prog T0 (.fn 55) [v0, v1] h R X := Runs.fn zrQ_t rfl k
abbrev fn_zdbQ : FuncId := 56
def zdbQ_c : ACode :=
 (.seq (.region [
 o1 2 (.mov (.const (.pointer none))),
 o1 3 (.mov k0)]) (.seq (.seq (.region [
 o1 4 (.mov (tm 0)),
 o1 5 (.bin .lss (so (.binOp .lss 3 (tm 4) k0 3) 4) (tm 4) k0),
 o1 6 (.mov (tm 5)),
 o5 7 (.mov (tm 0)) 6,
 o5 8 (.bin .gtr (so (.binOp .gtr 3 (tm 7) (.const (.int .i64 1048576)) 3) 4) (tm 7) (.const (.int .i64 1048576))) 6,
 o1 9 (.pick (tm 6) (.const (.bool true)) (tm 8))]) (.cond (tm 9)
 (.seq (.region [
 o1 2 (.mov (.const (.pointer none))),
 o1 3 (.mov (.const (.int .i64 3)))]) .ret)
 .skip)) (.seq (.region [
 o1 10 (.mov (tm 0)),
 o1 11 (.build [(.int .i64 0), (.slice none 0 0), (.int .i64 0), (.bool false)] [(0, 1, (tm 10)), (3, 1, (.const (.bool true)))]),
 o1 12 (.box 119 (tm 11)),
 o1 2 (.mov (tm 12)),
 o1 3 (.mov k0)]) .ret)))
def zdbQ : AFunc := ⟨13, [(2, none), (3, none)], zdbQ_c, none⟩
theorem zdbQ_t0 : tableOf Try.prog 56 = some zdbQ := by kernel_rfl
theorem zdbQ_t : T0 56 = some zdbQ := withKept_t rfl (withTrue_t rfl zdbQ_t0)
theorem zdbQ_runs {v0 : Value} {h : Heap} {R : RP} {X : XP} (k : RunC Try.prog T0 zdbQ_c ⟨[v0, U, U, U, U, U, U, U, U, U, U, U, U], [], h, none⟩ (bodyQ Try.prog T0 [(2, none), (3, none)] R X)) :
 Runs Try.prog T0 (.fn 56) [v0] h R X := Runs.fn zdbQ_t rfl k
abbrev fn_zobQ : FuncId := 57
def zobQ_c : ACode :=
 (.seq (.region [
 o1 4 (.mov k0)]) (.seq (.region [
 o1 5 (.mov (tm 0)),
 o1 6 (.mov (tm 1)),
 o1 7 (.bin .geq (so (.binOp .geq 3 (tm 6) k0 3) 4) (tm 6) k0),
 o1 8 (.mov (tm 1)),
 o1 9 (.raw (so (.call ⟨.builtin .max, #[(tm 8), k0], #[3, 3]⟩) 3)),
 o1 10 (.callV (.func 82) [(tm 9)]),
 o1 11 (.buildSlice 22 [(.slice none 0 0)] 1 [(0, 1, (tm 10))]),
 o1 12 (.callV (.func 81) [(tm 5), (tm 7), (tm 11)]),
 o1 4 (.mov (tm 12))]) .ret))
def zobQ : AFunc := ⟨13, [(4, none)], zobQ_c, none⟩
theorem zobQ_t0 : tableOf Try.prog 57 = some zobQ := by kernel_rfl
theorem zobQ_t : T0 57 = some zobQ := withKept_t rfl (withTrue_t rfl zobQ_t0)
theorem zobQ_runs {v0 v1 : Value} {h : Heap} {R : RP} {X : XP} (k : RunC Try.prog T0 zobQ_c ⟨[v0, v1, U, U, U, U, U, U, U, U, U, U, U], [], h, none⟩ (bodyQ Try.prog T0 [(4, none)] R X)) :
 Runs Try.prog T0 (.fn 57) [v0, v1] h R X := Runs.fn zobQ_t rfl k
abbrev fn_znbQ : FuncId := 58
def znbQ_c : ACode :=
 (.seq (.region [
 o1 3 (.box 42 (tm 1)),
 o1 4 (.mov k0)]) (.seq (.region [
 o1 5 (.mov (tm 0)),
 o1 6 (.sliceArr 4 1 (tm 3) none none),
 o1 7 (.buildSlice 22 [(.slice none 0 0)] 1 [(0, 1, (tm 6))]),
 o1 8 (.callV (.func 81) [(tm 5), (.const (.bool true)), (tm 7)]),
 o1 4 (.mov (tm 8))]) .ret))
def znbQ : AFunc := ⟨9, [(4, none)], znbQ_c, none⟩
theorem znbQ_t0 : tableOf Try.prog 58 = some znbQ := by kernel_rfl
theorem znbQ_t : T0 58 = some znbQ := withKept_t rfl (withTrue_t rfl znbQ_t0)
theorem znbQ_runs {v0 v1 : Value} {h : Heap} {R : RP} {X : XP} (k : RunC Try.prog T0 znbQ_c ⟨[v0, v1, U, U, U, U, U, U, U], [], h, none⟩ (bodyQ Try.prog T0 [(4, none)] R X)) :
 Runs Try.prog T0 (.fn 58) [v0, v1] h R X := Runs.fn znbQ_t rfl k
abbrev fn_zmbQ : FuncId := 59
def zmbQ_c : ACode :=
 (.seq (.region [
 o1 2 (.mov (.const (.slice none 0 0))),
 o1 3 (.mov k0)]) (.seq (.block 0 (.seq (.region [
 o1 5 (.mov (tm 0)),
 o1 6 (.eq .ptr false (so (.binOp .eql 88 (tm 5) (.const (.pointer none)) 88) 4) (tm 5) (.const (.pointer none))),
 o1 7 (.mov (tm 6)),
 o5 8 (.mov (tm 0)) 7,
 o5 9 (.nilCheck (tm 8)) 7,
 o5 10 (.fieldAddr 3 (tm 9)) 7,
 o5 11 (.load none (tm 10)) 7,
 o5 12 (.raw (so (.unOp .not 4 (tm 11)) 4)) 7,
 o1 13 (.pick (tm 7) (.const (.bool true)) (tm 12)),
 o1 4 (.mov (tm 13))]) (.cond (tm 4)
 (.seq (.region [
 o1 2 (.mov (.const (.slice none 0 0))),
 o1 3 (.mov (.const (.int .i64 1)))]) .ret)
 (.seq (.region [
 o1 15 (.mov (tm 0)),
 o1 16 (.nilCheck (tm 15)),
 o1 17 (.fieldAddr 2 (tm 16)),
 o1 18 (.load none (tm 17)),
 o1 19 (.bin .neq (so (.binOp .neq 26 (tm 18) k0 26) 4) (tm 18) k0),
 o1 14 (.mov (tm 19))]) (.cond (tm 14)
 (.seq (.regionD [
 o1 20 (.mov (tm 0)),
 o1 21 (.nilCheck (tm 20)),
 o1 22 (.fieldAddr 2 (tm 21)),
 o1 23 (.load none (tm 22)),
 o1 2 (.mov (.const (.slice none 0 0))),
 o2 3 (.mov (tm 23))]) .ret)
 .skip))))) (.seq (.region [
 o1 24 (.mov (tm 0)),
 o1 25 (.nilCheck (tm 24)),
 o1 26 (.fieldAddr 1 (tm 25)),
 o1 27 (.load none (tm 26)),
 o1 28 (.callV (.func 70) [(tm 27)]),
 o1 2 (.mov (tm 28)),
 o1 3 (.mov k0)]) .ret)))
def zmbQ : AFunc := ⟨29, [(2, none), (3, none)], zmbQ_c, none⟩
theorem zmbQ_t0 : tableOf Try.prog 59 = some zmbQ := by kernel_rfl
theorem zmbQ_t : T0 59 = some zmbQ := withKept_t rfl (withTrue_t rfl zmbQ_t0)
theorem zmbQ_runs {v0 : Value} {h : Heap} {R : RP} {X : XP} (k : RunC Try.prog T0 zmbQ_c ⟨[v0, U, U, U, U, U, U, U, U, U, U, U, U, U, U, U, U, U, U, U, U, U, U, U, U, U, U, U, U], [], h, none⟩ (bodyQ Try.prog T0 [(2, none), (3, none)] R X)) :
 Runs Try.prog T0 (.fn 59) [v0] h R X := Runs.fn zmbQ_t rfl k
abbrev fn_zabQ : FuncId := 60
def zabQ_l0 : ACode :=
 (.seq (.seq (.region [
 o1 7 (.mov (tm 1)),
 o1 8 (.bin .lss (so (.binOp .lss 3 (tm 7) (.const (.int .i64 3)) 3) 4) (tm 7) (.const (.int .i64 3))),
 o1 9 (.mov (tm 8)),
 o4 10 (.mov (tm 2)) 9,
 o4 11 (.bin .gtr (so (.binOp .gtr 50 (tm 10) (.const (.int .u64 0)) 50) 4) (tm 10) (.const (.int .u64 0))) 9,
 o1 12 (.pick (tm 9) (tm 11) (.const (.bool false)))]) (.cond (tm 12)
 .skip
 (.exit 0))) (.seq (.block 1 (.seq (.regionD [
 o1 15 (.mov (tm 0)),
 o1 16 (.mov (tm 1)),
 o1 17 (.nilCheck (tm 15)),
 o1 18 (.indexArr 3 1 (tm 17) (tm 16)),
 o1 19 (.load none (tm 18)),
 o1 20 (.mov (tm 2)),
 o1 21 (.bin .add (so (.binOp .add 50 (tm 19) (tm 20) 50) 50) (tm 19) (tm 20)),
 o1 22 (.nilCheck (tm 15)),
 o2 23 (.indexArr 3 1 (tm 22) (tm 16)),
 ⟨none, .store 1 (tm 23) (tm 21), none, [], true⟩]) (.seq (.region [
 o1 24 (.mov (tm 0)),
 o1 25 (.mov (tm 1)),
 o1 26 (.nilCheck (tm 24)),
 o1 27 (.indexArr 3 1 (tm 26) (tm 25)),
 o1 28 (.load none (tm 27)),
 o1 29 (.mov (tm 2)),
 o1 30 (.bin .lss (so (.binOp .lss 50 (tm 28) (tm 29) 50) 4) (tm 28) (tm 29))]) (.cond (tm 30)
 (.region [
 o1 2 (.mov (.const (.int .u64 1)))])
 (.region [
 o1 2 (.mov (.const (.int .u64 0)))]))))) (.region [
 o1 13 (.mov (tm 1)),
 o1 14 (.bin .add (so (.binOp .add 3 (tm 13) (.const (.int .i64 1)) 3) 3) (tm 13) (.const (.int .i64 1))),
 o1 1 (.mov (tm 14))])))
def zabQ_c : ACode :=
 (.seq (.region [
 o1 6 (.mov (.const (.int .u64 0)))]) (.seq (.block 0 (.loop zabQ_l0)) (.seq (.region [
 o1 31 (.mov (tm 2)),
 o1 6 (.mov (tm 31))]) .ret)))
def zabQ : AFunc := ⟨32, [(6, none)], zabQ_c, none⟩
theorem zabQ_t0 : tableOf Try.prog 60 = some zabQ := by kernel_rfl
theorem zabQ_t : T0 60 = some zabQ := withKept_t rfl (withTrue_t rfl zabQ_t0)
theorem zabQ_runs {v0 v1 v2 : Value} {h : Heap} {R : RP} {X : XP} (k : RunC Try.prog T0 zabQ_c ⟨[v0, v1, v2, U, U, U, U, U, U, U, U, U, U, U, U, U, U, U, U, U, U, U, U, U, U, U, U, U, U, U, U, U], [], h, none⟩ (bodyQ Try.prog T0 [(6, none)] R X)) :
 Runs Try.prog T0 (.fn 60) [v0, v1, v2] h R X := Runs.fn zabQ_t rfl k
def zabQ_l0_J (f0 f3 f4 f5 f6 f31 : Value) (ds : List Deferred) (rd : Option Nat) (I : Nat → Value → Value → Heap → Prop) (m : Nat) (s : St) : Prop := ∃ (v1 v2 : Value), ∃ h : Heap, ∃ (x7 x8 x9 x10 x11 x12 x13 x14 x15 x16 x17 x18 x19 x20 x21 x22 x23 x24 x25 x26 x27 x28 x29 x30 : Value), s = ⟨[f0, v1, v2, f3, f4, f5, f6, x7, x8, x9, x10, x11, x12, x13, x14, x15, x16, x17, x18, x19, x20, x21, x22, x23, x24, x25, x26, x27, x28, x29, x30, f31], ds, h, rd⟩ ∧ I m v1 v2 h
theorem zabQ_l0_rule {f0 f3 f4 f5 f6 f31 : Value} {ds : List Deferred} {rd : Option Nat} {Q : QP} (I : Nat → Value → Value → Heap → Prop) (hb : ∀ (m : Nat) (v1 v2 : Value) (h : Heap) (x7 x8 x9 x10 x11 x12 x13 x14 x15 x16 x17 x18 x19 x20 x21 x22 x23 x24 x25 x26 x27 x28 x29 x30 : Value) , I m v1 v2 h → RunC Try.prog T0 zabQ_l0 ⟨[f0, v1, v2, f3, f4, f5, f6, x7, x8, x9, x10, x11, x12, x13, x14, x15, x16, x17, x18, x19, x20, x21, x22, x23, x24, x25, x26, x27, x28, x29, x30, f31], ds, h, rd⟩ (loopQ (zabQ_l0_J f0 f3 f4 f5 f6 f31 ds rd I) m Q))
 (m : Nat) {v1 v2 : Value} {h : Heap} {x7 x8 x9 x10 x11 x12 x13 x14 x15 x16 x17 x18 x19 x20 x21 x22 x23 x24 x25 x26 x27 x28 x29 x30 : Value} (hi : I m v1 v2 h) : RunC Try.prog T0 (.loop zabQ_l0) ⟨[f0, v1, v2, f3, f4, f5, f6, x7, x8, x9, x10, x11, x12, x13, x14, x15, x16, x17, x18, x19, x20, x21, x22, x23, x24, x25, x26, x27, x28, x29, x30, f31], ds, h, rd⟩ Q :=
 RunC.loopJ (zabQ_l0_J f0 f3 f4 f5 f6 f31 ds rd I) (fun m s hj => by obtain ⟨v1, v2, h, x7, x8, x9, x10, x11, x12, x13, x14, x15, x16, x17, x18, x19, x20, x21, x22, x23, x24, x25, x26, x27, x28, x29, x30, rfl, hi⟩ := hj; exact hb m v1 v2 h x7 x8 x9 x10 x11 x12 x13 x14 x15 x16 x17 x18 x19 x20 x21 x22 x23 x24 x25 x26 x27 x28 x29 x30 hi) m _ ⟨_, _, h, _, _, _, _, _, _, _, _, _, _, _, _, _, _, _, _, _, _, _, _, _, _, _, _, rfl, hi⟩
theorem zabQ_l0_again {f0 f3 f4 f5 f6 f31 : Value} {ds : List Deferred} {rd : Option Nat} {Q : QP} {I : Nat → Value → Value → Heap → Prop} {m : Nat} (m' : Nat) {v1 v2 : Value} {h : Heap} {x7 x8 x9 x10 x11 x12 x13 x14 x15 x16 x17 x18 x19 x20 x21 x22 x23 x24 x25 x26 x27 x28 x29 x30 : Value} (hm : m' < m) (hi : I m' v1 v2 h) : loopQ (zabQ_l0_J f0 f3 f4 f5 f6 f31 ds rd I) m Q .normal ⟨[f0, v1, v2, f3, f4, f5, f6, x7, x8, x9, x10, x11, x12, x13, x14, x15, x16, x17, x18, x19, x20, x21, x22, x23, x24, x25, x26, x27, x28, x29, x30, f31], ds, h, rd⟩ :=
 loopQ.again m' hm ⟨_, _, h, _, _, _, _, _, _, _, _, _, _, _, _, _, _, _, _, _, _, _, _, _, _, _, _, rfl, hi⟩
abbrev fn_zbbQ : FuncId := 61
def zbbQ_c : ACode :=
 (.seq (.region [
 o1 1 (.box 95 (tm 0)),
 o1 2 (.alloc 52 [(.int .u64 0), (.int .u64 0)]),
 o1 3 (.mov k0)]) (.seq (.seq (.region [
 o1 4 (.indexArr 3 1 (tm 1) (.const (.int .i64 2))),
 o1 5 (.load none (tm 4)),
 o1 6 (.bin .gtr (so (.binOp .gtr 50 (tm 5) (.const (.int .u64 0)) 50) 4) (tm 5) (.const (.int .u64 0)))]) (.cond (tm 6)
 (.seq (.region [
 o1 7 (.build [(.int .u64 0), (.int .u64 0)] []),
 o3 (.store 2 (tm 2) (tm 7)),
 o1 3 (.mov (.const (.int .i64 7)))]) .ret)
 .skip)) (.seq (.region [
 o1 8 (.indexArr 3 1 (tm 1) (.const (.int .i64 1))),
 o1 9 (.load none (tm 8)),
 o1 10 (.indexArr 3 1 (tm 1) k0),
 o1 11 (.load none (tm 10)),
 o1 12 (.build [(.int .u64 0), (.int .u64 0)] [(0, 1, (tm 9)), (1, 1, (tm 11))]),
 o3 (.store 2 (tm 2) (tm 12)),
 o1 3 (.mov k0)]) .ret)))
def zbbQ : AFunc := ⟨13, [(2, some (some 2)), (3, none)], zbbQ_c, none⟩
theorem zbbQ_t0 : tableOf Try.prog 61 = some zbbQ := by kernel_rfl
theorem zbbQ_t : T0 61 = some zbbQ := withKept_t rfl (withTrue_t rfl zbbQ_t0)
theorem zbbQ_runs {v0 : Value} {h : Heap} {R : RP} {X : XP} (k : RunC Try.prog T0 zbbQ_c ⟨[v0, U, U, U, U, U, U, U, U, U, U, U, U], [], h, none⟩ (bodyQ Try.prog T0 [(2, some (some 2)), (3, none)] R X)) :
 Runs Try.prog T0 (.fn 61) [v0] h R X := Runs.fn zbbQ_t rfl k
abbrev fn_zxQ : FuncId := 62
def zxQ_c : ACode :=
 (.seq (.region [
 o1 2 (.alloc 52 [(.int .u64 0), (.int .u64 0)]),
 o1 3 (.mov k0)]) (.seq (.region [
 o1 4 (.build [(.int .u64 0), (.int .u64 0)] []),
 o1 5 (.mov (tm 0)),
 o1 6 (.callV (.func 83) [(tm 4), (tm 5), (.func 84)]),
 o1 7 (.extract 0 (tm 6)),
 o1 8 (.extract 1 (tm 6)),
 o3 (.store 2 (tm 2) (tm 7)),
 o1 3 (.mov (tm 8))]) .ret))
def zxQ : AFunc := ⟨9, [(2, some (some 2)), (3, none)], zxQ_c, none⟩
theorem zxQ_t0 : tableOf Try.prog 62 = some zxQ := by kernel_rfl
theorem zxQ_t : T0 62 = some zxQ := withKept_t rfl (withTrue_t rfl zxQ_t0)
theorem zxQ_runs {v0 : Value} {h : Heap} {R : RP} {X : XP} (k : RunC Try.prog T0 zxQ_c ⟨[v0, U, U, U, U, U, U, U, U], [], h, none⟩ (bodyQ Try.prog T0 [(2, some (some 2)), (3, none)] R X)) :
 Runs Try.prog T0 (.fn 62) [v0] h R X := Runs.fn zxQ_t rfl k
abbrev fn_zjQ : FuncId := 70
def zjQ_c : ACode :=
 (.seq (.region [
 o1 2 (.mov (.const (.slice none 0 0)))]) (.seq (.seq (.region [
 o1 3 (.mov (tm 0)),
 o1 4 (.eq .slice false (so (.binOp .eql 22 (tm 3) (.const (.slice none 0 0)) 22) 4) (tm 3) (.const (.slice none 0 0)))]) (.cond (tm 4)
 (.seq (.region [
 o1 2 (.mov (.const (.slice none 0 0)))]) .ret)
 .skip)) (.seq (.region [
 o1 5 (.buildSlice 5 [] 0 []),
 o1 6 (.mov (tm 0)),
 o1 7 (.append 5 1 1 [(.int .u8 0)] false (tm 5) (tm 6)),
 o1 2 (.mov (tm 7))]) .ret)))
def zjQ : AFunc := ⟨8, [(2, none)], zjQ_c, none⟩
theorem zjQ_t0 : tableOf Try.prog 70 = some zjQ := by kernel_rfl
theorem zjQ_t : T0 70 = some zjQ := withKept_t rfl (withTrue_t rfl zjQ_t0)
theorem zjQ_runs {v0 : Value} {h : Heap} {R : RP} {X : XP} (k : RunC Try.prog T0 zjQ_c ⟨[v0, U, U, U, U, U, U, U], [], h, none⟩ (bodyQ Try.prog T0 [(2, none)] R X)) :
 Runs Try.prog T0 (.fn 70) [v0] h R X := Runs.fn zjQ_t rfl k
abbrev fn_zubQ : FuncId := 71
def zubQ_c : ACode :=
 (.seq (.region [
 o1 4 (.mov k0)]) (.seq (.seq (.region [
 o1 5 (.mov (tm 0)),
 o1 6 (.eq .ptr false (so (.binOp .eql 68 (tm 5) (.const (.pointer none)) 68) 4) (tm 5) (.const (.pointer none))),
 o1 7 (.mov (tm 6)),
 o5 8 (.mov (tm 0)) 7,
 o5 9 (.nilCheck (tm 8)) 7,
 o5 10 (.fieldAddr 4 (tm 9)) 7,
 o5 11 (.load none (tm 10)) 7,
 o5 12 (.raw (so (.unOp .not 4 (tm 11)) 4)) 7,
 o1 13 (.pick (tm 7) (.const (.bool true)) (tm 12)),
 o1 14 (.mov (tm 13)),
 o5 15 (.mov (tm 0)) 14,
 o5 16 (.nilCheck (tm 15)) 14,
 o5 17 (.fieldAddr 2 (tm 16)) 14,
 o5 18 (.fieldAddr 0 (tm 17)) 14,
 o5 19 (.load none (tm 18)) 14,
 o5 20 (.bin .neq (so (.binOp .neq 26 (tm 19) k0 26) 4) (tm 19) k0) 14,
 o1 21 (.pick (tm 14) (.const (.bool true)) (tm 20))]) (.cond (tm 21)
 (.seq (.region [
 o1 22 (.mov (tm 4)),
 o1 4 (.mov (tm 22))]) .ret)
 .skip)) (.seq (.region [
 o1 23 (.mov (tm 0)),
 o3 (.defer (.func 94) [(tm 23)])]) (.seq (.region [
 o1 24 (.mov (tm 1)),
 o1 25 (.mov (tm 0)),
 o1 26 (.nilCheck (tm 25)),
 o1 27 (.fieldAddr 1 (tm 26)),
 o1 28 (.load none (tm 27)),
 o1 29 (.callV (tm 24) [(tm 28)]),
 o1 4 (.mov (tm 29))]) .ret))))
def zubQ : AFunc := ⟨30, [(4, none)], zubQ_c, none⟩
theorem zubQ_t0 : tableOf Try.prog 71 = some zubQ := by kernel_rfl
theorem zubQ_t : T0 71 = some zubQ := withKept_t rfl (withTrue_t rfl zubQ_t0)
theorem zubQ_runs {v0 v1 : Value} {h : Heap} {R : RP} {X : XP} (k : RunC Try.prog T0 zubQ_c ⟨[v0, v1, U, U, U, U, U, U, U, U, U, U, U, U, U, U, U, U, U, U, U, U, U, U, U, U, U, U, U, U], [], h, none⟩ (bodyQ Try.prog T0 [(4, none)] R X)) :
 Runs Try.prog T0 (.fn 71) [v0, v1] h R X := Runs.fn zubQ_t rfl k
abbrev fn_zkbQ : FuncId := 72
def zkbQ_c : ACode :=
 (.seq (.region [
 o1 4 (.mov k0)]) (.seq (.region [
 o1 8 (.mov (tm 0)),
 o1 9 (.mov (tm 1)),
 o1 10 (.callV (.func 95) [(tm 8), (.const (.int .i64 1)), (tm 9), (.func 96)]),
 o1 11 (.conv .i64 (so (.convert 50 3 (tm 10)) 3) (tm 10)),
 o1 5 (.alloc 3 [(.int .i64 0)]),
 o3 (.store 1 (tm 5) (tm 11))]) (.seq (.region [
 o1 12 (.load none (tm 5)),
 o1 13 (.bin .leq (so (.binOp .leq 3 (tm 12) (.const (.int .i64 8)) 3) 4) (tm 12) (.const (.int .i64 8))),
 o1 14 (.mov (tm 1)),
 o1 15 (.callV (.func 97) [(tm 13), (.const (.int .i64 5)), (tm 14)])]) (.seq (.region [
 o1 6 (.alloc 5 [(.int .u8 0)]),
 o3 (.store 1 (tm 6) (.const (.int .u8 1)))]) (.seq (.region [
 o1 16 (.mov (tm 0)),
 o1 17 (.load none (tm 5)),
 o1 18 (.mov (tm 1)),
 o1 19 (.mkFunc (.func 98) [] [(tm 5), (tm 6)]),
 o1 20 (.callV (.func 95) [(tm 16), (tm 17), (tm 18), (tm 19)]),
 o1 7 (.mov (tm 20))]) (.seq (.region [
 o1 21 (.load none (tm 6)),
 o1 22 (.bin .neq (so (.binOp .neq 5 (tm 21) (.const (.int .u8 0)) 5) 4) (tm 21) (.const (.int .u8 0))),
 o1 23 (.mov (tm 22)),
 o4 24 (.mov (tm 7)) 23,
 o4 25 (.bin .leq (so (.binOp .leq 50 (tm 24) (.const (.int .u64 9223372036854775807)) 50) 4) (tm 24) (.const (.int .u64 9223372036854775807))) 23,
 o1 26 (.pick (tm 23) (tm 25) (.const (.bool false))),
 o1 27 (.mov (tm 1)),
 o1 28 (.callV (.func 97) [(tm 26), (.const (.int .i64 5)), (tm 27)])]) (.seq (.region [
 o1 29 (.mov (tm 7)),
 o1 30 (.conv .i64 (so (.convert 50 3 (tm 29)) 3) (tm 29)),
 o1 4 (.mov (tm 30))]) .ret)))))))
def zkbQ : AFunc := ⟨31, [(4, none)], zkbQ_c, none⟩
theorem zkbQ_t0 : tableOf Try.prog 72 = some zkbQ := by kernel_rfl
theorem zkbQ_t : T0 72 = some zkbQ := withKept_t rfl (withTrue_t rfl zkbQ_t0)
theorem zkbQ_runs {v0 v1 : Value} {h : Heap} {R : RP} {X : XP} (k : RunC Try.prog T0 zkbQ_c ⟨[v0, v1, U, U, U, U, U, U, U, U, U, U, U, U, U, U, U, U, U, U, U, U, U, U, U, U, U, U, U, U, U], [], h, none⟩ (bodyQ Try.prog T0 [(4, none)] R X)) :
 Runs Try.prog T0 (.fn 72) [v0, v1] h R X := Runs.fn zkbQ_t rfl k
abbrev fn_ztbQ : FuncId := 73
def ztbQ_c : ACode :=
 (.seq (.region [
 o1 4 (.alloc 42 [(.int .u8 0), (.int .u8 0), (.int .u8 0), (.int .u8 0)])]) (.seq (.seq (.region [
 o1 5 (.mov (tm 0)),
 o1 6 (.eq .ptr false (so (.binOp .eql 68 (tm 5) (.const (.pointer none)) 68) 4) (tm 5) (.const (.pointer none))),
 o1 7 (.mov (tm 6)),
 o5 8 (.mov (tm 0)) 7,
 o5 9 (.nilCheck (tm 8)) 7,
 o5 10 (.fieldAddr 4 (tm 9)) 7,
 o5 11 (.load none (tm 10)) 7,
 o5 12 (.raw (so (.unOp .not 4 (tm 11)) 4)) 7,
 o1 13 (.pick (tm 7) (.const (.bool true)) (tm 12)),
 o1 14 (.mov (tm 13)),
 o5 15 (.mov (tm 0)) 14,
 o5 16 (.nilCheck (tm 15)) 14,
 o5 17 (.fieldAddr 2 (tm 16)) 14,
 o5 18 (.fieldAddr 0 (tm 17)) 14,
 o5 19 (.load none (tm 18)) 14,
 o5 20 (.bin .neq (so (.binOp .neq 26 (tm 19) k0 26) 4) (tm 19) k0) 14,
 o1 21 (.pick (tm 14) (.const (.bool true)) (tm 20))]) (.cond (tm 21)
 (.seq (.region [
 o1 22 (.load (some 4) (tm 4)),
 o3 (.store 4 (tm 4) (tm 22))]) .ret)
 .skip)) (.seq (.region [
 o1 23 (.mov (tm 0)),
 o3 (.defer (.func 94) [(tm 23)])]) (.seq (.region [
 o1 24 (.mov (tm 1)),
 o1 25 (.mov (tm 0)),
 o1 26 (.nilCheck (tm 25)),
 o1 27 (.fieldAddr 1 (tm 26)),
 o1 28 (.load none (tm 27)),
 o1 29 (.callV (tm 24) [(tm 28)]),
 o3 (.store 4 (tm 4) (tm 29))]) .ret))))
def ztbQ : AFunc := ⟨30, [(4, some (some 4))], ztbQ_c, none⟩
theorem ztbQ_t0 : tableOf Try.prog 73 = some ztbQ := by kernel_rfl
theorem ztbQ_t : T0 73 = some ztbQ := withKept_t rfl (withTrue_t rfl ztbQ_t0)
theorem ztbQ_runs {v0 v1 : Value} {h : Heap} {R : RP} {X : XP} (k : RunC Try.prog T0 ztbQ_c ⟨[v0, v1, U, U, U, U, U, U, U, U, U, U, U, U, U, U, U, U, U, U, U, U, U, U, U, U, U, U, U, U], [], h, none⟩ (bodyQ Try.prog T0 [(4, some (some 4))] R X)) :
 Runs Try.prog T0 (.fn 73) [v0, v1] h R X := Runs.fn ztbQ_t rfl k
abbrev fn_zgbQ : FuncId := 74
def zgbQ_c : ACode :=
 (.seq (.region [
 o1 3 (.alloc 42 [(.int .u8 0), (.int .u8 0), (.int .u8 0), (.int .u8 0)])]) (.seq (.region [
 o1 4 (.load none (tm 1)),
 o1 5 (.mov (tm 0)),
 o1 6 (.callV (.func 75) [(tm 4), (.const (.int .i64 4)), (tm 5), (.func 76)]),
 o3 (.store 4 (tm 3) (tm 6))]) .ret))
def zgbQ : AFunc := ⟨7, [(3, some (some 4))], zgbQ_c, none⟩
theorem zgbQ_t0 : tableOf Try.prog 74 = some zgbQ := by kernel_rfl
theorem zgbQ_t : T0 74 = some zgbQ := withKept_t rfl (withTrue_t rfl zgbQ_t0)
theorem zgbQ_runs {v0 v1 : Value} {h : Heap} {R : RP} {X : XP} (k : RunC Try.prog T0 zgbQ_c ⟨[v0, v1, U, U, U, U, U], [], h, none⟩ (bodyQ Try.prog T0 [(3, some (some 4))] R X)) :
 Runs Try.prog T0 (.fn 74) [v0, v1] h R X := Runs.fn zgbQ_t rfl k
abbrev fn_zvbQ : FuncId := 75
def zvbQ_c : ACode :=
 (.seq (.region [
 o1 8 (.alloc 42 [(.int .u8 0), (.int .u8 0), (.int .u8 0), (.int .u8 0)])]) (.seq (.regionD [
 o1 9 (.mov (tm 1)),
 o1 10 (.mov (tm 0)),
 o1 11 (.nilCheck (tm 10)),
 o1 12 (.fieldAddr 0 (tm 11)),
 o1 13 (.load none (tm 12)),
 o1 14 (.lenSl (tm 13)),
 o1 15 (.mov (tm 0)),
 o1 16 (.nilCheck (tm 15)),
 o1 17 (.fieldAddr 1 (tm 16)),
 o1 18 (.load none (tm 17)),
 o1 19 (.bin .sub (so (.binOp .sub 3 (tm 14) (tm 18) 3) 3) (tm 14) (tm 18)),
 o1 20 (.bin .leq (so (.binOp .leq 3 (tm 9) (tm 19) 3) 4) (tm 9) (tm 19)),
 o1 21 (.mov (tm 2)),
 o2 22 (.callV (.func 97) [(tm 20), (.const (.int .i64 6)), (tm 21)])]) (.seq (.region [
 o1 23 (.mov (tm 0)),
 o1 24 (.nilCheck (tm 23)),
 o1 25 (.fieldAddr 1 (tm 24)),
 o1 26 (.load none (tm 25)),
 o1 27 (.mov (tm 1)),
 o1 28 (.bin .add (so (.binOp .add 3 (tm 26) (tm 27) 3) 3) (tm 26) (tm 27)),
 o1 29 (.nilCheck (tm 23)),
 o1 30 (.fieldAddr 1 (tm 29)),
 o3 (.store 1 (tm 30) (tm 28))]) (.seq (.regionD [
 o1 31 (.mov (tm 3)),
 o1 32 (.mov (tm 0)),
 o1 33 (.nilCheck (tm 32)),
 o1 34 (.fieldAddr 0 (tm 33)),
 o1 35 (.load none (tm 34)),
 o1 36 (.mov (tm 0)),
 o1 37 (.nilCheck (tm 36)),
 o1 38 (.fieldAddr 1 (tm 37)),
 o1 39 (.load none (tm 38)),
 o1 40 (.mov (tm 1)),
 o1 41 (.bin .sub (so (.binOp .sub 3 (tm 39) (tm 40) 3) 3) (tm 39) (tm 40)),
 o1 42 (.mov (tm 0)),
 o1 43 (.nilCheck (tm 42)),
 o1 44 (.fieldAddr 1 (tm 43)),
 o1 45 (.load none (tm 44)),
 o1 46 (.sliceSl 1 (tm 35) (some (tm 41)) (some (tm 45)) none),
 o2 47 (.callV (tm 31) [(tm 46)]),
 ⟨none, .store 4 (tm 8) (tm 47), none, [], true⟩]) .ret))))
def zvbQ : AFunc := ⟨48, [(8, some (some 4))], zvbQ_c, none⟩
theorem zvbQ_t0 : tableOf Try.prog 75 = some zvbQ := by kernel_rfl
theorem zvbQ_t : T0 75 = some zvbQ := withKept_t rfl (withTrue_t rfl zvbQ_t0)
theorem zvbQ_runs {v0 v1 v2 v3 : Value} {h : Heap} {R : RP} {X : XP} (k : RunC Try.prog T0 zvbQ_c ⟨[v0, v1, v2, v3, U, U, U, U, U, U, U, U, U, U, U, U, U, U, U, U, U, U, U, U, U, U, U, U, U, U, U, U, U, U, U, U, U, U, U, U, U, U, U, U, U, U, U, U], [], h, none⟩ (bodyQ Try.prog T0 [(8, some (some 4))] R X)) :
 Runs Try.prog T0 (.fn 75) [v0, v1, v2, v3] h R X := Runs.fn zvbQ_t rfl k
abbrev fn_zhbQ : FuncId := 76
def zhbQ_c : ACode :=
 (.seq (.region [
 o1 2 (.alloc 42 [(.int .u8 0), (.int .u8 0), (.int .u8 0), (.int .u8 0)])]) (.seq (.region [
 o1 3 (.mov (tm 0)),
 o1 4 (.arrayAt 4 (tm 3)),
 o1 5 (.load (some 4) (tm 4)),
 o3 (.store 4 (tm 2) (tm 5))]) .ret))
def zhbQ : AFunc := ⟨6, [(2, some (some 4))], zhbQ_c, none⟩
theorem zhbQ_t0 : tableOf Try.prog 76 = some zhbQ := by kernel_rfl
theorem zhbQ_t : T0 76 = some zhbQ := withKept_t rfl (withTrue_t rfl zhbQ_t0)
theorem zhbQ_runs {v0 : Value} {h : Heap} {R : RP} {X : XP} (k : RunC Try.prog T0 zhbQ_c ⟨[v0, U, U, U, U, U], [], h, none⟩ (bodyQ Try.prog T0 [(2, some (some 4))] R X)) :
 Runs Try.prog T0 (.fn 76) [v0] h R X := Runs.fn zhbQ_t rfl k
abbrev fn_zaQ : FuncId := 79
def zaQ_c : ACode :=
 (.seq (.region [
 o1 4 (.mov k0)]) (.seq (.region [
 o1 5 (.mov (tm 0)),
 o1 6 (.mov (tm 1)),
 o1 7 (.ext .compare (.func 99) [(tm 5), (tm 6)]),
 o1 4 (.mov (tm 7))]) .ret))
def zaQ : AFunc := ⟨8, [(4, none)], zaQ_c, none⟩
theorem zaQ_t0 : tableOf Try.prog 79 = some zaQ := by kernel_rfl
theorem zaQ_t : T0 79 = some zaQ := withKept_t rfl (withTrue_t rfl zaQ_t0)
theorem zaQ_runs {v0 v1 : Value} {h : Heap} {R : RP} {X : XP} (k : RunC Try.prog T0 zaQ_c ⟨[v0, v1, U, U, U, U, U, U], [], h, none⟩ (bodyQ Try.prog T0 [(4, none)] R X)) :
 Runs Try.prog T0 (.fn 79) [v0, v1] h R X := Runs.fn zaQ_t rfl k
abbrev fn_zpbQ : FuncId := 81
def zpbQ_c : ACode :=
 (.seq (.region [
 o1 6 (.mov k0)]) (.seq (.seq (.region [
 o1 8 (.mov (tm 0)),
 o1 9 (.eq .ptr false (so (.binOp .eql 88 (tm 8) (.const (.pointer none)) 88) 4) (tm 8) (.const (.pointer none))),
 o1 10 (.mov (tm 9)),
 o5 11 (.mov (tm 0)) 10,
 o5 12 (.nilCheck (tm 11)) 10,
 o5 13 (.fieldAddr 3 (tm 12)) 10,
 o5 14 (.load none (tm 13)) 10,
 o5 15 (.raw (so (.unOp .not 4 (tm 14)) 4)) 10,
 o1 16 (.pick (tm 10) (.const (.bool true)) (tm 15))]) (.cond (tm 16)
 (.seq (.region [
 o1 6 (.mov (.const (.int .i64 1)))]) .ret)
 .skip)) (.seq (.region [
 o1 17 (.mov (tm 2)),
 o1 18 (.callV (.func 100) [(tm 17)]),
 o1 7 (.mov (tm 18))]) (.seq (.block 0 (.seq (.region [
 o1 29 (.mov (tm 0)),
 o1 30 (.nilCheck (tm 29)),
 o1 31 (.fieldAddr 2 (tm 30)),
 o1 32 (.load none (tm 31)),
 o1 33 (.bin .neq (so (.binOp .neq 26 (tm 32) k0 26) 4) (tm 32) k0),
 o1 28 (.mov (tm 33))]) (.cond (tm 28)
 .skip
 (.seq (.region [
 o1 35 (.mov (tm 1)),
 o1 36 (.raw (so (.unOp .not 4 (tm 35)) 4)),
 o1 34 (.mov (tm 36))]) (.cond (tm 34)
 (.region [
 o1 37 (.mov (tm 0)),
 o1 38 (.nilCheck (tm 37)),
 o1 39 (.fieldAddr 2 (tm 38)),
 o3 (.store 1 (tm 39) (.const (.int .i64 3)))])
 (.seq (.regionD [
 o1 41 (.mov (tm 0)),
 o1 42 (.nilCheck (tm 41)),
 o1 43 (.fieldAddr 1 (tm 42)),
 o1 44 (.load none (tm 43)),
 o1 45 (.lenSl (tm 44)),
 o1 46 (.mov (tm 7)),
 o1 47 (.lenSl (tm 46)),
 o1 48 (.bin .add (so (.binOp .add 3 (tm 45) (tm 47) 3) 3) (tm 45) (tm 47)),
 o1 49 (.mov (tm 0)),
 o1 50 (.nilCheck (tm 49)),
 o1 51 (.fieldAddr 0 (tm 50)),
 o1 52 (.load none (tm 51)),
 o2 53 (.bin .gtr (so (.binOp .gtr 3 (tm 48) (tm 52) 3) 4) (tm 48) (tm 52)),
 o2 40 (.mov (tm 53))]) (.cond (tm 40)
 (.region [
 o1 54 (.mov (tm 0)),
 o1 55 (.nilCheck (tm 54)),
 o1 56 (.fieldAddr 2 (tm 55)),
 o3 (.store 1 (tm 56) (.const (.int .i64 4)))])
 (.region [
 o1 19 (.mov (tm 0)),
 o1 20 (.mov (tm 0)),
 o1 21 (.nilCheck (tm 20)),
 o1 22 (.fieldAddr 1 (tm 21)),
 o1 23 (.load none (tm 22)),
 o1 24 (.mov (tm 7)),
 o1 25 (.append 5 1 1 [(.int .u8 0)] false (tm 23) (tm 24)),
 o1 26 (.nilCheck (tm 19)),
 o1 27 (.fieldAddr 1 (tm 26)),
 o3 (.store 1 (tm 27) (tm 25))])))))))) (.seq (.region [
 o1 57 (.mov (tm 0)),
 o1 58 (.nilCheck (tm 57)),
 o1 59 (.fieldAddr 2 (tm 58)),
 o1 60 (.load none (tm 59)),
 o1 6 (.mov (tm 60))]) .ret)))))
def zpbQ : AFunc := ⟨61, [(6, none)], zpbQ_c, none⟩
theorem zpbQ_t0 : tableOf Try.prog 81 = some zpbQ := by kernel_rfl
theorem zpbQ_t : T0 81 = some zpbQ := withKept_t rfl (withTrue_t rfl zpbQ_t0)
theorem zpbQ_runs {v0 v1 v2 : Value} {h : Heap} {R : RP} {X : XP} (k : RunC Try.prog T0 zpbQ_c ⟨[v0, v1, v2, U, U, U, U, U, U, U, U, U, U, U, U, U, U, U, U, U, U, U, U, U, U, U, U, U, U, U, U, U, U, U, U, U, U, U, U, U, U, U, U, U, U, U, U, U, U, U, U, U, U, U, U, U, U, U, U, U, U], [], h, none⟩ (bodyQ Try.prog T0 [(6, none)] R X)) :
 Runs Try.prog T0 (.fn 81) [v0, v1, v2] h R X := Runs.fn zpbQ_t rfl k
abbrev fn_zsbQ : FuncId := 82
def zsbQ_l0 : ACode :=
 (.seq (.seq (.region [
 o1 5 (.mov (tm 0)),
 o1 6 (.bin .gtr (so (.binOp .gtr 3 (tm 5) k0 3) 4) (tm 5) k0)]) (.cond (tm 6)
 .skip
 (.exit 0))) (.seq (.block 1 (.seq (.region [
 o1 9 (.mov (tm 4)),
 o1 10 (.bin .sub (so (.binOp .sub 3 (.const (.int .i64 8)) (tm 9) 3) 3) (.const (.int .i64 8)) (tm 9)),
 o1 11 (.mov (tm 0)),
 o1 12 (.conv .u8 (so (.convert 3 5 (tm 11)) 5) (tm 11)),
 o1 13 (.indexArr 9 1 (tm 3) (tm 10)),
 o3 (.store 1 (tm 13) (tm 12))]) (.region [
 o1 14 (.mov (tm 4)),
 o1 15 (.bin .add (so (.binOp .add 3 (tm 14) (.const (.int .i64 1)) 3) 3) (tm 14) (.const (.int .i64 1))),
 o1 4 (.mov (tm 15))]))) (.region [
 o1 7 (.mov (tm 0)),
 o1 8 (.bin .shr (so (.binOp .shr 3 (tm 7) (.const (.int .u64 8)) 115) 3) (tm 7) (.const (.int .u64 8))),
 o1 0 (.mov (tm 8))])))
def zsbQ_c : ACode :=
 (.seq (.region [
 o1 2 (.mov (.const (.slice none 0 0)))]) (.seq (.region [
 o1 3 (.alloc 140 [(.int .u8 0), (.int .u8 0), (.int .u8 0), (.int .u8 0), (.int .u8 0), (.int .u8 0), (.int .u8 0), (.int .u8 0), (.int .u8 0)])]) (.seq (.region [
 o1 4 (.mov k0)]) (.seq (.block 0 (.loop zsbQ_l0)) (.seq (.region [
 o1 16 (.mov (tm 4)),
 o1 17 (.bin .sub (so (.binOp .sub 3 (.const (.int .i64 8)) (tm 16) 3) 3) (.const (.int .i64 8)) (tm 16)),
 o1 18 (.mov (tm 4)),
 o1 19 (.conv .u8 (so (.convert 3 5 (tm 18)) 5) (tm 18)),
 o1 20 (.indexArr 9 1 (tm 3) (tm 17)),
 o3 (.store 1 (tm 20) (tm 19))]) (.seq (.region [
 o1 21 (.mov (tm 4)),
 o1 22 (.bin .sub (so (.binOp .sub 3 (.const (.int .i64 8)) (tm 21) 3) 3) (.const (.int .i64 8)) (tm 21)),
 o1 23 (.sliceArr 9 1 (tm 3) (some (tm 22)) none),
 o1 2 (.mov (tm 23))]) .ret))))))
def zsbQ : AFunc := ⟨24, [(2, none)], zsbQ_c, none⟩
theorem zsbQ_t0 : tableOf Try.prog 82 = some zsbQ := by kernel_rfl
theorem zsbQ_t : T0 82 = some zsbQ := withKept_t rfl (withTrue_t rfl zsbQ_t0)
theorem zsbQ_runs {v0 : Value} {h : Heap} {R : RP} {X : XP} (k : RunC Try.prog T0 zsbQ_c ⟨[v0, U, U, U, U, U, U, U, U, U, U, U, U, U, U, U, U, U, U, U, U, U, U, U], [], h, none⟩ (bodyQ Try.prog T0 [(2, none)] R X)) :
 Runs Try.prog T0 (.fn 82) [v0] h R X := Runs.fn zsbQ_t rfl k
def zsbQ_l0_J (f1 f2 f3 f16 f17 f18 f19 f20 f21 f22 f23 : Value) (ds : List Deferred) (rd : Option Nat) (I : Nat → Value → Value → Heap → Prop) (m : Nat) (s : St) : Prop := ∃ (v0 v4 : Value), ∃ h : Heap, ∃ (x5 x6 x7 x8 x9 x10 x11 x12 x13 x14 x15 : Value), s = ⟨[v0, f1, f2, f3, v4, x5, x6, x7, x8, x9, x10, x11, x12, x13, x14, x15, f16, f17, f18, f19, f20, f21, f22, f23], ds, h, rd⟩ ∧ I m v0 v4 h
theorem zsbQ_l0_rule {f1 f2 f3 f16 f17 f18 f19 f20 f21 f22 f23 : Value} {ds : List Deferred} {rd : Option Nat} {Q : QP} (I : Nat → Value → Value → Heap → Prop) (hb : ∀ (m : Nat) (v0 v4 : Value) (h : Heap) (x5 x6 x7 x8 x9 x10 x11 x12 x13 x14 x15 : Value) , I m v0 v4 h → RunC Try.prog T0 zsbQ_l0 ⟨[v0, f1, f2, f3, v4, x5, x6, x7, x8, x9, x10, x11, x12, x13, x14, x15, f16, f17, f18, f19, f20, f21, f22, f23], ds, h, rd⟩ (loopQ (zsbQ_l0_J f1 f2 f3 f16 f17 f18 f19 f20 f21 f22 f23 ds rd I) m Q))
 (m : Nat) {v0 v4 : Value} {h : Heap} {x5 x6 x7 x8 x9 x10 x11 x12 x13 x14 x15 : Value} (hi : I m v0 v4 h) : RunC Try.prog T0 (.loop zsbQ_l0) ⟨[v0, f1, f2, f3, v4, x5, x6, x7, x8, x9, x10, x11, x12, x13, x14, x15, f16, f17, f18, f19, f20, f21, f22, f23], ds, h, rd⟩ Q :=
 RunC.loopJ (zsbQ_l0_J f1 f2 f3 f16 f17 f18 f19 f20 f21 f22 f23 ds rd I) (fun m s hj => by obtain ⟨v0, v4, h, x5, x6, x7, x8, x9, x10, x11, x12, x13, x14, x15, rfl, hi⟩ := hj; exact hb m v0 v4 h x5 x6 x7 x8 x9 x10 x11 x12 x13 x14 x15 hi) m _ ⟨_, _, h, _, _, _, _, _, _, _, _, _, _, _, rfl, hi⟩
theorem zsbQ_l0_again {f1 f2 f3 f16 f17 f18 f19 f20 f21 f22 f23 : Value} {ds : List Deferred} {rd : Option Nat} {Q : QP} {I : Nat → Value → Value → Heap → Prop} {m : Nat} (m' : Nat) {v0 v4 : Value} {h : Heap} {x5 x6 x7 x8 x9 x10 x11 x12 x13 x14 x15 : Value} (hm : m' < m) (hi : I m' v0 v4 h) : loopQ (zsbQ_l0_J f1 f2 f3 f16 f17 f18 f19 f20 f21 f22 f23 ds rd I) m Q .normal ⟨[v0, f1, f2, f3, v4, x5, x6, x7, x8, x9, x10, x11, x12, x13, x14, x15, f16, f17, f18, f19, f20, f21, f22, f23], ds, h, rd⟩ :=
 loopQ.again m' hm ⟨_, _, h, _, _, _, _, _, _, _, _, _, _, _, rfl, hi⟩
abbrev fn_zzQ : FuncId := 83
def zzQ_l0 : ACode :=
 (.seq (.region [
 o1 16 (.bin .lss (so (.binOp .lss 3 (tm 15) (tm 14) 3) 0) (tm 15) (tm 14))]) (.seq (.cond (tm 16)
 .skip
 (.exit 0)) (.seq (.block 1 (.seq (.region [
 o1 17 (.indexSl 1 (tm 13) (tm 15)),
 o1 18 (.load none (tm 17)),
 o1 9 (.mov (tm 18))]) (.seq (.region [
 o1 20 (.mov (tm 2)),
 o1 21 (.load (some 2) (tm 3)),
 o1 22 (.mov (tm 9)),
 o1 23 (.callV (tm 20) [(tm 21), (tm 22)]),
 o1 19 (.mov (tm 23)),
 o1 24 (.extract 0 (tm 19)),
 o1 25 (.extract 1 (tm 19)),
 o1 10 (.alloc 52 [(.int .u64 0), (.int .u64 0)]),
 o3 (.store 2 (tm 10) (tm 24)),
 o1 11 (.mov (tm 25))]) (.seq (.seq (.region [
 o1 26 (.mov (tm 11)),
 o1 27 (.bin .neq (so (.binOp .neq 26 (tm 26) k0 26) 4) (tm 26) k0)]) (.cond (tm 27)
 (.seq (.region [
 o1 12 (.alloc 52 [(.int .u64 0), (.int .u64 0)])]) (.seq (.region [
 o1 28 (.load (some 2) (tm 12)),
 o1 29 (.mov (tm 11)),
 o3 (.store 2 (tm 6) (tm 28)),
 o1 7 (.mov (tm 29))]) .ret))
 .skip)) (.region [
 o1 30 (.load (some 2) (tm 10)),
 o3 (.store 2 (tm 3) (tm 30))]))))) (.region [
 o1 31 (.bin .add (so (.binOp .add 3 (tm 15) (.const (.int .i64 1)) 3) 3) (tm 15) (.const (.int .i64 1))),
 o1 15 (.mov (tm 31))]))))
def zzQ_c : ACode :=
 (.seq (.region [
 o1 3 (.box 52 (tm 0)),
 o1 6 (.alloc 52 [(.int .u64 0), (.int .u64 0)]),
 o1 7 (.mov k0)]) (.seq (.seq (.region [
 o1 13 (.mov (tm 1)),
 o1 14 (.lenSl (tm 13)),
 o1 15 (.mov k0)]) (.block 0 (.loop zzQ_l0))) (.seq (.region [
 o1 32 (.load (some 2) (tm 3)),
 o3 (.store 2 (tm 6) (tm 32)),
 o1 7 (.mov k0)]) .ret)))
def zzQ : AFunc := ⟨33, [(6, some (some 2)), (7, none)], zzQ_c, none⟩
theorem zzQ_t0 : tableOf Try.prog 83 = some zzQ := by kernel_rfl
theorem zzQ_t : T0 83 = some zzQ := withKept_t rfl (withTrue_t rfl zzQ_t0)
theorem zzQ_runs {v0 v1 v2 : Value} {h : Heap} {R : RP} {X : XP} (k : RunC Try.prog T0 zzQ_c ⟨[v0, v1, v2, U, U, U, U, U, U, U, U, U, U, U, U, U, U, U, U, U, U, U, U, U, U, U, U, U, U, U, U, U, U], [], h, none⟩ (bodyQ Try.prog T0 [(6, some (some 2)), (7, none)] R X)) :
 Runs Try.prog T0 (.fn 83) [v0, v1, v2] h R X := Runs.fn zzQ_t rfl k
def zzQ_l0_J (f0 f1 f2 f3 f4 f5 f6 f8 f13 f14 f32 : Value) (ds : List Deferred) (rd : Option Nat) (I : Nat → Value → Heap → Prop) (m : Nat) (s : St) : Prop := ∃ (v15 : Value), ∃ h : Heap, ∃ (x7 x9 x10 x11 x12 x16 x17 x18 x19 x20 x21 x22 x23 x24 x25 x26 x27 x28 x29 x30 x31 : Value), s = ⟨[f0, f1, f2, f3, f4, f5, f6, x7, f8, x9, x10, x11, x12, f13, f14, v15, x16, x17, x18, x19, x20, x21, x22, x23, x24, x25, x26, x27, x28, x29, x30, x31, f32], ds, h, rd⟩ ∧ I m v15 h
theorem zzQ_l0_rule {f0 f1 f2 f3 f4 f5 f6 f8 f13 f14 f32 : Value} {ds : List Deferred} {rd : Option Nat} {Q : QP} (I : Nat → Value → Heap → Prop) (hb : ∀ (m : Nat) (v15 : Value) (h : Heap) (x7 x9 x10 x11 x12 x16 x17 x18 x19 x20 x21 x22 x23 x24 x25 x26 x27 x28 x29 x30 x31 : Value) , I m v15 h → RunC Try.prog T0 zzQ_l0 ⟨[f0, f1, f2, f3, f4, f5, f6, x7, f8, x9, x10, x11, x12, f13, f14, v15, x16, x17, x18, x19, x20, x21, x22, x23, x24, x25, x26, x27, x28, x29, x30, x31, f32], ds, h, rd⟩ (loopQ (zzQ_l0_J f0 f1 f2 f3 f4 f5 f6 f8 f13 f14 f32 ds rd I) m Q))
 (m : Nat) {v15 : Value} {h : Heap} {x7 x9 x10 x11 x12 x16 x17 x18 x19 x20 x21 x22 x23 x24 x25 x26 x27 x28 x29 x30 x31 : Value} (hi : I m v15 h) : RunC Try.prog T0 (.loop zzQ_l0) ⟨[f0, f1, f2, f3, f4, f5, f6, x7, f8, x9, x10, x11, x12, f13, f14, v15, x16, x17, x18, x19, x20, x21, x22, x23, x24, x25, x26, x27, x28, x29, x30, x31, f32], ds, h, rd⟩ Q :=
 RunC.loopJ (zzQ_l0_J f0 f1 f2 f3 f4 f5 f6 f8 f13 f14 f32 ds rd I) (fun m s hj => by obtain ⟨v15, h, x7, x9, x10, x11, x12, x16, x17, x18, x19, x20, x21, x22, x23, x24, x25, x26, x27, x28, x29, x30, x31, rfl, hi⟩ := hj; exact hb m v15 h x7 x9 x10 x11 x12 x16 x17 x18 x19 x20 x21 x22 x23 x24 x25 x26 x27 x28 x29 x30 x31 hi) m _ ⟨_, h, _, _, _, _, _, _, _, _, _, _, _, _, _, _, _, _, _, _, _, _, _, rfl, hi⟩
theorem zzQ_l0_again {f0 f1 f2 f3 f4 f5 f6 f8 f13 f14 f32 : Value} {ds : List Deferred} {rd : Option Nat} {Q : QP} {I : Nat → Value → Heap → Prop} {m : Nat} (m' : Nat) {v15 : Value} {h : Heap} {x7 x9 x10 x11 x12 x16 x17 x18 x19 x20 x21 x22 x23 x24 x25 x26 x27 x28 x29 x30 x31 : Value} (hm : m' < m) (hi : I m' v15 h) : loopQ (zzQ_l0_J f0 f1 f2 f3 f4 f5 f6 f8 f13 f14 f32 ds rd I) m Q .normal ⟨[f0, f1, f2, f3, f4, f5, f6, x7, f8, x9, x10, x11, x12, f13, f14, v15, x16, x17, x18, x19, x20, x21, x22, x23, x24, x25, x26, x27, x28, x29, x30, x31, f32], ds, h, rd⟩ :=
 loopQ.again m' hm ⟨_, h, _, _, _, _, _, _, _, _, _, _, _, _, _, _, _, _, _, _, _, _, _, rfl, hi⟩
abbrev fn_zyQ : FuncId := 84
def zyQ_c : ACode :=
 (.seq (.region [
 o1 2 (.box 52 (tm 0)),
 o1 4 (.alloc 52 [(.int .u64 0), (.int .u64 0)]),
 o1 5 (.mov k0)]) (.seq (.region [
 o1 9 (.mov (tm 1)),
 o1 10 (.callV (.func 29) [(tm 9)]),
 o1 8 (.mov (tm 10)),
 o1 11 (.extract 0 (tm 8)),
 o1 12 (.extract 1 (tm 8)),
 o1 6 (.alloc 52 [(.int .u64 0), (.int .u64 0)]),
 o3 (.store 2 (tm 6) (tm 11)),
 o1 7 (.mov (tm 12))]) (.seq (.seq (.region [
 o1 13 (.mov (tm 7)),
 o1 14 (.bin .neq (so (.binOp .neq 26 (tm 13) k0 26) 4) (tm 13) k0)]) (.cond (tm 14)
 (.seq (.region [
 o1 15 (.load (some 2) (tm 6)),
 o1 16 (.mov (tm 7)),
 o3 (.store 2 (tm 4) (tm 15)),
 o1 5 (.mov (tm 16))]) .ret)
 .skip)) (.seq (.region [
 o1 17 (.load (some 2) (tm 2)),
 o1 18 (.load (some 2) (tm 6)),
 o1 19 (.callV (.func 30) [(tm 17), (tm 18)]),
 o1 20 (.extract 0 (tm 19)),
 o1 21 (.extract 1 (tm 19)),
 o3 (.store 2 (tm 4) (tm 20)),
 o1 5 (.mov (tm 21))]) .ret))))
def zyQ : AFunc := ⟨22, [(4, some (some 2)), (5, none)], zyQ_c, none⟩
theorem zyQ_t0 : tableOf Try.prog 84 = some zyQ := by kernel_rfl
theorem zyQ_t : T0 84 = some zyQ := withKept_t rfl (withTrue_t rfl zyQ_t0)
theorem zyQ_runs {v0 v1 : Value} {h : Heap} {R : RP} {X : XP} (k : RunC Try.prog T0 zyQ_c ⟨[v0, v1, U, U, U, U, U, U, U, U, U, U, U, U, U, U, U, U, U, U, U, U], [], h, none⟩ (bodyQ Try.prog T0 [(4, some (some 2)), (5, none)] R X)) :
 Runs Try.prog T0 (.fn 84) [v0, v1] h R X := Runs.fn zyQ_t rfl k
abbrev fn_zjbQ : FuncId := 94
def zjbQ_c : ACode :=
 (.seq (.region [
 o1 5 (.recover),
 o1 2 (.mov (tm 5))]) (.seq (.region [
 o1 6 (.mov (tm 2)),
 o1 7 (.eq .iface true (so (.binOp .neq 20 (tm 6) (.const .nilIface) 20) 4) (tm 6) (.const .nilIface))]) (.cond (tm 7)
 (.seq (.region [
 o1 9 (.mov (tm 2)),
 o1 10 (.assertTo 157 (.agg ⟨[(.int .i64 0), (.int .i64 0)]⟩) true (tm 9)),
 o1 8 (.mov (tm 10)),
 o1 11 (.extract 0 (tm 8)),
 o1 12 (.extract 1 (tm 8)),
 o1 3 (.alloc 157 [(.int .i64 0), (.int .i64 0)]),
 o3 (.store 2 (tm 3) (tm 11)),
 o1 4 (.mov (tm 12))]) (.seq (.seq (.region [
 o1 13 (.mov (tm 4)),
 o1 14 (.raw (so (.unOp .not 4 (tm 13)) 4))]) (.cond (tm 14)
 (.region [
 o1 15 (.mov (tm 2)),
 o3 (.panic (tm 15))])
 .skip)) (.region [
 o1 16 (.mov (tm 0)),
 o1 17 (.fieldAddr 0 (tm 3)),
 o1 18 (.load (some 2) (tm 17)),
 o1 19 (.nilCheck (tm 16)),
 o1 20 (.fieldAddr 2 (tm 19)),
 o3 (.store 2 (tm 20) (tm 18))])))
 .skip)))
def zjbQ : AFunc := ⟨21, [], zjbQ_c, none⟩
theorem zjbQ_t0 : tableOf Try.prog 94 = some zjbQ := by kernel_rfl
theorem zjbQ_t : T0 94 = some zjbQ := withKept_t rfl (withTrue_t rfl zjbQ_t0)
theorem zjbQ_df {v0 : Value} {u : FrameMode} {h : Heap} {R : FrameMode → Heap → Prop} {X : List PanicEntry → FrameMode → Heap → Prop} (k : RunT Try.prog T0 zjbQ_c ⟨⟨[v0, U, U, U, U, U, U, U, U, U, U, U, U, U, U, U, U, U, U, U, U], [], h, none⟩, u⟩ (doneQ [] R X)) :
 RunDf Try.prog T0 94 [v0] u h R X := RunDf.fn zjbQ_t rfl k
abbrev fn_zwbQ : FuncId := 95
def zwbQ_c : ACode :=
 (.seq (.region [
 o1 8 (.mov (.const (.int .u64 0)))]) (.seq (.regionD [
 o1 9 (.mov (tm 1)),
 o1 10 (.mov (tm 0)),
 o1 11 (.nilCheck (tm 10)),
 o1 12 (.fieldAddr 0 (tm 11)),
 o1 13 (.load none (tm 12)),
 o1 14 (.lenSl (tm 13)),
 o1 15 (.mov (tm 0)),
 o1 16 (.nilCheck (tm 15)),
 o1 17 (.fieldAddr 1 (tm 16)),
 o1 18 (.load none (tm 17)),
 o1 19 (.bin .sub (so (.binOp .sub 3 (tm 14) (tm 18) 3) 3) (tm 14) (tm 18)),
 o1 20 (.bin .leq (so (.binOp .leq 3 (tm 9) (tm 19) 3) 4) (tm 9) (tm 19)),
 o1 21 (.mov (tm 2)),
 o2 22 (.callV (.func 97) [(tm 20), (.const (.int .i64 6)), (tm 21)])]) (.seq (.region [
 o1 23 (.mov (tm 0)),
 o1 24 (.nilCheck (tm 23)),
 o1 25 (.fieldAddr 1 (tm 24)),
 o1 26 (.load none (tm 25)),
 o1 27 (.mov (tm 1)),
 o1 28 (.bin .add (so (.binOp .add 3 (tm 26) (tm 27) 3) 3) (tm 26) (tm 27)),
 o1 29 (.nilCheck (tm 23)),
 o1 30 (.fieldAddr 1 (tm 29)),
 o3 (.store 1 (tm 30) (tm 28))]) (.seq (.regionD [
 o1 31 (.mov (tm 3)),
 o1 32 (.mov (tm 0)),
 o1 33 (.nilCheck (tm 32)),
 o1 34 (.fieldAddr 0 (tm 33)),
 o1 35 (.load none (tm 34)),
 o1 36 (.mov (tm 0)),
 o1 37 (.nilCheck (tm 36)),
 o1 38 (.fieldAddr 1 (tm 37)),
 o1 39 (.load none (tm 38)),
 o1 40 (.mov (tm 1)),
 o1 41 (.bin .sub (so (.binOp .sub 3 (tm 39) (tm 40) 3) 3) (tm 39) (tm 40)),
 o1 42 (.mov (tm 0)),
 o1 43 (.nilCheck (tm 42)),
 o1 44 (.fieldAddr 1 (tm 43)),
 o1 45 (.load none (tm 44)),
 o1 46 (.sliceSl 1 (tm 35) (some (tm 41)) (some (tm 45)) none),
 o2 47 (.callV (tm 31) [(tm 46)]),
 o2 8 (.mov (tm 47))]) .ret))))
def zwbQ : AFunc := ⟨48, [(8, none)], zwbQ_c, none⟩
theorem zwbQ_t0 : tableOf Try.prog 95 = some zwbQ := by kernel_rfl
theorem zwbQ_t : T0 95 = some zwbQ := withKept_t rfl (withTrue_t rfl zwbQ_t0)
theorem zwbQ_runs {v0 v1 v2 v3 : Value} {h : Heap} {R : RP} {X : XP} (k : RunC Try.prog T0 zwbQ_c ⟨[v0, v1, v2, v3, U, U, U, U, U, U, U, U, U, U, U, U, U, U, U, U, U, U, U, U, U, U, U, U, U, U, U, U, U, U, U, U, U, U, U, U, U, U, U, U, U, U, U, U], [], h, none⟩ (bodyQ Try.prog T0 [(8, none)] R X)) :
 Runs Try.prog T0 (.fn 95) [v0, v1, v2, v3] h R X := Runs.fn zwbQ_t rfl k
abbrev fn_zqbQ : FuncId := 96
def zqbQ_l0 : ACode :=
 (.seq (.region [
 o1 8 (.bin .lss (so (.binOp .lss 3 (tm 7) (tm 6) 3) 0) (tm 7) (tm 6))]) (.seq (.cond (tm 8)
 .skip
 (.exit 0)) (.seq (.block 1 (.seq (.region [
 o1 9 (.indexSl 1 (tm 5) (tm 7)),
 o1 10 (.load none (tm 9)),
 o1 4 (.mov (tm 10))]) (.region [
 o1 11 (.mov (tm 2)),
 o1 12 (.bin .shl (so (.binOp .shl 50 (tm 11) (.const (.int .u64 8)) 115) 50) (tm 11) (.const (.int .u64 8))),
 o1 13 (.mov (tm 4)),
 o1 14 (.conv .u64 (so (.convert 5 50 (tm 13)) 50) (tm 13)),
 o1 15 (.bin .or (so (.binOp .or 50 (tm 12) (tm 14) 50) 50) (tm 12) (tm 14)),
 o1 2 (.mov (tm 15))]))) (.region [
 o1 16 (.bin .add (so (.binOp .add 3 (tm 7) (.const (.int .i64 1)) 3) 3) (tm 7) (.const (.int .i64 1))),
 o1 7 (.mov (tm 16))]))))
def zqbQ_c : ACode :=
 (.seq (.region [
 o1 2 (.mov (.const (.int .u64 0)))]) (.seq (.seq (.region [
 o1 5 (.mov (tm 0)),
 o1 6 (.lenSl (tm 5)),
 o1 7 (.mov k0)]) (.block 0 (.loop zqbQ_l0))) (.seq (.region [
 o1 17 (.mov (tm 2)),
 o1 2 (.mov (tm 17))]) .ret)))
def zqbQ : AFunc := ⟨18, [(2, none)], zqbQ_c, none⟩
theorem zqbQ_t0 : tableOf Try.prog 96 = some zqbQ := by kernel_rfl
theorem zqbQ_t : T0 96 = some zqbQ := withKept_t rfl (withTrue_t rfl zqbQ_t0)
theorem zqbQ_runs {v0 : Value} {h : Heap} {R : RP} {X : XP} (k : RunC Try.prog T0 zqbQ_c ⟨[v0, U, U, U, U, U, U, U, U, U, U, U, U, U, U, U, U, U], [], h, none⟩ (bodyQ Try.prog T0 [(2, none)] R X)) :
 Runs Try.prog T0 (.fn 96) [v0] h R X := Runs.fn zqbQ_t rfl k
def zqbQ_l0_J (f0 f1 f3 f5 f6 f17 : Value) (ds : List Deferred) (rd : Option Nat) (I : Nat → Value → Value → Heap → Prop) (m : Nat) (s : St) : Prop := ∃ (v2 v7 : Value), ∃ h : Heap, ∃ (x4 x8 x9 x10 x11 x12 x13 x14 x15 x16 : Value), s = ⟨[f0, f1, v2, f3, x4, f5, f6, v7, x8, x9, x10, x11, x12, x13, x14, x15, x16, f17], ds, h, rd⟩ ∧ I m v2 v7 h
theorem zqbQ_l0_rule {f0 f1 f3 f5 f6 f17 : Value} {ds : List Deferred} {rd : Option Nat} {Q : QP} (I : Nat → Value → Value → Heap → Prop) (hb : ∀ (m : Nat) (v2 v7 : Value) (h : Heap) (x4 x8 x9 x10 x11 x12 x13 x14 x15 x16 : Value) , I m v2 v7 h → RunC Try.prog T0 zqbQ_l0 ⟨[f0, f1, v2, f3, x4, f5, f6, v7, x8, x9, x10, x11, x12, x13, x14, x15, x16, f17], ds, h, rd⟩ (loopQ (zqbQ_l0_J f0 f1 f3 f5 f6 f17 ds rd I) m Q))
 (m : Nat) {v2 v7 : Value} {h : Heap} {x4 x8 x9 x10 x11 x12 x13 x14 x15 x16 : Value} (hi : I m v2 v7 h) : RunC Try.prog T0 (.loop zqbQ_l0) ⟨[f0, f1, v2, f3, x4, f5, f6, v7, x8, x9, x10, x11, x12, x13, x14, x15, x16, f17], ds, h, rd⟩ Q :=
 RunC.loopJ (zqbQ_l0_J f0 f1 f3 f5 f6 f17 ds rd I) (fun m s hj => by obtain ⟨v2, v7, h, x4, x8, x9, x10, x11, x12, x13, x14, x15, x16, rfl, hi⟩ := hj; exact hb m v2 v7 h x4 x8 x9 x10 x11 x12 x13 x14 x15 x16 hi) m _ ⟨_, _, h, _, _, _, _, _, _, _, _, _, _, rfl, hi⟩
theorem zqbQ_l0_again {f0 f1 f3 f5 f6 f17 : Value} {ds : List Deferred} {rd : Option Nat} {Q : QP} {I : Nat → Value → Value → Heap → Prop} {m : Nat} (m' : Nat) {v2 v7 : Value} {h : Heap} {x4 x8 x9 x10 x11 x12 x13 x14 x15 x16 : Value} (hm : m' < m) (hi : I m' v2 v7 h) : loopQ (zqbQ_l0_J f0 f1 f3 f5 f6 f17 ds rd I) m Q .normal ⟨[f0, f1, v2, f3, x4, f5, f6, v7, x8, x9, x10, x11, x12, x13, x14, x15, x16, f17], ds, h, rd⟩ :=
 loopQ.again m' hm ⟨_, _, h, _, _, _, _, _, _, _, _, _, _, rfl, hi⟩
abbrev fn_zrbQ : FuncId := 97
def zrbQ_c : ACode :=
 (.seq (.region [
 o1 6 (.mov (tm 0)),
 o1 7 (.raw (so (.unOp .not 4 (tm 6)) 4))]) (.cond (tm 7)
 (.region [
 o1 8 (.mov (tm 1)),
 o1 9 (.mov (tm 2)),
 o1 10 (.build [(.int .i64 0), (.int .i64 0)] [(0, 1, (tm 8)), (1, 1, (tm 9))]),
 o1 11 (.build [(.int .i64 0), (.int .i64 0)] [(0, 2, (tm 10))]),
 o1 12 (.mkIface 157 (tm 11)),
 o3 (.panic (tm 12))])
 .skip))
def zrbQ : AFunc := ⟨13, [], zrbQ_c, none⟩
theorem zrbQ_t0 : tableOf Try.prog 97 = some zrbQ := by kernel_rfl
theorem zrbQ_t : T0 97 = some zrbQ := withKept_t rfl (withTrue_t rfl zrbQ_t0)
theorem zrbQ_runs {v0 v1 v2 : Value} {h : Heap} {R : RP} {X : XP} (k : RunC Try.prog T0 zrbQ_c ⟨[v0, v1, v2, U, U, U, U, U, U, U, U, U, U], [], h, none⟩ (bodyQ Try.prog T0 [] R X)) :
 Runs Try.prog T0 (.fn 97) [v0, v1, v2] h R X := Runs.fn zrbQ_t rfl k
abbrev fn_zlbQ : FuncId := 98
def zlbQ_c : ACode :=
 (.seq (.region [
 o1 4 (.mov (.const (.int .u64 0)))]) (.seq (.seq (.region [
 o1 5 (.load none (tm 1)),
 o1 6 (.bin .gtr (so (.binOp .gtr 3 (tm 5) k0 3) 4) (tm 5) k0)]) (.cond (tm 6)
 (.region [
 o1 7 (.mov (tm 0)),
 o1 8 (.indexSl 1 (tm 7) k0),
 o1 9 (.load none (tm 8)),
 o3 (.store 1 (tm 2) (tm 9))])
 .skip)) (.seq (.region [
 o1 10 (.mov (tm 0)),
 o1 11 (.callV (.func 96) [(tm 10)]),
 o1 4 (.mov (tm 11))]) .ret)))
def zlbQ : AFunc := ⟨12, [(4, none)], zlbQ_c, none⟩
theorem zlbQ_t0 : tableOf Try.prog 98 = some zlbQ := by kernel_rfl
theorem zlbQ_t : T0 98 = some zlbQ := withKept_t rfl (withTrue_t rfl zlbQ_t0)
theorem zlbQ_runs {v0 v1 v2 : Value} {h : Heap} {R : RP} {X : XP} (k : RunC Try.prog T0 zlbQ_c ⟨[v0, v1, v2, U, U, U, U, U, U, U, U, U], [], h, none⟩ (bodyQ Try.prog T0 [(4, none)] R X)) :
 Runs Try.prog T0 (.fn 98) [v0, v1, v2] h R X := Runs.fn zlbQ_t rfl k
abbrev fn_zkQ : FuncId := 100
def zkQ_l0 : ACode :=
 (.seq (.region [
 o1 12 (.bin .lss (so (.binOp .lss 3 (tm 11) (tm 10) 3) 0) (tm 11) (tm 10))]) (.seq (.cond (tm 12)
 .skip
 (.exit 0)) (.seq (.block 1 (.seq (.region [
 o1 13 (.indexSl 1 (tm 9) (tm 11)),
 o1 14 (.load none (tm 13)),
 o1 5 (.mov (tm 14))]) (.seq (.region [
 o1 15 (.mov (tm 3)),
 o1 16 (.mov (tm 5)),
 o1 17 (.lenSl (tm 16)),
 o1 18 (.bin .add (so (.binOp .add 3 (tm 15) (tm 17) 3) 3) (tm 15) (tm 17)),
 o1 3 (.mov (tm 18))]) (.seq (.region [
 o1 19 (.mov (tm 3)),
 o1 20 (.bin .lss (so (.binOp .lss 3 (tm 19) k0 3) 4) (tm 19) k0)]) (.cond (tm 20)
 (.region [
 o1 21 (.mkIface 9 (.const (.string ⟨⟨[108, 101, 110, 32, 111, 117, 116, 32, 111, 102, 32, 114, 97, 110, 103, 101]⟩⟩))),
 o3 (.panic (tm 21))])
 .skip))))) (.region [
 o1 22 (.bin .add (so (.binOp .add 3 (tm 11) (.const (.int .i64 1)) 3) 3) (tm 11) (.const (.int .i64 1))),
 o1 11 (.mov (tm 22))]))))
def zkQ_l1 : ACode :=
 (.seq (.region [
 o1 28 (.bin .lss (so (.binOp .lss 3 (tm 27) (tm 26) 3) 0) (tm 27) (tm 26))]) (.seq (.cond (tm 28)
 .skip
 (.exit 2)) (.seq (.block 3 (.seq (.region [
 o1 29 (.indexSl 1 (tm 25) (tm 27)),
 o1 30 (.load none (tm 29)),
 o1 8 (.mov (tm 30))]) (.region [
 o1 31 (.mov (tm 6)),
 o1 32 (.mov (tm 8)),
 o1 33 (.append 5 1 1 [(.int .u8 0)] false (tm 31) (tm 32)),
 o1 6 (.mov (tm 33))]))) (.region [
 o1 34 (.bin .add (so (.binOp .add 3 (tm 27) (.const (.int .i64 1)) 3) 3) (tm 27) (.const (.int .i64 1))),
 o1 27 (.mov (tm 34))]))))
def zkQ_c : ACode :=
 (.seq (.region [
 o1 2 (.mov (.const (.slice none 0 0)))]) (.seq (.region [
 o1 3 (.mov k0)]) (.seq (.seq (.region [
 o1 9 (.mov (tm 0)),
 o1 10 (.lenSl (tm 9)),
 o1 11 (.mov k0)]) (.block 0 (.loop zkQ_l0))) (.seq (.region [
 o1 23 (.mov (tm 3)),
 o1 24 (.callV (.func 109) [(.const (.slice none 0 0)), (tm 23)]),
 o1 6 (.mov (tm 24))]) (.seq (.seq (.region [
 o1 25 (.mov (tm 0)),
 o1 26 (.lenSl (tm 25)),
 o1 27 (.mov k0)]) (.block 2 (.loop zkQ_l1))) (.seq (.region [
 o1 35 (.mov (tm 6)),
 o1 2 (.mov (tm 35))]) .ret))))))
def zkQ : AFunc := ⟨36, [(2, none)], zkQ_c, none⟩
theorem zkQ_t0 : tableOf Try.prog 100 = some zkQ := by kernel_rfl
theorem zkQ_t : T0 100 = some zkQ := withKept_t rfl (withTrue_t rfl zkQ_t0)
theorem zkQ_runs {v0 : Value} {h : Heap} {R : RP} {X : XP} (k : RunC Try.prog T0 zkQ_c ⟨[v0, U, U, U, U, U, U, U, U, U, U, U, U, U, U, U, U, U, U, U, U, U, U, U, U, U, U, U, U, U, U, U, U, U, U, U], [], h, none⟩ (bodyQ Try.prog T0 [(2, none)] R X)) :
 Runs Try.prog T0 (.fn 100) [v0] h R X := Runs.fn zkQ_t rfl k
def zkQ_l0_J (f0 f1 f2 f4 f6 f7 f8 f9 f10 f23 f24 f25 f26 f27 f28 f29 f30 f31 f32 f33 f34 f35 : Value) (ds : List Deferred) (rd : Option Nat) (I : Nat → Value → Value → Heap → Prop) (m : Nat) (s : St) : Prop := ∃ (v3 v11 : Value), ∃ h : Heap, ∃ (x5 x12 x13 x14 x15 x16 x17 x18 x19 x20 x21 x22 : Value), s = ⟨[f0, f1, f2, v3, f4, x5, f6, f7, f8, f9, f10, v11, x12, x13, x14, x15, x16, x17, x18, x19, x20, x21, x22, f23, f24, f25, f26, f27, f28, f29, f30, f31, f32, f33, f34, f35], ds, h, rd⟩ ∧ I m v3 v11 h
theorem zkQ_l0_rule {f0 f1 f2 f4 f6 f7 f8 f9 f10 f23 f24 f25 f26 f27 f28 f29 f30 f31 f32 f33 f34 f35 : Value} {ds : List Deferred} {rd : Option Nat} {Q : QP} (I : Nat → Value → Value → Heap → Prop) (hb : ∀ (m : Nat) (v3 v11 : Value) (h : Heap) (x5 x12 x13 x14 x15 x16 x17 x18 x19 x20 x21 x22 : Value) , I m v3 v11 h → RunC Try.prog T0 zkQ_l0 ⟨[f0, f1, f2, v3, f4, x5, f6, f7, f8, f9, f10, v11, x12, x13, x14, x15, x16, x17, x18, x19, x20, x21, x22, f23, f24, f25, f26, f27, f28, f29, f30, f31, f32, f33, f34, f35], ds, h, rd⟩ (loopQ (zkQ_l0_J f0 f1 f2 f4 f6 f7 f8 f9 f10 f23 f24 f25 f26 f27 f28 f29 f30 f31 f32 f33 f34 f35 ds rd I) m Q))
 (m : Nat) {v3 v11 : Value} {h : Heap} {x5 x12 x13 x14 x15 x16 x17 x18 x19 x20 x21 x22 : Value} (hi : I m v3 v11 h) : RunC Try.prog T0 (.loop zkQ_l0) ⟨[f0, f1, f2, v3, f4, x5, f6, f7, f8, f9, f10, v11, x12, x13, x14, x15, x16, x17, x18, x19, x20, x21, x22, f23, f24, f25, f26, f27, f28, f29, f30, f31, f32, f33, f34, f35], ds, h, rd⟩ Q :=
 RunC.loopJ (zkQ_l0_J f0 f1 f2 f4 f6 f7 f8 f9 f10 f23 f24 f25 f26 f27 f28 f29 f30 f31 f32 f33 f34 f35 ds rd I) (fun m s hj => by obtain ⟨v3, v11, h, x5, x12, x13, x14, x15, x16, x17, x18, x19, x20, x21, x22, rfl, hi⟩ := hj; exact hb m v3 v11 h x5 x12 x13 x14 x15 x16 x17 x18 x19 x20 x21 x22 hi) m _ ⟨_, _, h, _, _, _, _, _, _, _, _, _, _, _, _, rfl, hi⟩
theorem zkQ_l0_again {f0 f1 f2 f4 f6 f7 f8 f9 f10 f23 f24 f25 f26 f27 f28 f29 f30 f31 f32 f33 f34 f35 : Value} {ds : List Deferred} {rd : Option Nat} {Q : QP} {I : Nat → Value → Value → Heap → Prop} {m : Nat} (m' : Nat) {v3 v11 : Value} {h : Heap} {x5 x12 x13 x14 x15 x16 x17 x18 x19 x20 x21 x22 : Value} (hm : m' < m) (hi : I m' v3 v11 h) : loopQ (zkQ_l0_J f0 f1 f2 f4 f6 f7 f8 f9 f10 f23 f24 f25 f26 f27 f28 f29 f30 f31 f32 f33 f34 f35 ds rd I) m Q .normal ⟨[f0, f1, f2, v3, f4, x5, f6, f7, f8, f9, f10, v11, x12, x13, x14, x15, x16, x17, x18, x19, x20, x21, x22, f23, f24, f25, f26, f27, f28, f29, f30, f31, f32, f33, f34, f35], ds, h, rd⟩ :=
 loopQ.again m' hm ⟨_, _, h, _, _, _, _, _, _, _, _, _, _, _, _, rfl, hi⟩
def zkQ_l1_J (f0 f1 f2 f3 f4 f5 f7 f9 f10 f11 f12 f13 f14 f15 f16 f17 f18 f19 f20 f21 f22 f23 f24 f25 f26 f35 : Value) (ds : List Deferred) (rd : Option Nat) (I : Nat → Value → Value → Heap → Prop) (m : Nat) (s : St) : Prop := ∃ (v6 v27 : Value), ∃ h : Heap, ∃ (x8 x28 x29 x30 x31 x32 x33 x34 : Value), s = ⟨[f0, f1, f2, f3, f4, f5, v6, f7, x8, f9, f10, f11, f12, f13, f14, f15, f16, f17, f18, f19, f20, f21, f22, f23, f24, f25, f26, v27, x28, x29, x30, x31, x32, x33, x34, f35], ds, h, rd⟩ ∧ I m v6 v27 h
theorem zkQ_l1_rule {f0 f1 f2 f3 f4 f5 f7 f9 f10 f11 f12 f13 f14 f15 f16 f17 f18 f19 f20 f21 f22 f23 f24 f25 f26 f35 : Value} {ds : List Deferred} {rd : Option Nat} {Q : QP} (I : Nat → Value → Value → Heap → Prop) (hb : ∀ (m : Nat) (v6 v27 : Value) (h : Heap) (x8 x28 x29 x30 x31 x32 x33 x34 : Value) , I m v6 v27 h → RunC Try.prog T0 zkQ_l1 ⟨[f0, f1, f2, f3, f4, f5, v6, f7, x8, f9, f10, f11, f12, f13, f14, f15, f16, f17, f18, f19, f20, f21, f22, f23, f24, f25, f26, v27, x28, x29, x30, x31, x32, x33, x34, f35], ds, h, rd⟩ (loopQ (zkQ_l1_J f0 f1 f2 f3 f4 f5 f7 f9 f10 f11 f12 f13 f14 f15 f16 f17 f18 f19 f20 f21 f22 f23 f24 f25 f26 f35 ds rd I) m Q))
 (m : Nat) {v6 v27 : Value} {h : Heap} {x8 x28 x29 x30 x31 x32 x33 x34 : Value} (hi : I m v6 v27 h) : RunC Try.prog T0 (.loop zkQ_l1) ⟨[f0, f1, f2, f3, f4, f5, v6, f7, x8, f9, f10, f11, f12, f13, f14, f15, f16, f17, f18, f19, f20, f21, f22, f23, f24, f25, f26, v27, x28, x29, x30, x31, x32, x33, x34, f35], ds, h, rd⟩ Q :=
 RunC.loopJ (zkQ_l1_J f0 f1 f2 f3 f4 f5 f7 f9 f10 f11 f12 f13 f14 f15 f16 f17 f18 f19 f20 f21 f22 f23 f24 f25 f26 f35 ds rd I) (fun m s hj => by obtain ⟨v6, v27, h, x8, x28, x29, x30, x31, x32, x33, x34, rfl, hi⟩ := hj; exact hb m v6 v27 h x8 x28 x29 x30 x31 x32 x33 x34 hi) m _ ⟨_, _, h, _, _, _, _, _, _, _, _, rfl, hi⟩
theorem zkQ_l1_again {f0 f1 f2 f3 f4 f5 f7 f9 f10 f11 f12 f13 f14 f15 f16 f17 f18 f19 f20 f21 f22 f23 f24 f25 f26 f35 : Value} {ds : List Deferred} {rd : Option Nat} {Q : QP} {I : Nat → Value → Value → Heap → Prop} {m : Nat} (m' : Nat) {v6 v27 : Value} {h : Heap} {x8 x28 x29 x30 x31 x32 x33 x34 : Value} (hm : m' < m) (hi : I m' v6 v27 h) : loopQ (zkQ_l1_J f0 f1 f2 f3 f4 f5 f7 f9 f10 f11 f12 f13 f14 f15 f16 f17 f18 f19 f20 f21 f22 f23 f24 f25 f26 f35 ds rd I) m Q .normal ⟨[f0, f1, f2, f3, f4, f5, v6, f7, x8, f9, f10, f11, f12, f13, f14, f15, f16, f17, f18, f19, f20, f21, f22, f23, f24, f25, f26, v27, x28, x29, x30, x31, x32, x33, x34, f35], ds, h, rd⟩ :=
 loopQ.again m' hm ⟨_, _, h, _, _, _, _, _, _, _, _, rfl, hi⟩
abbrev fn_zlQ : FuncId := 109
def zlQ_c : ACode :=
 (.seq (.region [
 o1 4 (.mov (.const (.slice none 0 0)))]) (.seq (.seq (.region [
 o1 5 (.mov (tm 1)),
 o1 6 (.bin .lss (so (.binOp .lss 3 (tm 5) k0 3) 4) (tm 5) k0)]) (.cond (tm 6)
 (.region [
 o1 7 (.mkIface 9 (.const (.string ⟨⟨[99, 97, 110, 110, 111, 116, 32, 98, 101, 32, 110, 101, 103, 97, 116, 105, 118, 101]⟩⟩))),
 o3 (.panic (tm 7))])
 .skip)) (.seq (.seq (.region [
 o1 8 (.mov (tm 1)),
 o1 9 (.mov (tm 0)),
 o1 10 (.cap (tm 9)),
 o1 11 (.mov (tm 0)),
 o1 12 (.lenSl (tm 11)),
 o1 13 (.bin .sub (so (.binOp .sub 3 (tm 10) (tm 12) 3) 3) (tm 10) (tm 12)),
 o1 14 (.bin .sub (so (.binOp .sub 3 (tm 8) (tm 13) 3) 3) (tm 8) (tm 13)),
 o1 1 (.mov (tm 14))]) (.seq (.region [
 o1 15 (.mov (tm 1)),
 o1 16 (.bin .gtr (so (.binOp .gtr 3 (tm 15) k0 3) 4) (tm 15) k0)]) (.cond (tm 16)
 (.region [
 o1 17 (.mov (tm 0)),
 o1 18 (.mov (tm 0)),
 o1 19 (.cap (tm 18)),
 o1 20 (.sliceSl 1 (tm 17) none (some (tm 19)) none),
 o1 21 (.mov (tm 1)),
 o1 22 (.append 5 1 1 [(.int .u8 0)] true (tm 20) (tm 21)),
 o1 23 (.mov (tm 0)),
 o1 24 (.lenSl (tm 23)),
 o1 25 (.sliceSl 1 (tm 22) none (some (tm 24)) none),
 o1 0 (.mov (tm 25))])
 .skip))) (.seq (.region [
 o1 26 (.mov (tm 0)),
 o1 4 (.mov (tm 26))]) .ret))))
def zlQ : AFunc := ⟨27, [(4, none)], zlQ_c, none⟩
theorem zlQ_t0 : tableOf Try.prog 109 = some zlQ := by kernel_rfl
theorem zlQ_t : T0 109 = some zlQ := withKept_t rfl (withTrue_t rfl zlQ_t0)
theorem zlQ_runs {v0 v1 : Value} {h : Heap} {R : RP} {X : XP} (k : RunC Try.prog T0 zlQ_c ⟨[v0, v1, U, U, U, U, U, U, U, U, U, U, U, U, U, U, U, U, U, U, U, U, U, U, U, U, U], [], h, none⟩ (bodyQ Try.prog T0 [(4, none)] R X)) :
 Runs Try.prog T0 (.fn 109) [v0, v1] h R X := Runs.fn zlQ_t rfl k
end Go.Proofs.Ytmfaepkmiceoeaa.A

namespace Go.Proofs.Ytmfaepkmiceoeaa.A
open Go Go.Vm
set_option maxRecDepth 10000
set_option linter.unusedVariables false
abbrev ptr (q o : Nat) : Value := .pointer (some ⟨q, o, none⟩)
end Go.Proofs.Ytmfaepkmiceoeaa.A

namespace Go.Proofs.Ytmfaepkmiceoeaa.A
open Go Go.Vm
set_option maxRecDepth 10000
set_option linter.unusedVariables false
structure Sl (h : Heap) (v : Value) (q : Nat) (l : List UInt8) : Prop where
  ex : ∃ o sp cap cs es, v = .slice (some ⟨q, o, sp⟩) l.length cap ∧ l.length ≤ cap ∧ q < h.n ∧ h.get q = .cells cs es ∧ (sp ≠ none → es = 1) ∧ cellsAt h q o l.length = some (bcells l)
theorem Sl.keep {S : Nat → Prop} {h h' : Heap} {v : Value} {q : Nat} {l : List UInt8} (hs : Sl h v q l) (hf : Fr S h h') (hq : ¬ S q) : Sl h' v q l := by
  obtain ⟨o, sp, cap, cs, es, h1, h2, h3, h4, h5, h6⟩ := hs.ex
  exact ⟨o, sp, cap, cs, es, h1, h2, hf.lt h3, by rw [hf.get _ h3 hq, h4], h5, by rw [cellsAt_keep hf h3 hq]; exact h6⟩
theorem Sl.lt {h : Heap} {v : Value} {q : Nat} {l : List UInt8} (hs : Sl h v q l) : q < h.n := let ⟨_, _, _, _, _, _, _, h3, _⟩ := hs.ex; h3
theorem Sl.part {h : Heap} {v : Value} {q : Nat} {l : List UInt8} (hs : Sl h v q l) {i j : Nat} (hij : i < j) (hj : j ≤ l.length) :
    ∃ v', Sl h v' q ((l.drop i).take (j - i)) ∧ ∀ {P : Program} {ts : List Value} {x : Operand} {lo hi : Option Operand} [e1 : Ev ts x v], (∀ c, l.length ≤ c → bnd (eval ts) c l.length hi = some j) → bnd (eval ts) j 0 lo = some i → XOp P ts h (.sliceSl 1 x lo hi none) v' h := by
  obtain ⟨o, sp, cap, cs, es, rfl, h2, h3, h4, h5, h6⟩ := hs.ex
  have hl : ((l.drop i).take (j - i)).length = j - i := by rw [List.length_take, List.length_drop]; omega
  refine ⟨.slice (some ⟨q, o + i * 1, sp⟩) (j - i) (cap - i), ⟨o + i * 1, sp, cap - i, cs, es, by rw [hl], by rw [hl]; omega, h3, h4, h5, ?_⟩, fun hh hlo => XOp.mkSl (hh cap h2) hlo hij hj h2 (by omega) h4 h5⟩
  rw [hl, Nat.mul_one, cellsAt_sub h6 (by omega), bcells_drop, bcells_take]
end Go.Proofs.Ytmfaepkmiceoeaa.A

namespace Go.Proofs.Ytmfaepkmiceoeaa.A
open Go Go.Vm
set_option maxRecDepth 10000
set_option linter.unusedVariables false
theorem big_ok {h : Heap} {v : Value} {l : List UInt8} (hr : Rd h 1 v (bcells l) l.length) (hl : l.length ≤ 8) :
    Runs Try.prog T0 (.fn fn_zqbQ) [v] h (fun r h' => r = .int .u64 (bigN l) ∧ h' = h) (fun _ _ => False) := by
  obtain ⟨a, cap, rfl, hlen, hc⟩ := hr
  refine zqbQ_runs ?_
  refine stpDP ?_
  refine zqbQ_l0_rule (fun m v2 v7 h' => ∃ k : Nat, k ≤ l.length ∧ m = l.length - k ∧ v7 = .int .i64 k ∧ v2 = .int .u64 (bigN (l.take k)) ∧ h' = h) ?_ l.length ⟨0, by omega, rfl, rfl, rfl, rfl⟩
  rintro m v2 v7 h' x4 x8 x9 x10 x11 x12 x13 x14 x15 x16 ⟨k, hk, rfl, rfl, rfl, rfl⟩
  refine stpDP ?_
  refine C.if (fun hlt => ?_) (fun hge => ?_)
  · obtain ⟨b, o, sp, rfl, hb, hcc⟩ := hc (by omega)
    rw [Nat.mul_one] at hcc
    haveI := byte_cell (k := k) hcc (by omega)
    have h8 := bigN_take_lt (l := l) (k := k) (by omega)
    have hbt := (l.getD k 0).toNat_lt
    have hs := bigN_take (l := l) (k := k) (by omega)
    refine stpDP ?_
    refine O.how (XOp.shl8 ⟨by omega, by omega⟩) ?_
    refine stpDP ?_
    refine O.how (XOp.orByte (by omega) (by omega)) ?_
    refine stpDP ?_
    refine zqbQ_l0_again (l.length - (k + 1)) (by omega) ⟨k + 1, by omega, rfl, rfl, by rw [hs], rfl⟩
  · obtain rfl : k = l.length := by omega
    refine stpDP ?_
    rw [List.take_length]
    exact ⟨rfl, rfl⟩
end Go.Proofs.Ytmfaepkmiceoeaa.A

namespace Go.Proofs.Ytmfaepkmiceoeaa.A
open Go Go.Vm
set_option maxRecDepth 10000
set_option linter.unusedVariables false
def thrown (e a : Int) : List PanicEntry := [{ v := .iface ty_wire_wrong (.agg ⟨[.int .i64 e, .int .i64 a]⟩), recovered := false }]
theorem must_yes {h : Heap} {e a : Int} : Runs Try.prog T0 (.fn fn_zrbQ) [.bool true, .int .i64 e, .int .i64 a] h (fun r h' => h' = h) (fun _ _ => False) := by
  refine zrbQ_runs ?_
  refine stp ?_
  rfl
theorem must_no {h : Heap} {e a : Int} : Runs Try.prog T0 (.fn fn_zrbQ) [.bool false, .int .i64 e, .int .i64 a] h (fun r h' => False) (fun c h' => c = thrown e a ∧ h' = h) := by
  refine zrbQ_runs ?_
  refine stp ?_
  exact ⟨rfl, rfl⟩
theorem must_ok {h : Heap} {b : Bool} {e a : Int} : Runs Try.prog T0 (.fn fn_zrbQ) [.bool b, .int .i64 e, .int .i64 a] h (fun r h' => b = true ∧ h' = h) (fun c h' => b = false ∧ c = thrown e a ∧ h' = h) := by
  cases b with
  | true => exact must_yes.mono (fun _ _ h => ⟨rfl, h⟩) (fun _ _ h => h.elim)
  | false => exact must_no.mono (fun _ _ h => h.elim) (fun _ _ h => ⟨rfl, h⟩)
structure PR (h : Heap) (p : Nat) (sv : Value) (bs : List UInt8) (pl : Nat) (e fa : Int) : Prop where
  at_le : pl ≤ bs.length
  small : bs.length < 1048576
  lt : p < h.n
  get : h.get p = .cells [sv, .int .i64 pl, .int .i64 e, .int .i64 fa, .bool true] 0
  own : Own h 1 sv (bcells bs) bs.length
  apart : ¬ ownedBy sv p
theorem PR.keep {S : Nat → Prop} {h h' : Heap} {p : Nat} {sv : Value} {bs : List UInt8} {pl : Nat} {e fa : Int} (hp : PR h p sv bs pl e fa) (hf : Fr S h h') (hs : ¬ S p) (hb : ∀ i, ownedBy sv i → ¬ S i) : PR h' p sv bs pl e fa :=
  ⟨hp.at_le, hp.small, hf.lt hp.lt, by rw [hf.get p hp.lt hs, hp.get], hp.own.keep hf hb, hp.apart⟩
theorem PR.none {h h' : Heap} {p : Nat} {sv : Value} {bs : List UInt8} {pl : Nat} {e fa : Int} (hp : PR h p sv bs pl e fa) (hf : Fr (fun _ => False) h h') : PR h' p sv bs pl e fa := hp.keep hf id fun _ _ => id
theorem PR.turn {h : Heap} {p : Nat} {sv : Value} {bs : List UInt8} {pl pl' : Nat} {e fa e' fa' : Int} (hp : PR h p sv bs pl e fa) (hl : pl' ≤ bs.length) :
    PR (h.set p (.cells [sv, .int .i64 pl', .int .i64 e', .int .i64 fa', .bool true] 0)) p sv bs pl' e' fa' :=
  ⟨hl, hp.small, by simpa using hp.lt, by rw [Heap.get_set, if_pos rfl], hp.own.keep (S := fun i => i = p) (Fr.refl.set fun _ => rfl) fun b hb hbp => hp.apart (hbp ▸ hb), hp.apart⟩
theorem takeU64_ok {h : Heap} {p : Nat} {sv : Value} {bs : List UInt8} {pl n : Nat} {fa a0 : Int} {fid : FuncId} {first captured : List Value} {R : RP} (hr : PR h p sv bs pl 0 fa) (hn : n < 1048576)
    (hm : ∀ h1 v, Fr (fun i => i = p) h h1 → PR h1 p sv bs (pl + n) 0 fa → pl + n ≤ bs.length → (∀ i, blockOf v i → ownedBy sv i) → Rd h1 1 v (bcells ((bs.drop pl).take n)) n → Runs Try.prog T0 (.fn fid) (first ++ [v] ++ captured) h1 R (fun _ _ => False)) :
    Runs Try.prog T0 (.fn fn_zwbQ) [.pointer (some ⟨p, 0, none⟩), .int .i64 n, .int .i64 a0, .func (.func fid) ⟨first⟩ ⟨captured⟩] h R (fun c h' => bs.length < pl + n ∧ c = thrown 6 a0 ∧ h' = h) := by
  have hr' := hr
  obtain ⟨hle, hsm, hp, hget, hown, hnot⟩ := hr
  obtain ⟨a, cap, rfl, hlen, _⟩ := hown.rd
  haveI : HGet h p _ := ⟨hget⟩
  refine zwbQ_runs ?_
  refine stp ?_
  refine D.callX must_ok (fun v h' hv => rfl) (fun v h' hv => ?_) (fun c h' hx => ⟨rfl, ?_⟩)
  · obtain ⟨hle2, rfl⟩ := hv
    have hle2 : (n : Int) ≤ bs.length - pl := of_decide_eq_true hle2
    refine stp ?_
    have hp2 := hr'.turn (pl' := pl + n) (e' := 0) (fa' := fa) (by omega)
    refine D.slice pl (pl + n) (by omega) hp2.own (by omega) (by omega) (by omega) (by omega) (fun v' hbl hrd => ?_)
    rw [Nat.mul_one, Nat.mul_one, bcells_drop, bcells_take, Nat.add_sub_cancel_left] at hrd
    refine D.callX (hm _ v' (Fr.refl.set fun _ => rfl) hp2 (by omega) hbl hrd) (fun _ _ _ => rfl) (fun r h2 hr => ?_) (fun _ _ hx => hx.elim)
    refine stp ?_
    exact hr
  · obtain ⟨hlt, rfl, rfl⟩ := hx
    have hlt : ¬ (n : Int) ≤ bs.length - pl := of_decide_eq_false hlt
    refine stp ?_
    exact ⟨by omega, rfl, rfl⟩
end Go.Proofs.Ytmfaepkmiceoeaa.A

namespace Go.Proofs.Ytmfaepkmiceoeaa.A
open Go Go.Vm
set_option maxRecDepth 10000
set_option linter.unusedVariables false
def numS (bs : List UInt8) (pl : Nat) : Except Int (Nat × Nat) :=
  if bs.length < pl + 1 then .error 6 else
  if 8 < (bs.getD pl 0).toNat then .error 5 else
  if bs.length < pl + 1 + (bs.getD pl 0).toNat then .error 6 else
  if (0 < (bs.getD pl 0).toNat ∧ (((bs.drop (pl + 1)).take (bs.getD pl 0).toNat).getD 0 0).toNat = 0) ∨ 9223372036854775807 < bigN ((bs.drop (pl + 1)).take (bs.getD pl 0).toNat) then .error 5
  else .ok (bigN ((bs.drop (pl + 1)).take (bs.getD pl 0).toNat), pl + 1 + (bs.getD pl 0).toNat)
theorem num1_ok {h : Heap} {v : Value} {l : List UInt8} {a b : Nat} {k : Nat} {x : Int} (hr : Rd h 1 v (bcells l) l.length) (hl : l.length ≤ 8) (hk : k = l.length) [ha : HGet h a (.cells [.int .i64 k] 0)] [hb : HGet h b (.cells [.int .u8 x] 0)] (hv : ∀ i, blockOf v i → i ≠ b) :
    Runs Try.prog T0 (.fn fn_zlbQ) [v, .pointer (some ⟨a, 0, none⟩), .pointer (some ⟨b, 0, none⟩)] h
      (fun r h' => r = .int .u64 (bigN l) ∧ h' = if 0 < k then h.set b (.cells [.int .u8 (l.getD 0 0).toNat] 0) else h) (fun _ _ => False) := by
  have hr' := hr
  obtain ⟨ad, cap, rfl, hlen, hc⟩ := hr
  refine zlbQ_runs ?_
  refine stp ?_
  refine C.if (fun hpos => ?_) (fun hz => ?_)
  · obtain ⟨q, o, sp, rfl, hq, hcc⟩ := hc (by omega)
    rw [Nat.mul_one] at hcc
    haveI := byte_cell (k := 0) hcc (by omega)
    refine stp ?_
    refine O.call' (big_ok (l := l) (hr'.keep (S := fun i => i = b) (h' := h.set b (.cells [.int .u8 (l.getD 0 0).toNat] 0)) (Fr.refl.set fun _ => rfl) hv) hl) (fun r h' hr => ?_)
    obtain ⟨rfl, rfl⟩ := hr
    refine stp ?_
    rw [if_pos (by omega)]
    exact ⟨rfl, rfl⟩
  · refine stp ?_
    refine O.call' (big_ok (l := l) hr' hl) (fun r h' hr => ?_)
    obtain ⟨rfl, rfl⟩ := hr
    refine stp ?_
    rw [if_neg (by omega)]
    exact ⟨rfl, rfl⟩
theorem num_ok {h : Heap} {p : Nat} {sv : Value} {bs : List UInt8} {pl : Nat} {fa : Int} (hr : PR h p sv bs pl 0 fa) :
    Runs Try.prog T0 (.fn fn_zkbQ) [.pointer (some ⟨p, 0, none⟩), .int .i64 pl] h
      (fun r h' => ∃ n pl', numS bs pl = .ok (n, pl') ∧ r = .int .i64 n ∧ PR h' p sv bs pl' 0 fa ∧ Fr (fun i => i = p) h h')
      (fun c h' => ∃ e pl', numS bs pl = .error e ∧ c = thrown e pl ∧ PR h' p sv bs pl' 0 fa ∧ Fr (fun i => i = p) h h') := by
  have hple := hr.at_le
  have hsm := hr.small
  have hbt := (bs.getD pl 0).toNat_lt
  refine zkbQ_runs ?_
  refine stp ?_
  refine O.callX (takeU64_ok (n := 1) (R := fun r h2 => r = .int .u64 (bs.getD pl 0).toNat ∧ pl + 1 ≤ bs.length ∧ PR h2 p sv bs (pl + 1) 0 fa ∧ Fr (fun i => i = p) h h2) hr (by omega) (fun h1 v hf hp1 hle hbl hrd => ?_)) (fun r h1 hr1 => ?_) (fun c h1 hx => ?_)
  · have hl1 : ((bs.drop pl).take 1).length = 1 := by simp; omega
    refine (big_ok (l := (bs.drop pl).take 1) (by rw [hl1]; exact hrd) (by omega)).imp fun r h2 hr2 => ?_
    obtain ⟨rfl, rfl⟩ := hr2
    refine ⟨?_, hle, hp1, hf⟩
    have hd : (bs.drop pl).take 1 = [bs.getD pl 0] := by
      have := take_succ_getD (l := bs.drop pl) (k := 0) (by simp; omega)
      simpa [List.getD_eq_getElem?_getD] using this
    rw [hd]
    simp [bigN]
  · obtain ⟨rfl, hle, hp1, hf1⟩ := hr1
    generalize hk : (bs.getD pl 0).toNat = k at *
    refine stp ?_
    refine O.callX must_ok (fun r h2 hr2 => ?_) (fun c h2 hx => ?_)
    · obtain ⟨hk8, rfl⟩ := hr2
      have hk8 : (k : Int) ≤ 8 := of_decide_eq_true hk8
      refine stp ?_
      have hplt := hp1.lt
      generalize hd : (bs.drop (pl + 1)).take k = d
      have hdl : pl + 1 + k ≤ bs.length → d.length = k := fun h => by rw [← hd, List.length_take, List.length_drop]; omega
      refine O.callX (takeU64_ok (n := k) (R := fun r h2 => r = .int .u64 (bigN d) ∧ pl + 1 + k ≤ bs.length ∧ PR h2 p sv bs (pl + 1 + k) 0 fa ∧ Fr (fun i => i = p) h h2 ∧
        HGet h2 (h1.push (AObj.cells [Value.int IntKind.i64 k] 0)).n (.cells [.int .u8 (if 0 < k then (d.getD 0 0).toNat else 1 : Nat)] 0)) (hp1.none Fr.refl.push.push) (by omega) (fun h2 v hf hp2 hle2 hbl hrd => ?_)) (fun r h2 hr2 => ?_) (fun c h2 hx => ?_)
      · haveI : HGet h2 h1.n _ := hf.keep (b := h1.n) (HGet.push (k := BLt.new) (g := HGet.new)) (by simp; omega) (by omega)
        haveI : HGet h2 (h1.push (AObj.cells [Value.int IntKind.i64 k] 0)).n _ := hf.keep (b := (h1.push (AObj.cells [Value.int IntKind.i64 k] 0)).n) HGet.new (by simp) (by simp; omega)
        have hnew : ∀ i, ownedBy sv i → i ≠ (h1.push (AObj.cells [Value.int IntKind.i64 k] 0)).n := fun i hi => by have := hp1.own.lt hi; simp; omega
        have hfr : Fr (fun i => i = p) h h2 := hf1.trans' (Fr.trans (S := fun i => i = p) Fr.refl.push.push hf fun i _ hi => hi)
        rw [hd] at hrd
        refine (num1_ok (a := h1.n) (b := (h1.push (AObj.cells [Value.int IntKind.i64 k] 0)).n) (k := k) (l := d) (by rw [hdl hle2]; exact hrd) (by rw [hdl hle2]; omega) (hdl hle2).symm (fun i hi => hnew i (hbl i hi))).imp fun r h3 hr3 => ?_
        obtain ⟨rfl, rfl⟩ := hr3
        by_cases hk0 : 0 < k
        · rw [if_pos hk0, if_pos hk0]
          refine ⟨rfl, hle2, hp2.keep (S := fun i => i = _) (Fr.refl.set fun _ => rfl) (by simp; omega) hnew, hfr.set fun hlt => ?_, HGet.same⟩
          have := hf1.n
          simp at hlt; omega
        · rw [if_neg hk0, if_neg hk0]
          exact ⟨rfl, hle2, hp2, hfr, inferInstance⟩
      · obtain ⟨rfl, hle2, hp2, hf2, hg2⟩ := hr2
        have hbn : bigN d < 18446744073709551616 := by
          have := bigN_lt d
          have h2 : 256 ^ d.length ≤ 256 ^ 8 := Nat.pow_le_pow_right (by omega) (by rw [hdl hle2]; omega)
          omega
        refine stp ?_
        refine O.decN (fun hne => ?_) (fun heq => ?_)
        · refine stp ?_
          have hfirst : ¬ (0 < k ∧ (d.getD 0 0).toNat = 0) := fun ⟨h1, h2⟩ => hne (by rw [if_pos h1, h2]; rfl)
          refine O.callX must_ok (fun r h3 hr3 => ?_) (fun c h3 hx => ?_)
          · obtain ⟨hmax, rfl⟩ := hr3
            have hmax : (bigN d : Int) ≤ 9223372036854775807 := of_decide_eq_true hmax
            refine stp ?_
            refine ⟨bigN d, pl + 1 + k, ?_, rfl, hp2, hf2⟩
            unfold numS
            rw [hk, hd, if_neg (by omega), if_neg (by omega), if_neg (by omega), if_neg (fun h => h.elim hfirst fun h => by omega)]
          · obtain ⟨hmax, rfl, rfl⟩ := hx
            have hmax : ¬ (bigN d : Int) ≤ 9223372036854775807 := of_decide_eq_false hmax
            refine stp ?_
            refine ⟨5, pl + 1 + k, ?_, rfl, hp2, hf2⟩
            unfold numS
            rw [hk, hd, if_neg (by omega), if_neg (by omega), if_neg (by omega), if_pos (.inr (by omega))]
        · refine stp ?_
          have hfirst : 0 < k ∧ (d.getD 0 0).toNat = 0 := by
            by_cases h0 : 0 < k
            · rw [if_pos h0] at heq; exact ⟨h0, by omega⟩
            · rw [if_neg h0] at heq; cases heq
          refine O.callX must_no (fun r h3 hr3 => hr3.elim) (fun c h3 hx => ?_)
          obtain ⟨rfl, rfl⟩ := hx
          refine stp ?_
          refine ⟨5, pl + 1 + k, ?_, rfl, hp2, hf2⟩
          unfold numS
          rw [hk, hd, if_neg (by omega), if_neg (by omega), if_neg (by omega), if_pos (.inl hfirst)]
      · obtain ⟨hlt, rfl, rfl⟩ := hx
        refine stp ?_
        refine ⟨6, pl + 1, ?_, rfl, hp1.none Fr.refl.push.push, hf1.push.push⟩
        unfold numS
        rw [hk, if_neg (by omega), if_neg (by omega), if_pos (by omega)]
    · obtain ⟨hk8, rfl, rfl⟩ := hx
      have hk8 : ¬ (k : Int) ≤ 8 := of_decide_eq_false hk8
      refine stp ?_
      refine ⟨5, pl + 1, ?_, rfl, hp1.none Fr.refl.push, hf1.push⟩
      unfold numS
      rw [hk, if_neg (by omega), if_pos (by omega)]
  · obtain ⟨hlt, rfl, rfl⟩ := hx
    refine stp ?_
    refine ⟨6, pl, ?_, rfl, hr, Fr.refl⟩
    unfold numS
    rw [if_pos (by omega)]
end Go.Proofs.Ytmfaepkmiceoeaa.A

namespace Go.Proofs.Ytmfaepkmiceoeaa.A
open Go Go.Vm
set_option maxRecDepth 10000
set_option linter.unusedVariables false
theorem caught_none {h : Heap} {v : Value} : RunDf Try.prog T0 fn_zjbQ [v] .returning h (fun u h' => u = .returning ∧ h' = h) (fun _ _ _ => False) := by
  refine zjbQ_df ?_
  refine dstp ?_
  exact ⟨rfl, rfl⟩
theorem caught_ok {h : Heap} {p : Nat} {sv : Value} {bs : List UInt8} {pl : Nat} {e fa x a : Int} (hr : PR h p sv bs pl e fa) :
    RunDf Try.prog T0 fn_zjbQ [.pointer (some ⟨p, 0, none⟩)] (.panicking (thrown x a)) h (fun u h' => settle u = .returning ∧ PR h' p sv bs pl x a ∧ Fr (fun i => i = p) h h') (fun _ _ _ => False) := by
  haveI : HGet h p _ := ⟨hr.get⟩
  haveI : BLt p h := ⟨hr.lt⟩
  refine zjbQ_df ?_
  refine dstp ?_
  exact ⟨rfl, (hr.none Fr.refl.push).turn hr.at_le, Fr.refl.push.set fun _ => rfl⟩
def readQ (h : Heap) (p : Nat) (sv : Value) (bs : List UInt8) (pl : Nat) (zero : Value) (S : Except Int (Value × Nat)) (r : Value) (h' : Heap) : Prop :=
  Fr (fun i => i = p) h h' ∧ match S with
    | .ok (v, pl') => r = v ∧ PR h' p sv bs pl' 0 0
    | .error e => r = zero ∧ ∃ pl', PR h' p sv bs pl' e pl
theorem readsInt_ok {h : Heap} {p : Nat} {sv : Value} {bs : List UInt8} {pl : Nat} {fid : FuncId} {first captured : List Value} {S : Except Int (Value × Nat)} (hr : PR h p sv bs pl 0 0)
    (hm : Runs Try.prog T0 (.fn fid) (first ++ [.int .i64 pl] ++ captured) h (fun r h' => ∃ v pl', S = .ok (v, pl') ∧ r = v ∧ PR h' p sv bs pl' 0 0 ∧ Fr (fun i => i = p) h h')
      (fun c h' => ∃ e pl', S = .error e ∧ c = thrown e pl ∧ PR h' p sv bs pl' 0 0 ∧ Fr (fun i => i = p) h h')) :
    Runs Try.prog T0 (.fn fn_zubQ) [.pointer (some ⟨p, 0, none⟩), .func (.func fid) ⟨first⟩ ⟨captured⟩] h (readQ h p sv bs pl (.int .i64 0) S) (fun _ _ => False) := by
  haveI : HGet h p _ := ⟨hr.get⟩
  haveI : BLt p h := ⟨hr.lt⟩
  refine zubQ_runs ?_
  refine stp ?_
  refine O.callX hm (fun r h1 hr1 => ?_) (fun c h1 hx => ?_)
  · obtain ⟨v, pl', hS, rfl, hp1, hf⟩ := hr1
    refine stp ?_
    refine caught_none.mono (fun u' h' hu => ?_) (fun _ _ _ hx => hx.elim)
    obtain ⟨rfl, rfl⟩ := hu
    refine L.nil ⟨hf, ?_⟩
    rw [hS]
    exact ⟨rfl, hp1⟩
  · obtain ⟨e, pl', hS, rfl, hp1, hf⟩ := hx
    refine stp ?_
    refine (caught_ok hp1).mono (fun u' h' hu => ?_) (fun _ _ _ hx => hx.elim)
    obtain ⟨hs, hp2, hf2⟩ := hu
    rw [hs]
    refine L.nil ⟨hf.trans' hf2, ?_⟩
    rw [hS]
    exact ⟨rfl, pl', hp2⟩
theorem readsInt_bad {h : Heap} {p : Nat} {sv : Value} {bs : List UInt8} {pl : Nat} {e fa : Int} {f : Value} (hr : PR h p sv bs pl e fa) (he : e ≠ 0) :
    Runs Try.prog T0 (.fn fn_zubQ) [.pointer (some ⟨p, 0, none⟩), f] h (fun r h' => r = .int .i64 0 ∧ h' = h) (fun _ _ => False) := by
  haveI : HGet h p _ := ⟨hr.get⟩
  haveI : BLt p h := ⟨hr.lt⟩
  refine zubQ_runs ?_
  refine stp ?_
  refine C.ifB (fun h1 => ?_) (fun h1 => ?_)
  · refine stp ?_
    exact ⟨rfl, rfl⟩
  · exfalso; simp at h1; exact he h1
theorem Num_ok {h : Heap} {p : Nat} {sv : Value} {bs : List UInt8} {pl : Nat} (hr : PR h p sv bs pl 0 0) :
    Runs Try.prog T0 (.fn fn_zibQ) [.pointer (some ⟨p, 0, none⟩)] h (readQ h p sv bs pl (.int .i64 0) ((numS bs pl).map fun x => (.int .i64 x.1, x.2))) (fun _ _ => False) := by
  refine zibQ_runs ?_
  refine stp ?_
  refine O.call' (readsInt_ok (S := (numS bs pl).map fun x => (.int .i64 x.1, x.2)) hr ((num_ok hr).mono (fun r h' hq => ?_) (fun c h' hq => ?_))) (fun r h' hq => ?_)
  · obtain ⟨n, pl', h1, h2, h3, h4⟩ := hq
    exact ⟨_, pl', by rw [h1]; rfl, h2, h3, h4⟩
  · obtain ⟨e, pl', h1, h2, h3, h4⟩ := hq
    exact ⟨e, pl', by rw [h1]; rfl, h2, h3, h4⟩
  · refine stp ?_
    exact hq
theorem Num_bad {h : Heap} {p : Nat} {sv : Value} {bs : List UInt8} {pl : Nat} {e fa : Int} (hr : PR h p sv bs pl e fa) (he : e ≠ 0) :
    Runs Try.prog T0 (.fn fn_zibQ) [.pointer (some ⟨p, 0, none⟩)] h (fun r h' => r = .int .i64 0 ∧ h' = h) (fun _ _ => False) := by
  refine zibQ_runs ?_
  refine stp ?_
  refine O.call' (readsInt_bad hr he) (fun r h' hq => ?_)
  obtain ⟨rfl, rfl⟩ := hq
  refine stp ?_
  exact ⟨rfl, rfl⟩
end Go.Proofs.Ytmfaepkmiceoeaa.A

namespace Go.Proofs.Ytmfaepkmiceoeaa.A
open Go Go.Vm
set_option maxRecDepth 10000
set_option linter.unusedVariables false
theorem End_ok {h : Heap} {p : Nat} {sv : Value} {bs : List UInt8} {pl : Nat} {e fa : Int} (hr : PR h p sv bs pl e fa) :
    Runs Try.prog T0 (.fn fn_zebQ) [.pointer (some ⟨p, 0, none⟩)] h
      (fun r h' => r = .agg ⟨if e = 0 ∧ pl < bs.length then [.int .i64 4, .int .i64 pl] else [.int .i64 e, .int .i64 fa]⟩ ∧ Fr (fun _ => False) h h') (fun _ _ => False) := by
  obtain ⟨a, cap, rfl, hlen, _⟩ := hr.own.rd
  haveI : HGet h p _ := ⟨hr.get⟩
  haveI : BLt p h := ⟨hr.lt⟩
  refine zebQ_runs ?_
  refine stp ?_
  refine D.dec (fun he => ?_) (fun he => ?_)
  · refine stp ?_
    refine C.if (fun hlt => ?_) (fun hge => ?_)
    · refine stp ?_
      rw [if_pos ⟨he, by omega⟩]
      exact ⟨rfl, Fr.refl.push⟩
    · refine stp ?_
      rw [if_neg (by omega)]
      exact ⟨rfl, Fr.refl.push⟩
  · refine stp ?_
    rw [if_neg (fun h => he h.1)]
    exact ⟨rfl, Fr.refl.push⟩
end Go.Proofs.Ytmfaepkmiceoeaa.A

namespace Go.Proofs.Ytmfaepkmiceoeaa.A
open Go Go.Vm
set_option maxRecDepth 10000
set_option linter.unusedVariables false
theorem Clone_ok {h : Heap} {v : Value} {l : List UInt8} (hr : Rd h 1 v (bcells l) l.length) (hs : l.length < 1048576) :
    Runs Try.prog T0 (.fn fn_zjQ) [v] h
      (fun r h' => Own h' 1 r (bcells l) l.length ∧ Fr (fun _ => False) h h' ∧ ∀ i, ownedBy r i → h.n ≤ i) (fun _ _ => False) := by
  have hnew := hr.new
  obtain ⟨a, cap, rfl, hlen, hc⟩ := hr
  refine zjQ_runs ?_
  cases a with
  | none =>
    have hl : l = [] := by
      cases l with
      | nil => rfl
      | cons b l => obtain ⟨_, _, _, h1, _⟩ := hc (by simp); cases h1
    subst hl
    refine stp ?_
    exact ⟨.none, Fr.refl, fun i hi => hi.elim⟩
  | some a =>
    refine stp ?_
    have hz : Own (h.push (.cells [] 0)) 1 (.slice (some ⟨h.n, 0, none⟩) 0 0) [] 0 := .lit (by simp) (by rw [Heap.get_push, if_pos rfl])
    have hnew' := ((Rd.keep (S := fun _ => False) ⟨some a, cap, rfl, hlen, hc⟩ (Fr.refl.push (o := .cells [] 0)) fun _ _ => id).new (size := 1)) [.int .u8 0]
    refine O.append hz hnew' hlen (bcells_one l) (by omega) (by omega) (by omega) (fun v' h' h1 h2 h3 => ?_)
    refine stp ?_
    rw [Nat.zero_add, List.nil_append] at h1
    refine ⟨h1, (Fr.refl.push (o := .cells [] 0)).trans (S := fun _ => False) h2 (fun i hi ho => ?_), fun i hi => ?_⟩
    · have : h.n = i := ho
      omega
    · rcases h3 i hi with h4 | h4
      · have : h.n = i := h4
        omega
      · simp at h4; omega
end Go.Proofs.Ytmfaepkmiceoeaa.A

namespace Go.Proofs.Ytmfaepkmiceoeaa.A
open Go Go.Vm
set_option maxRecDepth 10000
set_option linter.unusedVariables false
theorem numS_err {bs : List UInt8} {pl : Nat} {e : Int} (h : numS bs pl = .error e) : e = 5 ∨ e = 6 := by
  unfold numS at h
  split at h
  · cases h; exact .inr rfl
  · split at h
    · cases h; exact .inl rfl
    · split at h
      · cases h; exact .inr rfl
      · split at h
        · cases h; exact .inl rfl
        · cases h
theorem numS_ok {bs : List UInt8} {pl n pl' : Nat} (h : numS bs pl = .ok (n, pl')) : n ≤ 9223372036854775807 ∧ pl' ≤ bs.length ∧ pl < pl' := by
  unfold numS at h
  split at h
  · cases h
  · split at h
    · cases h
    · split at h
      · cases h
      · split at h
        · cases h
        · cases h
          refine ⟨?_, by omega, by omega⟩
          omega
def partS (k : Nat) (bs : List UInt8) (pl : Nat) : Except Int (List UInt8 × Nat) :=
  if bs.length < pl + k then .error 6 else .ok ((bs.drop pl).take k, pl + k)
structure RSt where
  pl : Nat
  e : Int
  fa : Int
structure PRs (h : Heap) (p : Nat) (sv : Value) (bs : List UInt8) (st : RSt) : Prop where
  ex : ∃ pl, (st.e = 0 → pl = st.pl ∧ st.fa = 0) ∧ PR h p sv bs pl st.e st.fa
def rd {α : Type} (S : Nat → Except Int (α × Nat)) (zero : α) (st : RSt) : α × RSt :=
  if st.e = 0 then match S st.pl with
    | .ok (a, pl) => (a, ⟨pl, 0, 0⟩)
    | .error e => (zero, ⟨0, e, st.pl⟩)
  else (zero, st)
theorem PRs.keep {S : Nat → Prop} {h h' : Heap} {p : Nat} {sv : Value} {bs : List UInt8} {st : RSt} (hp : PRs h p sv bs st) (hf : Fr S h h') (hs : ¬ S p) (hb : ∀ i, ownedBy sv i → ¬ S i) : PRs h' p sv bs st :=
  let ⟨pl, h1, h2⟩ := hp.ex
  ⟨pl, h1, h2.keep hf hs hb⟩
theorem PRs.none {h h' : Heap} {p : Nat} {sv : Value} {bs : List UInt8} {st : RSt} (hp : PRs h p sv bs st) (hf : Fr (fun _ => False) h h') : PRs h' p sv bs st := hp.keep hf id fun _ _ => id
theorem PRs.lt {h : Heap} {p : Nat} {sv : Value} {bs : List UInt8} {st : RSt} (hp : PRs h p sv bs st) : p < h.n := let ⟨_, _, h2⟩ := hp.ex; h2.lt
theorem PRs.small {h : Heap} {p : Nat} {sv : Value} {bs : List UInt8} {st : RSt} (hp : PRs h p sv bs st) : bs.length < 1048576 := let ⟨_, _, h2⟩ := hp.ex; h2.small
theorem PRs.le {h : Heap} {p : Nat} {sv : Value} {bs : List UInt8} {st : RSt} (hp : PRs h p sv bs st) (he : st.e = 0) : st.pl ≤ bs.length := let ⟨_, h1, h2⟩ := hp.ex; (h1 he).1 ▸ h2.at_le
theorem PRs.mk' {h : Heap} {p : Nat} {sv : Value} {bs : List UInt8} {pl : Nat} (hp : PR h p sv bs pl 0 0) : PRs h p sv bs ⟨pl, 0, 0⟩ := ⟨pl, fun _ => ⟨rfl, rfl⟩, hp⟩
def Reads {α : Type} (h : Heap) (p : Nat) (sv : Value) (bs : List UInt8) (x : α × RSt) (V : α → Value → Heap → Prop) (r : Value) (h' : Heap) : Prop :=
  Fr (fun i => i = p) h h' ∧ V x.1 r h' ∧ PRs h' p sv bs x.2
theorem rd_ok {α : Type} {h h' : Heap} {p : Nat} {sv : Value} {bs : List UInt8} {pl pl' : Nat} {S : Nat → Except Int (α × Nat)} {zero a : α} {V : α → Value → Heap → Prop} {r : Value} (hS : S pl = .ok (a, pl')) (hf : Fr (fun i => i = p) h h') (hV : V a r h') (hp : PR h' p sv bs pl' 0 0) :
    Reads h p sv bs (rd S zero ⟨pl, 0, 0⟩) V r h' := by
  unfold rd
  rw [if_pos rfl]
  simp only [hS]
  exact ⟨hf, hV, .mk' hp⟩
theorem rd_err {α : Type} {h h' : Heap} {p : Nat} {sv : Value} {bs : List UInt8} {pl pl' : Nat} {e : Int} {S : Nat → Except Int (α × Nat)} {zero : α} {V : α → Value → Heap → Prop} {r : Value} (hS : S pl = .error e) (he : e ≠ 0) (hf : Fr (fun i => i = p) h h') (hV : V zero r h') (hp : PR h' p sv bs pl' e pl) :
    Reads h p sv bs (rd S zero ⟨pl, 0, 0⟩) V r h' := by
  unfold rd
  rw [if_pos rfl]
  simp only [hS]
  exact ⟨hf, hV, ⟨pl', fun h0 => absurd h0 he, hp⟩⟩
theorem rd_bad {α : Type} {h h' : Heap} {p : Nat} {sv : Value} {bs : List UInt8} {st : RSt} {S : Nat → Except Int (α × Nat)} {zero : α} {V : α → Value → Heap → Prop} {r : Value} (he : st.e ≠ 0) (hf : Fr (fun i => i = p) h h') (hV : V zero r h') (hp : PRs h' p sv bs st) :
    Reads h p sv bs (rd S zero st) V r h' := by
  unfold rd
  rw [if_neg he]
  exact ⟨hf, hV, hp⟩
theorem Num_run {h : Heap} {p : Nat} {sv : Value} {bs : List UInt8} {st : RSt} (hp : PRs h p sv bs st) :
    Runs Try.prog T0 (.fn fn_zibQ) [.pointer (some ⟨p, 0, none⟩)] h (Reads h p sv bs (rd (numS bs) 0 st) fun a r _ => r = .int .i64 (a : Nat)) (fun _ _ => False) := by
  obtain ⟨st1, e, fa⟩ := st
  obtain ⟨pl, h1, h2⟩ := hp.ex
  by_cases he : e = 0
  · subst he
    obtain ⟨rfl, h3⟩ := h1 rfl
    have h3 : fa = 0 := h3
    subst h3
    refine (Num_ok h2).imp fun r h' ⟨hf, hq⟩ => ?_
    cases hS : numS bs pl with
    | ok x =>
      rw [hS] at hq
      exact rd_ok hS hf hq.1 hq.2
    | error e =>
      rw [hS] at hq
      obtain ⟨hz, pl', hp'⟩ := hq
      exact rd_err hS (by rcases numS_err hS with rfl | rfl <;> omega) hf hz hp'
  · refine (Num_bad h2 he).imp fun r h' ⟨hz, hh⟩ => ?_
    subst hh
    exact rd_bad he Fr.refl hz hp
end Go.Proofs.Ytmfaepkmiceoeaa.A

namespace Go.Proofs.Ytmfaepkmiceoeaa.A
open Go Go.Vm
set_option maxRecDepth 10000
set_option linter.unusedVariables false
theorem NewReader_ok {h : Heap} {v : Value} {l : List UInt8} (hr : Rd h 1 v (bcells l) l.length) (hs : l.length < 1048576) :
    Runs Try.prog T0 (.fn fn_zcbQ) [v] h (fun r h' => ∃ p sv, r = .pointer (some ⟨p, 0, none⟩) ∧ h.n ≤ p ∧ (∀ i, ownedBy sv i → h.n ≤ i) ∧ PRs h' p sv l ⟨0, 0, 0⟩ ∧ Fr (fun _ => False) h h') (fun _ _ => False) := by
  refine zcbQ_runs ?_
  refine stp ?_
  refine O.call' (Clone_ok hr hs) (fun r h1 hq => ?_)
  obtain ⟨ho, hf, hnew⟩ := hq
  obtain ⟨a, cap, rfl, hlen, _⟩ := ho.rd
  have hn := hf.n
  refine stp ?_
  refine ⟨h1.n, _, rfl, hn, hnew, .mk' ⟨by omega, hs, by simp, by rw [Heap.get_push, if_pos rfl]; rfl, ho.keep (S := fun _ => False) Fr.refl.push fun _ _ => id, fun hi => ?_⟩, hf.push⟩
  have := ho.lt hi
  omega
def endS (bs : List UInt8) (st : RSt) : Int × Int := if st.e = 0 ∧ st.pl < bs.length then (4, st.pl) else (st.e, st.fa)
theorem End_run {h : Heap} {p : Nat} {sv : Value} {bs : List UInt8} {st : RSt} (hp : PRs h p sv bs st) :
    Runs Try.prog T0 (.fn fn_zebQ) [.pointer (some ⟨p, 0, none⟩)] h (fun r h' => r = .agg ⟨[.int .i64 (endS bs st).1, .int .i64 (endS bs st).2]⟩ ∧ Fr (fun _ => False) h h') (fun _ _ => False) := by
  obtain ⟨pl, h1, h2⟩ := hp.ex
  refine (End_ok h2).imp fun r h' ⟨hr, hf⟩ => ⟨?_, hf⟩
  rw [hr]
  unfold endS
  by_cases he : st.e = 0
  · rw [(h1 he).1]
    split <;> rfl
  · rw [if_neg (fun h => he h.1), if_neg (fun h => he h.1)]
end Go.Proofs.Ytmfaepkmiceoeaa.A

namespace Go.Proofs.Ytmfaepkmiceoeaa.A
open Go Go.Vm
set_option maxRecDepth 10000
set_option linter.unusedVariables false
end Go.Proofs.Ytmfaepkmiceoeaa.A

namespace Go.Proofs.Ytmfaepkmiceoeaa.A
open Go Go.Vm
set_option maxRecDepth 10000
set_option linter.unusedVariables false
def beN (n : Nat) : List UInt8 := if h : n = 0 then [] else beN (n / 256) ++ [UInt8.ofNat (n % 256)]
  termination_by n
  decreasing_by omega
theorem beN_zero : beN 0 = [] := by unfold beN; simp
theorem beN_pos {n : Nat} (h : n ≠ 0) : beN n = beN (n / 256) ++ [UInt8.ofNat (n % 256)] := by rw [beN]; rw [dif_neg h]
def numF (n : Nat) : List UInt8 := UInt8.ofNat (beN n).length :: beN n
theorem beN_len : ∀ (k n : Nat), n < 256 ^ k → (beN n).length ≤ k
  | 0, n, h => by
    obtain rfl : n = 0 := by simpa using h
    rw [beN_zero]; simp
  | k + 1, n, h => by
    by_cases h0 : n = 0
    · subst h0; rw [beN_zero]; simp
    · rw [beN_pos h0, List.length_append]
      have : n / 256 < 256 ^ k := Nat.div_lt_of_lt_mul (by rw [Nat.pow_succ] at h; omega)
      have := beN_len k _ this
      simp; omega
theorem u8nat {n : Nat} (h : n < 256) : (UInt8.ofNat n).toNat = n := by
  rw [UInt8.toNat_ofNat']
  exact Nat.mod_eq_of_lt h
theorem number_ok {h : Heap} {N : Nat} (hN : N ≤ 9223372036854775807) :
    Runs Try.prog T0 (.fn fn_zsbQ) [.int .i64 N] h (fun r h' => Rd h' 1 r (bcells (numF N)) (numF N).length ∧ (∀ i, blockOf r i → h.n ≤ i) ∧ Fr (fun _ => False) h h') (fun _ _ => False) := by
  refine zsbQ_runs ?_
  refine stp ?_
  refine zsbQ_l0_rule (fun m v0 v4 h' => ∃ (n k : Nat) (c : List Value) (ds : List UInt8), n = m ∧ v0 = .int .i64 n ∧ v4 = .int .i64 k ∧ k ≤ 8 ∧ n < 256 ^ (8 - k) ∧ n ≤ N ∧ h' = h.push (.cells c 0) ∧ c.length = 9 ∧ ds.length = k ∧ c.drop (9 - k) = bcells ds ∧ beN N = beN n ++ ds) ?_ N
    ⟨N, 0, _, [], rfl, rfl, rfl, by omega, by simp; omega, Nat.le_refl _, rfl, rfl, rfl, rfl, by simp⟩
  rintro m v0 v4 h' x5 x6 x7 x8 x9 x10 x11 x12 x13 x14 x15 ⟨n, k, c, ds, hnm, rfl, rfl, hk, hn, hnN, rfl, hc, hds, hd, hbe⟩
  subst hnm
  refine stp ?_
  refine C.if (fun hpos => ?_) (fun hz => ?_)
  · have hk8 : k < 8 := by
      rcases Nat.lt_or_ge k 8 with h | h
      · exact h
      · obtain rfl : k = 8 := by omega
        simp at hn; omega
    have h256 : n % 256 < 256 := Nat.mod_lt _ (by omega)
    have hw : (IntKind.wrap .u8 (n : Int)) = (((UInt8.ofNat (n % 256)).toNat : Nat) : Int) := by
      rw [wrap_u8, u8nat h256]
      omega
    refine stp ?_
    have h8 : ((8 : Int) - (k : Int)).toNat = 8 - k := by omega
    rw [hw, h8]
    simp only [Nat.zero_add, Nat.mul_one]
    refine O.by0 (XOp.mkStore1 (P := Try.prog) (h := h.push (.cells c 0)) (c := c) (r := h.n) (o := 8 - k) (v := .int .u8 (UInt8.ofNat (n % 256)).toNat) (sp := none) (by omega)).eq rfl ?_
    refine stp ?_
    refine O.how XOp.shr8 ?_
    refine stp ?_
    have hdiv : ((n : Int) / 256) = ((n / 256 : Nat) : Int) := by omega
    rw [hdiv, Heap.push_set]
    refine zsbQ_l0_again (n / 256) (by omega) ⟨n / 256, k + 1, lset c (8 - k) (.int .u8 (UInt8.ofNat (n % 256)).toNat), UInt8.ofNat (n % 256) :: ds, rfl, rfl, by simp, by omega, ?_, by omega, rfl, by rw [lset_len]; exact hc, by simp [hds], ?_, ?_⟩
    · have : 256 ^ (8 - k) = 256 ^ (8 - (k + 1)) * 256 := by rw [← Nat.pow_succ]; congr 1; omega
      exact Nat.div_lt_of_lt_mul (by omega)
    · rw [show 9 - (k + 1) = 8 - k from by omega, lset_drop _ _ _ (by omega), show 8 - k + 1 = 9 - k from by omega, hd]
      rfl
    · rw [hbe, beN_pos (by omega)]
      simp
  · have hn0 : n = 0 := by omega
    subst hn0
    rw [beN_zero, List.nil_append] at hbe
    have hw : (k : Int) = (((UInt8.ofNat k).toNat : Nat) : Int) := by
      rw [u8nat (by omega)]
    refine stp ?_
    have h8 : ((8 : Int) - (k : Int)).toNat = 8 - k := by omega
    rw [h8]
    simp only [Nat.zero_add, Nat.mul_one]
    refine O.by0 (XOp.mkStore1 (P := Try.prog) (h := h.push (.cells c 0)) (c := c) (r := h.n) (o := 8 - k) (v := .int .u8 k) (sp := none) (by omega)).eq rfl ?_
    refine stp ?_
    rw [Heap.push_set]
    refine O.how (XOp.mkSliceArrLo (8 - k) (by omega) (by omega)) ?_
    refine stp ?_
    rw [show 9 - (8 - k) = k + 1 from by omega, Nat.zero_add, Nat.mul_one]
    have hlen : (numF N).length = k + 1 := by simp [numF, hbe, hds]
    refine ⟨?_, fun i hi => by rw [← hi.1]; exact Nat.le_refl _, Fr.refl.push⟩
    rw [hlen]
    refine Rd.mk (by simp) ?_
    rw [cellsAt_of (c := lset c (8 - k) (.int .u8 k)) (by rw [Heap.get_push, if_pos rfl]; rfl) (by rw [lset_len]; omega), lset_drop _ _ _ (by omega), show 8 - k + 1 = 9 - k from by omega, hd]
    congr 1
    rw [List.take_of_length_le (by simp [bcells, hds])]
    unfold numF
    rw [hbe, hds]
    show _ :: _ = Value.int .u8 ((UInt8.ofNat k).toNat : Nat) :: _
    rw [u8nat (by omega)]
    rfl
end Go.Proofs.Ytmfaepkmiceoeaa.A

namespace Go.Proofs.Ytmfaepkmiceoeaa.A
open Go Go.Vm
set_option maxRecDepth 10000
set_option linter.unusedVariables false
theorem repeatL_len (n : Nat) : (repeatL [.int .u8 0] n).length = n := by
  induction n with
  | zero => rfl
  | succ n ih => simp [repeatL, ih]
theorem Grow_ok {h : Heap} {n : Nat} (hn : n < 1048576) :
    Runs Try.prog T0 (.fn fn_zlQ) [.slice none 0 0, .int .i64 n] h (fun r h' => Own h' 1 r [] 0 ∧ (∀ i, ownedBy r i → h.n ≤ i) ∧ Fr (fun _ => False) h h') (fun _ _ => False) := by
  refine zlQ_runs ?_
  refine stp ?_
  refine C.if (fun hpos => ?_) (fun hz => ?_)
  · rw [show ((n : Int) - (((0 : Nat) : Int) - ((0 : Nat) : Int))) = (n : Int) from by omega]
    refine stp ?_
    refine O.by (v := .slice none 0 0) (h' := h) (by rfl) rfl ?_
    refine stp ?_
    have hx : appendOf 1 1 [.int .u8 0] true (.slice none 0 0) (.int .i64 (n : Int)) h = .ok (.slice (some ⟨h.n, 0, some 0⟩) n n) (h.push (.cells (repeatL [.int .u8 0] n) 1)) := by
      unfold appendOf newCells
      rw [if_neg (by omega)]
      simp only [Bool.true_and, show (decide ((0 : Int) ≤ (n : Int))) = true from by simp, if_true, Int.toNat_natCast, Nat.zero_add]
      rw [if_neg (by omega), if_neg (by omega), if_neg (by omega)]
    refine O.by hx rfl ?_
    refine stp ?_
    refine O.by (v := .slice (some ⟨h.n, 0, some 0⟩) 0 n) (h' := h.push (.cells (repeatL [.int .u8 0] n) 1)) ?_ rfl ?_
    · show sliceOf _ 1 (.slice (some ⟨h.n, 0, some 0⟩) n n) none (some _) none _ = _
      simp only [sliceOf, bnd, eval, lget]
      rw [show idx (n + 1) (.int .i64 ((0 : Nat) : Int)) = some 0 from idx_in (by omega)]
      simp
    refine stp ?_
    refine ⟨.grown (c := []) (j := repeatL [.int .u8 0] n) (by simp) (by omega) (by omega) rfl (by simp [repeatL_len]) (by rw [Heap.get_push, if_pos rfl]; rfl), fun i hi => by rw [← hi]; exact Nat.le_refl _, Fr.refl.push⟩
  · refine stp ?_
    exact ⟨.none, fun i hi => hi.elim, Fr.refl⟩
def Parts (h : Heap) (ls : List (Value × List UInt8)) : Prop := ∀ p ∈ ls, Rd h 1 p.1 (bcells p.2) p.2.length
theorem Parts.keep {h h' : Heap} {ls : List (Value × List UInt8)} (hp : Parts h ls) (hf : Fr (fun _ => False) h h') : Parts h' ls := fun p hm => (hp p hm).keep hf fun _ _ => id
def flat (ls : List (Value × List UInt8)) : List UInt8 := ls.flatMap (·.2)
theorem flat_take {ls : List (Value × List UInt8)} {k : Nat} (hk : k < ls.length) : flat (ls.take (k + 1)) = flat (ls.take k) ++ ls[k].2 := by
  unfold flat
  rw [List.take_succ_eq_append_getElem hk]
  simp only [List.flatMap_append, List.flatMap_cons, List.flatMap_nil, List.append_nil]
theorem flat_le {ls : List (Value × List UInt8)} (k : Nat) : (flat (ls.take k)).length ≤ (flat ls).length := by
  conv => rhs; rw [← List.take_append_drop k ls]
  unfold flat
  rw [List.flatMap_append]
  simp
theorem lget_map {ls : List (Value × List UInt8)} {k : Nat} (hk : k < ls.length) : lget (ls.map (·.1)) k = ls[k].1 := by
  induction ls generalizing k with
  | nil => simp at hk
  | cons a l ih =>
    cases k with
    | zero => rfl
    | succ k => exact ih (by simpa using hk)
theorem Concat_ok {h : Heap} {v : Value} {ls : List (Value × List UInt8)} (hv : Rd h 1 v (ls.map (·.1)) ls.length) (hp : Parts h ls) (hn : ls.length < 1048576) (hs : (flat ls).length < 1048576) :
    Runs Try.prog T0 (.fn fn_zkQ) [v] h (fun r h' => Own h' 1 r (bcells (flat ls)) (flat ls).length ∧ (∀ i, ownedBy r i → h.n ≤ i) ∧ Fr (fun _ => False) h h') (fun _ _ => False) := by
  have hv' := hv
  obtain ⟨a, cap, rfl, hlen, hc⟩ := hv
  refine zkQ_runs ?_
  refine stp ?_
  refine zkQ_l0_rule (fun m v3 v11 h' => ∃ k : Nat, k ≤ ls.length ∧ m = ls.length - k ∧ v3 = .int .i64 (flat (ls.take k)).length ∧ v11 = .int .i64 k ∧ h = h') ?_ ls.length ⟨0, by omega, rfl, rfl, rfl, rfl⟩
  rintro m v3 v11 h' x5 x12 x13 x14 x15 x16 x17 x18 x19 x20 x21 x22 ⟨k, hk, rfl, rfl, rfl, rfl⟩
  refine stp ?_
  refine C.if (fun hlt => ?_) (fun hge => ?_)
  · have hk' : k < ls.length := by omega
    obtain ⟨b, o, sp, rfl, hb, hcc⟩ := hc (by omega)
    rw [Nat.mul_one] at hcc
    haveI := cell_at (k := k) hcc hk'
    rw [lget_map hk'] at this
    haveI := this
    obtain ⟨a1, cap1, hv1, _, _⟩ := hp ls[k] (List.getElem_mem _)
    have hfl := flat_le (ls := ls) (k + 1)
    rw [flat_take hk', List.length_append] at hfl
    refine stp ?_
    rw [hv1]
    refine stp ?_
    refine zkQ_l0_again (ls.length - (k + 1)) (by omega) ⟨k + 1, by omega, rfl, ?_, rfl, rfl⟩
    rw [flat_take hk', List.length_append]
    rfl
  · obtain rfl : k = ls.length := by omega
    rw [List.take_length]
    refine stp ?_
    refine O.call' (Grow_ok hs) (fun r h1 hr => ?_)
    obtain ⟨ho, hnew, hf⟩ := hr
    refine stp ?_
    refine zkQ_l1_rule (fun m v6 v27 h' => ∃ k : Nat, k ≤ ls.length ∧ m = ls.length - k ∧ v27 = .int .i64 k ∧ Own h' 1 v6 (bcells (flat (ls.take k))) (flat (ls.take k)).length ∧ (∀ i, ownedBy v6 i → h'.n ≤ i ∨ h.n ≤ i) ∧ Fr (fun _ => False) h h') ?_ ls.length ⟨0, by omega, rfl, rfl, ho, fun i hi => .inr (hnew i hi), hf⟩
    clear ho hnew hf
    rintro m v6 v27 h' x8 x28 x29 x30 x31 x32 x33 x34 ⟨k, hk, rfl, rfl, ho, hnew, hf⟩
    refine stp ?_
    refine C.if (fun hlt => ?_) (fun hge => ?_)
    · have hk' : k < ls.length := by omega
      obtain ⟨b, o, sp, rfl, hb, hcc⟩ := hc (by omega)
      rw [Nat.mul_one, ← cellsAt_keep hf hb id] at hcc
      haveI := cell_at (k := k) hcc hk'
      rw [lget_map hk'] at this
      haveI := this
      have hpk := (hp ls[k] (List.getElem_mem _)).keep hf fun _ _ => id
      have hfl := flat_le (ls := ls) (k + 1)
      rw [flat_take hk', List.length_append] at hfl
      refine stp ?_
      refine O.append ho (hpk.new [.int .u8 0]) (by rw [bcells_len]; omega) (bcells_one _) (by omega) (by omega) (by omega) (fun v' h2 h3 h4 h5 => ?_)
      refine stp ?_
      refine zkQ_l1_again (ls.length - (k + 1)) (by omega) ⟨k + 1, by omega, rfl, rfl, ?_, fun i hi => ?_, ?_⟩
      · rw [flat_take hk', List.length_append, bcells_append]
        exact h3
      · rcases h5 i hi with h6 | h6
        · rcases hnew i h6 with h7 | h7
          · exact .inr (Nat.le_trans hf.n h7)
          · exact .inr h7
        · exact .inr (Nat.le_trans hf.n h6)
      · refine Fr.trans (S := fun _ => False) hf h4 fun i hi ho' => ?_
        rcases hnew i ho' with h7 | h7
        · have := hf.n; omega
        · omega
    · obtain rfl : k = ls.length := by omega
      rw [List.take_length] at ho
      refine stp ?_
      exact ⟨ho, fun i hi => (hnew i hi).elim (Nat.le_trans hf.n) id, hf⟩
end Go.Proofs.Ytmfaepkmiceoeaa.A

namespace Go.Proofs.Ytmfaepkmiceoeaa.A
open Go Go.Vm
set_option maxRecDepth 10000
set_option linter.unusedVariables false
structure PW (h : Heap) (lo p : Nat) (sv : Value) (bs : List UInt8) (lim : Nat) (e : Int) : Prop where
  lt : p < h.n
  le : lo ≤ p
  get : h.get p = .cells [.int .i64 lim, sv, .int .i64 e, .bool true] 0
  own : Own h 1 sv (bcells bs) bs.length
  apart : ¬ ownedBy sv p
  above : ∀ i, ownedBy sv i → lo ≤ i
  small : bs.length < 1048576
structure WSt where
  bs : List UInt8
  e : Int
structure PWs (h : Heap) (lo p lim : Nat) (st : WSt) : Prop where
  ex : ∃ sv, PW h lo p sv st.bs lim st.e
def putS (lim : Nat) (may : Bool) (part : List UInt8) (st : WSt) : WSt :=
  if st.e ≠ 0 then st else if may = false then ⟨st.bs, 3⟩ else if lim < st.bs.length + part.length then ⟨st.bs, 4⟩ else ⟨st.bs ++ part, 0⟩
theorem PW.keep {S : Nat → Prop} {h h' : Heap} {lo p : Nat} {sv : Value} {bs : List UInt8} {lim : Nat} {e : Int} (hp : PW h lo p sv bs lim e) (hf : Fr S h h') (hs : ¬ S p) (hb : ∀ i, ownedBy sv i → ¬ S i) : PW h' lo p sv bs lim e :=
  ⟨hf.lt hp.lt, hp.le, by rw [hf.get p hp.lt hs, hp.get], hp.own.keep hf hb, hp.apart, hp.above, hp.small⟩
theorem PWs.keep {S : Nat → Prop} {h h' : Heap} {lo p lim : Nat} {st : WSt} (hp : PWs h lo p lim st) (hf : Fr S h h') (hs : ∀ i, S i → i < lo) : PWs h' lo p lim st :=
  let ⟨sv, hw⟩ := hp.ex
  ⟨sv, hw.keep hf (fun h => by have := hs _ h; have := hw.le; omega) fun i hi h => by have := hs _ h; have := hw.above i hi; omega⟩
theorem PWs.none {h h' : Heap} {lo p lim : Nat} {st : WSt} (hp : PWs h lo p lim st) (hf : Fr (fun _ => False) h h') : PWs h' lo p lim st := hp.keep hf fun _ h => h.elim
theorem PWs.lo_le {h : Heap} {lo p lim : Nat} {st : WSt} (hp : PWs h lo p lim st) : lo ≤ h.n := let ⟨_, hw⟩ := hp.ex; Nat.le_of_lt (Nat.lt_of_le_of_lt hw.le hw.lt)
def Writes (h : Heap) (lo p lim : Nat) (st : WSt) (r : Value) (h' : Heap) : Prop := r = .int .i64 st.e ∧ PWs h' lo p lim st ∧ Fr (fun i => lo ≤ i) h h'
theorem put_ok {h : Heap} {lo p lim : Nat} {st : WSt} {may : Bool} {v : Value} {ls : List (Value × List UInt8)} (hw : PWs h lo p lim st) (hv : Rd h 1 v (ls.map (·.1)) ls.length) (hp : Parts h ls) (hn : ls.length < 1048576) (hs : st.bs.length + (flat ls).length < 1048576) :
    Runs Try.prog T0 (.fn fn_zpbQ) [.pointer (some ⟨p, 0, none⟩), .bool may, v] h (Writes h lo p lim (putS lim may (flat ls) st)) (fun _ _ => False) := by
  obtain ⟨bs, e⟩ := st
  obtain ⟨sv, hw⟩ := hw.ex
  have hs : bs.length + (flat ls).length < 1048576 := hs
  have hw : PW h lo p sv bs lim e := hw
  have hle := hw.le
  have hlt := hw.lt
  obtain ⟨a0, cap0, rfl, hl0, _⟩ := hw.own.rd
  haveI : HGet h p _ := ⟨hw.get⟩
  refine zpbQ_runs ?_
  refine stp ?_
  refine O.call' (Concat_ok hv hp hn (by omega)) (fun r h1 hr => ?_)
  obtain ⟨ho, hnew, hf⟩ := hr
  obtain ⟨a1, cap1, rfl, hl1, _⟩ := ho.rd
  have hw1 := hw.keep hf id fun _ _ => id
  haveI : HGet h1 p _ := ⟨hw1.get⟩
  have hfl : Fr (fun i => lo ≤ i) h h1 := hf.mono fun _ _ h => h.elim
  refine stp ?_
  refine C.ifN (fun he => ?_) (fun he => ?_)
  · refine stp ?_
    unfold putS
    rw [if_pos (by simpa using he)]
    exact ⟨rfl, ⟨_, hw1⟩, hfl⟩
  · subst he
    refine stp ?_
    cases may with
    | false =>
      refine stp ?_
      unfold putS
      rw [if_neg (by simp), if_pos rfl]
      refine ⟨rfl, ⟨.slice a0 bs.length cap0, by simpa using hw1.lt, hw.le, by rw [Heap.get_set, if_pos rfl], hw1.own.keep (S := fun i => i = p) (Fr.refl.set fun _ => rfl) fun i hi hp => hw1.apart (hp ▸ hi), hw1.apart, hw1.above, hw1.small⟩, hfl.set fun _ => hw.le⟩
    | true =>
      refine stp ?_
      refine C.if (fun hlong => ?_) (fun hfit => ?_)
      · refine stp ?_
        unfold putS
        rw [if_neg (by simp), if_neg (by simp), if_pos (by simp only; omega)]
        refine ⟨rfl, ⟨.slice a0 bs.length cap0, by simpa using hw1.lt, hw.le, by rw [Heap.get_set, if_pos rfl], hw1.own.keep (S := fun i => i = p) (Fr.refl.set fun _ => rfl) fun i hi hp => hw1.apart (hp ▸ hi), hw1.apart, hw1.above, hw1.small⟩, hfl.set fun _ => hw.le⟩
      · refine stp ?_
        refine O.append hw1.own (ho.rd.new [.int .u8 0]) (by rw [bcells_len]; omega) (bcells_one _) (by omega) (by omega) (by omega) (fun v' h2 h3 h4 h5 => ?_)
        obtain ⟨a2, cap2, rfl, hl2, _⟩ := h3.rd
        have hp2 : HGet h2 p _ := h4.keep ⟨hw1.get⟩ hw1.lt hw1.apart
        refine stp ?_
        have hnp : ¬ ownedBy (.slice a2 (bs.length + (flat ls).length) cap2) p := fun hi => by
          rcases h5 p hi with h6 | h6
          · exact hw1.apart h6
          · have := hw1.lt; omega
        unfold putS
        rw [if_neg (by simp), if_neg (by simp), if_neg (by simp only; omega)]
        refine ⟨rfl, ⟨_, by have := h4.lt hw1.lt; simpa using this, hw.le, by rw [Heap.get_set, if_pos rfl], ?_, hnp, fun i hi => ?_, by simp; omega⟩, Fr.set (Fr.trans (S := fun i => lo ≤ i) hfl h4 fun i hi ho' => hw1.above i ho') fun _ => hw.le⟩
        · show Own _ 1 (.slice a2 (bs.length + (flat ls).length) cap2) (bcells (bs ++ flat ls)) (bs ++ flat ls).length
          rw [bcells_append, List.length_append]
          exact h3.keep (S := fun i => i = p) (Fr.refl.set fun _ => rfl) fun i hi hp => hnp (hp ▸ hi)
        · rcases h5 i hi with h6 | h6
          · exact hw1.above i h6
          · have := hw1.lt; omega
end Go.Proofs.Ytmfaepkmiceoeaa.A

namespace Go.Proofs.Ytmfaepkmiceoeaa.A
open Go Go.Vm
set_option maxRecDepth 10000
set_option linter.unusedVariables false
theorem numF_len {n : Nat} (h : n ≤ 9223372036854775807) : (numF n).length ≤ 9 := by
  have := beN_len 8 n (by omega)
  simp [numF]; omega
theorem rd_lit {h : Heap} {c : List Value} {n es : Nat} (hc : c.length = n) : Rd (h.push (.cells c es)) 1 (.slice (some ⟨h.n, 0, none⟩) n n) c n := by
  refine Rd.mk (by simp) ?_
  rw [cellsAt_of (c := c) (by rw [Heap.get_push, if_pos rfl]; rfl) (by omega), List.drop_zero, List.take_of_length_le (by omega)]
theorem WNum_ok {h : Heap} {lo p lim : Nat} {st : WSt} {n : Int} (hw : PWs h lo p lim st) (hn : n ≤ 9223372036854775807) (hs : st.bs.length + 9 < 1048576) :
    Runs Try.prog T0 (.fn fn_zobQ) [.pointer (some ⟨p, 0, none⟩), .int .i64 n] h (Writes h lo p lim (putS lim (decide (0 ≤ n)) (numF n.toNat) st)) (fun _ _ => False) := by
  have hlo := hw.lo_le
  refine zobQ_runs ?_
  refine stp ?_
  have hm : (if (0 : Int) > n then 0 else n) = ((n.toNat : Nat) : Int) := by split <;> omega
  rw [hm]
  refine O.call' (number_ok (N := n.toNat) (by omega)) (fun r h1 hr => ?_)
  obtain ⟨hrd, hnew, hf⟩ := hr
  have hw1 := hw.none hf
  have hfl := numF_len (n := n.toNat) (by omega)
  obtain ⟨a1, cap1, rfl, hl1, _⟩ := id hrd
  refine stp ?_
  refine O.call' (put_ok (ls := [(.slice a1 (numF n.toNat).length cap1, numF n.toNat)]) (hw1.none Fr.refl.push) (rd_lit rfl) ?_ (by simp) (by simp [flat]; omega)) (fun r h2 hr => ?_)
  · intro q hq
    simp at hq
    subst hq
    exact hrd.keep (S := fun _ => False) Fr.refl.push fun _ _ => id
  · refine stp ?_
    rw [show flat [(Value.slice a1 (numF n.toNat).length cap1, numF n.toNat)] = numF n.toNat from by simp [flat]] at hr
    exact ⟨hr.1, hr.2.1, Fr.trans (S := fun i => lo ≤ i) (hf.mono fun _ _ h => h.elim) (Fr.trans (S := fun i => lo ≤ i) Fr.refl.push hr.2.2 fun _ _ h => h) fun _ _ h => h⟩
theorem NewWriter_ok {h : Heap} {lim : Nat} (hl : lim ≤ 1048576) :
    Runs Try.prog T0 (.fn fn_zdbQ) [.int .i64 lim] h (fun r h' => r = .tuple ⟨[.pointer (some ⟨h.n, 0, none⟩), .int .i64 0]⟩ ∧ PWs h' h.n h.n lim ⟨[], 0⟩ ∧ Fr (fun _ => False) h h') (fun _ _ => False) := by
  refine zdbQ_runs ?_
  refine stp ?_
  refine C.if (fun h1 => by omega) (fun _ => ?_)
  refine stp ?_
  refine ⟨rfl, ⟨.slice none 0 0, by simp, Nat.le_refl _, by rw [Heap.get_push, if_pos rfl], .none, fun h => h, fun i h => h.elim, by simp⟩, Fr.refl.push⟩
theorem Done_ok {h : Heap} {lo p lim : Nat} {st : WSt} (hw : PWs h lo p lim st) :
    Runs Try.prog T0 (.fn fn_zmbQ) [.pointer (some ⟨p, 0, none⟩)] h
      (fun r h' => ∃ v, r = .tuple ⟨[v, .int .i64 st.e]⟩ ∧ Own h' 1 v (bcells (if st.e = 0 then st.bs else [])) (if st.e = 0 then st.bs else []).length ∧ (∀ i, ownedBy v i → h.n ≤ i) ∧ Fr (fun _ => False) h h') (fun _ _ => False) := by
  obtain ⟨bs, e⟩ := st
  obtain ⟨sv, hw⟩ := hw.ex
  have hw : PW h lo p sv bs lim e := hw
  obtain ⟨a0, cap0, rfl, hl0, _⟩ := hw.own.rd
  haveI : HGet h p _ := ⟨hw.get⟩
  refine zmbQ_runs ?_
  refine stp ?_
  refine C.ifN (fun he => ?_) (fun he => ?_)
  · refine stp ?_
    rw [if_neg he]
    exact ⟨_, rfl, .none, fun i h => h.elim, Fr.refl⟩
  · subst he
    refine stp ?_
    refine O.call' (Clone_ok hw.own.rd hw.small) (fun r h1 hr => ?_)
    refine stp ?_
    exact ⟨_, rfl, hr.1, hr.2.2, hr.2.1⟩
end Go.Proofs.Ytmfaepkmiceoeaa.A
