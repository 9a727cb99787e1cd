/- Contracts of functions, over the machine. -/
import Derived.Test.YtmfaepkmiceoeaaQValsTells2
import Derived.Test.YtmfaepkmiceoeaaVK
import Derived.Test.YtmfaepkmiceoeaaVJ
noncomputable section
set_option maxRecDepth 100000
set_option linter.unusedVariables false
namespace Go.Proofs.Ytmfaepkmiceoeaa.A
open Go Go.Vm
abbrev fn_zxbQ : FuncId := 110
def zxbQ_l0 : ACode :=
 (.seq (.region [
 o1 176 (.nextStr (tm 175)),
 o1 177 (.extract 0 (tm 176))]) (.seq (.cond (tm 177)
 .skip
 (.exit 9)) (.block 10 (.seq (.region [
 o1 178 (.extract 1 (tm 176)),
 o1 179 (.extract 2 (tm 176)),
 o1 5 (.mov (tm 178)),
 o1 6 (.mov (tm 179))]) (.seq (.region [
 o1 180 (.mov (tm 6)),
 o1 181 (.bin .eql (so (.binOp .eql 21 (tm 180) (.const (.int .i32 65533)) 21) 4) (tm 180) (.const (.int .i32 65533)))]) (.cond (tm 181)
 (.seq (.region [
 o1 182 (.mov (tm 5)),
 o1 4 (.mov (tm 182))]) .ret)
 .skip))))))
def zxbQ_l1 : ACode :=
 (.seq (.seq (.region [
 o1 48 (.mov (tm 12)),
 o1 49 (.mov (tm 7)),
 o1 50 (.lenStr (tm 49)),
 o1 51 (.bin .lss (so (.binOp .lss 3 (tm 48) (tm 50) 3) 4) (tm 48) (tm 50))]) (.cond (tm 51)
 .skip
 (.exit 3))) (.seq (.block 4 (.seq (.regionD [
 o1 54 (.mov (tm 0)),
 o1 55 (.mov (tm 9)),
 o1 56 (.mov (tm 12)),
 o1 57 (.bin .sub (so (.binOp .sub 3 (tm 55) (tm 56) 3) 3) (tm 55) (tm 56)),
 o1 58 (.raw (so (.index 9 (tm 54) (tm 57)) 5)),
 o1 59 (.mov (tm 7)),
 o1 60 (.mov (tm 8)),
 o1 61 (.mov (tm 12)),
 o1 62 (.bin .sub (so (.binOp .sub 3 (tm 60) (tm 61) 3) 3) (tm 60) (tm 61)),
 o1 63 (.raw (so (.index 9 (tm 59) (tm 62)) 5)),
 o2 64 (.bin .neq (so (.binOp .neq 5 (tm 58) (tm 63) 5) 4) (tm 58) (tm 63))]) (.cond (tm 64)
 .stuck
 .skip))) (.region [
 o1 52 (.mov (tm 12)),
 o1 53 (.bin .add (so (.binOp .add 3 (tm 52) (.const (.int .i64 1)) 3) 3) (tm 52) (.const (.int .i64 1))),
 o1 12 (.mov (tm 53))])))
def zxbQ_l2 : ACode :=
 (.seq (.seq (.region [
 o1 23 (.mov (tm 9)),
 o1 24 (.mov (tm 0)),
 o1 25 (.lenStr (tm 24)),
 o1 26 (.bin .lss (so (.binOp .lss 3 (tm 23) (tm 25) 3) 4) (tm 23) (tm 25))]) (.cond (tm 26)
 .skip
 (.exit 1))) (.block 2 (.scope (.seq (.seq (.regionD [
 o1 27 (.mov (tm 0)),
 o1 28 (.mov (tm 9)),
 o1 29 (.raw (so (.index 9 (tm 27) (tm 28)) 5)),
 o1 30 (.mov (tm 7)),
 o1 31 (.mov (tm 8)),
 o1 32 (.raw (so (.index 9 (tm 30) (tm 31)) 5)),
 o2 33 (.bin .neq (so (.binOp .neq 5 (tm 29) (tm 32) 5) 4) (tm 29) (tm 32))]) (.cond (tm 33)
 (.seq (.regionD [
 o1 34 (.mov (tm 0)),
 o1 35 (.mov (tm 9)),
 o1 36 (.bin .add (so (.binOp .add 3 (tm 35) (.const (.int .i64 1)) 3) 3) (tm 35) (.const (.int .i64 1))),
 o1 37 (.sliceStr (tm 34) (some (tm 36)) none),
 o1 38 (.mov (tm 7)),
 o1 39 (.mov (tm 8)),
 o1 40 (.raw (so (.index 9 (tm 38) (tm 39)) 5)),
 o2 41 (.callV (.func 114) [(tm 37), (tm 40)]),
 o2 11 (.mov (tm 41))]) (.seq (.seq (.region [
 o1 42 (.mov (tm 11)),
 o1 43 (.bin .lss (so (.binOp .lss 3 (tm 42) k0 3) 4) (tm 42) k0)]) (.cond (tm 43)
 (.seq (.region [
 o1 4 (.mov (.const (.int .i64 (-1))))]) .ret)
 .skip)) (.region [
 o1 44 (.mov (tm 9)),
 o1 45 (.mov (tm 11)),
 o1 46 (.bin .add (so (.binOp .add 3 (tm 45) (.const (.int .i64 1)) 3) 3) (tm 45) (.const (.int .i64 1))),
 o1 47 (.bin .add (so (.binOp .add 3 (tm 44) (tm 46) 3) 3) (tm 44) (tm 46)),
 o1 9 (.mov (tm 47))])))
 .skip)) (.seq (.seq (.region [
 o1 12 (.mov (.const (.int .i64 1)))]) (.block 3 (.loop zxbQ_l1))) (.seq (.seq (.region [
 o1 65 (.mov (tm 9)),
 o1 66 (.mov (tm 8)),
 o1 67 (.bin .sub (so (.binOp .sub 3 (tm 65) (tm 66) 3) 3) (tm 65) (tm 66)),
 o1 4 (.mov (tm 67))]) .ret) (.seq .skip (.seq (.region [
 o1 68 (.mov (tm 10)),
 o1 69 (.bin .add (so (.binOp .add 3 (tm 68) (.const (.int .i64 1)) 3) 3) (tm 68) (.const (.int .i64 1))),
 o1 10 (.mov (tm 69))]) (.seq (.region [
 o1 70 (.mov (tm 9)),
 o1 71 (.bin .add (so (.binOp .add 3 (tm 70) (.const (.int .i64 1)) 3) 3) (tm 70) (.const (.int .i64 1))),
 o1 9 (.mov (tm 71))]) (.seq (.region [
 o1 72 (.mov (.const (.bool true))),
 o4 73 (.mov (tm 10)) 72,
 o4 74 (.mov (tm 9)) 72,
 o4 75 (.callV (.func 116) [(tm 74)]) 72,
 o4 76 (.bin .gtr (so (.binOp .gtr 3 (tm 73) (tm 75) 3) 4) (tm 73) (tm 75)) 72,
 o1 77 (.pick (tm 72) (tm 76) (.const (.bool false))),
 o1 78 (.mov (tm 77)),
 o4 79 (.mov (tm 9)) 78,
 o4 80 (.mov (tm 0)) 78,
 o4 81 (.lenStr (tm 80)) 78,
 o4 82 (.bin .lss (so (.binOp .lss 3 (tm 79) (tm 81) 3) 4) (tm 79) (tm 81)) 78,
 o1 83 (.pick (tm 78) (tm 82) (.const (.bool false))),
 o1 84 (.mov (tm 83)),
 o5 85 (.mov (.const (.bool false))) 84,
 o4 86 (.mov (tm 10)) 85,
 o4 87 (.mov (tm 9)) 85,
 o4 88 (.bin .shr (so (.binOp .shr 3 (tm 87) (.const (.int .u64 4)) 115) 3) (tm 87) (.const (.int .u64 4))) 85,
 o4 89 (.bin .add (so (.binOp .add 3 (.const (.int .i64 4)) (tm 88) 3) 3) (.const (.int .i64 4)) (tm 88)) 85,
 o4 90 (.bin .geq (so (.binOp .geq 3 (tm 86) (tm 89) 3) 4) (tm 86) (tm 89)) 85,
 o5 91 (.pick (tm 85) (tm 90) (.const (.bool false))) 84,
 o5 92 (.mov (tm 91)) 84,
 o4 93 (.mov (tm 9)) 92,
 o4 94 (.mov (tm 0)) 92,
 o4 95 (.lenStr (tm 94)) 92,
 o4 96 (.bin .lss (so (.binOp .lss 3 (tm 93) (tm 95) 3) 4) (tm 93) (tm 95)) 92,
 o5 97 (.pick (tm 92) (tm 96) (.const (.bool false))) 84,
 o1 98 (.pick (tm 84) (.const (.bool true)) (tm 97))]) (.cond (tm 98)
 .stuck
 .skip)))))))))))
def zxbQ_l3 : ACode :=
 (.seq (.seq (.region [
 o1 140 (.mov (tm 16)),
 o1 141 (.mov (tm 7)),
 o1 142 (.lenStr (tm 141)),
 o1 143 (.bin .lss (so (.binOp .lss 3 (tm 140) (tm 142) 3) 4) (tm 140) (tm 142))]) (.cond (tm 143)
 .skip
 (.exit 7))) (.seq (.block 8 (.seq (.regionD [
 o1 146 (.mov (tm 0)),
 o1 147 (.mov (tm 9)),
 o1 148 (.mov (tm 16)),
 o1 149 (.bin .sub (so (.binOp .sub 3 (tm 147) (tm 148) 3) 3) (tm 147) (tm 148)),
 o1 150 (.raw (so (.index 9 (tm 146) (tm 149)) 5)),
 o1 151 (.mov (tm 7)),
 o1 152 (.mov (tm 8)),
 o1 153 (.mov (tm 16)),
 o1 154 (.bin .sub (so (.binOp .sub 3 (tm 152) (tm 153) 3) 3) (tm 152) (tm 153)),
 o1 155 (.raw (so (.index 9 (tm 151) (tm 154)) 5)),
 o2 156 (.bin .neq (so (.binOp .neq 5 (tm 150) (tm 155) 5) 4) (tm 150) (tm 155))]) (.cond (tm 156)
 (.exit 6)
 .skip))) (.region [
 o1 144 (.mov (tm 16)),
 o1 145 (.bin .add (so (.binOp .add 3 (tm 144) (.const (.int .i64 1)) 3) 3) (tm 144) (.const (.int .i64 1))),
 o1 16 (.mov (tm 145))])))
def zxbQ_l4 : ACode :=
 (.seq (.seq (.region [
 o1 121 (.mov (tm 9)),
 o1 122 (.mov (tm 0)),
 o1 123 (.lenStr (tm 122)),
 o1 124 (.bin .lss (so (.binOp .lss 3 (tm 121) (tm 123) 3) 4) (tm 121) (tm 123))]) (.cond (tm 124)
 .skip
 (.exit 5))) (.seq (.block 6 (.seq (.region [
 o1 127 (.mov (tm 0)),
 o1 128 (.mov (tm 9)),
 o1 129 (.raw (so (.index 9 (tm 127) (tm 128)) 5)),
 o1 130 (.mov (tm 14)),
 o1 131 (.bin .eql (so (.binOp .eql 5 (tm 129) (tm 130) 5) 4) (tm 129) (tm 130)),
 o1 132 (.mov (tm 131)),
 o4 133 (.mov (tm 0)) 132,
 o4 134 (.mov (tm 9)) 132,
 o4 135 (.bin .sub (so (.binOp .sub 3 (tm 134) (.const (.int .i64 1)) 3) 3) (tm 134) (.const (.int .i64 1))) 132,
 o4 136 (.raw (so (.index 9 (tm 133) (tm 135)) 5)) 132,
 o4 137 (.mov (tm 15)) 132,
 o4 138 (.bin .eql (so (.binOp .eql 5 (tm 136) (tm 137) 5) 4) (tm 136) (tm 137)) 132,
 o1 139 (.pick (tm 132) (tm 138) (.const (.bool false)))]) (.cond (tm 139)
 (.seq (.seq (.region [
 o1 16 (.mov (.const (.int .i64 2)))]) (.block 7 (.loop zxbQ_l3))) (.seq (.region [
 o1 157 (.mov (tm 9)),
 o1 158 (.mov (tm 8)),
 o1 159 (.bin .sub (so (.binOp .sub 3 (tm 157) (tm 158) 3) 3) (tm 157) (tm 158)),
 o1 4 (.mov (tm 159))]) .ret))
 .skip))) (.region [
 o1 125 (.mov (tm 9)),
 o1 126 (.bin .add (so (.binOp .add 3 (tm 125) (.const (.int .i64 1)) 3) 3) (tm 125) (.const (.int .i64 1))),
 o1 9 (.mov (tm 126))])))
def zxbQ_c : ACode :=
 (.seq (.region [
 o1 4 (.mov k0)]) (.block 0 (.seq (.region [
 o1 161 (.mov (tm 1)),
 o1 162 (.bin .leq (so (.binOp .leq 21 (.const (.int .i32 0)) (tm 161) 21) 4) (.const (.int .i32 0)) (tm 161)),
 o1 163 (.mov (tm 162)),
 o4 164 (.mov (tm 1)) 163,
 o4 165 (.bin .lss (so (.binOp .lss 21 (tm 164) (.const (.int .i32 128)) 21) 4) (tm 164) (.const (.int .i32 128))) 163,
 o1 166 (.pick (tm 163) (tm 165) (.const (.bool false))),
 o1 160 (.mov (tm 166))]) (.cond (tm 160)
 (.seq (.region [
 o1 167 (.mov (tm 0)),
 o1 168 (.mov (tm 1)),
 o1 169 (.conv .u8 (so (.convert 21 5 (tm 168)) 5) (tm 168)),
 o1 170 (.callV (.func 114) [(tm 167), (tm 169)]),
 o1 4 (.mov (tm 170))]) .ret)
 (.seq (.region [
 o1 172 (.mov (tm 1)),
 o1 173 (.bin .eql (so (.binOp .eql 21 (tm 172) (.const (.int .i32 65533)) 21) 4) (tm 172) (.const (.int .i32 65533))),
 o1 171 (.mov (tm 173))]) (.cond (tm 171)
 (.seq (.seq (.region [
 o1 174 (.mov (tm 0)),
 o1 175 (.rangeStr (tm 174))]) (.block 9 (.loop zxbQ_l0))) (.seq (.region [
 o1 4 (.mov (.const (.int .i64 (-1))))]) .ret))
 (.seq (.region [
 o1 184 (.mov (tm 1)),
 o1 185 (.callV (.func 115) [(tm 184)]),
 o1 186 (.raw (so (.unOp .not 4 (tm 185)) 4)),
 o1 183 (.mov (tm 186))]) (.cond (tm 183)
 (.seq (.region [
 o1 4 (.mov (.const (.int .i64 (-1))))]) .ret)
 (.scope (.seq (.region [
 o1 17 (.mov (tm 1)),
 o1 18 (.raw (so (.convert 21 9 (tm 17)) 9)),
 o1 7 (.mov (tm 18))]) (.seq (.region [
 o1 19 (.mov (tm 7)),
 o1 20 (.lenStr (tm 19)),
 o1 21 (.bin .sub (so (.binOp .sub 3 (tm 20) (.const (.int .i64 1)) 3) 3) (tm 20) (.const (.int .i64 1))),
 o1 8 (.mov (tm 21))]) (.seq (.region [
 o1 22 (.mov (tm 8)),
 o1 9 (.mov (tm 22))]) (.seq (.region [
 o1 10 (.mov k0)]) (.seq (.block 1 (.loop zxbQ_l2)) (.seq (.seq (.region [
 o1 4 (.mov (.const (.int .i64 (-1))))]) .ret) (.seq .skip (.seq (.cond (.const (.bool true))
 (.seq (.region [
 o1 99 (.mov (tm 0)),
 o1 100 (.mov (tm 9)),
 o1 101 (.mov (tm 8)),
 o1 102 (.bin .sub (so (.binOp .sub 3 (tm 100) (tm 101) 3) 3) (tm 100) (tm 101)),
 o1 103 (.sliceStr (tm 99) (some (tm 102)) none),
 o1 104 (.mov (tm 1)),
 o1 105 (.raw (so (.convert 21 9 (tm 104)) 9)),
 o1 106 (.callV (.func 117) [(tm 103), (tm 105)]),
 o1 13 (.mov (tm 106))]) (.seq (.region [
 o1 107 (.mov (tm 13)),
 o1 108 (.bin .geq (so (.binOp .geq 3 (tm 107) k0 3) 4) (tm 107) k0)]) (.cond (tm 108)
 (.seq (.region [
 o1 109 (.mov (tm 9)),
 o1 110 (.mov (tm 13)),
 o1 111 (.bin .add (so (.binOp .add 3 (tm 109) (tm 110) 3) 3) (tm 109) (tm 110)),
 o1 112 (.mov (tm 8)),
 o1 113 (.bin .sub (so (.binOp .sub 3 (tm 111) (tm 112) 3) 3) (tm 111) (tm 112)),
 o1 4 (.mov (tm 113))]) .ret)
 .skip)))
 (.scope (.seq (.region [
 o1 114 (.mov (tm 7)),
 o1 115 (.mov (tm 8)),
 o1 116 (.raw (so (.index 9 (tm 114) (tm 115)) 5)),
 o1 14 (.mov (tm 116))]) (.seq (.region [
 o1 117 (.mov (tm 7)),
 o1 118 (.mov (tm 8)),
 o1 119 (.bin .sub (so (.binOp .sub 3 (tm 118) (.const (.int .i64 1)) 3) 3) (tm 118) (.const (.int .i64 1))),
 o1 120 (.raw (so (.index 9 (tm 117) (tm 119)) 5)),
 o1 15 (.mov (tm 120))]) (.seq .skip (.block 5 (.loop zxbQ_l4))))))) (.seq (.region [
 o1 4 (.mov (.const (.int .i64 (-1))))]) .ret))))))))))))))))))
def zxbQ : AFunc := ⟨187, [(4, none)], zxbQ_c, none⟩
theorem zxbQ_t0 : tableOf Try.prog 110 = some zxbQ := by kernel_rfl
theorem zxbQ_t : T0 110 = some zxbQ := withKept_t rfl (withTrue_t rfl zxbQ_t0)
theorem zxbQ_runs {v0 v1 : Value} {h : Heap} {R : RP} {X : XP} (k : RunC Try.prog T0 zxbQ_c ⟨[v0, v1, U, U, U, U, U, U, U, U, U, U, U, U, U, U, U, U, U, U, U, U, U, U, U, U, U, U, U, U, U, U, U, U, U, U, U, U, U, U, U, U, U, U, U, U, U, U, U, U, U, U, U, U, U, U, U, U, U, U, U, U, U, U, U, U, U, U, U, U, U, U, U, U, U, U, U, U, U, U, U, U, U, U, U, U, U, U, U, U, U, U, U, U, U, U, U, U, U, U, U, U, U, U, U, U, U, U, U, U, U, U, U, U, U, U, U, U, U, U, U, U, U, U, U, U, U, U, U, U, U, U, U, U, U, U, U, U, U, U, U, U, U, U, U, U, U, U, U, U, U, U, U, U, U, U, U, U, U, U, U, U, U, U, U, U, U, U, U, U, U, U, U, U, U, U, U, U, U, U, U, U, U, U, U, U, U], [], h, none⟩ (bodyQ Try.prog T0 [(4, none)] R X)) :
 Runs Try.prog T0 (.fn 110) [v0, v1] h R X := Runs.fn zxbQ_t rfl k
abbrev fn_zjQ : FuncId := 111
def zjQ_c : ACode :=
 (.seq (.region [
 o1 3 (.box 166 (tm 0))]) (.seq (.regionD [
 o1 10 (.indexArr 4 1 (tm 3) k0),
 o1 11 (.load none (tm 10)),
 o1 12 (.indexArr 4 1 (tm 3) (.const (.int .i64 1))),
 o1 13 (.load none (tm 12)),
 o1 14 (.indexArr 4 1 (tm 3) (.const (.int .i64 2))),
 o1 15 (.load none (tm 14)),
 o1 16 (.indexArr 4 1 (tm 3) (.const (.int .i64 3))),
 o1 17 (.load none (tm 16)),
 o1 6 (.mov (tm 11)),
 o1 7 (.mov (tm 13)),
 o1 8 (.mov (tm 15)),
 o2 9 (.mov (tm 17))]) (.seq (.regionD [
 o1 18 (.mov (tm 6)),
 o1 19 (.nilCheck (tm 18)),
 o1 20 (.load none (tm 19)),
 o1 21 (.mov (tm 7)),
 o1 22 (.nilCheck (tm 21)),
 o1 23 (.load none (tm 22)),
 o1 24 (.mov (tm 1)),
 o1 25 (.bin .add (so (.binOp .add 131 (tm 23) (tm 24) 131) 131) (tm 23) (tm 24)),
 o2 26 (.bin .add (so (.binOp .add 131 (tm 20) (tm 25) 131) 131) (tm 20) (tm 25)),
 o2 27 (.nilCheck (tm 18)),
 ⟨none, .store 1 (tm 27) (tm 26), none, [], true⟩]) (.seq (.regionD [
 o1 28 (.mov (tm 9)),
 o1 29 (.mov (tm 9)),
 o1 30 (.nilCheck (tm 29)),
 o1 31 (.load none (tm 30)),
 o1 32 (.mov (tm 6)),
 o1 33 (.nilCheck (tm 32)),
 o1 34 (.load none (tm 33)),
 o1 35 (.bin .xor (so (.binOp .xor 131 (tm 31) (tm 34) 131) 131) (tm 31) (tm 34)),
 ⟨some 36, .callV (.func 118) [(tm 35), (.const (.int .i64 (-16)))], none, [(some 28, .mov (tm 9), none)], false⟩,
 o2 37 (.nilCheck (tm 28)),
 ⟨none, .store 1 (tm 37) (tm 36), none, [], true⟩]) (.seq (.regionD [
 o1 38 (.mov (tm 8)),
 o1 39 (.nilCheck (tm 38)),
 o1 40 (.load none (tm 39)),
 o1 41 (.mov (tm 9)),
 o1 42 (.nilCheck (tm 41)),
 o1 43 (.load none (tm 42)),
 o2 44 (.bin .add (so (.binOp .add 131 (tm 40) (tm 43) 131) 131) (tm 40) (tm 43)),
 o2 45 (.nilCheck (tm 38)),
 ⟨none, .store 1 (tm 45) (tm 44), none, [], true⟩]) (.seq (.regionD [
 o1 46 (.mov (tm 7)),
 o1 47 (.mov (tm 7)),
 o1 48 (.nilCheck (tm 47)),
 o1 49 (.load none (tm 48)),
 o1 50 (.mov (tm 8)),
 o1 51 (.nilCheck (tm 50)),
 o1 52 (.load none (tm 51)),
 o1 53 (.bin .xor (so (.binOp .xor 131 (tm 49) (tm 52) 131) 131) (tm 49) (tm 52)),
 ⟨some 54, .callV (.func 118) [(tm 53), (.const (.int .i64 (-12)))], none, [(some 46, .mov (tm 7), none)], false⟩,
 o2 55 (.nilCheck (tm 46)),
 ⟨none, .store 1 (tm 55) (tm 54), none, [], true⟩]) (.seq (.regionD [
 o1 56 (.mov (tm 6)),
 o1 57 (.nilCheck (tm 56)),
 o1 58 (.load none (tm 57)),
 o1 59 (.mov (tm 7)),
 o1 60 (.nilCheck (tm 59)),
 o1 61 (.load none (tm 60)),
 o1 62 (.mov (tm 2)),
 o1 63 (.bin .add (so (.binOp .add 131 (tm 61) (tm 62) 131) 131) (tm 61) (tm 62)),
 o2 64 (.bin .add (so (.binOp .add 131 (tm 58) (tm 63) 131) 131) (tm 58) (tm 63)),
 o2 65 (.nilCheck (tm 56)),
 ⟨none, .store 1 (tm 65) (tm 64), none, [], true⟩]) (.seq (.regionD [
 o1 66 (.mov (tm 9)),
 o1 67 (.mov (tm 9)),
 o1 68 (.nilCheck (tm 67)),
 o1 69 (.load none (tm 68)),
 o1 70 (.mov (tm 6)),
 o1 71 (.nilCheck (tm 70)),
 o1 72 (.load none (tm 71)),
 o1 73 (.bin .xor (so (.binOp .xor 131 (tm 69) (tm 72) 131) 131) (tm 69) (tm 72)),
 ⟨some 74, .callV (.func 118) [(tm 73), (.const (.int .i64 (-8)))], none, [(some 66, .mov (tm 9), none)], false⟩,
 o2 75 (.nilCheck (tm 66)),
 ⟨none, .store 1 (tm 75) (tm 74), none, [], true⟩]) (.seq (.regionD [
 o1 76 (.mov (tm 8)),
 o1 77 (.nilCheck (tm 76)),
 o1 78 (.load none (tm 77)),
 o1 79 (.mov (tm 9)),
 o1 80 (.nilCheck (tm 79)),
 o1 81 (.load none (tm 80)),
 o2 82 (.bin .add (so (.binOp .add 131 (tm 78) (tm 81) 131) 131) (tm 78) (tm 81)),
 o2 83 (.nilCheck (tm 76)),
 ⟨none, .store 1 (tm 83) (tm 82), none, [], true⟩]) (.regionD [
 o1 84 (.mov (tm 7)),
 o1 85 (.mov (tm 7)),
 o1 86 (.nilCheck (tm 85)),
 o1 87 (.load none (tm 86)),
 o1 88 (.mov (tm 8)),
 o1 89 (.nilCheck (tm 88)),
 o1 90 (.load none (tm 89)),
 o1 91 (.bin .xor (so (.binOp .xor 131 (tm 87) (tm 90) 131) 131) (tm 87) (tm 90)),
 ⟨some 92, .callV (.func 118) [(tm 91), (.const (.int .i64 (-7)))], none, [(some 84, .mov (tm 7), none)], false⟩,
 o2 93 (.nilCheck (tm 84)),
 ⟨none, .store 1 (tm 93) (tm 92), none, [], true⟩]))))))))))
def zjQ : AFunc := ⟨94, [], zjQ_c, none⟩
theorem zjQ_t0 : tableOf Try.prog 111 = some zjQ := by kernel_rfl
theorem zjQ_t : T0 111 = some zjQ := withKept_t rfl (withTrue_t rfl zjQ_t0)
theorem zjQ_runs {v0 v1 v2 : Value} {h : Heap} {R : RP} {X : XP} (k : RunC Try.prog T0 zjQ_c ⟨[v0, v1, v2, U, U, U, U, U, U, U, U, U, U, U, U, U, U, U, U, U, U, U, U, U, U, U, U, U, U, U, U, U, U, U, U, U, U, U, U, U, U, U, U, U, U, U, U, U, U, U, U, U, U, U, U, U, U, U, U, U, U, U, U, U, U, U, U, U, U, U, U, U, U, U, U, U, U, U, U, U, U, U, U, U, U, U, U, U, U, U, U, U, U, U], [], h, none⟩ (bodyQ Try.prog T0 [] R X)) :
 Runs Try.prog T0 (.fn 111) [v0, v1, v2] h R X := Runs.fn zjQ_t rfl k
abbrev fn_zhQ : FuncId := 112
def zhQ_c : ACode :=
 (.seq (.region [
 o1 2 (.mov k0)]) (.seq (.seq (.region [
 o1 3 (.mov (tm 0)),
 o1 4 (.eq .ptr false (so (.binOp .eql 145 (tm 3) (.const (.pointer none)) 145) 4) (tm 3) (.const (.pointer none)))]) (.cond (tm 4)
 (.seq (.region [
 o1 2 (.mov k0)]) .ret)
 .skip)) (.seq (.region [
 o1 5 (.mov (tm 0)),
 o1 6 (.nilCheck (tm 5)),
 o1 7 (.fieldAddr 0 (tm 6)),
 o1 8 (.load none (tm 7)),
 o1 2 (.mov (tm 8))]) .ret)))
def zhQ : AFunc := ⟨9, [(2, none)], zhQ_c, none⟩
theorem zhQ_t0 : tableOf Try.prog 112 = some zhQ := by kernel_rfl
theorem zhQ_t : T0 112 = some zhQ := withKept_t rfl (withTrue_t rfl zhQ_t0)
theorem zhQ_runs {v0 : Value} {h : Heap} {R : RP} {X : XP} (k : RunC Try.prog T0 zhQ_c ⟨[v0, U, U, U, U, U, U, U, U], [], h, none⟩ (bodyQ Try.prog T0 [(2, none)] R X)) :
 Runs Try.prog T0 (.fn 112) [v0] h R X := Runs.fn zhQ_t rfl k
abbrev fn_zdbQ : FuncId := 113
def zdbQ_c : ACode :=
 (.seq (.region [
 o1 4 (.mov (.const (.int .u32 0)))]) (.seq (.region [
 o1 5 (.mov (tm 0)),
 o1 6 (.mov (tm 1)),
 o1 7 (.bin .shr (so (.binOp .shr 131 (tm 5) (tm 6) 115) 131) (tm 5) (tm 6)),
 o1 8 (.mov (tm 0)),
 o1 9 (.mov (tm 1)),
 o1 10 (.bin .sub (so (.binOp .sub 115 (.const (.int .u64 32)) (tm 9) 115) 115) (.const (.int .u64 32)) (tm 9)),
 o1 11 (.bin .shl (so (.binOp .shl 131 (tm 8) (tm 10) 115) 131) (tm 8) (tm 10)),
 o1 12 (.bin .or (so (.binOp .or 131 (tm 7) (tm 11) 131) 131) (tm 7) (tm 11)),
 o1 4 (.mov (tm 12))]) .ret))
def zdbQ : AFunc := ⟨13, [(4, none)], zdbQ_c, none⟩
theorem zdbQ_t0 : tableOf Try.prog 113 = some zdbQ := by kernel_rfl
theorem zdbQ_t : T0 113 = some zdbQ := withKept_t rfl (withTrue_t rfl zdbQ_t0)
theorem zdbQ_runs {v0 v1 : Value} {h : Heap} {R : RP} {X : XP} (k : RunC Try.prog T0 zdbQ_c ⟨[v0, v1, U, U, U, U, U, U, U, U, U, U, U], [], h, none⟩ (bodyQ Try.prog T0 [(4, none)] R X)) :
 Runs Try.prog T0 (.fn 113) [v0, v1] h R X := Runs.fn zdbQ_t rfl k
def zwbQ_c : ACode :=
 (.seq (.region [
 o1 4 (.mov k0)]) (.seq (.region [
 o1 5 (.mov (tm 0)),
 o1 6 (.mov (tm 1)),
 o1 7 (.callV (.func 119) [(tm 5), (tm 6)]),
 o1 4 (.mov (tm 7))]) .ret))
def zwbQ : AFunc := ⟨8, [(4, none)], zwbQ_c, none⟩
theorem zwbQ_t0 : tableOf Try.prog 114 = some zwbQ := by kernel_rfl
theorem zwbQ_t : T0 114 = some zwbQ := withKept_t rfl (withTrue_t rfl zwbQ_t0)
theorem zwbQ_runs {v0 v1 : Value} {h : Heap} {R : RP} {X : XP} (k : RunC Try.prog T0 zwbQ_c ⟨[v0, v1, U, U, U, U, U, U], [], h, none⟩ (bodyQ Try.prog T0 [(4, none)] R X)) :
 Runs Try.prog T0 (.fn 114) [v0, v1] h R X := Runs.fn zwbQ_t rfl k
abbrev fn_zqbQ : FuncId := 118
def zqbQ_c : ACode :=
 (.seq (.region [
 o1 4 (.mov (.const (.int .u32 0)))]) (.seq (.region [
 o1 6 (.mov (tm 1)),
 o1 7 (.conv .u64 (so (.convert 3 115 (tm 6)) 115) (tm 6)),
 o1 8 (.bin .and (so (.binOp .and 115 (tm 7) (.const (.int .u64 31)) 115) 115) (tm 7) (.const (.int .u64 31))),
 o1 5 (.mov (tm 8))]) (.seq (.region [
 o1 9 (.mov (tm 0)),
 o1 10 (.mov (tm 5)),
 o1 11 (.bin .shl (so (.binOp .shl 131 (tm 9) (tm 10) 115) 131) (tm 9) (tm 10)),
 o1 12 (.mov (tm 0)),
 o1 13 (.mov (tm 5)),
 o1 14 (.bin .sub (so (.binOp .sub 115 (.const (.int .u64 32)) (tm 13) 115) 115) (.const (.int .u64 32)) (tm 13)),
 o1 15 (.bin .shr (so (.binOp .shr 131 (tm 12) (tm 14) 115) 131) (tm 12) (tm 14)),
 o1 16 (.bin .or (so (.binOp .or 131 (tm 11) (tm 15) 131) 131) (tm 11) (tm 15)),
 o1 4 (.mov (tm 16))]) .ret)))
def zqbQ : AFunc := ⟨17, [(4, none)], zqbQ_c, none⟩
theorem zqbQ_t0 : tableOf Try.prog 118 = some zqbQ := by kernel_rfl
theorem zqbQ_t : T0 118 = some zqbQ := withKept_t rfl (withTrue_t rfl zqbQ_t0)
theorem zqbQ_runs {v0 v1 : Value} {h : Heap} {R : RP} {X : XP} (k : RunC Try.prog T0 zqbQ_c ⟨[v0, v1, U, U, U, U, U, U, U, U, U, U, U, U, U, U, U], [], h, none⟩ (bodyQ Try.prog T0 [(4, none)] R X)) :
 Runs Try.prog T0 (.fn 118) [v0, v1] h R X := Runs.fn zqbQ_t rfl k
def znQ_c : ACode :=
 (.seq (.region [
 o1 4 (.mov k0)]) (.seq (.region [
 o1 5 (.mov (tm 0)),
 o1 6 (.mov (tm 1)),
 o1 7 (.ext .indexByte (.func 120) [(tm 5), (tm 6)]),
 o1 4 (.mov (tm 7))]) .ret))
def znQ : AFunc := ⟨8, [(4, none)], znQ_c, none⟩
theorem znQ_t0 : tableOf Try.prog 119 = some znQ := by kernel_rfl
theorem znQ_t : T0 119 = some znQ := withKept_t rfl (withTrue_t rfl znQ_t0)
theorem znQ_runs {v0 v1 : Value} {h : Heap} {R : RP} {X : XP} (k : RunC Try.prog T0 znQ_c ⟨[v0, v1, U, U, U, U, U, U], [], h, none⟩ (bodyQ Try.prog T0 [(4, none)] R X)) :
 Runs Try.prog T0 (.fn 119) [v0, v1] h R X := Runs.fn znQ_t rfl k
end Go.Proofs.Ytmfaepkmiceoeaa.A

namespace Go.Proofs.Ytmfaepkmiceoeaa.A
open Go Go.Vm
set_option maxRecDepth 10000
set_option linter.unusedVariables false
def rr (x : UInt32) (n : Nat) : UInt32 := x <<< UInt32.ofNat (32 - n) ||| x >>> UInt32.ofNat n
theorem rot_ok {h : Heap} {x : UInt32} {k : Int} (n : Nat) (hn : 0 < n ∧ n < 32) (hk : IntKind.u64.wrap ((BitVec.ofInt IntKind.u64.bits (IntKind.u64.wrap k) &&& BitVec.ofInt IntKind.u64.bits 31).toNat : Nat) = ((32 - n : Nat) : Int)) :
    Runs Try.prog T0 (.fn fn_zqbQ) [.int .u32 (x.toNat : Nat), .int .i64 k] h (fun r h' => r = .int .u32 ((rr x n).toNat : Nat) ∧ h' = h) (fun _ _ => False) := by
  refine zqbQ_runs ?_
  refine stp ?_
  refine O.how XOp.andI ?_
  rw [hk]
  refine stp ?_
  refine O.how (XOp.shlW (32 - n) rfl (by omega)) ?_
  refine stp ?_
  rw [show IntKind.u64.wrap (32 - ((32 - n : Nat) : Int)) = (n : Int) from by rw [wrap_u64]; omega]
  refine O.how (XOp.shrW n rfl (by omega)) ?_
  refine stp ?_
  exact ⟨rfl, rfl⟩
def mixS (v : List UInt32) (a b c d : Nat) (x y : UInt32) : List UInt32 :=
  let v := v.set a (v.getD a 0 + (v.getD b 0 + x))
  let v := v.set d (rr (v.getD d 0 ^^^ v.getD a 0) 16)
  let v := v.set c (v.getD c 0 + v.getD d 0)
  let v := v.set b (rr (v.getD b 0 ^^^ v.getD c 0) 12)
  let v := v.set a (v.getD a 0 + (v.getD b 0 + y))
  let v := v.set d (rr (v.getD d 0 ^^^ v.getD a 0) 8)
  let v := v.set c (v.getD c 0 + v.getD d 0)
  v.set b (rr (v.getD b 0 ^^^ v.getD c 0) 7)
theorem mixS_len (v : List UInt32) (a b c d : Nat) (x y : UInt32) : (mixS v a b c d x y).length = v.length := by simp [mixS]
abbrev ptr (q o : Nat) : Value := .pointer (some ⟨q, o, none⟩)
set_option maxHeartbeats 2000000 in
theorem mix_ok {h : Heap} {q es : Nat} {v : List UInt32} {a b c d : Nat} {x y : UInt32} (hg : h.get q = .cells (wcells v) es) (hq : q < h.n) [ia : WIx v a] [ib : WIx v b] [ic : WIx v c] [id' : WIx v d] :
    Runs Try.prog T0 (.fn fn_zjQ) [.agg ⟨[ptr q a, ptr q b, ptr q c, ptr q d]⟩, .int .u32 (x.toNat : Nat), .int .u32 (y.toNat : Nat)] h (fun r h' => h'.get q = .cells (wcells (mixS v a b c d x y)) es ∧ Fr (fun i => i = q) h h') (fun _ _ => False) := by
  haveI : HGet h q _ := ⟨hg⟩
  haveI : BLt q h := ⟨hq⟩
  refine zjQ_runs ?_
  refine stp ?_
  refine D.callX (rot_ok 16 (by omega) (by decide)) (fun r h1 hr => ?_) (fun r h1 hr => ?_) (fun _ _ hx => hx.elim)
  · obtain ⟨rfl, rfl⟩ := hr
    exact StabL.ok
  obtain ⟨rfl, rfl⟩ := hr
  refine stp ?_
  refine D.callX (rot_ok 12 (by omega) (by decide)) (fun r h1 hr => ?_) (fun r h1 hr => ?_) (fun _ _ hx => hx.elim)
  · obtain ⟨rfl, rfl⟩ := hr
    exact StabL.ok
  obtain ⟨rfl, rfl⟩ := hr
  refine stp ?_
  refine D.callX (rot_ok 8 (by omega) (by decide)) (fun r h1 hr => ?_) (fun r h1 hr => ?_) (fun _ _ hx => hx.elim)
  · obtain ⟨rfl, rfl⟩ := hr
    exact StabL.ok
  obtain ⟨rfl, rfl⟩ := hr
  refine stp ?_
  refine D.callX (rot_ok 7 (by omega) (by decide)) (fun r h1 hr => ?_) (fun r h1 hr => ?_) (fun _ _ hx => hx.elim)
  · obtain ⟨rfl, rfl⟩ := hr
    exact StabL.ok
  obtain ⟨rfl, rfl⟩ := hr
  refine stp ?_
  exact ⟨by rw [Heap.get_set, if_pos rfl]; rfl, Fr.refl.push.set fun _ => rfl⟩
end Go.Proofs.Ytmfaepkmiceoeaa.A

namespace Go.Proofs.Ytmfaepkmiceoeaa.A
open Go Go.Vm
set_option maxRecDepth 10000
set_option linter.unusedVariables false
abbrev digitsS : ByteArray := ⟨⟨[48, 49, 50, 51, 52, 53, 54, 55, 56, 57, 97, 98, 99, 100, 101, 102]⟩⟩
abbrev rowsS : ByteArray := ⟨⟨[48, 49, 50, 51, 52, 53, 54, 55, 56, 57, 97, 98, 99, 100, 101, 102, 101, 97, 52, 56, 57, 102, 100, 54, 49, 99, 48, 50, 98, 55, 53, 51, 98, 56, 99, 48, 53, 50, 102, 100, 97, 101, 51, 54, 55, 49, 57, 52, 55, 57, 51, 49, 100, 99, 98, 101, 50, 54, 53, 97, 52, 48, 102, 56, 57, 48, 53, 55, 50, 52, 97, 102, 101, 49, 98, 99, 54, 56, 51, 100, 50, 99, 54, 97, 48, 98, 56, 51, 52, 100, 55, 53, 102, 101, 49, 57, 99, 53, 49, 102, 101, 100, 52, 97, 48, 55, 54, 51, 57, 50, 56, 98, 100, 98, 55, 101, 99, 49, 51, 57, 53, 48, 102, 52, 56, 54, 50, 97, 54, 102, 101, 57, 98, 51, 48, 56, 99, 50, 100, 55, 49, 52, 97, 53, 97, 50, 56, 52, 55, 54, 49, 53, 102, 98, 57, 101, 51, 99, 100, 48]⟩⟩
def sigma : List Nat := [0, 1, 2, 3, 4, 5, 6, 7, 8, 9, 10, 11, 12, 13, 14, 15, 14, 10, 4, 8, 9, 15, 13, 6, 1, 12, 0, 2, 11, 7, 5, 3, 11, 8, 12, 0, 5, 2, 15, 13, 10, 14, 3, 6, 7, 1, 9, 4, 7, 9, 3, 1, 13, 12, 11, 14, 2, 6, 5, 10, 4, 0, 15, 8, 9, 0, 5, 7, 2, 4, 10, 15, 14, 1, 11, 12, 6, 8, 3, 13, 2, 12, 6, 10, 0, 11, 8, 3, 4, 13, 7, 5, 15, 14, 1, 9, 12, 5, 1, 15, 14, 13, 4, 10, 0, 7, 6, 3, 9, 2, 8, 11, 13, 11, 7, 14, 12, 1, 3, 9, 5, 0, 15, 4, 8, 6, 2, 10, 6, 15, 14, 9, 11, 3, 0, 8, 12, 2, 13, 7, 1, 4, 10, 5, 10, 2, 8, 4, 7, 6, 1, 5, 15, 11, 9, 14, 3, 12, 13, 0]
def chr16 (d : Nat) : Nat := if d < 10 then 48 + d else 87 + d
theorem rows_at : (List.range 160).all (fun p => decide (Utf8.decode rowsS p = (chr16 (sigma.getD p 0), 1)) && decide (sigma.getD p 0 < 16)) = true := by kernel_rfl
theorem rows_get {p : Nat} (hp : p < 160) : Utf8.decode rowsS p = (chr16 (sigma.getD p 0), 1) ∧ sigma.getD p 0 < 16 := by
  have := List.all_eq_true.1 rows_at p (List.mem_range.2 hp)
  simpa using this
theorem digits_at : (List.range 16).all (fun d => match extV Heap.init .indexByte [.string digitsS, .int .u8 (chr16 d)] with | some (.int .i64 k) => decide (k = d) | _ => false) = true := by kernel_rfl
theorem digits_get {h : Heap} {d : Nat} (hd : d < 16) : extV h .indexByte [.string digitsS, .int .u8 (chr16 d)] = some (.int .i64 (d : Nat)) := by
  have hx := List.all_eq_true.1 digits_at d (List.mem_range.2 hd)
  have hx : (match extV Heap.init .indexByte [.string digitsS, .int .u8 (chr16 d)] with | some (.int .i64 k) => decide (k = (d : Int)) | _ => false) = true := hx
  have e : extV h .indexByte [.string digitsS, .int .u8 (chr16 d)] = extV Heap.init .indexByte [.string digitsS, .int .u8 (chr16 d)] := rfl
  rw [e]
  split at hx
  · rename_i k hk
    rw [hk]
    simp at hx
    rw [hx]
  · cases hx
theorem Index_ok {h : Heap} {d : Nat} (hd : d < 16) :
    Runs Try.prog T0 (.fn fn_zxbQ) [.string digitsS, .int .i32 (chr16 d)] h (fun r h' => r = .int .i64 (d : Nat) ∧ h' = h) (fun _ _ => False) := by
  have hx := digits_get (h := h) hd
  have hc : (0 : Int) ≤ (chr16 d : Nat) ∧ ((chr16 d : Nat) : Int) < 128 := by unfold chr16; split <;> omega
  generalize chr16 d = c at *
  refine zxbQ_runs ?_
  refine stp ?_
  refine C.if (fun h1 => ?_) (fun h1 => ?_)
  rotate_left
  · exact absurd hc.2 h1
  refine stp ?_
  refine O.call' (R := fun r h' => r = .int .i64 (d : Nat) ∧ h' = h) ?_ (fun r h1 hr => ?_)
  · refine zwbQ_runs ?_
    refine stp ?_
    refine O.call' (R := fun r h' => r = .int .i64 (d : Nat) ∧ h' = h) ?_ (fun r h1 hr => ?_)
    · refine znQ_runs ?_
      refine stp ?_
      refine O.by (v := .int .i64 (d : Nat)) (h' := h) ?_ rfl ?_
      · simp only [xop, eval]
        rw [if_pos (by kernel_rfl)]
        show (match extV h .indexByte [.string digitsS, .int .u8 (c : Nat)] with | some v => R.ok v h | none => R.bad) = _
        rw [hx]
      refine stp ?_
      exact ⟨rfl, rfl⟩
    · obtain ⟨rfl, rfl⟩ := hr
      refine stp ?_
      exact ⟨rfl, rfl⟩
  · obtain ⟨rfl, rfl⟩ := hr
    refine stp ?_
    exact ⟨rfl, rfl⟩
def pw (b : List UInt8) : Nat → UInt32
  | 0 => 0
  | k + 1 => pw b k ||| (b.getD k 0).toUInt32 <<< UInt32.ofNat (8 * k)
def wordS (b : List UInt8) (i : Nat) : UInt32 := pw (b.drop (4 * i)) 4
def wordsS (b : List UInt8) : List UInt32 := (List.range 16).map (wordS b)
structure Sl (h : Heap) (v : Value) (q : Nat) (l : List UInt8) : Prop where
  ex : ∃ o sp cap cs es, v = .slice (some ⟨q, o, sp⟩) l.length cap ∧ l.length ≤ cap ∧ q < h.n ∧ h.get q = .cells cs es ∧ (sp ≠ none → es = 1) ∧ cellsAt h q o l.length = some (bcells l)
theorem Sl.keep {S : Nat → Prop} {h h' : Heap} {v : Value} {q : Nat} {l : List UInt8} (hs : Sl h v q l) (hf : Fr S h h') (hq : ¬ S q) : Sl h' v q l := by
  obtain ⟨o, sp, cap, cs, es, h1, h2, h3, h4, h5, h6⟩ := hs.ex
  exact ⟨o, sp, cap, cs, es, h1, h2, hf.lt h3, by rw [hf.get _ h3 hq, h4], h5, by rw [cellsAt_keep hf h3 hq]; exact h6⟩
theorem Sl.lt {h : Heap} {v : Value} {q : Nat} {l : List UInt8} (hs : Sl h v q l) : q < h.n := let ⟨_, _, _, _, _, _, _, h3, _⟩ := hs.ex; h3
theorem Sl.part {h : Heap} {v : Value} {q : Nat} {l : List UInt8} (hs : Sl h v q l) {i j : Nat} (hij : i < j) (hj : j ≤ l.length) :
    ∃ v', Sl h v' q ((l.drop i).take (j - i)) ∧ ∀ {P : Program} {ts : List Value} {x : Operand} {lo hi : Option Operand} [e1 : Ev ts x v], (∀ c, l.length ≤ c → bnd (eval ts) c l.length hi = some j) → bnd (eval ts) j 0 lo = some i → XOp P ts h (.sliceSl 1 x lo hi none) v' h := by
  obtain ⟨o, sp, cap, cs, es, rfl, h2, h3, h4, h5, h6⟩ := hs.ex
  have hl : ((l.drop i).take (j - i)).length = j - i := by rw [List.length_take, List.length_drop]; omega
  refine ⟨.slice (some ⟨q, o + i * 1, sp⟩) (j - i) (cap - i), ⟨o + i * 1, sp, cap - i, cs, es, by rw [hl], by rw [hl]; omega, h3, h4, h5, ?_⟩, fun hh hlo => XOp.mkSl (hh cap h2) hlo hij hj h2 (by omega) h4 h5⟩
  rw [hl, Nat.mul_one, cellsAt_sub h6 (by omega), bcells_drop, bcells_take]
theorem getD_set {l : List UInt32} {i j : Nat} {w : UInt32} (hi : i < l.length) : (l.set i w).getD j 0 = if j = i then w else l.getD j 0 := by
  simp only [List.getD_eq_getElem?_getD, List.getElem?_set]
  by_cases h : i = j
  · subst h; simp [hi]
  · rw [if_neg h, if_neg (Ne.symm h)]
theorem words_ext {l m : List UInt32} (h : l.length = m.length) (hg : ∀ j, j < l.length → l.getD j 0 = m.getD j 0) : l = m := by
  apply List.ext_getElem h
  intro i h1 h2
  have := hg i h1
  simpa [List.getD_eq_getElem?_getD, List.getElem?_eq_getElem h1, List.getElem?_eq_getElem h2] using this
theorem wordsS_len (b : List UInt8) : (wordsS b).length = 16 := by simp [wordsS]
theorem wordsS_get (b : List UInt8) {j : Nat} (hj : j < 16) : (wordsS b).getD j 0 = wordS b j := by
  simp [wordsS, List.getD_eq_getElem?_getD, hj]
def beginW : List UInt32 := [1779033703, 3144134277, 1013904242, 2773480762, 1359893119, 2600822924, 528734635, 1541459225]
abbrev beginC : List Value := [.int .u32 1779033703, .int .u32 3144134277, .int .u32 1013904242, .int .u32 2773480762, .int .u32 1359893119, .int .u32 2600822924, .int .u32 528734635, .int .u32 1541459225]
theorem begin_ok {h : Heap} : Runs Try.prog T0 (.fn fn_zgQ) [] h (fun r h' => r = .agg ⟨beginC⟩ ∧ Fr (fun _ => False) h h') (fun _ _ => False) := by
  refine zgQ_runs (v := undef) ?_
  refine stp ?_
  exact ⟨rfl, Fr.refl.push⟩
end Go.Proofs.Ytmfaepkmiceoeaa.A

namespace Go.Proofs.Ytmfaepkmiceoeaa.A
open Go Go.Vm
set_option maxRecDepth 10000
set_option linter.unusedVariables false
def startV (h : List UInt32) (many : Nat) (last : Bool) : List UInt32 :=
  let v := h ++ beginW
  let v := v.set 12 (v.getD 12 0 ^^^ UInt32.ofNat many)
  let v := v.set 13 (v.getD 13 0 ^^^ UInt32.ofNat (many / 4294967296))
  if last then v.set 14 (4294967295 ^^^ v.getD 14 0) else v
def wat (m : List UInt32) (r k : Nat) : UInt32 := m.getD (sigma.getD (16 * r + k) 0) 0
def halfA (m : List UInt32) (r : Nat) (v : List UInt32) : Nat → List UInt32
  | 0 => v
  | k + 1 => mixS (halfA m r v k) k (4 + k) (8 + k) (12 + k) (wat m r (2 * k)) (wat m r (2 * k + 1))
def halfB (m : List UInt32) (r : Nat) (v : List UInt32) : Nat → List UInt32
  | 0 => v
  | k + 1 => mixS (halfB m r v k) k (4 + (k + 1) % 4) (8 + (k + 2) % 4) (12 + (k + 3) % 4) (wat m r (8 + 2 * k)) (wat m r (9 + 2 * k))
def roundsS (m v : List UInt32) : Nat → List UInt32
  | 0 => v
  | r + 1 => halfB m r (halfA m r (roundsS m v r) 4) 4
def outS (h v : List UInt32) : List UInt32 := (List.range 8).map fun i => h.getD i 0 ^^^ (v.getD i 0 ^^^ v.getD (i + 8) 0)
def blockS (h : List UInt32) (b : List UInt8) (many : Nat) (last : Bool) : List UInt32 := outS h (roundsS (wordsS b) (startV h many last) 10)
theorem halfA_len (m : List UInt32) (r : Nat) (v : List UInt32) : ∀ k, (halfA m r v k).length = v.length
  | 0 => rfl
  | k + 1 => by rw [halfA, mixS_len, halfA_len m r v k]
theorem halfB_len (m : List UInt32) (r : Nat) (v : List UInt32) : ∀ k, (halfB m r v k).length = v.length
  | 0 => rfl
  | k + 1 => by rw [halfB, mixS_len, halfB_len m r v k]
theorem roundsS_len (m v : List UInt32) : ∀ r, (roundsS m v r).length = v.length
  | 0 => rfl
  | r + 1 => by rw [roundsS, halfB_len, halfA_len, roundsS_len m v r]
theorem startV_len {h : List UInt32} {many : Nat} {last : Bool} (hl : h.length = 8) : (startV h many last).length = 16 := by
  unfold startV
  cases last <;> simp [beginW, hl]
set_option maxHeartbeats 4000000 in
theorem block_ok {h : Heap} {p q es : Nat} {pre post : List Value} {hs : List UInt32} {b : List UInt8} {v : Value} {many : Nat} {last : Bool} (hg : h.get p = .cells (pre ++ (wcells hs ++ post)) es) (hp : p < h.n) (hl : hs.length = 8) (hv : Sl h v q b) (hb : b.length = 64) (hm : many < 4294967296) :
    Runs Try.prog T0 (.fn fn_zkQ) [ptr p pre.length, v, .int .i64 (many : Nat), .bool last] h (fun r h' => h'.get p = .cells (pre ++ (wcells (blockS hs b many last) ++ post)) es ∧ Fr (fun i => i = p) h h') (fun _ _ => False) := by
  refine zkQ_runs ?_
  refine stp ?_
  generalize hH : (h.push (.cells _ 0)).push (.cells _ 0) = H
  have hHn : H.n = h.n + 2 := by rw [← hH]; rfl
  have gm : H.get h.n = .cells (wcells (List.replicate 16 0)) 0 := by rw [← hH, Heap.get_push, if_neg (by simp), Heap.get_push, if_pos rfl]; rfl
  have gv : H.get (h.n + 1) = .cells (wcells (List.replicate 16 0)) 0 := by rw [← hH, Heap.get_push, if_pos (by simp)]; rfl
  have hF : Fr (fun _ => False) h H := by rw [← hH]; exact Fr.refl.push.push
  have hvH := hv.keep hF id
  have hql := hv.lt
  clear hH
  simp only [Heap.n_push]
  refine zkQ_l1_rule (fun m v20 h' => ∃ k : Nat, k ≤ 16 ∧ m = 16 - k ∧ v20 = .int .i64 k ∧ (∃ ms : List UInt32, h'.get h.n = .cells (wcells ms) 0 ∧ ms.length = 16 ∧ ∀ j, j < 16 → ms.getD j 0 = if j < k then wordS b j else 0) ∧ Fr (fun i => i = h.n) H h') ?_ 16 ⟨0, by omega, rfl, rfl, ⟨_, gm, by simp, fun j hj => by rw [if_neg (by omega)]; simp only [List.getD_eq_getElem?_getD, List.getElem?_replicate, if_pos hj]; rfl⟩, Fr.refl⟩
  rintro m v20 h' x10 x11 x12 x21 x22 x23 x24 x25 x26 x27 x28 x29 x30 x31 x32 x33 x34 x35 x36 x37 x38 x39 x40 x41 x42 x43 x44 x45 x46 x47 ⟨k, hk, rfl, rfl, ⟨ms, gms, hml, hms⟩, hf⟩
  refine stp ?_
  refine C.if (fun hlt => ?_) (fun hge => ?_)
  · have hk : k < 16 := by omega
    have hvk := hvH.keep hf (by omega)
    obtain ⟨v', hsl, hop⟩ := hvk.part (i := 4 * k) (j := 4 * k + 4) (by omega) (by omega)
    rw [show 4 * k + 4 - 4 * k = 4 from by omega] at hsl
    have hdl : ((b.drop (4 * k)).take 4).length = 4 := by rw [List.length_take, List.length_drop]; omega
    have hpw : wordS b k = pw ((b.drop (4 * k)).take 4) 4 := by
      have key : ∀ j, j ≤ 4 → pw (b.drop (4 * k)) j = pw ((b.drop (4 * k)).take 4) j := by
        intro j
        induction j with
        | zero => intro _; rfl
        | succ j ih =>
          intro hj
          unfold pw
          rw [ih (by omega)]
          congr 3
          simp only [List.getD_eq_getElem?_getD]
          rw [List.getElem?_take_of_lt (by omega)]
      exact key 4 (by omega)
    generalize (b.drop (4 * k)).take 4 = d at *
    obtain ⟨o, sp, cap, cs, es', rfl, hs2, hs3, hs4, hs5, hs6⟩ := hsl.ex
    rw [hdl] at hs6 hop
    refine stp ?_
    have e4 : IntKind.i64.wrap (4 * (k : Int)) = 4 * k := mul_in (by omega)
    refine O.how (hop (fun c hc => bnd_at (k := 4 * k + 4) rfl (by rw [e4, mul_in (by omega)]; omega) (by omega)) (bnd_at (k := 4 * k) rfl (by rw [e4]; omega) (by omega))) ?_
    refine stp ?_
    refine zkQ_l0_rule (fun m v31 h'' => ∃ j : Nat, j ≤ 4 ∧ m = 4 - j ∧ v31 = .int .i64 j ∧ (∃ mt : List UInt32, h''.get h.n = .cells (wcells mt) 0 ∧ mt.length = 16 ∧ ∀ i, i < 16 → mt.getD i 0 = if i = k then pw d j else ms.getD i 0) ∧ Fr (fun i => i = h.n) H h'') ?_ 4 ⟨0, by omega, rfl, rfl, ⟨ms, gms, hml, fun i hi => by
      split
      · rename_i e
        rw [e, hms k hk, if_neg (by omega)]; rfl
      · rfl⟩, hf⟩
    clear hs3 hs4 hs5 hop hvk
    rintro m v31 h'' x11 x12 x32 x33 x34 x35 x36 x37 x38 x39 x40 x41 x42 x43 x44 x45 x46 ⟨j, hj, rfl, rfl, ⟨mt, gmt, htl, hmt⟩, hf2⟩
    refine stp ?_
    refine C.if (fun hlt => ?_) (fun hge => ?_)
    · have hj : j < 4 := by omega
      have hs6' : cellsAt h'' q o 4 = some (bcells d) := by
        rw [← hs6, cellsAt_keep hf2 (by omega) (by omega), cellsAt_keep hf (by omega) (by omega)]
      haveI := byte_cell (k := j) hs6' hj
      haveI : HGet h'' h.n _ := ⟨gmt⟩
      haveI : WIx mt k := ⟨by omega⟩
      refine stp ?_
      have e8 : IntKind.i64.wrap (8 * (j : Int)) = 8 * j := mul_in (by omega)
      refine D.how (XOp.shlW (8 * j) (by rw [e8]; omega) (by omega)) rfl ?_
      refine stp ?_
      refine zkQ_l0_again (4 - (j + 1)) (by omega) ⟨j + 1, by omega, rfl, rfl, ⟨_, by rw [Heap.get_set, if_pos rfl], by simpa using htl, fun i hi => ?_⟩, hf2.set fun _ => rfl⟩
      rw [getD_set (by omega)]
      by_cases e : i = k
      · rw [if_pos e, if_pos e, hmt k (by omega), if_pos rfl]; rfl
      · rw [if_neg e, if_neg e, hmt i hi, if_neg e]
    · obtain rfl : j = 4 := by omega
      refine stp ?_
      refine zkQ_l1_again (16 - (k + 1)) (by omega) ⟨k + 1, by omega, rfl, rfl, ⟨mt, gmt, htl, fun i hi => ?_⟩, hf2⟩
      rw [hmt i hi]
      by_cases e : i = k
      · rw [if_pos e, e, if_pos (by omega), hpw]
      · rw [if_neg e, hms i hi]
        by_cases e2 : i < k
        · rw [if_pos e2, if_pos (by omega)]
        · rw [if_neg e2, if_neg (by omega)]
  · obtain rfl : k = 16 := by omega
    have hmw : ms = wordsS b := words_ext (by rw [hml, wordsS_len]) fun j hj => by rw [hms j (by omega), if_pos (by omega), wordsS_get b (by omega)]
    subst hmw
    refine stp ?_
    refine O.call' begin_ok (fun r h1 hr => ?_)
    obtain ⟨rfl, hf1⟩ := hr
    have hF1 : Fr (fun i => i = h.n) H h1 := hf.trans' (hf1.mono fun _ _ h => h.elim)
    have hn1 := hF1.n
    refine stp ?_
    have g1v : h1.get (h.n + 1) = .cells (wcells (List.replicate 16 0)) 0 := by rw [hF1.get _ (by omega) (by omega), gv]
    have g1p : h1.get p = .cells (pre ++ (wcells hs ++ post)) es := by rw [hF1.get _ (by omega) (by omega), hF.get _ hp id, hg]
    have g1m : h1.get h.n = .cells (wcells (wordsS b)) 0 := by rw [hf1.get _ (by have := hf.n; omega) id, gms]
    generalize hh2 : h1.push (.cells _ 0) = h2
    have g2v : h2.get (h.n + 1) = .cells (wcells (List.replicate 16 0)) 0 := by rw [← hh2, Heap.get_push, if_neg (by omega), g1v]
    have g2p : h2.get p = .cells (pre ++ (wcells hs ++ post)) es := by rw [← hh2, Heap.get_push, if_neg (by omega), g1p]
    have g2m : h2.get h.n = .cells (wcells (wordsS b)) 0 := by rw [← hh2, Heap.get_push, if_neg (by omega), g1m]
    have g2b : h2.get h1.n = .cells (wcells beginW) 0 := by rw [← hh2, Heap.get_push, if_pos rfl]; rfl
    have hn2 : h2.n = h1.n + 1 := by rw [← hh2]; rfl
    have hF2 : Fr (fun i => i = h.n) H h2 := by rw [← hh2]; exact hF1.push
    clear hh2
    refine D.how (XOp.mkSliceArrHi (j := 8) rfl (by omega) (by omega)) rfl ?_
    refine stp ?_
    refine D.how (XOp.mkCopy (xs := wcells hs) ?_ (put_w (ys := hs) g2v (by simp [hl]))) rfl ?_
    · show cellsAt h2 p pre.length 8 = _
      rw [cellsAt_of (c := pre ++ (wcells hs ++ post)) (by rw [g2p]; rfl) (by simp [wcells_len, hl]), List.drop_left, List.take_append_of_le_length (by simp [wcells_len, hl]), List.take_of_length_le (by simp [wcells_len, hl])]
    refine stp ?_
    rw [show (List.replicate 16 (0 : UInt32)).take 0 ++ (hs ++ (List.replicate 16 0).drop (0 + hs.length)) = hs ++ List.replicate 8 0 from by rw [hl]; rfl]
    refine D.how (XOp.mkSliceArrLo (l := 8) rfl (by omega)) rfl ?_
    refine stp ?_
    refine D.how (XOp.mkCopy (xs := wcells beginW) ?_ (put_w (ws := hs ++ List.replicate 8 0) (es := 0) (ys := beginW) (by rw [Heap.get_set, if_pos rfl]) (by simp [hl, beginW]))) rfl ?_
    · show cellsAt (h2.set (h.n + 1) _) h1.n 0 8 = _
      rw [cellsAt_of (c := wcells beginW) (by rw [Heap.get_set, if_neg (by omega), g2b]; rfl) (by simp [wcells_len, beginW])]
      rfl
    rw [show (hs ++ List.replicate 8 (0 : UInt32)).take (0 + 8 * 1) ++ (beginW ++ List.drop (0 + 8 * 1 + beginW.length) (hs ++ List.replicate 8 (0 : UInt32))) = hs ++ beginW from by
      rw [List.take_append_of_le_length (by omega), List.take_of_length_le (by omega), List.drop_eq_nil_of_le (by simp [hl, beginW]), List.append_nil], Heap.set_set]
    have hl0 : (hs ++ beginW).length = 16 := by simp [hl, beginW]
    haveI : WIx (hs ++ beginW) 12 := ⟨by omega⟩
    haveI : WIx (hs ++ beginW) 13 := ⟨by omega⟩
    haveI : WIx (hs ++ beginW) 14 := ⟨by omega⟩
    refine stp ?_
    refine O.how (XOp.shr (q := 32) (by omega)) ?_
    rw [show ((many : Int)).fdiv (2 ^ (min (32 : Int).toNat IntKind.u64.bits)) = ((many / 4294967296 : Nat) : Int) from by
      rw [show (2 : Int) ^ (min (32 : Int).toNat IntKind.u64.bits) = 4294967296 from rfl, Int.fdiv_eq_ediv_of_nonneg _ (by omega)]; omega]
    refine stp ?_
    refine C.ifB (fun hlast => ?_) (fun hlast => ?_)
    all_goals
      refine stp ?_
      generalize hh4 : Heap.push (h2.set (h.n + 1) _) (.strIter _ 0) = h4
      have g4v : h4.get (h.n + 1) = .cells (wcells (startV hs many last)) 0 := by rw [← hh4, Heap.get_push, if_neg (by simp; omega), Heap.get_set, if_pos rfl, hlast]; rfl
      have g4m : h4.get h.n = .cells (wcells (wordsS b)) 0 := by rw [← hh4, Heap.get_push, if_neg (by simp; omega), Heap.get_set, if_neg (by omega), g2m]
      have g4p : h4.get p = .cells (pre ++ (wcells hs ++ post)) es := by rw [← hh4, Heap.get_push, if_neg (by simp; omega), Heap.get_set, if_neg (by omega), g2p]
      have g4s : h4.get h2.n = .strIter rowsS 0 := by rw [← hh4, Heap.get_push, if_pos (by simp)]
      have hn4 : h4.n = h2.n + 1 := by rw [← hh4]; simp
      have hF4 : Fr (fun i => i = h.n ∨ i = h.n + 1) H h4 := by rw [← hh4]; exact ((hF2.mono fun _ _ h => .inl h).set fun _ => .inr rfl).push
      clear hh4
      simp only [Heap.n_set]
      have hsz : rowsS.size = 160 := by rfl
      have hvl : (startV hs many last).length = 16 := startV_len hl
      have hwl := wordsS_len b
      generalize hVe : startV hs many last = V at *
      generalize hWe : wordsS b = W at *
      clear g2v g2p g2m g2b g1v g1p g1m gms hms gm gv
      refine zkQ_l4_rule (fun m v14 h' => ∃ r k : Nat, r ≤ 10 ∧ k < 16 ∧ (r = 10 → k = 0) ∧ m = 160 - (16 * r + k) ∧ Own h' 1 v14 (wcells ((List.range k).map (wat W r))) k ∧ (∀ i, ownedBy v14 i → h4.n ≤ i) ∧ h'.get h2.n = .strIter rowsS (16 * r + k) ∧ h'.get (h.n + 1) = .cells (wcells (roundsS W V r)) 0 ∧ Fr (fun i => i = h.n + 1 ∨ i = h2.n) h4 h') ?_ 160 ⟨0, 0, by omega, by omega, by omega, rfl, .none, fun i hi => hi.elim, g4s, g4v, Fr.refl⟩
      rintro m v14 h' x16 x17 x18 x77 x78 x79 x80 x81 x82 x83 x84 x85 x86 x87 x88 x89 x90 x91 x92 x93 x94 x95 x96 x97 x98 x99 x100 x101 x102 x103 x104 x105 x106 x107 x108 x109 x110 x111 x112 x113 x114 x115 x116 x117 x118 x119 x120 x121 x122 x123 x124 x125 x126 x127 x128 x129 x130 x131 x132 x133 x134 x135 x136 x137 x138 x139 x140 x141 x142 x143 x144 x145 x146 x147 x148 x149 x150 x151 x152 ⟨r, k, hr, hk, hrk, rfl, ho, hnew, gs, gvr, hf⟩
      have gmr : h'.get h.n = .cells (wcells W) 0 := by rw [hf.get _ (by omega) (by omega), g4m]
      have hn' := hf.n
      haveI : HGet h' h2.n _ := ⟨gs⟩
      refine stp ?_
      by_cases hpos : 16 * r + k < 160
      · obtain ⟨hdec, hd⟩ := rows_get hpos
        refine O.how (XOp.mkNextStr (by rw [hsz]; omega)) ?_
        simp only [hdec]
        generalize hh5 : h'.set h2.n (.strIter rowsS (16 * r + k + 1)) = h5
        have g5s : h5.get h2.n = .strIter rowsS (16 * r + k + 1) := by rw [← hh5, Heap.get_set, if_pos rfl]
        have g5m : h5.get h.n = .cells (wcells W) 0 := by rw [← hh5, Heap.get_set, if_neg (by omega), gmr]
        have g5v : h5.get (h.n + 1) = .cells (wcells (roundsS W V r)) 0 := by rw [← hh5, Heap.get_set, if_neg (by omega), gvr]
        have ho5 : Own h5 1 v14 (wcells ((List.range k).map (wat W r))) k := ho.keep (S := fun i => i = h2.n) (by rw [← hh5]; exact Fr.refl.set fun _ => rfl) fun i hi e => by have := hnew i hi; omega
        have hf5 : Fr (fun i => i = h.n + 1 ∨ i = h2.n) h4 h5 := by rw [← hh5]; exact hf.set fun _ => .inr rfl
        have hn5 : h5.n = h'.n := by rw [← hh5]; simp
        clear hh5
        refine stp ?_
        refine O.call' (Index_ok hd) (fun r1 h6 hr1 => ?_)
        obtain ⟨rfl, rfl⟩ := hr1
        haveI : HGet h6 h.n _ := ⟨g5m⟩
        haveI : WIx W (sigma.getD (16 * r + k) 0) := ⟨by omega⟩
        refine stp ?_
        have hpush : Fr (fun _ => False) h6 (h6.push (.cells [.int .u32 ((W.getD (sigma.getD (16 * r + k) 0) 0).toNat : Nat)] 0)) := Fr.refl.push
        refine O.append (ho5.keep hpush fun _ _ => id) (Rd.new (Rd.mk (c := [.int .u32 ((W.getD (sigma.getD (16 * r + k) 0) 0).toNat : Nat)]) (by simp) (by rw [cellsAt_of (c := [.int .u32 ((W.getD (sigma.getD (16 * r + k) 0) 0).toNat : Nat)]) (by rw [Heap.get_push, if_pos rfl]; rfl) (by simp)]; rfl)) _) (by simp) rfl (by omega) (by omega) (by omega) (fun v' h7 h8 h9 h10 => ?_)
        rw [show wcells ((List.range k).map (wat W r)) ++ [.int .u32 ((W.getD (sigma.getD (16 * r + k) 0) 0).toNat : Nat)] = wcells ((List.range (k + 1)).map (wat W r)) from by
          rw [List.range_succ, List.map_append, wcells_append]; rfl] at h8
        have hn9 := h9.n
        simp only [Heap.n_push] at hn9 h10
        have hnew' : ∀ i, ownedBy v' i → h4.n ≤ i := fun i hi => by
          rcases h10 i hi with h | h
          · exact hnew i h
          · omega
        have hf7 : Fr (fun i => i = h.n + 1 ∨ i = h2.n) h4 h7 := Fr.trans (S := fun i => i = h.n + 1 ∨ i = h2.n) hf5.push h9 fun i hi h => by have := hnew i h; omega
        have g7s : h7.get h2.n = .strIter rowsS (16 * r + k + 1) := by rw [h9.get _ (by simp; omega) (fun h => by have := hnew _ h; omega), Heap.get_push, if_neg (by omega), g5s]
        have g7v : h7.get (h.n + 1) = .cells (wcells (roundsS W V r)) 0 := by rw [h9.get _ (by simp; omega) (fun h => by have := hnew _ h; omega), Heap.get_push, if_neg (by omega), g5v]
        obtain ⟨a', cap', rfl, hlen', hcell'⟩ := h8.rd
        refine stp ?_
        refine C.if (fun hlt => ?_) (fun hge => ?_)
        · refine stp ?_
          exact zkQ_l4_again (160 - (16 * r + (k + 1))) (by omega) ⟨r, k + 1, hr, by omega, by omega, rfl, h8, hnew', g7s, g7v, hf7⟩
        obtain rfl : k = 15 := by omega
        obtain ⟨q', o', sp', rfl, hq', hcc'⟩ := hcell' (by omega)
        have hqn := hnew' q' rfl
        rw [Nat.mul_one] at hcc'
        refine stp ?_
        refine zkQ_l2_rule (fun m v90 h'' => ∃ i : Nat, i ≤ 4 ∧ m = 4 - i ∧ v90 = .int .i64 i ∧ h''.get (h.n + 1) = .cells (wcells (halfA W r (roundsS W V r) i)) 0 ∧ Fr (fun j => j = h.n + 1) h7 h'') ?_ 4 ⟨0, by omega, rfl, rfl, g7v, Fr.refl⟩
        rintro m v90 h'' x17 x91 x92 x93 x94 x95 x96 x97 x98 x99 x100 x101 x102 x103 x104 x105 x106 x107 x108 x109 x110 x111 x112 x113 x114 x115 x116 x117 ⟨i, hi, rfl, rfl, gA, hfA⟩
        refine stp ?_
        have hrl : (halfA W r (roundsS W V r) i).length = 16 := by rw [halfA_len, roundsS_len, hvl]
        have hnA := hfA.n
        refine C.if (fun hlt => ?_) (fun hge => ?_)
        · have hi : i < 4 := by omega
          have hccA : cellsAt h'' q' o' 16 = some (wcells ((List.range 16).map (wat W r))) := by rw [cellsAt_keep hfA hq' (by omega)]; exact hcc'
          have hrow : ∀ j, j < 16 → Cell h'' q' (o' + j) (.int .u32 ((wat W r j).toNat : Nat)) := fun j hj => by
            have := cell_at hccA hj
            rw [wcells_get (by simpa using hj)] at this
            simpa [List.getD_eq_getElem?_getD, hj] using this
          have e2 : IntKind.i64.wrap (2 * (i : Int)) = 2 * i := mul_in (by omega)
          haveI c0 := hrow (2 * i) (by omega)
          haveI c1 := hrow (2 * i + 1) (by omega)
          haveI : WIx (halfA W r (roundsS W V r) i) i := ⟨by omega⟩
          haveI : WIx (halfA W r (roundsS W V r) i) (4 + i) := ⟨by omega⟩
          haveI : WIx (halfA W r (roundsS W V r) i) (8 + i) := ⟨by omega⟩
          haveI : WIx (halfA W r (roundsS W V r) i) (12 + i) := ⟨by omega⟩
          refine stp ?_
          rw [show o' + (IntKind.i64.wrap (2 * (i : Int))).toNat * 1 = o' + 2 * i from by rw [e2]; omega]
          refine stp ?_
          rw [show o' + (IntKind.i64.wrap (2 * (i : Int)) + 1).toNat * 1 = o' + (2 * i + 1) from by rw [e2]; omega]
          refine stp ?_
          rw [show 0 + ((4 : Int) + (i : Int)).toNat * 1 = 4 + i from by omega, show 0 + ((8 : Int) + (i : Int)).toNat * 1 = 8 + i from by omega, show 0 + ((12 : Int) + (i : Int)).toNat * 1 = 12 + i from by omega]
          refine D.callX (mix_ok (a := i) (b := 4 + i) (c := 8 + i) (d := 12 + i) gA (by omega)) (fun r1 h1' hr1 => rfl) (fun r1 h8' hr1 => ?_) (fun _ _ hx => hx.elim)
          refine stp ?_
          exact zkQ_l2_again (4 - (i + 1)) (by omega) ⟨i + 1, by omega, rfl, rfl, hr1.1, hfA.trans' hr1.2⟩
        · obtain rfl : i = 4 := by omega
          clear hge
          refine stp ?_
          refine zkQ_l3_rule (fun m v118 h3 => ∃ i : Nat, i ≤ 4 ∧ m = 4 - i ∧ v118 = .int .i64 i ∧ h3.get (h.n + 1) = .cells (wcells (halfB W r (halfA W r (roundsS W V r) 4) i)) 0 ∧ Fr (fun j => j = h.n + 1) h7 h3) ?_ 4 ⟨0, by omega, rfl, rfl, gA, hfA⟩
          rintro m v118 h3 x18 x119 x120 x121 x122 x123 x124 x125 x126 x127 x128 x129 x130 x131 x132 x133 x134 x135 x136 x137 x138 x139 x140 x141 x142 x143 x144 x145 x146 x147 x148 x149 x150 x151 x152 ⟨i, hi, rfl, rfl, gB, hfB⟩
          refine stp ?_
          have hrl : (halfB W r (halfA W r (roundsS W V r) 4) i).length = 16 := by rw [halfB_len, hrl]
          have hnB := hfB.n
          refine C.if (fun hlt => ?_) (fun hge => ?_)
          · have hi : i < 4 := by omega
            have hccA : cellsAt h3 q' o' 16 = some (wcells ((List.range 16).map (wat W r))) := by rw [cellsAt_keep hfB hq' (by omega)]; exact hcc'
            have hrow : ∀ j, j < 16 → Cell h3 q' (o' + j) (.int .u32 ((wat W r j).toNat : Nat)) := fun j hj => by
              have := cell_at hccA hj
              rw [wcells_get (by simpa using hj)] at this
              simpa [List.getD_eq_getElem?_getD, hj] using this
            have e2 : IntKind.i64.wrap (2 * (i : Int)) = 2 * i := mul_in (by omega)
            haveI c0 := hrow (8 + 2 * i) (by omega)
            haveI c1 := hrow (9 + 2 * i) (by omega)
            haveI : WIx (halfB W r (halfA W r (roundsS W V r) 4) i) i := ⟨by omega⟩
            haveI : WIx (halfB W r (halfA W r (roundsS W V r) 4) i) (4 + (i + 1) % 4) := ⟨by omega⟩
            haveI : WIx (halfB W r (halfA W r (roundsS W V r) 4) i) (8 + (i + 2) % 4) := ⟨by omega⟩
            haveI : WIx (halfB W r (halfA W r (roundsS W V r) 4) i) (12 + (i + 3) % 4) := ⟨by omega⟩
            refine stp ?_
            refine D.how (XOp.remI (by decide)) rfl ?_
            rw [show ((i : Int) + 1).tmod 4 = ((i + 1) % 4 : Nat) from by rw [Int.tmod_eq_emod_of_nonneg (by omega)]; omega]
            refine stp ?_
            refine D.how (XOp.remI (by decide)) rfl ?_
            rw [show ((i : Int) + 2).tmod 4 = ((i + 2) % 4 : Nat) from by rw [Int.tmod_eq_emod_of_nonneg (by omega)]; omega]
            refine stp ?_
            refine D.how (XOp.remI (by decide)) rfl ?_
            rw [show ((i : Int) + 3).tmod 4 = ((i + 3) % 4 : Nat) from by rw [Int.tmod_eq_emod_of_nonneg (by omega)]; omega]
            refine stp ?_
            rw [show o' + (8 + IntKind.i64.wrap (2 * (i : Int))).toNat * 1 = o' + (8 + 2 * i) from by rw [e2]; omega]
            refine stp ?_
            rw [show o' + (9 + IntKind.i64.wrap (2 * (i : Int))).toNat * 1 = o' + (9 + 2 * i) from by rw [e2]; omega]
            refine stp ?_
            rw [show 0 + ((4 : Int) + (((i + 1) % 4 : Nat) : Int)).toNat * 1 = 4 + (i + 1) % 4 from by omega, show 0 + ((8 : Int) + (((i + 2) % 4 : Nat) : Int)).toNat * 1 = 8 + (i + 2) % 4 from by omega, show 0 + ((12 : Int) + (((i + 3) % 4 : Nat) : Int)).toNat * 1 = 12 + (i + 3) % 4 from by omega]
            refine D.callX (mix_ok (a := i) (b := 4 + (i + 1) % 4) (c := 8 + (i + 2) % 4) (d := 12 + (i + 3) % 4) gB (by omega)) (fun r1 h1' hr1 => rfl) (fun r1 h8' hr1 => ?_) (fun _ _ hx => hx.elim)
            refine stp ?_
            exact zkQ_l3_again (4 - (i + 1)) (by omega) ⟨i + 1, by omega, rfl, rfl, hr1.1, hfB.trans' hr1.2⟩
          · obtain rfl : i = 4 := by omega
            refine stp ?_
            exact zkQ_l4_again (160 - (16 * (r + 1) + 0)) (by omega) ⟨r + 1, 0, by omega, by omega, by omega, rfl, .none, fun i hi => hi.elim, by rw [hfB.get _ (by omega) (by omega), g7s]; congr 1, gB, Fr.trans (S := fun i => i = h.n + 1 ∨ i = h2.n) hf7 hfB fun i _ h => .inl h⟩
      · obtain ⟨rfl, rfl⟩ : r = 10 ∧ k = 0 := by omega
        refine O.how (XOp.mkNextEnd (by rw [hsz]; omega)) ?_
        refine stp ?_
        have hpp : p ≠ h.n + 1 ∧ p ≠ h2.n := by omega
        have gp : h'.get p = .cells (pre ++ (wcells hs ++ post)) es := by rw [hf.get _ (by omega) (by omega), g4p]
        have hfh : Fr (fun i => i = p) h h' := Fr.trans (S := fun i => i = p) (S' := fun i => i = h.n ∨ i = h.n + 1 ∨ i = h2.n) (hF.mono fun _ _ h => h.elim) (Fr.trans (S := fun i => i = h.n ∨ i = h.n + 1 ∨ i = h2.n) (hF4.mono fun i _ h => by omega) hf fun i _ h => by omega) fun i hi h => by omega
        have hvl' : (roundsS W V 10).length = 16 := by rw [roundsS_len, hvl]
        generalize hVV : roundsS W V 10 = VV at *
        refine zkQ_l5_rule (fun m v153 h'' => ∃ k : Nat, k ≤ 8 ∧ m = 8 - k ∧ v153 = .int .i64 k ∧ (∃ hs', h''.get p = .cells (pre ++ (wcells hs' ++ post)) es ∧ hs'.length = 8 ∧ ∀ j, j < 8 → hs'.getD j 0 = if j < k then hs.getD j 0 ^^^ (VV.getD j 0 ^^^ VV.getD (j + 8) 0) else hs.getD j 0) ∧ Fr (fun i => i = p) h' h'') ?_ 8 ⟨0, by omega, rfl, rfl, ⟨hs, gp, hl, fun j hj => by rw [if_neg (by omega)]⟩, Fr.refl⟩
        rintro m v153 h'' x19 x154 x155 x156 x157 x158 x159 x160 x161 x162 x163 x164 x165 x166 x167 x168 x169 x170 x171 x172 ⟨k, hk, rfl, rfl, ⟨hs', gp', hl', hgp⟩, hf'⟩
        refine stp ?_
        refine C.if (fun hlt => ?_) (fun hge => ?_)
        · have hk : k < 8 := by omega
          haveI := mid_cell gp' (k := k) (by omega)
          haveI : HGet h'' (h.n + 1) (.cells (wcells VV) 0) := ⟨by rw [hf'.get _ (by omega) (by omega), gvr]⟩
          haveI : WIx VV k := ⟨by omega⟩
          haveI : WIx VV (k + 8) := ⟨by omega⟩
          haveI := fun w => mid_put (w := w) gp' (k := k) (by omega)
          refine stp ?_
          rw [show 0 + ((k : Int) + 8).toNat * 1 = k + 8 from by omega]
          refine stp ?_
          refine zkQ_l5_again (8 - (k + 1)) (by omega) ⟨k + 1, by omega, rfl, rfl, ⟨_, by rw [Heap.get_set, if_pos rfl], by simpa using hl', fun j hj => ?_⟩, hf'.set fun _ => rfl⟩
          rw [getD_set (by omega)]
          by_cases e : j = k
          · rw [if_pos e, e, if_pos (by omega), hgp k hk, if_neg (by omega)]
          · rw [if_neg e, hgp j hj]
            by_cases e2 : j < k
            · rw [if_pos e2, if_pos (by omega)]
            · rw [if_neg e2, if_neg (by omega)]
        · obtain rfl : k = 8 := by omega
          have hout : hs' = outS hs VV := words_ext (by rw [hl']; rfl) fun j hj => by
            rw [hgp j (by omega), if_pos (by omega)]
            simp [outS, List.getD_eq_getElem?_getD, show j < 8 from by omega]
          refine stp ?_
          exact ⟨by rw [gp', hout, ← hVV, ← hVe, ← hWe]; rfl, hfh.trans' hf'⟩
end Go.Proofs.Ytmfaepkmiceoeaa.A

namespace Go.Proofs.Ytmfaepkmiceoeaa.A
open Go Go.Vm
set_option maxRecDepth 10000
set_option linter.unusedVariables false
theorem Clone_ok {h : Heap} {v : Value} {l : List UInt8} (hr : Rd h 1 v (bcells l) l.length) (hs : l.length < 1048576) :
    Runs Try.prog T0 (.fn fn_zsbQ) [v] h
      (fun r h' => Own h' 1 r (bcells l) l.length ∧ Fr (fun _ => False) h h' ∧ ∀ i, ownedBy r i → h.n ≤ i) (fun _ _ => False) := by
  have hnew := hr.new
  obtain ⟨a, cap, rfl, hlen, hc⟩ := hr
  refine zsbQ_runs ?_
  cases a with
  | none =>
    have hl : l = [] := by
      cases l with
      | nil => rfl
      | cons b l => obtain ⟨_, _, _, h1, _⟩ := hc (by simp); cases h1
    subst hl
    refine stp ?_
    exact ⟨.none, Fr.refl, fun i hi => hi.elim⟩
  | some a =>
    refine stp ?_
    have hz : Own (h.push (.cells [] 0)) 1 (.slice (some ⟨h.n, 0, none⟩) 0 0) [] 0 := .lit (by simp) (by rw [Heap.get_push, if_pos rfl])
    have hnew' := ((Rd.keep (S := fun _ => False) ⟨some a, cap, rfl, hlen, hc⟩ (Fr.refl.push (o := .cells [] 0)) fun _ _ => id).new (size := 1)) [.int .u8 0]
    refine O.append hz hnew' hlen (bcells_one l) (by omega) (by omega) (by omega) (fun v' h' h1 h2 h3 => ?_)
    refine stp ?_
    rw [Nat.zero_add, List.nil_append] at h1
    refine ⟨h1, (Fr.refl.push (o := .cells [] 0)).trans (S := fun _ => False) h2 (fun i hi ho => ?_), fun i hi => ?_⟩
    · have : h.n = i := ho
      omega
    · rcases h3 i hi with h4 | h4
      · have : h.n = i := h4
        omega
      · simp at h4; omega
end Go.Proofs.Ytmfaepkmiceoeaa.A

namespace Go.Proofs.Ytmfaepkmiceoeaa.A
open Go Go.Vm
set_option maxRecDepth 10000
set_option linter.unusedVariables false
theorem eight {l : List UInt32} (h : l.length = 8) : ∃ a b c d e f g i, l = [a, b, c, d, e, f, g, i] := by
  match l, h with
  | [a, b, c, d, e, f, g, i], _ => exact ⟨a, b, c, d, e, f, g, i, rfl⟩
def h0S : List UInt32 := [1795745351, 3144134277, 1013904242, 2773480762, 1359893119, 2600822924, 528734635, 1541459225]
def stepsS (l : List UInt8) : Nat → List UInt32
  | 0 => h0S
  | t + 1 => blockS (stepsS l t) ((l.drop (64 * t)).take 64) (64 * (t + 1)) false
theorem outS_len (h v : List UInt32) : (outS h v).length = 8 := by simp [outS]
theorem blockS_len (h : List UInt32) (b : List UInt8) (n : Nat) (x : Bool) : (blockS h b n x).length = 8 := outS_len _ _
theorem stepsS_len (l : List UInt8) : ∀ t, (stepsS l t).length = 8
  | 0 => rfl
  | t + 1 => blockS_len _ _ _ _
def outB (h : List UInt32) (i : Nat) : UInt8 := (h.getD (i / 4) 0 >>> UInt32.ofNat (8 * (i % 4))).toUInt8
def bytes32 (h : List UInt32) : List UInt8 := (List.range 32).map (outB h)
def full (l : List UInt8) : Nat := (l.length - 1) / 64
def sumS (l : List UInt8) : List UInt8 :=
  bytes32 (blockS (stepsS l (full l)) (l.drop (64 * full l) ++ List.replicate (64 - (l.length - 64 * full l)) 0) l.length true)
def StAt (h : Heap) (p c n : Nat) (hs : List UInt32) (rest : Value) : Prop :=
  h.get p = .cells (ptr c 0 :: (wcells hs ++ [rest])) 0 ∧ h.get c = .cells [.int .i64 (n : Nat)] 0 ∧ hs.length = 8 ∧ p < h.n ∧ c < h.n ∧ p ≠ c
theorem StAt.keep {S : Nat → Prop} {h h' : Heap} {p c n : Nat} {hs : List UInt32} {rest : Value} (hs' : StAt h p c n hs rest) (hf : Fr S h h') (h1 : ¬ S p) (h2 : ¬ S c) : StAt h' p c n hs rest :=
  ⟨by rw [hf.get _ hs'.2.2.2.1 h1, hs'.1], by rw [hf.get _ hs'.2.2.2.2.1 h2, hs'.2.1], hs'.2.2.1, hf.lt hs'.2.2.2.1, hf.lt hs'.2.2.2.2.1, hs'.2.2.2.2.2⟩
theorem New_ok {h : Heap} : Runs Try.prog T0 (.fn fn_zaQ) [] h (fun r h' => ∃ p c, r = ptr p 0 ∧ StAt h' p c 0 h0S (.slice none 0 0) ∧ h.n ≤ p ∧ h.n ≤ c ∧ Fr (fun _ => False) h h') (fun _ _ => False) := by
  refine zaQ_runs (v := undef) ?_
  refine stp ?_
  refine O.call' begin_ok (fun r h1 hr => ?_)
  obtain ⟨rfl, hf1⟩ := hr
  refine stp ?_
  refine O.how XOp.xorI ?_
  rw [show (IntKind.u32.wrap ((BitVec.ofInt IntKind.u32.bits 1779033703 ^^^ BitVec.ofInt IntKind.u32.bits 16842784).toNat : Nat)) = 1795745351 from by decide]
  refine stp ?_
  have hn1 := hf1.n
  refine ⟨_, _, rfl, ⟨by rw [Heap.get_push, if_pos rfl]; rfl, by rw [Heap.get_push, if_neg (by simp), Heap.get_push, if_pos rfl]; rfl, rfl, by simp, by simp <;> omega, by simp⟩, by simp <;> omega, by simp <;> omega, hf1.push.push.push⟩
theorem none_okB {h : Heap} {p c n : Nat} {hs : List UInt32} {rest : Value} (hst : StAt h p c n hs rest) : Runs Try.prog T0 (.fn fn_zeQ) [ptr p 0] h (fun r h' => r = .bool false ∧ h' = h) (fun _ _ => False) := by
  obtain ⟨g1, g2, hl, hp, hc, hne⟩ := hst
  haveI : HGet h p _ := ⟨g1⟩
  refine zeQ_runs ?_
  refine stp ?_
  exact ⟨rfl, rfl⟩
theorem take_okB {h : Heap} {c n : Nat} (hg : h.get c = .cells [.int .i64 (n : Nat)] 0) (hn : n < 1048576) : Runs Try.prog T0 (.fn fn_ziQ) [ptr c 0, .int .i64 64] h (fun r h' => h' = h.set c (.cells [.int .i64 ((n + 64 : Nat) : Int)] 0)) (fun _ _ => False) := by
  haveI : HGet h c _ := ⟨hg⟩
  refine ziQ_runs ?_
  refine stp ?_
  rw [show ((n : Int) + 64) = ((n + 64 : Nat) : Int) from by omega]
theorem clen_ok {h : Heap} {c n : Nat} (hg : h.get c = .cells [.int .i64 (n : Nat)] 0) : Runs Try.prog T0 (.fn fn_zhQ) [ptr c 0] h (fun r h' => r = .int .i64 (n : Nat) ∧ h' = h) (fun _ _ => False) := by
  haveI : HGet h c _ := ⟨hg⟩
  refine zhQ_runs ?_
  refine stp ?_
  exact ⟨rfl, rfl⟩
theorem Len_okB {h : Heap} {p c n m cap : Nat} {a : Option Addr} {hs : List UInt32} (hst : StAt h p c n hs (.slice a m cap)) (hn : n < 1048576) (hm : m < 1048576) :
    Runs Try.prog T0 (.fn fn_zbQ) [ptr p 0] h (fun r h' => r = .int .i64 ((n + m : Nat) : Int) ∧ h' = h) (fun _ _ => False) := by
  have hst' := hst
  obtain ⟨g1, g2, hl, hp, hc, hne⟩ := hst
  obtain ⟨a0, a1, a2, a3, a4, a5, a6, a7, rfl⟩ := eight hl
  haveI : HGet h p (.cells [ptr c 0, .int .u32 (a0.toNat : Nat), .int .u32 (a1.toNat : Nat), .int .u32 (a2.toNat : Nat), .int .u32 (a3.toNat : Nat), .int .u32 (a4.toNat : Nat), .int .u32 (a5.toNat : Nat), .int .u32 (a6.toNat : Nat), .int .u32 (a7.toNat : Nat), .slice a m cap] 0) := ⟨g1⟩
  refine zbQ_runs ?_
  refine stp ?_
  refine O.call' (none_okB hst') (fun r h1 hr => ?_)
  obtain ⟨rfl, rfl⟩ := hr
  refine stp ?_
  refine D.callX (clen_ok g2) (fun r h2 hr => ?_) (fun r h2 hr => ?_) (fun _ _ hx => hx.elim)
  · obtain ⟨rfl, rfl⟩ := hr
    exact StabL.ok
  obtain ⟨rfl, rfl⟩ := hr
  refine stp ?_
  exact ⟨rfl, rfl⟩
theorem own_sl {h : Heap} {v : Value} {l : List UInt8} (ho : Own h 1 v (bcells l) l.length) (hl : 0 < l.length) : ∃ q, Sl h v q l ∧ ownedBy v q := by
  generalize hn : l.length = n at *
  generalize hc : bcells l = c at *
  cases ho with
  | none => omega
  | lit _ _ => omega
  | grown hq hn0 hle hl1 hl2 hg =>
    rename_i q k cap j
    subst hn
    subst hc
    exact ⟨q, ⟨0, some k, cap, _, 1, rfl, hle, hq, hg, fun _ => rfl, by
      rw [cellsAt_of (by rw [hg]; rfl) (by rw [List.length_append]; omega), List.drop_zero, List.take_append_of_le_length (by omega), List.take_of_length_le (by omega)]⟩, rfl⟩
theorem Sl.rd {h : Heap} {v : Value} {q : Nat} {l : List UInt8} (hs : Sl h v q l) : Rd h 1 v (bcells l) l.length := by
  obtain ⟨o, sp, cap, cs, es, rfl, h2, h3, h4, h5, h6⟩ := hs.ex
  exact Rd.mk h3 (by rw [Nat.mul_one]; exact h6)
set_option maxHeartbeats 1000000 in
theorem Write_ok {h : Heap} {p c : Nat} {v : Value} {l : List UInt8} (hst : StAt h p c 0 h0S (.slice none 0 0)) (hv : Rd h 1 v (bcells l) l.length) (hl : 0 < l.length) (hsm : l.length < 1048576) :
    Runs Try.prog T0 (.fn fn_zdQ) [ptr p 0, v] h (fun r h' => ∃ q rest, StAt h' p c (64 * full l) (stepsS l (full l)) rest ∧ Sl h' rest q (l.drop (64 * full l)) ∧ h.n ≤ q ∧ Fr (fun i => i = p ∨ i = c) h h') (fun _ _ => False) := by
  have hst' := hst
  obtain ⟨g1, g2, hl0, hp, hc, hne⟩ := hst
  haveI : HGet h p (.cells [ptr c 0, .int .u32 ((1795745351 : UInt32).toNat : Nat), .int .u32 ((3144134277 : UInt32).toNat : Nat), .int .u32 ((1013904242 : UInt32).toNat : Nat), .int .u32 ((2773480762 : UInt32).toNat : Nat), .int .u32 ((1359893119 : UInt32).toNat : Nat), .int .u32 ((2600822924 : UInt32).toNat : Nat), .int .u32 ((528734635 : UInt32).toNat : Nat), .int .u32 ((1541459225 : UInt32).toNat : Nat), .slice none 0 0] 0) := ⟨g1⟩
  refine zdQ_runs ?_
  refine stp ?_
  refine O.call' (none_okB hst') (fun r h1 hr => ?_)
  obtain ⟨rfl, rfl⟩ := hr
  refine stp ?_
  refine O.append .none (hv.new _) (by rw [bcells_len]; omega) (bcells_one l) (by omega) (by omega) (by omega) (fun v' h2 ho2 hf2 hnew => ?_)
  rw [Nat.zero_add, List.nil_append] at ho2
  obtain ⟨q, hsl, hqo⟩ := own_sl ho2 hl
  have hq : h1.n ≤ q := (hnew q hqo).elim (fun h => h.elim) id
  have hn2 := hf2.n
  haveI : HGet h2 p _ := hf2.keep this hp id
  have hsl1 := hsl
  obtain ⟨o, sp, cap, cs, es, rfl, _, _, _, _, _⟩ := hsl1.ex
  have g2c : h2.get c = .cells [.int .i64 0] 0 := by rw [hf2.get _ hc id, g2]; rfl
  refine stp ?_
  have hF : Fr (fun i => i = p ∨ i = c) h1 h2 := hf2.mono fun _ _ h => h.elim
  refine zdQ_l0_rule (v := undef) (fun m h' => ∃ t rest, 64 * t < l.length ∧ m = l.length - t ∧ StAt h' p c (64 * t) (stepsS l t) rest ∧ Sl h' rest q (l.drop (64 * t)) ∧ Fr (fun i => i = p ∨ i = c) h1 h') ?_ l.length ?_
  rotate_left
  · exact ⟨0, _, by omega, rfl, ⟨by rw [Heap.get_set, if_pos rfl]; rfl, by rw [Heap.get_set, if_neg (by omega), g2c]; rfl, rfl, by simp; omega, by simp; omega, hne⟩, (hsl.keep (S := fun i => i = p) (Fr.refl.set fun _ => rfl) (by omega)), hF.set fun _ => .inl rfl⟩
  rintro m h' x16 x17 x18 x19 x20 x21 x22 x23 x24 x25 x26 x27 x28 x29 x30 x31 x32 x33 x34 x35 x36 x37 x38 x39 x40 x41 x42 x43 x44 x45 x46 x47 x48 x49 x50 ⟨t, rest, ht, rfl, hst, hsl, hf⟩
  have hst0 := hst
  have hsl0 := hsl
  obtain ⟨g1, g2, hl0, hp, hc, hne⟩ := hst
  obtain ⟨o, sp, cap, cs, es, rfl, hs2, hs3, hs4, hs5, hs6⟩ := hsl.ex
  obtain ⟨a0, a1, a2, a3, a4, a5, a6, a7, e8⟩ := eight hl0
  have hdl : (l.drop (64 * t)).length = l.length - 64 * t := by rw [List.length_drop]
  haveI : HGet h' p (.cells [ptr c 0, .int .u32 (a0.toNat : Nat), .int .u32 (a1.toNat : Nat), .int .u32 (a2.toNat : Nat), .int .u32 (a3.toNat : Nat), .int .u32 (a4.toNat : Nat), .int .u32 (a5.toNat : Nat), .int .u32 (a6.toNat : Nat), .int .u32 (a7.toNat : Nat), .slice (some ⟨q, o, sp⟩) (l.drop (64 * t)).length cap] 0) := ⟨by rw [g1, e8]; rfl⟩
  refine stp ?_
  refine C.if (fun hgt => ?_) (fun hle => ?_)
  · refine stp ?_
    refine O.call' (take_okB g2 (by omega)) (fun r h3 hr => ?_)
    subst hr
    generalize hh3 : h'.set c _ = h3
    have g3p : h3.get p = .cells ([ptr c 0] ++ (wcells (stepsS l t) ++ [.slice (some ⟨q, o, sp⟩) (l.drop (64 * t)).length cap])) 0 := by rw [← hh3, Heap.get_set, if_neg hne, g1]; rfl
    have g3c : h3.get c = .cells [.int .i64 ((64 * t + 64 : Nat) : Int)] 0 := by rw [← hh3, Heap.get_set, if_pos rfl]
    have hqn := hsl.lt
    have f3 : Fr (fun i => i = p ∨ i = c) h' h3 := by rw [← hh3]; exact Fr.refl.set fun _ => .inr rfl
    have hsl3 := hsl.keep (S := fun i => i = c) (h' := h3) (by rw [← hh3]; exact Fr.refl.set fun _ => rfl) (by omega)
    have hn3 : h3.n = h'.n := by rw [← hh3]; simp
    clear hh3
    haveI : HGet h3 c _ := ⟨g3c⟩
    haveI : HGet h3 p (.cells [ptr c 0, .int .u32 (a0.toNat : Nat), .int .u32 (a1.toNat : Nat), .int .u32 (a2.toNat : Nat), .int .u32 (a3.toNat : Nat), .int .u32 (a4.toNat : Nat), .int .u32 (a5.toNat : Nat), .int .u32 (a6.toNat : Nat), .int .u32 (a7.toNat : Nat), .slice (some ⟨q, o, sp⟩) (l.drop (64 * t)).length cap] 0) := ⟨by rw [g3p, e8]; rfl⟩
    obtain ⟨v1, hs1, hop⟩ := hsl3.part (i := 0) (j := 64) (by omega) (by omega)
    refine stp ?_
    refine D.how (hop (fun c hc => bnd_at (K := .i64) rfl rfl (by omega)) rfl) rfl ?_
    refine stp ?_
    refine D.callX (block_ok (p := p) (pre := [ptr c 0]) g3p (by omega) hl0 hs1 (by rw [List.length_take, List.length_drop]; omega) (by omega)) (fun r h4 hr => rfl) (fun r h4 hr => ?_) (fun _ _ hx => hx.elim)
    obtain ⟨g4p, f4⟩ := hr
    rw [show blockS (stepsS l t) (((l.drop (64 * t)).drop 0).take (64 - 0)) (64 * t + 64) false = stepsS l (t + 1) from rfl] at g4p
    have hl4 := stepsS_len l (t + 1)
    obtain ⟨b0, b1, b2, b3, b4, b5, b6, b7, e9⟩ := eight hl4
    haveI : HGet h4 p (.cells [ptr c 0, .int .u32 (b0.toNat : Nat), .int .u32 (b1.toNat : Nat), .int .u32 (b2.toNat : Nat), .int .u32 (b3.toNat : Nat), .int .u32 (b4.toNat : Nat), .int .u32 (b5.toNat : Nat), .int .u32 (b6.toNat : Nat), .int .u32 (b7.toNat : Nat), .slice (some ⟨q, o, sp⟩) (l.drop (64 * t)).length cap] 0) := ⟨by rw [g4p, e9]; rfl⟩
    have hsl4 := hsl3.keep f4 (by omega)
    have hn4 := f4.n
    obtain ⟨v2, hs2', hop2⟩ := hsl4.part (i := 64) (j := (l.drop (64 * t)).length) (by omega) (by omega)
    have hd2 : ((l.drop (64 * t)).drop 64).take ((l.drop (64 * t)).length - 64) = l.drop (64 * (t + 1)) := by
      rw [List.take_of_length_le (by rw [List.length_drop]; omega), List.drop_drop]; congr 1
    rw [hd2] at hs2'
    have g4c : h4.get c = .cells [.int .i64 ((64 * t + 64 : Nat) : Int)] 0 := by rw [f4.get _ (by omega) (by omega), g3c]
    have hsl5 := hs2'
    obtain ⟨o2, sp2, cap2, cs2, es2, rfl, _, _, _, _, _⟩ := hsl5.ex
    refine stp ?_
    refine O.how (hop2 (fun c hc => rfl) (bnd_at (K := .i64) rfl rfl (by omega))) ?_
    refine stp ?_
    refine zdQ_l0_again (v := undef) (l.length - (t + 1)) (by omega) ⟨t + 1, _, by omega, rfl, ⟨by rw [Heap.get_set, if_pos rfl, e9]; rfl, by rw [Heap.get_set, if_neg (by omega), g4c]; rfl, hl4, by simp; omega, by simp; omega, hne⟩, hs2'.keep (S := fun i => i = p) (Fr.refl.set fun _ => rfl) (by omega), (hf.trans' (f3.trans' (f4.mono fun _ _ h => .inl h))).set fun _ => .inl rfl⟩
  · refine stp ?_
    have hT : full l = t := by unfold full; omega
    rw [hT]
    exact ⟨q, _, hst0, hsl0, hq, hf⟩
theorem u8_of32 (w : UInt32) : IntKind.u8.wrap (w.toNat : Int) = ((w.toUInt8).toNat : Nat) := by
  rw [wrap_u8, UInt32.toNat_toUInt8]; omega
theorem bcells_set : ∀ {l : List UInt8} {i : Nat} {b : UInt8}, i < l.length → over (bcells l) i [.int .u8 (b.toNat : Nat)] = bcells (l.set i b)
  | [], i, b, h => by simp at h
  | v :: l, 0, b, _ => by
    show _ :: over (bcells l) 0 [] = _
    rw [over_nil]; rfl
  | v :: l, i + 1, b, h => by
    show _ :: over (bcells l) i _ = _
    rw [bcells_set (by simpa using h)]; rfl
theorem put_b {h : Heap} {q es i : Nat} {l : List UInt8} {b : UInt8} (hg : h.get q = .cells (bcells l) es) (hi : i < l.length) : Put h q i [.int .u8 (b.toNat : Nat)] (h.set q (.cells (bcells (l.set i b)) es)) := ⟨by
  simp only [putAt, hg]
  rw [if_pos ⟨by rw [bcells_len]; simp; omega, rfl⟩, bcells_set hi]⟩
theorem getD_setB {l : List UInt8} {i j : Nat} {w : UInt8} (hi : i < l.length) : (l.set i w).getD j 0 = if j = i then w else l.getD j 0 := by
  simp only [List.getD_eq_getElem?_getD, List.getElem?_set]
  by_cases h : i = j
  · subst h; simp [hi]
  · rw [if_neg h, if_neg (Ne.symm h)]
theorem bytes_ext {l m : List UInt8} (h : l.length = m.length) (hg : ∀ j, j < l.length → l.getD j 0 = m.getD j 0) : l = m := by
  apply List.ext_getElem h
  intro i h1 h2
  have := hg i h1
  simpa [List.getD_eq_getElem?_getD, List.getElem?_eq_getElem h1, List.getElem?_eq_getElem h2] using this
theorem repeat_zero : ∀ n : Nat, repeatL [.int .u8 0] n = bcells (List.replicate n 0)
  | 0 => rfl
  | n + 1 => by
    show _ :: repeatL _ n = _
    rw [repeat_zero n]; rfl
set_option maxHeartbeats 1000000 in
theorem StSum_ok {h : Heap} {p c n q : Nat} {hs : List UInt32} {v : Value} {d : List UInt8} (hst : StAt h p c n hs v) (hv : Sl h v q d) (hd : 0 < d.length ∧ d.length ≤ 64) (hn : n + d.length < 1048576) :
    Runs Try.prog T0 (.fn fn_zcQ) [ptr p 0] h (fun r h' => r = .tuple ⟨[.agg ⟨bcells (bytes32 (blockS hs (d ++ List.replicate (64 - d.length) 0) (n + d.length) true))⟩, .int .i64 0]⟩ ∧ Fr (fun _ => False) h h') (fun _ _ => False) := by
  obtain ⟨o, sp, cap, cs, es, rfl, hs2, hs3, hs4, hs5, hs6⟩ := hv.ex
  have hst' := hst
  obtain ⟨g1, g2, hl0, hp, hc, hne⟩ := hst
  obtain ⟨a0, a1, a2, a3, a4, a5, a6, a7, e8⟩ := eight hl0
  have i1 : HGet h p (.cells [ptr c 0, .int .u32 (a0.toNat : Nat), .int .u32 (a1.toNat : Nat), .int .u32 (a2.toNat : Nat), .int .u32 (a3.toNat : Nat), .int .u32 (a4.toNat : Nat), .int .u32 (a5.toNat : Nat), .int .u32 (a6.toNat : Nat), .int .u32 (a7.toNat : Nat), .slice (some ⟨q, o, sp⟩) d.length cap] 0) := ⟨by rw [g1, e8]; rfl⟩
  haveI := i1
  haveI : BLt p h := ⟨hp⟩
  refine zcQ_runs ?_
  refine stp ?_
  refine O.call' (none_okB (hst'.keep (S := fun _ => False) Fr.refl.push id id)) (fun r h1 hr => ?_)
  obtain ⟨rfl, rfl⟩ := hr
  refine stp ?_
  generalize hH : (h.push (.cells z32 0)).push (.cells _ 0) = H
  have hHn : H.n = h.n + 2 := by rw [← hH]; rfl
  have gO : H.get h.n = .cells (bcells (List.replicate 32 0)) 0 := by rw [← hH, Heap.get_push, if_neg (by simp), Heap.get_push, if_pos rfl]; rfl
  have gW : H.get (h.n + 1) = .cells ([] ++ (wcells hs ++ [])) 0 := by rw [← hH, Heap.get_push, if_pos (by simp), e8]; rfl
  have hF : Fr (fun _ => False) h H := by rw [← hH]; exact Fr.refl.push.push
  clear hH
  haveI i2 := hF.keep i1 hp id
  have hvH := hv.keep hF id
  have hstH := hst'.keep hF id id
  simp only [Heap.n_push]
  refine D.callX (Clone_ok hvH.rd (by omega)) (fun r h2 hr => ?_) (fun r h2 hr => ?_) (fun _ _ hx => hx.elim)
  · obtain ⟨hr1, hr2, hr3⟩ := hr
    haveI := hr2.keep i2 (hF.lt hp) id
    exact stab_cons (XOp.subI (by omega)) StabL.ok
  obtain ⟨ho2, hf2, hnew2⟩ := hr
  have hn2 := hf2.n
  have hm : ((64 : Int) - (d.length : Int)).toNat = 64 - d.length := by omega
  refine D.append (m := 64 - d.length) (d := bcells (List.replicate (64 - d.length) 0)) ho2 ?_ (by rw [bcells_len]; simp) (bcells_one _) (by omega) (by omega) (by omega) (fun v' h3 ho3 hf3 hnew3 => ?_)
  · simp only [newCells]
    rw [if_pos (by simp; omega), hm, repeat_zero]
  rw [← bcells_append] at ho3
  have hlen : (d ++ List.replicate (64 - d.length) 0).length = 64 := by simp; omega
  rw [show d.length + (64 - d.length) = (d ++ List.replicate (64 - d.length) 0).length from by rw [hlen]; omega] at ho3
  obtain ⟨q2, hsl2, hqo2⟩ := own_sl ho3 (by omega)
  have hq2 : H.n ≤ q2 := (hnew3 q2 hqo2).elim (hnew2 q2) (fun h => by omega)
  have hF3 : Fr (fun _ => False) H h3 := Fr.trans (S := fun _ => False) hf2 hf3 fun i hi h => by have := hnew2 i h; omega
  have hn3 := hF3.n
  refine stp ?_
  refine O.call' (Len_okB (hstH.keep hF3 id id) (by omega) (by omega)) (fun r h4 hr => ?_)
  obtain ⟨rfl, rfl⟩ := hr
  refine stp ?_
  refine O.call' (block_ok (many := n + d.length) (last := true) (hs := hs) (p := h.n + 1) (pre := []) (post := []) (by rw [hF3.get _ (by omega) id, gW]) (by omega) hl0 hsl2 hlen (by omega)) (fun r h5 hr => ?_)
  obtain ⟨g5w, f5⟩ := hr
  have hn5 := f5.n
  have gO5 : h5.get h.n = .cells (bcells (List.replicate 32 0)) 0 := by rw [f5.get _ (by omega) (by omega), hF3.get _ (by omega) id, gO]
  have hF5 : Fr (fun _ => False) h h5 := Fr.trans (S := fun _ => False) hF (Fr.trans (S := fun i => i = h.n + 1) (hF3.mono fun _ _ h => h.elim) f5 fun _ _ h => h) fun i hi h => by omega
  rw [List.nil_append, List.append_nil] at g5w
  have hBl := blockS_len hs (d ++ List.replicate (64 - d.length) 0) (n + d.length) true
  generalize blockS hs (d ++ List.replicate (64 - d.length) 0) (n + d.length) true = BS at *
  refine stp ?_
  refine zcQ_l0_rule (fun m v30 h' => ∃ k : Nat, k ≤ 32 ∧ m = 32 - k ∧ v30 = .int .i64 k ∧ (∃ bs : List UInt8, h'.get h.n = .cells (bcells bs) 0 ∧ bs.length = 32 ∧ ∀ j, j < 32 → bs.getD j 0 = if j < k then outB BS j else 0) ∧ Fr (fun i => i = h.n) h5 h') ?_ 32 ⟨0, by omega, rfl, rfl, ⟨_, gO5, by simp, fun j hj => by rw [if_neg (by omega)]; simp only [List.getD_eq_getElem?_getD, List.getElem?_replicate, if_pos hj]; rfl⟩, Fr.refl⟩
  rintro m v30 h' x6 x31 x32 x33 x34 x35 x36 x37 x38 x39 x40 x41 x42 x43 x44 ⟨k, hk, rfl, rfl, ⟨bs, gb, hbl, hb⟩, hf⟩
  refine stp ?_
  refine C.if (fun hlt => ?_) (fun hge => ?_)
  · have hk : k < 32 := by omega
    haveI : HGet h' (h.n + 1) (.cells (wcells BS) 0) := ⟨by rw [hf.get _ (by omega) (by omega), g5w]⟩
    haveI : WIx BS (k / 4) := ⟨by omega⟩
    haveI := fun b => put_b (b := b) gb (i := k) (by omega)
    refine stp ?_
    refine O.how (XOp.quoI (by decide)) ?_
    rw [show IntKind.i64.wrap ((k : Int).tdiv 4) = ((k / 4 : Nat) : Int) from by rw [Int.tdiv_eq_ediv_of_nonneg (by omega), mul_in (by omega)]; omega]
    refine stp ?_
    refine O.how (XOp.remI (by decide)) ?_
    rw [show (k : Int).tmod 4 = ((k % 4 : Nat) : Int) from by rw [Int.tmod_eq_emod_of_nonneg (by omega)]; omega]
    refine stp ?_
    refine O.how (XOp.shrW (8 * (k % 4)) (by rw [mul_in (by omega)]; omega) (by omega)) ?_
    refine stp ?_
    rw [u8_of32]
    refine stp ?_
    refine zcQ_l0_again (32 - (k + 1)) (by omega) ⟨k + 1, by omega, rfl, rfl, ⟨_, by rw [Heap.get_set, if_pos rfl], by simpa using hbl, fun j hj => ?_⟩, hf.set fun _ => rfl⟩
    rw [getD_setB (by omega)]
    by_cases e : j = k
    · rw [if_pos e, e, if_pos (by omega)]; rfl
    · rw [if_neg e, hb j hj]
      by_cases e2 : j < k
      · rw [if_pos e2, if_pos (by omega)]
      · rw [if_neg e2, if_neg (by omega)]
  · obtain rfl : k = 32 := by omega
    have hout : bs = bytes32 BS := bytes_ext (by rw [hbl]; simp [bytes32]) fun j hj => by
      rw [hb j (by omega), if_pos (by omega)]
      simp [bytes32, List.getD_eq_getElem?_getD, show j < 32 from by omega]
    subst hout
    haveI : HGet h' h.n _ := ⟨gb⟩
    haveI : L32 (bcells (bytes32 BS)) := ⟨by rw [bcells_len, hbl]⟩
    refine stp ?_
    refine ⟨rfl, Fr.set (Fr.trans (S := fun _ => False) (S' := fun i => i = h.n) hF5 hf fun i hi h => by omega) fun h => by omega⟩
theorem sumS_len (l : List UInt8) : (sumS l).length = 32 := by simp [sumS, bytes32]
theorem Sum_ok {h : Heap} {v : Value} {l : List UInt8} (hv : Rd h 1 v (bcells l) l.length) (hl : 0 < l.length) (hsm : l.length < 1048576) :
    Runs Try.prog T0 (.fn fn_zfQ) [v] h (fun r h' => r = .agg ⟨bcells (sumS l)⟩ ∧ Fr (fun _ => False) h h') (fun _ _ => False) := by
  refine zfQ_runs ?_
  refine stp ?_
  refine O.call' New_ok (fun r h1 hr => ?_)
  obtain ⟨p, c, rfl, hst, hp, hc, hf1⟩ := hr
  have hn1 := hf1.n
  simp only [Heap.n_push] at hp hc hn1
  have hF1 : Fr (fun _ => False) h h1 := Fr.trans (S := fun _ => False) Fr.refl.push hf1 fun _ _ h => h
  have gO1 : HGet h1 h.n (.cells z32 0) := hf1.keep (b := h.n) HGet.new (by simp) id
  refine stp ?_
  refine O.call' (Write_ok hst (hv.keep hF1 fun _ _ => id) hl hsm) (fun r h2 hr => ?_)
  obtain ⟨q, rest, hst2, hsl2, hq, hf2⟩ := hr
  have hn2 := hf2.n
  have hF2 : Fr (fun _ => False) h h2 := Fr.trans (S := fun _ => False) hF1 hf2 fun i hi h => by omega
  have gO2 := hf2.keep (b := h.n) gO1 (by omega) (by omega)
  have hdl : (l.drop (64 * full l)).length = l.length - 64 * full l := by rw [List.length_drop]
  have hfl : 64 * full l < l.length ∧ l.length ≤ 64 * full l + 64 := by unfold full; omega
  refine stp ?_
  refine O.call' (StSum_ok hst2 hsl2 (by omega) (by omega)) (fun r h3 hr => ?_)
  obtain ⟨rfl, hf3⟩ := hr
  have hn3 := hf3.n
  haveI gO3 := hf3.keep (b := h.n) gO2 (by omega) id
  rw [hdl, show 64 * full l + (l.length - 64 * full l) = l.length from by omega]
  have hS : bytes32 (blockS (stepsS l (full l)) (l.drop (64 * full l) ++ List.replicate (64 - (l.length - 64 * full l)) 0) l.length true) = sumS l := rfl
  rw [hS]
  have hsl := sumS_len l
  haveI : L32 (bcells (sumS l)) := ⟨by rw [bcells_len, hsl]⟩
  haveI : BLt h.n h3 := ⟨by omega⟩
  refine stp ?_
  exact ⟨rfl, Fr.set (Fr.push (Fr.trans (S := fun _ => False) hF2 hf3 fun _ _ h => h)) fun h => by omega⟩
end Go.Proofs.Ytmfaepkmiceoeaa.A

namespace Go.Proofs.Ytmfaepkmiceoeaa.A
open Go Go.Vm
set_option maxRecDepth 10000
set_option linter.unusedVariables false
end Go.Proofs.Ytmfaepkmiceoeaa.A

namespace Go.Proofs.Ytmfaepkmiceoeaa.A
open Go Go.Vm
set_option maxRecDepth 10000
set_option linter.unusedVariables false
end Go.Proofs.Ytmfaepkmiceoeaa.A

namespace Go.Proofs.Ytmfaepkmiceoeaa.A
open Go Go.Vm
set_option maxRecDepth 10000
set_option linter.unusedVariables false
theorem l32 {l : List UInt8} (h : l.length = 32) : L32 (bcells l) := ⟨by simpa [bcells] using h⟩
end Go.Proofs.Ytmfaepkmiceoeaa.A

namespace Go.Proofs.Ytmfaepkmiceoeaa.A
open Go Go.Vm
set_option maxRecDepth 10000
set_option linter.unusedVariables false
def beN (n : Nat) : List UInt8 := if h : n = 0 then [] else beN (n / 256) ++ [UInt8.ofNat (n % 256)]
  termination_by n
  decreasing_by omega
theorem beN_zero : beN 0 = [] := by unfold beN; simp
theorem beN_pos {n : Nat} (h : n ≠ 0) : beN n = beN (n / 256) ++ [UInt8.ofNat (n % 256)] := by rw [beN]; rw [dif_neg h]
def numF (n : Nat) : List UInt8 := UInt8.ofNat (beN n).length :: beN n
theorem beN_len : ∀ (k n : Nat), n < 256 ^ k → (beN n).length ≤ k
  | 0, n, h => by
    obtain rfl : n = 0 := by simpa using h
    rw [beN_zero]; simp
  | k + 1, n, h => by
    by_cases h0 : n = 0
    · subst h0; rw [beN_zero]; simp
    · rw [beN_pos h0, List.length_append]
      have : n / 256 < 256 ^ k := Nat.div_lt_of_lt_mul (by rw [Nat.pow_succ] at h; omega)
      have := beN_len k _ this
      simp; omega
theorem u8nat {n : Nat} (h : n < 256) : (UInt8.ofNat n).toNat = n := by
  rw [UInt8.toNat_ofNat']
  exact Nat.mod_eq_of_lt h
theorem number_ok {h : Heap} {N : Nat} (hN : N ≤ 9223372036854775807) :
    Runs Try.prog T0 (.fn fn_ztcQ) [.int .i64 N] h (fun r h' => Rd h' 1 r (bcells (numF N)) (numF N).length ∧ (∀ i, blockOf r i → h.n ≤ i) ∧ Fr (fun _ => False) h h') (fun _ _ => False) := by
  refine ztcQ_runs ?_
  refine stp ?_
  refine ztcQ_l0_rule (fun m v0 v4 h' => ∃ (n k : Nat) (c : List Value) (ds : List UInt8), n = m ∧ v0 = .int .i64 n ∧ v4 = .int .i64 k ∧ k ≤ 8 ∧ n < 256 ^ (8 - k) ∧ n ≤ N ∧ h' = h.push (.cells c 0) ∧ c.length = 9 ∧ ds.length = k ∧ c.drop (9 - k) = bcells ds ∧ beN N = beN n ++ ds) ?_ N
    ⟨N, 0, _, [], rfl, rfl, rfl, by omega, by simp; omega, Nat.le_refl _, rfl, rfl, rfl, rfl, by simp⟩
  rintro m v0 v4 h' x5 x6 x7 x8 x9 x10 x11 x12 x13 x14 x15 ⟨n, k, c, ds, hnm, rfl, rfl, hk, hn, hnN, rfl, hc, hds, hd, hbe⟩
  subst hnm
  refine stp ?_
  refine C.if (fun hpos => ?_) (fun hz => ?_)
  · have hk8 : k < 8 := by
      rcases Nat.lt_or_ge k 8 with h | h
      · exact h
      · obtain rfl : k = 8 := by omega
        simp at hn; omega
    have h256 : n % 256 < 256 := Nat.mod_lt _ (by omega)
    have hw : (IntKind.wrap .u8 (n : Int)) = (((UInt8.ofNat (n % 256)).toNat : Nat) : Int) := by
      rw [wrap_u8, u8nat h256]
      omega
    refine stp ?_
    have h8 : ((8 : Int) - (k : Int)).toNat = 8 - k := by omega
    rw [hw, h8]
    simp only [Nat.zero_add, Nat.mul_one]
    refine O.by0 (XOp.mkStore1 (P := Try.prog) (h := h.push (.cells c 0)) (c := c) (r := h.n) (o := 8 - k) (v := .int .u8 (UInt8.ofNat (n % 256)).toNat) (sp := none) (by omega)).eq rfl ?_
    refine stp ?_
    refine O.how XOp.shr8 ?_
    refine stp ?_
    have hdiv : ((n : Int) / 256) = ((n / 256 : Nat) : Int) := by omega
    rw [hdiv, Heap.push_set]
    refine ztcQ_l0_again (n / 256) (by omega) ⟨n / 256, k + 1, lset c (8 - k) (.int .u8 (UInt8.ofNat (n % 256)).toNat), UInt8.ofNat (n % 256) :: ds, rfl, rfl, by simp, by omega, ?_, by omega, rfl, by rw [lset_len]; exact hc, by simp [hds], ?_, ?_⟩
    · have : 256 ^ (8 - k) = 256 ^ (8 - (k + 1)) * 256 := by rw [← Nat.pow_succ]; congr 1; omega
      exact Nat.div_lt_of_lt_mul (by omega)
    · rw [show 9 - (k + 1) = 8 - k from by omega, lset_drop _ _ _ (by omega), show 8 - k + 1 = 9 - k from by omega, hd]
      rfl
    · rw [hbe, beN_pos (by omega)]
      simp
  · have hn0 : n = 0 := by omega
    subst hn0
    rw [beN_zero, List.nil_append] at hbe
    have hw : (k : Int) = (((UInt8.ofNat k).toNat : Nat) : Int) := by
      rw [u8nat (by omega)]
    refine stp ?_
    have h8 : ((8 : Int) - (k : Int)).toNat = 8 - k := by omega
    rw [h8]
    simp only [Nat.zero_add, Nat.mul_one]
    refine O.by0 (XOp.mkStore1 (P := Try.prog) (h := h.push (.cells c 0)) (c := c) (r := h.n) (o := 8 - k) (v := .int .u8 k) (sp := none) (by omega)).eq rfl ?_
    refine stp ?_
    rw [Heap.push_set]
    refine O.how (XOp.mkSliceArrLo (8 - k) (by omega) (by omega)) ?_
    refine stp ?_
    rw [show 9 - (8 - k) = k + 1 from by omega, Nat.zero_add, Nat.mul_one]
    have hlen : (numF N).length = k + 1 := by simp [numF, hbe, hds]
    refine ⟨?_, fun i hi => by rw [← hi.1]; exact Nat.le_refl _, Fr.refl.push⟩
    rw [hlen]
    refine Rd.mk (by simp) ?_
    rw [cellsAt_of (c := lset c (8 - k) (.int .u8 k)) (by rw [Heap.get_push, if_pos rfl]; rfl) (by rw [lset_len]; omega), lset_drop _ _ _ (by omega), show 8 - k + 1 = 9 - k from by omega, hd]
    congr 1
    rw [List.take_of_length_le (by simp [bcells, hds])]
    unfold numF
    rw [hbe, hds]
    show _ :: _ = Value.int .u8 ((UInt8.ofNat k).toNat : Nat) :: _
    rw [u8nat (by omega)]
    rfl
end Go.Proofs.Ytmfaepkmiceoeaa.A

namespace Go.Proofs.Ytmfaepkmiceoeaa.A
open Go Go.Vm
set_option maxRecDepth 10000
set_option linter.unusedVariables false
theorem repeatL_len (n : Nat) : (repeatL [.int .u8 0] n).length = n := by
  induction n with
  | zero => rfl
  | succ n ih => simp [repeatL, ih]
theorem Grow_ok {h : Heap} {n : Nat} (hn : n < 1048576) :
    Runs Try.prog T0 (.fn fn_zubQ) [.slice none 0 0, .int .i64 n] h (fun r h' => Own h' 1 r [] 0 ∧ (∀ i, ownedBy r i → h.n ≤ i) ∧ Fr (fun _ => False) h h') (fun _ _ => False) := by
  refine zubQ_runs ?_
  refine stp ?_
  refine C.if (fun hpos => ?_) (fun hz => ?_)
  · rw [show ((n : Int) - (((0 : Nat) : Int) - ((0 : Nat) : Int))) = (n : Int) from by omega]
    refine stp ?_
    refine O.by (v := .slice none 0 0) (h' := h) (by rfl) rfl ?_
    refine stp ?_
    have hx : appendOf 1 1 [.int .u8 0] true (.slice none 0 0) (.int .i64 (n : Int)) h = .ok (.slice (some ⟨h.n, 0, some 0⟩) n n) (h.push (.cells (repeatL [.int .u8 0] n) 1)) := by
      unfold appendOf newCells
      rw [if_neg (by omega)]
      simp only [Bool.true_and, show (decide ((0 : Int) ≤ (n : Int))) = true from by simp, if_true, Int.toNat_natCast, Nat.zero_add]
      rw [if_neg (by omega), if_neg (by omega), if_neg (by omega)]
    refine O.by hx rfl ?_
    refine stp ?_
    refine O.by (v := .slice (some ⟨h.n, 0, some 0⟩) 0 n) (h' := h.push (.cells (repeatL [.int .u8 0] n) 1)) ?_ rfl ?_
    · show sliceOf _ 1 (.slice (some ⟨h.n, 0, some 0⟩) n n) none (some _) none _ = _
      simp only [sliceOf, bnd, eval, lget]
      rw [show idx (n + 1) (.int .i64 ((0 : Nat) : Int)) = some 0 from idx_in (by omega)]
      simp
    refine stp ?_
    refine ⟨.grown (c := []) (j := repeatL [.int .u8 0] n) (by simp) (by omega) (by omega) rfl (by simp [repeatL_len]) (by rw [Heap.get_push, if_pos rfl]; rfl), fun i hi => by rw [← hi]; exact Nat.le_refl _, Fr.refl.push⟩
  · refine stp ?_
    exact ⟨.none, fun i hi => hi.elim, Fr.refl⟩
def Parts (h : Heap) (ls : List (Value × List UInt8)) : Prop := ∀ p ∈ ls, Rd h 1 p.1 (bcells p.2) p.2.length
theorem Parts.keep {h h' : Heap} {ls : List (Value × List UInt8)} (hp : Parts h ls) (hf : Fr (fun _ => False) h h') : Parts h' ls := fun p hm => (hp p hm).keep hf fun _ _ => id
def flat (ls : List (Value × List UInt8)) : List UInt8 := ls.flatMap (·.2)
theorem flat_take {ls : List (Value × List UInt8)} {k : Nat} (hk : k < ls.length) : flat (ls.take (k + 1)) = flat (ls.take k) ++ ls[k].2 := by
  unfold flat
  rw [List.take_succ_eq_append_getElem hk]
  simp only [List.flatMap_append, List.flatMap_cons, List.flatMap_nil, List.append_nil]
theorem flat_le {ls : List (Value × List UInt8)} (k : Nat) : (flat (ls.take k)).length ≤ (flat ls).length := by
  conv => rhs; rw [← List.take_append_drop k ls]
  unfold flat
  rw [List.flatMap_append]
  simp
theorem lget_map {ls : List (Value × List UInt8)} {k : Nat} (hk : k < ls.length) : lget (ls.map (·.1)) k = ls[k].1 := by
  induction ls generalizing k with
  | nil => simp at hk
  | cons a l ih =>
    cases k with
    | zero => rfl
    | succ k => exact ih (by simpa using hk)
theorem Concat_ok {h : Heap} {v : Value} {ls : List (Value × List UInt8)} (hv : Rd h 1 v (ls.map (·.1)) ls.length) (hp : Parts h ls) (hn : ls.length < 1048576) (hs : (flat ls).length < 1048576) :
    Runs Try.prog T0 (.fn fn_ztbQ) [v] h (fun r h' => Own h' 1 r (bcells (flat ls)) (flat ls).length ∧ (∀ i, ownedBy r i → h.n ≤ i) ∧ Fr (fun _ => False) h h') (fun _ _ => False) := by
  have hv' := hv
  obtain ⟨a, cap, rfl, hlen, hc⟩ := hv
  refine ztbQ_runs ?_
  refine stp ?_
  refine ztbQ_l0_rule (fun m v3 v11 h' => ∃ k : Nat, k ≤ ls.length ∧ m = ls.length - k ∧ v3 = .int .i64 (flat (ls.take k)).length ∧ v11 = .int .i64 k ∧ h = h') ?_ ls.length ⟨0, by omega, rfl, rfl, rfl, rfl⟩
  rintro m v3 v11 h' x5 x12 x13 x14 x15 x16 x17 x18 x19 x20 x21 x22 ⟨k, hk, rfl, rfl, rfl, rfl⟩
  refine stp ?_
  refine C.if (fun hlt => ?_) (fun hge => ?_)
  · have hk' : k < ls.length := by omega
    obtain ⟨b, o, sp, rfl, hb, hcc⟩ := hc (by omega)
    rw [Nat.mul_one] at hcc
    haveI := cell_at (k := k) hcc hk'
    rw [lget_map hk'] at this
    haveI := this
    obtain ⟨a1, cap1, hv1, _, _⟩ := hp ls[k] (List.getElem_mem _)
    have hfl := flat_le (ls := ls) (k + 1)
    rw [flat_take hk', List.length_append] at hfl
    refine stp ?_
    rw [hv1]
    refine stp ?_
    refine ztbQ_l0_again (ls.length - (k + 1)) (by omega) ⟨k + 1, by omega, rfl, ?_, rfl, rfl⟩
    rw [flat_take hk', List.length_append]
    rfl
  · obtain rfl : k = ls.length := by omega
    rw [List.take_length]
    refine stp ?_
    refine O.call' (Grow_ok hs) (fun r h1 hr => ?_)
    obtain ⟨ho, hnew, hf⟩ := hr
    refine stp ?_
    refine ztbQ_l1_rule (fun m v6 v27 h' => ∃ k : Nat, k ≤ ls.length ∧ m = ls.length - k ∧ v27 = .int .i64 k ∧ Own h' 1 v6 (bcells (flat (ls.take k))) (flat (ls.take k)).length ∧ (∀ i, ownedBy v6 i → h'.n ≤ i ∨ h.n ≤ i) ∧ Fr (fun _ => False) h h') ?_ ls.length ⟨0, by omega, rfl, rfl, ho, fun i hi => .inr (hnew i hi), hf⟩
    clear ho hnew hf
    rintro m v6 v27 h' x8 x28 x29 x30 x31 x32 x33 x34 ⟨k, hk, rfl, rfl, ho, hnew, hf⟩
    refine stp ?_
    refine C.if (fun hlt => ?_) (fun hge => ?_)
    · have hk' : k < ls.length := by omega
      obtain ⟨b, o, sp, rfl, hb, hcc⟩ := hc (by omega)
      rw [Nat.mul_one, ← cellsAt_keep hf hb id] at hcc
      haveI := cell_at (k := k) hcc hk'
      rw [lget_map hk'] at this
      haveI := this
      have hpk := (hp ls[k] (List.getElem_mem _)).keep hf fun _ _ => id
      have hfl := flat_le (ls := ls) (k + 1)
      rw [flat_take hk', List.length_append] at hfl
      refine stp ?_
      refine O.append ho (hpk.new [.int .u8 0]) (by rw [bcells_len]; omega) (bcells_one _) (by omega) (by omega) (by omega) (fun v' h2 h3 h4 h5 => ?_)
      refine stp ?_
      refine ztbQ_l1_again (ls.length - (k + 1)) (by omega) ⟨k + 1, by omega, rfl, rfl, ?_, fun i hi => ?_, ?_⟩
      · rw [flat_take hk', List.length_append, bcells_append]
        exact h3
      · rcases h5 i hi with h6 | h6
        · rcases hnew i h6 with h7 | h7
          · exact .inr (Nat.le_trans hf.n h7)
          · exact .inr h7
        · exact .inr (Nat.le_trans hf.n h6)
      · refine Fr.trans (S := fun _ => False) hf h4 fun i hi ho' => ?_
        rcases hnew i ho' with h7 | h7
        · have := hf.n; omega
        · omega
    · obtain rfl : k = ls.length := by omega
      rw [List.take_length] at ho
      refine stp ?_
      exact ⟨ho, fun i hi => (hnew i hi).elim (Nat.le_trans hf.n) id, hf⟩
end Go.Proofs.Ytmfaepkmiceoeaa.A

namespace Go.Proofs.Ytmfaepkmiceoeaa.A
open Go Go.Vm
set_option maxRecDepth 10000
set_option linter.unusedVariables false
structure PW (h : Heap) (lo p : Nat) (sv : Value) (bs : List UInt8) (lim : Nat) (e : Int) : Prop where
  lt : p < h.n
  le : lo ≤ p
  get : h.get p = .cells [.int .i64 lim, sv, .int .i64 e, .bool true] 0
  own : Own h 1 sv (bcells bs) bs.length
  apart : ¬ ownedBy sv p
  above : ∀ i, ownedBy sv i → lo ≤ i
  small : bs.length < 1048576
structure WSt where
  bs : List UInt8
  e : Int
structure PWs (h : Heap) (lo p lim : Nat) (st : WSt) : Prop where
  ex : ∃ sv, PW h lo p sv st.bs lim st.e
def putS (lim : Nat) (may : Bool) (part : List UInt8) (st : WSt) : WSt :=
  if st.e ≠ 0 then st else if may = false then ⟨st.bs, 3⟩ else if lim < st.bs.length + part.length then ⟨st.bs, 4⟩ else ⟨st.bs ++ part, 0⟩
theorem PW.keep {S : Nat → Prop} {h h' : Heap} {lo p : Nat} {sv : Value} {bs : List UInt8} {lim : Nat} {e : Int} (hp : PW h lo p sv bs lim e) (hf : Fr S h h') (hs : ¬ S p) (hb : ∀ i, ownedBy sv i → ¬ S i) : PW h' lo p sv bs lim e :=
  ⟨hf.lt hp.lt, hp.le, by rw [hf.get p hp.lt hs, hp.get], hp.own.keep hf hb, hp.apart, hp.above, hp.small⟩
theorem PWs.keep {S : Nat → Prop} {h h' : Heap} {lo p lim : Nat} {st : WSt} (hp : PWs h lo p lim st) (hf : Fr S h h') (hs : ∀ i, S i → i < lo) : PWs h' lo p lim st :=
  let ⟨sv, hw⟩ := hp.ex
  ⟨sv, hw.keep hf (fun h => by have := hs _ h; have := hw.le; omega) fun i hi h => by have := hs _ h; have := hw.above i hi; omega⟩
theorem PWs.none {h h' : Heap} {lo p lim : Nat} {st : WSt} (hp : PWs h lo p lim st) (hf : Fr (fun _ => False) h h') : PWs h' lo p lim st := hp.keep hf fun _ h => h.elim
theorem PWs.lo_le {h : Heap} {lo p lim : Nat} {st : WSt} (hp : PWs h lo p lim st) : lo ≤ h.n := let ⟨_, hw⟩ := hp.ex; Nat.le_of_lt (Nat.lt_of_le_of_lt hw.le hw.lt)
def Writes (h : Heap) (lo p lim : Nat) (st : WSt) (r : Value) (h' : Heap) : Prop := r = .int .i64 st.e ∧ PWs h' lo p lim st ∧ Fr (fun i => lo ≤ i) h h'
theorem put_ok {h : Heap} {lo p lim : Nat} {st : WSt} {may : Bool} {v : Value} {ls : List (Value × List UInt8)} (hw : PWs h lo p lim st) (hv : Rd h 1 v (ls.map (·.1)) ls.length) (hp : Parts h ls) (hn : ls.length < 1048576) (hs : st.bs.length + (flat ls).length < 1048576) :
    Runs Try.prog T0 (.fn fn_zscQ) [.pointer (some ⟨p, 0, none⟩), .bool may, v] h (Writes h lo p lim (putS lim may (flat ls) st)) (fun _ _ => False) := by
  obtain ⟨bs, e⟩ := st
  obtain ⟨sv, hw⟩ := hw.ex
  have hs : bs.length + (flat ls).length < 1048576 := hs
  have hw : PW h lo p sv bs lim e := hw
  have hle := hw.le
  have hlt := hw.lt
  obtain ⟨a0, cap0, rfl, hl0, _⟩ := hw.own.rd
  haveI : HGet h p _ := ⟨hw.get⟩
  refine zscQ_runs ?_
  refine stp ?_
  refine O.call' (Concat_ok hv hp hn (by omega)) (fun r h1 hr => ?_)
  obtain ⟨ho, hnew, hf⟩ := hr
  obtain ⟨a1, cap1, rfl, hl1, _⟩ := ho.rd
  have hw1 := hw.keep hf id fun _ _ => id
  haveI : HGet h1 p _ := ⟨hw1.get⟩
  have hfl : Fr (fun i => lo ≤ i) h h1 := hf.mono fun _ _ h => h.elim
  refine stp ?_
  refine C.ifN (fun he => ?_) (fun he => ?_)
  · refine stp ?_
    unfold putS
    rw [if_pos (by simpa using he)]
    exact ⟨rfl, ⟨_, hw1⟩, hfl⟩
  · subst he
    refine stp ?_
    cases may with
    | false =>
      refine stp ?_
      unfold putS
      rw [if_neg (by simp), if_pos rfl]
      refine ⟨rfl, ⟨.slice a0 bs.length cap0, by simpa using hw1.lt, hw.le, by rw [Heap.get_set, if_pos rfl], hw1.own.keep (S := fun i => i = p) (Fr.refl.set fun _ => rfl) fun i hi hp => hw1.apart (hp ▸ hi), hw1.apart, hw1.above, hw1.small⟩, hfl.set fun _ => hw.le⟩
    | true =>
      refine stp ?_
      refine C.if (fun hlong => ?_) (fun hfit => ?_)
      · refine stp ?_
        unfold putS
        rw [if_neg (by simp), if_neg (by simp), if_pos (by simp only; omega)]
        refine ⟨rfl, ⟨.slice a0 bs.length cap0, by simpa using hw1.lt, hw.le, by rw [Heap.get_set, if_pos rfl], hw1.own.keep (S := fun i => i = p) (Fr.refl.set fun _ => rfl) fun i hi hp => hw1.apart (hp ▸ hi), hw1.apart, hw1.above, hw1.small⟩, hfl.set fun _ => hw.le⟩
      · refine stp ?_
        refine O.append hw1.own (ho.rd.new [.int .u8 0]) (by rw [bcells_len]; omega) (bcells_one _) (by omega) (by omega) (by omega) (fun v' h2 h3 h4 h5 => ?_)
        obtain ⟨a2, cap2, rfl, hl2, _⟩ := h3.rd
        have hp2 : HGet h2 p _ := h4.keep ⟨hw1.get⟩ hw1.lt hw1.apart
        refine stp ?_
        have hnp : ¬ ownedBy (.slice a2 (bs.length + (flat ls).length) cap2) p := fun hi => by
          rcases h5 p hi with h6 | h6
          · exact hw1.apart h6
          · have := hw1.lt; omega
        unfold putS
        rw [if_neg (by simp), if_neg (by simp), if_neg (by simp only; omega)]
        refine ⟨rfl, ⟨_, by have := h4.lt hw1.lt; simpa using this, hw.le, by rw [Heap.get_set, if_pos rfl], ?_, hnp, fun i hi => ?_, by simp; omega⟩, Fr.set (Fr.trans (S := fun i => lo ≤ i) hfl h4 fun i hi ho' => hw1.above i ho') fun _ => hw.le⟩
        · show Own _ 1 (.slice a2 (bs.length + (flat ls).length) cap2) (bcells (bs ++ flat ls)) (bs ++ flat ls).length
          rw [bcells_append, List.length_append]
          exact h3.keep (S := fun i => i = p) (Fr.refl.set fun _ => rfl) fun i hi hp => hnp (hp ▸ hi)
        · rcases h5 i hi with h6 | h6
          · exact hw1.above i h6
          · have := hw1.lt; omega
end Go.Proofs.Ytmfaepkmiceoeaa.A

namespace Go.Proofs.Ytmfaepkmiceoeaa.A
open Go Go.Vm
set_option maxRecDepth 10000
set_option linter.unusedVariables false
theorem numF_len {n : Nat} (h : n ≤ 9223372036854775807) : (numF n).length ≤ 9 := by
  have := beN_len 8 n (by omega)
  simp [numF]; omega
theorem rd_lit {h : Heap} {c : List Value} {n es : Nat} (hc : c.length = n) : Rd (h.push (.cells c es)) 1 (.slice (some ⟨h.n, 0, none⟩) n n) c n := by
  refine Rd.mk (by simp) ?_
  rw [cellsAt_of (c := c) (by rw [Heap.get_push, if_pos rfl]; rfl) (by omega), List.drop_zero, List.take_of_length_le (by omega)]
theorem WNum_ok {h : Heap} {lo p lim : Nat} {st : WSt} {n : Int} (hw : PWs h lo p lim st) (hn : n ≤ 9223372036854775807) (hs : st.bs.length + 9 < 1048576) :
    Runs Try.prog T0 (.fn fn_zrcQ) [.pointer (some ⟨p, 0, none⟩), .int .i64 n] h (Writes h lo p lim (putS lim (decide (0 ≤ n)) (numF n.toNat) st)) (fun _ _ => False) := by
  have hlo := hw.lo_le
  refine zrcQ_runs ?_
  refine stp ?_
  have hm : (if (0 : Int) > n then 0 else n) = ((n.toNat : Nat) : Int) := by split <;> omega
  rw [hm]
  refine O.call' (number_ok (N := n.toNat) (by omega)) (fun r h1 hr => ?_)
  obtain ⟨hrd, hnew, hf⟩ := hr
  have hw1 := hw.none hf
  have hfl := numF_len (n := n.toNat) (by omega)
  obtain ⟨a1, cap1, rfl, hl1, _⟩ := id hrd
  refine stp ?_
  refine O.call' (put_ok (ls := [(.slice a1 (numF n.toNat).length cap1, numF n.toNat)]) (hw1.none Fr.refl.push) (rd_lit rfl) ?_ (by simp) (by simp [flat]; omega)) (fun r h2 hr => ?_)
  · intro q hq
    simp at hq
    subst hq
    exact hrd.keep (S := fun _ => False) Fr.refl.push fun _ _ => id
  · refine stp ?_
    rw [show flat [(Value.slice a1 (numF n.toNat).length cap1, numF n.toNat)] = numF n.toNat from by simp [flat]] at hr
    exact ⟨hr.1, hr.2.1, Fr.trans (S := fun i => lo ≤ i) (hf.mono fun _ _ h => h.elim) (Fr.trans (S := fun i => lo ≤ i) Fr.refl.push hr.2.2 fun _ _ h => h) fun _ _ h => h⟩
theorem NewWriter_ok {h : Heap} {lim : Nat} (hl : lim ≤ 1048576) :
    Runs Try.prog T0 (.fn fn_zocQ) [.int .i64 lim] h (fun r h' => r = .tuple ⟨[.pointer (some ⟨h.n, 0, none⟩), .int .i64 0]⟩ ∧ PWs h' h.n h.n lim ⟨[], 0⟩ ∧ Fr (fun _ => False) h h') (fun _ _ => False) := by
  refine zocQ_runs ?_
  refine stp ?_
  refine C.if (fun h1 => by omega) (fun _ => ?_)
  refine stp ?_
  refine ⟨rfl, ⟨.slice none 0 0, by simp, Nat.le_refl _, by rw [Heap.get_push, if_pos rfl], .none, fun h => h, fun i h => h.elim, by simp⟩, Fr.refl.push⟩
theorem Done_ok {h : Heap} {lo p lim : Nat} {st : WSt} (hw : PWs h lo p lim st) :
    Runs Try.prog T0 (.fn fn_zpcQ) [.pointer (some ⟨p, 0, none⟩)] h
      (fun r h' => ∃ v, r = .tuple ⟨[v, .int .i64 st.e]⟩ ∧ Own h' 1 v (bcells (if st.e = 0 then st.bs else [])) (if st.e = 0 then st.bs else []).length ∧ (∀ i, ownedBy v i → h.n ≤ i) ∧ Fr (fun _ => False) h h') (fun _ _ => False) := by
  obtain ⟨bs, e⟩ := st
  obtain ⟨sv, hw⟩ := hw.ex
  have hw : PW h lo p sv bs lim e := hw
  obtain ⟨a0, cap0, rfl, hl0, _⟩ := hw.own.rd
  haveI : HGet h p _ := ⟨hw.get⟩
  refine zpcQ_runs ?_
  refine stp ?_
  refine C.ifN (fun he => ?_) (fun he => ?_)
  · refine stp ?_
    rw [if_neg he]
    exact ⟨_, rfl, .none, fun i h => h.elim, Fr.refl⟩
  · subst he
    refine stp ?_
    refine O.call' (Clone_ok hw.own.rd hw.small) (fun r h1 hr => ?_)
    refine stp ?_
    exact ⟨_, rfl, hr.1, hr.2.2, hr.2.1⟩
end Go.Proofs.Ytmfaepkmiceoeaa.A

namespace Go.Proofs.Ytmfaepkmiceoeaa.A
open Go Go.Vm
set_option maxRecDepth 10000
set_option linter.unusedVariables false
theorem four {l : List UInt8} (h : l.length = 4) : ∃ a b c d, l = [a, b, c, d] := by
  match l, h with
  | [a, b, c, d], _ => exact ⟨a, b, c, d, rfl⟩
end Go.Proofs.Ytmfaepkmiceoeaa.A

namespace Go.Proofs.Ytmfaepkmiceoeaa.A
open Go Go.Vm
set_option maxRecDepth 10000
set_option linter.unusedVariables false
structure Val where
  k0 : UInt8
  k1 : UInt8
  k2 : UInt8
  k3 : UInt8
  p : Int
deriving DecidableEq
abbrev Val.key (v : Val) : List UInt8 := [v.k0, v.k1, v.k2, v.k3]
abbrev Val.cells (v : Val) : List Value := [.int .u8 v.k0.toNat, .int .u8 v.k1.toNat, .int .u8 v.k2.toNat, .int .u8 v.k3.toNat, .int .i64 v.p]
abbrev zVal : Val := ⟨0, 0, 0, 0, 0⟩
def Val.of (l : List UInt8) (p : Int) : Val := ⟨l.getD 0 0, l.getD 1 0, l.getD 2 0, l.getD 3 0, p⟩
def vcells (l : List Val) : List Value := l.flatMap Val.cells
theorem vcells_nil : vcells [] = [] := rfl
theorem vcells_cons (v : Val) (l : List Val) : vcells (v :: l) = v.cells ++ vcells l := rfl
theorem vcells_len : ∀ l : List Val, (vcells l).length = l.length * 5
  | [] => rfl
  | v :: l => by rw [vcells_cons, List.length_append, vcells_len l]; simp; omega
theorem vcells_one : ∀ l : List Val, (vcells l).all Value.oneCell' = true
  | [] => rfl
  | v :: l => by rw [vcells_cons, List.all_append, vcells_one l]; rfl
theorem vcells_at : ∀ {l : List Val} {k : Nat}, k < l.length → ((vcells l).drop (k * 5)).take 5 = (l.getD k zVal).cells
  | v :: l, 0, _ => by rw [vcells_cons]; rfl
  | v :: l, k + 1, h => by
    have := vcells_at (l := l) (k := k) (by simpa using h)
    rw [vcells_cons, show (k + 1) * 5 = v.cells.length + k * 5 from by simp; omega, ← List.drop_drop, List.drop_left]
    exact this
theorem val_cells {h : Heap} {b o n k : Nat} {l : List Val} (hc : cellsAt h b o (n * 5) = some (vcells l)) (hn : l.length = n) (hk : k < n) : Cells h b (o + k * 5) 5 (l.getD k zVal).cells := ⟨by
  rw [cellsAt_sub hc (by omega), vcells_at (by omega)]⟩
theorem val_key {h : Heap} {b o n k : Nat} {l : List Val} (hc : cellsAt h b o (n * 5) = some (vcells l)) (hn : l.length = n) (hk : k < n) : Cells h b (o + k * 5) 4 [.int .u8 (l.getD k zVal).k0.toNat, .int .u8 (l.getD k zVal).k1.toNat, .int .u8 (l.getD k zVal).k2.toNat, .int .u8 (l.getD k zVal).k3.toNat] := ⟨by
  have h5 := (val_cells hc hn hk).eq
  have := cellsAt_sub (k := 0) (m := 4) h5 (by omega)
  simpa using this⟩
theorem val_power {h : Heap} {b o n k : Nat} {l : List Val} (hc : cellsAt h b o (n * 5) = some (vcells l)) (hn : l.length = n) (hk : k < n) : Cell h b (o + k * 5 + 4) (.int .i64 (l.getD k zVal).p) := ⟨by
  have h5 := (val_cells hc hn hk).eq
  have := cellsAt_sub (k := 4) (m := 1) h5 (by omega)
  simpa using this⟩
def stepsV (least : Int) : Option Val → List Val → Int
  | _, [] => 0
  | last, v :: l => if (match last with | none => false | some x => !keyLt x.key v.key) = true then 9 else if v.p < least ∨ 4611686018427387904 < v.p then 3 else stepsV least (some v) l
def checkV (l : List Val) : Int := if l.length = 0 then 6 else if 64 < l.length then 4 else stepsV 1 none l
def lastV (l : List Val) (k : Nat) : Option Val := if k = 0 then none else some (l.getD (k - 1) zVal)
theorem drop_getD {l : List Val} {k : Nat} (hk : k < l.length) : l.drop k = l.getD k zVal :: l.drop (k + 1) := by
  rw [List.drop_eq_getElem_cons hk]
  simp [List.getD, hk]
theorem stepsV_at {least : Int} {l : List Val} {k : Nat} (hk : k < l.length) : stepsV least (lastV l k) (l.drop k) =
    if (match lastV l k with | none => false | some x => !keyLt x.key (l.getD k zVal).key) = true then 9 else if (l.getD k zVal).p < least ∨ 4611686018427387904 < (l.getD k zVal).p then 3 else stepsV least (lastV l (k + 1)) (l.drop (k + 1)) := by
  rw [drop_getD hk]
  rfl
def atS (x : Val) (begun : Bool) (least most : Int) (v : Val) : Int := if (begun && !keyLt x.key v.key) = true then 9 else if v.p < least ∨ most < v.p then 3 else 0
theorem stepsV_atS {least : Int} {l : List Val} {k : Nat} {x : Val} (hk : k < l.length) (hx : 0 < k → lastV l k = some x) :
    stepsV least (lastV l k) (l.drop k) = if atS x (decide (0 < k)) least 4611686018427387904 (l.getD k zVal) = 0 then stepsV least (lastV l (k + 1)) (l.drop (k + 1)) else atS x (decide (0 < k)) least 4611686018427387904 (l.getD k zVal) := by
  rw [stepsV_at hk]
  by_cases h0 : 0 < k
  · rw [hx h0]
    unfold atS
    simp only [decide_eq_true h0, Bool.true_and]
    split
    · rfl
    · split
      · rfl
      · rfl
  · obtain rfl : k = 0 := by omega
    unfold atS
    simp only [lastV, if_true, Nat.lt_irrefl, decide_false, Bool.false_and, Bool.false_eq_true, if_false]
    split
    · rfl
    · rfl
end Go.Proofs.Ytmfaepkmiceoeaa.A

namespace Go.Proofs.Ytmfaepkmiceoeaa.A
open Go Go.Vm
set_option maxRecDepth 10000
set_option linter.unusedVariables false
theorem Compare_ok {h : Heap} {v w : Value} {a b : List UInt8} {n m : Nat} (h1 : Rd h 1 v (bcells a) n) (h2 : Rd h 1 w (bcells b) m) :
    Runs Try.prog T0 (.fn fn_zlQ) [v, w] h (fun r h' => r = .int .i64 (cmpB a b) ∧ h' = h) (fun _ _ => False) := by
  have h1' := h1
  have h2' := h2
  obtain ⟨a0, c0, rfl, _, _⟩ := h1
  obtain ⟨a1, c1, rfl, _, _⟩ := h2
  refine zlQ_runs ?_
  refine stp ?_
  refine O.how (XOp.mkCompare h1' h2' (by kernel_rfl)) ?_
  refine stp ?_
  exact ⟨rfl, rfl⟩
abbrev lookC (x : Val) (begun : Bool) (least most : Int) : List Value := [.int .u8 x.k0.toNat, .int .u8 x.k1.toNat, .int .u8 x.k2.toNat, .int .u8 x.k3.toNat, .bool begun, .int .i64 least, .int .i64 most]
theorem at_ok {h : Heap} {q : Nat} {x v : Val} {begun : Bool} {least most : Int} (hg : h.get q = .cells (lookC x begun least most) 0) (hq : q < h.n) :
    Runs Try.prog T0 (.fn fn_zgcQ) [.pointer (some ⟨q, 0, none⟩), .agg ⟨v.cells⟩] h (fun r h' => r = .int .i64 (atS x begun least most v) ∧ h'.get q = .cells (lookC v true least most) 0 ∧ Fr (fun i => i = q) h h') (fun _ _ => False) := by
  haveI : HGet h q _ := ⟨hg⟩
  haveI : BLt q h := ⟨hq⟩
  have fin : ∀ {c : List Value} {o : AObj}, c = lookC v true least most → (((h.push o).set q (.cells c 0)).get q = .cells (lookC v true least most) 0 ∧ Fr (fun i => i = q) h ((h.push o).set q (.cells c 0))) := fun hc => ⟨by rw [Heap.get_set, if_pos rfl, hc], Fr.refl.push.set fun _ => rfl⟩
  refine zgcQ_runs ?_
  refine stp ?_
  cases begun with
  | true =>
    refine stp ?_
    refine D.callT (Compare_ok (a := x.key) (b := v.key) (Rd.mk (n := 4) (by simp; omega) ?_) (Rd.mk (n := 4) (by simp) ?_)) (fun _ _ _ => rfl) (fun r h1 hr => ?_)
    · rw [cellsAt_of (c := lookC x true least most) (by rw [Heap.get_push, if_neg (by omega), hg]; rfl) (by simp)]
      rfl
    · rw [cellsAt_of (c := v.cells) (by rw [Heap.get_push, if_pos rfl]; rfl) (by simp)]
      rfl
    obtain ⟨rfl, rfl⟩ := hr
    refine stp ?_
    have hk : keyLt x.key v.key = decide (cmpB x.key v.key < 0) := rfl
    unfold atS
    refine C.if (fun hge => ?_) (fun hlt => ?_)
    · refine stp ?_
      rw [if_pos (by rw [hk, decide_eq_false (by omega)]; rfl)]
      exact ⟨rfl, fin rfl⟩
    · refine stp ?_
      rw [if_neg (by rw [hk, decide_eq_true (by omega)]; simp)]
      refine D.dec (fun h1 => ?_) (fun h1 => ?_)
      · refine stp ?_
        rw [if_pos (.inl h1)]
        exact ⟨rfl, fin rfl⟩
      · refine stp ?_
        refine C.if (fun h2 => ?_) (fun h2 => ?_)
        · refine stp ?_
          rw [if_pos (.inr h2)]
          exact ⟨rfl, fin rfl⟩
        · refine stp ?_
          rw [if_neg (by omega)]
          exact ⟨rfl, fin rfl⟩
  | false =>
    refine stp ?_
    unfold atS
    rw [if_neg (by simp)]
    refine D.dec (fun h1 => ?_) (fun h1 => ?_)
    · refine stp ?_
      rw [if_pos (.inl h1)]
      exact ⟨rfl, fin rfl⟩
    · refine stp ?_
      refine C.if (fun h2 => ?_) (fun h2 => ?_)
      · refine stp ?_
        rw [if_pos (.inr h2)]
        exact ⟨rfl, fin rfl⟩
      · refine stp ?_
        rw [if_neg (by omega)]
        exact ⟨rfl, fin rfl⟩
end Go.Proofs.Ytmfaepkmiceoeaa.A

namespace Go.Proofs.Ytmfaepkmiceoeaa.A
open Go Go.Vm
set_option maxRecDepth 10000
set_option linter.unusedVariables false
theorem VCheck_ok {h : Heap} {v : Value} {l : List Val} (hv : Rd h 5 v (vcells l) l.length) :
    Runs Try.prog T0 (.fn fn_zzbQ) [v] h (fun r h' => r = .int .i64 (checkV l) ∧ Fr (fun _ => False) h h') (fun _ _ => False) := by
  obtain ⟨a, cap, rfl, hlen, hc⟩ := hv
  refine zzbQ_runs ?_
  refine stp ?_
  unfold checkV
  refine C.if (fun h0 => ?_) (fun h0 => ?_)
  · refine stp ?_
    rw [if_pos (by omega)]
    exact ⟨rfl, Fr.refl⟩
  rw [if_neg (by omega)]
  refine stp ?_
  refine C.if (fun h1 => ?_) (fun h1 => ?_)
  · refine stp ?_
    rw [if_pos (by omega)]
    exact ⟨rfl, Fr.refl⟩
  rw [if_neg (by omega)]
  obtain ⟨b, o, sp, rfl, hb, hcc⟩ := hc (by omega)
  refine stp ?_
  refine zzbQ_l0_rule (fun m v18 h' => ∃ k : Nat, k ≤ l.length ∧ m = l.length - k ∧ v18 = .int .i64 k ∧ (∃ x : Val, h'.get h.n = .cells (lookC x (decide (0 < k)) 1 4611686018427387904) 0 ∧ (0 < k → lastV l k = some x)) ∧ h.n < h'.n ∧ Fr (fun _ => False) h h' ∧ stepsV 1 none l = stepsV 1 (lastV l k) (l.drop k)) ?_ l.length ⟨0, by omega, rfl, rfl, ⟨zVal, ?_, by omega⟩, by simp, ?_, rfl⟩
  · rintro m v18 h' x2 x5 x6 x19 x20 x21 x22 x23 x24 x25 x26 x27 ⟨k, hk, rfl, rfl, ⟨x, hg, hx⟩, hn, hf, hst⟩
    refine stp ?_
    refine C.if (fun hlt => ?_) (fun hge => ?_)
    · have hlt : k < l.length := by omega
      have hcc' : cellsAt h' b o (l.length * 5) = some (vcells l) := by rw [cellsAt_keep hf hb id]; exact hcc
      haveI := val_cells hcc' rfl hlt
      refine stp ?_
      refine O.call' (at_ok (x := x) (v := l.getD k zVal) (begun := decide (0 < k)) (by rw [Heap.get_push, if_neg (by omega), hg]) (by simp; omega)) (fun r h2 hr => ?_)
      obtain ⟨rfl, hg2, hf2⟩ := hr
      have hn2 := hf2.n
      simp only [Heap.n_push] at hn2
      have hfh : Fr (fun _ => False) h h2 := Fr.trans (S := fun _ => False) hf (Fr.trans (S := fun i => i = h.n) Fr.refl.push hf2 fun i _ hi => hi) fun i hi ho => by omega
      refine stp ?_
      refine C.ifN (fun he => ?_) (fun he => ?_)
      · refine stp ?_
        rw [hst, stepsV_atS hlt hx, if_neg he]
        exact ⟨rfl, hfh⟩
      · refine stp ?_
        refine zzbQ_l0_again (l.length - (k + 1)) (by omega) ⟨k + 1, by omega, rfl, rfl, ⟨l.getD k zVal, by rw [hg2, decide_eq_true (show 0 < k + 1 by omega)], fun _ => rfl⟩, by omega, hfh, ?_⟩
        rw [hst, stepsV_atS hlt hx, if_pos he]
    · obtain rfl : k = l.length := by omega
      refine stp ?_
      rw [hst, List.drop_length]
      exact ⟨rfl, hf⟩
  · rw [Heap.get_push, if_pos rfl]
    rfl
  · exact Fr.refl.push
end Go.Proofs.Ytmfaepkmiceoeaa.A

namespace Go.Proofs.Ytmfaepkmiceoeaa.A
open Go Go.Vm
set_option maxRecDepth 10000
set_option linter.unusedVariables false
theorem putS_fit {lim : Nat} {part : List UInt8} {bs : List UInt8} (h : bs.length + part.length ≤ lim) : putS lim true part ⟨bs, 0⟩ = ⟨bs ++ part, 0⟩ := by
  unfold putS
  rw [if_neg (by simp), if_neg (by simp), if_neg (by simp only; omega)]
end Go.Proofs.Ytmfaepkmiceoeaa.A

namespace Go.Proofs.Ytmfaepkmiceoeaa.A
open Go Go.Vm
set_option maxRecDepth 10000
set_option linter.unusedVariables false
structure PVs (h : Heap) (S : Nat → Prop) (p lim : Nat) (st : WSt) : Prop where
  ex : ∃ sv, PW h 0 p sv st.bs lim st.e ∧ S p ∧ ∀ i, ownedBy sv i → S i
theorem PVs.mk' {h : Heap} {S : Nat → Prop} {p lim : Nat} {bs : List UInt8} {e : Int} {sv : Value} (hp : S p) (ho : ∀ i, ownedBy sv i → S i) (hw : PW h 0 p sv bs lim e) : PVs h S p lim ⟨bs, e⟩ := ⟨sv, hw, hp, ho⟩
def WritesV (h : Heap) (S : Nat → Prop) (p lim : Nat) (st : WSt) (r : Value) (h' : Heap) : Prop := r = .int .i64 st.e ∧ PVs h' S p lim st ∧ Fr S h h'
theorem PVs.keep {S S' : Nat → Prop} {h h' : Heap} {p lim : Nat} {st : WSt} (hw : PVs h S p lim st) (hf : Fr S' h h') (hs : ∀ i, S' i → ¬ S i) : PVs h' S p lim st :=
  let ⟨sv, h1, h2, h3⟩ := hw.ex
  ⟨sv, h1.keep hf (fun h => hs _ h h2) fun i hi h => hs _ h (h3 i hi), h2, h3⟩
theorem PVs.none {S : Nat → Prop} {h h' : Heap} {p lim : Nat} {st : WSt} (hw : PVs h S p lim st) (hf : Fr (fun _ => False) h h') : PVs h' S p lim st := hw.keep hf fun _ h => h.elim
theorem PVs.mono {S S' : Nat → Prop} {h : Heap} {p lim : Nat} {st : WSt} (hw : PVs h S p lim st) (hs : ∀ i, i < h.n → S i → S' i) : PVs h S' p lim st :=
  let ⟨sv, h1, h2, h3⟩ := hw.ex
  ⟨sv, h1, hs _ h1.lt h2, fun i hi => hs i (h1.own.lt hi) (h3 i hi)⟩
theorem PVs.of {h : Heap} {lo p lim : Nat} {st : WSt} (hw : PWs h lo p lim st) : PVs h (fun i => lo ≤ i) p lim st :=
  let ⟨sv, h1⟩ := hw.ex
  ⟨sv, ⟨h1.lt, Nat.zero_le _, h1.get, h1.own, h1.apart, fun _ _ => Nat.zero_le _, h1.small⟩, h1.le, h1.above⟩
theorem PVs.to {h : Heap} {lo p lim : Nat} {st : WSt} (hw : PVs h (fun i => lo ≤ i) p lim st) : PWs h lo p lim st :=
  let ⟨sv, h1, h2, h3⟩ := hw.ex
  ⟨sv, ⟨h1.lt, h2, h1.get, h1.own, h1.apart, h3, h1.small⟩⟩
theorem PVs.lt {h : Heap} {S : Nat → Prop} {p lim : Nat} {st : WSt} (hw : PVs h S p lim st) : p < h.n := let ⟨_, h1, _⟩ := hw.ex; h1.lt
theorem put_okV {h : Heap} {S : Nat → Prop} {p lim : Nat} {st : WSt} {may : Bool} {v : Value} {ls : List (Value × List UInt8)} (hw : PVs h S p lim st) (hS : ∀ i, h.n ≤ i → S i) (hv : Rd h 1 v (ls.map (·.1)) ls.length) (hp : Parts h ls) (hn : ls.length < 1048576) (hs : st.bs.length + (flat ls).length < 1048576) :
    Runs Try.prog T0 (.fn fn_zscQ) [.pointer (some ⟨p, 0, none⟩), .bool may, v] h (WritesV h S p lim (putS lim may (flat ls) st)) (fun _ _ => False) := by
  obtain ⟨bs, e⟩ := st
  obtain ⟨sv, hw, hSp, hSo⟩ := hw.ex
  have hs : bs.length + (flat ls).length < 1048576 := hs
  have hw : PW h 0 p sv bs lim e := hw
  have hlt := hw.lt
  obtain ⟨a0, cap0, rfl, hl0, _⟩ := hw.own.rd
  haveI : HGet h p _ := ⟨hw.get⟩
  refine zscQ_runs ?_
  refine stp ?_
  refine O.call' (Concat_ok hv hp hn (by omega)) (fun r h1 hr => ?_)
  obtain ⟨ho, hnew, hf⟩ := hr
  obtain ⟨a1, cap1, rfl, hl1, _⟩ := ho.rd
  have hw1 := hw.keep hf id fun _ _ => id
  haveI : HGet h1 p _ := ⟨hw1.get⟩
  have hfl : Fr S h h1 := hf.mono fun _ _ h => h.elim
  refine stp ?_
  refine C.ifN (fun he => ?_) (fun he => ?_)
  · refine stp ?_
    unfold putS
    rw [if_pos (by simpa using he)]
    exact ⟨rfl, ⟨_, hw1, hSp, hSo⟩, hfl⟩
  · subst he
    refine stp ?_
    cases may with
    | false =>
      refine stp ?_
      unfold putS
      rw [if_neg (by simp), if_pos rfl]
      refine ⟨rfl, .mk' hSp hSo ⟨by simpa using hw1.lt, Nat.zero_le _, by rw [Heap.get_set, if_pos rfl], hw1.own.keep (S := fun i => i = p) (Fr.refl.set fun _ => rfl) fun i hi hp => hw1.apart (hp ▸ hi), hw1.apart, fun _ _ => Nat.zero_le _, hw1.small⟩, hfl.set fun _ => hSp⟩
    | true =>
      refine stp ?_
      refine C.if (fun hlong => ?_) (fun hfit => ?_)
      · refine stp ?_
        unfold putS
        rw [if_neg (by simp), if_neg (by simp), if_pos (by simp only; omega)]
        refine ⟨rfl, .mk' hSp hSo ⟨by simpa using hw1.lt, Nat.zero_le _, by rw [Heap.get_set, if_pos rfl], hw1.own.keep (S := fun i => i = p) (Fr.refl.set fun _ => rfl) fun i hi hp => hw1.apart (hp ▸ hi), hw1.apart, fun _ _ => Nat.zero_le _, hw1.small⟩, hfl.set fun _ => hSp⟩
      · refine stp ?_
        refine O.append hw1.own (ho.rd.new [.int .u8 0]) (by rw [bcells_len]; omega) (bcells_one _) (by omega) (by omega) (by omega) (fun v' h2 h3 h4 h5 => ?_)
        obtain ⟨a2, cap2, rfl, hl2, _⟩ := h3.rd
        have hp2 : HGet h2 p _ := h4.keep ⟨hw1.get⟩ hw1.lt hw1.apart
        refine stp ?_
        have hnp : ¬ ownedBy (.slice a2 (bs.length + (flat ls).length) cap2) p := fun hi => by
          rcases h5 p hi with h6 | h6
          · exact hw1.apart h6
          · have := hw1.lt; omega
        unfold putS
        rw [if_neg (by simp), if_neg (by simp), if_neg (by simp only; omega)]
        refine ⟨rfl, .mk' (sv := .slice a2 (bs.length + (flat ls).length) cap2) hSp (fun i hi => ?_) ⟨by have := h4.lt hw1.lt; simpa using this, Nat.zero_le _, by rw [Heap.get_set, if_pos rfl], ?_, hnp, fun _ _ => Nat.zero_le _, by simp; omega⟩, Fr.set (Fr.trans (S := S) hfl h4 fun i hi ho' => hSo i ho') fun _ => hSp⟩
        · rcases h5 i hi with h6 | h6
          · exact hSo i h6
          · have := hf.n; exact hS i (by omega)
        · show Own _ 1 (.slice a2 (bs.length + (flat ls).length) cap2) (bcells (bs ++ flat ls)) (bs ++ flat ls).length
          rw [bcells_append, List.length_append]
          exact h3.keep (S := fun i => i = p) (Fr.refl.set fun _ => rfl) fun i hi hp => hnp (hp ▸ hi)
theorem WNum_okV {h : Heap} {S : Nat → Prop} {p lim : Nat} {st : WSt} {n : Int} (hw : PVs h S p lim st) (hS : ∀ i, h.n ≤ i → S i) (hn : n ≤ 9223372036854775807) (hs : st.bs.length + 9 < 1048576) :
    Runs Try.prog T0 (.fn fn_zrcQ) [.pointer (some ⟨p, 0, none⟩), .int .i64 n] h (WritesV h S p lim (putS lim (decide (0 ≤ n)) (numF n.toNat) st)) (fun _ _ => False) := by
  refine zrcQ_runs ?_
  refine stp ?_
  have hm : (if (0 : Int) > n then 0 else n) = ((n.toNat : Nat) : Int) := by split <;> omega
  rw [hm]
  refine O.call' (number_ok (N := n.toNat) (by omega)) (fun r h1 hr => ?_)
  obtain ⟨hrd, hnew, hf⟩ := hr
  have hw1 := hw.none hf
  have hfl := numF_len (n := n.toNat) (by omega)
  obtain ⟨a1, cap1, rfl, hl1, _⟩ := id hrd
  refine stp ?_
  refine O.call' (put_okV (ls := [(.slice a1 (numF n.toNat).length cap1, numF n.toNat)]) (hw1.none Fr.refl.push) (fun i hi => hS i (by have := hf.n; simp at hi; omega)) (rd_lit rfl) ?_ (by simp) (by simp [flat]; omega)) (fun r h2 hr => ?_)
  · intro q hq
    simp at hq
    subst hq
    exact hrd.keep (S := fun _ => False) Fr.refl.push fun _ _ => id
  · refine stp ?_
    rw [show flat [(Value.slice a1 (numF n.toNat).length cap1, numF n.toNat)] = numF n.toNat from by simp [flat]] at hr
    exact ⟨hr.1, hr.2.1, Fr.trans (S := S) (hf.mono fun _ _ h => h.elim) (Fr.trans (S := S) Fr.refl.push hr.2.2 fun _ _ h => h) fun _ _ h => h⟩
theorem WKey_okV {h : Heap} {S : Nat → Prop} {p lim : Nat} {st : WSt} {v : Val} (hw : PVs h S p lim st) (hS : ∀ i, h.n ≤ i → S i) (hs : st.bs.length + 4 < 1048576) :
    Runs Try.prog T0 (.fn fn_zqcQ) [.pointer (some ⟨p, 0, none⟩), .agg ⟨[.int .u8 v.k0.toNat, .int .u8 v.k1.toNat, .int .u8 v.k2.toNat, .int .u8 v.k3.toNat]⟩] h (WritesV h S p lim (putS lim true v.key st)) (fun _ _ => False) := by
  refine zqcQ_runs ?_
  refine stp ?_
  refine O.call' (put_okV (ls := [(.slice (some ⟨h.n, 0, none⟩) 4 4, v.key)]) (hw.none Fr.refl.push.push) (fun i hi => hS i (by simp at hi; omega)) (rd_lit rfl) ?_ (by simp) (by simp [flat]; omega)) (fun r h2 hr => ?_)
  · intro q hq
    simp at hq
    subst hq
    exact (rd_lit (h := h) (c := bcells v.key) (es := 0) (n := 4) rfl).keep (S := fun _ => False) Fr.refl.push fun _ _ => id
  · refine stp ?_
    rw [show flat [(Value.slice (some ⟨h.n, 0, none⟩) 4 4, v.key)] = v.key from by simp [flat]] at hr
    exact ⟨hr.1, hr.2.1, Fr.trans (S := S) Fr.refl.push.push hr.2.2 fun _ _ h => h⟩
end Go.Proofs.Ytmfaepkmiceoeaa.A

namespace Go.Proofs.Ytmfaepkmiceoeaa.A
open Go Go.Vm
set_option maxRecDepth 10000
set_option linter.unusedVariables false
def bodyV (l : List Val) : List UInt8 := l.flatMap fun v => v.key ++ numF v.p.toNat
def encV (l : List Val) : List UInt8 := numF l.length ++ bodyV l
theorem stepsV_range {least : Int} : ∀ {l : List Val} {o : Option Val}, stepsV least o l = 0 → ∀ v ∈ l, least ≤ v.p ∧ v.p ≤ 4611686018427387904
  | [], _, _, _, h => by cases h
  | v :: l, o, h, w, hw => by
    have key : ∀ b : Bool, (if b = true then (9 : Int) else if v.p < least ∨ 4611686018427387904 < v.p then 3 else stepsV least (some v) l) = 0 → least ≤ w.p ∧ w.p ≤ 4611686018427387904 := by
      intro b h
      by_cases hA : b = true
      · rw [if_pos hA] at h; cases h
      · rw [if_neg hA] at h
        by_cases hB : v.p < least ∨ 4611686018427387904 < v.p
        · rw [if_pos hB] at h; cases h
        · rw [if_neg hB] at h
          rcases List.mem_cons.1 hw with rfl | hw
          · omega
          · exact stepsV_range h w hw
    exact key _ h
theorem checkV_ok {l : List Val} (h : checkV l = 0) : 0 < l.length ∧ l.length ≤ 64 ∧ stepsV 1 none l = 0 ∧ ∀ v ∈ l, 1 ≤ v.p ∧ v.p ≤ 4611686018427387904 := by
  unfold checkV at h
  split at h
  · cases h
  · split at h
    · cases h
    · exact ⟨by omega, by omega, h, stepsV_range h⟩
theorem bodyV_len : ∀ {l : List Val}, (∀ v ∈ l, 1 ≤ v.p ∧ v.p ≤ 4611686018427387904) → (bodyV l).length ≤ l.length * 13
  | [], _ => by simp [bodyV]
  | v :: l, h => by
    have h1 := bodyV_len (l := l) fun w hw => h w (by simp [hw])
    have h2 := h v (by simp)
    have h3 := numF_len (n := v.p.toNat) (by omega)
    simp only [bodyV, List.flatMap_cons, List.length_append, List.length_cons, List.length_nil] at h1 ⊢
    omega
theorem bodyV_take {l : List Val} {k : Nat} (hk : k < l.length) : bodyV (l.take (k + 1)) = bodyV (l.take k) ++ ((l.getD k zVal).key ++ numF (l.getD k zVal).p.toNat) := by
  have : l.take (k + 1) = l.take k ++ [l.getD k zVal] := by
    rw [List.take_succ_eq_append_getElem hk]
    simp [List.getD, hk]
  rw [this]
  simp [bodyV]
theorem encV_len {l : List Val} (h : checkV l = 0) : (encV l).length ≤ 841 := by
  obtain ⟨h1, h2, _, h3⟩ := checkV_ok h
  have h4 := bodyV_len h3
  have h5 := numF_len (n := l.length) (by omega)
  unfold encV
  rw [List.length_append]
  omega
theorem getD_mem {l : List Val} {k : Nat} (hk : k < l.length) : l.getD k zVal ∈ l := by
  simp [List.getD, hk]
theorem VEncode_ok {h : Heap} {v : Value} {l : List Val} (hv : Rd h 5 v (vcells l) l.length) : Runs Try.prog T0 (.fn fn_zacQ) [v] h
    (fun r h' => ∃ w, r = .tuple ⟨[w, .int .i64 (checkV l)]⟩ ∧ Own h' 1 w (bcells (if checkV l = 0 then encV l else [])) (if checkV l = 0 then encV l else []).length ∧ (∀ i, ownedBy w i → h.n ≤ i) ∧ Fr (fun _ => False) h h') (fun _ _ => False) := by
  have k1 := VCheck_ok hv
  obtain ⟨a, cap, rfl, hlen, hc⟩ := hv
  refine zacQ_runs ?_
  refine stp ?_
  refine O.call' k1 (fun r h1 hr => ?_)
  obtain ⟨rfl, hf1⟩ := hr
  have hn1 := hf1.n
  refine stp ?_
  refine C.ifN (fun hc => ?_) (fun hz => ?_)
  · refine stp ?_
    rw [if_neg hc]
    exact ⟨_, rfl, .none, fun i h => h.elim, hf1⟩
  · refine stp ?_
    obtain ⟨c1, c2, c3, c4⟩ := checkV_ok hz
    obtain ⟨b, o, sp, rfl, hb, hcc⟩ := hc (by omega)
    have hnl := numF_len (n := l.length) (by omega)
    refine O.call' (NewWriter_ok (lim := 1048576) (by omega)) (fun r h2 hr => ?_)
    obtain ⟨rfl, hw2, hf2⟩ := hr
    have hn2 := hf2.n
    refine stp ?_
    refine O.call' (WNum_ok hw2 (by omega) (by simp only [List.length_nil]; omega)) (fun r h3 hr => ?_)
    obtain ⟨rfl, hw3, hf3⟩ := hr
    have hn3 := hf3.n
    rw [decide_eq_true (by omega), putS_fit (by simp only [List.length_nil, Int.toNat_natCast]; omega), List.nil_append, Int.toNat_natCast] at hw3
    have f13 : Fr (fun i => h1.n ≤ i) h1 h3 := (hf2.mono fun _ _ h => h.elim).trans' hf3
    have f03 : Fr (fun i => h1.n ≤ i) h h3 := Fr.trans (S := fun i => h1.n ≤ i) (hf1.mono fun _ _ h => h.elim) f13 fun _ _ h => h
    refine stp ?_
    refine zacQ_l0_rule (fun m v24 h' => ∃ k : Nat, k ≤ l.length ∧ m = l.length - k ∧ v24 = .int .i64 k ∧ PVs h' (fun i => h1.n ≤ i) h1.n 1048576 ⟨numF l.length ++ bodyV (l.take k), 0⟩ ∧ Fr (fun i => h1.n ≤ i) h h') ?_ l.length ⟨0, by omega, rfl, rfl, by simpa [bodyV] using PVs.of hw3, f03⟩
    rintro m v24 h' x8 x25 x26 x27 x28 x29 x30 x31 x32 x33 x34 x35 x36 ⟨k, hk, rfl, rfl, hw, hf⟩
    refine stp ?_
    refine C.if (fun hlt => ?_) (fun hge => ?_)
    · have hlt : k < l.length := by omega
      have hcc' : cellsAt h' b o (l.length * 5) = some (vcells l) := by rw [cellsAt_keep hf hb (by omega)]; exact hcc
      haveI := val_cells hcc' rfl hlt
      have hr := c4 _ (getD_mem hlt)
      have hbl := bodyV_len (l := l.take k) fun v hv => c4 v (List.mem_of_mem_take hv)
      rw [List.length_take] at hbl
      have hmin : min k l.length = k := by omega
      rw [hmin] at hbl
      have hpl := numF_len (n := (l.getD k zVal).p.toNat) (by omega)
      refine stp ?_
      have hlt' := hw.lt
      have hS : ∀ i, (h'.push (.cells (l.getD k zVal).cells 0)).n ≤ i → h1.n ≤ i ∧ i ≠ h'.n := fun i hi => by simp at hi; omega
      have hw0 : PVs (h'.push (.cells (l.getD k zVal).cells 0)) (fun i => h1.n ≤ i ∧ i ≠ h'.n) h1.n 1048576 ⟨numF l.length ++ bodyV (l.take k), 0⟩ := (hw.mono fun i hi hs => ⟨hs, by omega⟩).none Fr.refl.push
      refine O.call' (WKey_okV (v := l.getD k zVal) hw0 hS (by simp only [List.length_append]; omega)) (fun r h4 hr => ?_)
      obtain ⟨rfl, hw4, hf4⟩ := hr
      rw [putS_fit (by simp only [List.length_append, List.length_cons, List.length_nil]; omega)] at hw4
      have hn4 := hf4.n
      have hq4 : HGet h4 h'.n (.cells (l.getD k zVal).cells 0) := hf4.keep HGet.new (by simp) (by simp)
      haveI := hq4
      simp only [Heap.n_push] at hn4
      refine stp ?_
      refine O.call' (WNum_okV hw4 (fun i hi => by omega) (by omega) (by simp only [List.length_append, List.length_cons, List.length_nil]; omega)) (fun r h5 hr => ?_)
      obtain ⟨rfl, hw5, hf5⟩ := hr
      rw [decide_eq_true (by omega), putS_fit (by simp only [List.length_append, List.length_cons, List.length_nil]; omega)] at hw5
      refine stp ?_
      refine zacQ_l0_again (l.length - (k + 1)) (by omega) ⟨k + 1, by omega, rfl, rfl, ?_, ?_⟩
      · rw [bodyV_take hlt, ← List.append_assoc, ← List.append_assoc]
        exact hw5.mono fun i _ hs => hs.1
      · exact Fr.trans (S := fun i => h1.n ≤ i) hf ((Fr.trans (S := fun i => h1.n ≤ i ∧ i ≠ h'.n) Fr.refl.push (hf4.trans' hf5) fun _ _ h => h).mono fun _ _ h => h.1) fun _ _ h => h
    · obtain rfl : k = l.length := by omega
      rw [List.take_length] at hw
      refine stp ?_
      refine O.call' (Done_ok hw.to) (fun r h4 hr => ?_)
      obtain ⟨w, rfl, ho, hnew, hf4⟩ := hr
      refine stp ?_
      rw [hz] at *
      rw [if_pos rfl]
      refine ⟨w, rfl, by simpa [encV] using ho, fun i hi => ?_, Fr.trans (S := fun _ => False) (S' := fun i => h1.n ≤ i) Fr.refl (hf.trans' (hf4.mono fun _ _ h => h.elim)) fun i hi h => by omega⟩
      have := hnew i hi
      have := hf.n
      omega
end Go.Proofs.Ytmfaepkmiceoeaa.A

namespace Go.Proofs.Ytmfaepkmiceoeaa.A
open Go Go.Vm
set_option maxRecDepth 10000
set_option linter.unusedVariables false
class WLen (v : List UInt32) (n : outParam Nat) : Prop where
  eq : v.length = n
instance {v : List UInt32} {n i : Nat} {w : UInt32} [k : WLen v n] : WLen (v.set i w) n := ⟨by simpa using k.eq⟩
instance (priority := 2000) {v : List UInt32} {n : Nat} [k : WLen v n] : Sub (wcells v) 0 n (wcells v) := ⟨by rw [wcells_len, k.eq]; omega, by rw [List.drop_zero, List.take_of_length_le (by rw [wcells_len, k.eq]; omega)]⟩
instance {v : List UInt32} : One (wcells v) := ⟨wcells_one v⟩
instance (priority := 2000) {v : List UInt32} {n : Nat} [k : WLen v n] : LenN (wcells v) n := ⟨by rw [wcells_len, k.eq]⟩
theorem over_words {l : List Value} {v : List UInt32} {n : Nat} (hl : l.length = n) (hv : v.length = n) : Over l 0 (wcells v) (wcells v) := ⟨by rw [wcells_len]; omega, by
  have := over_whole l (wcells v) [] (by rw [wcells_len, hl, hv])
  simpa using this⟩
instance (priority := 2000) {l : List Value} {v : List UInt32} {n : Nat} [j : WLen v n] [k : LenN l n] : Over l 0 (wcells v) (wcells v) := over_words k.eq j.eq
theorem turn_okD {h : Heap} {x : UInt32} {k : Int} (n : Nat) (hn : 0 < n ∧ n < 32) (hk : k = n) :
    Runs Try.prog T0 (.fn fn_zdbQ) [.int .u32 (x.toNat : Nat), .int .u64 k] h (fun r h' => r = .int .u32 ((rr x n).toNat : Nat) ∧ h' = h) (fun _ _ => False) := by
  refine zdbQ_runs ?_
  refine stp ?_
  refine O.how (XOp.shrW n hk hn.2) ?_
  refine stp ?_
  rw [show IntKind.u64.wrap (32 - k) = ((32 - n : Nat) : Int) from by rw [wrap_u64]; omega]
  refine O.how (XOp.shlW (32 - n) rfl (by omega)) ?_
  refine stp ?_
  exact ⟨by rw [rr, UInt32.or_comm], rfl⟩
set_option maxHeartbeats 2000000 in
theorem mix_okD {h : Heap} {v : List UInt32} {a b c d : Nat} {x y : UInt32} (hv : v.length = 16) (ha : a < 16) (hb : b < 16) (hc : c < 16) (hd : d < 16) :
    Runs Try.prog T0 (.fn fn_zbbQ) [.agg ⟨wcells v⟩, .int .i64 (a : Nat), .int .i64 (b : Nat), .int .i64 (c : Nat), .int .i64 (d : Nat), .int .u32 (x.toNat : Nat), .int .u32 (y.toNat : Nat)] h (fun r h' => r = .agg ⟨wcells (mixS v a b c d x y)⟩ ∧ Fr (fun _ => False) h h') (fun _ _ => False) := by
  haveI : WIx v a := ⟨by omega⟩
  haveI : WIx v b := ⟨by omega⟩
  haveI : WIx v c := ⟨by omega⟩
  haveI : WIx v d := ⟨by omega⟩
  haveI : WLen v 16 := ⟨hv⟩
  refine zbbQ_runs ?_
  refine stp ?_
  refine D.callX (turn_okD 16 (by omega) rfl) (fun r h1 hr => ?_) (fun r h1 hr => ?_) (fun _ _ hx => hx.elim)
  · obtain ⟨rfl, rfl⟩ := hr
    exact StabL.ok
  obtain ⟨rfl, rfl⟩ := hr
  refine stp ?_
  refine D.callX (turn_okD 12 (by omega) rfl) (fun r h1 hr => ?_) (fun r h1 hr => ?_) (fun _ _ hx => hx.elim)
  · obtain ⟨rfl, rfl⟩ := hr
    exact StabL.ok
  obtain ⟨rfl, rfl⟩ := hr
  refine stp ?_
  refine D.callX (turn_okD 8 (by omega) rfl) (fun r h1 hr => ?_) (fun r h1 hr => ?_) (fun _ _ hx => hx.elim)
  · obtain ⟨rfl, rfl⟩ := hr
    exact StabL.ok
  obtain ⟨rfl, rfl⟩ := hr
  refine stp ?_
  refine D.callX (turn_okD 7 (by omega) rfl) (fun r h1 hr => ?_) (fun r h1 hr => ?_) (fun _ _ hx => hx.elim)
  · obtain ⟨rfl, rfl⟩ := hr
    exact StabL.ok
  obtain ⟨rfl, rfl⟩ := hr
  refine stp ?_
  exact ⟨by simp only [mixS, UInt32.add_assoc], Fr.set (Fr.set Fr.refl.push.push fun h => absurd h (by simp)) fun h => absurd h (by simp)⟩
end Go.Proofs.Ytmfaepkmiceoeaa.A
