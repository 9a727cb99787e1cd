/- Contracts of functions, over the machine. -/
import Derived.Test.YtmhnddkpiefkhaaQStoreKeeps2
import Derived.Test.YtmhnddkpiefkhaaVK
set_option linter.unusedSimpArgs false
noncomputable section
set_option maxRecDepth 100000
set_option linter.unusedVariables false
namespace Go.Proofs.Ytmhnddkpiefkhaa.A
open Go Go.Vm
abbrev fn_zjQ : FuncId := 4
def zjQ_l0 : ACode :=
 (.seq (.seq (.region [
 o1 68 (.mov (tm 15)),
 o1 69 (.mov (tm 9)),
 o1 70 (.lenSl (tm 69)),
 o1 71 (.bin .lss (so (.binOp .lss 3 (tm 68) (tm 70) 3) 4) (tm 68) (tm 70))]) (.cond (tm 71)
 .skip
 (.exit 3))) (.seq (.block 4 (.seq (.seq (.region [
 o1 74 (.mov (tm 9)),
 o1 75 (.mov (tm 15)),
 o1 76 (.indexSl 3 (tm 74) (tm 75)),
 o1 77 (.fieldAddr 2 (tm 76)),
 o1 78 (.load none (tm 77))]) (.cond (tm 78)
 (.region [
 o1 79 (.mov (tm 13)),
 o1 80 (.bin .add (so (.binOp .add 3 (tm 79) (.const (.int .i64 1)) 3) 3) (tm 79) (.const (.int .i64 1))),
 o1 13 (.mov (tm 80))])
 .skip)) (.seq (.seq (.region [
 o1 81 (.mov (tm 9)),
 o1 82 (.mov (tm 15)),
 o1 83 (.indexSl 3 (tm 81) (tm 82)),
 o1 84 (.fieldAddr 2 (tm 83)),
 o1 85 (.load none (tm 84)),
 o1 86 (.raw (so (.unOp .not 4 (tm 85)) 4)),
 o1 87 (.mov (tm 86)),
 o4 88 (.mov (tm 9)) 87,
 o4 89 (.mov (tm 15)) 87,
 o4 90 (.indexSl 3 (tm 88) (tm 89)) 87,
 o4 91 (.fieldAddr 1 (tm 90)) 87,
 o4 92 (.load none (tm 91)) 87,
 o4 93 (.raw (so (.unOp .not 4 (tm 92)) 4)) 87,
 o1 94 (.pick (tm 87) (tm 93) (.const (.bool false)))]) (.cond (tm 94)
 (.region [
 o1 95 (.mov (tm 14)),
 o1 96 (.bin .add (so (.binOp .add 3 (tm 95) (.const (.int .i64 1)) 3) 3) (tm 95) (.const (.int .i64 1))),
 o1 14 (.mov (tm 96))])
 .skip)) (.seq (.region [
 o1 98 (.mov (tm 12)),
 o1 99 (.mov (tm 9)),
 o1 100 (.mov (tm 15)),
 o1 101 (.indexSl 3 (tm 99) (tm 100)),
 o1 102 (.fieldAddr 0 (tm 101)),
 o1 103 (.load none (tm 102)),
 o1 104 (.callV (.func 22) [(tm 98), (tm 103)]),
 o1 97 (.mov (tm 104)),
 o1 105 (.extract 0 (tm 97)),
 o1 106 (.extract 1 (tm 97)),
 o1 16 (.alloc 47 [(.int .i64 0), (.bool false), (.bool false)]),
 o3 (.store 3 (tm 16) (tm 105)),
 o1 17 (.mov (tm 106))]) (.seq (.regionD [
 o1 107 (.mov (tm 17)),
 o1 108 (.mov (tm 9)),
 o1 109 (.mov (tm 15)),
 o1 110 (.indexSl 3 (tm 108) (tm 109)),
 o1 111 (.fieldAddr 0 (tm 110)),
 o1 112 (.load none (tm 111)),
 o1 113 (.mov (tm 10)),
 o1 114 (.bin .neq (so (.binOp .neq 3 (tm 112) (tm 113) 3) 4) (tm 112) (tm 113)),
 o2 115 (.bin .neq (so (.binOp .neq 4 (tm 107) (tm 114) 4) 4) (tm 107) (tm 114)),
 o2 116 (.mov (tm 115)),
 ⟨some 117, .mov (tm 17), some (116, false), [], true⟩,
 ⟨some 118, .mov (tm 117), some (116, false), [], true⟩,
 o4 119 (.load (some 3) (tm 16)) 118,
 o4 120 (.mov (tm 9)) 118,
 o4 121 (.mov (tm 15)) 118,
 o4 122 (.indexSl 3 (tm 120) (tm 121)) 118,
 o4 123 (.load (some 3) (tm 122)) 118,
 ⟨some 124, .bin .neq (so (.binOp .neq 47 (tm 119) (tm 123) 47) 4) (tm 119) (tm 123), some (118, true), [], true⟩,
 ⟨some 125, .pick (tm 118) (tm 124) (.const (.bool false)), some (116, false), [], true⟩,
 o2 126 (.pick (tm 116) (.const (.bool true)) (tm 125))]) (.cond (tm 126)
 (.seq (.region [
 o1 4 (.mov (.const (.bool false)))]) .ret)
 .skip)))))) (.region [
 o1 72 (.mov (tm 15)),
 o1 73 (.bin .add (so (.binOp .add 3 (tm 72) (.const (.int .i64 1)) 3) 3) (tm 72) (.const (.int .i64 1))),
 o1 15 (.mov (tm 73))])))
def zjQ_l1 : ACode :=
 (.seq (.seq (.region [
 o1 41 (.mov (tm 8)),
 o1 42 (.mov (tm 1)),
 o1 43 (.lenSl (tm 42)),
 o1 44 (.bin .lss (so (.binOp .lss 3 (tm 41) (tm 43) 3) 4) (tm 41) (tm 43))]) (.cond (tm 44)
 .skip
 (.exit 0))) (.seq (.block 1 (.seq (.region [
 o1 47 (.mov (tm 6)),
 o1 48 (.callV (.func 17) [(tm 47)]),
 o1 9 (.mov (tm 48))]) (.seq (.region [
 o1 49 (.mov (tm 1)),
 o1 50 (.mov (tm 8)),
 o1 51 (.indexSl 169 (tm 49) (tm 50)),
 o1 52 (.fieldAddr 0 (tm 51)),
 o1 53 (.load none (tm 52))]) (.block 2 (.seq (.region [
 o1 55 (.bin .eql (so (.binOp .eql 3 (tm 53) k0 3) 4) (tm 53) k0),
 o1 54 (.mov (tm 55))]) (.cond (tm 54)
 (.seq (.region [
 o1 57 (.mov (tm 6)),
 o1 58 (.mov (tm 1)),
 o1 59 (.mov (tm 8)),
 o1 60 (.indexSl 169 (tm 58) (tm 59)),
 o1 61 (.fieldAddr 3 (tm 60)),
 o1 62 (.load (some 166) (tm 61)),
 o1 63 (.callV (.func 21) [(tm 57), (tm 62)]),
 o1 56 (.mov (tm 63)),
 o1 64 (.extract 0 (tm 56)),
 o1 65 (.extract 1 (tm 56)),
 o1 10 (.mov (tm 64)),
 o1 11 (.mov (tm 65))]) (.seq (.region [
 o1 66 (.mov (tm 6)),
 o1 67 (.callV (.func 17) [(tm 66)]),
 o1 12 (.mov (tm 67))]) (.seq (.region [
 o1 13 (.mov k0),
 o1 14 (.mov k0)]) (.seq (.seq (.region [
 o1 15 (.mov k0)]) (.block 3 (.loop zjQ_l0))) (.seq (.region [
 o1 128 (.mov (tm 9)),
 o1 129 (.mov (tm 10)),
 o1 130 (.callV (.func 22) [(tm 128), (tm 129)]),
 o1 127 (.mov (tm 130)),
 o1 131 (.extract 0 (tm 127)),
 o1 132 (.extract 1 (tm 127)),
 o1 18 (.alloc 47 [(.int .i64 0), (.bool false), (.bool false)]),
 o3 (.store 3 (tm 18) (tm 131)),
 o1 19 (.mov (tm 132))]) (.seq (.region [
 o1 133 (.mov (tm 19)),
 o1 134 (.mov (tm 133)),
 o4 135 (.fieldAddr 2 (tm 18)) 134,
 o4 136 (.load none (tm 135)) 134,
 o4 137 (.mov (tm 136)) 134,
 o5 138 (.fieldAddr 1 (tm 18)) 137,
 o5 139 (.load none (tm 138)) 137,
 o5 140 (.mov (tm 139)) 137,
 o4 141 (.mov (tm 14)) 140,
 o4 142 (.bin .gtr (so (.binOp .gtr 3 (tm 141) k0 3) 4) (tm 141) k0) 140,
 o5 143 (.pick (tm 140) (tm 142) (.const (.bool false))) 137,
 o4 144 (.pick (tm 137) (.const (.bool true)) (tm 143)) 134,
 o4 145 (.mov (tm 144)) 134,
 o5 146 (.mov (tm 9)) 145,
 o5 147 (.lenSl (tm 146)) 145,
 o5 148 (.mov (tm 0)) 145,
 o5 149 (.bin .lss (so (.binOp .lss 3 (tm 147) (tm 148) 3) 4) (tm 147) (tm 148)) 145,
 o4 150 (.pick (tm 145) (.const (.bool true)) (tm 149)) 134,
 o1 151 (.pick (tm 134) (tm 150) (.const (.bool false))),
 o1 152 (.mov (tm 151)),
 o5 153 (.mov (tm 11)) 152,
 o5 154 (.bin .eql (so (.binOp .eql 24 (tm 153) (.const (.int .i64 7)) 24) 4) (tm 153) (.const (.int .i64 7))) 152,
 o5 155 (.mov (tm 154)) 152,
 o4 156 (.mov (tm 13)) 155,
 o4 157 (.mov (tm 0)) 155,
 o4 158 (.bin .lss (so (.binOp .lss 3 (tm 156) (tm 157) 3) 4) (tm 156) (tm 157)) 155,
 o4 159 (.mov (tm 158)) 155,
 o5 160 (.mov (tm 10)) 159,
 o5 161 (.bin .neq (so (.binOp .neq 3 (tm 160) k0 3) 4) (tm 160) k0) 159,
 o4 162 (.pick (tm 159) (.const (.bool true)) (tm 161)) 155,
 o5 163 (.pick (tm 155) (tm 162) (.const (.bool false))) 152,
 o1 164 (.pick (tm 152) (.const (.bool true)) (tm 163)),
 o1 165 (.mov (tm 164)),
 o5 166 (.mov (tm 12)) 165,
 o5 167 (.lenSl (tm 166)) 165,
 o5 168 (.mov (tm 0)) 165,
 o5 169 (.bin .gtr (so (.binOp .gtr 3 (tm 167) (tm 168) 3) 4) (tm 167) (tm 168)) 165,
 o1 170 (.pick (tm 165) (.const (.bool true)) (tm 169))]) (.cond (tm 170)
 (.seq (.region [
 o1 4 (.mov (.const (.bool false)))]) .ret)
 .skip)))))))
 (.seq (.region [
 o1 172 (.bin .eql (so (.binOp .eql 3 (tm 53) (.const (.int .i64 1)) 3) 4) (tm 53) (.const (.int .i64 1))),
 o1 171 (.mov (tm 172))]) (.cond (tm 171)
 (.regionD [
 o1 173 (.mov (tm 6)),
 o1 174 (.mov (tm 1)),
 o1 175 (.mov (tm 8)),
 o1 176 (.indexSl 169 (tm 174) (tm 175)),
 o1 177 (.fieldAddr 1 (tm 176)),
 o1 178 (.load none (tm 177)),
 o1 179 (.mov (tm 1)),
 o1 180 (.mov (tm 8)),
 o1 181 (.indexSl 169 (tm 179) (tm 180)),
 o1 182 (.fieldAddr 2 (tm 181)),
 o1 183 (.load none (tm 182)),
 o2 184 (.callV (.func 12) [(tm 173), (tm 178), (tm 183)])])
 (.seq (.region [
 o1 186 (.bin .eql (so (.binOp .eql 3 (tm 53) (.const (.int .i64 2)) 3) 4) (tm 53) (.const (.int .i64 2))),
 o1 185 (.mov (tm 186))]) (.cond (tm 185)
 (.region [
 o1 187 (.mov (tm 6)),
 o1 188 (.mov (tm 1)),
 o1 189 (.mov (tm 8)),
 o1 190 (.indexSl 169 (tm 188) (tm 189)),
 o1 191 (.fieldAddr 1 (tm 190)),
 o1 192 (.load none (tm 191)),
 o1 193 (.callV (.func 18) [(tm 187), (tm 192)])])
 (.seq (.region [
 o1 195 (.bin .eql (so (.binOp .eql 3 (tm 53) (.const (.int .i64 3)) 3) 4) (tm 53) (.const (.int .i64 3))),
 o1 194 (.mov (tm 195))]) (.cond (tm 194)
 (.seq (.region [
 o1 196 (.mov (tm 6)),
 o1 197 (.mov (tm 1)),
 o1 198 (.mov (tm 8)),
 o1 199 (.indexSl 169 (tm 197) (tm 198)),
 o1 200 (.fieldAddr 1 (tm 199)),
 o1 201 (.load none (tm 200)),
 o1 202 (.callV (.func 13) [(tm 196), (tm 201)])]) (.seq (.region [
 o1 204 (.mov (tm 9)),
 o1 205 (.mov (tm 1)),
 o1 206 (.mov (tm 8)),
 o1 207 (.indexSl 169 (tm 205) (tm 206)),
 o1 208 (.fieldAddr 1 (tm 207)),
 o1 209 (.load none (tm 208)),
 o1 210 (.callV (.func 22) [(tm 204), (tm 209)]),
 o1 203 (.mov (tm 210)),
 o1 211 (.extract 0 (tm 203)),
 o1 212 (.extract 1 (tm 203)),
 o1 20 (.alloc 47 [(.int .i64 0), (.bool false), (.bool false)]),
 o3 (.store 3 (tm 20) (tm 211)),
 o1 21 (.mov (tm 212))]) (.seq (.region [
 o1 213 (.mov (tm 6)),
 o1 214 (.callV (.func 17) [(tm 213)]),
 o1 22 (.mov (tm 214))]) (.seq (.region [
 o1 215 (.mov (tm 21)),
 o1 216 (.mov (tm 215)),
 o4 217 (.mov (tm 22)) 216,
 o4 218 (.load (some 3) (tm 20)) 216,
 o4 219 (.buildSlice 47 [(.int .i64 0), (.bool false), (.bool false)] 1 [(0, 3, (tm 218))]) 216,
 o4 220 (.callV (.func 16) [(tm 217), (tm 219)]) 216,
 o4 221 (.raw (so (.unOp .not 4 (tm 220)) 4)) 216,
 o1 222 (.pick (tm 216) (tm 221) (.const (.bool false))),
 o1 223 (.mov (tm 222)),
 o5 224 (.mov (tm 21)) 223,
 o5 225 (.raw (so (.unOp .not 4 (tm 224)) 4)) 223,
 o5 226 (.mov (tm 225)) 223,
 o4 227 (.mov (tm 22)) 226,
 o4 228 (.lenSl (tm 227)) 226,
 o4 229 (.bin .gtr (so (.binOp .gtr 3 (tm 228) k0 3) 4) (tm 228) k0) 226,
 o5 230 (.pick (tm 226) (tm 229) (.const (.bool false))) 223,
 o1 231 (.pick (tm 223) (.const (.bool true)) (tm 230))]) (.cond (tm 231)
 (.seq (.region [
 o1 4 (.mov (.const (.bool false)))]) .ret)
 .skip)))))
 .skip)))))))))))) (.region [
 o1 45 (.mov (tm 8)),
 o1 46 (.bin .add (so (.binOp .add 3 (tm 45) (.const (.int .i64 1)) 3) 3) (tm 45) (.const (.int .i64 1))),
 o1 8 (.mov (tm 46))])))
def zjQ_c : ACode :=
 (.seq (.region [
 o1 4 (.mov (.const (.bool false)))]) (.seq (.region [
 o1 23 (.callV (.func 3) []),
 o1 5 (.mov (tm 23))]) (.seq (.seq (.region [
 o1 24 (.mov (tm 1)),
 o1 25 (.callV (.func 19) [(tm 24)])]) (.cond (tm 25)
 (.seq (.region [
 o1 26 (.mov (tm 5)),
 o1 4 (.mov (tm 26))]) .ret)
 .skip)) (.seq (.region [
 o1 27 (.mov (tm 0)),
 o1 28 (.callV (.func 20) [(tm 27), (.const (.int .i64 12))]),
 o1 29 (.bin .add (so (.binOp .add 3 (.const (.int .i64 1)) (tm 28) 3) 3) (.const (.int .i64 1)) (tm 28)),
 o1 0 (.mov (tm 29))]) (.seq (.region [
 o1 31 (.mov (tm 0)),
 o1 32 (.callV (.func 9) [(tm 31)]),
 o1 30 (.mov (tm 32)),
 o1 33 (.extract 0 (tm 30)),
 o1 34 (.extract 1 (tm 30)),
 o1 6 (.mov (tm 33)),
 o1 7 (.mov (tm 34))]) (.seq (.seq (.region [
 o1 35 (.mov (tm 7)),
 o1 36 (.bin .neq (so (.binOp .neq 24 (tm 35) k0 24) 4) (tm 35) k0),
 o1 37 (.mov (tm 36)),
 o5 38 (.mov (tm 6)) 37,
 o5 39 (.eq .ptr false (so (.binOp .eql 22 (tm 38) (.const (.pointer none)) 22) 4) (tm 38) (.const (.pointer none))) 37,
 o1 40 (.pick (tm 37) (.const (.bool true)) (tm 39))]) (.cond (tm 40)
 (.seq (.region [
 o1 4 (.mov (.const (.bool false)))]) .ret)
 .skip)) (.seq (.seq (.region [
 o1 8 (.mov k0)]) (.block 0 (.loop zjQ_l1))) (.seq (.region [
 o1 232 (.mov (tm 5)),
 o1 4 (.mov (tm 232))]) .ret))))))))
def zjQ : AFunc := ⟨233, [(4, none)], zjQ_c, none⟩
theorem zjQ_t0 : tableOf Try.prog 4 = some zjQ := by kernel_rfl
theorem zjQ_t : T0 4 = some zjQ := withKept_t rfl (withTrue_t rfl zjQ_t0)
theorem zjQ_runs {v0 v1 : Value} {h : Heap} {R : RP} {X : XP} (k : RunC Try.prog T0 zjQ_c ⟨[v0, v1, U, U, U, U, U, U, U, U, U, U, U, U, U, U, U, U, U, U, U, U, U, U, U, U, U, U, U, U, U, U, U, U, U, U, U, U, U, U, U, U, U, U, U, U, U, U, U, U, U, U, U, U, U, U, U, U, U, U, U, U, U, U, U, U, U, U, U, U, U, U, U, U, U, U, U, U, U, U, U, U, U, U, U, U, U, U, U, U, U, U, U, U, U, U, U, U, U, U, U, U, U, U, U, U, U, U, U, U, U, U, U, U, U, U, U, U, U, U, U, U, U, U, U, U, U, U, U, U, U, U, U, U, U, U, U, U, U, U, U, U, U, U, U, U, U, U, U, U, U, U, U, U, U, U, U, U, U, U, U, U, U, U, U, U, U, U, U, U, U, U, U, U, U, U, U, U, U, U, U, U, U, U, U, U, U, U, U, U, U, U, U, U, U, U, U, U, U, U, U, U, U, U, U, U, U, U, U, U, U, U, U, U, U, U, U, U, U, U, U, U, U, U, U, U, U, U, U, U, U, U, U], [], h, none⟩ (bodyQ Try.prog T0 [(4, none)] R X)) :
 Runs Try.prog T0 (.fn 4) [v0, v1] h R X := Runs.fn zjQ_t rfl k
abbrev zjQ_l0_M : List Nat := [0, 0, 0, 0, 1, 0, 0, 0, 0, 0, 0, 0, 0, 2, 2, 2, 1, 1, 0, 0, 0, 0, 0, 0, 0, 0, 0, 0, 0, 0, 0, 0, 0, 0, 0, 0, 0, 0, 0, 0, 0, 0, 0, 0, 0, 0, 0, 0, 0, 0, 0, 0, 0, 0, 0, 0, 0, 0, 0, 0, 0, 0, 0, 0, 0, 0, 0, 0, 1, 1, 1, 1, 1, 1, 1, 1, 1, 1, 1, 1, 1, 1, 1, 1, 1, 1, 1, 1, 1, 1, 1, 1, 1, 1, 1, 1, 1, 1, 1, 1, 1, 1, 1, 1, 1, 1, 1, 1, 1, 1, 1, 1, 1, 1, 1, 1, 1, 1, 1, 1, 1, 1, 1, 1, 1, 1, 1, 0, 0, 0, 0, 0, 0, 0, 0, 0, 0, 0, 0, 0, 0, 0, 0, 0, 0, 0, 0, 0, 0, 0, 0, 0, 0, 0, 0, 0, 0, 0, 0, 0, 0, 0, 0, 0, 0, 0, 0, 0, 0, 0, 0, 0, 0, 0, 0, 0, 0, 0, 0, 0, 0, 0, 0, 0, 0, 0, 0, 0, 0, 0, 0, 0, 0, 0, 0, 0, 0, 0, 0, 0, 0, 0, 0, 0, 0, 0, 0, 0, 0, 0, 0, 0, 0, 0, 0, 0, 0, 0, 0, 0, 0, 0, 0, 0, 0, 0, 0, 0, 0, 0, 0, 0, 0]
abbrev zjQ_l1_M : List Nat := [0, 0, 0, 0, 1, 0, 0, 0, 2, 1, 1, 1, 1, 1, 1, 1, 1, 1, 1, 1, 1, 1, 1, 0, 0, 0, 0, 0, 0, 0, 0, 0, 0, 0, 0, 0, 0, 0, 0, 0, 0, 1, 1, 1, 1, 1, 1, 1, 1, 1, 1, 1, 1, 1, 1, 1, 1, 1, 1, 1, 1, 1, 1, 1, 1, 1, 1, 1, 1, 1, 1, 1, 1, 1, 1, 1, 1, 1, 1, 1, 1, 1, 1, 1, 1, 1, 1, 1, 1, 1, 1, 1, 1, 1, 1, 1, 1, 1, 1, 1, 1, 1, 1, 1, 1, 1, 1, 1, 1, 1, 1, 1, 1, 1, 1, 1, 1, 1, 1, 1, 1, 1, 1, 1, 1, 1, 1, 1, 1, 1, 1, 1, 1, 1, 1, 1, 1, 1, 1, 1, 1, 1, 1, 1, 1, 1, 1, 1, 1, 1, 1, 1, 1, 1, 1, 1, 1, 1, 1, 1, 1, 1, 1, 1, 1, 1, 1, 1, 1, 1, 1, 1, 1, 1, 1, 1, 1, 1, 1, 1, 1, 1, 1, 1, 1, 1, 1, 1, 1, 1, 1, 1, 1, 1, 1, 1, 1, 1, 1, 1, 1, 1, 1, 1, 1, 1, 1, 1, 1, 1, 1, 1, 1, 1, 1, 1, 1, 1, 1, 1, 1, 1, 1, 1, 1, 1, 1, 1, 1, 1, 1, 1, 0]
end Go.Proofs.Ytmhnddkpiefkhaa.A

namespace Go.Proofs.Ytmhnddkpiefkhaa.A
open Go Go.Vm
set_option maxRecDepth 10000
set_option linter.unusedVariables false
set_option linter.unusedSimpArgs false
set_option maxHeartbeats 16000000 in
theorem StoreKeeps_true {h : Heap} {n : Int} {w : Value} {l : List AC} (hv : Rd h 169 w (acells l) l.length) (hl : ∀ a ∈ l, BkRd h a.b a.sv a.sl) :
    Runs Try.prog T0 (.fn fn_zjQ) [.int .i64 n, w] h (fun r h' => r = .bool true) (fun _ _ => False) := by
  obtain ⟨aw, cw, rfl, hwl, hwc⟩ := id hv
  refine zjQ_runs ?_
  refine stp ?_
  refine O.call' zkQ_known (fun r h hr => ?_)
  obtain ⟨rfl, rfl⟩ := hr
  refine stp ?_
  refine O.call' (long_ok hv hl) (fun r h1 hr => ?_)
  obtain ⟨⟨b, rfl, hlong⟩, f1⟩ := hr
  cases b with
  | true =>
    refine stp ?_
    rfl
  | false =>
  obtain ⟨hl40, hacts⟩ := hlong rfl
  refine stp ?_
  refine O.call' (Pick_ok (by decide)) (fun r h2 hr => ?_)
  obtain ⟨rfl, rfl⟩ := hr
  have hpk : 0 ≤ pickS n 12 ∧ pickS n 12 < 12 := by
    unfold pickS
    rw [if_neg (by decide)]
    exact ⟨Int.emod_nonneg _ (by decide), Int.emod_lt_of_pos _ (by decide)⟩
  generalize pickS n 12 = pk at *
  refine stp ?_
  refine O.call' SNew_ok (fun r h3 hr => ?_)
  obtain ⟨f3, hr⟩ := hr
  rcases hr with ⟨hbad, _⟩ | ⟨hroom, rfl, hs3⟩
  · omega
  have F3 := f1.trans' f3
  have hge : h.n ≤ h2.n := f1.n
  have hp0 : h.n ≤ h2.n + 1 := by omega
  generalize hP : h2.n + 1 = p at *
  generalize hM : h2.n = m at *
  generalize hR : 1 + pk = room at *
  refine stp ?_
  have hinv0 : InvS room [] := ⟨by simp; omega, by simp, by simp⟩
  have hmp : ∀ j, Mine p m [] j → h.n ≤ j := fun j hj => by
    rcases hj with h5 | h5 | ⟨_, h5, _⟩
    · omega
    · omega
    · exact absurd h5 (by simp)
  refine loop1 zjQ_l1_M 8 (fun q v8 hx => ∃ (i c : Nat) (L : List SE), i ≤ l.length ∧ q = l.length - i ∧ v8 = .int .i64 i ∧ StAt hx p m c room L ∧ InvS room L ∧ (∀ j, Mine p m L j → h.n ≤ j) ∧ Fr (fun _ => False) h hx) ?_ l.length ⟨0, 0, [], by omega, rfl, rfl, hs3, hinv0, hmp, F3⟩
  rintro m v8 h' x4 x9 x10 x11 x12 x13 x14 x15 x16 x17 x18 x19 x20 x21 x22 x41 x42 x43 x44 x45 x46 x47 x48 x49 x50 x51 x52 x53 x54 x55 x56 x57 x58 x59 x60 x61 x62 x63 x64 x65 x66 x67 x68 x69 x70 x71 x72 x73 x74 x75 x76 x77 x78 x79 x80 x81 x82 x83 x84 x85 x86 x87 x88 x89 x90 x91 x92 x93 x94 x95 x96 x97 x98 x99 x100 x101 x102 x103 x104 x105 x106 x107 x108 x109 x110 x111 x112 x113 x114 x115 x116 x117 x118 x119 x120 x121 x122 x123 x124 x125 x126 x127 x128 x129 x130 x131 x132 x133 x134 x135 x136 x137 x138 x139 x140 x141 x142 x143 x144 x145 x146 x147 x148 x149 x150 x151 x152 x153 x154 x155 x156 x157 x158 x159 x160 x161 x162 x163 x164 x165 x166 x167 x168 x169 x170 x171 x172 x173 x174 x175 x176 x177 x178 x179 x180 x181 x182 x183 x184 x185 x186 x187 x188 x189 x190 x191 x192 x193 x194 x195 x196 x197 x198 x199 x200 x201 x202 x203 x204 x205 x206 x207 x208 x209 x210 x211 x212 x213 x214 x215 x216 x217 x218 x219 x220 x221 x222 x223 x224 x225 x226 x227 x228 x229 x230 x231 ⟨i, c, L, hi, rfl, rfl, hs, hinv, hown, hF⟩
  refine stp ?_
  refine C.if (fun hlt => ?_) (fun hge => ?_)
  case refine_2 =>
    refine stp ?_
    rfl
  have hlt : i < l.length := by omega
  obtain ⟨b, o, sp, rfl, hb, hcc⟩ := hwc (by omega)
  have hLl : L.length < 100000 := by have := hinv.le; omega
  refine stp ?_
  refine O.call' (List_ok hs hLl) (fun r h4 hr => ?_)
  obtain ⟨L1, hL1, _, oA, nA, f4⟩ := hr
  have hA : Shows L (L1.map SE.kk) := Shows.of hinv.nd hL1
  have hAl : (L1.map SE.kk).length < 100000 := by rw [hA.len]; exact hLl
  generalize L1.map SE.kk = A at *
  have hs4 := hs.keep f4 fun _ _ => id
  have F4 := hF.trans' f4
  have n4 := f4.n
  have nF4 := F4.n
  have hcc4 : cellsAt h4 b o (l.length * 169) = some (acells l) := (cellsAt_keep F4 hb id).trans hcc
  have cK := act_cell (i := 0) hl hcc4 rfl hlt (by omega) rfl
  have cH := act_cell (i := 1) hl hcc4 rfl hlt (by omega) rfl
  have cI := act_cell (i := 2) hl hcc4 rfl hlt (by omega) rfl
  have cB := act_block hl hcc4 rfl hlt
  have hm := hl _ (act_mem hlt)
  have hao := hacts _ (act_mem hlt)
  have hblk : ∀ j, blockOf (l.getD i zAC).sv j ∨ blockOf (l.getD i zAC).sl j → j < h.n := fun j hj => hj.elim (Rd.block_lt hm.sv) (Rd.block_lt hm.sl)
  generalize hAC : l.getD i zAC = X at *
  rw [Nat.add_zero] at cK
  haveI := cK
  haveI := cH
  haveI := cI
  haveI := cB
  obtain ⟨aA, cA, rfl, hlA, hcA⟩ := id oA.rd
  have hmm : h.n ≤ m := hown m (.inr (.inl rfl))
  have hml := hs.ml
  refine stp ?_
  refine C.if (fun hk0 => ?_) (fun hk0 => ?_)
  · refine stp ?_
    refine O.call' (Put_ok hs4 hLl (hm.keep F4 fun _ _ => id) hao.2.1 hao.1 (fun j hj => by have := hblk j hj; omega)) (fun r h5 hr => ?_)
    obtain ⟨gone, e, L', c', rfl, hrel, hs5, f5, hmine⟩ := hr
    have hinv5 := put_inv hrel hinv
    have hL5 : L'.length < 100000 := by have := hinv5.le; omega
    have oA5 := oA.keep f5 fun j hj e => by have := nA j hj; omega
    have F5 : Fr (fun _ => False) h h5 := F4.trans f5 fun j hj e => by omega
    have n5 := f5.n
    refine stp ?_
    refine O.call' (List_ok hs5 hL5) (fun r h6 hr => ?_)
    obtain ⟨L2, hL2, _, oB, nB, f6⟩ := hr
    have hB : Shows L' (L2.map SE.kk) := Shows.of hinv5.nd hL2
    have hBl : (L2.map SE.kk).length < 100000 := by rw [hB.len]; exact hL5
    generalize L2.map SE.kk = B at *
    have hs6 := hs5.keep f6 fun _ _ => id
    have F6 := F5.trans' f6
    have oA6 := oA5.keep f6 fun _ _ => id
    have hhas := put_has hrel hinv hA hB
    obtain ⟨aB, cB', rfl, hlB, hcB⟩ := id oB.rd
    refine stp ?_
    refine loop3 zjQ_l0_M 13 14 15 (fun q v13 v14 v15 hx => ∃ k : Nat, k ≤ A.length ∧ q = A.length - k ∧ v13 = .int .i64 (cntP (A.take k) : Nat) ∧ v14 = .int .i64 (cntN (A.take k) : Nat) ∧ v15 = .int .i64 k ∧ Fr (fun _ => False) h6 hx) ?_ A.length ⟨0, by omega, rfl, rfl, rfl, rfl, Fr.refl⟩
    rintro m v13 v14 v15 h' x4 x16 x17 x68 x69 x70 x71 x72 x73 x74 x75 x76 x77 x78 x79 x80 x81 x82 x83 x84 x85 x86 x87 x88 x89 x90 x91 x92 x93 x94 x95 x96 x97 x98 x99 x100 x101 x102 x103 x104 x105 x106 x107 x108 x109 x110 x111 x112 x113 x114 x115 x116 x117 x118 x119 x120 x121 x122 x123 x124 x125 x126 ⟨k, hk, rfl, rfl, rfl, rfl, hG⟩
    have hcn := cnt_le A k
    refine stp ?_
    refine C.if (fun hlt2 => ?_) (fun hge2 => ?_)
    · have hlt2 : k < A.length := by omega
      have oAx := (oA6.keep hG fun _ _ => id).rd
      have oBx := (oB.keep hG fun _ _ => id).rd
      obtain ⟨_, _, e1, _, hcx⟩ := id oAx
      obtain ⟨bA, kA, sA, e2, hbA, hccA⟩ := hcx (by omega)
      injection e1 with e1 _ _
      rw [e2] at e1
      subst e1
      have sP := cntP_step hlt2
      have sN := cntN_step hlt2
      have hmemA : A.getD k ⟨0, false, false⟩ ∈ A := by
        rw [List.getD_eq_getElem?_getD, List.getElem?_eq_getElem hlt2]
        exact List.getElem_mem hlt2
      have hEk := hhas _ hmemA
      have dAll : ∀ {hx : Heap}, cellsAt hx bA kA (A.length * 3) = some (kkcells A) → Cell hx bA (kA + k * 3 + 0) (.int .i64 (A.getD k ⟨0, false, false⟩).k) ∧ Cell hx bA (kA + k * 3 + 1) (.bool (A.getD k ⟨0, false, false⟩).v) ∧ Cell hx bA (kA + k * 3 + 2) (.bool (A.getD k ⟨0, false, false⟩).p) ∧ Cells hx bA (kA + k * 3) 3 (A.getD k ⟨0, false, false⟩).cells :=
        fun hc => ⟨kk_cell hc rfl hlt2 (by omega) rfl, kk_cell hc rfl hlt2 (by omega) rfl, kk_cell hc rfl hlt2 (by omega) rfl, kk_cells hc rfl hlt2⟩
      simp only [Nat.add_zero] at dAll
      generalize A.getD k ⟨0, false, false⟩ = E at *
      obtain ⟨ek, ev, ep⟩ := E
      obtain ⟨d0, d1, d2, d3⟩ := dAll hccA
      haveI := d0
      haveI := d1
      haveI := d2
      haveI := d3
      have hok2 := has_ok (k := ek) oBx (by omega)
      have cast1 : ∀ z : Nat, ((z + 1 : Nat) : Int) = (z : Int) + 1 := fun z => by omega
      have hEk : hasK B ek = if ek = gone then none else some ⟨ek, ev, ep⟩ := hEk
      by_cases hkg : ek = gone
      case' pos =>
        rw [hEk, if_pos hkg] at hok2
        have hok3 : Runs Try.prog T0 (.fn fn_znQ) [.slice aB B.length cB', .int .i64 ek] h' (fun r h' => r = .tuple ⟨[.agg ⟨[.int .i64 0, .bool false, .bool false]⟩, .bool false]⟩ ∧ Fr (fun _ => False) _ h') (fun _ _ => False) := hok2
        haveI nq : ∀ {ts : List Value} {h : Heap} {O : Oper} {x y : Operand} [Ev ts x (.int .i64 ek)] [Ev ts y (.int .i64 gone)], XOp Try.prog ts h (.bin .neq O x y) (.bool false) h := xneqI0 hkg
      case' neg =>
        rw [hEk, if_neg hkg] at hok2
        have hok3 : Runs Try.prog T0 (.fn fn_znQ) [.slice aB B.length cB', .int .i64 ek] h' (fun r h' => r = .tuple ⟨[.agg ⟨[.int .i64 ek, .bool ev, .bool ep]⟩, .bool true]⟩ ∧ Fr (fun _ => False) _ h') (fun _ _ => False) := hok2
        haveI nq : ∀ {ts : List Value} {h : Heap} {O : Oper} {x y : Operand} [Ev ts x (.int .i64 ek)] [Ev ts y (.int .i64 gone)], XOp Try.prog ts h (.bin .neq O x y) (.bool true) h := xneqI1 hkg
      all_goals
        cases ep <;> cases ev
        all_goals
          refine stp ?_
          refine O.call' hok3 (fun r h7 hr => ?_)
          obtain ⟨rfl, f7⟩ := hr
          have hcc8 : ∀ o : AObj, cellsAt (h7.push o) bA kA (A.length * 3) = some (kkcells A) := fun o => (cellsAt_keep (Fr.refl.push (S := fun _ => False)) (f7.lt hbA) id).trans ((cellsAt_keep f7 hbA id).trans hccA)
          haveI g0 : ∀ {o : AObj}, Cell (h7.push o) bA (kA + k * 3) (.int .i64 ek) := fun {o} => (dAll (hcc8 o)).1
          haveI g3 : ∀ {o : AObj}, Cells (h7.push o) bA (kA + k * 3) 3 _ := fun {o} => (dAll (hcc8 o)).2.2.2
          refine stp ?_
          try refine D.howT (XOp.mkIndexSl (by omega)) rfl ?_
          refine stp ?_
          refine loop3a 13 14 15 (A.length - (k + 1)) (by omega) ⟨k + 1, by omega, rfl, by rw [sP]; simp, by rw [sN]; simp, rfl, (hG.trans' f7).push⟩
    · obtain rfl : k = A.length := by omega
      rw [List.take_length] at *
      have oAx := (oA6.keep hG fun _ _ => id).rd
      have hok2 := has_ok (k := gone) oAx (by omega)
      have hs7 := hs6.keep hG fun _ _ => id
      have hwent := put_went hrel hinv hA
      refine stp ?_
      refine O.call' hok2 (fun r h7 hr => ?_)
      obtain ⟨rfl, f7⟩ := hr
      have hF7 : Fr (fun _ => False) h h7 := (F6.trans' hG).trans' f7
      have hs8 := hs7.keep f7 fun _ _ => id
      have hlB2 := hinv5.le
      have hBL := hB.len
      have hfull := fun he : e = 7 => put_full (he ▸ hrel) hinv hA
      haveI q1 : ∀ {ts : List Value} {h : Heap} {O : Oper} {x y : Operand} [Ev ts x (.int .i64 (B.length : Nat))] [Ev ts y (.int .i64 room)], XOp Try.prog ts h (.bin .gtr O x y) (.bool false) h := xgtr0 (by omega)
      by_cases he : e = 7
      case' pos =>
        obtain ⟨hf1, hf2⟩ := hfull he
        haveI q2 : ∀ {ts : List Value} {h : Heap} {O : Oper} {x y : Operand} [Ev ts x (.int .i64 e)] [Ev ts y (.int .i64 7)], XOp Try.prog ts h (.bin .eql O x y) (.bool true) h := xeql1 he
        haveI q3 : ∀ {ts : List Value} {h : Heap} {O : Oper} {x y : Operand} [Ev ts x (.int .i64 (cntP A : Nat))] [Ev ts y (.int .i64 room)], XOp Try.prog ts h (.bin .lss O x y) (.bool false) h := xlss0 (by omega)
        haveI q4 : ∀ {ts : List Value} {h : Heap} {O : Oper} {x y : Operand} [Ev ts x (.int .i64 gone)] [Ev ts y (.int .i64 0)], XOp Try.prog ts h (.bin .neq O x y) (.bool false) h := xneqI0 hf2
      case' neg =>
        haveI q2 : ∀ {ts : List Value} {h : Heap} {O : Oper} {x y : Operand} [Ev ts x (.int .i64 e)] [Ev ts y (.int .i64 7)], XOp Try.prog ts h (.bin .eql O x y) (.bool false) h := xeql0 he
      all_goals
        rcases hwent with hno | ⟨⟨wk, wv, wp⟩, hsome, hwp, hwv, hwr⟩
        case' inl =>
          rw [hno]
          simp only [hasV]
        case' inr =>
          rw [hsome]
          simp only [hasV, KK.cells]
          have hwp : wp = false := hwp
          subst hwp
          haveI q5 : ∀ {ts : List Value} {h : Heap} {O : Oper} {x y : Operand} [Ev ts x (.int .i64 (A.length : Nat))] [Ev ts y (.int .i64 room)], XOp Try.prog ts h (.bin .lss O x y) (.bool false) h := xlss0 (by omega)
          cases wv
          case' true =>
            have hwv := hwv rfl
            haveI q6 : ∀ {ts : List Value} {h : Heap} {O : Oper} {x y : Operand} [Ev ts x (.int .i64 (cntN A : Nat))] [Ev ts y (.int .i64 0)], XOp Try.prog ts h (.bin .gtr O x y) (.bool false) h := xgtr0 (by omega)
        all_goals
          refine stp ?_
          refine loop1a 8 (l.length - (i + 1)) (by omega) ⟨i + 1, c', L', by omega, rfl, rfl, hs8.keep (Fr.refl.push (S := fun _ => False)) fun _ _ => id, hinv5, fun j hj => ?_, hF7.push⟩
          rcases hmine j hj with h8 | h8
          · exact hown j h8
          · omega
  have Fb : ∀ {hx hy : Heap}, Fr (fun _ => False) h hx → Fr (fun i => ∃ y ∈ L, i = y.b) hx hy → Fr (fun _ => False) h hy := fun f1 f2 => f1.trans f2 fun j hj ⟨y, hy, e⟩ => by
    have := hown j (.inr (.inr ⟨y, hy, .inl e⟩))
    omega
  refine stp ?_
  refine C.if (fun hk1 => ?_) (fun hk1 => ?_)
  · refine stp ?_
    refine D.callX (Pin_ok hs4) (fun r h5 hr => rfl) (fun r h5 hr => ?_) (fun _ _ hx => hx.elim)
    obtain ⟨e, rfl, _, hs5, f5, hmine⟩ := hr
    refine stp ?_
    exact loop1a 8 (l.length - (i + 1)) (by omega) ⟨i + 1, c, _, by omega, rfl, rfl, hs5, turn_inv (fun _ => rfl) hinv, fun j hj => hown j (hmine j hj), Fb F4 f5⟩
  refine stp ?_
  refine C.if (fun hk2 => ?_) (fun hk2 => ?_)
  · refine stp ?_
    refine O.call' (Verify_ok hs4) (fun r h5 hr => ?_)
    obtain ⟨e, rfl, _, hs5, f5, hmine⟩ := hr
    refine stp ?_
    exact loop1a 8 (l.length - (i + 1)) (by omega) ⟨i + 1, c, _, by omega, rfl, rfl, hs5, turn_inv (fun _ => rfl) hinv, fun j hj => hown j (hmine j hj), Fb F4 f5⟩
  refine stp ?_
  refine C.if (fun hk3 => ?_) (fun hk3 => ?_)
  case refine_2 =>
    refine stp ?_
    exact loop1a 8 (l.length - (i + 1)) (by omega) ⟨i + 1, c, L, by omega, rfl, rfl, hs4, hinv, hown, F4⟩
  refine stp ?_
  refine O.call' (Clear_ok hs4) (fun r h5 hr => ?_)
  obtain ⟨hs5, f5, hmine⟩ := hr
  have hinv5 := only_inv (k := X.who) hinv
  have F5 : Fr (fun _ => False) h h5 := F4.trans f5 fun j hj e => by omega
  have oA5 := oA.keep f5 fun j hj e => by have := nA j hj; omega
  have hcc5 : cellsAt h5 b o (l.length * 169) = some (acells l) := (cellsAt_keep F5 hb id).trans hcc
  have cH5 := act_cell (i := 1) hl hcc5 rfl hlt (by omega) rfl
  rw [hAC] at cH5
  haveI := cH5
  refine stp ?_
  refine O.call' (has_ok (k := X.who) oA5.rd (by omega)) (fun r h6 hr => ?_)
  obtain ⟨rfl, f6⟩ := hr
  have hs6 := hs5.keep f6 fun _ _ => id
  have F6 := F5.trans' f6
  have hL5 : (onlyS X.who L).length < 100000 := by have := hinv5.le; omega
  have hsh : ∀ B, Shows (onlyS X.who L) B → (∃ x, hasK A X.who = some x ∧ B = [x]) ∨ hasK A X.who = none ∧ B = [] := fun B hB => only_shows hinv hA hB
  have fP : ∀ o : AObj, Fr (fun _ => False) h6 (h6.push o) := fun _ => Fr.refl.push
  have hLst := fun o : AObj => List_ok (hs6.keep (fP o) fun _ _ => id) hL5
  cases hkA : hasK A X.who with
  | none =>
    simp only [hasV]
    refine stp ?_
    refine O.call' (hLst _) (fun r h7 hr => ?_)
    obtain ⟨L2, hL2, _, oB, nB, f7⟩ := hr
    have hB := hsh _ (Shows.of hinv5.nd hL2)
    generalize L2.map SE.kk = B at *
    rcases hB with ⟨x, h8, _⟩ | ⟨_, rfl⟩
    · rw [hkA] at h8; cases h8
    obtain ⟨aB, cB', rfl, hlB, hcB⟩ := id oB.rd
    have hs7 := (hs6.keep (fP _) fun _ _ => id).keep f7 fun _ _ => id
    haveI q1 : ∀ {ts : List Value} {h : Heap} {O : Oper} {x y : Operand} [Ev ts x (.int .i64 (([] : List KK).length : Nat))] [Ev ts y (.int .i64 0)], XOp Try.prog ts h (.bin .gtr O x y) (.bool false) h := xgtr0 (by simp)
    refine stp ?_
    exact loop1a 8 (l.length - (i + 1)) (by omega) ⟨i + 1, c, _, by omega, rfl, rfl, hs7, hinv5, fun j hj => hown j (hmine j hj), (F6.trans' (fP _)).trans' f7⟩
  | some x =>
    simp only [hasV]
    refine stp ?_
    refine O.call' (hLst _) (fun r h7 hr => ?_)
    obtain ⟨L2, hL2, _, oB, nB, f7⟩ := hr
    have hB := hsh _ (Shows.of hinv5.nd hL2)
    generalize L2.map SE.kk = B at *
    rcases hB with ⟨x', h8, rfl⟩ | ⟨h8, _⟩
    case inr => rw [hkA] at h8; cases h8
    rw [hkA] at h8
    injection h8 with h8
    subst h8
    have hs7 := (hs6.keep (fP _) fun _ _ => id).keep f7 fun _ _ => id
    have gx : h7.get h6.n = .cells x.cells 0 := by rw [f7.get _ (by simp) id]; exact HGet.new.eq
    haveI : HGet h7 h6.n _ := ⟨gx⟩
    obtain ⟨aB, cB', rfl, hlB, hcB⟩ := id oB.rd
    refine stp ?_
    refine O.callT (Runs.mono (SameKept_ok (l := [x]) (m := [x]) (oB.keep (S := fun _ => False) Fr.refl.push fun _ _ => id).rd rd_kk (by simp) (by simp)) (fun r h' hh => (⟨by rw [hh.1]; simp, hh.2⟩ : r = .bool true ∧ h' = _)) (fun _ _ h => h)) (fun r h8 hr => ?_)
    obtain ⟨rfl, rfl⟩ := hr
    refine stp ?_
    exact loop1a 8 (l.length - (i + 1)) (by omega) ⟨i + 1, c, _, by omega, rfl, rfl, hs7.keep (Fr.refl.push (S := fun _ => False)) fun _ _ => id, hinv5, fun j hj => hown j (hmine j hj), ((F6.trans' (fP _)).trans' f7).push⟩
end Go.Proofs.Ytmhnddkpiefkhaa.A

namespace Go.Proofs.Ytmhnddkpiefkhaa.A
open Go Go.Vm
set_option maxRecDepth 100000
set_option linter.unusedVariables false
theorem fits_actsV {h : Heap} {t te : TypeId} {v : Value} (ht : Try.prog.underlying t = some (.slice te)) (f0 : fieldAt Try.prog te 0 = some (0, 3)) (f1 : fieldAt Try.prog te 1 = some (1, 3)) (f2 : fieldAt Try.prog te 2 = some (2, 4)) (f3 : fieldAt Try.prog te 3 = some (3, 36)) (ui : Try.prog.underlying 3 = some (.int .i64)) (ci : Try.prog.cellsOf 3 = 1) (ub : Try.prog.underlying 4 = some .bool) (cB : Try.prog.cellsOf 4 = 1) (cb : Try.prog.cellsOf 36 = 166) (ce : Try.prog.cellsOf te = 169) (hv : FitsV Try.prog h 8 t v) :
    ∃ l : List AC, Rd h 169 v (acells l) l.length ∧ ∀ a ∈ l, BkRd h a.b a.sv a.sl := by
  unfold FitsV at hv
  rw [ht] at hv
  obtain ⟨v', l, e, h1, h2⟩ := fits_acts (n := 0) ht f0 f1 f2 f3 ui ci ub cB cb ce hv
  injection e with e _
  subst e
  exact ⟨l, h1, h2⟩
theorem StoreKeeps_run (h : Heap) (vs : List Value) (hf : FitsAll Try.prog h 8 [3, 49] vs) : Runs Try.prog T0 (.fn fn_zjQ) vs h (fun r _ => r = .bool true) (fun _ _ => False) := by
  obtain ⟨v1, _, rfl, h1, hf⟩ := hf.cons
  obtain ⟨v2, _, rfl, h2, hf⟩ := hf.cons
  obtain rfl := hf.nil
  obtain ⟨n, rfl, _⟩ := FitsV.int (k := .i64) h1 (by kernel_rfl)
  obtain ⟨l, hl, hl2⟩ := fits_actsV (te := 53) (by kernel_rfl) (by kernel_rfl) (by kernel_rfl) (by kernel_rfl) (by kernel_rfl) (by kernel_rfl) (by kernel_rfl) (by kernel_rfl) (by kernel_rfl) (by kernel_rfl) (by kernel_rfl) h2
  exact StoreKeeps_true hl hl2
end Go.Proofs.Ytmhnddkpiefkhaa.A

namespace Go.Proofs.Ytmhnddkpiefkhaa.A
open Go Go.Vm
set_option maxRecDepth 100000
theorem ran_3 : allTrue (xcall Try.prog R.tab 1000 60 (.fn 3) [] Heap.init) = true := by kernel_rfl
theorem has_3 : (tableOf Try.prog 3).isSome = true := by kernel_rfl
theorem known : KnownAll Try.prog prims := ⟨⟨Option.isSome_iff_exists.1 has_3, fun w => known_calls (Checked.mixed Try.checked) R.tab_ok ran_3 w⟩, trivial⟩
theorem T0_ok : TableOK Try.prog T0 := withKept_ok (withTrue_ok known) fun k hk => by simp at hk
end Go.Proofs.Ytmhnddkpiefkhaa.A
