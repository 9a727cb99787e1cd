/- Contracts of functions, over the machine. -/
import Derived.Test.YtagmnpeilgnbdaaGreatRows
import Derived.Test.YtagmnpeilgnbdaaGreatVK
import Derived.Test.YtagmnpeilgnbdaaGreatVJ
namespace Go.Vm
abbrev U : Value := undef
abbrev tm (n : Nat) : Operand := .tmp n
abbrev k0 : Operand := .const (.int .i64 0)
abbrev o1 (d : Nat) (x : AOp) : AOper := ⟨some d, x, none, [], false⟩
abbrev o2 (d : Nat) (x : AOp) : AOper := ⟨some d, x, none, [], true⟩
abbrev o3 (x : AOp) : AOper := ⟨none, x, none, [], false⟩
abbrev o4 (d : Nat) (x : AOp) (t : Nat) : AOper := ⟨some d, x, some (t, true), [], false⟩
abbrev o5 (d : Nat) (x : AOp) (t : Nat) : AOper := ⟨some d, x, some (t, false), [], false⟩
end Go.Vm
set_option linter.unusedSimpArgs false
set_option linter.unusedSectionVars false
noncomputable section
set_option maxRecDepth 100000
set_option linter.unusedVariables false
namespace Go.Proofs.YtagmnpeilgnbdaaGreat.A
open Go Go.Vm
abbrev ty_wire_wrong : TypeId := 138
instance : IsIface Tryz.prog 20 := ⟨by kernel_rfl⟩
abbrev prims : List FuncId := [4]
abbrev kepts : List FuncId := [8]
def T0 : Table := withKept (withTrue Tryz.prog prims) kepts
theorem zkQ_known {h : Heap} : Runs Tryz.prog T0 (.fn 4) [] h (fun r h' => r = .bool true ∧ h' = h) (fun _ _ => False) := known_runs rfl
instance : IsBoolT Tryz.prog 4 := ⟨by kernel_rfl⟩
instance : TLeaves Tryz.prog 7 (.i .i64 :: (.i .i64 :: (.b :: (.i .u8 :: [])))) := ⟨by kernel_rfl, by kernel_rfl, by kernel_rfl⟩
instance : TLeaves Tryz.prog 8 (.i .i64 :: (.i .i64 :: (.b :: (.i .u8 :: [])))) := ⟨by kernel_rfl, by kernel_rfl, by kernel_rfl⟩
instance : TLeaves Tryz.prog 23 (u8s 4) := ⟨by kernel_rfl, by kernel_rfl, by kernel_rfl⟩
instance : TLeaves Tryz.prog 24 (u8s 4) := ⟨by kernel_rfl, by kernel_rfl, by kernel_rfl⟩
instance : TLeaves Tryz.prog 25 (u8s 32) := ⟨by kernel_rfl, by kernel_rfl, by kernel_rfl⟩
instance : TLeaves Tryz.prog 26 (u8s 32) := ⟨by kernel_rfl, by kernel_rfl, by kernel_rfl⟩
instance : TLeaves Tryz.prog 28 (u8s 32 ++ (u8s 4 ++ (.i .u64 :: []))) := ⟨by kernel_rfl, by kernel_rfl, by kernel_rfl⟩
instance : TLeaves Tryz.prog 29 (u8s 32 ++ (u8s 4 ++ (.i .u64 :: []))) := ⟨by kernel_rfl, by kernel_rfl, by kernel_rfl⟩
instance : TLeaves Tryz.prog 34 (.i .i64 :: (.i .i64 :: [])) := ⟨by kernel_rfl, by kernel_rfl, by kernel_rfl⟩
instance : TLeaves Tryz.prog 35 (.i .i64 :: (.i .i64 :: [])) := ⟨by kernel_rfl, by kernel_rfl, by kernel_rfl⟩
instance : TLeaves Tryz.prog 54 (u8s 32 ++ (u8s 4 ++ (.i .u64 :: []))) := ⟨by kernel_rfl, by kernel_rfl, by kernel_rfl⟩
instance : TLeaves Tryz.prog 131 (u8s 4 ++ (u8s 4)) := ⟨by kernel_rfl, by kernel_rfl, by kernel_rfl⟩
instance : TLeaves Tryz.prog 137 (.i .i64 :: (.i .i64 :: [])) := ⟨by kernel_rfl, by kernel_rfl, by kernel_rfl⟩
instance : TLeaves Tryz.prog 138 (.i .i64 :: (.i .i64 :: [])) := ⟨by kernel_rfl, by kernel_rfl, by kernel_rfl⟩
instance : TLeaves Tryz.prog 145 (u8s 4 ++ (u8s 4 ++ (.i .u8 :: []))) := ⟨by kernel_rfl, by kernel_rfl, by kernel_rfl⟩
abbrev fn_zfQ : FuncId := 5
def zfQ_c : ACode :=
 (.seq (.region [
 o1 2 (.mov (.const (.slice none 0 0)))]) (.seq (.region [
 o1 4 (.buildSlice 5 [] 0 []),
 o1 5 (.mov (tm 0)),
 o1 6 (.append 5 1 1 [(.int .u8 0)] false (tm 4) (tm 5)),
 o1 7 (.buildSlice 5 [(.int .u8 0), (.int .u8 0), (.int .u8 0), (.int .u8 0)] 4 [(0, 1, (.const (.int .u8 201))), (1, 1, (.const (.int .u8 202))), (2, 1, (.const (.int .u8 203))), (3, 1, (.const (.int .u8 204)))]),
 o1 8 (.append 5 1 1 [(.int .u8 0)] false (tm 6) (tm 7)),
 o1 3 (.mov (tm 8))]) (.seq (.region [
 o1 9 (.mov (tm 3)),
 o1 10 (.mov (tm 0)),
 o1 11 (.lenSl (tm 10)),
 o1 12 (.sliceSl 1 (tm 9) none (some (tm 11)) none),
 o1 2 (.mov (tm 12))]) .ret)))
def zfQ : AFunc := ⟨13, [(2, none)], zfQ_c, none⟩
theorem zfQ_t0 : tableOf Tryz.prog 5 = some zfQ := by kernel_rfl
theorem zfQ_t : T0 5 = some zfQ := withKept_t rfl (withTrue_t rfl zfQ_t0)
theorem zfQ_runs {v0 : Value} {h : Heap} {R : RP} {X : XP} (k : RunC Tryz.prog T0 zfQ_c ⟨[v0, U, U, U, U, U, U, U, U, U, U, U, U], [], h, none⟩ (bodyQ Tryz.prog T0 [(2, none)] R X)) :
 Runs Tryz.prog T0 (.fn 5) [v0] h R X := Runs.fn zfQ_t rfl k
abbrev fn_zpbQ : FuncId := 6
def zpbQ_l0 : ACode :=
 (.seq (.region [
 o1 27 (.bin .lss (so (.binOp .lss 3 (tm 26) (tm 25) 3) 4) (tm 26) (tm 25))]) (.seq (.cond (tm 27)
 .skip
 (.exit 0)) (.seq (.block 1 (.seq (.region [
 o1 28 (.mov (tm 26)),
 o1 9 (.mov (tm 28))]) (.seq (.region [
 o1 29 (.mov (tm 0)),
 o1 30 (.lenSl (tm 29)),
 o1 31 (.mov (tm 4)),
 o1 32 (.callV (.func 19) [(tm 31)]),
 o1 33 (.bin .sub (so (.binOp .sub 3 (tm 30) (tm 32) 3) 3) (tm 30) (tm 32)),
 o1 10 (.mov (tm 33))]) (.seq (.region [
 o1 34 (.mov (tm 4)),
 o1 35 (.callV (.func 20) [(tm 34)]),
 o1 36 (.mov (tm 4)),
 o1 37 (.callV (.func 21) [(tm 36)]),
 o1 38 (.mov (tm 4)),
 o1 39 (.callV (.func 22) [(tm 38)]),
 o1 40 (.build (z32 ++ [(.int .u8 0), (.int .u8 0), (.int .u8 0), (.int .u8 0), (.int .u64 0)]) [(0, 4, (tm 35)), (4, 32, (tm 37)), (36, 1, (tm 39))]),
 o1 11 (.alloc 54 (z32 ++ [(.int .u8 0), (.int .u8 0), (.int .u8 0), (.int .u8 0), (.int .u64 0)])),
 o3 (.store 37 (tm 11) (tm 40))]) (.seq (.seq (.region [
 o1 41 (.mov (tm 4)),
 o1 42 (.callV (.func 23) [(tm 41)]),
 o1 12 (.alloc 35 [(.int .i64 0), (.int .i64 0)]),
 o3 (.store 2 (tm 12) (tm 42))]) (.seq (.region [
 o1 43 (.fieldAddr 0 (tm 12)),
 o1 44 (.load none (tm 43)),
 o1 45 (.bin .neq (so (.binOp .neq 33 (tm 44) k0 33) 4) (tm 44) k0),
 o1 46 (.mov (tm 45)),
 o4 47 (.fieldAddr 0 (tm 12)) 46,
 o4 48 (.load none (tm 47)) 46,
 o4 49 (.bin .neq (so (.binOp .neq 33 (tm 48) (.const (.int .i64 4)) 33) 4) (tm 48) (.const (.int .i64 4))) 46,
 o1 50 (.pick (tm 46) (tm 49) (.const (.bool false)))]) (.cond (tm 50)
 (.seq (.regionD [
 o1 51 (.load (some 2) (tm 12)),
 o1 2 (.mov (.const (.pointer none))),
 ⟨none, .store 2 (tm 3) (tm 51), none, [], true⟩]) .ret)
 .skip))) (.seq (.seq (.region [
 o1 52 (.mov (tm 9)),
 o1 53 (.bin .gtr (so (.binOp .gtr 3 (tm 52) k0 3) 4) (tm 52) k0),
 o1 54 (.mov (tm 53)),
 o4 55 (.load (some 37) (tm 8)) 54,
 o4 56 (.load (some 37) (tm 11)) 54,
 o4 57 (.callV (.func 24) [(tm 55), (tm 56)]) 54,
 o4 58 (.bin .geq (so (.binOp .geq 3 (tm 57) k0 3) 4) (tm 57) k0) 54,
 o1 59 (.pick (tm 54) (tm 58) (.const (.bool false)))]) (.cond (tm 59)
 (.seq (.region [
 o1 60 (.mov (tm 10)),
 o1 61 (.build [(.int .i64 0), (.int .i64 0)] [(0, 1, (.const (.int .i64 9))), (1, 1, (tm 60))]),
 o1 2 (.mov (.const (.pointer none))),
 o3 (.store 2 (tm 3) (tm 61))]) .ret)
 .skip)) (.seq (.region [
 o1 62 (.load (some 37) (tm 11)),
 o3 (.store 37 (tm 8) (tm 62))]) (.regionD [
 o1 63 (.mov (tm 6)),
 o1 64 (.nilCheck (tm 63)),
 o1 65 (.fieldAddr 1 (tm 64)),
 o1 66 (.load none (tm 65)),
 o1 67 (.load (some 37) (tm 11)),
 o1 68 (.build [] []),
 ⟨none, .mapUpdate (.slice 54) (tm 66) (tm 67) (tm 68), none, [], true⟩])))))))) (.region [
 o1 69 (.bin .add (so (.binOp .add 3 (tm 26) (.const (.int .i64 1)) 3) 3) (tm 26) (.const (.int .i64 1))),
 o1 26 (.mov (tm 69))]))))
def zpbQ_c : ACode :=
 (.seq (.region [
 o1 2 (.mov (.const (.pointer none))),
 o1 3 (.alloc 35 [(.int .i64 0), (.int .i64 0)])]) (.seq (.region [
 o1 14 (.mov (tm 0)),
 o1 15 (.callV (.func 17) [(tm 14)]),
 o1 4 (.mov (tm 15))]) (.seq (.region [
 o1 16 (.mov (tm 4)),
 o1 17 (.callV (.func 18) [(tm 16)]),
 o1 5 (.mov (tm 17))]) (.seq (.seq (.region [
 o1 18 (.mov (tm 5)),
 o1 19 (.bin .gtr (so (.binOp .gtr 3 (tm 18) (.const (.int .i64 4096)) 3) 4) (tm 18) (.const (.int .i64 4096)))]) (.cond (tm 19)
 (.seq (.region [
 o1 20 (.build [(.int .i64 0), (.int .i64 0)] [(0, 1, (.const (.int .i64 4)))]),
 o1 2 (.mov (.const (.pointer none))),
 o3 (.store 2 (tm 3) (tm 20))]) .ret)
 .skip)) (.seq (.region [
 o1 22 (.callV (.func 14) [(.const (.int .i64 4096))]),
 o1 21 (.mov (tm 22)),
 o1 23 (.extract 0 (tm 21)),
 o1 24 (.extract 1 (tm 21)),
 o1 6 (.mov (tm 23)),
 o1 7 (.mov (tm 24))]) (.seq (.region [
 o1 8 (.alloc 54 (z32 ++ [(.int .u8 0), (.int .u8 0), (.int .u8 0), (.int .u8 0), (.int .u64 0)]))]) (.seq (.seq (.region [
 o1 25 (.mov (tm 5)),
 o1 26 (.mov k0)]) (.block 0 (.loop zpbQ_l0))) (.seq (.seq (.region [
 o1 70 (.mov (tm 4)),
 o1 71 (.callV (.func 23) [(tm 70)]),
 o1 13 (.alloc 35 [(.int .i64 0), (.int .i64 0)]),
 o3 (.store 2 (tm 13) (tm 71))]) (.seq (.region [
 o1 72 (.load (some 2) (tm 13)),
 o1 73 (.build [(.int .i64 0), (.int .i64 0)] []),
 o1 74 (.bin .neq (so (.binOp .neq 35 (tm 72) (tm 73) 35) 4) (tm 72) (tm 73))]) (.cond (tm 74)
 (.seq (.regionD [
 o1 75 (.load (some 2) (tm 13)),
 o1 2 (.mov (.const (.pointer none))),
 ⟨none, .store 2 (tm 3) (tm 75), none, [], true⟩]) .ret)
 .skip))) (.seq (.region [
 o1 76 (.mov (tm 6)),
 o1 77 (.build [(.int .i64 0), (.int .i64 0)] []),
 o1 2 (.mov (tm 76)),
 o3 (.store 2 (tm 3) (tm 77))]) .ret)))))))))
def zpbQ : AFunc := ⟨78, [(2, none), (3, some (some 2))], zpbQ_c, none⟩
theorem zpbQ_t0 : tableOf Tryz.prog 6 = some zpbQ := by kernel_rfl
theorem zpbQ_t : T0 6 = some zpbQ := withKept_t rfl (withTrue_t rfl zpbQ_t0)
theorem zpbQ_runs {v0 : Value} {h : Heap} {R : RP} {X : XP} (k : RunC Tryz.prog T0 zpbQ_c ⟨[v0, U, U, U, U, U, U, U, U, U, U, U, U, U, U, U, U, U, U, U, U, U, U, U, U, U, U, U, U, U, U, U, U, U, U, U, U, U, U, U, U, U, U, U, U, U, U, U, U, U, U, U, U, U, U, U, U, U, U, U, U, U, U, U, U, U, U, U, U, U, U, U, U, U, U, U, U, U], [], h, none⟩ (bodyQ Tryz.prog T0 [(2, none), (3, some (some 2))] R X)) :
 Runs Tryz.prog T0 (.fn 6) [v0] h R X := Runs.fn zpbQ_t rfl k
abbrev zpbQ_l0_M : List Nat := [0, 0, 1, 0, 0, 0, 0, 0, 0, 1, 1, 1, 1, 0, 0, 0, 0, 0, 0, 0, 0, 0, 0, 0, 0, 0, 2, 1, 1, 1, 1, 1, 1, 1, 1, 1, 1, 1, 1, 1, 1, 1, 1, 1, 1, 1, 1, 1, 1, 1, 1, 1, 1, 1, 1, 1, 1, 1, 1, 1, 1, 1, 1, 1, 1, 1, 1, 1, 1, 1, 0, 0, 0, 0, 0, 0, 0, 0]
abbrev fn_zebQ : FuncId := 7
def zebQ_l0 : ACode :=
 (.seq (.seq (.region [
 o1 20 (.mov (tm 7)),
 o1 21 (.mov (tm 6)),
 o1 22 (.bin .lss (so (.binOp .lss 3 (tm 20) (tm 21) 3) 4) (tm 20) (tm 21)),
 o1 23 (.mov (tm 22)),
 o4 24 (.mov (tm 4)) 23,
 o4 25 (.nilCheck (tm 24)) 23,
 o4 26 (.fieldAddr 2 (tm 25)) 23,
 o4 27 (.fieldAddr 0 (tm 26)) 23,
 o4 28 (.load none (tm 27)) 23,
 o4 29 (.bin .eql (so (.binOp .eql 33 (tm 28) k0 33) 4) (tm 28) k0) 23,
 o1 30 (.pick (tm 23) (tm 29) (.const (.bool false)))]) (.cond (tm 30)
 .skip
 (.exit 0))) (.seq (.block 1 (.seq (.region [
 o1 33 (.mov (tm 4)),
 o1 34 (.nilCheck (tm 33)),
 o1 35 (.fieldAddr 1 (tm 34)),
 o1 36 (.load none (tm 35)),
 o1 8 (.mov (tm 36))]) (.seq (.region [
 o1 37 (.mov (tm 4)),
 o1 38 (.callV (.func 27) [(tm 37)]),
 o1 39 (.build (z32 ++ [(.int .u8 0), (.int .u8 0), (.int .u8 0), (.int .u8 0), (.int .u64 0)]) [(0, 4, (tm 38))]),
 o1 9 (.alloc 29 (z32 ++ [(.int .u8 0), (.int .u8 0), (.int .u8 0), (.int .u8 0), (.int .u64 0)])),
 o3 (.store 37 (tm 9) (tm 39))]) (.seq (.region [
 o1 40 (.mov (tm 4)),
 o1 41 (.callV (.func 28) [(tm 40)]),
 o1 42 (.fieldAddr 4 (tm 9)),
 o3 (.store 32 (tm 42) (tm 41))]) (.seq (.region [
 o1 43 (.mov (tm 4)),
 o1 44 (.callV (.func 29) [(tm 43)]),
 o1 45 (.fieldAddr 36 (tm 9)),
 o3 (.store 1 (tm 45) (tm 44))]) (.seq (.seq (.regionD [
 o2 46 (.mov (tm 4)),
 o2 47 (.nilCheck (tm 46)),
 o2 48 (.fieldAddr 2 (tm 47)),
 o2 49 (.fieldAddr 0 (tm 48)),
 o2 50 (.load none (tm 49)),
 o2 51 (.bin .eql (so (.binOp .eql 33 (tm 50) k0 33) 4) (tm 50) k0),
 o2 52 (.mov (tm 51)),
 ⟨some 53, .mov (tm 7), some (52, true), [], true⟩,
 ⟨some 54, .bin .gtr (so (.binOp .gtr 3 (tm 53) k0 3) 4) (tm 53) k0, some (52, true), [], true⟩,
 o2 55 (.pick (tm 52) (tm 54) (.const (.bool false))),
 o2 56 (.mov (tm 55)),
 o4 57 (.mov (tm 5)) 56,
 o4 58 (.nilCheck (tm 57)) 56,
 o4 59 (.fieldAddr 1 (tm 58)) 56,
 o4 60 (.load none (tm 59)) 56,
 o4 61 (.mov (tm 7)) 56,
 o4 62 (.bin .sub (so (.binOp .sub 3 (tm 61) (.const (.int .i64 1)) 3) 3) (tm 61) (.const (.int .i64 1))) 56,
 o4 63 (.indexSl 37 (tm 60) (tm 62)) 56,
 o4 64 (.load (some 37) (tm 63)) 56,
 o4 65 (.load (some 37) (tm 9)) 56,
 ⟨some 66, .callV (.func 30) [(tm 64), (tm 65)], some (56, true), [], true⟩,
 ⟨some 67, .raw (so (.unOp .not 4 (tm 66)) 4), some (56, true), [], true⟩,
 o2 68 (.pick (tm 56) (tm 67) (.const (.bool false)))]) (.cond (tm 68)
 (.seq (.region [
 o1 69 (.mov (tm 8)),
 o1 70 (.build [(.int .i64 0), (.int .i64 0)] [(0, 1, (.const (.int .i64 9))), (1, 1, (tm 69))]),
 o1 2 (.mov (.const (.pointer none))),
 o3 (.store 2 (tm 3) (tm 70))]) .ret)
 .skip)) (.regionD [
 o1 71 (.mov (tm 5)),
 o1 72 (.mov (tm 5)),
 o1 73 (.nilCheck (tm 72)),
 o1 74 (.fieldAddr 1 (tm 73)),
 o1 75 (.load none (tm 74)),
 o1 76 (.load (some 37) (tm 9)),
 ⟨some 77, .buildSlice 29 (z32 ++ [(.int .u8 0), (.int .u8 0), (.int .u8 0), (.int .u8 0), (.int .u64 0)]) 1 [(0, 37, (tm 76))], none, [(some 75, .load none (tm 74), none), (some 74, .fieldAddr 1 (tm 73), none), (some 73, .nilCheck (tm 72), none), (some 72, .mov (tm 5), none), (some 71, .mov (tm 5), none)], false⟩,
 ⟨some 78, .append 29 37 48 (z32 ++ [(.int .u8 0), (.int .u8 0), (.int .u8 0), (.int .u8 0), (.int .u64 0)]) false (tm 75) (tm 77), none, [(some 71, .mov (tm 5), none)], false⟩,
 o2 79 (.nilCheck (tm 71)),
 o2 80 (.fieldAddr 1 (tm 79)),
 ⟨none, .store 1 (tm 80) (tm 78), none, [], true⟩]))))))) (.region [
 o1 31 (.mov (tm 7)),
 o1 32 (.bin .add (so (.binOp .add 3 (tm 31) (.const (.int .i64 1)) 3) 3) (tm 31) (.const (.int .i64 1))),
 o1 7 (.mov (tm 32))])))
def zebQ_c : ACode :=
 (.seq (.region [
 o1 2 (.mov (.const (.pointer none))),
 o1 3 (.alloc 35 [(.int .i64 0), (.int .i64 0)])]) (.seq (.region [
 o1 11 (.mov (tm 0)),
 o1 12 (.callV (.func 25) [(tm 11)]),
 o1 4 (.mov (tm 12))]) (.seq (.region [
 o1 13 (.build [(.int .i64 0), (.slice none 0 0)] [(0, 1, (.const (.int .i64 4096)))]),
 o1 14 (.box 69 (tm 13)),
 o1 5 (.mov (tm 14))]) (.seq (.region [
 o1 15 (.mov (tm 4)),
 o1 16 (.callV (.func 26) [(tm 15)]),
 o1 6 (.mov (tm 16))]) (.seq (.seq (.region [
 o1 17 (.mov (tm 6)),
 o1 18 (.bin .gtr (so (.binOp .gtr 3 (tm 17) (.const (.int .i64 4096)) 3) 4) (tm 17) (.const (.int .i64 4096)))]) (.cond (tm 18)
 (.seq (.region [
 o1 19 (.build [(.int .i64 0), (.int .i64 0)] [(0, 1, (.const (.int .i64 4)))]),
 o1 2 (.mov (.const (.pointer none))),
 o3 (.store 2 (tm 3) (tm 19))]) .ret)
 .skip)) (.seq (.seq (.region [
 o1 7 (.mov k0)]) (.block 0 (.loop zebQ_l0))) (.seq (.region [
 o1 81 (.mov (tm 4)),
 o1 82 (.callV (.func 31) [(tm 81)]),
 o1 10 (.alloc 35 [(.int .i64 0), (.int .i64 0)]),
 o3 (.store 2 (tm 10) (tm 82))]) (.seq (.seq (.region [
 o1 83 (.fieldAddr 0 (tm 10)),
 o1 84 (.load none (tm 83)),
 o1 85 (.bin .neq (so (.binOp .neq 33 (tm 84) k0 33) 4) (tm 84) k0)]) (.cond (tm 85)
 (.seq (.regionD [
 o1 86 (.load (some 2) (tm 10)),
 o1 2 (.mov (.const (.pointer none))),
 ⟨none, .store 2 (tm 3) (tm 86), none, [], true⟩]) .ret)
 .skip)) (.seq (.regionD [
 o1 87 (.mov (tm 5)),
 o1 88 (.load (some 2) (tm 10)),
 o1 2 (.mov (tm 87)),
 ⟨none, .store 2 (tm 3) (tm 88), none, [], true⟩]) .ret)))))))))
def zebQ : AFunc := ⟨89, [(2, none), (3, some (some 2))], zebQ_c, none⟩
theorem zebQ_t0 : tableOf Tryz.prog 7 = some zebQ := by kernel_rfl
theorem zebQ_t : T0 7 = some zebQ := withKept_t rfl (withTrue_t rfl zebQ_t0)
theorem zebQ_runs {v0 : Value} {h : Heap} {R : RP} {X : XP} (k : RunC Tryz.prog T0 zebQ_c ⟨[v0, U, U, U, U, U, U, U, U, U, U, U, U, U, U, U, U, U, U, U, U, U, U, U, U, U, U, U, U, U, U, U, U, U, U, U, U, U, U, U, U, U, U, U, U, U, U, U, U, U, U, U, U, U, U, U, U, U, U, U, U, U, U, U, U, U, U, U, U, U, U, U, U, U, U, U, U, U, U, U, U, U, U, U, U, U, U, U, U], [], h, none⟩ (bodyQ Tryz.prog T0 [(2, none), (3, some (some 2))] R X)) :
 Runs Tryz.prog T0 (.fn 7) [v0] h R X := Runs.fn zebQ_t rfl k
abbrev zebQ_l0_M : List Nat := [0, 0, 1, 0, 0, 0, 0, 2, 1, 1, 0, 0, 0, 0, 0, 0, 0, 0, 0, 0, 1, 1, 1, 1, 1, 1, 1, 1, 1, 1, 1, 1, 1, 1, 1, 1, 1, 1, 1, 1, 1, 1, 1, 1, 1, 1, 1, 1, 1, 1, 1, 1, 1, 1, 1, 1, 1, 1, 1, 1, 1, 1, 1, 1, 1, 1, 1, 1, 1, 1, 1, 1, 1, 1, 1, 1, 1, 1, 1, 1, 1, 0, 0, 0, 0, 0, 0, 0, 0]
abbrev fn_zeQ : FuncId := 8
def zeQ_c : ACode :=
 (.seq (.region [
 o1 4 (.mov (.const (.bool false)))]) (.seq (.region [
 o1 6 (.mov (tm 0)),
 o1 7 (.mov (tm 0)),
 o1 8 (.cap (tm 7)),
 o1 9 (.sliceSl 1 (tm 6) none (some (tm 8)) none),
 o1 5 (.mov (tm 9))]) (.seq (.regionD [
 o1 10 (.mov (tm 0)),
 o1 11 (.lenSl (tm 10)),
 o1 12 (.mov (tm 1)),
 o1 13 (.lenSl (tm 12)),
 o2 14 (.bin .eql (so (.binOp .eql 3 (tm 11) (tm 13) 3) 4) (tm 11) (tm 13)),
 o2 15 (.mov (tm 14)),
 o4 16 (.mov (tm 0)) 15,
 o4 17 (.bytesToStr (tm 16)) 15,
 o4 18 (.mov (tm 1)) 15,
 o4 19 (.bytesToStr (tm 18)) 15,
 ⟨some 20, .bin .eql (so (.binOp .eql 9 (tm 17) (tm 19) 9) 4) (tm 17) (tm 19), some (15, true), [], true⟩,
 o2 21 (.pick (tm 15) (tm 20) (.const (.bool false))),
 o2 22 (.mov (tm 21)),
 o4 23 (.mov (tm 5)) 22,
 o4 24 (.lenSl (tm 23)) 22,
 o4 25 (.mov (tm 1)) 22,
 o4 26 (.lenSl (tm 25)) 22,
 o4 27 (.bin .add (so (.binOp .add 3 (tm 26) (.const (.int .i64 4)) 3) 3) (tm 26) (.const (.int .i64 4))) 22,
 ⟨some 28, .bin .geq (so (.binOp .geq 3 (tm 24) (tm 27) 3) 4) (tm 24) (tm 27), some (22, true), [], true⟩,
 o2 29 (.pick (tm 22) (tm 28) (.const (.bool false))),
 o2 30 (.mov (tm 29)),
 o4 31 (.mov (tm 5)) 30,
 o4 32 (.mov (tm 1)) 30,
 o4 33 (.lenSl (tm 32)) 30,
 o4 34 (.mov (tm 1)) 30,
 o4 35 (.lenSl (tm 34)) 30,
 o4 36 (.bin .add (so (.binOp .add 3 (tm 35) (.const (.int .i64 4)) 3) 3) (tm 35) (.const (.int .i64 4))) 30,
 o4 37 (.sliceSl 1 (tm 31) (some (tm 33)) (some (tm 36)) none) 30,
 o4 38 (.bytesToStr (tm 37)) 30,
 ⟨some 39, .buildSlice 5 [(.int .u8 0), (.int .u8 0), (.int .u8 0), (.int .u8 0)] 4 [(0, 1, (.const (.int .u8 201))), (1, 1, (.const (.int .u8 202))), (2, 1, (.const (.int .u8 203))), (3, 1, (.const (.int .u8 204)))], some (30, true), [(some 38, .bytesToStr (tm 37), some (30, true)), (some 37, .sliceSl 1 (tm 31) (some (tm 33)) (some (tm 36)) none, some (30, true)), (some 36, .bin .add (so (.binOp .add 3 (tm 35) (.const (.int .i64 4)) 3) 3) (tm 35) (.const (.int .i64 4)), some (30, true)), (some 35, .lenSl (tm 34), some (30, true)), (some 34, .mov (tm 1), some (30, true)), (some 33, .lenSl (tm 32), some (30, true)), (some 32, .mov (tm 1), some (30, true)), (some 31, .mov (tm 5), some (30, true))], false⟩,
 o4 40 (.bytesToStr (tm 39)) 30,
 ⟨some 41, .bin .eql (so (.binOp .eql 9 (tm 38) (tm 40) 9) 4) (tm 38) (tm 40), some (30, true), [], true⟩,
 o2 42 (.pick (tm 30) (tm 41) (.const (.bool false))),
 o2 4 (.mov (tm 42))]) .ret)))
def zeQ : AFunc := ⟨43, [(4, none)], zeQ_c, none⟩
theorem zeQ_t0 : tableOf Tryz.prog 8 = some zeQ := by kernel_rfl
theorem zeQ_kept {h : Heap} {args : List Value} (hp : KeptPre args h) : Runs Tryz.prog T0 (.fn 8) args h (fun r h' => r = .bool true ∧ h' = h) (fun _ _ => False) := kept_runs rfl hp
theorem zeQ_runs {v0 v1 : Value} {h : Heap} {R : RP} {X : XP} (k : RunC Tryz.prog (tableOf Tryz.prog) zeQ_c ⟨[v0, v1, U, U, U, U, U, U, U, U, U, U, U, U, U, U, U, U, U, U, U, U, U, U, U, U, U, U, U, U, U, U, U, U, U, U, U, U, U, U, U, U, U], [], h, none⟩ (bodyQ Tryz.prog (tableOf Tryz.prog) [(4, none)] R X)) :
 Runs Tryz.prog (tableOf Tryz.prog) (.fn 8) [v0, v1] h R X := Runs.fn zeQ_t0 rfl k
abbrev fn_zgQ : FuncId := 9
def zgQ_l0 : ACode :=
 (.seq (.seq (.region [
 o1 3 (.mov (tm 2)),
 o1 4 (.mov (tm 0)),
 o1 5 (.lenSl (tm 4)),
 o1 6 (.bin .lss (so (.binOp .lss 3 (tm 3) (tm 5) 3) 4) (tm 3) (tm 5))]) (.cond (tm 6)
 .skip
 (.exit 0))) (.seq (.block 1 (.region [
 o1 9 (.mov (tm 0)),
 o1 10 (.mov (tm 2)),
 o1 11 (.mov (tm 0)),
 o1 12 (.mov (tm 2)),
 o1 13 (.indexSl 1 (tm 11) (tm 12)),
 o1 14 (.load none (tm 13)),
 o1 15 (.bin .xor (so (.binOp .xor 5 (tm 14) (.const (.int .u8 165)) 5) 5) (tm 14) (.const (.int .u8 165))),
 o1 16 (.indexSl 1 (tm 9) (tm 10)),
 o3 (.store 1 (tm 16) (tm 15))])) (.region [
 o1 7 (.mov (tm 2)),
 o1 8 (.bin .add (so (.binOp .add 3 (tm 7) (.const (.int .i64 1)) 3) 3) (tm 7) (.const (.int .i64 1))),
 o1 2 (.mov (tm 8))])))
def zgQ_c : ACode :=
 (.seq (.region [
 o1 2 (.mov k0)]) (.block 0 (.loop zgQ_l0)))
def zgQ : AFunc := ⟨17, [], zgQ_c, none⟩
theorem zgQ_t0 : tableOf Tryz.prog 9 = some zgQ := by kernel_rfl
theorem zgQ_t : T0 9 = some zgQ := withKept_t rfl (withTrue_t rfl zgQ_t0)
theorem zgQ_runs {v0 : Value} {h : Heap} {R : RP} {X : XP} (k : RunC Tryz.prog T0 zgQ_c ⟨[v0, U, U, U, U, U, U, U, U, U, U, U, U, U, U, U, U], [], h, none⟩ (bodyQ Tryz.prog T0 [] R X)) :
 Runs Tryz.prog T0 (.fn 9) [v0] h R X := Runs.fn zgQ_t rfl k
abbrev zgQ_l0_M : List Nat := [0, 0, 2, 1, 1, 1, 1, 1, 1, 1, 1, 1, 1, 1, 1, 1, 1]
abbrev fn_zmQ : FuncId := 10
def zmQ_l0 : ACode :=
 (.seq (.seq (.region [
 o1 75 (.mov (tm 14)),
 o1 76 (.mov (tm 7)),
 o1 77 (.lenSl (tm 76)),
 o1 78 (.bin .lss (so (.binOp .lss 3 (tm 75) (tm 77) 3) 4) (tm 75) (tm 77))]) (.cond (tm 78)
 .skip
 (.exit 0))) (.seq (.block 1 (.region [
 o1 81 (.mov (tm 7)),
 o1 82 (.mov (tm 14)),
 o1 83 (.build (z32 ++ [(.int .u8 0), (.int .u8 0), (.int .u8 0), (.int .u8 0), (.int .u64 0)]) [(36, 1, (.const (.int .u64 77)))]),
 o1 84 (.indexSl 37 (tm 81) (tm 82)),
 o3 (.store 37 (tm 84) (tm 83))])) (.region [
 o1 79 (.mov (tm 14)),
 o1 80 (.bin .add (so (.binOp .add 3 (tm 79) (.const (.int .i64 1)) 3) 3) (tm 79) (.const (.int .i64 1))),
 o1 14 (.mov (tm 80))])))
def zmQ_l1 : ACode :=
 (.seq (.seq (.region [
 o1 85 (.mov (tm 15)),
 o1 86 (.mov (tm 8)),
 o1 87 (.lenSl (tm 86)),
 o1 88 (.bin .lss (so (.binOp .lss 3 (tm 85) (tm 87) 3) 4) (tm 85) (tm 87))]) (.cond (tm 88)
 .skip
 (.exit 2))) (.seq (.block 3 (.region [
 o1 91 (.mov (tm 8)),
 o1 92 (.mov (tm 15)),
 o1 93 (.build [(.int .u8 0), (.int .u8 0), (.int .u8 0), (.int .u8 0)] [(0, 1, (.const (.int .u8 7)))]),
 o1 94 (.indexSl 4 (tm 91) (tm 92)),
 o3 (.store 4 (tm 94) (tm 93))])) (.region [
 o1 89 (.mov (tm 15)),
 o1 90 (.bin .add (so (.binOp .add 3 (tm 89) (.const (.int .i64 1)) 3) 3) (tm 89) (.const (.int .i64 1))),
 o1 15 (.mov (tm 90))])))
def zmQ_c : ACode :=
 (.seq (.region [
 o1 5 (.box 29 (tm 2)),
 o1 6 (.mov (.const (.bool false)))]) (.seq (.regionD [
 o1 16 (.mov (tm 0)),
 o1 18 (.mov (tm 0)),
 o1 19 (.fieldAddr 4 (tm 5)),
 o1 20 (.load (some 32) (tm 19)),
 ⟨some 17, .callV (.func 32) [(tm 16)], none, [(some 20, .load (some 32) (tm 19), none), (some 19, .fieldAddr 4 (tm 5), none), (some 18, .mov (tm 0), none)], false⟩,
 o2 21 (.callV (.func 33) [(tm 18), (tm 20)]),
 o2 7 (.mov (tm 17)),
 o2 8 (.mov (tm 21))]) (.seq (.region [
 o1 23 (.mov (tm 0)),
 o1 24 (.callV (.func 34) [(tm 23)]),
 o1 22 (.mov (tm 24)),
 o1 25 (.extract 0 (tm 22)),
 o1 26 (.extract 1 (tm 22)),
 o1 9 (.mov (tm 25)),
 o1 10 (.mov (tm 26))]) (.seq (.region [
 o1 28 (.mov (tm 1)),
 o1 29 (.callV (.func 35) [(tm 28)]),
 o1 27 (.mov (tm 29)),
 o1 30 (.extract 0 (tm 27)),
 o1 31 (.extract 1 (tm 27)),
 o1 11 (.mov (tm 30)),
 o1 12 (.mov (tm 31))]) (.seq (.regionD [
 o1 32 (.mov (tm 7)),
 o1 33 (.mov (tm 1)),
 o1 34 (.nilCheck (tm 33)),
 o1 35 (.fieldAddr 1 (tm 34)),
 o1 36 (.load none (tm 35)),
 o2 37 (.callV (.func 36) [(tm 32), (tm 36)]),
 o2 38 (.mov (tm 37)),
 o4 39 (.mov (tm 8)) 38,
 o4 40 (.mov (tm 1)) 38,
 o4 41 (.fieldAddr 4 (tm 5)) 38,
 o4 42 (.load (some 32) (tm 41)) 38,
 ⟨some 43, .callV (.func 38) [(tm 40), (tm 42)], some (38, true), [(some 39, .mov (tm 8), some (38, true))], false⟩,
 ⟨some 44, .callV (.func 37) [(tm 39), (tm 43)], some (38, true), [], true⟩,
 o2 45 (.pick (tm 38) (tm 44) (.const (.bool false))),
 o2 46 (.mov (tm 45)),
 o4 47 (.mov (tm 0)) 46,
 o4 48 (.load (some 37) (tm 5)) 46,
 o4 50 (.mov (tm 1)) 46,
 o4 51 (.load (some 37) (tm 5)) 46,
 ⟨some 49, .callV (.func 15) [(tm 47), (tm 48)], some (46, true), [(some 51, .load (some 37) (tm 5), some (46, true)), (some 50, .mov (tm 1), some (46, true))], false⟩,
 ⟨some 52, .callV (.func 39) [(tm 50), (tm 51)], some (46, true), [], true⟩,
 ⟨some 53, .bin .eql (so (.binOp .eql 4 (tm 49) (tm 52) 4) 4) (tm 49) (tm 52), some (46, true), [], true⟩,
 o2 54 (.pick (tm 46) (tm 53) (.const (.bool false))),
 o2 55 (.mov (tm 54)),
 o4 56 (.mov (tm 0)) 55,
 o4 58 (.mov (tm 1)) 55,
 o4 59 (.nilCheck (tm 58)) 55,
 o4 60 (.fieldAddr 1 (tm 59)) 55,
 o4 61 (.load none (tm 60)) 55,
 o4 62 (.lenSl (tm 61)) 55,
 ⟨some 57, .callV (.func 16) [(tm 56)], some (55, true), [(some 62, .lenSl (tm 61), some (55, true)), (some 61, .load none (tm 60), some (55, true)), (some 60, .fieldAddr 1 (tm 59), some (55, true)), (some 59, .nilCheck (tm 58), some (55, true)), (some 58, .mov (tm 1), some (55, true))], false⟩,
 ⟨some 63, .bin .eql (so (.binOp .eql 3 (tm 57) (tm 62) 3) 4) (tm 57) (tm 62), some (55, true), [], true⟩,
 o2 64 (.pick (tm 55) (tm 63) (.const (.bool false))),
 o2 65 (.mov (tm 64)),
 o4 66 (.mov (tm 9)) 65,
 o4 67 (.mov (tm 11)) 65,
 ⟨some 68, .callV (.func 40) [(tm 66), (tm 67)], some (65, true), [], true⟩,
 o2 69 (.pick (tm 65) (tm 68) (.const (.bool false))),
 o2 70 (.mov (tm 69)),
 o4 71 (.mov (tm 10)) 70,
 o4 72 (.mov (tm 12)) 70,
 ⟨some 73, .bin .eql (so (.binOp .eql 33 (tm 71) (tm 72) 33) 4) (tm 71) (tm 72), some (70, true), [], true⟩,
 o2 74 (.pick (tm 70) (tm 73) (.const (.bool false))),
 o2 13 (.mov (tm 74))]) (.seq (.seq (.region [
 o1 14 (.mov k0)]) (.block 0 (.loop zmQ_l0))) (.seq (.seq (.region [
 o1 15 (.mov k0)]) (.block 2 (.loop zmQ_l1))) (.seq (.region [
 o1 95 (.mov (tm 9)),
 o1 96 (.callV (.func 9) [(tm 95)])]) (.seq (.region [
 o1 97 (.mov (tm 13)),
 o1 6 (.mov (tm 97))]) .ret)))))))))
def zmQ : AFunc := ⟨98, [(6, none)], zmQ_c, none⟩
theorem zmQ_t0 : tableOf Tryz.prog 10 = some zmQ := by kernel_rfl
theorem zmQ_t : T0 10 = some zmQ := withKept_t rfl (withTrue_t rfl zmQ_t0)
theorem zmQ_runs {v0 v1 v2 : Value} {h : Heap} {R : RP} {X : XP} (k : RunC Tryz.prog T0 zmQ_c ⟨[v0, v1, v2, U, U, U, U, U, U, U, U, U, U, U, U, U, U, U, U, U, U, U, U, U, U, U, U, U, U, U, U, U, U, U, U, U, U, U, U, U, U, U, U, U, U, U, U, U, U, U, U, U, U, U, U, U, U, U, U, U, U, U, U, U, U, U, U, U, U, U, U, U, U, U, U, U, U, U, U, U, U, U, U, U, U, U, U, U, U, U, U, U, U, U, U, U, U, U], [], h, none⟩ (bodyQ Tryz.prog T0 [(6, none)] R X)) :
 Runs Tryz.prog T0 (.fn 10) [v0, v1, v2] h R X := Runs.fn zmQ_t rfl k
abbrev zmQ_l0_M : List Nat := [0, 0, 0, 0, 0, 0, 0, 0, 0, 0, 0, 0, 0, 0, 2, 0, 0, 0, 0, 0, 0, 0, 0, 0, 0, 0, 0, 0, 0, 0, 0, 0, 0, 0, 0, 0, 0, 0, 0, 0, 0, 0, 0, 0, 0, 0, 0, 0, 0, 0, 0, 0, 0, 0, 0, 0, 0, 0, 0, 0, 0, 0, 0, 0, 0, 0, 0, 0, 0, 0, 0, 0, 0, 0, 0, 1, 1, 1, 1, 1, 1, 1, 1, 1, 1, 0, 0, 0, 0, 0, 0, 0, 0, 0, 0, 0, 0, 0]
abbrev zmQ_l1_M : List Nat := [0, 0, 0, 0, 0, 0, 0, 0, 0, 0, 0, 0, 0, 0, 0, 2, 0, 0, 0, 0, 0, 0, 0, 0, 0, 0, 0, 0, 0, 0, 0, 0, 0, 0, 0, 0, 0, 0, 0, 0, 0, 0, 0, 0, 0, 0, 0, 0, 0, 0, 0, 0, 0, 0, 0, 0, 0, 0, 0, 0, 0, 0, 0, 0, 0, 0, 0, 0, 0, 0, 0, 0, 0, 0, 0, 0, 0, 0, 0, 0, 0, 0, 0, 0, 0, 1, 1, 1, 1, 1, 1, 1, 1, 1, 1, 0, 0, 0]
abbrev fn_zrbQ : FuncId := 11
def zrbQ_c : ACode :=
 (.seq (.region [
 o1 3 (.box 29 (tm 1)),
 o1 4 (.mov k0)]) (.seq (.block 0 (.seq (.region [
 o1 6 (.mov (tm 0)),
 o1 7 (.callV (.func 41) [(tm 6)]),
 o1 5 (.mov (tm 7))]) (.cond (tm 5)
 (.seq (.region [
 o1 4 (.mov (.const (.int .i64 1)))]) .ret)
 (.seq (.region [
 o1 9 (.mov (tm 0)),
 o1 10 (.load (some 37) (tm 3)),
 o1 11 (.callV (.func 15) [(tm 9), (tm 10)]),
 o1 8 (.mov (tm 11))]) (.cond (tm 8)
 (.seq (.region [
 o1 4 (.mov (.const (.int .i64 8)))]) .ret)
 (.seq (.regionD [
 o1 13 (.mov (tm 0)),
 o1 14 (.nilCheck (tm 13)),
 o1 15 (.fieldAddr 1 (tm 14)),
 o1 16 (.load none (tm 15)),
 o1 17 (.lenMap (tm 16)),
 o1 18 (.mov (tm 0)),
 o1 19 (.nilCheck (tm 18)),
 o1 20 (.fieldAddr 0 (tm 19)),
 o1 21 (.load none (tm 20)),
 o2 22 (.bin .geq (so (.binOp .geq 3 (tm 17) (tm 21) 3) 4) (tm 17) (tm 21)),
 o2 12 (.mov (tm 22))]) (.cond (tm 12)
 (.seq (.region [
 o1 4 (.mov (.const (.int .i64 7)))]) .ret)
 .skip))))))) (.seq (.regionD [
 o1 23 (.mov (tm 0)),
 o1 24 (.nilCheck (tm 23)),
 o1 25 (.fieldAddr 1 (tm 24)),
 o1 26 (.load none (tm 25)),
 o1 27 (.load (some 37) (tm 3)),
 o1 28 (.build [] []),
 ⟨none, .mapUpdate (.slice 54) (tm 26) (tm 27) (tm 28), none, [], true⟩]) (.seq (.region [
 o1 4 (.mov k0)]) .ret))))
def zrbQ : AFunc := ⟨29, [(4, none)], zrbQ_c, none⟩
theorem zrbQ_t0 : tableOf Tryz.prog 11 = some zrbQ := by kernel_rfl
theorem zrbQ_t : T0 11 = some zrbQ := withKept_t rfl (withTrue_t rfl zrbQ_t0)
theorem zrbQ_runs {v0 v1 : Value} {h : Heap} {R : RP} {X : XP} (k : RunC Tryz.prog T0 zrbQ_c ⟨[v0, v1, U, U, U, U, U, U, U, U, U, U, U, U, U, U, U, U, U, U, U, U, U, U, U, U, U, U, U], [], h, none⟩ (bodyQ Tryz.prog T0 [(4, none)] R X)) :
 Runs Tryz.prog T0 (.fn 11) [v0, v1] h R X := Runs.fn zrbQ_t rfl k
abbrev fn_zgbQ : FuncId := 12
def zgbQ_l0 : ACode :=
 (.seq (.seq (.regionD [
 o1 22 (.mov (tm 5)),
 o1 23 (.mov (tm 0)),
 o1 24 (.nilCheck (tm 23)),
 o1 25 (.fieldAddr 1 (tm 24)),
 o1 26 (.load none (tm 25)),
 o1 27 (.lenSl (tm 26)),
 o2 28 (.bin .lss (so (.binOp .lss 3 (tm 22) (tm 27) 3) 4) (tm 22) (tm 27)),
 o2 29 (.mov (tm 28)),
 o4 30 (.mov (tm 0)) 29,
 o4 31 (.nilCheck (tm 30)) 29,
 o4 32 (.fieldAddr 1 (tm 31)) 29,
 o4 33 (.load none (tm 32)) 29,
 o4 34 (.mov (tm 5)) 29,
 o4 35 (.indexSl 37 (tm 33) (tm 34)) 29,
 o4 36 (.load (some 37) (tm 35)) 29,
 o4 37 (.load (some 37) (tm 3)) 29,
 ⟨some 38, .callV (.func 30) [(tm 36), (tm 37)], some (29, true), [], true⟩,
 o2 39 (.pick (tm 29) (tm 38) (.const (.bool false)))]) (.cond (tm 39)
 .skip
 (.exit 1))) (.block 2 (.region [
 o1 40 (.mov (tm 5)),
 o1 41 (.bin .add (so (.binOp .add 3 (tm 40) (.const (.int .i64 1)) 3) 3) (tm 40) (.const (.int .i64 1))),
 o1 5 (.mov (tm 41))])))
def zgbQ_c : ACode :=
 (.seq (.region [
 o1 3 (.box 29 (tm 1)),
 o1 4 (.mov k0)]) (.seq (.block 0 (.seq (.region [
 o1 8 (.mov (tm 0)),
 o1 9 (.load (some 37) (tm 3)),
 o1 10 (.callV (.func 39) [(tm 8), (tm 9)]),
 o1 7 (.mov (tm 10))]) (.cond (tm 7)
 (.seq (.region [
 o1 4 (.mov (.const (.int .i64 8)))]) .ret)
 (.seq (.regionD [
 o1 12 (.mov (tm 0)),
 o1 13 (.nilCheck (tm 12)),
 o1 14 (.fieldAddr 1 (tm 13)),
 o1 15 (.load none (tm 14)),
 o1 16 (.lenSl (tm 15)),
 o1 17 (.mov (tm 0)),
 o1 18 (.nilCheck (tm 17)),
 o1 19 (.fieldAddr 0 (tm 18)),
 o1 20 (.load none (tm 19)),
 o2 21 (.bin .geq (so (.binOp .geq 3 (tm 16) (tm 20) 3) 4) (tm 16) (tm 20)),
 o2 11 (.mov (tm 21))]) (.cond (tm 11)
 (.seq (.region [
 o1 4 (.mov (.const (.int .i64 7)))]) .ret)
 .skip))))) (.seq (.region [
 o1 5 (.mov k0)]) (.seq (.block 1 (.loop zgbQ_l0)) (.seq (.region [
 o1 42 (.buildSlice 29 [] 0 []),
 o1 43 (.mov (tm 0)),
 o1 44 (.nilCheck (tm 43)),
 o1 45 (.fieldAddr 1 (tm 44)),
 o1 46 (.load none (tm 45)),
 o1 47 (.mov (tm 5)),
 o1 48 (.sliceSl 37 (tm 46) (some (tm 47)) none none),
 o1 49 (.append 29 37 48 (z32 ++ [(.int .u8 0), (.int .u8 0), (.int .u8 0), (.int .u8 0), (.int .u64 0)]) false (tm 42) (tm 48)),
 o1 6 (.mov (tm 49))]) (.seq (.regionM [[
 o1 50 (.mov (tm 0)),
 o1 52 (.mov (tm 0)),
 o1 53 (.nilCheck (tm 52)),
 o1 54 (.fieldAddr 1 (tm 53)),
 o1 55 (.load none (tm 54)),
 o1 56 (.mov (tm 5)),
 o1 57 (.sliceSl 37 (tm 55) none (some (tm 56)) none),
 o1 59 (.load (some 37) (tm 3)),
 o1 62 (.mov (tm 6)),
 ⟨some 51, .buildSlice 29 [] 0 [], none, [(some 62, .mov (tm 6), none), (some 59, .load (some 37) (tm 3), none), (some 57, .sliceSl 37 (tm 55) none (some (tm 56)) none, none), (some 56, .mov (tm 5), none), (some 55, .load none (tm 54), none), (some 54, .fieldAddr 1 (tm 53), none), (some 53, .nilCheck (tm 52), none), (some 52, .mov (tm 0), none), (some 50, .mov (tm 0), none)], false⟩,
 ⟨some 58, .append 29 37 48 (z32 ++ [(.int .u8 0), (.int .u8 0), (.int .u8 0), (.int .u8 0), (.int .u64 0)]) false (tm 51) (tm 57), none, [(some 62, .mov (tm 6), none), (some 59, .load (some 37) (tm 3), none), (some 50, .mov (tm 0), none)], false⟩,
 ⟨some 60, .buildSlice 29 (z32 ++ [(.int .u8 0), (.int .u8 0), (.int .u8 0), (.int .u8 0), (.int .u64 0)]) 1 [(0, 37, (tm 59))], none, [(some 62, .mov (tm 6), none), (some 57, .sliceSl 37 (tm 55) none (some (tm 56)) none, none), (some 56, .mov (tm 5), none), (some 55, .load none (tm 54), none), (some 54, .fieldAddr 1 (tm 53), none), (some 53, .nilCheck (tm 52), none), (some 52, .mov (tm 0), none), (some 50, .mov (tm 0), none)], false⟩,
 ⟨some 61, .append 29 37 48 (z32 ++ [(.int .u8 0), (.int .u8 0), (.int .u8 0), (.int .u8 0), (.int .u64 0)]) false (tm 58) (tm 60), none, [(some 62, .mov (tm 6), none), (some 50, .mov (tm 0), none)], false⟩,
 ⟨some 63, .append 29 37 48 (z32 ++ [(.int .u8 0), (.int .u8 0), (.int .u8 0), (.int .u8 0), (.int .u64 0)]) false (tm 61) (tm 62), none, [(some 50, .mov (tm 0), none)], false⟩,
 o2 64 (.nilCheck (tm 50)),
 o2 65 (.fieldAddr 1 (tm 64)),
 ⟨none, .store 1 (tm 65) (tm 63), none, [], true⟩],
 [
 o1 50 (.mov (tm 0)),
 o1 52 (.mov (tm 0)),
 o1 53 (.nilCheck (tm 52)),
 o1 54 (.fieldAddr 1 (tm 53)),
 o1 55 (.load none (tm 54)),
 o1 56 (.mov (tm 5)),
 o1 57 (.sliceSl 37 (tm 55) none (some (tm 56)) none),
 o1 59 (.load (some 37) (tm 3)),
 o1 62 (.mov (tm 6)),
 ⟨some 51, .buildSlice 29 [] 0 [], none, [(some 62, .mov (tm 6), none), (some 59, .load (some 37) (tm 3), none), (some 57, .sliceSl 37 (tm 55) none (some (tm 56)) none, none), (some 56, .mov (tm 5), none), (some 55, .load none (tm 54), none), (some 54, .fieldAddr 1 (tm 53), none), (some 53, .nilCheck (tm 52), none), (some 52, .mov (tm 0), none), (some 50, .mov (tm 0), none)], false⟩,
 ⟨some 60, .buildSlice 29 (z32 ++ [(.int .u8 0), (.int .u8 0), (.int .u8 0), (.int .u8 0), (.int .u64 0)]) 1 [(0, 37, (tm 59))], none, [(some 62, .mov (tm 6), none), (some 57, .sliceSl 37 (tm 55) none (some (tm 56)) none, none), (some 56, .mov (tm 5), none), (some 55, .load none (tm 54), none), (some 54, .fieldAddr 1 (tm 53), none), (some 53, .nilCheck (tm 52), none), (some 52, .mov (tm 0), none), (some 50, .mov (tm 0), none)], false⟩,
 ⟨some 58, .append 29 37 48 (z32 ++ [(.int .u8 0), (.int .u8 0), (.int .u8 0), (.int .u8 0), (.int .u64 0)]) false (tm 51) (tm 57), none, [(some 62, .mov (tm 6), none), (some 59, .load (some 37) (tm 3), none), (some 50, .mov (tm 0), none)], false⟩,
 ⟨some 61, .append 29 37 48 (z32 ++ [(.int .u8 0), (.int .u8 0), (.int .u8 0), (.int .u8 0), (.int .u64 0)]) false (tm 58) (tm 60), none, [(some 62, .mov (tm 6), none), (some 50, .mov (tm 0), none)], false⟩,
 ⟨some 63, .append 29 37 48 (z32 ++ [(.int .u8 0), (.int .u8 0), (.int .u8 0), (.int .u8 0), (.int .u64 0)]) false (tm 61) (tm 62), none, [(some 50, .mov (tm 0), none)], false⟩,
 o2 64 (.nilCheck (tm 50)),
 o2 65 (.fieldAddr 1 (tm 64)),
 ⟨none, .store 1 (tm 65) (tm 63), none, [], true⟩],
 [
 o1 50 (.mov (tm 0)),
 o1 52 (.mov (tm 0)),
 o1 53 (.nilCheck (tm 52)),
 o1 54 (.fieldAddr 1 (tm 53)),
 o1 55 (.load none (tm 54)),
 o1 56 (.mov (tm 5)),
 o1 57 (.sliceSl 37 (tm 55) none (some (tm 56)) none),
 o1 59 (.load (some 37) (tm 3)),
 o1 62 (.mov (tm 6)),
 ⟨some 60, .buildSlice 29 (z32 ++ [(.int .u8 0), (.int .u8 0), (.int .u8 0), (.int .u8 0), (.int .u64 0)]) 1 [(0, 37, (tm 59))], none, [(some 62, .mov (tm 6), none), (some 57, .sliceSl 37 (tm 55) none (some (tm 56)) none, none), (some 56, .mov (tm 5), none), (some 55, .load none (tm 54), none), (some 54, .fieldAddr 1 (tm 53), none), (some 53, .nilCheck (tm 52), none), (some 52, .mov (tm 0), none), (some 50, .mov (tm 0), none)], false⟩,
 ⟨some 51, .buildSlice 29 [] 0 [], none, [(some 62, .mov (tm 6), none), (some 59, .load (some 37) (tm 3), none), (some 57, .sliceSl 37 (tm 55) none (some (tm 56)) none, none), (some 56, .mov (tm 5), none), (some 55, .load none (tm 54), none), (some 54, .fieldAddr 1 (tm 53), none), (some 53, .nilCheck (tm 52), none), (some 52, .mov (tm 0), none), (some 50, .mov (tm 0), none)], false⟩,
 ⟨some 58, .append 29 37 48 (z32 ++ [(.int .u8 0), (.int .u8 0), (.int .u8 0), (.int .u8 0), (.int .u64 0)]) false (tm 51) (tm 57), none, [(some 62, .mov (tm 6), none), (some 59, .load (some 37) (tm 3), none), (some 50, .mov (tm 0), none)], false⟩,
 ⟨some 61, .append 29 37 48 (z32 ++ [(.int .u8 0), (.int .u8 0), (.int .u8 0), (.int .u8 0), (.int .u64 0)]) false (tm 58) (tm 60), none, [(some 62, .mov (tm 6), none), (some 50, .mov (tm 0), none)], false⟩,
 ⟨some 63, .append 29 37 48 (z32 ++ [(.int .u8 0), (.int .u8 0), (.int .u8 0), (.int .u8 0), (.int .u64 0)]) false (tm 61) (tm 62), none, [(some 50, .mov (tm 0), none)], false⟩,
 o2 64 (.nilCheck (tm 50)),
 o2 65 (.fieldAddr 1 (tm 64)),
 ⟨none, .store 1 (tm 65) (tm 63), none, [], true⟩]]) (.seq (.region [
 o1 4 (.mov k0)]) .ret)))))))
def zgbQ : AFunc := ⟨66, [(4, none)], zgbQ_c, none⟩
theorem zgbQ_t0 : tableOf Tryz.prog 12 = some zgbQ := by kernel_rfl
theorem zgbQ_t : T0 12 = some zgbQ := withKept_t rfl (withTrue_t rfl zgbQ_t0)
theorem zgbQ_runs {v0 v1 : Value} {h : Heap} {R : RP} {X : XP} (k : RunC Tryz.prog T0 zgbQ_c ⟨[v0, v1, U, U, U, U, U, U, U, U, U, U, U, U, U, U, U, U, U, U, U, U, U, U, U, U, U, U, U, U, U, U, U, U, U, U, U, U, U, U, U, U, U, U, U, U, U, U, U, U, U, U, U, U, U, U, U, U, U, U, U, U, U, U, U, U], [], h, none⟩ (bodyQ Tryz.prog T0 [(4, none)] R X)) :
 Runs Tryz.prog T0 (.fn 12) [v0, v1] h R X := Runs.fn zgbQ_t rfl k
abbrev zgbQ_l0_M : List Nat := [0, 0, 0, 0, 0, 2, 0, 0, 0, 0, 0, 0, 0, 0, 0, 0, 0, 0, 0, 0, 0, 0, 1, 1, 1, 1, 1, 1, 1, 1, 1, 1, 1, 1, 1, 1, 1, 1, 1, 1, 1, 1, 0, 0, 0, 0, 0, 0, 0, 0, 0, 0, 0, 0, 0, 0, 0, 0, 0, 0, 0, 0, 0, 0, 0, 0]
abbrev fn_zqbQ : FuncId := 14
def zqbQ_c : ACode :=
 (.seq (.region [
 o1 2 (.mov (.const (.pointer none))),
 o1 3 (.mov k0)]) (.seq (.seq (.region [
 o1 4 (.mov (tm 0)),
 o1 5 (.bin .lss (so (.binOp .lss 3 (tm 4) k0 3) 4) (tm 4) k0),
 o1 6 (.mov (tm 5)),
 o5 7 (.mov (tm 0)) 6,
 o5 8 (.bin .gtr (so (.binOp .gtr 3 (tm 7) (.const (.int .i64 4096)) 3) 4) (tm 7) (.const (.int .i64 4096))) 6,
 o1 9 (.pick (tm 6) (.const (.bool true)) (tm 8))]) (.cond (tm 9)
 (.seq (.region [
 o1 2 (.mov (.const (.pointer none))),
 o1 3 (.mov (.const (.int .i64 3)))]) .ret)
 .skip)) (.seq (.region [
 o1 10 (.mov (tm 0)),
 o1 11 (.mkMap),
 o1 12 (.build [(.int .i64 0), (.map none)] [(0, 1, (tm 10)), (1, 1, (tm 11))]),
 o1 13 (.box 64 (tm 12)),
 o1 2 (.mov (tm 13)),
 o1 3 (.mov k0)]) .ret)))
def zqbQ : AFunc := ⟨14, [(2, none), (3, none)], zqbQ_c, none⟩
theorem zqbQ_t0 : tableOf Tryz.prog 14 = some zqbQ := by kernel_rfl
theorem zqbQ_t : T0 14 = some zqbQ := withKept_t rfl (withTrue_t rfl zqbQ_t0)
theorem zqbQ_runs {v0 : Value} {h : Heap} {R : RP} {X : XP} (k : RunC Tryz.prog T0 zqbQ_c ⟨[v0, U, U, U, U, U, U, U, U, U, U, U, U, U], [], h, none⟩ (bodyQ Tryz.prog T0 [(2, none), (3, none)] R X)) :
 Runs Tryz.prog T0 (.fn 14) [v0] h R X := Runs.fn zqbQ_t rfl k
abbrev fn_ztbQ : FuncId := 15
def ztbQ_c : ACode :=
 (.seq (.region [
 o1 3 (.box 29 (tm 1)),
 o1 4 (.mov (.const (.bool false)))]) (.seq (.seq (.region [
 o1 7 (.mov (tm 0)),
 o1 8 (.callV (.func 41) [(tm 7)])]) (.cond (tm 8)
 (.seq (.region [
 o1 4 (.mov (.const (.bool false)))]) .ret)
 .skip)) (.seq (.regionD [
 o1 10 (.mov (tm 0)),
 o1 11 (.nilCheck (tm 10)),
 o1 12 (.fieldAddr 1 (tm 11)),
 o1 13 (.load none (tm 12)),
 o1 14 (.load (some 37) (tm 3)),
 o1 15 (.lookup (.slice 54) (.agg ⟨[]⟩) true (tm 13) (tm 14)),
 o1 9 (.mov (tm 15)),
 o1 16 (.extract 0 (tm 9)),
 o1 17 (.extract 1 (tm 9)),
 ⟨some 5, .alloc 61 [], none, [(some 17, .extract 1 (tm 9), none), (some 16, .extract 0 (tm 9), none), (some 9, .mov (tm 15), none), (some 15, .lookup (.slice 54) (.agg ⟨[]⟩) true (tm 13) (tm 14), none), (some 14, .load (some 37) (tm 3), none), (some 13, .load none (tm 12), none), (some 12, .fieldAddr 1 (tm 11), none), (some 11, .nilCheck (tm 10), none), (some 10, .mov (tm 0), none)], false⟩,
 ⟨none, .store 0 (tm 5) (tm 16), none, [(some 17, .extract 1 (tm 9), none)], false⟩,
 o2 6 (.mov (tm 17))]) (.seq (.region [
 o1 18 (.mov (tm 6)),
 o1 4 (.mov (tm 18))]) .ret))))
def ztbQ : AFunc := ⟨19, [(4, none)], ztbQ_c, none⟩
theorem ztbQ_t0 : tableOf Tryz.prog 15 = some ztbQ := by kernel_rfl
theorem ztbQ_t : T0 15 = some ztbQ := withKept_t rfl (withTrue_t rfl ztbQ_t0)
theorem ztbQ_runs {v0 v1 : Value} {h : Heap} {R : RP} {X : XP} (k : RunC Tryz.prog T0 ztbQ_c ⟨[v0, v1, U, U, U, U, U, U, U, U, U, U, U, U, U, U, U, U, U], [], h, none⟩ (bodyQ Tryz.prog T0 [(4, none)] R X)) :
 Runs Tryz.prog T0 (.fn 15) [v0, v1] h R X := Runs.fn ztbQ_t rfl k
abbrev fn_zubQ : FuncId := 16
def zubQ_c : ACode :=
 (.seq (.region [
 o1 2 (.mov k0)]) (.seq (.seq (.region [
 o1 3 (.mov (tm 0)),
 o1 4 (.callV (.func 41) [(tm 3)])]) (.cond (tm 4)
 (.seq (.region [
 o1 2 (.mov k0)]) .ret)
 .skip)) (.seq (.region [
 o1 5 (.mov (tm 0)),
 o1 6 (.nilCheck (tm 5)),
 o1 7 (.fieldAddr 1 (tm 6)),
 o1 8 (.load none (tm 7)),
 o1 9 (.lenMap (tm 8)),
 o1 2 (.mov (tm 9))]) .ret)))
def zubQ : AFunc := ⟨10, [(2, none)], zubQ_c, none⟩
theorem zubQ_t0 : tableOf Tryz.prog 16 = some zubQ := by kernel_rfl
theorem zubQ_t : T0 16 = some zubQ := withKept_t rfl (withTrue_t rfl zubQ_t0)
theorem zubQ_runs {v0 : Value} {h : Heap} {R : RP} {X : XP} (k : RunC Tryz.prog T0 zubQ_c ⟨[v0, U, U, U, U, U, U, U, U, U], [], h, none⟩ (bodyQ Tryz.prog T0 [(2, none)] R X)) :
 Runs Tryz.prog T0 (.fn 16) [v0] h R X := Runs.fn zubQ_t rfl k
abbrev fn_zycQ : FuncId := 17
def zycQ_c : ACode :=
 (.seq (.region [
 o1 2 (.mov (.const (.pointer none)))]) (.seq (.region [
 o1 3 (.mov (tm 0)),
 o1 4 (.callV (.func 42) [(tm 3)]),
 o1 5 (.build [(.slice none 0 0), (.int .i64 0), (.int .i64 0), (.int .i64 0), (.bool false)] [(0, 1, (tm 4)), (4, 1, (.const (.bool true)))]),
 o1 6 (.box 82 (tm 5)),
 o1 2 (.mov (tm 6))]) .ret))
def zycQ : AFunc := ⟨7, [(2, none)], zycQ_c, none⟩
theorem zycQ_t0 : tableOf Tryz.prog 17 = some zycQ := by kernel_rfl
theorem zycQ_t : T0 17 = some zycQ := withKept_t rfl (withTrue_t rfl zycQ_t0)
theorem zycQ_runs {v0 : Value} {h : Heap} {R : RP} {X : XP} (k : RunC Tryz.prog T0 zycQ_c ⟨[v0, U, U, U, U, U, U], [], h, none⟩ (bodyQ Tryz.prog T0 [(2, none)] R X)) :
 Runs Tryz.prog T0 (.fn 17) [v0] h R X := Runs.fn zycQ_t rfl k
abbrev fn_zhdQ : FuncId := 18
def zhdQ_c : ACode :=
 (.seq (.region [
 o1 2 (.mov k0)]) (.seq (.region [
 o1 3 (.mov (tm 0)),
 o1 4 (.mov (tm 0)),
 o1 5 (.mkFunc (.func 44) [(tm 4)] []),
 o1 6 (.callV (.func 43) [(tm 3), (tm 5)]),
 o1 2 (.mov (tm 6))]) .ret))
def zhdQ : AFunc := ⟨7, [(2, none)], zhdQ_c, none⟩
theorem zhdQ_t0 : tableOf Tryz.prog 18 = some zhdQ := by kernel_rfl
theorem zhdQ_t : T0 18 = some zhdQ := withKept_t rfl (withTrue_t rfl zhdQ_t0)
theorem zhdQ_runs {v0 : Value} {h : Heap} {R : RP} {X : XP} (k : RunC Tryz.prog T0 zhdQ_c ⟨[v0, U, U, U, U, U, U], [], h, none⟩ (bodyQ Tryz.prog T0 [(2, none)] R X)) :
 Runs Tryz.prog T0 (.fn 18) [v0] h R X := Runs.fn zhdQ_t rfl k
abbrev fn_zidQ : FuncId := 19
def zidQ_c : ACode :=
 (.seq (.region [
 o1 2 (.mov k0)]) (.seq (.seq (.region [
 o1 3 (.mov (tm 0)),
 o1 4 (.eq .ptr false (so (.binOp .eql 52 (tm 3) (.const (.pointer none)) 52) 4) (tm 3) (.const (.pointer none))),
 o1 5 (.mov (tm 4)),
 o5 6 (.mov (tm 0)) 5,
 o5 7 (.nilCheck (tm 6)) 5,
 o5 8 (.fieldAddr 4 (tm 7)) 5,
 o5 9 (.load none (tm 8)) 5,
 o5 10 (.raw (so (.unOp .not 4 (tm 9)) 4)) 5,
 o1 11 (.pick (tm 5) (.const (.bool true)) (tm 10)),
 o1 12 (.mov (tm 11)),
 o5 13 (.mov (tm 0)) 12,
 o5 14 (.nilCheck (tm 13)) 12,
 o5 15 (.fieldAddr 2 (tm 14)) 12,
 o5 16 (.fieldAddr 0 (tm 15)) 12,
 o5 17 (.load none (tm 16)) 12,
 o5 18 (.bin .neq (so (.binOp .neq 33 (tm 17) k0 33) 4) (tm 17) k0) 12,
 o1 19 (.pick (tm 12) (.const (.bool true)) (tm 18))]) (.cond (tm 19)
 (.seq (.region [
 o1 2 (.mov k0)]) .ret)
 .skip)) (.seq (.regionD [
 o1 20 (.mov (tm 0)),
 o1 21 (.nilCheck (tm 20)),
 o1 22 (.fieldAddr 0 (tm 21)),
 o1 23 (.load none (tm 22)),
 o1 24 (.lenSl (tm 23)),
 o1 25 (.mov (tm 0)),
 o1 26 (.nilCheck (tm 25)),
 o1 27 (.fieldAddr 1 (tm 26)),
 o1 28 (.load none (tm 27)),
 o2 29 (.bin .sub (so (.binOp .sub 3 (tm 24) (tm 28) 3) 3) (tm 24) (tm 28)),
 o2 2 (.mov (tm 29))]) .ret)))
def zidQ : AFunc := ⟨30, [(2, none)], zidQ_c, none⟩
theorem zidQ_t0 : tableOf Tryz.prog 19 = some zidQ := by kernel_rfl
theorem zidQ_t : T0 19 = some zidQ := withKept_t rfl (withTrue_t rfl zidQ_t0)
theorem zidQ_runs {v0 : Value} {h : Heap} {R : RP} {X : XP} (k : RunC Tryz.prog T0 zidQ_c ⟨[v0, U, U, U, U, U, U, U, U, U, U, U, U, U, U, U, U, U, U, U, U, U, U, U, U, U, U, U, U, U], [], h, none⟩ (bodyQ Tryz.prog T0 [(2, none)] R X)) :
 Runs Tryz.prog T0 (.fn 19) [v0] h R X := Runs.fn zidQ_t rfl k
abbrev fn_zedQ : FuncId := 20
def zedQ_c : ACode :=
 (.seq (.region [
 o1 1 (.box 52 (tm 0)),
 o1 2 (.alloc 24 [(.int .u8 0), (.int .u8 0), (.int .u8 0), (.int .u8 0)])]) (.seq (.region [
 o1 3 (.load none (tm 1)),
 o1 4 (.mkFunc (.func 46) [] [(tm 1)]),
 o1 5 (.callV (.func 45) [(tm 3), (tm 4)]),
 o3 (.store 4 (tm 2) (tm 5))]) .ret))
def zedQ : AFunc := ⟨6, [(2, some (some 4))], zedQ_c, none⟩
theorem zedQ_t0 : tableOf Tryz.prog 20 = some zedQ := by kernel_rfl
theorem zedQ_t : T0 20 = some zedQ := withKept_t rfl (withTrue_t rfl zedQ_t0)
theorem zedQ_runs {v0 : Value} {h : Heap} {R : RP} {X : XP} (k : RunC Tryz.prog T0 zedQ_c ⟨[v0, U, U, U, U, U], [], h, none⟩ (bodyQ Tryz.prog T0 [(2, some (some 4))] R X)) :
 Runs Tryz.prog T0 (.fn 20) [v0] h R X := Runs.fn zedQ_t rfl k
abbrev fn_zbdQ : FuncId := 21
def zbdQ_c : ACode :=
 (.seq (.region [
 o1 1 (.box 52 (tm 0)),
 o1 2 (.alloc 26 z32)]) (.seq (.region [
 o1 3 (.load none (tm 1)),
 o1 4 (.mkFunc (.func 50) [] [(tm 1)]),
 o1 5 (.callV (.func 49) [(tm 3), (tm 4)]),
 o3 (.store 32 (tm 2) (tm 5))]) .ret))
def zbdQ : AFunc := ⟨6, [(2, some (some 32))], zbdQ_c, none⟩
theorem zbdQ_t0 : tableOf Tryz.prog 21 = some zbdQ := by kernel_rfl
theorem zbdQ_t : T0 21 = some zbdQ := withKept_t rfl (withTrue_t rfl zbdQ_t0)
theorem zbdQ_runs {v0 : Value} {h : Heap} {R : RP} {X : XP} (k : RunC Tryz.prog T0 zbdQ_c ⟨[v0, U, U, U, U, U], [], h, none⟩ (bodyQ Tryz.prog T0 [(2, some (some 32))] R X)) :
 Runs Tryz.prog T0 (.fn 21) [v0] h R X := Runs.fn zbdQ_t rfl k
abbrev fn_zjdQ : FuncId := 22
def zjdQ_c : ACode :=
 (.seq (.region [
 o1 1 (.box 52 (tm 0)),
 o1 2 (.mov (.const (.int .u64 0)))]) (.seq (.region [
 o1 3 (.load none (tm 1)),
 o1 4 (.mkFunc (.func 54) [] [(tm 1)]),
 o1 5 (.callV (.func 53) [(tm 3), (tm 4)]),
 o1 2 (.mov (tm 5))]) .ret))
def zjdQ : AFunc := ⟨6, [(2, none)], zjdQ_c, none⟩
theorem zjdQ_t0 : tableOf Tryz.prog 22 = some zjdQ := by kernel_rfl
theorem zjdQ_t : T0 22 = some zjdQ := withKept_t rfl (withTrue_t rfl zjdQ_t0)
theorem zjdQ_runs {v0 : Value} {h : Heap} {R : RP} {X : XP} (k : RunC Tryz.prog T0 zjdQ_c ⟨[v0, U, U, U, U, U], [], h, none⟩ (bodyQ Tryz.prog T0 [(2, none)] R X)) :
 Runs Tryz.prog T0 (.fn 22) [v0] h R X := Runs.fn zjdQ_t rfl k
abbrev fn_zadQ : FuncId := 23
def zadQ_c : ACode :=
 (.seq (.region [
 o1 2 (.alloc 35 [(.int .i64 0), (.int .i64 0)])]) (.seq (.block 0 (.seq (.region [
 o1 4 (.mov (tm 0)),
 o1 5 (.eq .ptr false (so (.binOp .eql 52 (tm 4) (.const (.pointer none)) 52) 4) (tm 4) (.const (.pointer none))),
 o1 6 (.mov (tm 5)),
 o5 7 (.mov (tm 0)) 6,
 o5 8 (.nilCheck (tm 7)) 6,
 o5 9 (.fieldAddr 4 (tm 8)) 6,
 o5 10 (.load none (tm 9)) 6,
 o5 11 (.raw (so (.unOp .not 4 (tm 10)) 4)) 6,
 o1 12 (.pick (tm 6) (.const (.bool true)) (tm 11)),
 o1 3 (.mov (tm 12))]) (.cond (tm 3)
 (.seq (.region [
 o1 13 (.build [(.int .i64 0), (.int .i64 0)] [(0, 1, (.const (.int .i64 1)))]),
 o3 (.store 2 (tm 2) (tm 13))]) .ret)
 (.seq (.regionD [
 o2 15 (.mov (tm 0)),
 o2 16 (.nilCheck (tm 15)),
 o2 17 (.fieldAddr 2 (tm 16)),
 o2 18 (.fieldAddr 0 (tm 17)),
 o2 19 (.load none (tm 18)),
 o2 20 (.bin .eql (so (.binOp .eql 33 (tm 19) k0 33) 4) (tm 19) k0),
 o2 21 (.mov (tm 20)),
 o4 22 (.mov (tm 0)) 21,
 o4 23 (.nilCheck (tm 22)) 21,
 o4 24 (.fieldAddr 1 (tm 23)) 21,
 o4 25 (.load none (tm 24)) 21,
 o4 26 (.mov (tm 0)) 21,
 o4 27 (.nilCheck (tm 26)) 21,
 o4 28 (.fieldAddr 0 (tm 27)) 21,
 o4 29 (.load none (tm 28)) 21,
 o4 30 (.lenSl (tm 29)) 21,
 ⟨some 31, .bin .lss (so (.binOp .lss 3 (tm 25) (tm 30) 3) 4) (tm 25) (tm 30), some (21, true), [], true⟩,
 o2 32 (.pick (tm 21) (tm 31) (.const (.bool false))),
 o2 14 (.mov (tm 32))]) (.cond (tm 14)
 (.seq (.region [
 o1 33 (.mov (tm 0)),
 o1 34 (.nilCheck (tm 33)),
 o1 35 (.fieldAddr 1 (tm 34)),
 o1 36 (.load none (tm 35)),
 o1 37 (.build [(.int .i64 0), (.int .i64 0)] [(0, 1, (.const (.int .i64 4))), (1, 1, (tm 36))]),
 o3 (.store 2 (tm 2) (tm 37))]) .ret)
 .skip))))) (.seq (.region [
 o1 38 (.mov (tm 0)),
 o1 39 (.nilCheck (tm 38)),
 o1 40 (.fieldAddr 2 (tm 39)),
 o1 41 (.load (some 2) (tm 40)),
 o3 (.store 2 (tm 2) (tm 41))]) .ret)))
def zadQ : AFunc := ⟨42, [(2, some (some 2))], zadQ_c, none⟩
theorem zadQ_t0 : tableOf Tryz.prog 23 = some zadQ := by kernel_rfl
theorem zadQ_t : T0 23 = some zadQ := withKept_t rfl (withTrue_t rfl zadQ_t0)
theorem zadQ_runs {v0 : Value} {h : Heap} {R : RP} {X : XP} (k : RunC Tryz.prog T0 zadQ_c ⟨[v0, U, U, U, U, U, U, U, U, U, U, U, U, U, U, U, U, U, U, U, U, U, U, U, U, U, U, U, U, U, U, U, U, U, U, U, U, U, U, U, U, U], [], h, none⟩ (bodyQ Tryz.prog T0 [(2, some (some 2))] R X)) :
 Runs Tryz.prog T0 (.fn 23) [v0] h R X := Runs.fn zadQ_t rfl k
abbrev fn_zbcQ : FuncId := 24
def zbcQ_c : ACode :=
 (.seq (.region [
 o1 2 (.box 54 (tm 0)),
 o1 3 (.box 54 (tm 1)),
 o1 4 (.mov k0)]) (.seq (.regionD [
 o1 5 (.fieldAddr 0 (tm 2)),
 o1 6 (.sliceArr 4 1 (tm 5) none none),
 o1 7 (.fieldAddr 0 (tm 3)),
 o1 8 (.sliceArr 4 1 (tm 7) none none),
 o1 10 (.fieldAddr 4 (tm 2)),
 o1 11 (.sliceArr 32 1 (tm 10) none none),
 o1 12 (.fieldAddr 4 (tm 3)),
 o1 13 (.sliceArr 32 1 (tm 12) none none),
 o1 15 (.fieldAddr 36 (tm 2)),
 o1 16 (.load none (tm 15)),
 o1 17 (.fieldAddr 36 (tm 3)),
 o1 18 (.load none (tm 17)),
 ⟨some 9, .callV (.func 58) [(tm 6), (tm 8)], none, [(some 18, .load none (tm 17), none), (some 17, .fieldAddr 36 (tm 3), none), (some 16, .load none (tm 15), none), (some 15, .fieldAddr 36 (tm 2), none), (some 13, .sliceArr 32 1 (tm 12) none none, none), (some 12, .fieldAddr 4 (tm 3), none), (some 11, .sliceArr 32 1 (tm 10) none none, none), (some 10, .fieldAddr 4 (tm 2), none)], false⟩,
 ⟨some 14, .callV (.func 58) [(tm 11), (tm 13)], none, [(some 18, .load none (tm 17), none), (some 17, .fieldAddr 36 (tm 3), none), (some 16, .load none (tm 15), none), (some 15, .fieldAddr 36 (tm 2), none)], false⟩,
 o2 19 (.callV (.func 59) [(tm 16), (tm 18)]),
 o2 20 (.buildSlice 3 [(.int .i64 0), (.int .i64 0), (.int .i64 0)] 3 [(0, 1, (tm 9)), (1, 1, (tm 14)), (2, 1, (tm 19))]),
 o2 21 (.callV (.func 57) [(tm 20)]),
 o2 4 (.mov (tm 21))]) .ret))
def zbcQ : AFunc := ⟨22, [(4, none)], zbcQ_c, none⟩
theorem zbcQ_t0 : tableOf Tryz.prog 24 = some zbcQ := by kernel_rfl
theorem zbcQ_t : T0 24 = some zbcQ := withKept_t rfl (withTrue_t rfl zbcQ_t0)
theorem zbcQ_runs {v0 v1 : Value} {h : Heap} {R : RP} {X : XP} (k : RunC Tryz.prog T0 zbcQ_c ⟨[v0, v1, U, U, U, U, U, U, U, U, U, U, U, U, U, U, U, U, U, U, U, U], [], h, none⟩ (bodyQ Tryz.prog T0 [(4, none)] R X)) :
 Runs Tryz.prog T0 (.fn 24) [v0, v1] h R X := Runs.fn zbcQ_t rfl k
abbrev fn_znQ : FuncId := 25
def znQ_c : ACode :=
 (.seq (.region [
 o1 2 (.mov (.const (.pointer none)))]) (.seq (.region [
 o1 3 (.buildSlice 5 [] 0 []),
 o1 4 (.mov (tm 0)),
 o1 5 (.append 5 1 1 [(.int .u8 0)] false (tm 3) (tm 4)),
 o1 6 (.build [(.slice none 0 0), (.int .i64 0), (.int .i64 0), (.int .i64 0)] [(0, 1, (tm 5))]),
 o1 7 (.box 71 (tm 6)),
 o1 2 (.mov (tm 7))]) .ret))
def znQ : AFunc := ⟨8, [(2, none)], znQ_c, none⟩
theorem znQ_t0 : tableOf Tryz.prog 25 = some znQ := by kernel_rfl
theorem znQ_t : T0 25 = some znQ := withKept_t rfl (withTrue_t rfl znQ_t0)
theorem znQ_runs {v0 : Value} {h : Heap} {R : RP} {X : XP} (k : RunC Tryz.prog T0 znQ_c ⟨[v0, U, U, U, U, U, U, U], [], h, none⟩ (bodyQ Tryz.prog T0 [(2, none)] R X)) :
 Runs Tryz.prog T0 (.fn 25) [v0] h R X := Runs.fn znQ_t rfl k
abbrev fn_zuQ : FuncId := 26
def zuQ_l0 : ACode :=
 (.seq (.seq (.region [
 o1 40 (.mov (tm 7)),
 o1 41 (.mov (tm 5)),
 o1 42 (.lenSl (tm 41)),
 o1 43 (.bin .lss (so (.binOp .lss 3 (tm 40) (tm 42) 3) 4) (tm 40) (tm 42))]) (.cond (tm 43)
 .skip
 (.exit 0))) (.seq (.block 1 (.region [
 o1 46 (.mov (tm 6)),
 o1 47 (.bin .shl (so (.binOp .shl 27 (tm 46) (.const (.int .u64 8)) 102) 27) (tm 46) (.const (.int .u64 8))),
 o1 48 (.mov (tm 5)),
 o1 49 (.mov (tm 7)),
 o1 50 (.indexSl 1 (tm 48) (tm 49)),
 o1 51 (.load none (tm 50)),
 o1 52 (.conv .u64 (so (.convert 5 27 (tm 51)) 27) (tm 51)),
 o1 53 (.bin .or (so (.binOp .or 27 (tm 47) (tm 52) 27) 27) (tm 47) (tm 52)),
 o1 6 (.mov (tm 53))])) (.region [
 o1 44 (.mov (tm 7)),
 o1 45 (.bin .add (so (.binOp .add 3 (tm 44) (.const (.int .i64 1)) 3) 3) (tm 44) (.const (.int .i64 1))),
 o1 7 (.mov (tm 45))])))
def zuQ_c : ACode :=
 (.seq (.region [
 o1 2 (.mov k0)]) (.seq (.region [
 o1 8 (.mov (tm 0)),
 o1 9 (.nilCheck (tm 8)),
 o1 10 (.fieldAddr 1 (tm 9)),
 o1 11 (.load none (tm 10)),
 o1 3 (.mov (tm 11))]) (.seq (.region [
 o1 12 (.mov (tm 0)),
 o1 13 (.mov (tm 3)),
 o1 14 (.callV (.func 60) [(tm 12), (.const (.int .i64 1)), (tm 13)]),
 o1 4 (.mov (tm 14))]) (.seq (.seq (.region [
 o1 15 (.mov (tm 4)),
 o1 16 (.lenSl (tm 15)),
 o1 17 (.bin .eql (so (.binOp .eql 3 (tm 16) (.const (.int .i64 1)) 3) 4) (tm 16) (.const (.int .i64 1))),
 o1 18 (.mov (tm 17)),
 o4 19 (.mov (tm 4)) 18,
 o4 20 (.indexSl 1 (tm 19) k0) 18,
 o4 21 (.load none (tm 20)) 18,
 o4 22 (.bin .gtr (so (.binOp .gtr 5 (tm 21) (.const (.int .u8 8)) 5) 4) (tm 21) (.const (.int .u8 8))) 18,
 o1 23 (.pick (tm 18) (tm 22) (.const (.bool false)))]) (.cond (tm 23)
 (.region [
 o1 24 (.mov (tm 0)),
 o1 25 (.mov (tm 3)),
 o1 26 (.callV (.func 61) [(tm 24), (.const (.int .i64 5)), (tm 25)])])
 .skip)) (.seq (.seq (.region [
 o1 27 (.mov (tm 0)),
 o1 28 (.nilCheck (tm 27)),
 o1 29 (.fieldAddr 2 (tm 28)),
 o1 30 (.fieldAddr 0 (tm 29)),
 o1 31 (.load none (tm 30)),
 o1 32 (.bin .neq (so (.binOp .neq 33 (tm 31) k0 33) 4) (tm 31) k0)]) (.cond (tm 32)
 (.seq (.region [
 o1 2 (.mov k0)]) .ret)
 .skip)) (.seq (.region [
 o1 33 (.mov (tm 0)),
 o1 34 (.mov (tm 4)),
 o1 35 (.indexSl 1 (tm 34) k0),
 o1 36 (.load none (tm 35)),
 o1 37 (.conv .i64 (so (.convert 5 3 (tm 36)) 3) (tm 36)),
 o1 38 (.mov (tm 3)),
 o1 39 (.callV (.func 60) [(tm 33), (tm 37), (tm 38)]),
 o1 5 (.mov (tm 39))]) (.seq (.region [
 o1 6 (.mov (.const (.int .u64 0)))]) (.seq (.seq (.region [
 o1 7 (.mov k0)]) (.block 0 (.loop zuQ_l0))) (.seq (.seq (.region [
 o1 54 (.mov (tm 5)),
 o1 55 (.lenSl (tm 54)),
 o1 56 (.bin .gtr (so (.binOp .gtr 3 (tm 55) k0 3) 4) (tm 55) k0),
 o1 57 (.mov (tm 56)),
 o4 58 (.mov (tm 5)) 57,
 o4 59 (.indexSl 1 (tm 58) k0) 57,
 o4 60 (.load none (tm 59)) 57,
 o4 61 (.bin .eql (so (.binOp .eql 5 (tm 60) (.const (.int .u8 0)) 5) 4) (tm 60) (.const (.int .u8 0))) 57,
 o1 62 (.pick (tm 57) (tm 61) (.const (.bool false))),
 o1 63 (.mov (tm 62)),
 o5 64 (.mov (tm 6)) 63,
 o5 65 (.bin .shr (so (.binOp .shr 27 (tm 64) (.const (.int .u64 63)) 102) 27) (tm 64) (.const (.int .u64 63))) 63,
 o5 66 (.bin .eql (so (.binOp .eql 27 (tm 65) (.const (.int .u64 1)) 27) 4) (tm 65) (.const (.int .u64 1))) 63,
 o1 67 (.pick (tm 63) (.const (.bool true)) (tm 66))]) (.cond (tm 67)
 (.region [
 o1 68 (.mov (tm 0)),
 o1 69 (.mov (tm 3)),
 o1 70 (.callV (.func 61) [(tm 68), (.const (.int .i64 5)), (tm 69)])])
 .skip)) (.seq (.seq (.region [
 o1 71 (.mov (tm 0)),
 o1 72 (.nilCheck (tm 71)),
 o1 73 (.fieldAddr 2 (tm 72)),
 o1 74 (.fieldAddr 0 (tm 73)),
 o1 75 (.load none (tm 74)),
 o1 76 (.bin .neq (so (.binOp .neq 33 (tm 75) k0 33) 4) (tm 75) k0)]) (.cond (tm 76)
 (.seq (.region [
 o1 2 (.mov k0)]) .ret)
 .skip)) (.seq (.region [
 o1 77 (.mov (tm 6)),
 o1 78 (.conv .i64 (so (.convert 27 3 (tm 77)) 3) (tm 77)),
 o1 2 (.mov (tm 78))]) .ret)))))))))))
def zuQ : AFunc := ⟨79, [(2, none)], zuQ_c, none⟩
theorem zuQ_t0 : tableOf Tryz.prog 26 = some zuQ := by kernel_rfl
theorem zuQ_t : T0 26 = some zuQ := withKept_t rfl (withTrue_t rfl zuQ_t0)
theorem zuQ_runs {v0 : Value} {h : Heap} {R : RP} {X : XP} (k : RunC Tryz.prog T0 zuQ_c ⟨[v0, U, U, U, U, U, U, U, U, U, U, U, U, U, U, U, U, U, U, U, U, U, U, U, U, U, U, U, U, U, U, U, U, U, U, U, U, U, U, U, U, U, U, U, U, U, U, U, U, U, U, U, U, U, U, U, U, U, U, U, U, U, U, U, U, U, U, U, U, U, U, U, U, U, U, U, U, U, U], [], h, none⟩ (bodyQ Tryz.prog T0 [(2, none)] R X)) :
 Runs Tryz.prog T0 (.fn 26) [v0] h R X := Runs.fn zuQ_t rfl k
abbrev zuQ_l0_M : List Nat := [0, 0, 0, 0, 0, 0, 2, 2, 0, 0, 0, 0, 0, 0, 0, 0, 0, 0, 0, 0, 0, 0, 0, 0, 0, 0, 0, 0, 0, 0, 0, 0, 0, 0, 0, 0, 0, 0, 0, 0, 1, 1, 1, 1, 1, 1, 1, 1, 1, 1, 1, 1, 1, 1, 0, 0, 0, 0, 0, 0, 0, 0, 0, 0, 0, 0, 0, 0, 0, 0, 0, 0, 0, 0, 0, 0, 0, 0, 0]
abbrev fn_ztQ : FuncId := 27
def ztQ_l0 : ACode :=
 (.seq (.seq (.region [
 o1 12 (.mov (tm 5)),
 o1 13 (.mov (tm 4)),
 o1 14 (.lenSl (tm 13)),
 o1 15 (.bin .lss (so (.binOp .lss 3 (tm 12) (tm 14) 3) 4) (tm 12) (tm 14))]) (.cond (tm 15)
 .skip
 (.exit 0))) (.seq (.block 1 (.region [
 o1 18 (.mov (tm 5)),
 o1 19 (.mov (tm 4)),
 o1 20 (.mov (tm 5)),
 o1 21 (.indexSl 1 (tm 19) (tm 20)),
 o1 22 (.load none (tm 21)),
 o1 23 (.indexArr 4 1 (tm 3) (tm 18)),
 o3 (.store 1 (tm 23) (tm 22))])) (.region [
 o1 16 (.mov (tm 5)),
 o1 17 (.bin .add (so (.binOp .add 3 (tm 16) (.const (.int .i64 1)) 3) 3) (tm 16) (.const (.int .i64 1))),
 o1 5 (.mov (tm 17))])))
def ztQ_c : ACode :=
 (.seq (.region [
 o1 2 (.alloc 24 [(.int .u8 0), (.int .u8 0), (.int .u8 0), (.int .u8 0)])]) (.seq (.region [
 o1 3 (.alloc 24 [(.int .u8 0), (.int .u8 0), (.int .u8 0), (.int .u8 0)])]) (.seq (.region [
 o1 6 (.mov (tm 0)),
 o1 7 (.mov (tm 0)),
 o1 8 (.nilCheck (tm 7)),
 o1 9 (.fieldAddr 1 (tm 8)),
 o1 10 (.load none (tm 9)),
 o1 11 (.callV (.func 60) [(tm 6), (.const (.int .i64 4)), (tm 10)]),
 o1 4 (.mov (tm 11))]) (.seq (.seq (.region [
 o1 5 (.mov k0)]) (.block 0 (.loop ztQ_l0))) (.seq (.region [
 o1 24 (.load (some 4) (tm 3)),
 o3 (.store 4 (tm 2) (tm 24))]) .ret)))))
def ztQ : AFunc := ⟨25, [(2, some (some 4))], ztQ_c, none⟩
theorem ztQ_t0 : tableOf Tryz.prog 27 = some ztQ := by kernel_rfl
theorem ztQ_t : T0 27 = some ztQ := withKept_t rfl (withTrue_t rfl ztQ_t0)
theorem ztQ_runs {v0 : Value} {h : Heap} {R : RP} {X : XP} (k : RunC Tryz.prog T0 ztQ_c ⟨[v0, U, U, U, U, U, U, U, U, U, U, U, U, U, U, U, U, U, U, U, U, U, U, U, U], [], h, none⟩ (bodyQ Tryz.prog T0 [(2, some (some 4))] R X)) :
 Runs Tryz.prog T0 (.fn 27) [v0] h R X := Runs.fn ztQ_t rfl k
abbrev ztQ_l0_M : List Nat := [0, 0, 0, 0, 0, 2, 0, 0, 0, 0, 0, 0, 1, 1, 1, 1, 1, 1, 1, 1, 1, 1, 1, 1, 0]
abbrev fn_zsQ : FuncId := 28
def zsQ_l0 : ACode :=
 (.seq (.seq (.region [
 o1 12 (.mov (tm 5)),
 o1 13 (.mov (tm 4)),
 o1 14 (.lenSl (tm 13)),
 o1 15 (.bin .lss (so (.binOp .lss 3 (tm 12) (tm 14) 3) 4) (tm 12) (tm 14))]) (.cond (tm 15)
 .skip
 (.exit 0))) (.seq (.block 1 (.region [
 o1 18 (.mov (tm 5)),
 o1 19 (.mov (tm 4)),
 o1 20 (.mov (tm 5)),
 o1 21 (.indexSl 1 (tm 19) (tm 20)),
 o1 22 (.load none (tm 21)),
 o1 23 (.indexArr 32 1 (tm 3) (tm 18)),
 o3 (.store 1 (tm 23) (tm 22))])) (.region [
 o1 16 (.mov (tm 5)),
 o1 17 (.bin .add (so (.binOp .add 3 (tm 16) (.const (.int .i64 1)) 3) 3) (tm 16) (.const (.int .i64 1))),
 o1 5 (.mov (tm 17))])))
def zsQ_c : ACode :=
 (.seq (.region [
 o1 2 (.alloc 26 z32)]) (.seq (.region [
 o1 3 (.alloc 26 z32)]) (.seq (.region [
 o1 6 (.mov (tm 0)),
 o1 7 (.mov (tm 0)),
 o1 8 (.nilCheck (tm 7)),
 o1 9 (.fieldAddr 1 (tm 8)),
 o1 10 (.load none (tm 9)),
 o1 11 (.callV (.func 60) [(tm 6), (.const (.int .i64 32)), (tm 10)]),
 o1 4 (.mov (tm 11))]) (.seq (.seq (.region [
 o1 5 (.mov k0)]) (.block 0 (.loop zsQ_l0))) (.seq (.region [
 o1 24 (.load (some 32) (tm 3)),
 o3 (.store 32 (tm 2) (tm 24))]) .ret)))))
def zsQ : AFunc := ⟨25, [(2, some (some 32))], zsQ_c, none⟩
theorem zsQ_t0 : tableOf Tryz.prog 28 = some zsQ := by kernel_rfl
theorem zsQ_t : T0 28 = some zsQ := withKept_t rfl (withTrue_t rfl zsQ_t0)
theorem zsQ_runs {v0 : Value} {h : Heap} {R : RP} {X : XP} (k : RunC Tryz.prog T0 zsQ_c ⟨[v0, U, U, U, U, U, U, U, U, U, U, U, U, U, U, U, U, U, U, U, U, U, U, U, U], [], h, none⟩ (bodyQ Tryz.prog T0 [(2, some (some 32))] R X)) :
 Runs Tryz.prog T0 (.fn 28) [v0] h R X := Runs.fn zsQ_t rfl k
abbrev zsQ_l0_M : List Nat := [0, 0, 0, 0, 0, 2, 0, 0, 0, 0, 0, 0, 1, 1, 1, 1, 1, 1, 1, 1, 1, 1, 1, 1, 0]
abbrev fn_zvQ : FuncId := 29
def zvQ_l0 : ACode :=
 (.seq (.seq (.region [
 o1 12 (.mov (tm 5)),
 o1 13 (.mov (tm 4)),
 o1 14 (.lenSl (tm 13)),
 o1 15 (.bin .lss (so (.binOp .lss 3 (tm 12) (tm 14) 3) 4) (tm 12) (tm 14))]) (.cond (tm 15)
 .skip
 (.exit 0))) (.seq (.block 1 (.region [
 o1 18 (.mov (tm 3)),
 o1 19 (.bin .shl (so (.binOp .shl 27 (tm 18) (.const (.int .u64 8)) 102) 27) (tm 18) (.const (.int .u64 8))),
 o1 20 (.mov (tm 4)),
 o1 21 (.mov (tm 5)),
 o1 22 (.indexSl 1 (tm 20) (tm 21)),
 o1 23 (.load none (tm 22)),
 o1 24 (.conv .u64 (so (.convert 5 27 (tm 23)) 27) (tm 23)),
 o1 25 (.bin .or (so (.binOp .or 27 (tm 19) (tm 24) 27) 27) (tm 19) (tm 24)),
 o1 3 (.mov (tm 25))])) (.region [
 o1 16 (.mov (tm 5)),
 o1 17 (.bin .add (so (.binOp .add 3 (tm 16) (.const (.int .i64 1)) 3) 3) (tm 16) (.const (.int .i64 1))),
 o1 5 (.mov (tm 17))])))
def zvQ_c : ACode :=
 (.seq (.region [
 o1 2 (.mov (.const (.int .u64 0)))]) (.seq (.region [
 o1 3 (.mov (.const (.int .u64 0)))]) (.seq (.region [
 o1 6 (.mov (tm 0)),
 o1 7 (.mov (tm 0)),
 o1 8 (.nilCheck (tm 7)),
 o1 9 (.fieldAddr 1 (tm 8)),
 o1 10 (.load none (tm 9)),
 o1 11 (.callV (.func 60) [(tm 6), (.const (.int .i64 8)), (tm 10)]),
 o1 4 (.mov (tm 11))]) (.seq (.seq (.region [
 o1 5 (.mov k0)]) (.block 0 (.loop zvQ_l0))) (.seq (.region [
 o1 26 (.mov (tm 3)),
 o1 2 (.mov (tm 26))]) .ret)))))
def zvQ : AFunc := ⟨27, [(2, none)], zvQ_c, none⟩
theorem zvQ_t0 : tableOf Tryz.prog 29 = some zvQ := by kernel_rfl
theorem zvQ_t : T0 29 = some zvQ := withKept_t rfl (withTrue_t rfl zvQ_t0)
theorem zvQ_runs {v0 : Value} {h : Heap} {R : RP} {X : XP} (k : RunC Tryz.prog T0 zvQ_c ⟨[v0, U, U, U, U, U, U, U, U, U, U, U, U, U, U, U, U, U, U, U, U, U, U, U, U, U, U], [], h, none⟩ (bodyQ Tryz.prog T0 [(2, none)] R X)) :
 Runs Tryz.prog T0 (.fn 29) [v0] h R X := Runs.fn zvQ_t rfl k
abbrev zvQ_l0_M : List Nat := [0, 0, 0, 2, 0, 2, 0, 0, 0, 0, 0, 0, 1, 1, 1, 1, 1, 1, 1, 1, 1, 1, 1, 1, 1, 1, 0]
abbrev fn_zfbQ : FuncId := 30
def zfbQ_c : ACode :=
 (.seq (.region [
 o1 2 (.box 29 (tm 0)),
 o1 3 (.box 29 (tm 1)),
 o1 4 (.mov (.const (.bool false)))]) (.seq (.block 0 (.seq (.region [
 o1 6 (.fieldAddr 0 (tm 2)),
 o1 7 (.load (some 4) (tm 6)),
 o1 8 (.fieldAddr 0 (tm 3)),
 o1 9 (.load (some 4) (tm 8)),
 o1 10 (.bin .neq (so (.binOp .neq 24 (tm 7) (tm 9) 24) 4) (tm 7) (tm 9)),
 o1 5 (.mov (tm 10))]) (.cond (tm 5)
 (.seq (.regionD [
 o1 11 (.fieldAddr 0 (tm 2)),
 o1 12 (.sliceArr 4 1 (tm 11) none none),
 o1 13 (.bytesToStr (tm 12)),
 o1 14 (.fieldAddr 0 (tm 3)),
 o1 15 (.sliceArr 4 1 (tm 14) none none),
 o1 16 (.bytesToStr (tm 15)),
 o2 17 (.bin .lss (so (.binOp .lss 9 (tm 13) (tm 16) 9) 4) (tm 13) (tm 16)),
 o2 4 (.mov (tm 17))]) .ret)
 (.seq (.region [
 o1 19 (.fieldAddr 4 (tm 2)),
 o1 20 (.load (some 32) (tm 19)),
 o1 21 (.fieldAddr 4 (tm 3)),
 o1 22 (.load (some 32) (tm 21)),
 o1 23 (.bin .neq (so (.binOp .neq 26 (tm 20) (tm 22) 26) 4) (tm 20) (tm 22)),
 o1 18 (.mov (tm 23))]) (.cond (tm 18)
 (.seq (.regionD [
 o1 24 (.fieldAddr 4 (tm 2)),
 o1 25 (.sliceArr 32 1 (tm 24) none none),
 o1 26 (.bytesToStr (tm 25)),
 o1 27 (.fieldAddr 4 (tm 3)),
 o1 28 (.sliceArr 32 1 (tm 27) none none),
 o1 29 (.bytesToStr (tm 28)),
 o2 30 (.bin .lss (so (.binOp .lss 9 (tm 26) (tm 29) 9) 4) (tm 26) (tm 29)),
 o2 4 (.mov (tm 30))]) .ret)
 .skip))))) (.seq (.region [
 o1 31 (.fieldAddr 36 (tm 2)),
 o1 32 (.load none (tm 31)),
 o1 33 (.fieldAddr 36 (tm 3)),
 o1 34 (.load none (tm 33)),
 o1 35 (.bin .lss (so (.binOp .lss 27 (tm 32) (tm 34) 27) 4) (tm 32) (tm 34)),
 o1 4 (.mov (tm 35))]) .ret)))
def zfbQ : AFunc := ⟨36, [(4, none)], zfbQ_c, none⟩
theorem zfbQ_t0 : tableOf Tryz.prog 30 = some zfbQ := by kernel_rfl
theorem zfbQ_t : T0 30 = some zfbQ := withKept_t rfl (withTrue_t rfl zfbQ_t0)
theorem zfbQ_runs {v0 v1 : Value} {h : Heap} {R : RP} {X : XP} (k : RunC Tryz.prog T0 zfbQ_c ⟨[v0, v1, U, U, U, U, U, U, U, U, U, U, U, U, U, U, U, U, U, U, U, U, U, U, U, U, U, U, U, U, U, U, U, U, U, U], [], h, none⟩ (bodyQ Tryz.prog T0 [(4, none)] R X)) :
 Runs Tryz.prog T0 (.fn 30) [v0, v1] h R X := Runs.fn zfbQ_t rfl k
abbrev fn_zqQ : FuncId := 31
def zqQ_c : ACode :=
 (.seq (.region [
 o1 2 (.alloc 35 [(.int .i64 0), (.int .i64 0)])]) (.seq (.seq (.regionD [
 o2 3 (.mov (tm 0)),
 o2 4 (.nilCheck (tm 3)),
 o2 5 (.fieldAddr 2 (tm 4)),
 o2 6 (.fieldAddr 0 (tm 5)),
 o2 7 (.load none (tm 6)),
 o2 8 (.bin .eql (so (.binOp .eql 33 (tm 7) k0 33) 4) (tm 7) k0),
 o2 9 (.mov (tm 8)),
 o4 10 (.mov (tm 0)) 9,
 o4 11 (.nilCheck (tm 10)) 9,
 o4 12 (.fieldAddr 1 (tm 11)) 9,
 o4 13 (.load none (tm 12)) 9,
 o4 14 (.mov (tm 0)) 9,
 o4 15 (.nilCheck (tm 14)) 9,
 o4 16 (.fieldAddr 0 (tm 15)) 9,
 o4 17 (.load none (tm 16)) 9,
 o4 18 (.lenSl (tm 17)) 9,
 ⟨some 19, .bin .lss (so (.binOp .lss 3 (tm 13) (tm 18) 3) 4) (tm 13) (tm 18), some (9, true), [], true⟩,
 o2 20 (.pick (tm 9) (tm 19) (.const (.bool false)))]) (.cond (tm 20)
 (.seq (.region [
 o1 21 (.mov (tm 0)),
 o1 22 (.nilCheck (tm 21)),
 o1 23 (.fieldAddr 1 (tm 22)),
 o1 24 (.load none (tm 23)),
 o1 25 (.build [(.int .i64 0), (.int .i64 0)] [(0, 1, (.const (.int .i64 4))), (1, 1, (tm 24))]),
 o3 (.store 2 (tm 2) (tm 25))]) .ret)
 .skip)) (.seq (.region [
 o1 26 (.mov (tm 0)),
 o1 27 (.nilCheck (tm 26)),
 o1 28 (.fieldAddr 2 (tm 27)),
 o1 29 (.load (some 2) (tm 28)),
 o3 (.store 2 (tm 2) (tm 29))]) .ret)))
def zqQ : AFunc := ⟨30, [(2, some (some 2))], zqQ_c, none⟩
theorem zqQ_t0 : tableOf Tryz.prog 31 = some zqQ := by kernel_rfl
theorem zqQ_t : T0 31 = some zqQ := withKept_t rfl (withTrue_t rfl zqQ_t0)
theorem zqQ_runs {v0 : Value} {h : Heap} {R : RP} {X : XP} (k : RunC Tryz.prog T0 zqQ_c ⟨[v0, U, U, U, U, U, U, U, U, U, U, U, U, U, U, U, U, U, U, U, U, U, U, U, U, U, U, U, U, U], [], h, none⟩ (bodyQ Tryz.prog T0 [(2, some (some 2))] R X)) :
 Runs Tryz.prog T0 (.fn 31) [v0] h R X := Runs.fn zqQ_t rfl k
abbrev fn_zvbQ : FuncId := 32
def zvbQ_l0 : ACode :=
 (.seq (.region [
 o1 11 (.bin .lss (so (.binOp .lss 3 (tm 10) (tm 9) 3) 0) (tm 10) (tm 9))]) (.seq (.cond (tm 11)
 .skip
 (.exit 0)) (.seq (.block 1 (.seq (.region [
 o1 12 (.indexSl 37 (tm 8) (tm 10)),
 o1 13 (.load (some 37) (tm 12)),
 o1 4 (.alloc 54 (z32 ++ [(.int .u8 0), (.int .u8 0), (.int .u8 0), (.int .u8 0), (.int .u64 0)])),
 o3 (.store 37 (tm 4) (tm 13))]) (.region [
 o1 14 (.mov (tm 2)),
 o1 15 (.load (some 37) (tm 4)),
 o1 16 (.buildSlice 29 (z32 ++ [(.int .u8 0), (.int .u8 0), (.int .u8 0), (.int .u8 0), (.int .u64 0)]) 1 [(0, 37, (tm 15))]),
 o1 17 (.append 29 37 48 (z32 ++ [(.int .u8 0), (.int .u8 0), (.int .u8 0), (.int .u8 0), (.int .u64 0)]) false (tm 14) (tm 16)),
 o1 2 (.mov (tm 17))]))) (.region [
 o1 18 (.bin .add (so (.binOp .add 3 (tm 10) (.const (.int .i64 1)) 3) 3) (tm 10) (.const (.int .i64 1))),
 o1 10 (.mov (tm 18))]))))
def zvbQ_c : ACode :=
 (.seq (.region [
 o1 2 (.mov (.const (.slice none 0 0)))]) (.seq (.seq (.region [
 o1 5 (.mov (tm 0)),
 o1 6 (.callV (.func 41) [(tm 5)])]) (.cond (tm 6)
 (.seq (.region [
 o1 2 (.mov (.const (.slice none 0 0)))]) .ret)
 .skip)) (.seq (.seq (.region [
 o1 7 (.mov (tm 0)),
 o1 8 (.callV (.func 62) [(tm 7)]),
 o1 9 (.lenSl (tm 8)),
 o1 10 (.mov k0)]) (.block 0 (.loop zvbQ_l0))) (.seq (.region [
 o1 19 (.mov (tm 2)),
 o1 2 (.mov (tm 19))]) .ret))))
def zvbQ : AFunc := ⟨20, [(2, none)], zvbQ_c, none⟩
theorem zvbQ_t0 : tableOf Tryz.prog 32 = some zvbQ := by kernel_rfl
theorem zvbQ_t : T0 32 = some zvbQ := withKept_t rfl (withTrue_t rfl zvbQ_t0)
theorem zvbQ_runs {v0 : Value} {h : Heap} {R : RP} {X : XP} (k : RunC Tryz.prog T0 zvbQ_c ⟨[v0, U, U, U, U, U, U, U, U, U, U, U, U, U, U, U, U, U, U, U], [], h, none⟩ (bodyQ Tryz.prog T0 [(2, none)] R X)) :
 Runs Tryz.prog T0 (.fn 32) [v0] h R X := Runs.fn zvbQ_t rfl k
abbrev zvbQ_l0_M : List Nat := [0, 0, 2, 0, 1, 0, 0, 0, 0, 0, 2, 1, 1, 1, 1, 1, 1, 1, 1, 0]
abbrev fn_zwbQ : FuncId := 33
def zwbQ_ra0 : Code := (rangeParts (subCode ((Tryz.prog.funcs[33]?).bind (·.body)) [true, true, false, true, false])).1
def zwbQ_rb0 : Code := (rangeParts (subCode ((Tryz.prog.funcs[33]?).bind (·.body)) [true, true, false, true, false])).2
def zwbQ_a0 : ACode :=
 (.region [
 o1 5 (.alloc 24 [(.int .u8 0), (.int .u8 0), (.int .u8 0), (.int .u8 0)]),
 o3 (.store 4 (tm 5) (tm 11))])
def zwbQ_b0 : ACode :=
 (.block 1 (.seq (.regionD [
 o2 12 (.load none (tm 4)),
 o2 13 (.lenSl (tm 12)),
 o2 14 (.bin .eql (so (.binOp .eql 3 (tm 13) k0 3) 4) (tm 13) k0),
 o2 15 (.mov (tm 14)),
 o5 16 (.load none (tm 4)) 15,
 o5 17 (.load none (tm 4)) 15,
 o5 18 (.lenSl (tm 17)) 15,
 o5 19 (.bin .sub (so (.binOp .sub 3 (tm 18) (.const (.int .i64 1)) 3) 3) (tm 18) (.const (.int .i64 1))) 15,
 o5 20 (.indexSl 4 (tm 16) (tm 19)) 15,
 o5 21 (.load (some 4) (tm 20)) 15,
 o5 22 (.load (some 4) (tm 5)) 15,
 ⟨some 23, .bin .neq (so (.binOp .neq 24 (tm 21) (tm 22) 24) 4) (tm 21) (tm 22), some (15, false), [], true⟩,
 o2 24 (.pick (tm 15) (.const (.bool true)) (tm 23))]) (.cond (tm 24)
 (.region [
 o1 25 (.load none (tm 4)),
 o1 26 (.load (some 4) (tm 5)),
 o1 27 (.buildSlice 24 [(.int .u8 0), (.int .u8 0), (.int .u8 0), (.int .u8 0)] 1 [(0, 4, (tm 26))]),
 o1 28 (.append 24 4 4 [(.int .u8 0), (.int .u8 0), (.int .u8 0), (.int .u8 0)] false (tm 25) (tm 27)),
 o3 (.store 1 (tm 4) (tm 28))])
 .skip)))
theorem zwbQ_ca0 : comp Tryz.prog zwbQ_ra0 = some zwbQ_a0 := by kernel_rfl
theorem zwbQ_cb0 : comp Tryz.prog zwbQ_rb0 = some zwbQ_b0 := by kernel_rfl
theorem zwbQ_na0 : noDefer zwbQ_ra0 = true := by kernel_rfl
theorem zwbQ_nb0 : noDefer zwbQ_rb0 = true := by kernel_rfl
def zwbQ_c : ACode :=
 (.seq (.region [
 o1 3 (.box 26 (tm 1)),
 o1 4 (.alloc 74 [(.slice none 0 0)])]) (.seq (.seq (.region [
 o1 6 (.mov (tm 0)),
 o1 7 (.callV (.func 41) [(tm 6)])]) (.cond (tm 7)
 (.seq (.region [
 o3 (.store 1 (tm 4) (.const (.slice none 0 0)))]) .ret)
 .skip)) (.seq (.seq (.region [
 o1 8 (.mov (tm 0)),
 o1 9 (.load (some 32) (tm 3)),
 o1 10 (.callV (.func 63) [(tm 8), (tm 9)])]) (.block 0 (.rangeFunc (tm 10) [11] zwbQ_ra0 zwbQ_rb0))) (.seq (.region [
 o1 29 (.load none (tm 4)),
 o3 (.store 1 (tm 4) (tm 29))]) .ret))))
def zwbQ : AFunc := ⟨30, [(4, some none)], zwbQ_c, none⟩
theorem zwbQ_t0 : tableOf Tryz.prog 33 = some zwbQ := by kernel_rfl
theorem zwbQ_t : T0 33 = some zwbQ := withKept_t rfl (withTrue_t rfl zwbQ_t0)
theorem zwbQ_runs {v0 v1 : Value} {h : Heap} {R : RP} {X : XP} (k : RunC Tryz.prog T0 zwbQ_c ⟨[v0, v1, U, U, U, U, U, U, U, U, U, U, U, U, U, U, U, U, U, U, U, U, U, U, U, U, U, U, U, U], [], h, none⟩ (bodyQ Tryz.prog T0 [(4, some none)] R X)) :
 Runs Tryz.prog T0 (.fn 33) [v0, v1] h R X := Runs.fn zwbQ_t rfl k
abbrev fn_zsbQ : FuncId := 34
def zsbQ_l0 : ACode :=
 (.seq (.region [
 o1 25 (.bin .lss (so (.binOp .lss 3 (tm 24) (tm 23) 3) 0) (tm 24) (tm 23))]) (.seq (.cond (tm 25)
 .skip
 (.exit 0)) (.seq (.block 1 (.seq (.region [
 o1 26 (.indexSl 37 (tm 22) (tm 24)),
 o1 27 (.load (some 37) (tm 26)),
 o1 7 (.alloc 54 (z32 ++ [(.int .u8 0), (.int .u8 0), (.int .u8 0), (.int .u8 0), (.int .u64 0)])),
 o3 (.store 37 (tm 7) (tm 27))]) (.seq (.region [
 o1 28 (.mov (tm 4)),
 o1 29 (.fieldAddr 0 (tm 7)),
 o1 30 (.load (some 4) (tm 29)),
 o1 31 (.callV (.func 66) [(tm 28), (tm 30)])]) (.seq (.region [
 o1 32 (.mov (tm 4)),
 o1 33 (.fieldAddr 4 (tm 7)),
 o1 34 (.load (some 32) (tm 33)),
 o1 35 (.callV (.func 67) [(tm 32), (tm 34)])]) (.region [
 o1 36 (.mov (tm 4)),
 o1 37 (.fieldAddr 36 (tm 7)),
 o1 38 (.load none (tm 37)),
 o1 39 (.callV (.func 68) [(tm 36), (tm 38)])]))))) (.region [
 o1 40 (.bin .add (so (.binOp .add 3 (tm 24) (.const (.int .i64 1)) 3) 3) (tm 24) (.const (.int .i64 1))),
 o1 24 (.mov (tm 40))]))))
def zsbQ_c : ACode :=
 (.seq (.region [
 o1 2 (.mov (.const (.slice none 0 0))),
 o1 3 (.mov k0)]) (.seq (.seq (.region [
 o1 8 (.mov (tm 0)),
 o1 9 (.callV (.func 41) [(tm 8)])]) (.cond (tm 9)
 (.seq (.region [
 o1 2 (.mov (.const (.slice none 0 0))),
 o1 3 (.mov (.const (.int .i64 1)))]) .ret)
 .skip)) (.seq (.region [
 o1 11 (.callV (.func 64) [(.const (.int .i64 1048576))]),
 o1 10 (.mov (tm 11)),
 o1 12 (.extract 0 (tm 10)),
 o1 13 (.extract 1 (tm 10)),
 o1 4 (.mov (tm 12)),
 o1 5 (.mov (tm 13))]) (.seq (.region [
 o1 14 (.mov (tm 4)),
 o1 15 (.mov (tm 0)),
 o1 16 (.nilCheck (tm 15)),
 o1 17 (.fieldAddr 1 (tm 16)),
 o1 18 (.load none (tm 17)),
 o1 19 (.lenMap (tm 18)),
 o1 20 (.callV (.func 65) [(tm 14), (tm 19)])]) (.seq (.seq (.region [
 o1 21 (.mov (tm 0)),
 o1 22 (.callV (.func 62) [(tm 21)]),
 o1 23 (.lenSl (tm 22)),
 o1 24 (.mov k0)]) (.block 0 (.loop zsbQ_l0))) (.seq (.region [
 o1 41 (.mov (tm 4)),
 o1 42 (.callV (.func 69) [(tm 41)]),
 o1 43 (.extract 0 (tm 42)),
 o1 44 (.extract 1 (tm 42)),
 o1 2 (.mov (tm 43)),
 o1 3 (.mov (tm 44))]) .ret))))))
def zsbQ : AFunc := ⟨45, [(2, none), (3, none)], zsbQ_c, none⟩
theorem zsbQ_t0 : tableOf Tryz.prog 34 = some zsbQ := by kernel_rfl
theorem zsbQ_t : T0 34 = some zsbQ := withKept_t rfl (withTrue_t rfl zsbQ_t0)
theorem zsbQ_runs {v0 : Value} {h : Heap} {R : RP} {X : XP} (k : RunC Tryz.prog T0 zsbQ_c ⟨[v0, U, U, U, U, U, U, U, U, U, U, U, U, U, U, U, U, U, U, U, U, U, U, U, U, U, U, U, U, U, U, U, U, U, U, U, U, U, U, U, U, U, U, U, U], [], h, none⟩ (bodyQ Tryz.prog T0 [(2, none), (3, none)] R X)) :
 Runs Tryz.prog T0 (.fn 34) [v0] h R X := Runs.fn zsbQ_t rfl k
abbrev zsbQ_l0_M : List Nat := [0, 0, 0, 0, 0, 0, 0, 1, 0, 0, 0, 0, 0, 0, 0, 0, 0, 0, 0, 0, 0, 0, 0, 0, 2, 1, 1, 1, 1, 1, 1, 1, 1, 1, 1, 1, 1, 1, 1, 1, 1, 0, 0, 0, 0]
abbrev fn_zhbQ : FuncId := 35
def zhbQ_l0 : ACode :=
 (.seq (.seq (.region [
 o1 18 (.mov (tm 6)),
 o1 19 (.mov (tm 0)),
 o1 20 (.nilCheck (tm 19)),
 o1 21 (.fieldAddr 1 (tm 20)),
 o1 22 (.load none (tm 21)),
 o1 23 (.lenSl (tm 22)),
 o1 24 (.bin .lss (so (.binOp .lss 3 (tm 18) (tm 23) 3) 4) (tm 18) (tm 23))]) (.cond (tm 24)
 .skip
 (.exit 0))) (.seq (.block 1 (.seq (.region [
 o1 27 (.mov (tm 4)),
 o1 28 (.mov (tm 0)),
 o1 29 (.nilCheck (tm 28)),
 o1 30 (.fieldAddr 1 (tm 29)),
 o1 31 (.load none (tm 30)),
 o1 32 (.mov (tm 6)),
 o1 33 (.indexSl 37 (tm 31) (tm 32)),
 o1 34 (.fieldAddr 0 (tm 33)),
 o1 35 (.load (some 4) (tm 34)),
 o1 36 (.callV (.func 72) [(tm 27), (tm 35)])]) (.seq (.region [
 o1 37 (.mov (tm 4)),
 o1 38 (.mov (tm 0)),
 o1 39 (.nilCheck (tm 38)),
 o1 40 (.fieldAddr 1 (tm 39)),
 o1 41 (.load none (tm 40)),
 o1 42 (.mov (tm 6)),
 o1 43 (.indexSl 37 (tm 41) (tm 42)),
 o1 44 (.fieldAddr 4 (tm 43)),
 o1 45 (.load (some 32) (tm 44)),
 o1 46 (.callV (.func 73) [(tm 37), (tm 45)])]) (.region [
 o1 47 (.mov (tm 4)),
 o1 48 (.mov (tm 0)),
 o1 49 (.nilCheck (tm 48)),
 o1 50 (.fieldAddr 1 (tm 49)),
 o1 51 (.load none (tm 50)),
 o1 52 (.mov (tm 6)),
 o1 53 (.indexSl 37 (tm 51) (tm 52)),
 o1 54 (.fieldAddr 36 (tm 53)),
 o1 55 (.load none (tm 54)),
 o1 56 (.callV (.func 74) [(tm 47), (tm 55)])])))) (.region [
 o1 25 (.mov (tm 6)),
 o1 26 (.bin .add (so (.binOp .add 3 (tm 25) (.const (.int .i64 1)) 3) 3) (tm 25) (.const (.int .i64 1))),
 o1 6 (.mov (tm 26))])))
def zhbQ_c : ACode :=
 (.seq (.region [
 o1 2 (.mov (.const (.slice none 0 0))),
 o1 3 (.mov k0)]) (.seq (.region [
 o1 8 (.callV (.func 70) [(.const (.int .i64 1048576))]),
 o1 7 (.mov (tm 8)),
 o1 9 (.extract 0 (tm 7)),
 o1 10 (.extract 1 (tm 7)),
 o1 4 (.mov (tm 9)),
 o1 5 (.mov (tm 10))]) (.seq (.region [
 o1 11 (.mov (tm 4)),
 o1 12 (.mov (tm 0)),
 o1 13 (.nilCheck (tm 12)),
 o1 14 (.fieldAddr 1 (tm 13)),
 o1 15 (.load none (tm 14)),
 o1 16 (.lenSl (tm 15)),
 o1 17 (.callV (.func 71) [(tm 11), (tm 16)])]) (.seq (.seq (.region [
 o1 6 (.mov k0)]) (.block 0 (.loop zhbQ_l0))) (.seq (.region [
 o1 57 (.mov (tm 4)),
 o1 58 (.callV (.func 75) [(tm 57)]),
 o1 59 (.extract 0 (tm 58)),
 o1 60 (.extract 1 (tm 58)),
 o1 2 (.mov (tm 59)),
 o1 3 (.mov (tm 60))]) .ret)))))
def zhbQ : AFunc := ⟨61, [(2, none), (3, none)], zhbQ_c, none⟩
theorem zhbQ_t0 : tableOf Tryz.prog 35 = some zhbQ := by kernel_rfl
theorem zhbQ_t : T0 35 = some zhbQ := withKept_t rfl (withTrue_t rfl zhbQ_t0)
theorem zhbQ_runs {v0 : Value} {h : Heap} {R : RP} {X : XP} (k : RunC Tryz.prog T0 zhbQ_c ⟨[v0, U, U, U, U, U, U, U, U, U, U, U, U, U, U, U, U, U, U, U, U, U, U, U, U, U, U, U, U, U, U, U, U, U, U, U, U, U, U, U, U, U, U, U, U, U, U, U, U, U, U, U, U, U, U, U, U, U, U, U, U], [], h, none⟩ (bodyQ Tryz.prog T0 [(2, none), (3, none)] R X)) :
 Runs Tryz.prog T0 (.fn 35) [v0] h R X := Runs.fn zhbQ_t rfl k
abbrev zhbQ_l0_M : List Nat := [0, 0, 0, 0, 0, 0, 2, 0, 0, 0, 0, 0, 0, 0, 0, 0, 0, 0, 1, 1, 1, 1, 1, 1, 1, 1, 1, 1, 1, 1, 1, 1, 1, 1, 1, 1, 1, 1, 1, 1, 1, 1, 1, 1, 1, 1, 1, 1, 1, 1, 1, 1, 1, 1, 1, 1, 1, 0, 0, 0, 0]
abbrev fn_ziQ : FuncId := 36
def ziQ_l0 : ACode :=
 (.seq (.seq (.region [
 o1 12 (.mov (tm 5)),
 o1 13 (.mov (tm 12)),
 o4 14 (.mov (tm 6)) 13,
 o4 15 (.mov (tm 0)) 13,
 o4 16 (.lenSl (tm 15)) 13,
 o4 17 (.bin .lss (so (.binOp .lss 3 (tm 14) (tm 16) 3) 4) (tm 14) (tm 16)) 13,
 o1 18 (.pick (tm 13) (tm 17) (.const (.bool false)))]) (.cond (tm 18)
 .skip
 (.exit 0))) (.seq (.block 1 (.regionD [
 o1 21 (.mov (tm 0)),
 o1 22 (.mov (tm 6)),
 o1 23 (.indexSl 37 (tm 21) (tm 22)),
 o1 24 (.load (some 37) (tm 23)),
 o1 25 (.mov (tm 1)),
 o1 26 (.mov (tm 6)),
 o1 27 (.indexSl 37 (tm 25) (tm 26)),
 o1 28 (.load (some 37) (tm 27)),
 o2 29 (.bin .eql (so (.binOp .eql 29 (tm 24) (tm 28) 29) 4) (tm 24) (tm 28)),
 o2 5 (.mov (tm 29))])) (.region [
 o1 19 (.mov (tm 6)),
 o1 20 (.bin .add (so (.binOp .add 3 (tm 19) (.const (.int .i64 1)) 3) 3) (tm 19) (.const (.int .i64 1))),
 o1 6 (.mov (tm 20))])))
def ziQ_c : ACode :=
 (.seq (.region [
 o1 4 (.mov (.const (.bool false)))]) (.seq (.region [
 o1 7 (.mov (tm 0)),
 o1 8 (.lenSl (tm 7)),
 o1 9 (.mov (tm 1)),
 o1 10 (.lenSl (tm 9)),
 o1 11 (.bin .eql (so (.binOp .eql 3 (tm 8) (tm 10) 3) 4) (tm 8) (tm 10)),
 o1 5 (.mov (tm 11))]) (.seq (.seq (.region [
 o1 6 (.mov k0)]) (.block 0 (.loop ziQ_l0))) (.seq (.region [
 o1 30 (.mov (tm 5)),
 o1 4 (.mov (tm 30))]) .ret))))
def ziQ : AFunc := ⟨31, [(4, none)], ziQ_c, none⟩
theorem ziQ_t0 : tableOf Tryz.prog 36 = some ziQ := by kernel_rfl
theorem ziQ_t : T0 36 = some ziQ := withKept_t rfl (withTrue_t rfl ziQ_t0)
theorem ziQ_runs {v0 v1 : Value} {h : Heap} {R : RP} {X : XP} (k : RunC Tryz.prog T0 ziQ_c ⟨[v0, v1, U, U, U, U, U, U, U, U, U, U, U, U, U, U, U, U, U, U, U, U, U, U, U, U, U, U, U, U, U], [], h, none⟩ (bodyQ Tryz.prog T0 [(4, none)] R X)) :
 Runs Tryz.prog T0 (.fn 36) [v0, v1] h R X := Runs.fn ziQ_t rfl k
abbrev ziQ_l0_M : List Nat := [0, 0, 0, 0, 0, 2, 2, 0, 0, 0, 0, 0, 1, 1, 1, 1, 1, 1, 1, 1, 1, 1, 1, 1, 1, 1, 1, 1, 1, 1, 0]
abbrev fn_zlQ : FuncId := 37
def zlQ_l0 : ACode :=
 (.seq (.seq (.region [
 o1 12 (.mov (tm 5)),
 o1 13 (.mov (tm 12)),
 o4 14 (.mov (tm 6)) 13,
 o4 15 (.mov (tm 0)) 13,
 o4 16 (.lenSl (tm 15)) 13,
 o4 17 (.bin .lss (so (.binOp .lss 3 (tm 14) (tm 16) 3) 4) (tm 14) (tm 16)) 13,
 o1 18 (.pick (tm 13) (tm 17) (.const (.bool false)))]) (.cond (tm 18)
 .skip
 (.exit 0))) (.seq (.block 1 (.regionD [
 o1 21 (.mov (tm 0)),
 o1 22 (.mov (tm 6)),
 o1 23 (.indexSl 4 (tm 21) (tm 22)),
 o1 24 (.load (some 4) (tm 23)),
 o1 25 (.mov (tm 1)),
 o1 26 (.mov (tm 6)),
 o1 27 (.indexSl 4 (tm 25) (tm 26)),
 o1 28 (.load (some 4) (tm 27)),
 o2 29 (.bin .eql (so (.binOp .eql 24 (tm 24) (tm 28) 24) 4) (tm 24) (tm 28)),
 o2 5 (.mov (tm 29))])) (.region [
 o1 19 (.mov (tm 6)),
 o1 20 (.bin .add (so (.binOp .add 3 (tm 19) (.const (.int .i64 1)) 3) 3) (tm 19) (.const (.int .i64 1))),
 o1 6 (.mov (tm 20))])))
def zlQ_c : ACode :=
 (.seq (.region [
 o1 4 (.mov (.const (.bool false)))]) (.seq (.region [
 o1 7 (.mov (tm 0)),
 o1 8 (.lenSl (tm 7)),
 o1 9 (.mov (tm 1)),
 o1 10 (.lenSl (tm 9)),
 o1 11 (.bin .eql (so (.binOp .eql 3 (tm 8) (tm 10) 3) 4) (tm 8) (tm 10)),
 o1 5 (.mov (tm 11))]) (.seq (.seq (.region [
 o1 6 (.mov k0)]) (.block 0 (.loop zlQ_l0))) (.seq (.region [
 o1 30 (.mov (tm 5)),
 o1 4 (.mov (tm 30))]) .ret))))
def zlQ : AFunc := ⟨31, [(4, none)], zlQ_c, none⟩
theorem zlQ_t0 : tableOf Tryz.prog 37 = some zlQ := by kernel_rfl
theorem zlQ_t : T0 37 = some zlQ := withKept_t rfl (withTrue_t rfl zlQ_t0)
theorem zlQ_runs {v0 v1 : Value} {h : Heap} {R : RP} {X : XP} (k : RunC Tryz.prog T0 zlQ_c ⟨[v0, v1, U, U, U, U, U, U, U, U, U, U, U, U, U, U, U, U, U, U, U, U, U, U, U, U, U, U, U, U, U], [], h, none⟩ (bodyQ Tryz.prog T0 [(4, none)] R X)) :
 Runs Tryz.prog T0 (.fn 37) [v0, v1] h R X := Runs.fn zlQ_t rfl k
abbrev zlQ_l0_M : List Nat := [0, 0, 0, 0, 0, 2, 2, 0, 0, 0, 0, 0, 1, 1, 1, 1, 1, 1, 1, 1, 1, 1, 1, 1, 1, 1, 1, 1, 1, 1, 0]
abbrev fn_zjbQ : FuncId := 38
def zjbQ_l0 : ACode :=
 (.seq (.seq (.region [
 o1 7 (.mov (tm 6)),
 o1 8 (.mov (tm 0)),
 o1 9 (.nilCheck (tm 8)),
 o1 10 (.fieldAddr 1 (tm 9)),
 o1 11 (.load none (tm 10)),
 o1 12 (.lenSl (tm 11)),
 o1 13 (.bin .lss (so (.binOp .lss 3 (tm 7) (tm 12) 3) 4) (tm 7) (tm 12))]) (.cond (tm 13)
 .skip
 (.exit 0))) (.seq (.block 1 (.seq (.regionD [
 o1 16 (.mov (tm 0)),
 o1 17 (.nilCheck (tm 16)),
 o1 18 (.fieldAddr 1 (tm 17)),
 o1 19 (.load none (tm 18)),
 o1 20 (.mov (tm 6)),
 o1 21 (.indexSl 37 (tm 19) (tm 20)),
 o1 22 (.fieldAddr 4 (tm 21)),
 o1 23 (.load (some 32) (tm 22)),
 o1 24 (.load (some 32) (tm 3)),
 o2 25 (.bin .eql (so (.binOp .eql 26 (tm 23) (tm 24) 26) 4) (tm 23) (tm 24)),
 o2 26 (.mov (tm 25)),
 ⟨some 27, .mov (tm 5), some (26, true), [], true⟩,
 ⟨some 28, .lenSl (tm 27), some (26, true), [], true⟩,
 ⟨some 29, .bin .eql (so (.binOp .eql 3 (tm 28) k0 3) 4) (tm 28) k0, some (26, true), [], true⟩,
 ⟨some 30, .mov (tm 29), some (26, true), [], true⟩,
 o5 31 (.mov (tm 5)) 30,
 o5 32 (.mov (tm 5)) 30,
 o5 33 (.lenSl (tm 32)) 30,
 o5 34 (.bin .sub (so (.binOp .sub 3 (tm 33) (.const (.int .i64 1)) 3) 3) (tm 33) (.const (.int .i64 1))) 30,
 o5 35 (.indexSl 4 (tm 31) (tm 34)) 30,
 o5 36 (.load (some 4) (tm 35)) 30,
 o5 37 (.mov (tm 0)) 30,
 o5 38 (.nilCheck (tm 37)) 30,
 o5 39 (.fieldAddr 1 (tm 38)) 30,
 o5 40 (.load none (tm 39)) 30,
 o5 41 (.mov (tm 6)) 30,
 o5 42 (.indexSl 37 (tm 40) (tm 41)) 30,
 o5 43 (.fieldAddr 0 (tm 42)) 30,
 o5 44 (.load (some 4) (tm 43)) 30,
 ⟨some 45, .bin .neq (so (.binOp .neq 24 (tm 36) (tm 44) 24) 4) (tm 36) (tm 44), some (30, false), [], true⟩,
 ⟨some 46, .pick (tm 30) (.const (.bool true)) (tm 45), some (26, true), [], true⟩,
 o2 47 (.pick (tm 26) (tm 46) (.const (.bool false)))]) (.cond (tm 47)
 (.region [
 o1 48 (.mov (tm 5)),
 o1 49 (.mov (tm 0)),
 o1 50 (.nilCheck (tm 49)),
 o1 51 (.fieldAddr 1 (tm 50)),
 o1 52 (.load none (tm 51)),
 o1 53 (.mov (tm 6)),
 o1 54 (.indexSl 37 (tm 52) (tm 53)),
 o1 55 (.fieldAddr 0 (tm 54)),
 o1 56 (.load (some 4) (tm 55)),
 o1 57 (.buildSlice 24 [(.int .u8 0), (.int .u8 0), (.int .u8 0), (.int .u8 0)] 1 [(0, 4, (tm 56))]),
 o1 58 (.append 24 4 4 [(.int .u8 0), (.int .u8 0), (.int .u8 0), (.int .u8 0)] false (tm 48) (tm 57)),
 o1 5 (.mov (tm 58))])
 .skip))) (.region [
 o1 14 (.mov (tm 6)),
 o1 15 (.bin .add (so (.binOp .add 3 (tm 14) (.const (.int .i64 1)) 3) 3) (tm 14) (.const (.int .i64 1))),
 o1 6 (.mov (tm 15))])))
def zjbQ_c : ACode :=
 (.seq (.region [
 o1 3 (.box 26 (tm 1)),
 o1 4 (.mov (.const (.slice none 0 0)))]) (.seq (.region [
 o1 5 (.mov (.const (.slice none 0 0)))]) (.seq (.seq (.region [
 o1 6 (.mov k0)]) (.block 0 (.loop zjbQ_l0))) (.seq (.region [
 o1 59 (.mov (tm 5)),
 o1 4 (.mov (tm 59))]) .ret))))
def zjbQ : AFunc := ⟨60, [(4, none)], zjbQ_c, none⟩
theorem zjbQ_t0 : tableOf Tryz.prog 38 = some zjbQ := by kernel_rfl
theorem zjbQ_t : T0 38 = some zjbQ := withKept_t rfl (withTrue_t rfl zjbQ_t0)
theorem zjbQ_runs {v0 v1 : Value} {h : Heap} {R : RP} {X : XP} (k : RunC Tryz.prog T0 zjbQ_c ⟨[v0, v1, U, U, U, U, U, U, U, U, U, U, U, U, U, U, U, U, U, U, U, U, U, U, U, U, U, U, U, U, U, U, U, U, U, U, U, U, U, U, U, U, U, U, U, U, U, U, U, U, U, U, U, U, U, U, U, U, U, U], [], h, none⟩ (bodyQ Tryz.prog T0 [(4, none)] R X)) :
 Runs Tryz.prog T0 (.fn 38) [v0, v1] h R X := Runs.fn zjbQ_t rfl k
abbrev zjbQ_l0_M : List Nat := [0, 0, 0, 0, 0, 2, 2, 1, 1, 1, 1, 1, 1, 1, 1, 1, 1, 1, 1, 1, 1, 1, 1, 1, 1, 1, 1, 1, 1, 1, 1, 1, 1, 1, 1, 1, 1, 1, 1, 1, 1, 1, 1, 1, 1, 1, 1, 1, 1, 1, 1, 1, 1, 1, 1, 1, 1, 1, 1, 0]
abbrev fn_zibQ : FuncId := 39
def zibQ_l0 : ACode :=
 (.seq (.seq (.region [
 o1 6 (.mov (tm 5)),
 o1 7 (.mov (tm 0)),
 o1 8 (.nilCheck (tm 7)),
 o1 9 (.fieldAddr 1 (tm 8)),
 o1 10 (.load none (tm 9)),
 o1 11 (.lenSl (tm 10)),
 o1 12 (.bin .lss (so (.binOp .lss 3 (tm 6) (tm 11) 3) 4) (tm 6) (tm 11))]) (.cond (tm 12)
 .skip
 (.exit 0))) (.seq (.block 1 (.seq (.regionD [
 o1 15 (.mov (tm 0)),
 o1 16 (.nilCheck (tm 15)),
 o1 17 (.fieldAddr 1 (tm 16)),
 o1 18 (.load none (tm 17)),
 o1 19 (.mov (tm 5)),
 o1 20 (.indexSl 37 (tm 18) (tm 19)),
 o1 21 (.load (some 37) (tm 20)),
 o1 22 (.load (some 37) (tm 3)),
 o2 23 (.bin .eql (so (.binOp .eql 29 (tm 21) (tm 22) 29) 4) (tm 21) (tm 22))]) (.cond (tm 23)
 (.seq (.region [
 o1 4 (.mov (.const (.bool true)))]) .ret)
 .skip))) (.region [
 o1 13 (.mov (tm 5)),
 o1 14 (.bin .add (so (.binOp .add 3 (tm 13) (.const (.int .i64 1)) 3) 3) (tm 13) (.const (.int .i64 1))),
 o1 5 (.mov (tm 14))])))
def zibQ_c : ACode :=
 (.seq (.region [
 o1 3 (.box 29 (tm 1)),
 o1 4 (.mov (.const (.bool false)))]) (.seq (.seq (.region [
 o1 5 (.mov k0)]) (.block 0 (.loop zibQ_l0))) (.seq (.region [
 o1 4 (.mov (.const (.bool false)))]) .ret)))
def zibQ : AFunc := ⟨24, [(4, none)], zibQ_c, none⟩
theorem zibQ_t0 : tableOf Tryz.prog 39 = some zibQ := by kernel_rfl
theorem zibQ_t : T0 39 = some zibQ := withKept_t rfl (withTrue_t rfl zibQ_t0)
theorem zibQ_runs {v0 v1 : Value} {h : Heap} {R : RP} {X : XP} (k : RunC Tryz.prog T0 zibQ_c ⟨[v0, v1, U, U, U, U, U, U, U, U, U, U, U, U, U, U, U, U, U, U, U, U, U, U], [], h, none⟩ (bodyQ Tryz.prog T0 [(4, none)] R X)) :
 Runs Tryz.prog T0 (.fn 39) [v0, v1] h R X := Runs.fn zibQ_t rfl k
abbrev zibQ_l0_M : List Nat := [0, 0, 0, 0, 1, 2, 1, 1, 1, 1, 1, 1, 1, 1, 1, 1, 1, 1, 1, 1, 1, 1, 1, 1]
abbrev fn_zhQ : FuncId := 40
def zhQ_c : ACode :=
 (.seq (.region [
 o1 4 (.mov (.const (.bool false)))]) (.seq (.region [
 o1 5 (.mov (tm 0)),
 o1 6 (.bytesToStr (tm 5)),
 o1 7 (.mov (tm 1)),
 o1 8 (.bytesToStr (tm 7)),
 o1 9 (.bin .eql (so (.binOp .eql 9 (tm 6) (tm 8) 9) 4) (tm 6) (tm 8)),
 o1 4 (.mov (tm 9))]) .ret))
def zhQ : AFunc := ⟨10, [(4, none)], zhQ_c, none⟩
theorem zhQ_t0 : tableOf Tryz.prog 40 = some zhQ := by kernel_rfl
theorem zhQ_t : T0 40 = some zhQ := withKept_t rfl (withTrue_t rfl zhQ_t0)
theorem zhQ_runs {v0 v1 : Value} {h : Heap} {R : RP} {X : XP} (k : RunC Tryz.prog T0 zhQ_c ⟨[v0, v1, U, U, U, U, U, U, U, U], [], h, none⟩ (bodyQ Tryz.prog T0 [(4, none)] R X)) :
 Runs Tryz.prog T0 (.fn 40) [v0, v1] h R X := Runs.fn zhQ_t rfl k
abbrev fn_zxbQ : FuncId := 41
def zxbQ_c : ACode :=
 (.seq (.region [
 o1 2 (.mov (.const (.bool false)))]) (.seq (.region [
 o1 3 (.mov (tm 0)),
 o1 4 (.eq .ptr false (so (.binOp .eql 32 (tm 3) (.const (.pointer none)) 32) 4) (tm 3) (.const (.pointer none))),
 o1 5 (.mov (tm 4)),
 o5 6 (.mov (tm 0)) 5,
 o5 7 (.nilCheck (tm 6)) 5,
 o5 8 (.fieldAddr 1 (tm 7)) 5,
 o5 9 (.load none (tm 8)) 5,
 o5 10 (.eq .map false (so (.binOp .eql 62 (tm 9) (.const (.map none)) 62) 4) (tm 9) (.const (.map none))) 5,
 o1 11 (.pick (tm 5) (.const (.bool true)) (tm 10)),
 o1 2 (.mov (tm 11))]) .ret))
def zxbQ : AFunc := ⟨12, [(2, none)], zxbQ_c, none⟩
theorem zxbQ_t0 : tableOf Tryz.prog 41 = some zxbQ := by kernel_rfl
theorem zxbQ_t : T0 41 = some zxbQ := withKept_t rfl (withTrue_t rfl zxbQ_t0)
theorem zxbQ_runs {v0 : Value} {h : Heap} {R : RP} {X : XP} (k : RunC Tryz.prog T0 zxbQ_c ⟨[v0, U, U, U, U, U, U, U, U, U, U, U], [], h, none⟩ (bodyQ Tryz.prog T0 [(2, none)] R X)) :
 Runs Tryz.prog T0 (.fn 41) [v0] h R X := Runs.fn zxbQ_t rfl k
abbrev fn_zdcQ : FuncId := 42
def zdcQ_c : ACode :=
 (.seq (.region [
 o1 2 (.mov (.const (.slice none 0 0)))]) (.seq (.seq (.region [
 o1 3 (.mov (tm 0)),
 o1 4 (.eq .slice false (so (.binOp .eql 22 (tm 3) (.const (.slice none 0 0)) 22) 4) (tm 3) (.const (.slice none 0 0)))]) (.cond (tm 4)
 (.seq (.region [
 o1 2 (.mov (.const (.slice none 0 0)))]) .ret)
 .skip)) (.seq (.region [
 o1 5 (.buildSlice 5 [] 0 []),
 o1 6 (.mov (tm 0)),
 o1 7 (.append 5 1 1 [(.int .u8 0)] false (tm 5) (tm 6)),
 o1 2 (.mov (tm 7))]) .ret)))
def zdcQ : AFunc := ⟨8, [(2, none)], zdcQ_c, none⟩
theorem zdcQ_t0 : tableOf Tryz.prog 42 = some zdcQ := by kernel_rfl
theorem zdcQ_t : T0 42 = some zdcQ := withKept_t rfl (withTrue_t rfl zdcQ_t0)
theorem zdcQ_runs {v0 : Value} {h : Heap} {R : RP} {X : XP} (k : RunC Tryz.prog T0 zdcQ_c ⟨[v0, U, U, U, U, U, U, U], [], h, none⟩ (bodyQ Tryz.prog T0 [(2, none)] R X)) :
 Runs Tryz.prog T0 (.fn 42) [v0] h R X := Runs.fn zdcQ_t rfl k
abbrev fn_zzdQ : FuncId := 43
def zzdQ_c : ACode :=
 (.seq (.region [
 o1 4 (.mov k0)]) (.seq (.seq (.region [
 o1 5 (.mov (tm 0)),
 o1 6 (.eq .ptr false (so (.binOp .eql 52 (tm 5) (.const (.pointer none)) 52) 4) (tm 5) (.const (.pointer none))),
 o1 7 (.mov (tm 6)),
 o5 8 (.mov (tm 0)) 7,
 o5 9 (.nilCheck (tm 8)) 7,
 o5 10 (.fieldAddr 4 (tm 9)) 7,
 o5 11 (.load none (tm 10)) 7,
 o5 12 (.raw (so (.unOp .not 4 (tm 11)) 4)) 7,
 o1 13 (.pick (tm 7) (.const (.bool true)) (tm 12)),
 o1 14 (.mov (tm 13)),
 o5 15 (.mov (tm 0)) 14,
 o5 16 (.nilCheck (tm 15)) 14,
 o5 17 (.fieldAddr 2 (tm 16)) 14,
 o5 18 (.fieldAddr 0 (tm 17)) 14,
 o5 19 (.load none (tm 18)) 14,
 o5 20 (.bin .neq (so (.binOp .neq 33 (tm 19) k0 33) 4) (tm 19) k0) 14,
 o1 21 (.pick (tm 14) (.const (.bool true)) (tm 20))]) (.cond (tm 21)
 (.seq (.region [
 o1 22 (.mov (tm 4)),
 o1 4 (.mov (tm 22))]) .ret)
 .skip)) (.seq (.region [
 o1 23 (.mov (tm 0)),
 o3 (.defer (.func 76) [(tm 23)])]) (.seq (.region [
 o1 24 (.mov (tm 1)),
 o1 25 (.mov (tm 0)),
 o1 26 (.nilCheck (tm 25)),
 o1 27 (.fieldAddr 1 (tm 26)),
 o1 28 (.load none (tm 27)),
 o1 29 (.callV (tm 24) [(tm 28)]),
 o1 4 (.mov (tm 29))]) .ret))))
def zzdQ : AFunc := ⟨30, [(4, none)], zzdQ_c, none⟩
theorem zzdQ_t0 : tableOf Tryz.prog 43 = some zzdQ := by kernel_rfl
theorem zzdQ_t : T0 43 = some zzdQ := withKept_t rfl (withTrue_t rfl zzdQ_t0)
theorem zzdQ_runs {v0 v1 : Value} {h : Heap} {R : RP} {X : XP} (k : RunC Tryz.prog T0 zzdQ_c ⟨[v0, v1, U, U, U, U, U, U, U, U, U, U, U, U, U, U, U, U, U, U, U, U, U, U, U, U, U, U, U, U], [], h, none⟩ (bodyQ Tryz.prog T0 [(4, none)] R X)) :
 Runs Tryz.prog T0 (.fn 43) [v0, v1] h R X := Runs.fn zzdQ_t rfl k
abbrev fn_zmdQ : FuncId := 44
def zmdQ_c : ACode :=
 (.seq (.region [
 o1 4 (.mov k0)]) (.seq (.region [
 o1 8 (.mov (tm 0)),
 o1 9 (.mov (tm 1)),
 o1 10 (.callV (.func 55) [(tm 8), (.const (.int .i64 1)), (tm 9), (.func 56)]),
 o1 11 (.conv .i64 (so (.convert 27 3 (tm 10)) 3) (tm 10)),
 o1 5 (.alloc 3 [(.int .i64 0)]),
 o3 (.store 1 (tm 5) (tm 11))]) (.seq (.region [
 o1 12 (.load none (tm 5)),
 o1 13 (.bin .leq (so (.binOp .leq 3 (tm 12) (.const (.int .i64 8)) 3) 4) (tm 12) (.const (.int .i64 8))),
 o1 14 (.mov (tm 1)),
 o1 15 (.callV (.func 77) [(tm 13), (.const (.int .i64 5)), (tm 14)])]) (.seq (.region [
 o1 6 (.alloc 5 [(.int .u8 0)]),
 o3 (.store 1 (tm 6) (.const (.int .u8 1)))]) (.seq (.region [
 o1 16 (.mov (tm 0)),
 o1 17 (.load none (tm 5)),
 o1 18 (.mov (tm 1)),
 o1 19 (.mkFunc (.func 78) [] [(tm 5), (tm 6)]),
 o1 20 (.callV (.func 55) [(tm 16), (tm 17), (tm 18), (tm 19)]),
 o1 7 (.mov (tm 20))]) (.seq (.region [
 o1 21 (.load none (tm 6)),
 o1 22 (.bin .neq (so (.binOp .neq 5 (tm 21) (.const (.int .u8 0)) 5) 4) (tm 21) (.const (.int .u8 0))),
 o1 23 (.mov (tm 22)),
 o4 24 (.mov (tm 7)) 23,
 o4 25 (.bin .leq (so (.binOp .leq 27 (tm 24) (.const (.int .u64 9223372036854775807)) 27) 4) (tm 24) (.const (.int .u64 9223372036854775807))) 23,
 o1 26 (.pick (tm 23) (tm 25) (.const (.bool false))),
 o1 27 (.mov (tm 1)),
 o1 28 (.callV (.func 77) [(tm 26), (.const (.int .i64 5)), (tm 27)])]) (.seq (.region [
 o1 29 (.mov (tm 7)),
 o1 30 (.conv .i64 (so (.convert 27 3 (tm 29)) 3) (tm 29)),
 o1 4 (.mov (tm 30))]) .ret)))))))
def zmdQ : AFunc := ⟨31, [(4, none)], zmdQ_c, none⟩
theorem zmdQ_t0 : tableOf Tryz.prog 44 = some zmdQ := by kernel_rfl
theorem zmdQ_t : T0 44 = some zmdQ := withKept_t rfl (withTrue_t rfl zmdQ_t0)
theorem zmdQ_runs {v0 v1 : Value} {h : Heap} {R : RP} {X : XP} (k : RunC Tryz.prog T0 zmdQ_c ⟨[v0, v1, U, U, U, U, U, U, U, U, U, U, U, U, U, U, U, U, U, U, U, U, U, U, U, U, U, U, U, U, U], [], h, none⟩ (bodyQ Tryz.prog T0 [(4, none)] R X)) :
 Runs Tryz.prog T0 (.fn 44) [v0, v1] h R X := Runs.fn zmdQ_t rfl k
abbrev fn_zydQ : FuncId := 45
def zydQ_c : ACode :=
 (.seq (.region [
 o1 4 (.alloc 24 [(.int .u8 0), (.int .u8 0), (.int .u8 0), (.int .u8 0)])]) (.seq (.seq (.region [
 o1 5 (.mov (tm 0)),
 o1 6 (.eq .ptr false (so (.binOp .eql 52 (tm 5) (.const (.pointer none)) 52) 4) (tm 5) (.const (.pointer none))),
 o1 7 (.mov (tm 6)),
 o5 8 (.mov (tm 0)) 7,
 o5 9 (.nilCheck (tm 8)) 7,
 o5 10 (.fieldAddr 4 (tm 9)) 7,
 o5 11 (.load none (tm 10)) 7,
 o5 12 (.raw (so (.unOp .not 4 (tm 11)) 4)) 7,
 o1 13 (.pick (tm 7) (.const (.bool true)) (tm 12)),
 o1 14 (.mov (tm 13)),
 o5 15 (.mov (tm 0)) 14,
 o5 16 (.nilCheck (tm 15)) 14,
 o5 17 (.fieldAddr 2 (tm 16)) 14,
 o5 18 (.fieldAddr 0 (tm 17)) 14,
 o5 19 (.load none (tm 18)) 14,
 o5 20 (.bin .neq (so (.binOp .neq 33 (tm 19) k0 33) 4) (tm 19) k0) 14,
 o1 21 (.pick (tm 14) (.const (.bool true)) (tm 20))]) (.cond (tm 21)
 (.seq (.region [
 o1 22 (.load (some 4) (tm 4)),
 o3 (.store 4 (tm 4) (tm 22))]) .ret)
 .skip)) (.seq (.region [
 o1 23 (.mov (tm 0)),
 o3 (.defer (.func 76) [(tm 23)])]) (.seq (.region [
 o1 24 (.mov (tm 1)),
 o1 25 (.mov (tm 0)),
 o1 26 (.nilCheck (tm 25)),
 o1 27 (.fieldAddr 1 (tm 26)),
 o1 28 (.load none (tm 27)),
 o1 29 (.callV (tm 24) [(tm 28)]),
 o3 (.store 4 (tm 4) (tm 29))]) .ret))))
def zydQ : AFunc := ⟨30, [(4, some (some 4))], zydQ_c, none⟩
theorem zydQ_t0 : tableOf Tryz.prog 45 = some zydQ := by kernel_rfl
theorem zydQ_t : T0 45 = some zydQ := withKept_t rfl (withTrue_t rfl zydQ_t0)
theorem zydQ_runs {v0 v1 : Value} {h : Heap} {R : RP} {X : XP} (k : RunC Tryz.prog T0 zydQ_c ⟨[v0, v1, U, U, U, U, U, U, U, U, U, U, U, U, U, U, U, U, U, U, U, U, U, U, U, U, U, U, U, U], [], h, none⟩ (bodyQ Tryz.prog T0 [(4, some (some 4))] R X)) :
 Runs Tryz.prog T0 (.fn 45) [v0, v1] h R X := Runs.fn zydQ_t rfl k
abbrev fn_zfdQ : FuncId := 46
def zfdQ_c : ACode :=
 (.seq (.region [
 o1 3 (.alloc 24 [(.int .u8 0), (.int .u8 0), (.int .u8 0), (.int .u8 0)])]) (.seq (.region [
 o1 4 (.load none (tm 1)),
 o1 5 (.mov (tm 0)),
 o1 6 (.callV (.func 47) [(tm 4), (.const (.int .i64 4)), (tm 5), (.func 48)]),
 o3 (.store 4 (tm 3) (tm 6))]) .ret))
def zfdQ : AFunc := ⟨7, [(3, some (some 4))], zfdQ_c, none⟩
theorem zfdQ_t0 : tableOf Tryz.prog 46 = some zfdQ := by kernel_rfl
theorem zfdQ_t : T0 46 = some zfdQ := withKept_t rfl (withTrue_t rfl zfdQ_t0)
theorem zfdQ_runs {v0 v1 : Value} {h : Heap} {R : RP} {X : XP} (k : RunC Tryz.prog T0 zfdQ_c ⟨[v0, v1, U, U, U, U, U], [], h, none⟩ (bodyQ Tryz.prog T0 [(3, some (some 4))] R X)) :
 Runs Tryz.prog T0 (.fn 46) [v0, v1] h R X := Runs.fn zfdQ_t rfl k
abbrev fn_zceQ : FuncId := 47
def zceQ_c : ACode :=
 (.seq (.region [
 o1 8 (.alloc 24 [(.int .u8 0), (.int .u8 0), (.int .u8 0), (.int .u8 0)])]) (.seq (.regionD [
 o1 9 (.mov (tm 1)),
 o1 10 (.mov (tm 0)),
 o1 11 (.nilCheck (tm 10)),
 o1 12 (.fieldAddr 0 (tm 11)),
 o1 13 (.load none (tm 12)),
 o1 14 (.lenSl (tm 13)),
 o1 15 (.mov (tm 0)),
 o1 16 (.nilCheck (tm 15)),
 o1 17 (.fieldAddr 1 (tm 16)),
 o1 18 (.load none (tm 17)),
 o1 19 (.bin .sub (so (.binOp .sub 3 (tm 14) (tm 18) 3) 3) (tm 14) (tm 18)),
 o1 20 (.bin .leq (so (.binOp .leq 3 (tm 9) (tm 19) 3) 4) (tm 9) (tm 19)),
 o1 21 (.mov (tm 2)),
 o2 22 (.callV (.func 77) [(tm 20), (.const (.int .i64 6)), (tm 21)])]) (.seq (.region [
 o1 23 (.mov (tm 0)),
 o1 24 (.nilCheck (tm 23)),
 o1 25 (.fieldAddr 1 (tm 24)),
 o1 26 (.load none (tm 25)),
 o1 27 (.mov (tm 1)),
 o1 28 (.bin .add (so (.binOp .add 3 (tm 26) (tm 27) 3) 3) (tm 26) (tm 27)),
 o1 29 (.nilCheck (tm 23)),
 o1 30 (.fieldAddr 1 (tm 29)),
 o3 (.store 1 (tm 30) (tm 28))]) (.seq (.regionD [
 o1 31 (.mov (tm 3)),
 o1 32 (.mov (tm 0)),
 o1 33 (.nilCheck (tm 32)),
 o1 34 (.fieldAddr 0 (tm 33)),
 o1 35 (.load none (tm 34)),
 o1 36 (.mov (tm 0)),
 o1 37 (.nilCheck (tm 36)),
 o1 38 (.fieldAddr 1 (tm 37)),
 o1 39 (.load none (tm 38)),
 o1 40 (.mov (tm 1)),
 o1 41 (.bin .sub (so (.binOp .sub 3 (tm 39) (tm 40) 3) 3) (tm 39) (tm 40)),
 o1 42 (.mov (tm 0)),
 o1 43 (.nilCheck (tm 42)),
 o1 44 (.fieldAddr 1 (tm 43)),
 o1 45 (.load none (tm 44)),
 o1 46 (.sliceSl 1 (tm 35) (some (tm 41)) (some (tm 45)) none),
 o2 47 (.callV (tm 31) [(tm 46)]),
 ⟨none, .store 4 (tm 8) (tm 47), none, [], true⟩]) .ret))))
def zceQ : AFunc := ⟨48, [(8, some (some 4))], zceQ_c, none⟩
theorem zceQ_t0 : tableOf Tryz.prog 47 = some zceQ := by kernel_rfl
theorem zceQ_t : T0 47 = some zceQ := withKept_t rfl (withTrue_t rfl zceQ_t0)
theorem zceQ_runs {v0 v1 v2 v3 : Value} {h : Heap} {R : RP} {X : XP} (k : RunC Tryz.prog T0 zceQ_c ⟨[v0, v1, v2, v3, U, U, U, U, U, U, U, U, U, U, U, U, U, U, U, U, U, U, U, U, U, U, U, U, U, U, U, U, U, U, U, U, U, U, U, U, U, U, U, U, U, U, U, U], [], h, none⟩ (bodyQ Tryz.prog T0 [(8, some (some 4))] R X)) :
 Runs Tryz.prog T0 (.fn 47) [v0, v1, v2, v3] h R X := Runs.fn zceQ_t rfl k
abbrev fn_zgdQ : FuncId := 48
def zgdQ_c : ACode :=
 (.seq (.region [
 o1 2 (.alloc 24 [(.int .u8 0), (.int .u8 0), (.int .u8 0), (.int .u8 0)])]) (.seq (.region [
 o1 3 (.mov (tm 0)),
 o1 4 (.arrayAt 4 (tm 3)),
 o1 5 (.load (some 4) (tm 4)),
 o3 (.store 4 (tm 2) (tm 5))]) .ret))
def zgdQ : AFunc := ⟨6, [(2, some (some 4))], zgdQ_c, none⟩
theorem zgdQ_t0 : tableOf Tryz.prog 48 = some zgdQ := by kernel_rfl
theorem zgdQ_t : T0 48 = some zgdQ := withKept_t rfl (withTrue_t rfl zgdQ_t0)
theorem zgdQ_runs {v0 : Value} {h : Heap} {R : RP} {X : XP} (k : RunC Tryz.prog T0 zgdQ_c ⟨[v0, U, U, U, U, U], [], h, none⟩ (bodyQ Tryz.prog T0 [(2, some (some 4))] R X)) :
 Runs Tryz.prog T0 (.fn 48) [v0] h R X := Runs.fn zgdQ_t rfl k
abbrev fn_zxdQ : FuncId := 49
def zxdQ_c : ACode :=
 (.seq (.region [
 o1 4 (.alloc 26 z32)]) (.seq (.seq (.region [
 o1 5 (.mov (tm 0)),
 o1 6 (.eq .ptr false (so (.binOp .eql 52 (tm 5) (.const (.pointer none)) 52) 4) (tm 5) (.const (.pointer none))),
 o1 7 (.mov (tm 6)),
 o5 8 (.mov (tm 0)) 7,
 o5 9 (.nilCheck (tm 8)) 7,
 o5 10 (.fieldAddr 4 (tm 9)) 7,
 o5 11 (.load none (tm 10)) 7,
 o5 12 (.raw (so (.unOp .not 4 (tm 11)) 4)) 7,
 o1 13 (.pick (tm 7) (.const (.bool true)) (tm 12)),
 o1 14 (.mov (tm 13)),
 o5 15 (.mov (tm 0)) 14,
 o5 16 (.nilCheck (tm 15)) 14,
 o5 17 (.fieldAddr 2 (tm 16)) 14,
 o5 18 (.fieldAddr 0 (tm 17)) 14,
 o5 19 (.load none (tm 18)) 14,
 o5 20 (.bin .neq (so (.binOp .neq 33 (tm 19) k0 33) 4) (tm 19) k0) 14,
 o1 21 (.pick (tm 14) (.const (.bool true)) (tm 20))]) (.cond (tm 21)
 (.seq (.region [
 o1 22 (.load (some 32) (tm 4)),
 o3 (.store 32 (tm 4) (tm 22))]) .ret)
 .skip)) (.seq (.region [
 o1 23 (.mov (tm 0)),
 o3 (.defer (.func 76) [(tm 23)])]) (.seq (.region [
 o1 24 (.mov (tm 1)),
 o1 25 (.mov (tm 0)),
 o1 26 (.nilCheck (tm 25)),
 o1 27 (.fieldAddr 1 (tm 26)),
 o1 28 (.load none (tm 27)),
 o1 29 (.callV (tm 24) [(tm 28)]),
 o3 (.store 32 (tm 4) (tm 29))]) .ret))))
def zxdQ : AFunc := ⟨30, [(4, some (some 32))], zxdQ_c, none⟩
theorem zxdQ_t0 : tableOf Tryz.prog 49 = some zxdQ := by kernel_rfl
theorem zxdQ_t : T0 49 = some zxdQ := withKept_t rfl (withTrue_t rfl zxdQ_t0)
theorem zxdQ_runs {v0 v1 : Value} {h : Heap} {R : RP} {X : XP} (k : RunC Tryz.prog T0 zxdQ_c ⟨[v0, v1, U, U, U, U, U, U, U, U, U, U, U, U, U, U, U, U, U, U, U, U, U, U, U, U, U, U, U, U], [], h, none⟩ (bodyQ Tryz.prog T0 [(4, some (some 32))] R X)) :
 Runs Tryz.prog T0 (.fn 49) [v0, v1] h R X := Runs.fn zxdQ_t rfl k
abbrev fn_zcdQ : FuncId := 50
def zcdQ_c : ACode :=
 (.seq (.region [
 o1 3 (.alloc 26 z32)]) (.seq (.region [
 o1 4 (.load none (tm 1)),
 o1 5 (.mov (tm 0)),
 o1 6 (.callV (.func 51) [(tm 4), (.const (.int .i64 32)), (tm 5), (.func 52)]),
 o3 (.store 32 (tm 3) (tm 6))]) .ret))
def zcdQ : AFunc := ⟨7, [(3, some (some 32))], zcdQ_c, none⟩
theorem zcdQ_t0 : tableOf Tryz.prog 50 = some zcdQ := by kernel_rfl
theorem zcdQ_t : T0 50 = some zcdQ := withKept_t rfl (withTrue_t rfl zcdQ_t0)
theorem zcdQ_runs {v0 v1 : Value} {h : Heap} {R : RP} {X : XP} (k : RunC Tryz.prog T0 zcdQ_c ⟨[v0, v1, U, U, U, U, U], [], h, none⟩ (bodyQ Tryz.prog T0 [(3, some (some 32))] R X)) :
 Runs Tryz.prog T0 (.fn 50) [v0, v1] h R X := Runs.fn zcdQ_t rfl k
abbrev fn_zbeQ : FuncId := 51
def zbeQ_c : ACode :=
 (.seq (.region [
 o1 8 (.alloc 26 z32)]) (.seq (.regionD [
 o1 9 (.mov (tm 1)),
 o1 10 (.mov (tm 0)),
 o1 11 (.nilCheck (tm 10)),
 o1 12 (.fieldAddr 0 (tm 11)),
 o1 13 (.load none (tm 12)),
 o1 14 (.lenSl (tm 13)),
 o1 15 (.mov (tm 0)),
 o1 16 (.nilCheck (tm 15)),
 o1 17 (.fieldAddr 1 (tm 16)),
 o1 18 (.load none (tm 17)),
 o1 19 (.bin .sub (so (.binOp .sub 3 (tm 14) (tm 18) 3) 3) (tm 14) (tm 18)),
 o1 20 (.bin .leq (so (.binOp .leq 3 (tm 9) (tm 19) 3) 4) (tm 9) (tm 19)),
 o1 21 (.mov (tm 2)),
 o2 22 (.callV (.func 77) [(tm 20), (.const (.int .i64 6)), (tm 21)])]) (.seq (.region [
 o1 23 (.mov (tm 0)),
 o1 24 (.nilCheck (tm 23)),
 o1 25 (.fieldAddr 1 (tm 24)),
 o1 26 (.load none (tm 25)),
 o1 27 (.mov (tm 1)),
 o1 28 (.bin .add (so (.binOp .add 3 (tm 26) (tm 27) 3) 3) (tm 26) (tm 27)),
 o1 29 (.nilCheck (tm 23)),
 o1 30 (.fieldAddr 1 (tm 29)),
 o3 (.store 1 (tm 30) (tm 28))]) (.seq (.regionD [
 o1 31 (.mov (tm 3)),
 o1 32 (.mov (tm 0)),
 o1 33 (.nilCheck (tm 32)),
 o1 34 (.fieldAddr 0 (tm 33)),
 o1 35 (.load none (tm 34)),
 o1 36 (.mov (tm 0)),
 o1 37 (.nilCheck (tm 36)),
 o1 38 (.fieldAddr 1 (tm 37)),
 o1 39 (.load none (tm 38)),
 o1 40 (.mov (tm 1)),
 o1 41 (.bin .sub (so (.binOp .sub 3 (tm 39) (tm 40) 3) 3) (tm 39) (tm 40)),
 o1 42 (.mov (tm 0)),
 o1 43 (.nilCheck (tm 42)),
 o1 44 (.fieldAddr 1 (tm 43)),
 o1 45 (.load none (tm 44)),
 o1 46 (.sliceSl 1 (tm 35) (some (tm 41)) (some (tm 45)) none),
 o2 47 (.callV (tm 31) [(tm 46)]),
 ⟨none, .store 32 (tm 8) (tm 47), none, [], true⟩]) .ret))))
def zbeQ : AFunc := ⟨48, [(8, some (some 32))], zbeQ_c, none⟩
theorem zbeQ_t0 : tableOf Tryz.prog 51 = some zbeQ := by kernel_rfl
theorem zbeQ_t : T0 51 = some zbeQ := withKept_t rfl (withTrue_t rfl zbeQ_t0)
theorem zbeQ_runs {v0 v1 v2 v3 : Value} {h : Heap} {R : RP} {X : XP} (k : RunC Tryz.prog T0 zbeQ_c ⟨[v0, v1, v2, v3, U, U, U, U, U, U, U, U, U, U, U, U, U, U, U, U, U, U, U, U, U, U, U, U, U, U, U, U, U, U, U, U, U, U, U, U, U, U, U, U, U, U, U, U], [], h, none⟩ (bodyQ Tryz.prog T0 [(8, some (some 32))] R X)) :
 Runs Tryz.prog T0 (.fn 51) [v0, v1, v2, v3] h R X := Runs.fn zbeQ_t rfl k
abbrev fn_zddQ : FuncId := 52
def zddQ_c : ACode :=
 (.seq (.region [
 o1 2 (.alloc 26 z32)]) (.seq (.region [
 o1 3 (.mov (tm 0)),
 o1 4 (.arrayAt 32 (tm 3)),
 o1 5 (.load (some 32) (tm 4)),
 o3 (.store 32 (tm 2) (tm 5))]) .ret))
def zddQ : AFunc := ⟨6, [(2, some (some 32))], zddQ_c, none⟩
theorem zddQ_t0 : tableOf Tryz.prog 52 = some zddQ := by kernel_rfl
theorem zddQ_t : T0 52 = some zddQ := withKept_t rfl (withTrue_t rfl zddQ_t0)
theorem zddQ_runs {v0 : Value} {h : Heap} {R : RP} {X : XP} (k : RunC Tryz.prog T0 zddQ_c ⟨[v0, U, U, U, U, U], [], h, none⟩ (bodyQ Tryz.prog T0 [(2, some (some 32))] R X)) :
 Runs Tryz.prog T0 (.fn 52) [v0] h R X := Runs.fn zddQ_t rfl k
abbrev fn_zaeQ : FuncId := 53
def zaeQ_c : ACode :=
 (.seq (.region [
 o1 4 (.mov (.const (.int .u64 0)))]) (.seq (.seq (.region [
 o1 5 (.mov (tm 0)),
 o1 6 (.eq .ptr false (so (.binOp .eql 52 (tm 5) (.const (.pointer none)) 52) 4) (tm 5) (.const (.pointer none))),
 o1 7 (.mov (tm 6)),
 o5 8 (.mov (tm 0)) 7,
 o5 9 (.nilCheck (tm 8)) 7,
 o5 10 (.fieldAddr 4 (tm 9)) 7,
 o5 11 (.load none (tm 10)) 7,
 o5 12 (.raw (so (.unOp .not 4 (tm 11)) 4)) 7,
 o1 13 (.pick (tm 7) (.const (.bool true)) (tm 12)),
 o1 14 (.mov (tm 13)),
 o5 15 (.mov (tm 0)) 14,
 o5 16 (.nilCheck (tm 15)) 14,
 o5 17 (.fieldAddr 2 (tm 16)) 14,
 o5 18 (.fieldAddr 0 (tm 17)) 14,
 o5 19 (.load none (tm 18)) 14,
 o5 20 (.bin .neq (so (.binOp .neq 33 (tm 19) k0 33) 4) (tm 19) k0) 14,
 o1 21 (.pick (tm 14) (.const (.bool true)) (tm 20))]) (.cond (tm 21)
 (.seq (.region [
 o1 22 (.mov (tm 4)),
 o1 4 (.mov (tm 22))]) .ret)
 .skip)) (.seq (.region [
 o1 23 (.mov (tm 0)),
 o3 (.defer (.func 76) [(tm 23)])]) (.seq (.region [
 o1 24 (.mov (tm 1)),
 o1 25 (.mov (tm 0)),
 o1 26 (.nilCheck (tm 25)),
 o1 27 (.fieldAddr 1 (tm 26)),
 o1 28 (.load none (tm 27)),
 o1 29 (.callV (tm 24) [(tm 28)]),
 o1 4 (.mov (tm 29))]) .ret))))
def zaeQ : AFunc := ⟨30, [(4, none)], zaeQ_c, none⟩
theorem zaeQ_t0 : tableOf Tryz.prog 53 = some zaeQ := by kernel_rfl
theorem zaeQ_t : T0 53 = some zaeQ := withKept_t rfl (withTrue_t rfl zaeQ_t0)
theorem zaeQ_runs {v0 v1 : Value} {h : Heap} {R : RP} {X : XP} (k : RunC Tryz.prog T0 zaeQ_c ⟨[v0, v1, U, U, U, U, U, U, U, U, U, U, U, U, U, U, U, U, U, U, U, U, U, U, U, U, U, U, U, U], [], h, none⟩ (bodyQ Tryz.prog T0 [(4, none)] R X)) :
 Runs Tryz.prog T0 (.fn 53) [v0, v1] h R X := Runs.fn zaeQ_t rfl k
abbrev fn_zkdQ : FuncId := 54
def zkdQ_c : ACode :=
 (.seq (.region [
 o1 3 (.mov (.const (.int .u64 0)))]) (.seq (.region [
 o1 4 (.load none (tm 1)),
 o1 5 (.mov (tm 0)),
 o1 6 (.callV (.func 55) [(tm 4), (.const (.int .i64 8)), (tm 5), (.func 56)]),
 o1 3 (.mov (tm 6))]) .ret))
def zkdQ : AFunc := ⟨7, [(3, none)], zkdQ_c, none⟩
theorem zkdQ_t0 : tableOf Tryz.prog 54 = some zkdQ := by kernel_rfl
theorem zkdQ_t : T0 54 = some zkdQ := withKept_t rfl (withTrue_t rfl zkdQ_t0)
theorem zkdQ_runs {v0 v1 : Value} {h : Heap} {R : RP} {X : XP} (k : RunC Tryz.prog T0 zkdQ_c ⟨[v0, v1, U, U, U, U, U], [], h, none⟩ (bodyQ Tryz.prog T0 [(3, none)] R X)) :
 Runs Tryz.prog T0 (.fn 54) [v0, v1] h R X := Runs.fn zkdQ_t rfl k
abbrev fn_zdeQ : FuncId := 55
def zdeQ_c : ACode :=
 (.seq (.region [
 o1 8 (.mov (.const (.int .u64 0)))]) (.seq (.regionD [
 o1 9 (.mov (tm 1)),
 o1 10 (.mov (tm 0)),
 o1 11 (.nilCheck (tm 10)),
 o1 12 (.fieldAddr 0 (tm 11)),
 o1 13 (.load none (tm 12)),
 o1 14 (.lenSl (tm 13)),
 o1 15 (.mov (tm 0)),
 o1 16 (.nilCheck (tm 15)),
 o1 17 (.fieldAddr 1 (tm 16)),
 o1 18 (.load none (tm 17)),
 o1 19 (.bin .sub (so (.binOp .sub 3 (tm 14) (tm 18) 3) 3) (tm 14) (tm 18)),
 o1 20 (.bin .leq (so (.binOp .leq 3 (tm 9) (tm 19) 3) 4) (tm 9) (tm 19)),
 o1 21 (.mov (tm 2)),
 o2 22 (.callV (.func 77) [(tm 20), (.const (.int .i64 6)), (tm 21)])]) (.seq (.region [
 o1 23 (.mov (tm 0)),
 o1 24 (.nilCheck (tm 23)),
 o1 25 (.fieldAddr 1 (tm 24)),
 o1 26 (.load none (tm 25)),
 o1 27 (.mov (tm 1)),
 o1 28 (.bin .add (so (.binOp .add 3 (tm 26) (tm 27) 3) 3) (tm 26) (tm 27)),
 o1 29 (.nilCheck (tm 23)),
 o1 30 (.fieldAddr 1 (tm 29)),
 o3 (.store 1 (tm 30) (tm 28))]) (.seq (.regionD [
 o1 31 (.mov (tm 3)),
 o1 32 (.mov (tm 0)),
 o1 33 (.nilCheck (tm 32)),
 o1 34 (.fieldAddr 0 (tm 33)),
 o1 35 (.load none (tm 34)),
 o1 36 (.mov (tm 0)),
 o1 37 (.nilCheck (tm 36)),
 o1 38 (.fieldAddr 1 (tm 37)),
 o1 39 (.load none (tm 38)),
 o1 40 (.mov (tm 1)),
 o1 41 (.bin .sub (so (.binOp .sub 3 (tm 39) (tm 40) 3) 3) (tm 39) (tm 40)),
 o1 42 (.mov (tm 0)),
 o1 43 (.nilCheck (tm 42)),
 o1 44 (.fieldAddr 1 (tm 43)),
 o1 45 (.load none (tm 44)),
 o1 46 (.sliceSl 1 (tm 35) (some (tm 41)) (some (tm 45)) none),
 o2 47 (.callV (tm 31) [(tm 46)]),
 o2 8 (.mov (tm 47))]) .ret))))
def zdeQ : AFunc := ⟨48, [(8, none)], zdeQ_c, none⟩
theorem zdeQ_t0 : tableOf Tryz.prog 55 = some zdeQ := by kernel_rfl
theorem zdeQ_t : T0 55 = some zdeQ := withKept_t rfl (withTrue_t rfl zdeQ_t0)
theorem zdeQ_runs {v0 v1 v2 v3 : Value} {h : Heap} {R : RP} {X : XP} (k : RunC Tryz.prog T0 zdeQ_c ⟨[v0, v1, v2, v3, U, U, U, U, U, U, U, U, U, U, U, U, U, U, U, U, U, U, U, U, U, U, U, U, U, U, U, U, U, U, U, U, U, U, U, U, U, U, U, U, U, U, U, U], [], h, none⟩ (bodyQ Tryz.prog T0 [(8, none)] R X)) :
 Runs Tryz.prog T0 (.fn 55) [v0, v1, v2, v3] h R X := Runs.fn zdeQ_t rfl k
abbrev fn_zudQ : FuncId := 56
def zudQ_l0 : ACode :=
 (.seq (.region [
 o1 8 (.bin .lss (so (.binOp .lss 3 (tm 7) (tm 6) 3) 0) (tm 7) (tm 6))]) (.seq (.cond (tm 8)
 .skip
 (.exit 0)) (.seq (.block 1 (.seq (.region [
 o1 9 (.indexSl 1 (tm 5) (tm 7)),
 o1 10 (.load none (tm 9)),
 o1 4 (.mov (tm 10))]) (.region [
 o1 11 (.mov (tm 2)),
 o1 12 (.bin .shl (so (.binOp .shl 27 (tm 11) (.const (.int .u64 8)) 102) 27) (tm 11) (.const (.int .u64 8))),
 o1 13 (.mov (tm 4)),
 o1 14 (.conv .u64 (so (.convert 5 27 (tm 13)) 27) (tm 13)),
 o1 15 (.bin .or (so (.binOp .or 27 (tm 12) (tm 14) 27) 27) (tm 12) (tm 14)),
 o1 2 (.mov (tm 15))]))) (.region [
 o1 16 (.bin .add (so (.binOp .add 3 (tm 7) (.const (.int .i64 1)) 3) 3) (tm 7) (.const (.int .i64 1))),
 o1 7 (.mov (tm 16))]))))
def zudQ_c : ACode :=
 (.seq (.region [
 o1 2 (.mov (.const (.int .u64 0)))]) (.seq (.seq (.region [
 o1 5 (.mov (tm 0)),
 o1 6 (.lenSl (tm 5)),
 o1 7 (.mov k0)]) (.block 0 (.loop zudQ_l0))) (.seq (.region [
 o1 17 (.mov (tm 2)),
 o1 2 (.mov (tm 17))]) .ret)))
def zudQ : AFunc := ⟨18, [(2, none)], zudQ_c, none⟩
theorem zudQ_t0 : tableOf Tryz.prog 56 = some zudQ := by kernel_rfl
theorem zudQ_t : T0 56 = some zudQ := withKept_t rfl (withTrue_t rfl zudQ_t0)
theorem zudQ_runs {v0 : Value} {h : Heap} {R : RP} {X : XP} (k : RunC Tryz.prog T0 zudQ_c ⟨[v0, U, U, U, U, U, U, U, U, U, U, U, U, U, U, U, U, U], [], h, none⟩ (bodyQ Tryz.prog T0 [(2, none)] R X)) :
 Runs Tryz.prog T0 (.fn 56) [v0] h R X := Runs.fn zudQ_t rfl k
abbrev zudQ_l0_M : List Nat := [0, 0, 2, 0, 1, 0, 0, 2, 1, 1, 1, 1, 1, 1, 1, 1, 1, 0]
abbrev fn_zcQ : FuncId := 57
def zcQ_l0 : ACode :=
 (.seq (.region [
 o1 9 (.bin .lss (so (.binOp .lss 3 (tm 8) (tm 7) 3) 0) (tm 8) (tm 7))]) (.seq (.cond (tm 9)
 .skip
 (.exit 0)) (.seq (.block 1 (.seq (.region [
 o1 10 (.indexSl 1 (tm 6) (tm 8)),
 o1 11 (.load none (tm 10)),
 o1 5 (.mov (tm 11))]) (.seq (.region [
 o1 12 (.mov (tm 5)),
 o1 13 (.mov (tm 3)),
 o1 14 (.bin .neq (so (.binOp .neq 3 (tm 12) (tm 13) 3) 4) (tm 12) (tm 13))]) (.cond (tm 14)
 (.seq (.region [
 o1 15 (.mov (tm 5)),
 o1 2 (.mov (tm 15))]) .ret)
 .skip)))) (.region [
 o1 16 (.bin .add (so (.binOp .add 3 (tm 8) (.const (.int .i64 1)) 3) 3) (tm 8) (.const (.int .i64 1))),
 o1 8 (.mov (tm 16))]))))
def zcQ_c : ACode :=
 (.seq (.region [
 o1 2 (.mov k0)]) (.seq (.region [
 o1 3 (.mov k0)]) (.seq (.seq (.region [
 o1 6 (.mov (tm 0)),
 o1 7 (.lenSl (tm 6)),
 o1 8 (.mov k0)]) (.block 0 (.loop zcQ_l0))) (.seq (.region [
 o1 17 (.mov (tm 3)),
 o1 2 (.mov (tm 17))]) .ret))))
def zcQ : AFunc := ⟨18, [(2, none)], zcQ_c, none⟩
theorem zcQ_t0 : tableOf Tryz.prog 57 = some zcQ := by kernel_rfl
theorem zcQ_t : T0 57 = some zcQ := withKept_t rfl (withTrue_t rfl zcQ_t0)
theorem zcQ_runs {v0 : Value} {h : Heap} {R : RP} {X : XP} (k : RunC Tryz.prog T0 zcQ_c ⟨[v0, U, U, U, U, U, U, U, U, U, U, U, U, U, U, U, U, U], [], h, none⟩ (bodyQ Tryz.prog T0 [(2, none)] R X)) :
 Runs Tryz.prog T0 (.fn 57) [v0] h R X := Runs.fn zcQ_t rfl k
abbrev zcQ_l0_M : List Nat := [0, 0, 1, 0, 0, 1, 0, 0, 2, 1, 1, 1, 1, 1, 1, 1, 1, 0]
abbrev fn_zaQ : FuncId := 58
def zaQ_c : ACode :=
 (.seq (.region [
 o1 4 (.mov k0)]) (.seq (.region [
 o1 5 (.mov (tm 0)),
 o1 6 (.mov (tm 1)),
 o1 7 (.ext .compare (.func 79) [(tm 5), (tm 6)]),
 o1 4 (.mov (tm 7))]) .ret))
def zaQ : AFunc := ⟨8, [(4, none)], zaQ_c, none⟩
theorem zaQ_t0 : tableOf Tryz.prog 58 = some zaQ := by kernel_rfl
theorem zaQ_t : T0 58 = some zaQ := withKept_t rfl (withTrue_t rfl zaQ_t0)
theorem zaQ_runs {v0 v1 : Value} {h : Heap} {R : RP} {X : XP} (k : RunC Tryz.prog T0 zaQ_c ⟨[v0, v1, U, U, U, U, U, U], [], h, none⟩ (bodyQ Tryz.prog T0 [(4, none)] R X)) :
 Runs Tryz.prog T0 (.fn 58) [v0, v1] h R X := Runs.fn zaQ_t rfl k
abbrev fn_zbQ : FuncId := 59
def zbQ_c : ACode :=
 (.seq (.region [
 o1 4 (.mov k0)]) (.seq (.region [
 o1 7 (.mov (tm 0)),
 o1 8 (.callV (.func 80) [(tm 7)]),
 o1 5 (.mov (tm 8))]) (.seq (.region [
 o1 9 (.mov (tm 1)),
 o1 10 (.callV (.func 80) [(tm 9)]),
 o1 6 (.mov (tm 10))]) (.seq (.seq (.region [
 o1 11 (.mov (tm 5))]) (.cond (tm 11)
 (.seq (.seq (.region [
 o1 12 (.mov (tm 6))]) (.cond (tm 12)
 (.seq (.region [
 o1 4 (.mov k0)]) .ret)
 .skip)) (.seq (.region [
 o1 4 (.mov (.const (.int .i64 (-1))))]) .ret))
 .skip)) (.seq (.seq (.region [
 o1 13 (.mov (tm 6))]) (.cond (tm 13)
 (.seq (.region [
 o1 4 (.mov (.const (.int .i64 1)))]) .ret)
 .skip)) (.seq (.seq (.region [
 o1 14 (.mov (tm 0)),
 o1 15 (.mov (tm 1)),
 o1 16 (.bin .lss (so (.binOp .lss 27 (tm 14) (tm 15) 27) 4) (tm 14) (tm 15))]) (.cond (tm 16)
 (.seq (.region [
 o1 4 (.mov (.const (.int .i64 (-1))))]) .ret)
 .skip)) (.seq (.seq (.region [
 o1 17 (.mov (tm 0)),
 o1 18 (.mov (tm 1)),
 o1 19 (.bin .gtr (so (.binOp .gtr 27 (tm 17) (tm 18) 27) 4) (tm 17) (tm 18))]) (.cond (tm 19)
 (.seq (.region [
 o1 4 (.mov (.const (.int .i64 1)))]) .ret)
 .skip)) (.seq (.region [
 o1 4 (.mov k0)]) .ret))))))))
def zbQ : AFunc := ⟨20, [(4, none)], zbQ_c, none⟩
theorem zbQ_t0 : tableOf Tryz.prog 59 = some zbQ := by kernel_rfl
theorem zbQ_t : T0 59 = some zbQ := withKept_t rfl (withTrue_t rfl zbQ_t0)
theorem zbQ_runs {v0 v1 : Value} {h : Heap} {R : RP} {X : XP} (k : RunC Tryz.prog T0 zbQ_c ⟨[v0, v1, U, U, U, U, U, U, U, U, U, U, U, U, U, U, U, U, U, U], [], h, none⟩ (bodyQ Tryz.prog T0 [(4, none)] R X)) :
 Runs Tryz.prog T0 (.fn 59) [v0, v1] h R X := Runs.fn zbQ_t rfl k
abbrev fn_zwQ : FuncId := 60
def zwQ_c : ACode :=
 (.seq (.region [
 o1 6 (.mov (.const (.slice none 0 0)))]) (.seq (.seq (.region [
 o1 8 (.mov (tm 0)),
 o1 9 (.nilCheck (tm 8)),
 o1 10 (.fieldAddr 2 (tm 9)),
 o1 11 (.fieldAddr 0 (tm 10)),
 o1 12 (.load none (tm 11)),
 o1 13 (.bin .neq (so (.binOp .neq 33 (tm 12) k0 33) 4) (tm 12) k0)]) (.cond (tm 13)
 (.seq (.region [
 o1 6 (.mov (.const (.slice none 0 0)))]) .ret)
 .skip)) (.seq (.seq (.regionD [
 o1 14 (.mov (tm 1)),
 o1 15 (.mov (tm 0)),
 o1 16 (.nilCheck (tm 15)),
 o1 17 (.fieldAddr 0 (tm 16)),
 o1 18 (.load none (tm 17)),
 o1 19 (.lenSl (tm 18)),
 o1 20 (.mov (tm 0)),
 o1 21 (.nilCheck (tm 20)),
 o1 22 (.fieldAddr 1 (tm 21)),
 o1 23 (.load none (tm 22)),
 o1 24 (.bin .sub (so (.binOp .sub 3 (tm 19) (tm 23) 3) 3) (tm 19) (tm 23)),
 o2 25 (.bin .gtr (so (.binOp .gtr 3 (tm 14) (tm 24) 3) 4) (tm 14) (tm 24))]) (.cond (tm 25)
 (.seq (.region [
 o1 26 (.mov (tm 0)),
 o1 27 (.mov (tm 2)),
 o1 28 (.callV (.func 61) [(tm 26), (.const (.int .i64 6)), (tm 27)])]) (.seq (.region [
 o1 6 (.mov (.const (.slice none 0 0)))]) .ret))
 .skip)) (.seq (.regionD [
 o1 30 (.mov (tm 0)),
 o1 31 (.nilCheck (tm 30)),
 o1 32 (.fieldAddr 0 (tm 31)),
 o1 33 (.load none (tm 32)),
 o1 34 (.mov (tm 0)),
 o1 35 (.nilCheck (tm 34)),
 o1 36 (.fieldAddr 1 (tm 35)),
 o1 37 (.load none (tm 36)),
 o1 38 (.mov (tm 0)),
 o1 39 (.nilCheck (tm 38)),
 o1 40 (.fieldAddr 1 (tm 39)),
 o1 41 (.load none (tm 40)),
 o1 42 (.mov (tm 1)),
 o1 43 (.bin .add (so (.binOp .add 3 (tm 41) (tm 42) 3) 3) (tm 41) (tm 42)),
 o1 44 (.sliceSl 1 (tm 33) (some (tm 37)) (some (tm 43)) none),
 ⟨some 29, .buildSlice 5 [] 0 [], none, [(some 44, .sliceSl 1 (tm 33) (some (tm 37)) (some (tm 43)) none, none), (some 43, .bin .add (so (.binOp .add 3 (tm 41) (tm 42) 3) 3) (tm 41) (tm 42), none), (some 42, .mov (tm 1), none), (some 41, .load none (tm 40), none), (some 40, .fieldAddr 1 (tm 39), none), (some 39, .nilCheck (tm 38), none), (some 38, .mov (tm 0), none), (some 37, .load none (tm 36), none), (some 36, .fieldAddr 1 (tm 35), none), (some 35, .nilCheck (tm 34), none), (some 34, .mov (tm 0), none), (some 33, .load none (tm 32), none), (some 32, .fieldAddr 0 (tm 31), none), (some 31, .nilCheck (tm 30), none), (some 30, .mov (tm 0), none)], false⟩,
 o2 45 (.append 5 1 1 [(.int .u8 0)] false (tm 29) (tm 44)),
 o2 7 (.mov (tm 45))]) (.seq (.region [
 o1 46 (.mov (tm 0)),
 o1 47 (.mov (tm 0)),
 o1 48 (.nilCheck (tm 47)),
 o1 49 (.fieldAddr 1 (tm 48)),
 o1 50 (.load none (tm 49)),
 o1 51 (.mov (tm 1)),
 o1 52 (.bin .add (so (.binOp .add 3 (tm 50) (tm 51) 3) 3) (tm 50) (tm 51)),
 o1 53 (.nilCheck (tm 46)),
 o1 54 (.fieldAddr 1 (tm 53)),
 o3 (.store 1 (tm 54) (tm 52))]) (.seq (.region [
 o1 55 (.mov (tm 7)),
 o1 6 (.mov (tm 55))]) .ret))))))
def zwQ : AFunc := ⟨56, [(6, none)], zwQ_c, none⟩
theorem zwQ_t0 : tableOf Tryz.prog 60 = some zwQ := by kernel_rfl
theorem zwQ_t : T0 60 = some zwQ := withKept_t rfl (withTrue_t rfl zwQ_t0)
theorem zwQ_runs {v0 v1 v2 : Value} {h : Heap} {R : RP} {X : XP} (k : RunC Tryz.prog T0 zwQ_c ⟨[v0, v1, v2, U, U, U, U, U, U, U, U, U, U, U, U, U, U, U, U, U, U, U, U, U, U, U, U, U, U, U, U, U, U, U, U, U, U, U, U, U, U, U, U, U, U, U, U, U, U, U, U, U, U, U, U, U], [], h, none⟩ (bodyQ Tryz.prog T0 [(6, none)] R X)) :
 Runs Tryz.prog T0 (.fn 60) [v0, v1, v2] h R X := Runs.fn zwQ_t rfl k
abbrev fn_zrQ : FuncId := 61
def zrQ_c : ACode :=
 (.seq (.region [
 o1 6 (.mov (tm 0)),
 o1 7 (.nilCheck (tm 6)),
 o1 8 (.fieldAddr 2 (tm 7)),
 o1 9 (.fieldAddr 0 (tm 8)),
 o1 10 (.load none (tm 9)),
 o1 11 (.bin .eql (so (.binOp .eql 33 (tm 10) k0 33) 4) (tm 10) k0)]) (.cond (tm 11)
 (.region [
 o1 12 (.mov (tm 0)),
 o1 13 (.mov (tm 1)),
 o1 14 (.mov (tm 2)),
 o1 15 (.build [(.int .i64 0), (.int .i64 0)] [(0, 1, (tm 13)), (1, 1, (tm 14))]),
 o1 16 (.nilCheck (tm 12)),
 o1 17 (.fieldAddr 2 (tm 16)),
 o3 (.store 2 (tm 17) (tm 15))])
 .skip))
def zrQ : AFunc := ⟨18, [], zrQ_c, none⟩
theorem zrQ_t0 : tableOf Tryz.prog 61 = some zrQ := by kernel_rfl
theorem zrQ_t : T0 61 = some zrQ := withKept_t rfl (withTrue_t rfl zrQ_t0)
theorem zrQ_runs {v0 v1 v2 : Value} {h : Heap} {R : RP} {X : XP} (k : RunC Tryz.prog T0 zrQ_c ⟨[v0, v1, v2, U, U, U, U, U, U, U, U, U, U, U, U, U, U, U], [], h, none⟩ (bodyQ Tryz.prog T0 [] R X)) :
 Runs Tryz.prog T0 (.fn 61) [v0, v1, v2] h R X := Runs.fn zrQ_t rfl k
abbrev fn_zacQ : FuncId := 62
def zacQ_c : ACode :=
 (.seq (.region [
 o1 2 (.mov (.const (.slice none 0 0)))]) (.seq (.region [
 o1 3 (.mov (tm 0)),
 o1 4 (.nilCheck (tm 3)),
 o1 5 (.fieldAddr 1 (tm 4)),
 o1 6 (.load none (tm 5)),
 o1 7 (.callV (.func 82) [(tm 6)]),
 o1 8 (.callV (.func 81) [(tm 7), (.func 24)]),
 o1 2 (.mov (tm 8))]) .ret))
def zacQ : AFunc := ⟨9, [(2, none)], zacQ_c, none⟩
theorem zacQ_t0 : tableOf Tryz.prog 62 = some zacQ := by kernel_rfl
theorem zacQ_t : T0 62 = some zacQ := withKept_t rfl (withTrue_t rfl zacQ_t0)
theorem zacQ_runs {v0 : Value} {h : Heap} {R : RP} {X : XP} (k : RunC Tryz.prog T0 zacQ_c ⟨[v0, U, U, U, U, U, U, U, U], [], h, none⟩ (bodyQ Tryz.prog T0 [(2, none)] R X)) :
 Runs Tryz.prog T0 (.fn 62) [v0] h R X := Runs.fn zacQ_t rfl k
abbrev fn_zybQ : FuncId := 63
def zybQ_c : ACode :=
 (.seq (.region [
 o1 2 (.box 32 (tm 0)),
 o1 3 (.box 26 (tm 1)),
 o1 4 (.mov (.const .nilFunc))]) (.seq (.region [
 o1 5 (.mkFunc (.func 83) [] [(tm 2), (tm 3)]),
 o1 4 (.mov (tm 5))]) .ret))
def zybQ : AFunc := ⟨6, [(4, none)], zybQ_c, none⟩
theorem zybQ_t0 : tableOf Tryz.prog 63 = some zybQ := by kernel_rfl
theorem zybQ_t : T0 63 = some zybQ := withKept_t rfl (withTrue_t rfl zybQ_t0)
theorem zybQ_runs {v0 v1 : Value} {h : Heap} {R : RP} {X : XP} (k : RunC Tryz.prog T0 zybQ_c ⟨[v0, v1, U, U, U, U], [], h, none⟩ (bodyQ Tryz.prog T0 [(4, none)] R X)) :
 Runs Tryz.prog T0 (.fn 63) [v0, v1] h R X := Runs.fn zybQ_t rfl k
abbrev fn_zzcQ : FuncId := 64
def zzcQ_c : ACode :=
 (.seq (.region [
 o1 2 (.mov (.const (.pointer none))),
 o1 3 (.mov k0)]) (.seq (.seq (.region [
 o1 4 (.mov (tm 0)),
 o1 5 (.bin .lss (so (.binOp .lss 3 (tm 4) k0 3) 4) (tm 4) k0),
 o1 6 (.mov (tm 5)),
 o5 7 (.mov (tm 0)) 6,
 o5 8 (.bin .gtr (so (.binOp .gtr 3 (tm 7) (.const (.int .i64 1048576)) 3) 4) (tm 7) (.const (.int .i64 1048576))) 6,
 o1 9 (.pick (tm 6) (.const (.bool true)) (tm 8))]) (.cond (tm 9)
 (.seq (.region [
 o1 2 (.mov (.const (.pointer none))),
 o1 3 (.mov (.const (.int .i64 3)))]) .ret)
 .skip)) (.seq (.region [
 o1 10 (.mov (tm 0)),
 o1 11 (.build [(.int .i64 0), (.slice none 0 0), (.int .i64 0), (.bool false)] [(0, 1, (tm 10)), (3, 1, (.const (.bool true)))]),
 o1 12 (.box 128 (tm 11)),
 o1 2 (.mov (tm 12)),
 o1 3 (.mov k0)]) .ret)))
def zzcQ : AFunc := ⟨13, [(2, none), (3, none)], zzcQ_c, none⟩
theorem zzcQ_t0 : tableOf Tryz.prog 64 = some zzcQ := by kernel_rfl
theorem zzcQ_t : T0 64 = some zzcQ := withKept_t rfl (withTrue_t rfl zzcQ_t0)
theorem zzcQ_runs {v0 : Value} {h : Heap} {R : RP} {X : XP} (k : RunC Tryz.prog T0 zzcQ_c ⟨[v0, U, U, U, U, U, U, U, U, U, U, U, U], [], h, none⟩ (bodyQ Tryz.prog T0 [(2, none), (3, none)] R X)) :
 Runs Tryz.prog T0 (.fn 64) [v0] h R X := Runs.fn zzcQ_t rfl k
abbrev fn_zrdQ : FuncId := 65
def zrdQ_c : ACode :=
 (.seq (.region [
 o1 4 (.mov k0)]) (.seq (.region [
 o1 5 (.mov (tm 0)),
 o1 6 (.mov (tm 1)),
 o1 7 (.bin .geq (so (.binOp .geq 3 (tm 6) k0 3) 4) (tm 6) k0),
 o1 8 (.mov (tm 1)),
 o1 9 (.raw (so (.call ⟨.builtin .max, #[(tm 8), k0], #[3, 3]⟩) 3)),
 o1 10 (.callV (.func 85) [(tm 9)]),
 o1 11 (.buildSlice 22 [(.slice none 0 0)] 1 [(0, 1, (tm 10))]),
 o1 12 (.callV (.func 84) [(tm 5), (tm 7), (tm 11)]),
 o1 4 (.mov (tm 12))]) .ret))
def zrdQ : AFunc := ⟨13, [(4, none)], zrdQ_c, none⟩
theorem zrdQ_t0 : tableOf Tryz.prog 65 = some zrdQ := by kernel_rfl
theorem zrdQ_t : T0 65 = some zrdQ := withKept_t rfl (withTrue_t rfl zrdQ_t0)
theorem zrdQ_runs {v0 v1 : Value} {h : Heap} {R : RP} {X : XP} (k : RunC Tryz.prog T0 zrdQ_c ⟨[v0, v1, U, U, U, U, U, U, U, U, U, U, U], [], h, none⟩ (bodyQ Tryz.prog T0 [(4, none)] R X)) :
 Runs Tryz.prog T0 (.fn 65) [v0, v1] h R X := Runs.fn zrdQ_t rfl k
abbrev fn_zqdQ : FuncId := 66
def zqdQ_c : ACode :=
 (.seq (.region [
 o1 3 (.box 24 (tm 1)),
 o1 4 (.mov k0)]) (.seq (.region [
 o1 5 (.mov (tm 0)),
 o1 6 (.sliceArr 4 1 (tm 3) none none),
 o1 7 (.buildSlice 22 [(.slice none 0 0)] 1 [(0, 1, (tm 6))]),
 o1 8 (.callV (.func 84) [(tm 5), (.const (.bool true)), (tm 7)]),
 o1 4 (.mov (tm 8))]) .ret))
def zqdQ : AFunc := ⟨9, [(4, none)], zqdQ_c, none⟩
theorem zqdQ_t0 : tableOf Tryz.prog 66 = some zqdQ := by kernel_rfl
theorem zqdQ_t : T0 66 = some zqdQ := withKept_t rfl (withTrue_t rfl zqdQ_t0)
theorem zqdQ_runs {v0 v1 : Value} {h : Heap} {R : RP} {X : XP} (k : RunC Tryz.prog T0 zqdQ_c ⟨[v0, v1, U, U, U, U, U, U, U], [], h, none⟩ (bodyQ Tryz.prog T0 [(4, none)] R X)) :
 Runs Tryz.prog T0 (.fn 66) [v0, v1] h R X := Runs.fn zqdQ_t rfl k
abbrev fn_zpdQ : FuncId := 67
def zpdQ_c : ACode :=
 (.seq (.region [
 o1 3 (.box 26 (tm 1)),
 o1 4 (.mov k0)]) (.seq (.region [
 o1 5 (.mov (tm 0)),
 o1 6 (.sliceArr 32 1 (tm 3) none none),
 o1 7 (.buildSlice 22 [(.slice none 0 0)] 1 [(0, 1, (tm 6))]),
 o1 8 (.callV (.func 84) [(tm 5), (.const (.bool true)), (tm 7)]),
 o1 4 (.mov (tm 8))]) .ret))
def zpdQ : AFunc := ⟨9, [(4, none)], zpdQ_c, none⟩
theorem zpdQ_t0 : tableOf Tryz.prog 67 = some zpdQ := by kernel_rfl
theorem zpdQ_t : T0 67 = some zpdQ := withKept_t rfl (withTrue_t rfl zpdQ_t0)
theorem zpdQ_runs {v0 v1 : Value} {h : Heap} {R : RP} {X : XP} (k : RunC Tryz.prog T0 zpdQ_c ⟨[v0, v1, U, U, U, U, U, U, U], [], h, none⟩ (bodyQ Tryz.prog T0 [(4, none)] R X)) :
 Runs Tryz.prog T0 (.fn 67) [v0, v1] h R X := Runs.fn zpdQ_t rfl k
abbrev fn_zsdQ : FuncId := 68
def zsdQ_c : ACode :=
 (.seq (.region [
 o1 4 (.mov k0)]) (.seq (.region [
 o1 6 (.mov (tm 1)),
 o1 7 (.callV (.func 86) [(tm 6)]),
 o1 5 (.alloc 131 [(.int .u8 0), (.int .u8 0), (.int .u8 0), (.int .u8 0), (.int .u8 0), (.int .u8 0), (.int .u8 0), (.int .u8 0)]),
 o3 (.store 8 (tm 5) (tm 7))]) (.seq (.region [
 o1 8 (.mov (tm 0)),
 o1 9 (.sliceArr 8 1 (tm 5) none none),
 o1 10 (.buildSlice 22 [(.slice none 0 0)] 1 [(0, 1, (tm 9))]),
 o1 11 (.callV (.func 84) [(tm 8), (.const (.bool true)), (tm 10)]),
 o1 4 (.mov (tm 11))]) .ret)))
def zsdQ : AFunc := ⟨12, [(4, none)], zsdQ_c, none⟩
theorem zsdQ_t0 : tableOf Tryz.prog 68 = some zsdQ := by kernel_rfl
theorem zsdQ_t : T0 68 = some zsdQ := withKept_t rfl (withTrue_t rfl zsdQ_t0)
theorem zsdQ_runs {v0 v1 : Value} {h : Heap} {R : RP} {X : XP} (k : RunC Tryz.prog T0 zsdQ_c ⟨[v0, v1, U, U, U, U, U, U, U, U, U, U], [], h, none⟩ (bodyQ Tryz.prog T0 [(4, none)] R X)) :
 Runs Tryz.prog T0 (.fn 68) [v0, v1] h R X := Runs.fn zsdQ_t rfl k
abbrev fn_zodQ : FuncId := 69
def zodQ_c : ACode :=
 (.seq (.region [
 o1 2 (.mov (.const (.slice none 0 0))),
 o1 3 (.mov k0)]) (.seq (.block 0 (.seq (.region [
 o1 5 (.mov (tm 0)),
 o1 6 (.eq .ptr false (so (.binOp .eql 108 (tm 5) (.const (.pointer none)) 108) 4) (tm 5) (.const (.pointer none))),
 o1 7 (.mov (tm 6)),
 o5 8 (.mov (tm 0)) 7,
 o5 9 (.nilCheck (tm 8)) 7,
 o5 10 (.fieldAddr 3 (tm 9)) 7,
 o5 11 (.load none (tm 10)) 7,
 o5 12 (.raw (so (.unOp .not 4 (tm 11)) 4)) 7,
 o1 13 (.pick (tm 7) (.const (.bool true)) (tm 12)),
 o1 4 (.mov (tm 13))]) (.cond (tm 4)
 (.seq (.region [
 o1 2 (.mov (.const (.slice none 0 0))),
 o1 3 (.mov (.const (.int .i64 1)))]) .ret)
 (.seq (.region [
 o1 15 (.mov (tm 0)),
 o1 16 (.nilCheck (tm 15)),
 o1 17 (.fieldAddr 2 (tm 16)),
 o1 18 (.load none (tm 17)),
 o1 19 (.bin .neq (so (.binOp .neq 33 (tm 18) k0 33) 4) (tm 18) k0),
 o1 14 (.mov (tm 19))]) (.cond (tm 14)
 (.seq (.regionD [
 o1 20 (.mov (tm 0)),
 o1 21 (.nilCheck (tm 20)),
 o1 22 (.fieldAddr 2 (tm 21)),
 o1 23 (.load none (tm 22)),
 o1 2 (.mov (.const (.slice none 0 0))),
 o2 3 (.mov (tm 23))]) .ret)
 .skip))))) (.seq (.region [
 o1 24 (.mov (tm 0)),
 o1 25 (.nilCheck (tm 24)),
 o1 26 (.fieldAddr 1 (tm 25)),
 o1 27 (.load none (tm 26)),
 o1 28 (.callV (.func 42) [(tm 27)]),
 o1 2 (.mov (tm 28)),
 o1 3 (.mov k0)]) .ret)))
def zodQ : AFunc := ⟨29, [(2, none), (3, none)], zodQ_c, none⟩
theorem zodQ_t0 : tableOf Tryz.prog 69 = some zodQ := by kernel_rfl
theorem zodQ_t : T0 69 = some zodQ := withKept_t rfl (withTrue_t rfl zodQ_t0)
theorem zodQ_runs {v0 : Value} {h : Heap} {R : RP} {X : XP} (k : RunC Tryz.prog T0 zodQ_c ⟨[v0, U, U, U, U, U, U, U, U, U, U, U, U, U, U, U, U, U, U, U, U, U, U, U, U, U, U, U, U], [], h, none⟩ (bodyQ Tryz.prog T0 [(2, none), (3, none)] R X)) :
 Runs Tryz.prog T0 (.fn 69) [v0] h R X := Runs.fn zodQ_t rfl k
abbrev fn_zoQ : FuncId := 70
def zoQ_c : ACode :=
 (.seq (.region [
 o1 2 (.mov (.const (.pointer none))),
 o1 3 (.mov k0)]) (.seq (.seq (.region [
 o1 4 (.mov (tm 0)),
 o1 5 (.bin .lss (so (.binOp .lss 3 (tm 4) k0 3) 4) (tm 4) k0),
 o1 6 (.mov (tm 5)),
 o5 7 (.mov (tm 0)) 6,
 o5 8 (.bin .gtr (so (.binOp .gtr 3 (tm 7) (.const (.int .i64 1048576)) 3) 4) (tm 7) (.const (.int .i64 1048576))) 6,
 o1 9 (.pick (tm 6) (.const (.bool true)) (tm 8))]) (.cond (tm 9)
 (.seq (.region [
 o1 2 (.mov (.const (.pointer none))),
 o1 3 (.mov (.const (.int .i64 3)))]) .ret)
 .skip)) (.seq (.region [
 o1 10 (.mov (tm 0)),
 o1 11 (.build [(.int .i64 0), (.slice none 0 0), (.int .i64 0)] [(0, 1, (tm 10))]),
 o1 12 (.box 134 (tm 11)),
 o1 2 (.mov (tm 12)),
 o1 3 (.mov k0)]) .ret)))
def zoQ : AFunc := ⟨13, [(2, none), (3, none)], zoQ_c, none⟩
theorem zoQ_t0 : tableOf Tryz.prog 70 = some zoQ := by kernel_rfl
theorem zoQ_t : T0 70 = some zoQ := withKept_t rfl (withTrue_t rfl zoQ_t0)
theorem zoQ_runs {v0 : Value} {h : Heap} {R : RP} {X : XP} (k : RunC Tryz.prog T0 zoQ_c ⟨[v0, U, U, U, U, U, U, U, U, U, U, U, U], [], h, none⟩ (bodyQ Tryz.prog T0 [(2, none), (3, none)] R X)) :
 Runs Tryz.prog T0 (.fn 70) [v0] h R X := Runs.fn zoQ_t rfl k
abbrev fn_zbbQ : FuncId := 71
def zbbQ_c : ACode :=
 (.seq (.region [
 o1 4 (.mov k0)]) (.seq (.seq (.region [
 o1 5 (.mov (tm 1)),
 o1 6 (.bin .lss (so (.binOp .lss 3 (tm 5) k0 3) 4) (tm 5) k0),
 o1 7 (.mov (tm 6)),
 o4 8 (.mov (tm 0)) 7,
 o4 9 (.nilCheck (tm 8)) 7,
 o4 10 (.fieldAddr 2 (tm 9)) 7,
 o4 11 (.load none (tm 10)) 7,
 o4 12 (.bin .eql (so (.binOp .eql 33 (tm 11) k0 33) 4) (tm 11) k0) 7,
 o1 13 (.pick (tm 7) (tm 12) (.const (.bool false)))]) (.cond (tm 13)
 (.region [
 o1 14 (.mov (tm 0)),
 o1 15 (.nilCheck (tm 14)),
 o1 16 (.fieldAddr 2 (tm 15)),
 o3 (.store 1 (tm 16) (.const (.int .i64 3)))])
 .skip)) (.seq (.seq (.region [
 o1 17 (.mov (tm 0)),
 o1 18 (.nilCheck (tm 17)),
 o1 19 (.fieldAddr 2 (tm 18)),
 o1 20 (.load none (tm 19)),
 o1 21 (.bin .neq (so (.binOp .neq 33 (tm 20) k0 33) 4) (tm 20) k0)]) (.cond (tm 21)
 (.seq (.region [
 o1 22 (.mov (tm 0)),
 o1 23 (.nilCheck (tm 22)),
 o1 24 (.fieldAddr 2 (tm 23)),
 o1 25 (.load none (tm 24)),
 o1 4 (.mov (tm 25))]) .ret)
 .skip)) (.seq (.region [
 o1 26 (.mov (tm 0)),
 o1 27 (.mov (tm 1)),
 o1 28 (.callV (.func 88) [(tm 27)]),
 o1 29 (.callV (.func 87) [(tm 26), (tm 28)]),
 o1 4 (.mov (tm 29))]) .ret))))
def zbbQ : AFunc := ⟨30, [(4, none)], zbbQ_c, none⟩
theorem zbbQ_t0 : tableOf Tryz.prog 71 = some zbbQ := by kernel_rfl
theorem zbbQ_t : T0 71 = some zbbQ := withKept_t rfl (withTrue_t rfl zbbQ_t0)
theorem zbbQ_runs {v0 v1 : Value} {h : Heap} {R : RP} {X : XP} (k : RunC Tryz.prog T0 zbbQ_c ⟨[v0, v1, U, U, U, U, U, U, U, U, U, U, U, U, U, U, U, U, U, U, U, U, U, U, U, U, U, U, U, U], [], h, none⟩ (bodyQ Tryz.prog T0 [(4, none)] R X)) :
 Runs Tryz.prog T0 (.fn 71) [v0, v1] h R X := Runs.fn zbbQ_t rfl k
abbrev fn_zabQ : FuncId := 72
def zabQ_c : ACode :=
 (.seq (.region [
 o1 3 (.box 24 (tm 1)),
 o1 4 (.mov k0)]) (.seq (.region [
 o1 5 (.mov (tm 0)),
 o1 6 (.buildSlice 5 [] 0 []),
 o1 7 (.sliceArr 4 1 (tm 3) none none),
 o1 8 (.append 5 1 1 [(.int .u8 0)] false (tm 6) (tm 7)),
 o1 9 (.callV (.func 87) [(tm 5), (tm 8)]),
 o1 4 (.mov (tm 9))]) .ret))
def zabQ : AFunc := ⟨10, [(4, none)], zabQ_c, none⟩
theorem zabQ_t0 : tableOf Tryz.prog 72 = some zabQ := by kernel_rfl
theorem zabQ_t : T0 72 = some zabQ := withKept_t rfl (withTrue_t rfl zabQ_t0)
theorem zabQ_runs {v0 v1 : Value} {h : Heap} {R : RP} {X : XP} (k : RunC Tryz.prog T0 zabQ_c ⟨[v0, v1, U, U, U, U, U, U, U, U], [], h, none⟩ (bodyQ Tryz.prog T0 [(4, none)] R X)) :
 Runs Tryz.prog T0 (.fn 72) [v0, v1] h R X := Runs.fn zabQ_t rfl k
abbrev fn_zzQ : FuncId := 73
def zzQ_c : ACode :=
 (.seq (.region [
 o1 3 (.box 26 (tm 1)),
 o1 4 (.mov k0)]) (.seq (.region [
 o1 5 (.mov (tm 0)),
 o1 6 (.buildSlice 5 [] 0 []),
 o1 7 (.sliceArr 32 1 (tm 3) none none),
 o1 8 (.append 5 1 1 [(.int .u8 0)] false (tm 6) (tm 7)),
 o1 9 (.callV (.func 87) [(tm 5), (tm 8)]),
 o1 4 (.mov (tm 9))]) .ret))
def zzQ : AFunc := ⟨10, [(4, none)], zzQ_c, none⟩
theorem zzQ_t0 : tableOf Tryz.prog 73 = some zzQ := by kernel_rfl
theorem zzQ_t : T0 73 = some zzQ := withKept_t rfl (withTrue_t rfl zzQ_t0)
theorem zzQ_runs {v0 v1 : Value} {h : Heap} {R : RP} {X : XP} (k : RunC Tryz.prog T0 zzQ_c ⟨[v0, v1, U, U, U, U, U, U, U, U], [], h, none⟩ (bodyQ Tryz.prog T0 [(4, none)] R X)) :
 Runs Tryz.prog T0 (.fn 73) [v0, v1] h R X := Runs.fn zzQ_t rfl k
abbrev fn_zdbQ : FuncId := 74
def zdbQ_c : ACode :=
 (.seq (.region [
 o1 4 (.mov k0)]) (.seq (.region [
 o1 5 (.mov (tm 0)),
 o1 6 (.mov (tm 1)),
 o1 7 (.callV (.func 89) [(tm 6)]),
 o1 8 (.callV (.func 87) [(tm 5), (tm 7)]),
 o1 4 (.mov (tm 8))]) .ret))
def zdbQ : AFunc := ⟨9, [(4, none)], zdbQ_c, none⟩
theorem zdbQ_t0 : tableOf Tryz.prog 74 = some zdbQ := by kernel_rfl
theorem zdbQ_t : T0 74 = some zdbQ := withKept_t rfl (withTrue_t rfl zdbQ_t0)
theorem zdbQ_runs {v0 v1 : Value} {h : Heap} {R : RP} {X : XP} (k : RunC Tryz.prog T0 zdbQ_c ⟨[v0, v1, U, U, U, U, U, U, U], [], h, none⟩ (bodyQ Tryz.prog T0 [(4, none)] R X)) :
 Runs Tryz.prog T0 (.fn 74) [v0, v1] h R X := Runs.fn zdbQ_t rfl k
abbrev fn_zyQ : FuncId := 75
def zyQ_c : ACode :=
 (.seq (.region [
 o1 2 (.mov (.const (.slice none 0 0))),
 o1 3 (.mov k0)]) (.seq (.seq (.region [
 o1 4 (.mov (tm 0)),
 o1 5 (.nilCheck (tm 4)),
 o1 6 (.fieldAddr 2 (tm 5)),
 o1 7 (.load none (tm 6)),
 o1 8 (.bin .neq (so (.binOp .neq 33 (tm 7) k0 33) 4) (tm 7) k0)]) (.cond (tm 8)
 (.seq (.regionD [
 o1 9 (.mov (tm 0)),
 o1 10 (.nilCheck (tm 9)),
 o1 11 (.fieldAddr 2 (tm 10)),
 o1 12 (.load none (tm 11)),
 o1 2 (.mov (.const (.slice none 0 0))),
 o2 3 (.mov (tm 12))]) .ret)
 .skip)) (.seq (.region [
 o1 13 (.buildSlice 5 [] 0 []),
 o1 14 (.mov (tm 0)),
 o1 15 (.nilCheck (tm 14)),
 o1 16 (.fieldAddr 1 (tm 15)),
 o1 17 (.load none (tm 16)),
 o1 18 (.append 5 1 1 [(.int .u8 0)] false (tm 13) (tm 17)),
 o1 2 (.mov (tm 18)),
 o1 3 (.mov k0)]) .ret)))
def zyQ : AFunc := ⟨19, [(2, none), (3, none)], zyQ_c, none⟩
theorem zyQ_t0 : tableOf Tryz.prog 75 = some zyQ := by kernel_rfl
theorem zyQ_t : T0 75 = some zyQ := withKept_t rfl (withTrue_t rfl zyQ_t0)
theorem zyQ_runs {v0 : Value} {h : Heap} {R : RP} {X : XP} (k : RunC Tryz.prog T0 zyQ_c ⟨[v0, U, U, U, U, U, U, U, U, U, U, U, U, U, U, U, U, U, U], [], h, none⟩ (bodyQ Tryz.prog T0 [(2, none), (3, none)] R X)) :
 Runs Tryz.prog T0 (.fn 75) [v0] h R X := Runs.fn zyQ_t rfl k
abbrev fn_zldQ : FuncId := 76
def zldQ_c : ACode :=
 (.seq (.region [
 o1 5 (.recover),
 o1 2 (.mov (tm 5))]) (.seq (.region [
 o1 6 (.mov (tm 2)),
 o1 7 (.eq .iface true (so (.binOp .neq 20 (tm 6) (.const .nilIface) 20) 4) (tm 6) (.const .nilIface))]) (.cond (tm 7)
 (.seq (.region [
 o1 9 (.mov (tm 2)),
 o1 10 (.assertTo 138 (.agg ⟨[(.int .i64 0), (.int .i64 0)]⟩) true (tm 9)),
 o1 8 (.mov (tm 10)),
 o1 11 (.extract 0 (tm 8)),
 o1 12 (.extract 1 (tm 8)),
 o1 3 (.alloc 138 [(.int .i64 0), (.int .i64 0)]),
 o3 (.store 2 (tm 3) (tm 11)),
 o1 4 (.mov (tm 12))]) (.seq (.seq (.region [
 o1 13 (.mov (tm 4)),
 o1 14 (.raw (so (.unOp .not 4 (tm 13)) 4))]) (.cond (tm 14)
 (.region [
 o1 15 (.mov (tm 2)),
 o3 (.panic (tm 15))])
 .skip)) (.region [
 o1 16 (.mov (tm 0)),
 o1 17 (.fieldAddr 0 (tm 3)),
 o1 18 (.load (some 2) (tm 17)),
 o1 19 (.nilCheck (tm 16)),
 o1 20 (.fieldAddr 2 (tm 19)),
 o3 (.store 2 (tm 20) (tm 18))])))
 .skip)))
def zldQ : AFunc := ⟨21, [], zldQ_c, none⟩
theorem zldQ_t0 : tableOf Tryz.prog 76 = some zldQ := by kernel_rfl
theorem zldQ_t : T0 76 = some zldQ := withKept_t rfl (withTrue_t rfl zldQ_t0)
theorem zldQ_df {v0 : Value} {u : FrameMode} {h : Heap} {R : FrameMode → Heap → Prop} {X : List PanicEntry → FrameMode → Heap → Prop} (k : RunT Tryz.prog T0 zldQ_c ⟨⟨[v0, U, U, U, U, U, U, U, U, U, U, U, U, U, U, U, U, U, U, U, U], [], h, none⟩, u⟩ (doneQ [] R X)) :
 RunDf Tryz.prog T0 76 [v0] u h R X := RunDf.fn zldQ_t rfl k
abbrev fn_zvdQ : FuncId := 77
def zvdQ_c : ACode :=
 (.seq (.region [
 o1 6 (.mov (tm 0)),
 o1 7 (.raw (so (.unOp .not 4 (tm 6)) 4))]) (.cond (tm 7)
 (.region [
 o1 8 (.mov (tm 1)),
 o1 9 (.mov (tm 2)),
 o1 10 (.build [(.int .i64 0), (.int .i64 0)] [(0, 1, (tm 8)), (1, 1, (tm 9))]),
 o1 11 (.build [(.int .i64 0), (.int .i64 0)] [(0, 2, (tm 10))]),
 o1 12 (.mkIface 138 (tm 11)),
 o3 (.panic (tm 12))])
 .skip))
def zvdQ : AFunc := ⟨13, [], zvdQ_c, none⟩
theorem zvdQ_t0 : tableOf Tryz.prog 77 = some zvdQ := by kernel_rfl
theorem zvdQ_t : T0 77 = some zvdQ := withKept_t rfl (withTrue_t rfl zvdQ_t0)
theorem zvdQ_runs {v0 v1 v2 : Value} {h : Heap} {R : RP} {X : XP} (k : RunC Tryz.prog T0 zvdQ_c ⟨[v0, v1, v2, U, U, U, U, U, U, U, U, U, U], [], h, none⟩ (bodyQ Tryz.prog T0 [] R X)) :
 Runs Tryz.prog T0 (.fn 77) [v0, v1, v2] h R X := Runs.fn zvdQ_t rfl k
abbrev fn_zndQ : FuncId := 78
def zndQ_c : ACode :=
 (.seq (.region [
 o1 4 (.mov (.const (.int .u64 0)))]) (.seq (.seq (.region [
 o1 5 (.load none (tm 1)),
 o1 6 (.bin .gtr (so (.binOp .gtr 3 (tm 5) k0 3) 4) (tm 5) k0)]) (.cond (tm 6)
 (.region [
 o1 7 (.mov (tm 0)),
 o1 8 (.indexSl 1 (tm 7) k0),
 o1 9 (.load none (tm 8)),
 o3 (.store 1 (tm 2) (tm 9))])
 .skip)) (.seq (.region [
 o1 10 (.mov (tm 0)),
 o1 11 (.callV (.func 56) [(tm 10)]),
 o1 4 (.mov (tm 11))]) .ret)))
def zndQ : AFunc := ⟨12, [(4, none)], zndQ_c, none⟩
theorem zndQ_t0 : tableOf Tryz.prog 78 = some zndQ := by kernel_rfl
theorem zndQ_t : T0 78 = some zndQ := withKept_t rfl (withTrue_t rfl zndQ_t0)
theorem zndQ_runs {v0 v1 v2 : Value} {h : Heap} {R : RP} {X : XP} (k : RunC Tryz.prog T0 zndQ_c ⟨[v0, v1, v2, U, U, U, U, U, U, U, U, U], [], h, none⟩ (bodyQ Tryz.prog T0 [(4, none)] R X)) :
 Runs Tryz.prog T0 (.fn 78) [v0, v1, v2] h R X := Runs.fn zndQ_t rfl k
abbrev fn_zdQ : FuncId := 80
def zdQ_c : ACode :=
 (.seq (.region [
 o1 2 (.mov (.const (.bool false)))]) (.seq (.region [
 o1 3 (.mov (tm 0)),
 o1 4 (.mov (tm 0)),
 o1 5 (.bin .neq (so (.binOp .neq 27 (tm 3) (tm 4) 27) 4) (tm 3) (tm 4)),
 o1 2 (.mov (tm 5))]) .ret))
def zdQ : AFunc := ⟨6, [(2, none)], zdQ_c, none⟩
theorem zdQ_t0 : tableOf Tryz.prog 80 = some zdQ := by kernel_rfl
theorem zdQ_t : T0 80 = some zdQ := withKept_t rfl (withTrue_t rfl zdQ_t0)
theorem zdQ_runs {v0 : Value} {h : Heap} {R : RP} {X : XP} (k : RunC Tryz.prog T0 zdQ_c ⟨[v0, U, U, U, U, U], [], h, none⟩ (bodyQ Tryz.prog T0 [(2, none)] R X)) :
 Runs Tryz.prog T0 (.fn 80) [v0] h R X := Runs.fn zdQ_t rfl k
abbrev fn_zicQ : FuncId := 81
def zicQ_c : ACode :=
 (.seq (.region [
 o1 4 (.mov (.const (.slice none 0 0)))]) (.seq (.region [
 o1 6 (.mov (tm 0)),
 o1 7 (.callV (.func 90) [(tm 6)]),
 o1 5 (.mov (tm 7))]) (.seq (.region [
 o1 8 (.mov (tm 5)),
 o1 9 (.mov (tm 1)),
 o1 10 (.callV (.func 91) [(tm 8), (tm 9)])]) (.seq (.region [
 o1 11 (.mov (tm 5)),
 o1 4 (.mov (tm 11))]) .ret))))
def zicQ : AFunc := ⟨12, [(4, none)], zicQ_c, none⟩
theorem zicQ_t0 : tableOf Tryz.prog 81 = some zicQ := by kernel_rfl
theorem zicQ_t : T0 81 = some zicQ := withKept_t rfl (withTrue_t rfl zicQ_t0)
theorem zicQ_runs {v0 v1 : Value} {h : Heap} {R : RP} {X : XP} (k : RunC Tryz.prog T0 zicQ_c ⟨[v0, v1, U, U, U, U, U, U, U, U, U, U], [], h, none⟩ (bodyQ Tryz.prog T0 [(4, none)] R X)) :
 Runs Tryz.prog T0 (.fn 81) [v0, v1] h R X := Runs.fn zicQ_t rfl k
abbrev fn_zkbQ : FuncId := 82
def zkbQ_c : ACode :=
 (.seq (.region [
 o1 1 (.box 62 (tm 0)),
 o1 2 (.mov (.const .nilFunc))]) (.seq (.region [
 o1 3 (.mkFunc (.func 92) [] [(tm 1)]),
 o1 2 (.mov (tm 3))]) .ret))
def zkbQ : AFunc := ⟨4, [(2, none)], zkbQ_c, none⟩
theorem zkbQ_t0 : tableOf Tryz.prog 82 = some zkbQ := by kernel_rfl
theorem zkbQ_t : T0 82 = some zkbQ := withKept_t rfl (withTrue_t rfl zkbQ_t0)
theorem zkbQ_runs {v0 : Value} {h : Heap} {R : RP} {X : XP} (k : RunC Tryz.prog T0 zkbQ_c ⟨[v0, U, U, U], [], h, none⟩ (bodyQ Tryz.prog T0 [(2, none)] R X)) :
 Runs Tryz.prog T0 (.fn 82) [v0] h R X := Runs.fn zkbQ_t rfl k
abbrev fn_zzbQ : FuncId := 83
def zzbQ_l0 : ACode :=
 (.seq (.region [
 o1 10 (.bin .lss (so (.binOp .lss 3 (tm 9) (tm 8) 3) 0) (tm 9) (tm 8))]) (.seq (.cond (tm 10)
 .skip
 (.exit 0)) (.seq (.block 1 (.seq (.region [
 o1 11 (.indexSl 37 (tm 7) (tm 9)),
 o1 12 (.load (some 37) (tm 11)),
 o1 5 (.alloc 54 (z32 ++ [(.int .u8 0), (.int .u8 0), (.int .u8 0), (.int .u8 0), (.int .u64 0)])),
 o3 (.store 37 (tm 5) (tm 12))]) (.seq (.region [
 o1 13 (.fieldAddr 4 (tm 5)),
 o1 14 (.load (some 32) (tm 13)),
 o1 15 (.load (some 32) (tm 2)),
 o1 16 (.bin .eql (so (.binOp .eql 26 (tm 14) (tm 15) 26) 4) (tm 14) (tm 15)),
 o1 17 (.mov (tm 16)),
 o4 18 (.mov (tm 0)) 17,
 o4 19 (.fieldAddr 0 (tm 5)) 17,
 o4 20 (.load (some 4) (tm 19)) 17,
 o4 21 (.callV (tm 18) [(tm 20)]) 17,
 o4 22 (.raw (so (.unOp .not 4 (tm 21)) 4)) 17,
 o1 23 (.pick (tm 17) (tm 22) (.const (.bool false)))]) (.cond (tm 23)
 .ret
 .skip)))) (.region [
 o1 24 (.bin .add (so (.binOp .add 3 (tm 9) (.const (.int .i64 1)) 3) 3) (tm 9) (.const (.int .i64 1))),
 o1 9 (.mov (tm 24))]))))
def zzbQ_c : ACode :=
 (.seq (.region [
 o1 6 (.load none (tm 1)),
 o1 7 (.callV (.func 62) [(tm 6)]),
 o1 8 (.lenSl (tm 7)),
 o1 9 (.mov k0)]) (.block 0 (.loop zzbQ_l0)))
def zzbQ : AFunc := ⟨25, [], zzbQ_c, none⟩
theorem zzbQ_t0 : tableOf Tryz.prog 83 = some zzbQ := by kernel_rfl
theorem zzbQ_t : T0 83 = some zzbQ := withKept_t rfl (withTrue_t rfl zzbQ_t0)
theorem zzbQ_runs {v0 v1 v2 : Value} {h : Heap} {R : RP} {X : XP} (k : RunC Tryz.prog T0 zzbQ_c ⟨[v0, v1, v2, U, U, U, U, U, U, U, U, U, U, U, U, U, U, U, U, U, U, U, U, U, U], [], h, none⟩ (bodyQ Tryz.prog T0 [] R X)) :
 Runs Tryz.prog T0 (.fn 83) [v0, v1, v2] h R X := Runs.fn zzbQ_t rfl k
abbrev zzbQ_l0_M : List Nat := [0, 0, 0, 0, 0, 1, 0, 0, 0, 2, 1, 1, 1, 1, 1, 1, 1, 1, 1, 1, 1, 1, 1, 1, 1]
abbrev fn_ztdQ : FuncId := 84
def ztdQ_c : ACode :=
 (.seq (.region [
 o1 6 (.mov k0)]) (.seq (.seq (.region [
 o1 8 (.mov (tm 0)),
 o1 9 (.eq .ptr false (so (.binOp .eql 108 (tm 8) (.const (.pointer none)) 108) 4) (tm 8) (.const (.pointer none))),
 o1 10 (.mov (tm 9)),
 o5 11 (.mov (tm 0)) 10,
 o5 12 (.nilCheck (tm 11)) 10,
 o5 13 (.fieldAddr 3 (tm 12)) 10,
 o5 14 (.load none (tm 13)) 10,
 o5 15 (.raw (so (.unOp .not 4 (tm 14)) 4)) 10,
 o1 16 (.pick (tm 10) (.const (.bool true)) (tm 15))]) (.cond (tm 16)
 (.seq (.region [
 o1 6 (.mov (.const (.int .i64 1)))]) .ret)
 .skip)) (.seq (.region [
 o1 17 (.mov (tm 2)),
 o1 18 (.callV (.func 93) [(tm 17)]),
 o1 7 (.mov (tm 18))]) (.seq (.block 0 (.seq (.region [
 o1 29 (.mov (tm 0)),
 o1 30 (.nilCheck (tm 29)),
 o1 31 (.fieldAddr 2 (tm 30)),
 o1 32 (.load none (tm 31)),
 o1 33 (.bin .neq (so (.binOp .neq 33 (tm 32) k0 33) 4) (tm 32) k0),
 o1 28 (.mov (tm 33))]) (.cond (tm 28)
 .skip
 (.seq (.region [
 o1 35 (.mov (tm 1)),
 o1 36 (.raw (so (.unOp .not 4 (tm 35)) 4)),
 o1 34 (.mov (tm 36))]) (.cond (tm 34)
 (.region [
 o1 37 (.mov (tm 0)),
 o1 38 (.nilCheck (tm 37)),
 o1 39 (.fieldAddr 2 (tm 38)),
 o3 (.store 1 (tm 39) (.const (.int .i64 3)))])
 (.seq (.regionD [
 o1 41 (.mov (tm 0)),
 o1 42 (.nilCheck (tm 41)),
 o1 43 (.fieldAddr 1 (tm 42)),
 o1 44 (.load none (tm 43)),
 o1 45 (.lenSl (tm 44)),
 o1 46 (.mov (tm 7)),
 o1 47 (.lenSl (tm 46)),
 o1 48 (.bin .add (so (.binOp .add 3 (tm 45) (tm 47) 3) 3) (tm 45) (tm 47)),
 o1 49 (.mov (tm 0)),
 o1 50 (.nilCheck (tm 49)),
 o1 51 (.fieldAddr 0 (tm 50)),
 o1 52 (.load none (tm 51)),
 o2 53 (.bin .gtr (so (.binOp .gtr 3 (tm 48) (tm 52) 3) 4) (tm 48) (tm 52)),
 o2 40 (.mov (tm 53))]) (.cond (tm 40)
 (.region [
 o1 54 (.mov (tm 0)),
 o1 55 (.nilCheck (tm 54)),
 o1 56 (.fieldAddr 2 (tm 55)),
 o3 (.store 1 (tm 56) (.const (.int .i64 4)))])
 (.region [
 o1 19 (.mov (tm 0)),
 o1 20 (.mov (tm 0)),
 o1 21 (.nilCheck (tm 20)),
 o1 22 (.fieldAddr 1 (tm 21)),
 o1 23 (.load none (tm 22)),
 o1 24 (.mov (tm 7)),
 o1 25 (.append 5 1 1 [(.int .u8 0)] false (tm 23) (tm 24)),
 o1 26 (.nilCheck (tm 19)),
 o1 27 (.fieldAddr 1 (tm 26)),
 o3 (.store 1 (tm 27) (tm 25))])))))))) (.seq (.region [
 o1 57 (.mov (tm 0)),
 o1 58 (.nilCheck (tm 57)),
 o1 59 (.fieldAddr 2 (tm 58)),
 o1 60 (.load none (tm 59)),
 o1 6 (.mov (tm 60))]) .ret)))))
def ztdQ : AFunc := ⟨61, [(6, none)], ztdQ_c, none⟩
theorem ztdQ_t0 : tableOf Tryz.prog 84 = some ztdQ := by kernel_rfl
theorem ztdQ_t : T0 84 = some ztdQ := withKept_t rfl (withTrue_t rfl ztdQ_t0)
theorem ztdQ_runs {v0 v1 v2 : Value} {h : Heap} {R : RP} {X : XP} (k : RunC Tryz.prog T0 ztdQ_c ⟨[v0, v1, v2, U, U, U, U, U, U, U, U, U, U, U, U, U, U, U, U, U, U, U, U, U, U, U, U, U, U, U, U, U, U, U, U, U, U, U, U, U, U, U, U, U, U, U, U, U, U, U, U, U, U, U, U, U, U, U, U, U, U], [], h, none⟩ (bodyQ Tryz.prog T0 [(6, none)] R X)) :
 Runs Tryz.prog T0 (.fn 84) [v0, v1, v2] h R X := Runs.fn ztdQ_t rfl k
abbrev fn_zwdQ : FuncId := 85
def zwdQ_l0 : ACode :=
 (.seq (.seq (.region [
 o1 5 (.mov (tm 0)),
 o1 6 (.bin .gtr (so (.binOp .gtr 3 (tm 5) k0 3) 4) (tm 5) k0)]) (.cond (tm 6)
 .skip
 (.exit 0))) (.seq (.block 1 (.seq (.region [
 o1 9 (.mov (tm 4)),
 o1 10 (.bin .sub (so (.binOp .sub 3 (.const (.int .i64 8)) (tm 9) 3) 3) (.const (.int .i64 8)) (tm 9)),
 o1 11 (.mov (tm 0)),
 o1 12 (.conv .u8 (so (.convert 3 5 (tm 11)) 5) (tm 11)),
 o1 13 (.indexArr 9 1 (tm 3) (tm 10)),
 o3 (.store 1 (tm 13) (tm 12))]) (.region [
 o1 14 (.mov (tm 4)),
 o1 15 (.bin .add (so (.binOp .add 3 (tm 14) (.const (.int .i64 1)) 3) 3) (tm 14) (.const (.int .i64 1))),
 o1 4 (.mov (tm 15))]))) (.region [
 o1 7 (.mov (tm 0)),
 o1 8 (.bin .shr (so (.binOp .shr 3 (tm 7) (.const (.int .u64 8)) 102) 3) (tm 7) (.const (.int .u64 8))),
 o1 0 (.mov (tm 8))])))
def zwdQ_c : ACode :=
 (.seq (.region [
 o1 2 (.mov (.const (.slice none 0 0)))]) (.seq (.region [
 o1 3 (.alloc 145 [(.int .u8 0), (.int .u8 0), (.int .u8 0), (.int .u8 0), (.int .u8 0), (.int .u8 0), (.int .u8 0), (.int .u8 0), (.int .u8 0)])]) (.seq (.region [
 o1 4 (.mov k0)]) (.seq (.block 0 (.loop zwdQ_l0)) (.seq (.region [
 o1 16 (.mov (tm 4)),
 o1 17 (.bin .sub (so (.binOp .sub 3 (.const (.int .i64 8)) (tm 16) 3) 3) (.const (.int .i64 8)) (tm 16)),
 o1 18 (.mov (tm 4)),
 o1 19 (.conv .u8 (so (.convert 3 5 (tm 18)) 5) (tm 18)),
 o1 20 (.indexArr 9 1 (tm 3) (tm 17)),
 o3 (.store 1 (tm 20) (tm 19))]) (.seq (.region [
 o1 21 (.mov (tm 4)),
 o1 22 (.bin .sub (so (.binOp .sub 3 (.const (.int .i64 8)) (tm 21) 3) 3) (.const (.int .i64 8)) (tm 21)),
 o1 23 (.sliceArr 9 1 (tm 3) (some (tm 22)) none),
 o1 2 (.mov (tm 23))]) .ret))))))
def zwdQ : AFunc := ⟨24, [(2, none)], zwdQ_c, none⟩
theorem zwdQ_t0 : tableOf Tryz.prog 85 = some zwdQ := by kernel_rfl
theorem zwdQ_t : T0 85 = some zwdQ := withKept_t rfl (withTrue_t rfl zwdQ_t0)
theorem zwdQ_runs {v0 : Value} {h : Heap} {R : RP} {X : XP} (k : RunC Tryz.prog T0 zwdQ_c ⟨[v0, U, U, U, U, U, U, U, U, U, U, U, U, U, U, U, U, U, U, U, U, U, U, U], [], h, none⟩ (bodyQ Tryz.prog T0 [(2, none)] R X)) :
 Runs Tryz.prog T0 (.fn 85) [v0] h R X := Runs.fn zwdQ_t rfl k
abbrev zwdQ_l0_M : List Nat := [2, 0, 0, 0, 2, 1, 1, 1, 1, 1, 1, 1, 1, 1, 1, 1, 0, 0, 0, 0, 0, 0, 0, 0]
abbrev fn_zeeQ : FuncId := 86
def zeeQ_l0 : ACode :=
 (.seq (.region [
 o1 6 (.bin .lss (so (.binOp .lss 3 (tm 5) (.const (.int .i64 8)) 3) 4) (tm 5) (.const (.int .i64 8)))]) (.seq (.cond (tm 6)
 .skip
 (.exit 0)) (.seq (.block 1 (.seq (.region [
 o1 7 (.mov (tm 5)),
 o1 4 (.mov (tm 7))]) (.region [
 o1 8 (.mov (tm 4)),
 o1 9 (.bin .sub (so (.binOp .sub 3 (.const (.int .i64 7)) (tm 8) 3) 3) (.const (.int .i64 7)) (tm 8)),
 o1 10 (.mov (tm 0)),
 o1 11 (.mov (tm 4)),
 o1 12 (.bin .mul (so (.binOp .mul 3 (.const (.int .i64 8)) (tm 11) 3) 3) (.const (.int .i64 8)) (tm 11)),
 o1 13 (.bin .shr (so (.binOp .shr 27 (tm 10) (tm 12) 3) 27) (tm 10) (tm 12)),
 o1 14 (.conv .u8 (so (.convert 27 5 (tm 13)) 5) (tm 13)),
 o1 15 (.indexArr 8 1 (tm 3) (tm 9)),
 o3 (.store 1 (tm 15) (tm 14))]))) (.region [
 o1 16 (.bin .add (so (.binOp .add 3 (tm 5) (.const (.int .i64 1)) 3) 3) (tm 5) (.const (.int .i64 1))),
 o1 5 (.mov (tm 16))]))))
def zeeQ_c : ACode :=
 (.seq (.region [
 o1 2 (.alloc 131 [(.int .u8 0), (.int .u8 0), (.int .u8 0), (.int .u8 0), (.int .u8 0), (.int .u8 0), (.int .u8 0), (.int .u8 0)])]) (.seq (.region [
 o1 3 (.alloc 131 [(.int .u8 0), (.int .u8 0), (.int .u8 0), (.int .u8 0), (.int .u8 0), (.int .u8 0), (.int .u8 0), (.int .u8 0)])]) (.seq (.seq (.region [
 o1 5 (.mov k0)]) (.block 0 (.loop zeeQ_l0))) (.seq (.region [
 o1 17 (.load (some 8) (tm 3)),
 o3 (.store 8 (tm 2) (tm 17))]) .ret))))
def zeeQ : AFunc := ⟨18, [(2, some (some 8))], zeeQ_c, none⟩
theorem zeeQ_t0 : tableOf Tryz.prog 86 = some zeeQ := by kernel_rfl
theorem zeeQ_t : T0 86 = some zeeQ := withKept_t rfl (withTrue_t rfl zeeQ_t0)
theorem zeeQ_runs {v0 : Value} {h : Heap} {R : RP} {X : XP} (k : RunC Tryz.prog T0 zeeQ_c ⟨[v0, U, U, U, U, U, U, U, U, U, U, U, U, U, U, U, U, U], [], h, none⟩ (bodyQ Tryz.prog T0 [(2, some (some 8))] R X)) :
 Runs Tryz.prog T0 (.fn 86) [v0] h R X := Runs.fn zeeQ_t rfl k
abbrev zeeQ_l0_M : List Nat := [0, 0, 0, 0, 1, 2, 1, 1, 1, 1, 1, 1, 1, 1, 1, 1, 1, 0]
abbrev fn_zcbQ : FuncId := 87
def zcbQ_c : ACode :=
 (.seq (.region [
 o1 4 (.mov k0)]) (.seq (.seq (.regionD [
 o2 5 (.mov (tm 0)),
 o2 6 (.nilCheck (tm 5)),
 o2 7 (.fieldAddr 2 (tm 6)),
 o2 8 (.load none (tm 7)),
 o2 9 (.bin .eql (so (.binOp .eql 33 (tm 8) k0 33) 4) (tm 8) k0),
 o2 10 (.mov (tm 9)),
 o4 11 (.mov (tm 0)) 10,
 o4 12 (.nilCheck (tm 11)) 10,
 o4 13 (.fieldAddr 1 (tm 12)) 10,
 o4 14 (.load none (tm 13)) 10,
 o4 15 (.lenSl (tm 14)) 10,
 o4 16 (.mov (tm 1)) 10,
 o4 17 (.lenSl (tm 16)) 10,
 o4 18 (.bin .add (so (.binOp .add 3 (tm 15) (tm 17) 3) 3) (tm 15) (tm 17)) 10,
 o4 19 (.mov (tm 0)) 10,
 o4 20 (.nilCheck (tm 19)) 10,
 o4 21 (.fieldAddr 0 (tm 20)) 10,
 o4 22 (.load none (tm 21)) 10,
 ⟨some 23, .bin .gtr (so (.binOp .gtr 3 (tm 18) (tm 22) 3) 4) (tm 18) (tm 22), some (10, true), [], true⟩,
 o2 24 (.pick (tm 10) (tm 23) (.const (.bool false)))]) (.cond (tm 24)
 (.region [
 o1 25 (.mov (tm 0)),
 o1 26 (.nilCheck (tm 25)),
 o1 27 (.fieldAddr 2 (tm 26)),
 o3 (.store 1 (tm 27) (.const (.int .i64 4)))])
 .skip)) (.seq (.seq (.region [
 o1 28 (.mov (tm 0)),
 o1 29 (.nilCheck (tm 28)),
 o1 30 (.fieldAddr 2 (tm 29)),
 o1 31 (.load none (tm 30)),
 o1 32 (.bin .eql (so (.binOp .eql 33 (tm 31) k0 33) 4) (tm 31) k0)]) (.cond (tm 32)
 (.region [
 o1 33 (.mov (tm 0)),
 o1 34 (.buildSlice 5 [] 0 []),
 o1 35 (.mov (tm 0)),
 o1 36 (.nilCheck (tm 35)),
 o1 37 (.fieldAddr 1 (tm 36)),
 o1 38 (.load none (tm 37)),
 o1 39 (.append 5 1 1 [(.int .u8 0)] false (tm 34) (tm 38)),
 o1 40 (.mov (tm 1)),
 o1 41 (.append 5 1 1 [(.int .u8 0)] false (tm 39) (tm 40)),
 o1 42 (.nilCheck (tm 33)),
 o1 43 (.fieldAddr 1 (tm 42)),
 o3 (.store 1 (tm 43) (tm 41))])
 .skip)) (.seq (.region [
 o1 44 (.mov (tm 0)),
 o1 45 (.nilCheck (tm 44)),
 o1 46 (.fieldAddr 2 (tm 45)),
 o1 47 (.load none (tm 46)),
 o1 4 (.mov (tm 47))]) .ret))))
def zcbQ : AFunc := ⟨48, [(4, none)], zcbQ_c, none⟩
theorem zcbQ_t0 : tableOf Tryz.prog 87 = some zcbQ := by kernel_rfl
theorem zcbQ_t : T0 87 = some zcbQ := withKept_t rfl (withTrue_t rfl zcbQ_t0)
theorem zcbQ_runs {v0 v1 : Value} {h : Heap} {R : RP} {X : XP} (k : RunC Tryz.prog T0 zcbQ_c ⟨[v0, v1, U, U, U, U, U, U, U, U, U, U, U, U, U, U, U, U, U, U, U, U, U, U, U, U, U, U, U, U, U, U, U, U, U, U, U, U, U, U, U, U, U, U, U, U, U, U], [], h, none⟩ (bodyQ Tryz.prog T0 [(4, none)] R X)) :
 Runs Tryz.prog T0 (.fn 87) [v0, v1] h R X := Runs.fn zcbQ_t rfl k
abbrev fn_zpQ : FuncId := 88
def zpQ_l0 : ACode :=
 (.seq (.seq (.region [
 o1 4 (.mov (tm 0)),
 o1 5 (.bin .gtr (so (.binOp .gtr 3 (tm 4) k0 3) 4) (tm 4) k0)]) (.cond (tm 5)
 .skip
 (.exit 0))) (.block 1 (.seq (.region [
 o1 6 (.mov (tm 0)),
 o1 7 (.conv .u8 (so (.convert 3 5 (tm 6)) 5) (tm 6)),
 o1 8 (.buildSlice 5 [(.int .u8 0)] 1 [(0, 1, (tm 7))]),
 o1 9 (.mov (tm 3)),
 o1 10 (.append 5 1 1 [(.int .u8 0)] false (tm 8) (tm 9)),
 o1 3 (.mov (tm 10))]) (.region [
 o1 11 (.mov (tm 0)),
 o1 12 (.bin .shr (so (.binOp .shr 3 (tm 11) (.const (.int .u64 8)) 102) 3) (tm 11) (.const (.int .u64 8))),
 o1 0 (.mov (tm 12))]))))
def zpQ_c : ACode :=
 (.seq (.region [
 o1 2 (.mov (.const (.slice none 0 0)))]) (.seq (.region [
 o1 3 (.mov (.const (.slice none 0 0)))]) (.seq (.block 0 (.loop zpQ_l0)) (.seq (.region [
 o1 13 (.mov (tm 3)),
 o1 14 (.lenSl (tm 13)),
 o1 15 (.conv .u8 (so (.convert 3 5 (tm 14)) 5) (tm 14)),
 o1 16 (.buildSlice 5 [(.int .u8 0)] 1 [(0, 1, (tm 15))]),
 o1 17 (.mov (tm 3)),
 o1 18 (.append 5 1 1 [(.int .u8 0)] false (tm 16) (tm 17)),
 o1 2 (.mov (tm 18))]) .ret))))
def zpQ : AFunc := ⟨19, [(2, none)], zpQ_c, none⟩
theorem zpQ_t0 : tableOf Tryz.prog 88 = some zpQ := by kernel_rfl
theorem zpQ_t : T0 88 = some zpQ := withKept_t rfl (withTrue_t rfl zpQ_t0)
theorem zpQ_runs {v0 : Value} {h : Heap} {R : RP} {X : XP} (k : RunC Tryz.prog T0 zpQ_c ⟨[v0, U, U, U, U, U, U, U, U, U, U, U, U, U, U, U, U, U, U], [], h, none⟩ (bodyQ Tryz.prog T0 [(2, none)] R X)) :
 Runs Tryz.prog T0 (.fn 88) [v0] h R X := Runs.fn zpQ_t rfl k
abbrev zpQ_l0_M : List Nat := [2, 0, 0, 2, 1, 1, 1, 1, 1, 1, 1, 1, 1, 0, 0, 0, 0, 0, 0]
abbrev fn_zxQ : FuncId := 89
def zxQ_l0 : ACode :=
 (.seq (.seq (.region [
 o1 5 (.mov (tm 4)),
 o1 6 (.bin .lss (so (.binOp .lss 3 (tm 5) (.const (.int .i64 8)) 3) 4) (tm 5) (.const (.int .i64 8)))]) (.cond (tm 6)
 .skip
 (.exit 0))) (.seq (.block 1 (.seq (.region [
 o1 9 (.mov (tm 0)),
 o1 10 (.conv .u8 (so (.convert 27 5 (tm 9)) 5) (tm 9)),
 o1 11 (.buildSlice 5 [(.int .u8 0)] 1 [(0, 1, (tm 10))]),
 o1 12 (.mov (tm 3)),
 o1 13 (.append 5 1 1 [(.int .u8 0)] false (tm 11) (tm 12)),
 o1 3 (.mov (tm 13))]) (.region [
 o1 14 (.mov (tm 0)),
 o1 15 (.bin .shr (so (.binOp .shr 27 (tm 14) (.const (.int .u64 8)) 102) 27) (tm 14) (.const (.int .u64 8))),
 o1 0 (.mov (tm 15))]))) (.region [
 o1 7 (.mov (tm 4)),
 o1 8 (.bin .add (so (.binOp .add 3 (tm 7) (.const (.int .i64 1)) 3) 3) (tm 7) (.const (.int .i64 1))),
 o1 4 (.mov (tm 8))])))
def zxQ_c : ACode :=
 (.seq (.region [
 o1 2 (.mov (.const (.slice none 0 0)))]) (.seq (.region [
 o1 3 (.mov (.const (.slice none 0 0)))]) (.seq (.seq (.region [
 o1 4 (.mov k0)]) (.block 0 (.loop zxQ_l0))) (.seq (.region [
 o1 16 (.mov (tm 3)),
 o1 2 (.mov (tm 16))]) .ret))))
def zxQ : AFunc := ⟨17, [(2, none)], zxQ_c, none⟩
theorem zxQ_t0 : tableOf Tryz.prog 89 = some zxQ := by kernel_rfl
theorem zxQ_t : T0 89 = some zxQ := withKept_t rfl (withTrue_t rfl zxQ_t0)
theorem zxQ_runs {v0 : Value} {h : Heap} {R : RP} {X : XP} (k : RunC Tryz.prog T0 zxQ_c ⟨[v0, U, U, U, U, U, U, U, U, U, U, U, U, U, U, U, U], [], h, none⟩ (bodyQ Tryz.prog T0 [(2, none)] R X)) :
 Runs Tryz.prog T0 (.fn 89) [v0] h R X := Runs.fn zxQ_t rfl k
abbrev zxQ_l0_M : List Nat := [2, 0, 0, 2, 2, 1, 1, 1, 1, 1, 1, 1, 1, 1, 1, 1, 0]
abbrev fn_zecQ : FuncId := 90
def zecQ_c : ACode :=
 (.seq (.region [
 o1 2 (.mov (.const (.slice none 0 0)))]) (.seq (.region [
 o1 3 (.mov (tm 0)),
 o1 4 (.callV (.func 94) [(.const (.slice none 0 0)), (tm 3)]),
 o1 2 (.mov (tm 4))]) .ret))
def zecQ : AFunc := ⟨5, [(2, none)], zecQ_c, none⟩
theorem zecQ_t0 : tableOf Tryz.prog 90 = some zecQ := by kernel_rfl
theorem zecQ_t : T0 90 = some zecQ := withKept_t rfl (withTrue_t rfl zecQ_t0)
theorem zecQ_runs {v0 : Value} {h : Heap} {R : RP} {X : XP} (k : RunC Tryz.prog T0 zecQ_c ⟨[v0, U, U, U, U], [], h, none⟩ (bodyQ Tryz.prog T0 [(2, none)] R X)) :
 Runs Tryz.prog T0 (.fn 90) [v0] h R X := Runs.fn zecQ_t rfl k
abbrev fn_zhcQ : FuncId := 91
def zhcQ_c : ACode :=
 (.seq (.region [
 o1 5 (.mov (tm 0)),
 o1 6 (.lenSl (tm 5)),
 o1 4 (.mov (tm 6))]) (.region [
 o1 7 (.mov (tm 0)),
 o1 8 (.mov (tm 4)),
 o1 9 (.mov (tm 4)),
 o1 10 (.conv .u64 (so (.convert 3 102 (tm 9)) 102) (tm 9)),
 o1 11 (.callV (.func 96) [(tm 10)]),
 o1 12 (.mov (tm 1)),
 o1 13 (.callV (.func 95) [(tm 7), k0, (tm 8), (tm 11), (tm 12)])]))
def zhcQ : AFunc := ⟨14, [], zhcQ_c, none⟩
theorem zhcQ_t0 : tableOf Tryz.prog 91 = some zhcQ := by kernel_rfl
theorem zhcQ_t : T0 91 = some zhcQ := withKept_t rfl (withTrue_t rfl zhcQ_t0)
theorem zhcQ_runs {v0 v1 : Value} {h : Heap} {R : RP} {X : XP} (k : RunC Tryz.prog T0 zhcQ_c ⟨[v0, v1, U, U, U, U, U, U, U, U, U, U, U, U], [], h, none⟩ (bodyQ Tryz.prog T0 [] R X)) :
 Runs Tryz.prog T0 (.fn 91) [v0, v1] h R X := Runs.fn zhcQ_t rfl k
abbrev fn_zlbQ : FuncId := 92
def zlbQ_l0 : ACode :=
 (.seq (.region [
 o1 6 (.nextMap (tm 5)),
 o1 7 (.extract 0 (tm 6))]) (.seq (.cond (tm 7)
 .skip
 (.exit 0)) (.block 1 (.seq (.region [
 o1 8 (.entryMap (tm 5)),
 o1 9 (.extract 0 (tm 8)),
 o1 3 (.alloc 54 (z32 ++ [(.int .u8 0), (.int .u8 0), (.int .u8 0), (.int .u8 0), (.int .u64 0)])),
 o3 (.store 37 (tm 3) (tm 9))]) (.seq (.region [
 o1 10 (.mov (tm 0)),
 o1 11 (.load (some 37) (tm 3)),
 o1 12 (.callV (tm 10) [(tm 11)]),
 o1 13 (.raw (so (.unOp .not 4 (tm 12)) 4))]) (.cond (tm 13)
 .ret
 .skip))))))
def zlbQ_c : ACode :=
 (.seq (.region [
 o1 4 (.load none (tm 1)),
 o1 5 (.rangeMap (tm 4))]) (.block 0 (.loop zlbQ_l0)))
def zlbQ : AFunc := ⟨14, [], zlbQ_c, none⟩
theorem zlbQ_t0 : tableOf Tryz.prog 92 = some zlbQ := by kernel_rfl
theorem zlbQ_t : T0 92 = some zlbQ := withKept_t rfl (withTrue_t rfl zlbQ_t0)
theorem zlbQ_runs {v0 v1 : Value} {h : Heap} {R : RP} {X : XP} (k : RunC Tryz.prog T0 zlbQ_c ⟨[v0, v1, U, U, U, U, U, U, U, U, U, U, U, U], [], h, none⟩ (bodyQ Tryz.prog T0 [] R X)) :
 Runs Tryz.prog T0 (.fn 92) [v0, v1] h R X := Runs.fn zlbQ_t rfl k
abbrev zlbQ_l0_M : List Nat := [0, 0, 0, 1, 0, 0, 1, 1, 1, 1, 1, 1, 1, 1]
abbrev fn_zfcQ : FuncId := 93
def zfcQ_l0 : ACode :=
 (.seq (.region [
 o1 12 (.bin .lss (so (.binOp .lss 3 (tm 11) (tm 10) 3) 0) (tm 11) (tm 10))]) (.seq (.cond (tm 12)
 .skip
 (.exit 0)) (.seq (.block 1 (.seq (.region [
 o1 13 (.indexSl 1 (tm 9) (tm 11)),
 o1 14 (.load none (tm 13)),
 o1 5 (.mov (tm 14))]) (.seq (.region [
 o1 15 (.mov (tm 3)),
 o1 16 (.mov (tm 5)),
 o1 17 (.lenSl (tm 16)),
 o1 18 (.bin .add (so (.binOp .add 3 (tm 15) (tm 17) 3) 3) (tm 15) (tm 17)),
 o1 3 (.mov (tm 18))]) (.seq (.region [
 o1 19 (.mov (tm 3)),
 o1 20 (.bin .lss (so (.binOp .lss 3 (tm 19) k0 3) 4) (tm 19) k0)]) (.cond (tm 20)
 (.region [
 o1 21 (.mkIface 9 (.const (.string ⟨⟨[108, 101, 110, 32, 111, 117, 116, 32, 111, 102, 32, 114, 97, 110, 103, 101]⟩⟩))),
 o3 (.panic (tm 21))])
 .skip))))) (.region [
 o1 22 (.bin .add (so (.binOp .add 3 (tm 11) (.const (.int .i64 1)) 3) 3) (tm 11) (.const (.int .i64 1))),
 o1 11 (.mov (tm 22))]))))
def zfcQ_l1 : ACode :=
 (.seq (.region [
 o1 28 (.bin .lss (so (.binOp .lss 3 (tm 27) (tm 26) 3) 0) (tm 27) (tm 26))]) (.seq (.cond (tm 28)
 .skip
 (.exit 2)) (.seq (.block 3 (.seq (.region [
 o1 29 (.indexSl 1 (tm 25) (tm 27)),
 o1 30 (.load none (tm 29)),
 o1 8 (.mov (tm 30))]) (.region [
 o1 31 (.mov (tm 6)),
 o1 32 (.mov (tm 8)),
 o1 33 (.append 5 1 1 [(.int .u8 0)] false (tm 31) (tm 32)),
 o1 6 (.mov (tm 33))]))) (.region [
 o1 34 (.bin .add (so (.binOp .add 3 (tm 27) (.const (.int .i64 1)) 3) 3) (tm 27) (.const (.int .i64 1))),
 o1 27 (.mov (tm 34))]))))
def zfcQ_c : ACode :=
 (.seq (.region [
 o1 2 (.mov (.const (.slice none 0 0)))]) (.seq (.region [
 o1 3 (.mov k0)]) (.seq (.seq (.region [
 o1 9 (.mov (tm 0)),
 o1 10 (.lenSl (tm 9)),
 o1 11 (.mov k0)]) (.block 0 (.loop zfcQ_l0))) (.seq (.region [
 o1 23 (.mov (tm 3)),
 o1 24 (.callV (.func 97) [(.const (.slice none 0 0)), (tm 23)]),
 o1 6 (.mov (tm 24))]) (.seq (.seq (.region [
 o1 25 (.mov (tm 0)),
 o1 26 (.lenSl (tm 25)),
 o1 27 (.mov k0)]) (.block 2 (.loop zfcQ_l1))) (.seq (.region [
 o1 35 (.mov (tm 6)),
 o1 2 (.mov (tm 35))]) .ret))))))
def zfcQ : AFunc := ⟨36, [(2, none)], zfcQ_c, none⟩
theorem zfcQ_t0 : tableOf Tryz.prog 93 = some zfcQ := by kernel_rfl
theorem zfcQ_t : T0 93 = some zfcQ := withKept_t rfl (withTrue_t rfl zfcQ_t0)
theorem zfcQ_runs {v0 : Value} {h : Heap} {R : RP} {X : XP} (k : RunC Tryz.prog T0 zfcQ_c ⟨[v0, U, U, U, U, U, U, U, U, U, U, U, U, U, U, U, U, U, U, U, U, U, U, U, U, U, U, U, U, U, U, U, U, U, U, U], [], h, none⟩ (bodyQ Tryz.prog T0 [(2, none)] R X)) :
 Runs Tryz.prog T0 (.fn 93) [v0] h R X := Runs.fn zfcQ_t rfl k
abbrev zfcQ_l0_M : List Nat := [0, 0, 0, 2, 0, 1, 0, 0, 0, 0, 0, 2, 1, 1, 1, 1, 1, 1, 1, 1, 1, 1, 1, 0, 0, 0, 0, 0, 0, 0, 0, 0, 0, 0, 0, 0]
abbrev zfcQ_l1_M : List Nat := [0, 0, 0, 0, 0, 0, 2, 0, 1, 0, 0, 0, 0, 0, 0, 0, 0, 0, 0, 0, 0, 0, 0, 0, 0, 0, 0, 2, 1, 1, 1, 1, 1, 1, 1, 0]
abbrev fn_zccQ : FuncId := 94
def zccQ_ra0 : Code := (rangeParts (subCode ((Tryz.prog.funcs[94]?).bind (·.body)) [true, false, true, false])).1
def zccQ_rb0 : Code := (rangeParts (subCode ((Tryz.prog.funcs[94]?).bind (·.body)) [true, false, true, false])).2
def zccQ_a0 : ACode :=
 (.region [
 o1 5 (.alloc 54 (z32 ++ [(.int .u8 0), (.int .u8 0), (.int .u8 0), (.int .u8 0), (.int .u64 0)])),
 o3 (.store 37 (tm 5) (tm 7))])
def zccQ_b0 : ACode :=
 (.block 1 (.region [
 o1 8 (.load none (tm 2)),
 o1 9 (.load (some 37) (tm 5)),
 o1 10 (.buildSlice 54 (z32 ++ [(.int .u8 0), (.int .u8 0), (.int .u8 0), (.int .u8 0), (.int .u64 0)]) 1 [(0, 37, (tm 9))]),
 o1 11 (.append 54 37 48 (z32 ++ [(.int .u8 0), (.int .u8 0), (.int .u8 0), (.int .u8 0), (.int .u64 0)]) false (tm 8) (tm 10)),
 o3 (.store 1 (tm 2) (tm 11))]))
theorem zccQ_ca0 : comp Tryz.prog zccQ_ra0 = some zccQ_a0 := by kernel_rfl
theorem zccQ_cb0 : comp Tryz.prog zccQ_rb0 = some zccQ_b0 := by kernel_rfl
theorem zccQ_na0 : noDefer zccQ_ra0 = true := by kernel_rfl
theorem zccQ_nb0 : noDefer zccQ_rb0 = true := by kernel_rfl
def zccQ_c : ACode :=
 (.seq (.region [
 o1 2 (.box 103 (tm 0)),
 o1 4 (.mov (.const (.slice none 0 0)))]) (.seq (.seq (.region [
 o1 6 (.mov (tm 1))]) (.block 0 (.rangeFunc (tm 6) [7] zccQ_ra0 zccQ_rb0))) (.seq (.region [
 o1 12 (.load none (tm 2)),
 o1 4 (.mov (tm 12))]) .ret)))
def zccQ : AFunc := ⟨13, [(4, none)], zccQ_c, none⟩
theorem zccQ_t0 : tableOf Tryz.prog 94 = some zccQ := by kernel_rfl
theorem zccQ_t : T0 94 = some zccQ := withKept_t rfl (withTrue_t rfl zccQ_t0)
theorem zccQ_runs {v0 v1 : Value} {h : Heap} {R : RP} {X : XP} (k : RunC Tryz.prog T0 zccQ_c ⟨[v0, v1, U, U, U, U, U, U, U, U, U, U, U], [], h, none⟩ (bodyQ Tryz.prog T0 [(4, none)] R X)) :
 Runs Tryz.prog T0 (.fn 94) [v0, v1] h R X := Runs.fn zccQ_t rfl k
abbrev fn_zucQ : FuncId := 95
def zucQ_l0 : ACode :=
 (.block 1 (.seq (.region [
 o1 21 (.mov (tm 2)),
 o1 22 (.mov (tm 1)),
 o1 23 (.bin .sub (so (.binOp .sub 3 (tm 21) (tm 22) 3) 3) (tm 21) (tm 22)),
 o1 12 (.mov (tm 23))]) (.seq (.seq (.region [
 o1 24 (.mov (tm 12)),
 o1 25 (.bin .leq (so (.binOp .leq 3 (tm 24) (.const (.int .i64 12)) 3) 4) (tm 24) (.const (.int .i64 12)))]) (.cond (tm 25)
 (.seq (.region [
 o1 26 (.mov (tm 0)),
 o1 27 (.mov (tm 1)),
 o1 28 (.mov (tm 2)),
 o1 29 (.mov (tm 4)),
 o1 30 (.callV (.func 98) [(tm 26), (tm 27), (tm 28), (tm 29)])]) .ret)
 .skip)) (.seq (.seq (.region [
 o1 31 (.mov (tm 3)),
 o1 32 (.bin .eql (so (.binOp .eql 3 (tm 31) k0 3) 4) (tm 31) k0)]) (.cond (tm 32)
 (.seq (.region [
 o1 33 (.mov (tm 0)),
 o1 34 (.mov (tm 1)),
 o1 35 (.mov (tm 2)),
 o1 36 (.mov (tm 4)),
 o1 37 (.callV (.func 99) [(tm 33), (tm 34), (tm 35), (tm 36)])]) .ret)
 .skip)) (.seq (.seq (.region [
 o1 38 (.mov (tm 10)),
 o1 39 (.raw (so (.unOp .not 4 (tm 38)) 4))]) (.cond (tm 39)
 (.seq (.region [
 o1 40 (.mov (tm 0)),
 o1 41 (.mov (tm 1)),
 o1 42 (.mov (tm 2)),
 o1 43 (.mov (tm 4)),
 o1 44 (.callV (.func 100) [(tm 40), (tm 41), (tm 42), (tm 43)])]) (.region [
 o1 45 (.mov (tm 3)),
 o1 46 (.bin .sub (so (.binOp .sub 3 (tm 45) (.const (.int .i64 1)) 3) 3) (tm 45) (.const (.int .i64 1))),
 o1 3 (.mov (tm 46))]))
 .skip)) (.seq (.region [
 o1 48 (.mov (tm 0)),
 o1 49 (.mov (tm 1)),
 o1 50 (.mov (tm 2)),
 o1 51 (.mov (tm 4)),
 o1 52 (.callV (.func 101) [(tm 48), (tm 49), (tm 50), (tm 51)]),
 o1 47 (.mov (tm 52)),
 o1 53 (.extract 0 (tm 47)),
 o1 54 (.extract 1 (tm 47)),
 o1 13 (.mov (tm 53)),
 o1 14 (.mov (tm 54))]) (.seq (.seq (.region [
 o1 55 (.mov (tm 14)),
 o1 56 (.bin .eql (so (.binOp .eql 151 (tm 55) (.const (.int .i64 2)) 151) 4) (tm 55) (.const (.int .i64 2)))]) (.cond (tm 56)
 (.seq (.region [
 o1 57 (.mov (tm 0)),
 o1 58 (.mov (tm 1)),
 o1 59 (.mov (tm 2)),
 o1 60 (.mov (tm 4)),
 o1 61 (.callV (.func 102) [(tm 57), (tm 58), (tm 59), (tm 60)])]) (.seq (.region [
 o1 62 (.mov (tm 2)),
 o1 63 (.bin .sub (so (.binOp .sub 3 (tm 62) (.const (.int .i64 1)) 3) 3) (tm 62) (.const (.int .i64 1))),
 o1 64 (.mov (tm 13)),
 o1 65 (.mov (tm 1)),
 o1 66 (.bin .sub (so (.binOp .sub 3 (tm 64) (tm 65) 3) 3) (tm 64) (tm 65)),
 o1 67 (.bin .sub (so (.binOp .sub 3 (tm 63) (tm 66) 3) 3) (tm 63) (tm 66)),
 o1 13 (.mov (tm 67))]) (.region [
 o1 14 (.mov (.const (.int .i64 1)))])))
 .skip)) (.seq (.seq (.region [
 o1 68 (.mov (tm 10)),
 o1 69 (.mov (tm 68)),
 o4 70 (.mov (tm 11)) 69,
 o1 71 (.pick (tm 69) (tm 70) (.const (.bool false))),
 o1 72 (.mov (tm 71)),
 o4 73 (.mov (tm 14)) 72,
 o4 74 (.bin .eql (so (.binOp .eql 151 (tm 73) (.const (.int .i64 1)) 151) 4) (tm 73) (.const (.int .i64 1))) 72,
 o1 75 (.pick (tm 72) (tm 74) (.const (.bool false)))]) (.cond (tm 75)
 (.seq (.region [
 o1 76 (.mov (tm 0)),
 o1 77 (.mov (tm 1)),
 o1 78 (.mov (tm 2)),
 o1 79 (.mov (tm 4)),
 o1 80 (.callV (.func 103) [(tm 76), (tm 77), (tm 78), (tm 79)])]) (.cond (tm 80)
 .ret
 .skip))
 .skip)) (.seq (.seq (.regionD [
 o2 81 (.mov (tm 1)),
 o2 82 (.bin .gtr (so (.binOp .gtr 3 (tm 81) k0 3) 4) (tm 81) k0),
 o2 83 (.mov (tm 82)),
 o4 84 (.mov (tm 4)) 83,
 o4 85 (.mov (tm 0)) 83,
 o4 86 (.mov (tm 1)) 83,
 o4 87 (.bin .sub (so (.binOp .sub 3 (tm 86) (.const (.int .i64 1)) 3) 3) (tm 86) (.const (.int .i64 1))) 83,
 o4 88 (.indexSl 37 (tm 85) (tm 87)) 83,
 o4 89 (.load (some 37) (tm 88)) 83,
 o4 90 (.mov (tm 0)) 83,
 o4 91 (.mov (tm 13)) 83,
 o4 92 (.indexSl 37 (tm 90) (tm 91)) 83,
 o4 93 (.load (some 37) (tm 92)) 83,
 ⟨some 94, .callV (tm 84) [(tm 89), (tm 93)], some (83, true), [], true⟩,
 ⟨some 95, .bin .lss (so (.binOp .lss 3 (tm 94) k0 3) 4) (tm 94) k0, some (83, true), [], true⟩,
 ⟨some 96, .raw (so (.unOp .not 4 (tm 95)) 4), some (83, true), [], true⟩,
 o2 97 (.pick (tm 83) (tm 96) (.const (.bool false)))]) (.cond (tm 97)
 (.seq (.region [
 o1 98 (.mov (tm 0)),
 o1 99 (.mov (tm 1)),
 o1 100 (.mov (tm 2)),
 o1 101 (.mov (tm 13)),
 o1 102 (.mov (tm 4)),
 o1 103 (.callV (.func 104) [(tm 98), (tm 99), (tm 100), (tm 101), (tm 102)]),
 o1 15 (.mov (tm 103))]) (.seq (.region [
 o1 104 (.mov (tm 15)),
 o1 1 (.mov (tm 104))]) (.exit 1)))
 .skip)) (.seq (.region [
 o1 106 (.mov (tm 0)),
 o1 107 (.mov (tm 1)),
 o1 108 (.mov (tm 2)),
 o1 109 (.mov (tm 13)),
 o1 110 (.mov (tm 4)),
 o1 111 (.callV (.func 105) [(tm 106), (tm 107), (tm 108), (tm 109), (tm 110)]),
 o1 105 (.mov (tm 111)),
 o1 112 (.extract 0 (tm 105)),
 o1 113 (.extract 1 (tm 105)),
 o1 16 (.mov (tm 112)),
 o1 17 (.mov (tm 113))]) (.seq (.region [
 o1 114 (.mov (tm 17)),
 o1 11 (.mov (tm 114))]) (.seq (.region [
 o1 115 (.mov (tm 16)),
 o1 116 (.mov (tm 1)),
 o1 117 (.bin .sub (so (.binOp .sub 3 (tm 115) (tm 116) 3) 3) (tm 115) (tm 116)),
 o1 118 (.mov (tm 2)),
 o1 119 (.mov (tm 16)),
 o1 120 (.bin .sub (so (.binOp .sub 3 (tm 118) (tm 119) 3) 3) (tm 118) (tm 119)),
 o1 18 (.mov (tm 117)),
 o1 19 (.mov (tm 120))]) (.seq (.region [
 o1 121 (.mov (tm 12)),
 o1 122 (.bin .quo (so (.binOp .quo 3 (tm 121) (.const (.int .i64 8)) 3) 3) (tm 121) (.const (.int .i64 8))),
 o1 20 (.mov (tm 122))]) (.seq (.region [
 o1 123 (.mov (tm 18)),
 o1 124 (.mov (tm 19)),
 o1 125 (.bin .lss (so (.binOp .lss 3 (tm 123) (tm 124) 3) 4) (tm 123) (tm 124))]) (.cond (tm 125)
 (.seq (.region [
 o1 126 (.mov (tm 18)),
 o1 127 (.mov (tm 20)),
 o1 128 (.bin .geq (so (.binOp .geq 3 (tm 126) (tm 127) 3) 4) (tm 126) (tm 127)),
 o1 10 (.mov (tm 128))]) (.seq (.region [
 o1 129 (.mov (tm 0)),
 o1 130 (.mov (tm 1)),
 o1 131 (.mov (tm 16)),
 o1 132 (.mov (tm 3)),
 o1 133 (.mov (tm 4)),
 o1 134 (.callV (.func 95) [(tm 129), (tm 130), (tm 131), (tm 132), (tm 133)])]) (.region [
 o1 135 (.mov (tm 16)),
 o1 136 (.bin .add (so (.binOp .add 3 (tm 135) (.const (.int .i64 1)) 3) 3) (tm 135) (.const (.int .i64 1))),
 o1 1 (.mov (tm 136))])))
 (.seq (.region [
 o1 137 (.mov (tm 19)),
 o1 138 (.mov (tm 20)),
 o1 139 (.bin .geq (so (.binOp .geq 3 (tm 137) (tm 138) 3) 4) (tm 137) (tm 138)),
 o1 10 (.mov (tm 139))]) (.seq (.region [
 o1 140 (.mov (tm 0)),
 o1 141 (.mov (tm 16)),
 o1 142 (.bin .add (so (.binOp .add 3 (tm 141) (.const (.int .i64 1)) 3) 3) (tm 141) (.const (.int .i64 1))),
 o1 143 (.mov (tm 2)),
 o1 144 (.mov (tm 3)),
 o1 145 (.mov (tm 4)),
 o1 146 (.callV (.func 95) [(tm 140), (tm 142), (tm 143), (tm 144), (tm 145)])]) (.region [
 o1 147 (.mov (tm 16)),
 o1 2 (.mov (tm 147))]))))))))))))))))))
def zucQ_c : ACode :=
 (.seq (.region [
 o1 10 (.mov (.const (.bool true)))]) (.seq (.region [
 o1 11 (.mov (.const (.bool true)))]) (.block 0 (.loop zucQ_l0))))
def zucQ : AFunc := ⟨148, [], zucQ_c, none⟩
theorem zucQ_t0 : tableOf Tryz.prog 95 = some zucQ := by kernel_rfl
theorem zucQ_t : T0 95 = some zucQ := withKept_t rfl (withTrue_t rfl zucQ_t0)
theorem zucQ_runs {v0 v1 v2 v3 v4 : Value} {h : Heap} {R : RP} {X : XP} (k : RunC Tryz.prog T0 zucQ_c ⟨[v0, v1, v2, v3, v4, U, U, U, U, U, U, U, U, U, U, U, U, U, U, U, U, U, U, U, U, U, U, U, U, U, U, U, U, U, U, U, U, U, U, U, U, U, U, U, U, U, U, U, U, U, U, U, U, U, U, U, U, U, U, U, U, U, U, U, U, U, U, U, U, U, U, U, U, U, U, U, U, U, U, U, U, U, U, U, U, U, U, U, U, U, U, U, U, U, U, U, U, U, U, U, U, U, U, U, U, U, U, U, U, U, U, U, U, U, U, U, U, U, U, U, U, U, U, U, U, U, U, U, U, U, U, U, U, U, U, U, U, U, U, U, U, U, U, U, U, U, U, U], [], h, none⟩ (bodyQ Tryz.prog T0 [] R X)) :
 Runs Tryz.prog T0 (.fn 95) [v0, v1, v2, v3, v4] h R X := Runs.fn zucQ_t rfl k
abbrev zucQ_l0_M : List Nat := [0, 2, 2, 2, 0, 0, 0, 0, 0, 0, 2, 2, 1, 1, 1, 1, 1, 1, 1, 1, 1, 1, 1, 1, 1, 1, 1, 1, 1, 1, 1, 1, 1, 1, 1, 1, 1, 1, 1, 1, 1, 1, 1, 1, 1, 1, 1, 1, 1, 1, 1, 1, 1, 1, 1, 1, 1, 1, 1, 1, 1, 1, 1, 1, 1, 1, 1, 1, 1, 1, 1, 1, 1, 1, 1, 1, 1, 1, 1, 1, 1, 1, 1, 1, 1, 1, 1, 1, 1, 1, 1, 1, 1, 1, 1, 1, 1, 1, 1, 1, 1, 1, 1, 1, 1, 1, 1, 1, 1, 1, 1, 1, 1, 1, 1, 1, 1, 1, 1, 1, 1, 1, 1, 1, 1, 1, 1, 1, 1, 1, 1, 1, 1, 1, 1, 1, 1, 1, 1, 1, 1, 1, 1, 1, 1, 1, 1, 1]
abbrev fn_zmbQ : FuncId := 96
def zmbQ_c : ACode :=
 (.seq (.region [
 o1 2 (.mov k0)]) (.seq (.cond (.const (.bool false))
 (.seq (.region [
 o1 3 (.mov (tm 0)),
 o1 4 (.conv .u32 (so (.convert 102 159 (tm 3)) 159) (tm 3)),
 o1 5 (.callV (.func 106) [(tm 4)]),
 o1 2 (.mov (tm 5))]) .ret)
 .skip) (.seq (.region [
 o1 6 (.mov (tm 0)),
 o1 7 (.callV (.func 107) [(tm 6)]),
 o1 2 (.mov (tm 7))]) .ret)))
def zmbQ : AFunc := ⟨8, [(2, none)], zmbQ_c, none⟩
theorem zmbQ_t0 : tableOf Tryz.prog 96 = some zmbQ := by kernel_rfl
theorem zmbQ_t : T0 96 = some zmbQ := withKept_t rfl (withTrue_t rfl zmbQ_t0)
theorem zmbQ_runs {v0 : Value} {h : Heap} {R : RP} {X : XP} (k : RunC Tryz.prog T0 zmbQ_c ⟨[v0, U, U, U, U, U, U, U], [], h, none⟩ (bodyQ Tryz.prog T0 [(2, none)] R X)) :
 Runs Tryz.prog T0 (.fn 96) [v0] h R X := Runs.fn zmbQ_t rfl k
abbrev fn_zgcQ : FuncId := 97
def zgcQ_c : ACode :=
 (.seq (.region [
 o1 4 (.mov (.const (.slice none 0 0)))]) (.seq (.seq (.region [
 o1 5 (.mov (tm 1)),
 o1 6 (.bin .lss (so (.binOp .lss 3 (tm 5) k0 3) 4) (tm 5) k0)]) (.cond (tm 6)
 (.region [
 o1 7 (.mkIface 9 (.const (.string ⟨⟨[99, 97, 110, 110, 111, 116, 32, 98, 101, 32, 110, 101, 103, 97, 116, 105, 118, 101]⟩⟩))),
 o3 (.panic (tm 7))])
 .skip)) (.seq (.seq (.region [
 o1 8 (.mov (tm 1)),
 o1 9 (.mov (tm 0)),
 o1 10 (.cap (tm 9)),
 o1 11 (.mov (tm 0)),
 o1 12 (.lenSl (tm 11)),
 o1 13 (.bin .sub (so (.binOp .sub 3 (tm 10) (tm 12) 3) 3) (tm 10) (tm 12)),
 o1 14 (.bin .sub (so (.binOp .sub 3 (tm 8) (tm 13) 3) 3) (tm 8) (tm 13)),
 o1 1 (.mov (tm 14))]) (.seq (.region [
 o1 15 (.mov (tm 1)),
 o1 16 (.bin .gtr (so (.binOp .gtr 3 (tm 15) k0 3) 4) (tm 15) k0)]) (.cond (tm 16)
 (.region [
 o1 17 (.mov (tm 0)),
 o1 18 (.mov (tm 0)),
 o1 19 (.cap (tm 18)),
 o1 20 (.sliceSl 1 (tm 17) none (some (tm 19)) none),
 o1 21 (.mov (tm 1)),
 o1 22 (.append 5 1 1 [(.int .u8 0)] true (tm 20) (tm 21)),
 o1 23 (.mov (tm 0)),
 o1 24 (.lenSl (tm 23)),
 o1 25 (.sliceSl 1 (tm 22) none (some (tm 24)) none),
 o1 0 (.mov (tm 25))])
 .skip))) (.seq (.region [
 o1 26 (.mov (tm 0)),
 o1 4 (.mov (tm 26))]) .ret))))
def zgcQ : AFunc := ⟨27, [(4, none)], zgcQ_c, none⟩
theorem zgcQ_t0 : tableOf Tryz.prog 97 = some zgcQ := by kernel_rfl
theorem zgcQ_t : T0 97 = some zgcQ := withKept_t rfl (withTrue_t rfl zgcQ_t0)
theorem zgcQ_runs {v0 v1 : Value} {h : Heap} {R : RP} {X : XP} (k : RunC Tryz.prog T0 zgcQ_c ⟨[v0, v1, U, U, U, U, U, U, U, U, U, U, U, U, U, U, U, U, U, U, U, U, U, U, U, U, U], [], h, none⟩ (bodyQ Tryz.prog T0 [(4, none)] R X)) :
 Runs Tryz.prog T0 (.fn 97) [v0, v1] h R X := Runs.fn zgcQ_t rfl k
abbrev fn_zmcQ : FuncId := 98
def zmcQ_l0 : ACode :=
 (.seq (.seq (.regionD [
 o1 18 (.mov (tm 9)),
 o1 19 (.mov (tm 1)),
 o2 20 (.bin .gtr (so (.binOp .gtr 3 (tm 18) (tm 19) 3) 4) (tm 18) (tm 19)),
 o2 21 (.mov (tm 20)),
 o4 22 (.mov (tm 3)) 21,
 o4 23 (.mov (tm 0)) 21,
 o4 24 (.mov (tm 9)) 21,
 o4 25 (.indexSl 37 (tm 23) (tm 24)) 21,
 o4 26 (.load (some 37) (tm 25)) 21,
 o4 27 (.mov (tm 0)) 21,
 o4 28 (.mov (tm 9)) 21,
 o4 29 (.bin .sub (so (.binOp .sub 3 (tm 28) (.const (.int .i64 1)) 3) 3) (tm 28) (.const (.int .i64 1))) 21,
 o4 30 (.indexSl 37 (tm 27) (tm 29)) 21,
 o4 31 (.load (some 37) (tm 30)) 21,
 ⟨some 32, .callV (tm 22) [(tm 26), (tm 31)], some (21, true), [], true⟩,
 ⟨some 33, .bin .lss (so (.binOp .lss 3 (tm 32) k0 3) 4) (tm 32) k0, some (21, true), [], true⟩,
 o2 34 (.pick (tm 21) (tm 33) (.const (.bool false)))]) (.cond (tm 34)
 .skip
 (.exit 2))) (.seq (.block 3 (.regionD [
 o1 37 (.mov (tm 0)),
 o1 38 (.mov (tm 9)),
 o1 39 (.mov (tm 0)),
 o1 40 (.mov (tm 9)),
 o1 41 (.bin .sub (so (.binOp .sub 3 (tm 40) (.const (.int .i64 1)) 3) 3) (tm 40) (.const (.int .i64 1))),
 o1 42 (.mov (tm 0)),
 o1 43 (.mov (tm 9)),
 o1 44 (.bin .sub (so (.binOp .sub 3 (tm 43) (.const (.int .i64 1)) 3) 3) (tm 43) (.const (.int .i64 1))),
 o1 45 (.indexSl 37 (tm 42) (tm 44)),
 o1 46 (.load (some 37) (tm 45)),
 o1 47 (.mov (tm 0)),
 o1 48 (.mov (tm 9)),
 o1 49 (.indexSl 37 (tm 47) (tm 48)),
 o1 50 (.load (some 37) (tm 49)),
 o1 51 (.indexSl 37 (tm 37) (tm 38)),
 ⟨none, .store 37 (tm 51) (tm 46), none, [(some 41, .bin .sub (so (.binOp .sub 3 (tm 40) (.const (.int .i64 1)) 3) 3) (tm 40) (.const (.int .i64 1)), none), (some 40, .mov (tm 9), none), (some 39, .mov (tm 0), none)], false⟩,
 o2 52 (.indexSl 37 (tm 39) (tm 41)),
 ⟨none, .store 37 (tm 52) (tm 50), none, [], true⟩])) (.region [
 o1 35 (.mov (tm 9)),
 o1 36 (.bin .sub (so (.binOp .sub 3 (tm 35) (.const (.int .i64 1)) 3) 3) (tm 35) (.const (.int .i64 1))),
 o1 9 (.mov (tm 36))])))
def zmcQ_l1 : ACode :=
 (.seq (.seq (.region [
 o1 12 (.mov (tm 8)),
 o1 13 (.mov (tm 2)),
 o1 14 (.bin .lss (so (.binOp .lss 3 (tm 12) (tm 13) 3) 4) (tm 12) (tm 13))]) (.cond (tm 14)
 .skip
 (.exit 0))) (.seq (.block 1 (.seq (.region [
 o1 17 (.mov (tm 8)),
 o1 9 (.mov (tm 17))]) (.block 2 (.loop zmcQ_l0)))) (.region [
 o1 15 (.mov (tm 8)),
 o1 16 (.bin .add (so (.binOp .add 3 (tm 15) (.const (.int .i64 1)) 3) 3) (tm 15) (.const (.int .i64 1))),
 o1 8 (.mov (tm 16))])))
def zmcQ_c : ACode :=
 (.seq (.region [
 o1 10 (.mov (tm 1)),
 o1 11 (.bin .add (so (.binOp .add 3 (tm 10) (.const (.int .i64 1)) 3) 3) (tm 10) (.const (.int .i64 1))),
 o1 8 (.mov (tm 11))]) (.block 0 (.loop zmcQ_l1)))
def zmcQ : AFunc := ⟨53, [], zmcQ_c, none⟩
theorem zmcQ_t0 : tableOf Tryz.prog 98 = some zmcQ := by kernel_rfl
theorem zmcQ_t : T0 98 = some zmcQ := withKept_t rfl (withTrue_t rfl zmcQ_t0)
theorem zmcQ_runs {v0 v1 v2 v3 : Value} {h : Heap} {R : RP} {X : XP} (k : RunC Tryz.prog T0 zmcQ_c ⟨[v0, v1, v2, v3, U, U, U, U, U, U, U, U, U, U, U, U, U, U, U, U, U, U, U, U, U, U, U, U, U, U, U, U, U, U, U, U, U, U, U, U, U, U, U, U, U, U, U, U, U, U, U, U, U], [], h, none⟩ (bodyQ Tryz.prog T0 [] R X)) :
 Runs Tryz.prog T0 (.fn 98) [v0, v1, v2, v3] h R X := Runs.fn zmcQ_t rfl k
abbrev zmcQ_l0_M : List Nat := [0, 0, 0, 0, 0, 0, 0, 0, 0, 2, 0, 0, 0, 0, 0, 0, 0, 0, 1, 1, 1, 1, 1, 1, 1, 1, 1, 1, 1, 1, 1, 1, 1, 1, 1, 1, 1, 1, 1, 1, 1, 1, 1, 1, 1, 1, 1, 1, 1, 1, 1, 1, 1]
abbrev zmcQ_l1_M : List Nat := [0, 0, 0, 0, 0, 0, 0, 0, 2, 1, 0, 0, 1, 1, 1, 1, 1, 1, 1, 1, 1, 1, 1, 1, 1, 1, 1, 1, 1, 1, 1, 1, 1, 1, 1, 1, 1, 1, 1, 1, 1, 1, 1, 1, 1, 1, 1, 1, 1, 1, 1, 1, 1]
abbrev fn_zlcQ : FuncId := 99
def zlcQ_l0 : ACode :=
 (.seq (.seq (.region [
 o1 20 (.mov (tm 11)),
 o1 21 (.bin .geq (so (.binOp .geq 3 (tm 20) k0 3) 4) (tm 20) k0)]) (.cond (tm 21)
 .skip
 (.exit 0))) (.seq (.block 1 (.region [
 o1 24 (.mov (tm 0)),
 o1 25 (.mov (tm 11)),
 o1 26 (.mov (tm 10)),
 o1 27 (.mov (tm 8)),
 o1 28 (.mov (tm 3)),
 o1 29 (.callV (.func 108) [(tm 24), (tm 25), (tm 26), (tm 27), (tm 28)])])) (.region [
 o1 22 (.mov (tm 11)),
 o1 23 (.bin .sub (so (.binOp .sub 3 (tm 22) (.const (.int .i64 1)) 3) 3) (tm 22) (.const (.int .i64 1))),
 o1 11 (.mov (tm 23))])))
def zlcQ_l1 : ACode :=
 (.seq (.seq (.region [
 o1 32 (.mov (tm 12)),
 o1 33 (.bin .geq (so (.binOp .geq 3 (tm 32) k0 3) 4) (tm 32) k0)]) (.cond (tm 33)
 .skip
 (.exit 2))) (.seq (.block 3 (.seq (.regionD [
 o1 36 (.mov (tm 0)),
 o1 37 (.mov (tm 8)),
 o1 38 (.mov (tm 0)),
 o1 39 (.mov (tm 8)),
 o1 40 (.mov (tm 12)),
 o1 41 (.bin .add (so (.binOp .add 3 (tm 39) (tm 40) 3) 3) (tm 39) (tm 40)),
 o1 42 (.mov (tm 0)),
 o1 43 (.mov (tm 8)),
 o1 44 (.mov (tm 12)),
 o1 45 (.bin .add (so (.binOp .add 3 (tm 43) (tm 44) 3) 3) (tm 43) (tm 44)),
 o1 46 (.indexSl 37 (tm 42) (tm 45)),
 o1 47 (.load (some 37) (tm 46)),
 o1 48 (.mov (tm 0)),
 o1 49 (.mov (tm 8)),
 o1 50 (.indexSl 37 (tm 48) (tm 49)),
 o1 51 (.load (some 37) (tm 50)),
 o1 52 (.indexSl 37 (tm 36) (tm 37)),
 ⟨none, .store 37 (tm 52) (tm 47), none, [(some 41, .bin .add (so (.binOp .add 3 (tm 39) (tm 40) 3) 3) (tm 39) (tm 40), none), (some 40, .mov (tm 12), none), (some 39, .mov (tm 8), none), (some 38, .mov (tm 0), none)], false⟩,
 o2 53 (.indexSl 37 (tm 38) (tm 41)),
 ⟨none, .store 37 (tm 53) (tm 51), none, [], true⟩]) (.region [
 o1 54 (.mov (tm 0)),
 o1 55 (.mov (tm 9)),
 o1 56 (.mov (tm 12)),
 o1 57 (.mov (tm 8)),
 o1 58 (.mov (tm 3)),
 o1 59 (.callV (.func 108) [(tm 54), (tm 55), (tm 56), (tm 57), (tm 58)])]))) (.region [
 o1 34 (.mov (tm 12)),
 o1 35 (.bin .sub (so (.binOp .sub 3 (tm 34) (.const (.int .i64 1)) 3) 3) (tm 34) (.const (.int .i64 1))),
 o1 12 (.mov (tm 35))])))
def zlcQ_c : ACode :=
 (.seq (.region [
 o1 13 (.mov (tm 1)),
 o1 8 (.mov (tm 13))]) (.seq (.region [
 o1 9 (.mov k0)]) (.seq (.region [
 o1 14 (.mov (tm 2)),
 o1 15 (.mov (tm 1)),
 o1 16 (.bin .sub (so (.binOp .sub 3 (tm 14) (tm 15) 3) 3) (tm 14) (tm 15)),
 o1 10 (.mov (tm 16))]) (.seq (.seq (.region [
 o1 17 (.mov (tm 10)),
 o1 18 (.bin .sub (so (.binOp .sub 3 (tm 17) (.const (.int .i64 1)) 3) 3) (tm 17) (.const (.int .i64 1))),
 o1 19 (.bin .quo (so (.binOp .quo 3 (tm 18) (.const (.int .i64 2)) 3) 3) (tm 18) (.const (.int .i64 2))),
 o1 11 (.mov (tm 19))]) (.block 0 (.loop zlcQ_l0))) (.seq (.region [
 o1 30 (.mov (tm 10)),
 o1 31 (.bin .sub (so (.binOp .sub 3 (tm 30) (.const (.int .i64 1)) 3) 3) (tm 30) (.const (.int .i64 1))),
 o1 12 (.mov (tm 31))]) (.block 2 (.loop zlcQ_l1)))))))
def zlcQ : AFunc := ⟨60, [], zlcQ_c, none⟩
theorem zlcQ_t0 : tableOf Tryz.prog 99 = some zlcQ := by kernel_rfl
theorem zlcQ_t : T0 99 = some zlcQ := withKept_t rfl (withTrue_t rfl zlcQ_t0)
theorem zlcQ_runs {v0 v1 v2 v3 : Value} {h : Heap} {R : RP} {X : XP} (k : RunC Tryz.prog T0 zlcQ_c ⟨[v0, v1, v2, v3, U, U, U, U, U, U, U, U, U, U, U, U, U, U, U, U, U, U, U, U, U, U, U, U, U, U, U, U, U, U, U, U, U, U, U, U, U, U, U, U, U, U, U, U, U, U, U, U, U, U, U, U, U, U, U, U], [], h, none⟩ (bodyQ Tryz.prog T0 [] R X)) :
 Runs Tryz.prog T0 (.fn 99) [v0, v1, v2, v3] h R X := Runs.fn zlcQ_t rfl k
abbrev zlcQ_l0_M : List Nat := [0, 0, 0, 0, 0, 0, 0, 0, 0, 0, 0, 2, 0, 0, 0, 0, 0, 0, 0, 0, 1, 1, 1, 1, 1, 1, 1, 1, 1, 1, 0, 0, 0, 0, 0, 0, 0, 0, 0, 0, 0, 0, 0, 0, 0, 0, 0, 0, 0, 0, 0, 0, 0, 0, 0, 0, 0, 0, 0, 0]
abbrev zlcQ_l1_M : List Nat := [0, 0, 0, 0, 0, 0, 0, 0, 0, 0, 0, 0, 2, 0, 0, 0, 0, 0, 0, 0, 0, 0, 0, 0, 0, 0, 0, 0, 0, 0, 0, 0, 1, 1, 1, 1, 1, 1, 1, 1, 1, 1, 1, 1, 1, 1, 1, 1, 1, 1, 1, 1, 1, 1, 1, 1, 1, 1, 1, 1]
abbrev fn_zjcQ : FuncId := 100
def zjcQ_l0 : ACode :=
 (.seq (.seq (.region [
 o1 28 (.mov (tm 11)),
 o1 29 (.mov (tm 1)),
 o1 30 (.mov (tm 8)),
 o1 31 (.bin .quo (so (.binOp .quo 3 (tm 30) (.const (.int .i64 4)) 3) 3) (tm 30) (.const (.int .i64 4))),
 o1 32 (.bin .mul (so (.binOp .mul 3 (tm 31) (.const (.int .i64 2)) 3) 3) (tm 31) (.const (.int .i64 2))),
 o1 33 (.bin .add (so (.binOp .add 3 (tm 29) (tm 32) 3) 3) (tm 29) (tm 32)),
 o1 34 (.bin .add (so (.binOp .add 3 (tm 33) (.const (.int .i64 1)) 3) 3) (tm 33) (.const (.int .i64 1))),
 o1 35 (.bin .leq (so (.binOp .leq 3 (tm 28) (tm 34) 3) 4) (tm 28) (tm 34))]) (.cond (tm 35)
 .skip
 (.exit 0))) (.seq (.block 1 (.seq (.region [
 o1 38 (.callV (.func 110) [(tm 9)]),
 o1 39 (.mov (tm 10)),
 o1 40 (.bin .sub (so (.binOp .sub 102 (tm 39) (.const (.int .u64 1)) 102) 102) (tm 39) (.const (.int .u64 1))),
 o1 41 (.bin .and (so (.binOp .and 102 (tm 38) (tm 40) 102) 102) (tm 38) (tm 40)),
 o1 42 (.conv .i64 (so (.convert 102 3 (tm 41)) 3) (tm 41)),
 o1 12 (.mov (tm 42))]) (.seq (.seq (.region [
 o1 43 (.mov (tm 12)),
 o1 44 (.mov (tm 8)),
 o1 45 (.bin .geq (so (.binOp .geq 3 (tm 43) (tm 44) 3) 4) (tm 43) (tm 44))]) (.cond (tm 45)
 (.region [
 o1 46 (.mov (tm 12)),
 o1 47 (.mov (tm 8)),
 o1 48 (.bin .sub (so (.binOp .sub 3 (tm 46) (tm 47) 3) 3) (tm 46) (tm 47)),
 o1 12 (.mov (tm 48))])
 .skip)) (.regionD [
 o1 49 (.mov (tm 0)),
 o1 50 (.mov (tm 11)),
 o1 51 (.mov (tm 0)),
 o1 52 (.mov (tm 1)),
 o1 53 (.mov (tm 12)),
 o1 54 (.bin .add (so (.binOp .add 3 (tm 52) (tm 53) 3) 3) (tm 52) (tm 53)),
 o1 55 (.mov (tm 0)),
 o1 56 (.mov (tm 1)),
 o1 57 (.mov (tm 12)),
 o1 58 (.bin .add (so (.binOp .add 3 (tm 56) (tm 57) 3) 3) (tm 56) (tm 57)),
 o1 59 (.indexSl 37 (tm 55) (tm 58)),
 o1 60 (.load (some 37) (tm 59)),
 o1 61 (.mov (tm 0)),
 o1 62 (.mov (tm 11)),
 o1 63 (.indexSl 37 (tm 61) (tm 62)),
 o1 64 (.load (some 37) (tm 63)),
 o1 65 (.indexSl 37 (tm 49) (tm 50)),
 ⟨none, .store 37 (tm 65) (tm 60), none, [(some 54, .bin .add (so (.binOp .add 3 (tm 52) (tm 53) 3) 3) (tm 52) (tm 53), none), (some 53, .mov (tm 12), none), (some 52, .mov (tm 1), none), (some 51, .mov (tm 0), none)], false⟩,
 o2 66 (.indexSl 37 (tm 51) (tm 54)),
 ⟨none, .store 37 (tm 66) (tm 64), none, [], true⟩])))) (.region [
 o1 36 (.mov (tm 11)),
 o1 37 (.bin .add (so (.binOp .add 3 (tm 36) (.const (.int .i64 1)) 3) 3) (tm 36) (.const (.int .i64 1))),
 o1 11 (.mov (tm 37))])))
def zjcQ_c : ACode :=
 (.seq (.region [
 o1 13 (.mov (tm 2)),
 o1 14 (.mov (tm 1)),
 o1 15 (.bin .sub (so (.binOp .sub 3 (tm 13) (tm 14) 3) 3) (tm 13) (tm 14)),
 o1 8 (.mov (tm 15))]) (.seq (.region [
 o1 16 (.mov (tm 8)),
 o1 17 (.bin .geq (so (.binOp .geq 3 (tm 16) (.const (.int .i64 8)) 3) 4) (tm 16) (.const (.int .i64 8)))]) (.cond (tm 17)
 (.seq (.region [
 o1 18 (.mov (tm 8)),
 o1 19 (.conv .u64 (so (.convert 3 161 (tm 18)) 161) (tm 18)),
 o1 9 (.alloc 161 [(.int .u64 0)]),
 o3 (.store 1 (tm 9) (tm 19))]) (.seq (.region [
 o1 20 (.mov (tm 8)),
 o1 21 (.callV (.func 109) [(tm 20)]),
 o1 10 (.mov (tm 21))]) (.seq (.region [
 o1 22 (.mov (tm 1)),
 o1 23 (.mov (tm 8)),
 o1 24 (.bin .quo (so (.binOp .quo 3 (tm 23) (.const (.int .i64 4)) 3) 3) (tm 23) (.const (.int .i64 4))),
 o1 25 (.bin .mul (so (.binOp .mul 3 (tm 24) (.const (.int .i64 2)) 3) 3) (tm 24) (.const (.int .i64 2))),
 o1 26 (.bin .add (so (.binOp .add 3 (tm 22) (tm 25) 3) 3) (tm 22) (tm 25)),
 o1 27 (.bin .sub (so (.binOp .sub 3 (tm 26) (.const (.int .i64 1)) 3) 3) (tm 26) (.const (.int .i64 1))),
 o1 11 (.mov (tm 27))]) (.block 0 (.loop zjcQ_l0)))))
 .skip)))
def zjcQ : AFunc := ⟨67, [], zjcQ_c, none⟩
theorem zjcQ_t0 : tableOf Tryz.prog 100 = some zjcQ := by kernel_rfl
theorem zjcQ_t : T0 100 = some zjcQ := withKept_t rfl (withTrue_t rfl zjcQ_t0)
theorem zjcQ_runs {v0 v1 v2 v3 : Value} {h : Heap} {R : RP} {X : XP} (k : RunC Tryz.prog T0 zjcQ_c ⟨[v0, v1, v2, v3, U, U, U, U, U, U, U, U, U, U, U, U, U, U, U, U, U, U, U, U, U, U, U, U, U, U, U, U, U, U, U, U, U, U, U, U, U, U, U, U, U, U, U, U, U, U, U, U, U, U, U, U, U, U, U, U, U, U, U, U, U, U, U], [], h, none⟩ (bodyQ Tryz.prog T0 [] R X)) :
 Runs Tryz.prog T0 (.fn 100) [v0, v1, v2, v3] h R X := Runs.fn zjcQ_t rfl k
abbrev zjcQ_l0_M : List Nat := [0, 0, 0, 0, 0, 0, 0, 0, 0, 0, 0, 2, 1, 0, 0, 0, 0, 0, 0, 0, 0, 0, 0, 0, 0, 0, 0, 0, 1, 1, 1, 1, 1, 1, 1, 1, 1, 1, 1, 1, 1, 1, 1, 1, 1, 1, 1, 1, 1, 1, 1, 1, 1, 1, 1, 1, 1, 1, 1, 1, 1, 1, 1, 1, 1, 1, 1]
abbrev fn_zkcQ : FuncId := 101
def zkcQ_c : ACode :=
 (.seq (.region [
 o1 8 (.mov k0),
 o1 9 (.mov k0)]) (.seq (.region [
 o1 15 (.mov (tm 2)),
 o1 16 (.mov (tm 1)),
 o1 17 (.bin .sub (so (.binOp .sub 3 (tm 15) (tm 16) 3) 3) (tm 15) (tm 16)),
 o1 10 (.mov (tm 17))]) (.seq (.region [
 o1 11 (.alloc 3 [(.int .i64 0)])]) (.seq (.region [
 o1 18 (.mov (tm 1)),
 o1 19 (.mov (tm 10)),
 o1 20 (.bin .quo (so (.binOp .quo 3 (tm 19) (.const (.int .i64 4)) 3) 3) (tm 19) (.const (.int .i64 4))),
 o1 21 (.bin .mul (so (.binOp .mul 3 (tm 20) (.const (.int .i64 1)) 3) 3) (tm 20) (.const (.int .i64 1))),
 o1 22 (.bin .add (so (.binOp .add 3 (tm 18) (tm 21) 3) 3) (tm 18) (tm 21)),
 o1 12 (.mov (tm 22))]) (.seq (.region [
 o1 23 (.mov (tm 1)),
 o1 24 (.mov (tm 10)),
 o1 25 (.bin .quo (so (.binOp .quo 3 (tm 24) (.const (.int .i64 4)) 3) 3) (tm 24) (.const (.int .i64 4))),
 o1 26 (.bin .mul (so (.binOp .mul 3 (tm 25) (.const (.int .i64 2)) 3) 3) (tm 25) (.const (.int .i64 2))),
 o1 27 (.bin .add (so (.binOp .add 3 (tm 23) (tm 26) 3) 3) (tm 23) (tm 26)),
 o1 13 (.mov (tm 27))]) (.seq (.region [
 o1 28 (.mov (tm 1)),
 o1 29 (.mov (tm 10)),
 o1 30 (.bin .quo (so (.binOp .quo 3 (tm 29) (.const (.int .i64 4)) 3) 3) (tm 29) (.const (.int .i64 4))),
 o1 31 (.bin .mul (so (.binOp .mul 3 (tm 30) (.const (.int .i64 3)) 3) 3) (tm 30) (.const (.int .i64 3))),
 o1 32 (.bin .add (so (.binOp .add 3 (tm 28) (tm 31) 3) 3) (tm 28) (tm 31)),
 o1 14 (.mov (tm 32))]) (.seq (.seq (.region [
 o1 33 (.mov (tm 10)),
 o1 34 (.bin .geq (so (.binOp .geq 3 (tm 33) (.const (.int .i64 8)) 3) 4) (tm 33) (.const (.int .i64 8)))]) (.cond (tm 34)
 (.seq (.seq (.region [
 o1 35 (.mov (tm 10)),
 o1 36 (.bin .geq (so (.binOp .geq 3 (tm 35) (.const (.int .i64 50)) 3) 4) (tm 35) (.const (.int .i64 50)))]) (.cond (tm 36)
 (.seq (.region [
 o1 37 (.mov (tm 0)),
 o1 38 (.mov (tm 12)),
 o1 39 (.mov (tm 3)),
 o1 40 (.callV (.func 111) [(tm 37), (tm 38), (tm 11), (tm 39)]),
 o1 12 (.mov (tm 40))]) (.seq (.region [
 o1 41 (.mov (tm 0)),
 o1 42 (.mov (tm 13)),
 o1 43 (.mov (tm 3)),
 o1 44 (.callV (.func 111) [(tm 41), (tm 42), (tm 11), (tm 43)]),
 o1 13 (.mov (tm 44))]) (.region [
 o1 45 (.mov (tm 0)),
 o1 46 (.mov (tm 14)),
 o1 47 (.mov (tm 3)),
 o1 48 (.callV (.func 111) [(tm 45), (tm 46), (tm 11), (tm 47)]),
 o1 14 (.mov (tm 48))])))
 .skip)) (.region [
 o1 49 (.mov (tm 0)),
 o1 50 (.mov (tm 12)),
 o1 51 (.mov (tm 13)),
 o1 52 (.mov (tm 14)),
 o1 53 (.mov (tm 3)),
 o1 54 (.callV (.func 112) [(tm 49), (tm 50), (tm 51), (tm 52), (tm 11), (tm 53)]),
 o1 13 (.mov (tm 54))]))
 .skip)) (.seq (.region [
 o1 55 (.load none (tm 11))]) (.block 0 (.seq (.region [
 o1 58 (.bin .eql (so (.binOp .eql 3 (tm 55) k0 3) 4) (tm 55) k0),
 o1 57 (.mov (tm 58))]) (.cond (tm 57)
 (.seq (.region [
 o1 59 (.mov (tm 13)),
 o1 8 (.mov (tm 59)),
 o1 9 (.mov (.const (.int .i64 1)))]) .ret)
 (.seq (.region [
 o1 61 (.bin .eql (so (.binOp .eql 3 (tm 55) (.const (.int .i64 12)) 3) 4) (tm 55) (.const (.int .i64 12))),
 o1 60 (.mov (tm 61))]) (.cond (tm 60)
 (.seq (.region [
 o1 62 (.mov (tm 13)),
 o1 8 (.mov (tm 62)),
 o1 9 (.mov (.const (.int .i64 2)))]) .ret)
 (.seq (.region [
 o1 56 (.mov (tm 13)),
 o1 8 (.mov (tm 56)),
 o1 9 (.mov k0)]) .ret))))))))))))))
def zkcQ : AFunc := ⟨63, [(8, none), (9, none)], zkcQ_c, none⟩
theorem zkcQ_t0 : tableOf Tryz.prog 101 = some zkcQ := by kernel_rfl
theorem zkcQ_t : T0 101 = some zkcQ := withKept_t rfl (withTrue_t rfl zkcQ_t0)
theorem zkcQ_runs {v0 v1 v2 v3 : Value} {h : Heap} {R : RP} {X : XP} (k : RunC Tryz.prog T0 zkcQ_c ⟨[v0, v1, v2, v3, U, U, U, U, U, U, U, U, U, U, U, U, U, U, U, U, U, U, U, U, U, U, U, U, U, U, U, U, U, U, U, U, U, U, U, U, U, U, U, U, U, U, U, U, U, U, U, U, U, U, U, U, U, U, U, U, U, U, U], [], h, none⟩ (bodyQ Tryz.prog T0 [(8, none), (9, none)] R X)) :
 Runs Tryz.prog T0 (.fn 101) [v0, v1, v2, v3] h R X := Runs.fn zkcQ_t rfl k
abbrev fn_zvcQ : FuncId := 102
def zvcQ_l0 : ACode :=
 (.seq (.seq (.region [
 o1 13 (.mov (tm 8)),
 o1 14 (.mov (tm 9)),
 o1 15 (.bin .lss (so (.binOp .lss 3 (tm 13) (tm 14) 3) 4) (tm 13) (tm 14))]) (.cond (tm 15)
 .skip
 (.exit 0))) (.block 1 (.seq (.regionD [
 o1 16 (.mov (tm 0)),
 o1 17 (.mov (tm 8)),
 o1 18 (.mov (tm 0)),
 o1 19 (.mov (tm 9)),
 o1 20 (.mov (tm 0)),
 o1 21 (.mov (tm 9)),
 o1 22 (.indexSl 37 (tm 20) (tm 21)),
 o1 23 (.load (some 37) (tm 22)),
 o1 24 (.mov (tm 0)),
 o1 25 (.mov (tm 8)),
 o1 26 (.indexSl 37 (tm 24) (tm 25)),
 o1 27 (.load (some 37) (tm 26)),
 o1 28 (.indexSl 37 (tm 16) (tm 17)),
 ⟨none, .store 37 (tm 28) (tm 23), none, [(some 19, .mov (tm 9), none), (some 18, .mov (tm 0), none)], false⟩,
 o2 29 (.indexSl 37 (tm 18) (tm 19)),
 ⟨none, .store 37 (tm 29) (tm 27), none, [], true⟩]) (.seq (.region [
 o1 30 (.mov (tm 8)),
 o1 31 (.bin .add (so (.binOp .add 3 (tm 30) (.const (.int .i64 1)) 3) 3) (tm 30) (.const (.int .i64 1))),
 o1 8 (.mov (tm 31))]) (.region [
 o1 32 (.mov (tm 9)),
 o1 33 (.bin .sub (so (.binOp .sub 3 (tm 32) (.const (.int .i64 1)) 3) 3) (tm 32) (.const (.int .i64 1))),
 o1 9 (.mov (tm 33))])))))
def zvcQ_c : ACode :=
 (.seq (.region [
 o1 10 (.mov (tm 1)),
 o1 8 (.mov (tm 10))]) (.seq (.region [
 o1 11 (.mov (tm 2)),
 o1 12 (.bin .sub (so (.binOp .sub 3 (tm 11) (.const (.int .i64 1)) 3) 3) (tm 11) (.const (.int .i64 1))),
 o1 9 (.mov (tm 12))]) (.block 0 (.loop zvcQ_l0))))
def zvcQ : AFunc := ⟨34, [], zvcQ_c, none⟩
theorem zvcQ_t0 : tableOf Tryz.prog 102 = some zvcQ := by kernel_rfl
theorem zvcQ_t : T0 102 = some zvcQ := withKept_t rfl (withTrue_t rfl zvcQ_t0)
theorem zvcQ_runs {v0 v1 v2 v3 : Value} {h : Heap} {R : RP} {X : XP} (k : RunC Tryz.prog T0 zvcQ_c ⟨[v0, v1, v2, v3, U, U, U, U, U, U, U, U, U, U, U, U, U, U, U, U, U, U, U, U, U, U, U, U, U, U, U, U, U, U], [], h, none⟩ (bodyQ Tryz.prog T0 [] R X)) :
 Runs Tryz.prog T0 (.fn 102) [v0, v1, v2, v3] h R X := Runs.fn zvcQ_t rfl k
abbrev zvcQ_l0_M : List Nat := [0, 0, 0, 0, 0, 0, 0, 0, 2, 2, 0, 0, 0, 1, 1, 1, 1, 1, 1, 1, 1, 1, 1, 1, 1, 1, 1, 1, 1, 1, 1, 1, 1, 1]
abbrev fn_zrcQ : FuncId := 103
def zrcQ_l0 : ACode :=
 (.seq (.seq (.regionD [
 o1 19 (.mov (tm 9)),
 o1 20 (.mov (tm 2)),
 o2 21 (.bin .lss (so (.binOp .lss 3 (tm 19) (tm 20) 3) 4) (tm 19) (tm 20)),
 o2 22 (.mov (tm 21)),
 o4 23 (.mov (tm 3)) 22,
 o4 24 (.mov (tm 0)) 22,
 o4 25 (.mov (tm 9)) 22,
 o4 26 (.indexSl 37 (tm 24) (tm 25)) 22,
 o4 27 (.load (some 37) (tm 26)) 22,
 o4 28 (.mov (tm 0)) 22,
 o4 29 (.mov (tm 9)) 22,
 o4 30 (.bin .sub (so (.binOp .sub 3 (tm 29) (.const (.int .i64 1)) 3) 3) (tm 29) (.const (.int .i64 1))) 22,
 o4 31 (.indexSl 37 (tm 28) (tm 30)) 22,
 o4 32 (.load (some 37) (tm 31)) 22,
 ⟨some 33, .callV (tm 23) [(tm 27), (tm 32)], some (22, true), [], true⟩,
 ⟨some 34, .bin .lss (so (.binOp .lss 3 (tm 33) k0 3) 4) (tm 33) k0, some (22, true), [], true⟩,
 ⟨some 35, .raw (so (.unOp .not 4 (tm 34)) 4), some (22, true), [], true⟩,
 o2 36 (.pick (tm 22) (tm 35) (.const (.bool false)))]) (.cond (tm 36)
 .skip
 (.exit 2))) (.block 3 (.region [
 o1 37 (.mov (tm 9)),
 o1 38 (.bin .add (so (.binOp .add 3 (tm 37) (.const (.int .i64 1)) 3) 3) (tm 37) (.const (.int .i64 1))),
 o1 9 (.mov (tm 38))])))
def zrcQ_l1 : ACode :=
 (.seq (.seq (.region [
 o1 68 (.mov (tm 11)),
 o1 69 (.bin .geq (so (.binOp .geq 3 (tm 68) (.const (.int .i64 1)) 3) 4) (tm 68) (.const (.int .i64 1)))]) (.cond (tm 69)
 .skip
 (.exit 4))) (.seq (.block 5 (.seq (.seq (.regionD [
 o1 72 (.mov (tm 3)),
 o1 73 (.mov (tm 0)),
 o1 74 (.mov (tm 11)),
 o1 75 (.indexSl 37 (tm 73) (tm 74)),
 o1 76 (.load (some 37) (tm 75)),
 o1 77 (.mov (tm 0)),
 o1 78 (.mov (tm 11)),
 o1 79 (.bin .sub (so (.binOp .sub 3 (tm 78) (.const (.int .i64 1)) 3) 3) (tm 78) (.const (.int .i64 1))),
 o1 80 (.indexSl 37 (tm 77) (tm 79)),
 o1 81 (.load (some 37) (tm 80)),
 o2 82 (.callV (tm 72) [(tm 76), (tm 81)]),
 o2 83 (.bin .lss (so (.binOp .lss 3 (tm 82) k0 3) 4) (tm 82) k0),
 o2 84 (.raw (so (.unOp .not 4 (tm 83)) 4))]) (.cond (tm 84)
 (.exit 4)
 .skip)) (.regionD [
 o1 85 (.mov (tm 0)),
 o1 86 (.mov (tm 11)),
 o1 87 (.mov (tm 0)),
 o1 88 (.mov (tm 11)),
 o1 89 (.bin .sub (so (.binOp .sub 3 (tm 88) (.const (.int .i64 1)) 3) 3) (tm 88) (.const (.int .i64 1))),
 o1 90 (.mov (tm 0)),
 o1 91 (.mov (tm 11)),
 o1 92 (.bin .sub (so (.binOp .sub 3 (tm 91) (.const (.int .i64 1)) 3) 3) (tm 91) (.const (.int .i64 1))),
 o1 93 (.indexSl 37 (tm 90) (tm 92)),
 o1 94 (.load (some 37) (tm 93)),
 o1 95 (.mov (tm 0)),
 o1 96 (.mov (tm 11)),
 o1 97 (.indexSl 37 (tm 95) (tm 96)),
 o1 98 (.load (some 37) (tm 97)),
 o1 99 (.indexSl 37 (tm 85) (tm 86)),
 ⟨none, .store 37 (tm 99) (tm 94), none, [(some 89, .bin .sub (so (.binOp .sub 3 (tm 88) (.const (.int .i64 1)) 3) 3) (tm 88) (.const (.int .i64 1)), none), (some 88, .mov (tm 11), none), (some 87, .mov (tm 0), none)], false⟩,
 o2 100 (.indexSl 37 (tm 87) (tm 89)),
 ⟨none, .store 37 (tm 100) (tm 98), none, [], true⟩]))) (.region [
 o1 70 (.mov (tm 11)),
 o1 71 (.bin .sub (so (.binOp .sub 3 (tm 70) (.const (.int .i64 1)) 3) 3) (tm 70) (.const (.int .i64 1))),
 o1 11 (.mov (tm 71))])))
def zrcQ_l2 : ACode :=
 (.seq (.seq (.region [
 o1 107 (.mov (tm 12)),
 o1 108 (.mov (tm 2)),
 o1 109 (.bin .lss (so (.binOp .lss 3 (tm 107) (tm 108) 3) 4) (tm 107) (tm 108))]) (.cond (tm 109)
 .skip
 (.exit 6))) (.seq (.block 7 (.seq (.seq (.regionD [
 o1 112 (.mov (tm 3)),
 o1 113 (.mov (tm 0)),
 o1 114 (.mov (tm 12)),
 o1 115 (.indexSl 37 (tm 113) (tm 114)),
 o1 116 (.load (some 37) (tm 115)),
 o1 117 (.mov (tm 0)),
 o1 118 (.mov (tm 12)),
 o1 119 (.bin .sub (so (.binOp .sub 3 (tm 118) (.const (.int .i64 1)) 3) 3) (tm 118) (.const (.int .i64 1))),
 o1 120 (.indexSl 37 (tm 117) (tm 119)),
 o1 121 (.load (some 37) (tm 120)),
 o2 122 (.callV (tm 112) [(tm 116), (tm 121)]),
 o2 123 (.bin .lss (so (.binOp .lss 3 (tm 122) k0 3) 4) (tm 122) k0),
 o2 124 (.raw (so (.unOp .not 4 (tm 123)) 4))]) (.cond (tm 124)
 (.exit 6)
 .skip)) (.regionD [
 o1 125 (.mov (tm 0)),
 o1 126 (.mov (tm 12)),
 o1 127 (.mov (tm 0)),
 o1 128 (.mov (tm 12)),
 o1 129 (.bin .sub (so (.binOp .sub 3 (tm 128) (.const (.int .i64 1)) 3) 3) (tm 128) (.const (.int .i64 1))),
 o1 130 (.mov (tm 0)),
 o1 131 (.mov (tm 12)),
 o1 132 (.bin .sub (so (.binOp .sub 3 (tm 131) (.const (.int .i64 1)) 3) 3) (tm 131) (.const (.int .i64 1))),
 o1 133 (.indexSl 37 (tm 130) (tm 132)),
 o1 134 (.load (some 37) (tm 133)),
 o1 135 (.mov (tm 0)),
 o1 136 (.mov (tm 12)),
 o1 137 (.indexSl 37 (tm 135) (tm 136)),
 o1 138 (.load (some 37) (tm 137)),
 o1 139 (.indexSl 37 (tm 125) (tm 126)),
 ⟨none, .store 37 (tm 139) (tm 134), none, [(some 129, .bin .sub (so (.binOp .sub 3 (tm 128) (.const (.int .i64 1)) 3) 3) (tm 128) (.const (.int .i64 1)), none), (some 128, .mov (tm 12), none), (some 127, .mov (tm 0), none)], false⟩,
 o2 140 (.indexSl 37 (tm 127) (tm 129)),
 ⟨none, .store 37 (tm 140) (tm 138), none, [], true⟩]))) (.region [
 o1 110 (.mov (tm 12)),
 o1 111 (.bin .add (so (.binOp .add 3 (tm 110) (.const (.int .i64 1)) 3) 3) (tm 110) (.const (.int .i64 1))),
 o1 12 (.mov (tm 111))])))
def zrcQ_l3 : ACode :=
 (.seq (.seq (.region [
 o1 15 (.mov (tm 10)),
 o1 16 (.bin .lss (so (.binOp .lss 3 (tm 15) (.const (.int .i64 5)) 3) 4) (tm 15) (.const (.int .i64 5)))]) (.cond (tm 16)
 .skip
 (.exit 0))) (.seq (.block 1 (.seq (.block 2 (.loop zrcQ_l0)) (.seq (.seq (.region [
 o1 39 (.mov (tm 9)),
 o1 40 (.mov (tm 2)),
 o1 41 (.bin .eql (so (.binOp .eql 3 (tm 39) (tm 40) 3) 4) (tm 39) (tm 40))]) (.cond (tm 41)
 (.seq (.region [
 o1 8 (.mov (.const (.bool true)))]) .ret)
 .skip)) (.seq (.seq (.region [
 o1 42 (.mov (tm 2)),
 o1 43 (.mov (tm 1)),
 o1 44 (.bin .sub (so (.binOp .sub 3 (tm 42) (tm 43) 3) 3) (tm 42) (tm 43)),
 o1 45 (.bin .lss (so (.binOp .lss 3 (tm 44) (.const (.int .i64 50)) 3) 4) (tm 44) (.const (.int .i64 50)))]) (.cond (tm 45)
 (.seq (.region [
 o1 8 (.mov (.const (.bool false)))]) .ret)
 .skip)) (.seq (.regionD [
 o1 46 (.mov (tm 0)),
 o1 47 (.mov (tm 9)),
 o1 48 (.mov (tm 0)),
 o1 49 (.mov (tm 9)),
 o1 50 (.bin .sub (so (.binOp .sub 3 (tm 49) (.const (.int .i64 1)) 3) 3) (tm 49) (.const (.int .i64 1))),
 o1 51 (.mov (tm 0)),
 o1 52 (.mov (tm 9)),
 o1 53 (.bin .sub (so (.binOp .sub 3 (tm 52) (.const (.int .i64 1)) 3) 3) (tm 52) (.const (.int .i64 1))),
 o1 54 (.indexSl 37 (tm 51) (tm 53)),
 o1 55 (.load (some 37) (tm 54)),
 o1 56 (.mov (tm 0)),
 o1 57 (.mov (tm 9)),
 o1 58 (.indexSl 37 (tm 56) (tm 57)),
 o1 59 (.load (some 37) (tm 58)),
 o1 60 (.indexSl 37 (tm 46) (tm 47)),
 ⟨none, .store 37 (tm 60) (tm 55), none, [(some 50, .bin .sub (so (.binOp .sub 3 (tm 49) (.const (.int .i64 1)) 3) 3) (tm 49) (.const (.int .i64 1)), none), (some 49, .mov (tm 9), none), (some 48, .mov (tm 0), none)], false⟩,
 o2 61 (.indexSl 37 (tm 48) (tm 50)),
 ⟨none, .store 37 (tm 61) (tm 59), none, [], true⟩]) (.seq (.seq (.region [
 o1 62 (.mov (tm 9)),
 o1 63 (.mov (tm 1)),
 o1 64 (.bin .sub (so (.binOp .sub 3 (tm 62) (tm 63) 3) 3) (tm 62) (tm 63)),
 o1 65 (.bin .geq (so (.binOp .geq 3 (tm 64) (.const (.int .i64 2)) 3) 4) (tm 64) (.const (.int .i64 2)))]) (.cond (tm 65)
 (.seq (.region [
 o1 66 (.mov (tm 9)),
 o1 67 (.bin .sub (so (.binOp .sub 3 (tm 66) (.const (.int .i64 1)) 3) 3) (tm 66) (.const (.int .i64 1))),
 o1 11 (.mov (tm 67))]) (.block 4 (.loop zrcQ_l1)))
 .skip)) (.seq (.region [
 o1 101 (.mov (tm 2)),
 o1 102 (.mov (tm 9)),
 o1 103 (.bin .sub (so (.binOp .sub 3 (tm 101) (tm 102) 3) 3) (tm 101) (tm 102)),
 o1 104 (.bin .geq (so (.binOp .geq 3 (tm 103) (.const (.int .i64 2)) 3) 4) (tm 103) (.const (.int .i64 2)))]) (.cond (tm 104)
 (.seq (.region [
 o1 105 (.mov (tm 9)),
 o1 106 (.bin .add (so (.binOp .add 3 (tm 105) (.const (.int .i64 1)) 3) 3) (tm 105) (.const (.int .i64 1))),
 o1 12 (.mov (tm 106))]) (.block 6 (.loop zrcQ_l2)))
 .skip)))))))) (.region [
 o1 17 (.mov (tm 10)),
 o1 18 (.bin .add (so (.binOp .add 3 (tm 17) (.const (.int .i64 1)) 3) 3) (tm 17) (.const (.int .i64 1))),
 o1 10 (.mov (tm 18))])))
def zrcQ_c : ACode :=
 (.seq (.region [
 o1 8 (.mov (.const (.bool false)))]) (.seq (.region [
 o1 13 (.mov (tm 1)),
 o1 14 (.bin .add (so (.binOp .add 3 (tm 13) (.const (.int .i64 1)) 3) 3) (tm 13) (.const (.int .i64 1))),
 o1 9 (.mov (tm 14))]) (.seq (.seq (.region [
 o1 10 (.mov k0)]) (.block 0 (.loop zrcQ_l3))) (.seq (.region [
 o1 8 (.mov (.const (.bool false)))]) .ret))))
def zrcQ : AFunc := ⟨141, [(8, none)], zrcQ_c, none⟩
theorem zrcQ_t0 : tableOf Tryz.prog 103 = some zrcQ := by kernel_rfl
theorem zrcQ_t : T0 103 = some zrcQ := withKept_t rfl (withTrue_t rfl zrcQ_t0)
theorem zrcQ_runs {v0 v1 v2 v3 : Value} {h : Heap} {R : RP} {X : XP} (k : RunC Tryz.prog T0 zrcQ_c ⟨[v0, v1, v2, v3, U, U, U, U, U, U, U, U, U, U, U, U, U, U, U, U, U, U, U, U, U, U, U, U, U, U, U, U, U, U, U, U, U, U, U, U, U, U, U, U, U, U, U, U, U, U, U, U, U, U, U, U, U, U, U, U, U, U, U, U, U, U, U, U, U, U, U, U, U, U, U, U, U, U, U, U, U, U, U, U, U, U, U, U, U, U, U, U, U, U, U, U, U, U, U, U, U, U, U, U, U, U, U, U, U, U, U, U, U, U, U, U, U, U, U, U, U, U, U, U, U, U, U, U, U, U, U, U, U, U, U, U, U, U, U, U, U], [], h, none⟩ (bodyQ Tryz.prog T0 [(8, none)] R X)) :
 Runs Tryz.prog T0 (.fn 103) [v0, v1, v2, v3] h R X := Runs.fn zrcQ_t rfl k
abbrev zrcQ_l0_M : List Nat := [0, 0, 0, 0, 0, 0, 0, 0, 0, 2, 0, 0, 0, 0, 0, 0, 0, 0, 0, 1, 1, 1, 1, 1, 1, 1, 1, 1, 1, 1, 1, 1, 1, 1, 1, 1, 1, 1, 1, 0, 0, 0, 0, 0, 0, 0, 0, 0, 0, 0, 0, 0, 0, 0, 0, 0, 0, 0, 0, 0, 0, 0, 0, 0, 0, 0, 0, 0, 0, 0, 0, 0, 0, 0, 0, 0, 0, 0, 0, 0, 0, 0, 0, 0, 0, 0, 0, 0, 0, 0, 0, 0, 0, 0, 0, 0, 0, 0, 0, 0, 0, 0, 0, 0, 0, 0, 0, 0, 0, 0, 0, 0, 0, 0, 0, 0, 0, 0, 0, 0, 0, 0, 0, 0, 0, 0, 0, 0, 0, 0, 0, 0, 0, 0, 0, 0, 0, 0, 0, 0, 0]
abbrev zrcQ_l1_M : List Nat := [0, 0, 0, 0, 0, 0, 0, 0, 0, 0, 0, 2, 0, 0, 0, 0, 0, 0, 0, 0, 0, 0, 0, 0, 0, 0, 0, 0, 0, 0, 0, 0, 0, 0, 0, 0, 0, 0, 0, 0, 0, 0, 0, 0, 0, 0, 0, 0, 0, 0, 0, 0, 0, 0, 0, 0, 0, 0, 0, 0, 0, 0, 0, 0, 0, 0, 0, 0, 1, 1, 1, 1, 1, 1, 1, 1, 1, 1, 1, 1, 1, 1, 1, 1, 1, 1, 1, 1, 1, 1, 1, 1, 1, 1, 1, 1, 1, 1, 1, 1, 1, 0, 0, 0, 0, 0, 0, 0, 0, 0, 0, 0, 0, 0, 0, 0, 0, 0, 0, 0, 0, 0, 0, 0, 0, 0, 0, 0, 0, 0, 0, 0, 0, 0, 0, 0, 0, 0, 0, 0, 0]
abbrev zrcQ_l2_M : List Nat := [0, 0, 0, 0, 0, 0, 0, 0, 0, 0, 0, 0, 2, 0, 0, 0, 0, 0, 0, 0, 0, 0, 0, 0, 0, 0, 0, 0, 0, 0, 0, 0, 0, 0, 0, 0, 0, 0, 0, 0, 0, 0, 0, 0, 0, 0, 0, 0, 0, 0, 0, 0, 0, 0, 0, 0, 0, 0, 0, 0, 0, 0, 0, 0, 0, 0, 0, 0, 0, 0, 0, 0, 0, 0, 0, 0, 0, 0, 0, 0, 0, 0, 0, 0, 0, 0, 0, 0, 0, 0, 0, 0, 0, 0, 0, 0, 0, 0, 0, 0, 0, 0, 0, 0, 0, 0, 0, 1, 1, 1, 1, 1, 1, 1, 1, 1, 1, 1, 1, 1, 1, 1, 1, 1, 1, 1, 1, 1, 1, 1, 1, 1, 1, 1, 1, 1, 1, 1, 1, 1, 1]
abbrev zrcQ_l3_M : List Nat := [0, 0, 0, 0, 0, 0, 0, 0, 1, 2, 2, 1, 1, 0, 0, 1, 1, 1, 1, 1, 1, 1, 1, 1, 1, 1, 1, 1, 1, 1, 1, 1, 1, 1, 1, 1, 1, 1, 1, 1, 1, 1, 1, 1, 1, 1, 1, 1, 1, 1, 1, 1, 1, 1, 1, 1, 1, 1, 1, 1, 1, 1, 1, 1, 1, 1, 1, 1, 1, 1, 1, 1, 1, 1, 1, 1, 1, 1, 1, 1, 1, 1, 1, 1, 1, 1, 1, 1, 1, 1, 1, 1, 1, 1, 1, 1, 1, 1, 1, 1, 1, 1, 1, 1, 1, 1, 1, 1, 1, 1, 1, 1, 1, 1, 1, 1, 1, 1, 1, 1, 1, 1, 1, 1, 1, 1, 1, 1, 1, 1, 1, 1, 1, 1, 1, 1, 1, 1, 1, 1, 1]
abbrev fn_zscQ : FuncId := 105
def zscQ_l0 : ACode :=
 (.seq (.seq (.regionD [
 o1 32 (.mov (tm 12)),
 o1 33 (.mov (tm 13)),
 o2 34 (.bin .leq (so (.binOp .leq 3 (tm 32) (tm 33) 3) 4) (tm 32) (tm 33)),
 o2 35 (.mov (tm 34)),
 o4 36 (.mov (tm 4)) 35,
 o4 37 (.mov (tm 0)) 35,
 o4 38 (.mov (tm 12)) 35,
 o4 39 (.indexSl 37 (tm 37) (tm 38)) 35,
 o4 40 (.load (some 37) (tm 39)) 35,
 o4 41 (.mov (tm 0)) 35,
 o4 42 (.mov (tm 1)) 35,
 o4 43 (.indexSl 37 (tm 41) (tm 42)) 35,
 o4 44 (.load (some 37) (tm 43)) 35,
 ⟨some 45, .callV (tm 36) [(tm 40), (tm 44)], some (35, true), [], true⟩,
 ⟨some 46, .bin .lss (so (.binOp .lss 3 (tm 45) k0 3) 4) (tm 45) k0, some (35, true), [], true⟩,
 o2 47 (.pick (tm 35) (tm 46) (.const (.bool false)))]) (.cond (tm 47)
 .skip
 (.exit 0))) (.block 1 (.region [
 o1 48 (.mov (tm 12)),
 o1 49 (.bin .add (so (.binOp .add 3 (tm 48) (.const (.int .i64 1)) 3) 3) (tm 48) (.const (.int .i64 1))),
 o1 12 (.mov (tm 49))])))
def zscQ_l1 : ACode :=
 (.seq (.seq (.regionD [
 o1 50 (.mov (tm 12)),
 o1 51 (.mov (tm 13)),
 o2 52 (.bin .leq (so (.binOp .leq 3 (tm 50) (tm 51) 3) 4) (tm 50) (tm 51)),
 o2 53 (.mov (tm 52)),
 o4 54 (.mov (tm 4)) 53,
 o4 55 (.mov (tm 0)) 53,
 o4 56 (.mov (tm 13)) 53,
 o4 57 (.indexSl 37 (tm 55) (tm 56)) 53,
 o4 58 (.load (some 37) (tm 57)) 53,
 o4 59 (.mov (tm 0)) 53,
 o4 60 (.mov (tm 1)) 53,
 o4 61 (.indexSl 37 (tm 59) (tm 60)) 53,
 o4 62 (.load (some 37) (tm 61)) 53,
 ⟨some 63, .callV (tm 54) [(tm 58), (tm 62)], some (53, true), [], true⟩,
 ⟨some 64, .bin .lss (so (.binOp .lss 3 (tm 63) k0 3) 4) (tm 63) k0, some (53, true), [], true⟩,
 ⟨some 65, .raw (so (.unOp .not 4 (tm 64)) 4), some (53, true), [], true⟩,
 o2 66 (.pick (tm 53) (tm 65) (.const (.bool false)))]) (.cond (tm 66)
 .skip
 (.exit 2))) (.block 3 (.region [
 o1 67 (.mov (tm 13)),
 o1 68 (.bin .sub (so (.binOp .sub 3 (tm 67) (.const (.int .i64 1)) 3) 3) (tm 67) (.const (.int .i64 1))),
 o1 13 (.mov (tm 68))])))
def zscQ_l2 : ACode :=
 (.seq (.seq (.regionD [
 o1 105 (.mov (tm 12)),
 o1 106 (.mov (tm 13)),
 o2 107 (.bin .leq (so (.binOp .leq 3 (tm 105) (tm 106) 3) 4) (tm 105) (tm 106)),
 o2 108 (.mov (tm 107)),
 o4 109 (.mov (tm 4)) 108,
 o4 110 (.mov (tm 0)) 108,
 o4 111 (.mov (tm 12)) 108,
 o4 112 (.indexSl 37 (tm 110) (tm 111)) 108,
 o4 113 (.load (some 37) (tm 112)) 108,
 o4 114 (.mov (tm 0)) 108,
 o4 115 (.mov (tm 1)) 108,
 o4 116 (.indexSl 37 (tm 114) (tm 115)) 108,
 o4 117 (.load (some 37) (tm 116)) 108,
 ⟨some 118, .callV (tm 109) [(tm 113), (tm 117)], some (108, true), [], true⟩,
 ⟨some 119, .bin .lss (so (.binOp .lss 3 (tm 118) k0 3) 4) (tm 118) k0, some (108, true), [], true⟩,
 o2 120 (.pick (tm 108) (tm 119) (.const (.bool false)))]) (.cond (tm 120)
 .skip
 (.exit 6))) (.block 7 (.region [
 o1 121 (.mov (tm 12)),
 o1 122 (.bin .add (so (.binOp .add 3 (tm 121) (.const (.int .i64 1)) 3) 3) (tm 121) (.const (.int .i64 1))),
 o1 12 (.mov (tm 122))])))
def zscQ_l3 : ACode :=
 (.seq (.seq (.regionD [
 o1 123 (.mov (tm 12)),
 o1 124 (.mov (tm 13)),
 o2 125 (.bin .leq (so (.binOp .leq 3 (tm 123) (tm 124) 3) 4) (tm 123) (tm 124)),
 o2 126 (.mov (tm 125)),
 o4 127 (.mov (tm 4)) 126,
 o4 128 (.mov (tm 0)) 126,
 o4 129 (.mov (tm 13)) 126,
 o4 130 (.indexSl 37 (tm 128) (tm 129)) 126,
 o4 131 (.load (some 37) (tm 130)) 126,
 o4 132 (.mov (tm 0)) 126,
 o4 133 (.mov (tm 1)) 126,
 o4 134 (.indexSl 37 (tm 132) (tm 133)) 126,
 o4 135 (.load (some 37) (tm 134)) 126,
 ⟨some 136, .callV (tm 127) [(tm 131), (tm 135)], some (126, true), [], true⟩,
 ⟨some 137, .bin .lss (so (.binOp .lss 3 (tm 136) k0 3) 4) (tm 136) k0, some (126, true), [], true⟩,
 ⟨some 138, .raw (so (.unOp .not 4 (tm 137)) 4), some (126, true), [], true⟩,
 o2 139 (.pick (tm 126) (tm 138) (.const (.bool false)))]) (.cond (tm 139)
 .skip
 (.exit 8))) (.block 9 (.region [
 o1 140 (.mov (tm 13)),
 o1 141 (.bin .sub (so (.binOp .sub 3 (tm 140) (.const (.int .i64 1)) 3) 3) (tm 140) (.const (.int .i64 1))),
 o1 13 (.mov (tm 141))])))
def zscQ_l4 : ACode :=
 (.block 5 (.seq (.block 6 (.loop zscQ_l2)) (.seq (.block 8 (.loop zscQ_l3)) (.seq (.seq (.region [
 o1 142 (.mov (tm 12)),
 o1 143 (.mov (tm 13)),
 o1 144 (.bin .gtr (so (.binOp .gtr 3 (tm 142) (tm 143) 3) 4) (tm 142) (tm 143))]) (.cond (tm 144)
 (.exit 4)
 .skip)) (.seq (.regionD [
 o1 145 (.mov (tm 0)),
 o1 146 (.mov (tm 12)),
 o1 147 (.mov (tm 0)),
 o1 148 (.mov (tm 13)),
 o1 149 (.mov (tm 0)),
 o1 150 (.mov (tm 13)),
 o1 151 (.indexSl 37 (tm 149) (tm 150)),
 o1 152 (.load (some 37) (tm 151)),
 o1 153 (.mov (tm 0)),
 o1 154 (.mov (tm 12)),
 o1 155 (.indexSl 37 (tm 153) (tm 154)),
 o1 156 (.load (some 37) (tm 155)),
 o1 157 (.indexSl 37 (tm 145) (tm 146)),
 ⟨none, .store 37 (tm 157) (tm 152), none, [(some 148, .mov (tm 13), none), (some 147, .mov (tm 0), none)], false⟩,
 o2 158 (.indexSl 37 (tm 147) (tm 148)),
 ⟨none, .store 37 (tm 158) (tm 156), none, [], true⟩]) (.seq (.region [
 o1 159 (.mov (tm 12)),
 o1 160 (.bin .add (so (.binOp .add 3 (tm 159) (.const (.int .i64 1)) 3) 3) (tm 159) (.const (.int .i64 1))),
 o1 12 (.mov (tm 160))]) (.region [
 o1 161 (.mov (tm 13)),
 o1 162 (.bin .sub (so (.binOp .sub 3 (tm 161) (.const (.int .i64 1)) 3) 3) (tm 161) (.const (.int .i64 1))),
 o1 13 (.mov (tm 162))])))))))
def zscQ_c : ACode :=
 (.seq (.region [
 o1 10 (.mov k0),
 o1 11 (.mov (.const (.bool false)))]) (.seq (.regionD [
 o1 14 (.mov (tm 0)),
 o1 15 (.mov (tm 1)),
 o1 16 (.mov (tm 0)),
 o1 17 (.mov (tm 3)),
 o1 18 (.mov (tm 0)),
 o1 19 (.mov (tm 3)),
 o1 20 (.indexSl 37 (tm 18) (tm 19)),
 o1 21 (.load (some 37) (tm 20)),
 o1 22 (.mov (tm 0)),
 o1 23 (.mov (tm 1)),
 o1 24 (.indexSl 37 (tm 22) (tm 23)),
 o1 25 (.load (some 37) (tm 24)),
 o1 26 (.indexSl 37 (tm 14) (tm 15)),
 ⟨none, .store 37 (tm 26) (tm 21), none, [(some 17, .mov (tm 3), none), (some 16, .mov (tm 0), none)], false⟩,
 o2 27 (.indexSl 37 (tm 16) (tm 17)),
 ⟨none, .store 37 (tm 27) (tm 25), none, [], true⟩]) (.seq (.region [
 o1 28 (.mov (tm 1)),
 o1 29 (.bin .add (so (.binOp .add 3 (tm 28) (.const (.int .i64 1)) 3) 3) (tm 28) (.const (.int .i64 1))),
 o1 30 (.mov (tm 2)),
 o1 31 (.bin .sub (so (.binOp .sub 3 (tm 30) (.const (.int .i64 1)) 3) 3) (tm 30) (.const (.int .i64 1))),
 o1 12 (.mov (tm 29)),
 o1 13 (.mov (tm 31))]) (.seq (.block 0 (.loop zscQ_l0)) (.seq (.block 2 (.loop zscQ_l1)) (.seq (.seq (.region [
 o1 69 (.mov (tm 12)),
 o1 70 (.mov (tm 13)),
 o1 71 (.bin .gtr (so (.binOp .gtr 3 (tm 69) (tm 70) 3) 4) (tm 69) (tm 70))]) (.cond (tm 71)
 (.seq (.regionD [
 o1 72 (.mov (tm 0)),
 o1 73 (.mov (tm 13)),
 o1 74 (.mov (tm 0)),
 o1 75 (.mov (tm 1)),
 o1 76 (.mov (tm 0)),
 o1 77 (.mov (tm 1)),
 o1 78 (.indexSl 37 (tm 76) (tm 77)),
 o1 79 (.load (some 37) (tm 78)),
 o1 80 (.mov (tm 0)),
 o1 81 (.mov (tm 13)),
 o1 82 (.indexSl 37 (tm 80) (tm 81)),
 o1 83 (.load (some 37) (tm 82)),
 o1 84 (.indexSl 37 (tm 72) (tm 73)),
 ⟨none, .store 37 (tm 84) (tm 79), none, [(some 75, .mov (tm 1), none), (some 74, .mov (tm 0), none)], false⟩,
 o2 85 (.indexSl 37 (tm 74) (tm 75)),
 ⟨none, .store 37 (tm 85) (tm 83), none, [], true⟩]) (.seq (.region [
 o1 86 (.mov (tm 13)),
 o1 10 (.mov (tm 86)),
 o1 11 (.mov (.const (.bool true)))]) .ret))
 .skip)) (.seq (.regionD [
 o1 87 (.mov (tm 0)),
 o1 88 (.mov (tm 12)),
 o1 89 (.mov (tm 0)),
 o1 90 (.mov (tm 13)),
 o1 91 (.mov (tm 0)),
 o1 92 (.mov (tm 13)),
 o1 93 (.indexSl 37 (tm 91) (tm 92)),
 o1 94 (.load (some 37) (tm 93)),
 o1 95 (.mov (tm 0)),
 o1 96 (.mov (tm 12)),
 o1 97 (.indexSl 37 (tm 95) (tm 96)),
 o1 98 (.load (some 37) (tm 97)),
 o1 99 (.indexSl 37 (tm 87) (tm 88)),
 ⟨none, .store 37 (tm 99) (tm 94), none, [(some 90, .mov (tm 13), none), (some 89, .mov (tm 0), none)], false⟩,
 o2 100 (.indexSl 37 (tm 89) (tm 90)),
 ⟨none, .store 37 (tm 100) (tm 98), none, [], true⟩]) (.seq (.region [
 o1 101 (.mov (tm 12)),
 o1 102 (.bin .add (so (.binOp .add 3 (tm 101) (.const (.int .i64 1)) 3) 3) (tm 101) (.const (.int .i64 1))),
 o1 12 (.mov (tm 102))]) (.seq (.region [
 o1 103 (.mov (tm 13)),
 o1 104 (.bin .sub (so (.binOp .sub 3 (tm 103) (.const (.int .i64 1)) 3) 3) (tm 103) (.const (.int .i64 1))),
 o1 13 (.mov (tm 104))]) (.seq (.block 4 (.loop zscQ_l4)) (.seq (.regionD [
 o1 163 (.mov (tm 0)),
 o1 164 (.mov (tm 13)),
 o1 165 (.mov (tm 0)),
 o1 166 (.mov (tm 1)),
 o1 167 (.mov (tm 0)),
 o1 168 (.mov (tm 1)),
 o1 169 (.indexSl 37 (tm 167) (tm 168)),
 o1 170 (.load (some 37) (tm 169)),
 o1 171 (.mov (tm 0)),
 o1 172 (.mov (tm 13)),
 o1 173 (.indexSl 37 (tm 171) (tm 172)),
 o1 174 (.load (some 37) (tm 173)),
 o1 175 (.indexSl 37 (tm 163) (tm 164)),
 ⟨none, .store 37 (tm 175) (tm 170), none, [(some 166, .mov (tm 1), none), (some 165, .mov (tm 0), none)], false⟩,
 o2 176 (.indexSl 37 (tm 165) (tm 166)),
 ⟨none, .store 37 (tm 176) (tm 174), none, [], true⟩]) (.seq (.region [
 o1 177 (.mov (tm 13)),
 o1 10 (.mov (tm 177)),
 o1 11 (.mov (.const (.bool false)))]) .ret))))))))))))
def zscQ : AFunc := ⟨178, [(10, none), (11, none)], zscQ_c, none⟩
theorem zscQ_t0 : tableOf Tryz.prog 105 = some zscQ := by kernel_rfl
theorem zscQ_t : T0 105 = some zscQ := withKept_t rfl (withTrue_t rfl zscQ_t0)
theorem zscQ_runs {v0 v1 v2 v3 v4 : Value} {h : Heap} {R : RP} {X : XP} (k : RunC Tryz.prog T0 zscQ_c ⟨[v0, v1, v2, v3, v4, U, U, U, U, U, U, U, U, U, U, U, U, U, U, U, U, U, U, U, U, U, U, U, U, U, U, U, U, U, U, U, U, U, U, U, U, U, U, U, U, U, U, U, U, U, U, U, U, U, U, U, U, U, U, U, U, U, U, U, U, U, U, U, U, U, U, U, U, U, U, U, U, U, U, U, U, U, U, U, U, U, U, U, U, U, U, U, U, U, U, U, U, U, U, U, U, U, U, U, U, U, U, U, U, U, U, U, U, U, U, U, U, U, U, U, U, U, U, U, U, U, U, U, U, U, U, U, U, U, U, U, U, U, U, U, U, U, U, U, U, U, U, U, U, U, U, U, U, U, U, U, U, U, U, U, U, U, U, U, U, U, U, U, U, U, U, U, U, U, U, U, U, U], [], h, none⟩ (bodyQ Tryz.prog T0 [(10, none), (11, none)] R X)) :
 Runs Tryz.prog T0 (.fn 105) [v0, v1, v2, v3, v4] h R X := Runs.fn zscQ_t rfl k
abbrev zscQ_l0_M : List Nat := [0, 0, 0, 0, 0, 0, 0, 0, 0, 0, 0, 0, 2, 0, 0, 0, 0, 0, 0, 0, 0, 0, 0, 0, 0, 0, 0, 0, 0, 0, 0, 0, 1, 1, 1, 1, 1, 1, 1, 1, 1, 1, 1, 1, 1, 1, 1, 1, 1, 1, 0, 0, 0, 0, 0, 0, 0, 0, 0, 0, 0, 0, 0, 0, 0, 0, 0, 0, 0, 0, 0, 0, 0, 0, 0, 0, 0, 0, 0, 0, 0, 0, 0, 0, 0, 0, 0, 0, 0, 0, 0, 0, 0, 0, 0, 0, 0, 0, 0, 0, 0, 0, 0, 0, 0, 0, 0, 0, 0, 0, 0, 0, 0, 0, 0, 0, 0, 0, 0, 0, 0, 0, 0, 0, 0, 0, 0, 0, 0, 0, 0, 0, 0, 0, 0, 0, 0, 0, 0, 0, 0, 0, 0, 0, 0, 0, 0, 0, 0, 0, 0, 0, 0, 0, 0, 0, 0, 0, 0, 0, 0, 0, 0, 0, 0, 0, 0, 0, 0, 0, 0, 0, 0, 0, 0, 0, 0, 0]
abbrev zscQ_l1_M : List Nat := [0, 0, 0, 0, 0, 0, 0, 0, 0, 0, 0, 0, 0, 2, 0, 0, 0, 0, 0, 0, 0, 0, 0, 0, 0, 0, 0, 0, 0, 0, 0, 0, 0, 0, 0, 0, 0, 0, 0, 0, 0, 0, 0, 0, 0, 0, 0, 0, 0, 0, 1, 1, 1, 1, 1, 1, 1, 1, 1, 1, 1, 1, 1, 1, 1, 1, 1, 1, 1, 0, 0, 0, 0, 0, 0, 0, 0, 0, 0, 0, 0, 0, 0, 0, 0, 0, 0, 0, 0, 0, 0, 0, 0, 0, 0, 0, 0, 0, 0, 0, 0, 0, 0, 0, 0, 0, 0, 0, 0, 0, 0, 0, 0, 0, 0, 0, 0, 0, 0, 0, 0, 0, 0, 0, 0, 0, 0, 0, 0, 0, 0, 0, 0, 0, 0, 0, 0, 0, 0, 0, 0, 0, 0, 0, 0, 0, 0, 0, 0, 0, 0, 0, 0, 0, 0, 0, 0, 0, 0, 0, 0, 0, 0, 0, 0, 0, 0, 0, 0, 0, 0, 0, 0, 0, 0, 0, 0, 0]
abbrev zscQ_l2_M : List Nat := [0, 0, 0, 0, 0, 0, 0, 0, 0, 0, 0, 0, 2, 0, 0, 0, 0, 0, 0, 0, 0, 0, 0, 0, 0, 0, 0, 0, 0, 0, 0, 0, 0, 0, 0, 0, 0, 0, 0, 0, 0, 0, 0, 0, 0, 0, 0, 0, 0, 0, 0, 0, 0, 0, 0, 0, 0, 0, 0, 0, 0, 0, 0, 0, 0, 0, 0, 0, 0, 0, 0, 0, 0, 0, 0, 0, 0, 0, 0, 0, 0, 0, 0, 0, 0, 0, 0, 0, 0, 0, 0, 0, 0, 0, 0, 0, 0, 0, 0, 0, 0, 0, 0, 0, 0, 1, 1, 1, 1, 1, 1, 1, 1, 1, 1, 1, 1, 1, 1, 1, 1, 1, 1, 0, 0, 0, 0, 0, 0, 0, 0, 0, 0, 0, 0, 0, 0, 0, 0, 0, 0, 0, 0, 0, 0, 0, 0, 0, 0, 0, 0, 0, 0, 0, 0, 0, 0, 0, 0, 0, 0, 0, 0, 0, 0, 0, 0, 0, 0, 0, 0, 0, 0, 0, 0, 0, 0, 0]
abbrev zscQ_l3_M : List Nat := [0, 0, 0, 0, 0, 0, 0, 0, 0, 0, 0, 0, 0, 2, 0, 0, 0, 0, 0, 0, 0, 0, 0, 0, 0, 0, 0, 0, 0, 0, 0, 0, 0, 0, 0, 0, 0, 0, 0, 0, 0, 0, 0, 0, 0, 0, 0, 0, 0, 0, 0, 0, 0, 0, 0, 0, 0, 0, 0, 0, 0, 0, 0, 0, 0, 0, 0, 0, 0, 0, 0, 0, 0, 0, 0, 0, 0, 0, 0, 0, 0, 0, 0, 0, 0, 0, 0, 0, 0, 0, 0, 0, 0, 0, 0, 0, 0, 0, 0, 0, 0, 0, 0, 0, 0, 0, 0, 0, 0, 0, 0, 0, 0, 0, 0, 0, 0, 0, 0, 0, 0, 0, 0, 1, 1, 1, 1, 1, 1, 1, 1, 1, 1, 1, 1, 1, 1, 1, 1, 1, 1, 1, 0, 0, 0, 0, 0, 0, 0, 0, 0, 0, 0, 0, 0, 0, 0, 0, 0, 0, 0, 0, 0, 0, 0, 0, 0, 0, 0, 0, 0, 0, 0, 0, 0, 0, 0, 0]
abbrev zscQ_l4_M : List Nat := [0, 0, 0, 0, 0, 0, 0, 0, 0, 0, 0, 0, 2, 2, 0, 0, 0, 0, 0, 0, 0, 0, 0, 0, 0, 0, 0, 0, 0, 0, 0, 0, 0, 0, 0, 0, 0, 0, 0, 0, 0, 0, 0, 0, 0, 0, 0, 0, 0, 0, 0, 0, 0, 0, 0, 0, 0, 0, 0, 0, 0, 0, 0, 0, 0, 0, 0, 0, 0, 0, 0, 0, 0, 0, 0, 0, 0, 0, 0, 0, 0, 0, 0, 0, 0, 0, 0, 0, 0, 0, 0, 0, 0, 0, 0, 0, 0, 0, 0, 0, 0, 0, 0, 0, 0, 1, 1, 1, 1, 1, 1, 1, 1, 1, 1, 1, 1, 1, 1, 1, 1, 1, 1, 1, 1, 1, 1, 1, 1, 1, 1, 1, 1, 1, 1, 1, 1, 1, 1, 1, 1, 1, 1, 1, 1, 1, 1, 1, 1, 1, 1, 1, 1, 1, 1, 1, 1, 1, 1, 1, 1, 1, 1, 0, 0, 0, 0, 0, 0, 0, 0, 0, 0, 0, 0, 0, 0, 0]
abbrev fn_zobQ : FuncId := 107
def zobQ_c : ACode :=
 (.seq (.region [
 o1 2 (.mov k0)]) (.seq (.seq (.region [
 o1 3 (.mov (tm 0)),
 o1 4 (.bin .geq (so (.binOp .geq 27 (tm 3) (.const (.int .u64 4294967296)) 27) 4) (tm 3) (.const (.int .u64 4294967296)))]) (.cond (tm 4)
 (.seq (.region [
 o1 5 (.mov (tm 0)),
 o1 6 (.bin .shr (so (.binOp .shr 27 (tm 5) (.const (.int .u64 32)) 102) 27) (tm 5) (.const (.int .u64 32))),
 o1 0 (.mov (tm 6))]) (.region [
 o1 2 (.mov (.const (.int .i64 32)))]))
 .skip)) (.seq (.seq (.region [
 o1 7 (.mov (tm 0)),
 o1 8 (.bin .geq (so (.binOp .geq 27 (tm 7) (.const (.int .u64 65536)) 27) 4) (tm 7) (.const (.int .u64 65536)))]) (.cond (tm 8)
 (.seq (.region [
 o1 9 (.mov (tm 0)),
 o1 10 (.bin .shr (so (.binOp .shr 27 (tm 9) (.const (.int .u64 16)) 102) 27) (tm 9) (.const (.int .u64 16))),
 o1 0 (.mov (tm 10))]) (.region [
 o1 11 (.mov (tm 2)),
 o1 12 (.bin .add (so (.binOp .add 3 (tm 11) (.const (.int .i64 16)) 3) 3) (tm 11) (.const (.int .i64 16))),
 o1 2 (.mov (tm 12))]))
 .skip)) (.seq (.seq (.region [
 o1 13 (.mov (tm 0)),
 o1 14 (.bin .geq (so (.binOp .geq 27 (tm 13) (.const (.int .u64 256)) 27) 4) (tm 13) (.const (.int .u64 256)))]) (.cond (tm 14)
 (.seq (.region [
 o1 15 (.mov (tm 0)),
 o1 16 (.bin .shr (so (.binOp .shr 27 (tm 15) (.const (.int .u64 8)) 102) 27) (tm 15) (.const (.int .u64 8))),
 o1 0 (.mov (tm 16))]) (.region [
 o1 17 (.mov (tm 2)),
 o1 18 (.bin .add (so (.binOp .add 3 (tm 17) (.const (.int .i64 8)) 3) 3) (tm 17) (.const (.int .i64 8))),
 o1 2 (.mov (tm 18))]))
 .skip)) (.seq (.region [
 o1 19 (.mov (tm 2)),
 o1 20 (.mov (tm 0)),
 o1 21 (.conv .u8 (so (.convert 27 5 (tm 20)) 5) (tm 20)),
 o1 22 (.raw (so (.index 9 (.const (.string ⟨⟨[0, 1, 2, 2, 3, 3, 3, 3, 4, 4, 4, 4, 4, 4, 4, 4, 5, 5, 5, 5, 5, 5, 5, 5, 5, 5, 5, 5, 5, 5, 5, 5, 6, 6, 6, 6, 6, 6, 6, 6, 6, 6, 6, 6, 6, 6, 6, 6, 6, 6, 6, 6, 6, 6, 6, 6, 6, 6, 6, 6, 6, 6, 6, 6, 7, 7, 7, 7, 7, 7, 7, 7, 7, 7, 7, 7, 7, 7, 7, 7, 7, 7, 7, 7, 7, 7, 7, 7, 7, 7, 7, 7, 7, 7, 7, 7, 7, 7, 7, 7, 7, 7, 7, 7, 7, 7, 7, 7, 7, 7, 7, 7, 7, 7, 7, 7, 7, 7, 7, 7, 7, 7, 7, 7, 7, 7, 7, 7, 8, 8, 8, 8, 8, 8, 8, 8, 8, 8, 8, 8, 8, 8, 8, 8, 8, 8, 8, 8, 8, 8, 8, 8, 8, 8, 8, 8, 8, 8, 8, 8, 8, 8, 8, 8, 8, 8, 8, 8, 8, 8, 8, 8, 8, 8, 8, 8, 8, 8, 8, 8, 8, 8, 8, 8, 8, 8, 8, 8, 8, 8, 8, 8, 8, 8, 8, 8, 8, 8, 8, 8, 8, 8, 8, 8, 8, 8, 8, 8, 8, 8, 8, 8, 8, 8, 8, 8, 8, 8, 8, 8, 8, 8, 8, 8, 8, 8, 8, 8, 8, 8, 8, 8, 8, 8, 8, 8, 8, 8, 8, 8, 8, 8, 8, 8, 8, 8, 8, 8, 8, 8, 8, 8, 8, 8, 8, 8]⟩⟩)) (tm 21)) 5)),
 o1 23 (.conv .i64 (so (.convert 5 3 (tm 22)) 3) (tm 22)),
 o1 24 (.bin .add (so (.binOp .add 3 (tm 19) (tm 23) 3) 3) (tm 19) (tm 23)),
 o1 2 (.mov (tm 24))]) .ret)))))
def zobQ : AFunc := ⟨25, [(2, none)], zobQ_c, none⟩
theorem zobQ_t0 : tableOf Tryz.prog 107 = some zobQ := by kernel_rfl
theorem zobQ_t : T0 107 = some zobQ := withKept_t rfl (withTrue_t rfl zobQ_t0)
theorem zobQ_runs {v0 : Value} {h : Heap} {R : RP} {X : XP} (k : RunC Tryz.prog T0 zobQ_c ⟨[v0, U, U, U, U, U, U, U, U, U, U, U, U, U, U, U, U, U, U, U, U, U, U, U, U], [], h, none⟩ (bodyQ Tryz.prog T0 [(2, none)] R X)) :
 Runs Tryz.prog T0 (.fn 107) [v0] h R X := Runs.fn zobQ_t rfl k
abbrev fn_zwcQ : FuncId := 108
def zwcQ_l0 : ACode :=
 (.block 1 (.seq (.region [
 o1 13 (.mov (tm 10)),
 o1 14 (.bin .mul (so (.binOp .mul 3 (.const (.int .i64 2)) (tm 13) 3) 3) (.const (.int .i64 2)) (tm 13)),
 o1 15 (.bin .add (so (.binOp .add 3 (tm 14) (.const (.int .i64 1)) 3) 3) (tm 14) (.const (.int .i64 1))),
 o1 11 (.mov (tm 15))]) (.seq (.seq (.region [
 o1 16 (.mov (tm 11)),
 o1 17 (.mov (tm 2)),
 o1 18 (.bin .geq (so (.binOp .geq 3 (tm 16) (tm 17) 3) 4) (tm 16) (tm 17))]) (.cond (tm 18)
 (.exit 0)
 .skip)) (.seq (.seq (.regionD [
 o1 19 (.mov (tm 11)),
 o1 20 (.bin .add (so (.binOp .add 3 (tm 19) (.const (.int .i64 1)) 3) 3) (tm 19) (.const (.int .i64 1))),
 o1 21 (.mov (tm 2)),
 o2 22 (.bin .lss (so (.binOp .lss 3 (tm 20) (tm 21) 3) 4) (tm 20) (tm 21)),
 o2 23 (.mov (tm 22)),
 o4 24 (.mov (tm 4)) 23,
 o4 25 (.mov (tm 0)) 23,
 o4 26 (.mov (tm 3)) 23,
 o4 27 (.mov (tm 11)) 23,
 o4 28 (.bin .add (so (.binOp .add 3 (tm 26) (tm 27) 3) 3) (tm 26) (tm 27)) 23,
 o4 29 (.indexSl 37 (tm 25) (tm 28)) 23,
 o4 30 (.load (some 37) (tm 29)) 23,
 o4 31 (.mov (tm 0)) 23,
 o4 32 (.mov (tm 3)) 23,
 o4 33 (.mov (tm 11)) 23,
 o4 34 (.bin .add (so (.binOp .add 3 (tm 32) (tm 33) 3) 3) (tm 32) (tm 33)) 23,
 o4 35 (.bin .add (so (.binOp .add 3 (tm 34) (.const (.int .i64 1)) 3) 3) (tm 34) (.const (.int .i64 1))) 23,
 o4 36 (.indexSl 37 (tm 31) (tm 35)) 23,
 o4 37 (.load (some 37) (tm 36)) 23,
 ⟨some 38, .callV (tm 24) [(tm 30), (tm 37)], some (23, true), [], true⟩,
 ⟨some 39, .bin .lss (so (.binOp .lss 3 (tm 38) k0 3) 4) (tm 38) k0, some (23, true), [], true⟩,
 o2 40 (.pick (tm 23) (tm 39) (.const (.bool false)))]) (.cond (tm 40)
 (.region [
 o1 41 (.mov (tm 11)),
 o1 42 (.bin .add (so (.binOp .add 3 (tm 41) (.const (.int .i64 1)) 3) 3) (tm 41) (.const (.int .i64 1))),
 o1 11 (.mov (tm 42))])
 .skip)) (.seq (.seq (.regionD [
 o1 43 (.mov (tm 4)),
 o1 44 (.mov (tm 0)),
 o1 45 (.mov (tm 3)),
 o1 46 (.mov (tm 10)),
 o1 47 (.bin .add (so (.binOp .add 3 (tm 45) (tm 46) 3) 3) (tm 45) (tm 46)),
 o1 48 (.indexSl 37 (tm 44) (tm 47)),
 o1 49 (.load (some 37) (tm 48)),
 o1 50 (.mov (tm 0)),
 o1 51 (.mov (tm 3)),
 o1 52 (.mov (tm 11)),
 o1 53 (.bin .add (so (.binOp .add 3 (tm 51) (tm 52) 3) 3) (tm 51) (tm 52)),
 o1 54 (.indexSl 37 (tm 50) (tm 53)),
 o1 55 (.load (some 37) (tm 54)),
 o2 56 (.callV (tm 43) [(tm 49), (tm 55)]),
 o2 57 (.bin .lss (so (.binOp .lss 3 (tm 56) k0 3) 4) (tm 56) k0),
 o2 58 (.raw (so (.unOp .not 4 (tm 57)) 4))]) (.cond (tm 58)
 .ret
 .skip)) (.seq (.regionD [
 o1 59 (.mov (tm 0)),
 o1 60 (.mov (tm 3)),
 o1 61 (.mov (tm 10)),
 o1 62 (.bin .add (so (.binOp .add 3 (tm 60) (tm 61) 3) 3) (tm 60) (tm 61)),
 o1 63 (.mov (tm 0)),
 o1 64 (.mov (tm 3)),
 o1 65 (.mov (tm 11)),
 o1 66 (.bin .add (so (.binOp .add 3 (tm 64) (tm 65) 3) 3) (tm 64) (tm 65)),
 o1 67 (.mov (tm 0)),
 o1 68 (.mov (tm 3)),
 o1 69 (.mov (tm 11)),
 o1 70 (.bin .add (so (.binOp .add 3 (tm 68) (tm 69) 3) 3) (tm 68) (tm 69)),
 o1 71 (.indexSl 37 (tm 67) (tm 70)),
 o1 72 (.load (some 37) (tm 71)),
 o1 73 (.mov (tm 0)),
 o1 74 (.mov (tm 3)),
 o1 75 (.mov (tm 10)),
 o1 76 (.bin .add (so (.binOp .add 3 (tm 74) (tm 75) 3) 3) (tm 74) (tm 75)),
 o1 77 (.indexSl 37 (tm 73) (tm 76)),
 o1 78 (.load (some 37) (tm 77)),
 o1 79 (.indexSl 37 (tm 59) (tm 62)),
 ⟨none, .store 37 (tm 79) (tm 72), none, [(some 66, .bin .add (so (.binOp .add 3 (tm 64) (tm 65) 3) 3) (tm 64) (tm 65), none), (some 65, .mov (tm 11), none), (some 64, .mov (tm 3), none), (some 63, .mov (tm 0), none)], false⟩,
 o2 80 (.indexSl 37 (tm 63) (tm 66)),
 ⟨none, .store 37 (tm 80) (tm 78), none, [], true⟩]) (.region [
 o1 81 (.mov (tm 11)),
 o1 10 (.mov (tm 81))])))))))
def zwcQ_c : ACode :=
 (.seq (.region [
 o1 12 (.mov (tm 1)),
 o1 10 (.mov (tm 12))]) (.block 0 (.loop zwcQ_l0)))
def zwcQ : AFunc := ⟨82, [], zwcQ_c, none⟩
theorem zwcQ_t0 : tableOf Tryz.prog 108 = some zwcQ := by kernel_rfl
theorem zwcQ_t : T0 108 = some zwcQ := withKept_t rfl (withTrue_t rfl zwcQ_t0)
theorem zwcQ_runs {v0 v1 v2 v3 v4 : Value} {h : Heap} {R : RP} {X : XP} (k : RunC Tryz.prog T0 zwcQ_c ⟨[v0, v1, v2, v3, v4, U, U, U, U, U, U, U, U, U, U, U, U, U, U, U, U, U, U, U, U, U, U, U, U, U, U, U, U, U, U, U, U, U, U, U, U, U, U, U, U, U, U, U, U, U, U, U, U, U, U, U, U, U, U, U, U, U, U, U, U, U, U, U, U, U, U, U, U, U, U, U, U, U, U, U, U, U], [], h, none⟩ (bodyQ Tryz.prog T0 [] R X)) :
 Runs Tryz.prog T0 (.fn 108) [v0, v1, v2, v3, v4] h R X := Runs.fn zwcQ_t rfl k
abbrev zwcQ_l0_M : List Nat := [0, 0, 0, 0, 0, 0, 0, 0, 0, 0, 2, 1, 0, 1, 1, 1, 1, 1, 1, 1, 1, 1, 1, 1, 1, 1, 1, 1, 1, 1, 1, 1, 1, 1, 1, 1, 1, 1, 1, 1, 1, 1, 1, 1, 1, 1, 1, 1, 1, 1, 1, 1, 1, 1, 1, 1, 1, 1, 1, 1, 1, 1, 1, 1, 1, 1, 1, 1, 1, 1, 1, 1, 1, 1, 1, 1, 1, 1, 1, 1, 1, 1]
abbrev fn_zpcQ : FuncId := 109
def zpcQ_c : ACode :=
 (.seq (.region [
 o1 2 (.mov (.const (.int .u64 0)))]) (.seq (.region [
 o1 3 (.mov (tm 0)),
 o1 4 (.conv .u64 (so (.convert 3 102 (tm 3)) 102) (tm 3)),
 o1 5 (.callV (.func 96) [(tm 4)]),
 o1 6 (.bin .shl (so (.binOp .shl 102 (.const (.int .u64 1)) (tm 5) 3) 102) (.const (.int .u64 1)) (tm 5)),
 o1 2 (.mov (tm 6))]) .ret))
def zpcQ : AFunc := ⟨7, [(2, none)], zpcQ_c, none⟩
theorem zpcQ_t0 : tableOf Tryz.prog 109 = some zpcQ := by kernel_rfl
theorem zpcQ_t : T0 109 = some zpcQ := withKept_t rfl (withTrue_t rfl zpcQ_t0)
theorem zpcQ_runs {v0 : Value} {h : Heap} {R : RP} {X : XP} (k : RunC Tryz.prog T0 zpcQ_c ⟨[v0, U, U, U, U, U, U], [], h, none⟩ (bodyQ Tryz.prog T0 [(2, none)] R X)) :
 Runs Tryz.prog T0 (.fn 109) [v0] h R X := Runs.fn zpcQ_t rfl k
abbrev fn_zxcQ : FuncId := 110
def zxcQ_c : ACode :=
 (.seq (.region [
 o1 2 (.mov (.const (.int .u64 0)))]) (.seq (.regionD [
 o1 3 (.mov (tm 0)),
 o1 4 (.nilCheck (tm 3)),
 o1 5 (.load none (tm 4)),
 o1 6 (.mov (tm 0)),
 o1 7 (.nilCheck (tm 6)),
 o1 8 (.load none (tm 7)),
 o1 9 (.bin .shl (so (.binOp .shl 161 (tm 8) (.const (.int .u64 13)) 102) 161) (tm 8) (.const (.int .u64 13))),
 o2 10 (.bin .xor (so (.binOp .xor 161 (tm 5) (tm 9) 161) 161) (tm 5) (tm 9)),
 o2 11 (.nilCheck (tm 3)),
 ⟨none, .store 1 (tm 11) (tm 10), none, [], true⟩]) (.seq (.regionD [
 o1 12 (.mov (tm 0)),
 o1 13 (.nilCheck (tm 12)),
 o1 14 (.load none (tm 13)),
 o1 15 (.mov (tm 0)),
 o1 16 (.nilCheck (tm 15)),
 o1 17 (.load none (tm 16)),
 o1 18 (.bin .shr (so (.binOp .shr 161 (tm 17) (.const (.int .u64 7)) 102) 161) (tm 17) (.const (.int .u64 7))),
 o2 19 (.bin .xor (so (.binOp .xor 161 (tm 14) (tm 18) 161) 161) (tm 14) (tm 18)),
 o2 20 (.nilCheck (tm 12)),
 ⟨none, .store 1 (tm 20) (tm 19), none, [], true⟩]) (.seq (.regionD [
 o1 21 (.mov (tm 0)),
 o1 22 (.nilCheck (tm 21)),
 o1 23 (.load none (tm 22)),
 o1 24 (.mov (tm 0)),
 o1 25 (.nilCheck (tm 24)),
 o1 26 (.load none (tm 25)),
 o1 27 (.bin .shl (so (.binOp .shl 161 (tm 26) (.const (.int .u64 17)) 102) 161) (tm 26) (.const (.int .u64 17))),
 o2 28 (.bin .xor (so (.binOp .xor 161 (tm 23) (tm 27) 161) 161) (tm 23) (tm 27)),
 o2 29 (.nilCheck (tm 21)),
 ⟨none, .store 1 (tm 29) (tm 28), none, [], true⟩]) (.seq (.region [
 o1 30 (.mov (tm 0)),
 o1 31 (.nilCheck (tm 30)),
 o1 32 (.load none (tm 31)),
 o1 2 (.mov (tm 32))]) .ret)))))
def zxcQ : AFunc := ⟨33, [(2, none)], zxcQ_c, none⟩
theorem zxcQ_t0 : tableOf Tryz.prog 110 = some zxcQ := by kernel_rfl
theorem zxcQ_t : T0 110 = some zxcQ := withKept_t rfl (withTrue_t rfl zxcQ_t0)
theorem zxcQ_runs {v0 : Value} {h : Heap} {R : RP} {X : XP} (k : RunC Tryz.prog T0 zxcQ_c ⟨[v0, U, U, U, U, U, U, U, U, U, U, U, U, U, U, U, U, U, U, U, U, U, U, U, U, U, U, U, U, U, U, U, U], [], h, none⟩ (bodyQ Tryz.prog T0 [(2, none)] R X)) :
 Runs Tryz.prog T0 (.fn 110) [v0] h R X := Runs.fn zxcQ_t rfl k
abbrev fn_zncQ : FuncId := 111
def zncQ_c : ACode :=
 (.seq (.region [
 o1 8 (.mov k0)]) (.seq (.region [
 o1 9 (.mov (tm 0)),
 o1 10 (.mov (tm 1)),
 o1 11 (.bin .sub (so (.binOp .sub 3 (tm 10) (.const (.int .i64 1)) 3) 3) (tm 10) (.const (.int .i64 1))),
 o1 12 (.mov (tm 1)),
 o1 13 (.mov (tm 1)),
 o1 14 (.bin .add (so (.binOp .add 3 (tm 13) (.const (.int .i64 1)) 3) 3) (tm 13) (.const (.int .i64 1))),
 o1 15 (.mov (tm 2)),
 o1 16 (.mov (tm 3)),
 o1 17 (.callV (.func 112) [(tm 9), (tm 11), (tm 12), (tm 14), (tm 15), (tm 16)]),
 o1 8 (.mov (tm 17))]) .ret))
def zncQ : AFunc := ⟨18, [(8, none)], zncQ_c, none⟩
theorem zncQ_t0 : tableOf Tryz.prog 111 = some zncQ := by kernel_rfl
theorem zncQ_t : T0 111 = some zncQ := withKept_t rfl (withTrue_t rfl zncQ_t0)
theorem zncQ_runs {v0 v1 v2 v3 : Value} {h : Heap} {R : RP} {X : XP} (k : RunC Tryz.prog T0 zncQ_c ⟨[v0, v1, v2, v3, U, U, U, U, U, U, U, U, U, U, U, U, U, U], [], h, none⟩ (bodyQ Tryz.prog T0 [(8, none)] R X)) :
 Runs Tryz.prog T0 (.fn 111) [v0, v1, v2, v3] h R X := Runs.fn zncQ_t rfl k
abbrev fn_zocQ : FuncId := 112
def zocQ_c : ACode :=
 (.seq (.region [
 o1 12 (.mov k0)]) (.seq (.region [
 o1 14 (.mov (tm 0)),
 o1 15 (.mov (tm 1)),
 o1 16 (.mov (tm 2)),
 o1 17 (.mov (tm 4)),
 o1 18 (.mov (tm 5)),
 o1 19 (.callV (.func 113) [(tm 14), (tm 15), (tm 16), (tm 17), (tm 18)]),
 o1 13 (.mov (tm 19)),
 o1 20 (.extract 0 (tm 13)),
 o1 21 (.extract 1 (tm 13)),
 o1 1 (.mov (tm 20)),
 o1 2 (.mov (tm 21))]) (.seq (.region [
 o1 23 (.mov (tm 0)),
 o1 24 (.mov (tm 2)),
 o1 25 (.mov (tm 3)),
 o1 26 (.mov (tm 4)),
 o1 27 (.mov (tm 5)),
 o1 28 (.callV (.func 113) [(tm 23), (tm 24), (tm 25), (tm 26), (tm 27)]),
 o1 22 (.mov (tm 28)),
 o1 29 (.extract 0 (tm 22)),
 o1 30 (.extract 1 (tm 22)),
 o1 2 (.mov (tm 29)),
 o1 3 (.mov (tm 30))]) (.seq (.region [
 o1 32 (.mov (tm 0)),
 o1 33 (.mov (tm 1)),
 o1 34 (.mov (tm 2)),
 o1 35 (.mov (tm 4)),
 o1 36 (.mov (tm 5)),
 o1 37 (.callV (.func 113) [(tm 32), (tm 33), (tm 34), (tm 35), (tm 36)]),
 o1 31 (.mov (tm 37)),
 o1 38 (.extract 0 (tm 31)),
 o1 39 (.extract 1 (tm 31)),
 o1 1 (.mov (tm 38)),
 o1 2 (.mov (tm 39))]) (.seq (.region [
 o1 40 (.mov (tm 2)),
 o1 12 (.mov (tm 40))]) .ret)))))
def zocQ : AFunc := ⟨41, [(12, none)], zocQ_c, none⟩
theorem zocQ_t0 : tableOf Tryz.prog 112 = some zocQ := by kernel_rfl
theorem zocQ_t : T0 112 = some zocQ := withKept_t rfl (withTrue_t rfl zocQ_t0)
theorem zocQ_runs {v0 v1 v2 v3 v4 v5 : Value} {h : Heap} {R : RP} {X : XP} (k : RunC Tryz.prog T0 zocQ_c ⟨[v0, v1, v2, v3, v4, v5, U, U, U, U, U, U, U, U, U, U, U, U, U, U, U, U, U, U, U, U, U, U, U, U, U, U, U, U, U, U, U, U, U, U, U], [], h, none⟩ (bodyQ Tryz.prog T0 [(12, none)] R X)) :
 Runs Tryz.prog T0 (.fn 112) [v0, v1, v2, v3, v4, v5] h R X := Runs.fn zocQ_t rfl k
abbrev fn_zqcQ : FuncId := 113
def zqcQ_c : ACode :=
 (.seq (.region [
 o1 10 (.mov k0),
 o1 11 (.mov k0)]) (.seq (.seq (.regionD [
 o1 12 (.mov (tm 4)),
 o1 13 (.mov (tm 0)),
 o1 14 (.mov (tm 2)),
 o1 15 (.indexSl 37 (tm 13) (tm 14)),
 o1 16 (.load (some 37) (tm 15)),
 o1 17 (.mov (tm 0)),
 o1 18 (.mov (tm 1)),
 o1 19 (.indexSl 37 (tm 17) (tm 18)),
 o1 20 (.load (some 37) (tm 19)),
 o2 21 (.callV (tm 12) [(tm 16), (tm 20)]),
 o2 22 (.bin .lss (so (.binOp .lss 3 (tm 21) k0 3) 4) (tm 21) k0)]) (.cond (tm 22)
 (.seq (.region [
 o1 23 (.mov (tm 3)),
 o1 24 (.nilCheck (tm 23)),
 o1 25 (.load none (tm 24)),
 o1 26 (.bin .add (so (.binOp .add 3 (tm 25) (.const (.int .i64 1)) 3) 3) (tm 25) (.const (.int .i64 1))),
 o1 27 (.nilCheck (tm 23)),
 o3 (.store 1 (tm 27) (tm 26))]) (.seq (.region [
 o1 28 (.mov (tm 2)),
 o1 29 (.mov (tm 1)),
 o1 10 (.mov (tm 28)),
 o1 11 (.mov (tm 29))]) .ret))
 .skip)) (.seq (.region [
 o1 30 (.mov (tm 1)),
 o1 31 (.mov (tm 2)),
 o1 10 (.mov (tm 30)),
 o1 11 (.mov (tm 31))]) .ret)))
def zqcQ : AFunc := ⟨32, [(10, none), (11, none)], zqcQ_c, none⟩
theorem zqcQ_t0 : tableOf Tryz.prog 113 = some zqcQ := by kernel_rfl
theorem zqcQ_t : T0 113 = some zqcQ := withKept_t rfl (withTrue_t rfl zqcQ_t0)
theorem zqcQ_runs {v0 v1 v2 v3 v4 : Value} {h : Heap} {R : RP} {X : XP} (k : RunC Tryz.prog T0 zqcQ_c ⟨[v0, v1, v2, v3, v4, U, U, U, U, U, U, U, U, U, U, U, U, U, U, U, U, U, U, U, U, U, U, U, U, U, U, U], [], h, none⟩ (bodyQ Tryz.prog T0 [(10, none), (11, none)] R X)) :
 Runs Tryz.prog T0 (.fn 113) [v0, v1, v2, v3, v4] h R X := Runs.fn zqcQ_t rfl k
end Go.Proofs.YtagmnpeilgnbdaaGreat.A
