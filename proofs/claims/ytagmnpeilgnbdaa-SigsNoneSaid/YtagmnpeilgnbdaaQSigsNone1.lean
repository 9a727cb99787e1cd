/- Contracts of functions, over the machine. -/
import Derived.Test.YtagmnpeilgnbdaaRows
import Derived.Test.YtagmnpeilgnbdaaVJ
import Derived.Test.YtagmnpeilgnbdaaVK
namespace Go.Vm
abbrev U : Value := undef
abbrev tm (n : Nat) : Operand := .tmp n
abbrev k0 : Operand := .const (.int .i64 0)
abbrev o1 (d : Nat) (x : AOp) : AOper := ⟨some d, x, none, [], false⟩
abbrev o2 (d : Nat) (x : AOp) : AOper := ⟨some d, x, none, [], true⟩
abbrev o3 (x : AOp) : AOper := ⟨none, x, none, [], false⟩
abbrev o5 (d : Nat) (x : AOp) (t : Nat) : AOper := ⟨some d, x, some (t, false), [], false⟩
end Go.Vm
set_option linter.unusedSimpArgs false
set_option linter.unusedSectionVars false
noncomputable section
set_option maxRecDepth 100000
set_option linter.unusedVariables false
namespace Go.Proofs.Ytagmnpeilgnbdaa.A
open Go Go.Vm
instance : IsIface Try.prog 20 := ⟨by kernel_rfl⟩
abbrev prims : List FuncId := [8]
abbrev kepts : List FuncId := []
def T0 : Table := withKept (withTrue Try.prog prims) kepts
theorem zbQ_known {h : Heap} : Runs Try.prog T0 (.fn 8) [] h (fun r h' => r = .bool true ∧ h' = h) (fun _ _ => False) := known_runs rfl
instance : IsBoolT Try.prog 4 := ⟨by kernel_rfl⟩
instance : TLeaves Try.prog 7 (.i .i64 :: (.i .i64 :: (.b :: (.i .u8 :: [])))) := ⟨by kernel_rfl, by kernel_rfl, by kernel_rfl⟩
instance : TLeaves Try.prog 8 (.i .i64 :: (.i .i64 :: (.b :: (.i .u8 :: [])))) := ⟨by kernel_rfl, by kernel_rfl, by kernel_rfl⟩
instance : TLeaves Try.prog 32 (u8s 4) := ⟨by kernel_rfl, by kernel_rfl, by kernel_rfl⟩
instance : TLeaves Try.prog 33 (u8s 4) := ⟨by kernel_rfl, by kernel_rfl, by kernel_rfl⟩
instance : TLeaves Try.prog 34 (u8s 32) := ⟨by kernel_rfl, by kernel_rfl, by kernel_rfl⟩
instance : TLeaves Try.prog 35 (u8s 32) := ⟨by kernel_rfl, by kernel_rfl, by kernel_rfl⟩
instance : TLeaves Try.prog 37 (u8s 32 ++ (u8s 4 ++ (.i .u64 :: []))) := ⟨by kernel_rfl, by kernel_rfl, by kernel_rfl⟩
instance : TLeaves Try.prog 38 (u8s 32 ++ (u8s 4 ++ (.i .u64 :: []))) := ⟨by kernel_rfl, by kernel_rfl, by kernel_rfl⟩
instance : TLeaves Try.prog 61 (.i .i64 :: (.i .i64 :: [])) := ⟨by kernel_rfl, by kernel_rfl, by kernel_rfl⟩
instance : TLeaves Try.prog 62 (.i .i64 :: (.i .i64 :: [])) := ⟨by kernel_rfl, by kernel_rfl, by kernel_rfl⟩
instance : TLeaves Try.prog 70 (u8s 32 ++ (u8s 4 ++ (.i .u64 :: []))) := ⟨by kernel_rfl, by kernel_rfl, by kernel_rfl⟩
instance : TLeaves Try.prog 105 (u8s 4 ++ (u8s 4)) := ⟨by kernel_rfl, by kernel_rfl, by kernel_rfl⟩
instance : TLeaves Try.prog 134 (u8s 4 ++ (u8s 4 ++ (.i .u8 :: []))) := ⟨by kernel_rfl, by kernel_rfl, by kernel_rfl⟩
instance : TLeaves Try.prog 146 (.i .i64 :: (.i .i64 :: [])) := ⟨by kernel_rfl, by kernel_rfl, by kernel_rfl⟩
instance : TLeaves Try.prog 147 (.i .i64 :: (.i .i64 :: [])) := ⟨by kernel_rfl, by kernel_rfl, by kernel_rfl⟩
abbrev fn_zaQ : FuncId := 4
def zaQ_l0 : ACode :=
 (.seq (.seq (.region [
 o1 11 (.mov (tm 4)),
 o1 12 (.mov (tm 3)),
 o1 13 (.lenSl (tm 12)),
 o1 14 (.bin .lss (so (.binOp .lss 3 (tm 11) (tm 13) 3) 4) (tm 11) (tm 13))]) (.cond (tm 14)
 .skip
 (.exit 0))) (.seq (.block 1 (.seq (.region [
 o1 17 (.mov (tm 3)),
 o1 18 (.mov (tm 4)),
 o1 19 (.indexSl 1 (tm 17) (tm 18)),
 o1 20 (.load none (tm 19)),
 o1 5 (.mov (tm 20))]) (.seq (.region [
 o1 22 (.mov (tm 5)),
 o1 23 (.callV (.func 14) [(tm 22)]),
 o1 21 (.mov (tm 23)),
 o1 24 (.extract 0 (tm 21)),
 o1 25 (.extract 1 (tm 21)),
 o1 6 (.mov (tm 24)),
 o1 7 (.mov (tm 25))]) (.seq (.region [
 o1 26 (.mov (tm 5)),
 o1 27 (.load (some 37) (tm 1)),
 o1 28 (.callV (.func 11) [(tm 26), (tm 27)]),
 o1 29 (.bin .neq (so (.binOp .neq 25 (tm 28) (.const (.int .i64 1)) 25) 4) (tm 28) (.const (.int .i64 1))),
 o1 30 (.mov (tm 29)),
 o5 31 (.mov (tm 5)) 30,
 o5 32 (.load (some 37) (tm 1)) 30,
 o5 33 (.callV (.func 15) [(tm 31), (tm 32)]) 30,
 o1 34 (.pick (tm 30) (.const (.bool true)) (tm 33)),
 o1 35 (.mov (tm 34)),
 o5 36 (.mov (tm 5)) 35,
 o5 37 (.fieldAddr 4 (tm 1)) 35,
 o5 38 (.load (some 32) (tm 37)) 35,
 o5 39 (.callV (.func 16) [(tm 36), (tm 38)]) 35,
 o5 40 (.lenSl (tm 39)) 35,
 o5 41 (.bin .gtr (so (.binOp .gtr 3 (tm 40) k0 3) 4) (tm 40) k0) 35,
 o1 42 (.pick (tm 35) (.const (.bool true)) (tm 41)),
 o1 43 (.mov (tm 42)),
 o5 44 (.mov (tm 5)) 43,
 o5 45 (.callV (.func 17) [(tm 44)]) 43,
 o5 46 (.bin .neq (so (.binOp .neq 3 (tm 45) k0 3) 4) (tm 45) k0) 43,
 o1 47 (.pick (tm 43) (.const (.bool true)) (tm 46)),
 o1 48 (.mov (tm 47)),
 o5 49 (.mov (tm 5)) 48,
 o5 50 (.callV (.func 18) [(tm 49)]) 48,
 o5 51 (.lenSl (tm 50)) 48,
 o5 52 (.bin .gtr (so (.binOp .gtr 3 (tm 51) k0 3) 4) (tm 51) k0) 48,
 o1 53 (.pick (tm 48) (.const (.bool true)) (tm 52)),
 o1 54 (.mov (tm 53)),
 o5 55 (.mov (tm 6)) 54,
 o5 56 (.lenSl (tm 55)) 54,
 o5 57 (.bin .gtr (so (.binOp .gtr 3 (tm 56) k0 3) 4) (tm 56) k0) 54,
 o1 58 (.pick (tm 54) (.const (.bool true)) (tm 57)),
 o1 59 (.mov (tm 58)),
 o5 60 (.mov (tm 7)) 59,
 o5 61 (.bin .neq (so (.binOp .neq 25 (tm 60) (.const (.int .i64 1)) 25) 4) (tm 60) (.const (.int .i64 1))) 59,
 o1 62 (.pick (tm 59) (.const (.bool true)) (tm 61))]) (.cond (tm 62)
 (.seq (.region [
 o1 2 (.mov (.const (.bool false)))]) .ret)
 .skip))))) (.region [
 o1 15 (.mov (tm 4)),
 o1 16 (.bin .add (so (.binOp .add 3 (tm 15) (.const (.int .i64 1)) 3) 3) (tm 15) (.const (.int .i64 1))),
 o1 4 (.mov (tm 16))])))
def zaQ_c : ACode :=
 (.seq (.region [
 o1 1 (.box 38 (tm 0)),
 o1 2 (.mov (.const (.bool false)))]) (.seq (.region [
 o1 8 (.build [(.int .i64 0), (.map none)] []),
 o1 9 (.box 43 (tm 8)),
 o1 10 (.buildSlice 24 [(.pointer none), (.pointer none)] 2 [(0, 1, (.const (.pointer none))), (1, 1, (tm 9))]),
 o1 3 (.mov (tm 10))]) (.seq (.seq (.region [
 o1 4 (.mov k0)]) (.block 0 (.loop zaQ_l0))) (.seq (.region [
 o1 63 (.callV (.func 8) []),
 o1 2 (.mov (tm 63))]) .ret))))
def zaQ : AFunc := ⟨64, [(2, none)], zaQ_c, none⟩
theorem zaQ_t0 : tableOf Try.prog 4 = some zaQ := by kernel_rfl
theorem zaQ_t : T0 4 = some zaQ := withKept_t rfl (withTrue_t rfl zaQ_t0)
theorem zaQ_runs {v0 : Value} {h : Heap} {R : RP} {X : XP} (k : RunC Try.prog T0 zaQ_c ⟨[v0, U, U, U, U, U, U, U, U, U, U, U, U, U, U, U, U, U, U, U, U, U, U, U, U, U, U, U, U, U, U, U, U, U, U, U, U, U, U, U, U, U, U, U, U, U, U, U, U, U, U, U, U, U, U, U, U, U, U, U, U, U, U, U], [], h, none⟩ (bodyQ Try.prog T0 [(2, none)] R X)) :
 Runs Try.prog T0 (.fn 4) [v0] h R X := Runs.fn zaQ_t rfl k
abbrev zaQ_l0_M : List Nat := [0, 0, 1, 0, 2, 1, 1, 1, 0, 0, 0, 1, 1, 1, 1, 1, 1, 1, 1, 1, 1, 1, 1, 1, 1, 1, 1, 1, 1, 1, 1, 1, 1, 1, 1, 1, 1, 1, 1, 1, 1, 1, 1, 1, 1, 1, 1, 1, 1, 1, 1, 1, 1, 1, 1, 1, 1, 1, 1, 1, 1, 1, 1, 0]
abbrev fn_zcQ : FuncId := 11
def zcQ_c : ACode :=
 (.seq (.region [
 o1 3 (.box 38 (tm 1)),
 o1 4 (.mov k0)]) (.seq (.block 0 (.seq (.region [
 o1 6 (.mov (tm 0)),
 o1 7 (.callV (.func 26) [(tm 6)]),
 o1 5 (.mov (tm 7))]) (.cond (tm 5)
 (.seq (.region [
 o1 4 (.mov (.const (.int .i64 1)))]) .ret)
 (.seq (.region [
 o1 9 (.mov (tm 0)),
 o1 10 (.load (some 37) (tm 3)),
 o1 11 (.callV (.func 15) [(tm 9), (tm 10)]),
 o1 8 (.mov (tm 11))]) (.cond (tm 8)
 (.seq (.region [
 o1 4 (.mov (.const (.int .i64 8)))]) .ret)
 (.seq (.regionD [
 o1 13 (.mov (tm 0)),
 o1 14 (.nilCheck (tm 13)),
 o1 15 (.fieldAddr 1 (tm 14)),
 o1 16 (.load none (tm 15)),
 o1 17 (.lenMap (tm 16)),
 o1 18 (.mov (tm 0)),
 o1 19 (.nilCheck (tm 18)),
 o1 20 (.fieldAddr 0 (tm 19)),
 o1 21 (.load none (tm 20)),
 o2 22 (.bin .geq (so (.binOp .geq 3 (tm 17) (tm 21) 3) 4) (tm 17) (tm 21)),
 o2 12 (.mov (tm 22))]) (.cond (tm 12)
 (.seq (.region [
 o1 4 (.mov (.const (.int .i64 7)))]) .ret)
 .skip))))))) (.seq (.regionD [
 o1 23 (.mov (tm 0)),
 o1 24 (.nilCheck (tm 23)),
 o1 25 (.fieldAddr 1 (tm 24)),
 o1 26 (.load none (tm 25)),
 o1 27 (.load (some 37) (tm 3)),
 o1 28 (.build [] []),
 ⟨none, .mapUpdate (.slice 70) (tm 26) (tm 27) (tm 28), none, [], true⟩]) (.seq (.region [
 o1 4 (.mov k0)]) .ret))))
def zcQ : AFunc := ⟨29, [(4, none)], zcQ_c, none⟩
theorem zcQ_t0 : tableOf Try.prog 11 = some zcQ := by kernel_rfl
theorem zcQ_t : T0 11 = some zcQ := withKept_t rfl (withTrue_t rfl zcQ_t0)
theorem zcQ_runs {v0 v1 : Value} {h : Heap} {R : RP} {X : XP} (k : RunC Try.prog T0 zcQ_c ⟨[v0, v1, U, U, U, U, U, U, U, U, U, U, U, U, U, U, U, U, U, U, U, U, U, U, U, U, U, U, U], [], h, none⟩ (bodyQ Try.prog T0 [(4, none)] R X)) :
 Runs Try.prog T0 (.fn 11) [v0, v1] h R X := Runs.fn zcQ_t rfl k
abbrev fn_zdQ : FuncId := 14
def zdQ_l0 : ACode :=
 (.seq (.region [
 o1 25 (.bin .lss (so (.binOp .lss 3 (tm 24) (tm 23) 3) 0) (tm 24) (tm 23))]) (.seq (.cond (tm 25)
 .skip
 (.exit 0)) (.seq (.block 1 (.seq (.region [
 o1 26 (.indexSl 37 (tm 22) (tm 24)),
 o1 27 (.load (some 37) (tm 26)),
 o1 7 (.alloc 70 (z32 ++ [(.int .u8 0), (.int .u8 0), (.int .u8 0), (.int .u8 0), (.int .u64 0)])),
 o3 (.store 37 (tm 7) (tm 27))]) (.seq (.region [
 o1 28 (.mov (tm 4)),
 o1 29 (.fieldAddr 0 (tm 7)),
 o1 30 (.load (some 4) (tm 29)),
 o1 31 (.callV (.func 35) [(tm 28), (tm 30)])]) (.seq (.region [
 o1 32 (.mov (tm 4)),
 o1 33 (.fieldAddr 4 (tm 7)),
 o1 34 (.load (some 32) (tm 33)),
 o1 35 (.callV (.func 36) [(tm 32), (tm 34)])]) (.region [
 o1 36 (.mov (tm 4)),
 o1 37 (.fieldAddr 36 (tm 7)),
 o1 38 (.load none (tm 37)),
 o1 39 (.callV (.func 37) [(tm 36), (tm 38)])]))))) (.region [
 o1 40 (.bin .add (so (.binOp .add 3 (tm 24) (.const (.int .i64 1)) 3) 3) (tm 24) (.const (.int .i64 1))),
 o1 24 (.mov (tm 40))]))))
def zdQ_c : ACode :=
 (.seq (.region [
 o1 2 (.mov (.const (.slice none 0 0))),
 o1 3 (.mov k0)]) (.seq (.seq (.region [
 o1 8 (.mov (tm 0)),
 o1 9 (.callV (.func 26) [(tm 8)])]) (.cond (tm 9)
 (.seq (.region [
 o1 2 (.mov (.const (.slice none 0 0))),
 o1 3 (.mov (.const (.int .i64 1)))]) .ret)
 .skip)) (.seq (.region [
 o1 11 (.callV (.func 32) [(.const (.int .i64 1048576))]),
 o1 10 (.mov (tm 11)),
 o1 12 (.extract 0 (tm 10)),
 o1 13 (.extract 1 (tm 10)),
 o1 4 (.mov (tm 12)),
 o1 5 (.mov (tm 13))]) (.seq (.region [
 o1 14 (.mov (tm 4)),
 o1 15 (.mov (tm 0)),
 o1 16 (.nilCheck (tm 15)),
 o1 17 (.fieldAddr 1 (tm 16)),
 o1 18 (.load none (tm 17)),
 o1 19 (.lenMap (tm 18)),
 o1 20 (.callV (.func 33) [(tm 14), (tm 19)])]) (.seq (.seq (.region [
 o1 21 (.mov (tm 0)),
 o1 22 (.callV (.func 34) [(tm 21)]),
 o1 23 (.lenSl (tm 22)),
 o1 24 (.mov k0)]) (.block 0 (.loop zdQ_l0))) (.seq (.region [
 o1 41 (.mov (tm 4)),
 o1 42 (.callV (.func 38) [(tm 41)]),
 o1 43 (.extract 0 (tm 42)),
 o1 44 (.extract 1 (tm 42)),
 o1 2 (.mov (tm 43)),
 o1 3 (.mov (tm 44))]) .ret))))))
def zdQ : AFunc := ⟨45, [(2, none), (3, none)], zdQ_c, none⟩
theorem zdQ_t0 : tableOf Try.prog 14 = some zdQ := by kernel_rfl
theorem zdQ_t : T0 14 = some zdQ := withKept_t rfl (withTrue_t rfl zdQ_t0)
theorem zdQ_runs {v0 : Value} {h : Heap} {R : RP} {X : XP} (k : RunC Try.prog T0 zdQ_c ⟨[v0, U, U, U, U, U, U, U, U, U, U, U, U, U, U, U, U, U, U, U, U, U, U, U, U, U, U, U, U, U, U, U, U, U, U, U, U, U, U, U, U, U, U, U, U], [], h, none⟩ (bodyQ Try.prog T0 [(2, none), (3, none)] R X)) :
 Runs Try.prog T0 (.fn 14) [v0] h R X := Runs.fn zdQ_t rfl k
abbrev fn_zeQ : FuncId := 15
def zeQ_c : ACode :=
 (.seq (.region [
 o1 3 (.box 38 (tm 1)),
 o1 4 (.mov (.const (.bool false)))]) (.seq (.seq (.region [
 o1 7 (.mov (tm 0)),
 o1 8 (.callV (.func 26) [(tm 7)])]) (.cond (tm 8)
 (.seq (.region [
 o1 4 (.mov (.const (.bool false)))]) .ret)
 .skip)) (.seq (.regionD [
 o1 10 (.mov (tm 0)),
 o1 11 (.nilCheck (tm 10)),
 o1 12 (.fieldAddr 1 (tm 11)),
 o1 13 (.load none (tm 12)),
 o1 14 (.load (some 37) (tm 3)),
 o1 15 (.lookup (.slice 70) (.agg ⟨[]⟩) true (tm 13) (tm 14)),
 o1 9 (.mov (tm 15)),
 o1 16 (.extract 0 (tm 9)),
 o1 17 (.extract 1 (tm 9)),
 ⟨some 5, .alloc 69 [], none, [(some 17, .extract 1 (tm 9), none), (some 16, .extract 0 (tm 9), none), (some 9, .mov (tm 15), none), (some 15, .lookup (.slice 70) (.agg ⟨[]⟩) true (tm 13) (tm 14), none), (some 14, .load (some 37) (tm 3), none), (some 13, .load none (tm 12), none), (some 12, .fieldAddr 1 (tm 11), none), (some 11, .nilCheck (tm 10), none), (some 10, .mov (tm 0), none)], false⟩,
 ⟨none, .store 0 (tm 5) (tm 16), none, [(some 17, .extract 1 (tm 9), none)], false⟩,
 o2 6 (.mov (tm 17))]) (.seq (.region [
 o1 18 (.mov (tm 6)),
 o1 4 (.mov (tm 18))]) .ret))))
def zeQ : AFunc := ⟨19, [(4, none)], zeQ_c, none⟩
theorem zeQ_t0 : tableOf Try.prog 15 = some zeQ := by kernel_rfl
theorem zeQ_t : T0 15 = some zeQ := withKept_t rfl (withTrue_t rfl zeQ_t0)
theorem zeQ_runs {v0 v1 : Value} {h : Heap} {R : RP} {X : XP} (k : RunC Try.prog T0 zeQ_c ⟨[v0, v1, U, U, U, U, U, U, U, U, U, U, U, U, U, U, U, U, U], [], h, none⟩ (bodyQ Try.prog T0 [(4, none)] R X)) :
 Runs Try.prog T0 (.fn 15) [v0, v1] h R X := Runs.fn zeQ_t rfl k
abbrev fn_zhQ : FuncId := 16
def zhQ_ra0 : Code := (rangeParts (subCode ((Try.prog.funcs[16]?).bind (·.body)) [true, true, false, true, false])).1
def zhQ_rb0 : Code := (rangeParts (subCode ((Try.prog.funcs[16]?).bind (·.body)) [true, true, false, true, false])).2
def zhQ_c : ACode :=
 (.seq (.region [
 o1 3 (.box 35 (tm 1)),
 o1 4 (.alloc 49 [(.slice none 0 0)])]) (.seq (.seq (.region [
 o1 6 (.mov (tm 0)),
 o1 7 (.callV (.func 26) [(tm 6)])]) (.cond (tm 7)
 (.seq (.region [
 o3 (.store 1 (tm 4) (.const (.slice none 0 0)))]) .ret)
 .skip)) (.seq (.seq (.region [
 o1 8 (.mov (tm 0)),
 o1 9 (.load (some 32) (tm 3)),
 o1 10 (.callV (.func 39) [(tm 8), (tm 9)])]) (.block 0 (.rangeFunc (tm 10) [11] zhQ_ra0 zhQ_rb0))) (.seq (.region [
 o1 29 (.load none (tm 4)),
 o3 (.store 1 (tm 4) (tm 29))]) .ret))))
def zhQ : AFunc := ⟨30, [(4, some none)], zhQ_c, none⟩
theorem zhQ_t0 : tableOf Try.prog 16 = some zhQ := by kernel_rfl
theorem zhQ_t : T0 16 = some zhQ := withKept_t rfl (withTrue_t rfl zhQ_t0)
theorem zhQ_runs {v0 v1 : Value} {h : Heap} {R : RP} {X : XP} (k : RunC Try.prog T0 zhQ_c ⟨[v0, v1, U, U, U, U, U, U, U, U, U, U, U, U, U, U, U, U, U, U, U, U, U, U, U, U, U, U, U, U], [], h, none⟩ (bodyQ Try.prog T0 [(4, some none)] R X)) :
 Runs Try.prog T0 (.fn 16) [v0, v1] h R X := Runs.fn zhQ_t rfl k
abbrev fn_zfQ : FuncId := 17
def zfQ_c : ACode :=
 (.seq (.region [
 o1 2 (.mov k0)]) (.seq (.seq (.region [
 o1 3 (.mov (tm 0)),
 o1 4 (.callV (.func 26) [(tm 3)])]) (.cond (tm 4)
 (.seq (.region [
 o1 2 (.mov k0)]) .ret)
 .skip)) (.seq (.region [
 o1 5 (.mov (tm 0)),
 o1 6 (.nilCheck (tm 5)),
 o1 7 (.fieldAddr 1 (tm 6)),
 o1 8 (.load none (tm 7)),
 o1 9 (.lenMap (tm 8)),
 o1 2 (.mov (tm 9))]) .ret)))
def zfQ : AFunc := ⟨10, [(2, none)], zfQ_c, none⟩
theorem zfQ_t0 : tableOf Try.prog 17 = some zfQ := by kernel_rfl
theorem zfQ_t : T0 17 = some zfQ := withKept_t rfl (withTrue_t rfl zfQ_t0)
theorem zfQ_runs {v0 : Value} {h : Heap} {R : RP} {X : XP} (k : RunC Try.prog T0 zfQ_c ⟨[v0, U, U, U, U, U, U, U, U, U], [], h, none⟩ (bodyQ Try.prog T0 [(2, none)] R X)) :
 Runs Try.prog T0 (.fn 17) [v0] h R X := Runs.fn zfQ_t rfl k
abbrev fn_zgQ : FuncId := 18
def zgQ_l0 : ACode :=
 (.seq (.region [
 o1 11 (.bin .lss (so (.binOp .lss 3 (tm 10) (tm 9) 3) 0) (tm 10) (tm 9))]) (.seq (.cond (tm 11)
 .skip
 (.exit 0)) (.seq (.block 1 (.seq (.region [
 o1 12 (.indexSl 37 (tm 8) (tm 10)),
 o1 13 (.load (some 37) (tm 12)),
 o1 4 (.alloc 70 (z32 ++ [(.int .u8 0), (.int .u8 0), (.int .u8 0), (.int .u8 0), (.int .u64 0)])),
 o3 (.store 37 (tm 4) (tm 13))]) (.region [
 o1 14 (.mov (tm 2)),
 o1 15 (.load (some 37) (tm 4)),
 o1 16 (.buildSlice 38 (z32 ++ [(.int .u8 0), (.int .u8 0), (.int .u8 0), (.int .u8 0), (.int .u64 0)]) 1 [(0, 37, (tm 15))]),
 o1 17 (.append 38 37 48 (z32 ++ [(.int .u8 0), (.int .u8 0), (.int .u8 0), (.int .u8 0), (.int .u64 0)]) false (tm 14) (tm 16)),
 o1 2 (.mov (tm 17))]))) (.region [
 o1 18 (.bin .add (so (.binOp .add 3 (tm 10) (.const (.int .i64 1)) 3) 3) (tm 10) (.const (.int .i64 1))),
 o1 10 (.mov (tm 18))]))))
def zgQ_c : ACode :=
 (.seq (.region [
 o1 2 (.mov (.const (.slice none 0 0)))]) (.seq (.seq (.region [
 o1 5 (.mov (tm 0)),
 o1 6 (.callV (.func 26) [(tm 5)])]) (.cond (tm 6)
 (.seq (.region [
 o1 2 (.mov (.const (.slice none 0 0)))]) .ret)
 .skip)) (.seq (.seq (.region [
 o1 7 (.mov (tm 0)),
 o1 8 (.callV (.func 34) [(tm 7)]),
 o1 9 (.lenSl (tm 8)),
 o1 10 (.mov k0)]) (.block 0 (.loop zgQ_l0))) (.seq (.region [
 o1 19 (.mov (tm 2)),
 o1 2 (.mov (tm 19))]) .ret))))
def zgQ : AFunc := ⟨20, [(2, none)], zgQ_c, none⟩
theorem zgQ_t0 : tableOf Try.prog 18 = some zgQ := by kernel_rfl
theorem zgQ_t : T0 18 = some zgQ := withKept_t rfl (withTrue_t rfl zgQ_t0)
theorem zgQ_runs {v0 : Value} {h : Heap} {R : RP} {X : XP} (k : RunC Try.prog T0 zgQ_c ⟨[v0, U, U, U, U, U, U, U, U, U, U, U, U, U, U, U, U, U, U, U], [], h, none⟩ (bodyQ Try.prog T0 [(2, none)] R X)) :
 Runs Try.prog T0 (.fn 18) [v0] h R X := Runs.fn zgQ_t rfl k
abbrev fn_ziQ : FuncId := 26
def ziQ_c : ACode :=
 (.seq (.region [
 o1 2 (.mov (.const (.bool false)))]) (.seq (.region [
 o1 3 (.mov (tm 0)),
 o1 4 (.eq .ptr false (so (.binOp .eql 24 (tm 3) (.const (.pointer none)) 24) 4) (tm 3) (.const (.pointer none))),
 o1 5 (.mov (tm 4)),
 o5 6 (.mov (tm 0)) 5,
 o5 7 (.nilCheck (tm 6)) 5,
 o5 8 (.fieldAddr 1 (tm 7)) 5,
 o5 9 (.load none (tm 8)) 5,
 o5 10 (.eq .map false (so (.binOp .eql 41 (tm 9) (.const (.map none)) 41) 4) (tm 9) (.const (.map none))) 5,
 o1 11 (.pick (tm 5) (.const (.bool true)) (tm 10)),
 o1 2 (.mov (tm 11))]) .ret))
def ziQ : AFunc := ⟨12, [(2, none)], ziQ_c, none⟩
theorem ziQ_t0 : tableOf Try.prog 26 = some ziQ := by kernel_rfl
theorem ziQ_t : T0 26 = some ziQ := withKept_t rfl (withTrue_t rfl ziQ_t0)
theorem ziQ_runs {v0 : Value} {h : Heap} {R : RP} {X : XP} (k : RunC Try.prog T0 ziQ_c ⟨[v0, U, U, U, U, U, U, U, U, U, U, U], [], h, none⟩ (bodyQ Try.prog T0 [(2, none)] R X)) :
 Runs Try.prog T0 (.fn 26) [v0] h R X := Runs.fn ziQ_t rfl k
end Go.Proofs.Ytagmnpeilgnbdaa.A

namespace Go.Proofs.Ytagmnpeilgnbdaa.A
open Go Go.Vm
set_option maxRecDepth 10000
set_option linter.unusedVariables false
section
variable {P : Program} {ts : List Value} {h : Heap} {x y : Operand} {t t' ty : TypeId} {A : Bool} {l : List Value} {tl : List LK}
instance (priority := high) xnotT [e : Ev ts x (.bool true)] : XOp P ts h (.raw (so (.unOp .not t x) ty)) (.bool false) h := (XOp.notB (A := true) : XOp P ts h (.raw (so (.unOp .not t x) ty)) (.bool (!true)) h)
instance (priority := high) xnotF [e : Ev ts x (.bool false)] : XOp P ts h (.raw (so (.unOp .not t x) ty)) (.bool true) h := (XOp.notB (A := false) : XOp P ts h (.raw (so (.unOp .not t x) ty)) (.bool (!false)) h)
instance (priority := high) xneqF [i : IsBoolT P t] [e : Ev ts x (.bool A)] [e' : Ev ts y (.bool A)] : XOp P ts h (.bin .neq (so (.binOp .neq t x y t') ty) x y) (.bool false) h := by
  have := (XOp.neqB : XOp P ts h (.bin .neq (so (.binOp .neq t x y t') ty) x y) (.bool (!(A == A))) h)
  rw [beq_self_eq_true] at this
  exact this
instance (priority := high) xneqS [i : TLeaves P t tl] [e : Ev ts x (.agg ⟨l⟩)] [e' : Ev ts y (.agg ⟨l⟩)] [g : GrL l] [k : KL tl l] : XOp P ts h (.bin .neq (so (.binOp .neq t x y t') ty) x y) (.bool false) h := by
  have := (XOp.neqAgg : XOp P ts h (.bin .neq (so (.binOp .neq t x y t') ty) x y) (.bool (!same l l)) h)
  rw [same_self] at this
  exact this
theorem xneqI0 {p q : Int} {O : Oper} (hp : p = q) [e1 : Ev ts x (.int .i64 p)] [e2 : Ev ts y (.int .i64 q)] : XOp P ts h (.bin .neq O x y) (.bool false) h := by
  have := (XOp.neqI : XOp P ts h (.bin .neq O x y) (.bool (!decide (p = q))) h)
  rw [decide_eq_true hp] at this
  exact this
theorem xgtr0 {p q : Int} {O : Oper} (hp : ¬ q < p) [e1 : Ev ts x (.int .i64 p)] [e2 : Ev ts y (.int .i64 q)] : XOp P ts h (.bin .gtr O x y) (.bool false) h := by
  have := (XOp.gtrI : XOp P ts h (.bin .gtr O x y) (.bool (decide (q < p))) h)
  rw [decide_eq_false hp] at this
  exact this
end
end Go.Proofs.Ytagmnpeilgnbdaa.A

namespace Go.Proofs.Ytagmnpeilgnbdaa.A
open Go Go.Vm
set_option maxRecDepth 10000
set_option linter.unusedVariables false
theorem l32 {l : List UInt8} (h : l.length = 32) : L32 (bcells l) := ⟨by simpa [bcells] using h⟩
end Go.Proofs.Ytagmnpeilgnbdaa.A

namespace Go.Proofs.Ytagmnpeilgnbdaa.A
open Go Go.Vm
set_option maxRecDepth 10000
set_option linter.unusedVariables false
structure Sg where
  k0 : UInt8
  k1 : UInt8
  k2 : UInt8
  k3 : UInt8
  hash : List UInt8
  sg : Int
abbrev Sg.cells (s : Sg) : List Value := .int .u8 s.k0.toNat :: .int .u8 s.k1.toNat :: .int .u8 s.k2.toNat :: .int .u8 s.k3.toNat :: (bcells s.hash ++ [.int .u64 s.sg])
structure Sg.ok (s : Sg) : Prop where
  h : s.hash.length = 32
  lo : 0 ≤ s.sg
  hi : s.sg < 18446744073709551616
end Go.Proofs.Ytagmnpeilgnbdaa.A

namespace Go.Proofs.Ytagmnpeilgnbdaa.A
open Go Go.Vm
set_option maxRecDepth 10000
set_option linter.unusedVariables false
def NoT (h : Heap) (w : Value) : Prop := w = .pointer none ∨ ∃ b, b < h.n ∧ w = .pointer (some ⟨b, 0, none⟩) ∧ h.get b = .cells [.int .i64 0, .map none] 0
theorem NoT.keep {h h' : Heap} {w : Value} (hw : NoT h w) (hf : Fr (fun _ => False) h h') : NoT h' w := by
  rcases hw with rfl | ⟨b, hb, rfl, hg⟩
  · exact .inl rfl
  · exact .inr ⟨b, hf.lt hb, rfl, by rw [hf.get b hb id, hg]⟩
section
variable {h : Heap} {w : Value} {s : Sg}
theorem none_ok (hw : NoT h w) : Runs Try.prog T0 (.fn fn_ziQ) [w] h (fun r h' => r = .bool true ∧ h' = h) (fun _ _ => False) := by
  rcases hw with rfl | ⟨b, hb, rfl, hg⟩
  · refine ziQ_runs ?_
    refine stp ?_
    exact ⟨rfl, rfl⟩
  · haveI : HGet h b _ := ⟨hg⟩
    refine ziQ_runs ?_
    refine stp ?_
    exact ⟨rfl, rfl⟩
theorem Len_none (hw : NoT h w) : Runs Try.prog T0 (.fn fn_zfQ) [w] h (fun r h' => r = .int .i64 0 ∧ h' = h) (fun _ _ => False) := by
  refine zfQ_runs ?_
  refine stp ?_
  refine O.call' (none_ok hw) (fun r h1 hr => ?_)
  obtain ⟨rfl, rfl⟩ := hr
  refine stp ?_
  exact ⟨rfl, rfl⟩
theorem Encode_none (hw : NoT h w) : Runs Try.prog T0 (.fn fn_zdQ) [w] h (fun r h' => r = .tuple ⟨[.slice none 0 0, .int .i64 1]⟩ ∧ h' = h) (fun _ _ => False) := by
  refine zdQ_runs ?_
  refine stp ?_
  refine O.call' (none_ok hw) (fun r h1 hr => ?_)
  obtain ⟨rfl, rfl⟩ := hr
  refine stp ?_
  exact ⟨rfl, rfl⟩
theorem List_none (hw : NoT h w) : Runs Try.prog T0 (.fn fn_zgQ) [w] h (fun r h' => r = .slice none 0 0 ∧ Fr (fun _ => False) h h') (fun _ _ => False) := by
  refine zgQ_runs ?_
  refine stp ?_
  refine O.call' (none_ok hw) (fun r h1 hr => ?_)
  obtain ⟨rfl, rfl⟩ := hr
  refine stp ?_
  exact ⟨rfl, Fr.refl⟩
theorem Add_none (hs : s.ok) (hw : NoT h w) : Runs Try.prog T0 (.fn fn_zcQ) [w, .agg ⟨s.cells⟩] h (fun r h' => r = .int .i64 1 ∧ Fr (fun _ => False) h h') (fun _ _ => False) := by
  haveI := l32 hs.h
  refine zcQ_runs ?_
  refine stp ?_
  refine O.call' (none_ok (hw.keep Fr.refl.push)) (fun r h1 hr => ?_)
  obtain ⟨rfl, rfl⟩ := hr
  refine stp ?_
  exact ⟨rfl, Fr.refl.push⟩
theorem Has_none (hs : s.ok) (hw : NoT h w) : Runs Try.prog T0 (.fn fn_zeQ) [w, .agg ⟨s.cells⟩] h (fun r h' => r = .bool false ∧ Fr (fun _ => False) h h') (fun _ _ => False) := by
  haveI := l32 hs.h
  refine zeQ_runs ?_
  refine stp ?_
  refine O.call' (none_ok (hw.keep Fr.refl.push)) (fun r h1 hr => ?_)
  obtain ⟨rfl, rfl⟩ := hr
  refine stp ?_
  exact ⟨rfl, Fr.refl.push⟩
theorem Who_none (hs : s.ok) (hw : NoT h w) : Runs Try.prog T0 (.fn fn_zhQ) [w, .agg ⟨bcells s.hash⟩] h (fun r h' => r = .slice none 0 0 ∧ Fr (fun _ => False) h h') (fun _ _ => False) := by
  haveI := l32 hs.h
  refine zhQ_runs ?_
  refine stp ?_
  refine O.call' (none_ok (hw.keep (by first | exact Fr.refl.push.push | exact Fr.refl.push))) (fun r h1 hr => ?_)
  obtain ⟨rfl, rfl⟩ := hr
  refine stp ?_
  exact ⟨rfl, Fr.refl.push.push⟩
set_option maxHeartbeats 16000000 in
theorem SigsNone_true (hs : s.ok) : Runs Try.prog T0 (.fn fn_zaQ) [.agg ⟨s.cells⟩] h (fun r h' => r = .bool true) (fun _ _ => False) := by
  haveI := l32 hs.h
  haveI qn : ∀ {ts : List Value} {h : Heap} {Q0 : Oper} {x z : Operand} {p : Int} [Ev ts x (.int .i64 p)] [Ev ts z (.int .i64 p)], XOp Try.prog ts h (.bin .neq Q0 x z) (.bool false) h := xneqI0 rfl
  haveI qg : ∀ {ts : List Value} {h : Heap} {Q0 : Oper} {x z : Operand} [Ev ts x (.int .i64 ((0 : Nat) : Int))] [Ev ts z (.int .i64 0)], XOp Try.prog ts h (.bin .gtr Q0 x z) (.bool false) h := xgtr0 (by simp)
  refine zaQ_runs ?_
  refine stp ?_
  have gA : (((h.push (.cells s.cells 0)).push (.cells [.int .i64 0, .map none] 0)).push (.cells [.pointer none, .pointer (some ⟨h.n + 1, 0, none⟩)] 0)).get h.n = .cells s.cells 0 := by rw [Heap.get_push, if_neg (by simp; omega), Heap.get_push, if_neg (by simp), Heap.get_push, if_pos (by simp)]
  have gB : (((h.push (.cells s.cells 0)).push (.cells [.int .i64 0, .map none] 0)).push (.cells [.pointer none, .pointer (some ⟨h.n + 1, 0, none⟩)] 0)).get (h.n + 1) = .cells [.int .i64 0, .map none] 0 := by rw [Heap.get_push, if_neg (by simp), Heap.get_push, if_pos (by simp)]
  have gC : (((h.push (.cells s.cells 0)).push (.cells [.int .i64 0, .map none] 0)).push (.cells [.pointer none, .pointer (some ⟨h.n + 1, 0, none⟩)] 0)).get (h.n + 2) = .cells [.pointer none, .pointer (some ⟨h.n + 1, 0, none⟩)] 0 := by rw [Heap.get_push, if_pos (by simp)]
  have n3 : (((h.push (.cells s.cells 0)).push (.cells [.int .i64 0, .map none] 0)).push (.cells [.pointer none, .pointer (some ⟨h.n + 1, 0, none⟩)] 0)).n = h.n + 3 := rfl
  simp only [Heap.n_push]
  generalize ((h.push (.cells s.cells 0)).push (.cells [.int .i64 0, .map none] 0)).push (.cells [.pointer none, .pointer (some ⟨h.n + 1, 0, none⟩)] 0) = h3 at *
  refine loop1 zaQ_l0_M 4 (fun m v4 hx => ∃ k : Nat, k ≤ 2 ∧ m = 2 - k ∧ v4 = .int .i64 k ∧ Fr (fun _ => False) h3 hx) ?_ 2 ⟨0, by omega, rfl, rfl, Fr.refl⟩
  rintro m v4 h' x2 x5 x6 x7 x11 x12 x13 x14 x15 x16 x17 x18 x19 x20 x21 x22 x23 x24 x25 x26 x27 x28 x29 x30 x31 x32 x33 x34 x35 x36 x37 x38 x39 x40 x41 x42 x43 x44 x45 x46 x47 x48 x49 x50 x51 x52 x53 x54 x55 x56 x57 x58 x59 x60 x61 x62 ⟨k, hk, rfl, rfl, hF⟩
  have nF := hF.n
  haveI : HGet h' h.n _ := hF.keep ⟨gA⟩ (by omega) id
  haveI : HGet h' (h.n + 2) _ := hF.keep ⟨gC⟩ (by omega) id
  rcases (show k = 0 ∨ k = 1 ∨ k = 2 by omega) with rfl | rfl | rfl
  · have hw : NoT h' (.pointer none) := .inl rfl
    refine stp ?_
    refine O.call' (Encode_none hw) (fun r h1 hr => ?_)
    obtain ⟨rfl, rfl⟩ := hr
    refine stp ?_
    refine O.call' (Add_none hs hw) (fun r h4 hr => ?_)
    obtain ⟨rfl, f4⟩ := hr
    haveI : HGet h4 h.n _ := (hF.trans' f4).keep ⟨gA⟩ (by omega) id
    refine stp ?_
    refine O.callT (Has_none hs (hw.keep f4)) (fun r h5 hr => ?_)
    obtain ⟨rfl, f5⟩ := hr
    have F5 := f4.trans' f5
    haveI : HGet h5 h.n _ := (hF.trans' F5).keep ⟨gA⟩ (by omega) id
    refine stp ?_
    refine O.callT (Who_none hs (hw.keep F5)) (fun r h6 hr => ?_)
    obtain ⟨rfl, f6⟩ := hr
    have F6 := F5.trans' f6
    refine stp ?_
    refine O.callT (Len_none (hw.keep F6)) (fun r h7 hr => ?_)
    obtain ⟨rfl, rfl⟩ := hr
    refine stp ?_
    refine O.callT (List_none (hw.keep F6)) (fun r h8 hr => ?_)
    obtain ⟨rfl, f8⟩ := hr
    have F8 := F6.trans' f8
    refine stp ?_
    exact loop1a 4 (2 - (0 + 1)) (by omega) ⟨0 + 1, by omega, rfl, rfl, hF.trans' F8⟩
  · have hw : NoT h' (.pointer (some ⟨h.n + 1, 0, none⟩)) := .inr ⟨_, by omega, rfl, (hF.get _ (by omega) id).trans gB⟩
    refine stp ?_
    refine O.call' (Encode_none hw) (fun r h1 hr => ?_)
    obtain ⟨rfl, rfl⟩ := hr
    refine stp ?_
    refine O.call' (Add_none hs hw) (fun r h4 hr => ?_)
    obtain ⟨rfl, f4⟩ := hr
    haveI : HGet h4 h.n _ := (hF.trans' f4).keep ⟨gA⟩ (by omega) id
    refine stp ?_
    refine O.callT (Has_none hs (hw.keep f4)) (fun r h5 hr => ?_)
    obtain ⟨rfl, f5⟩ := hr
    have F5 := f4.trans' f5
    haveI : HGet h5 h.n _ := (hF.trans' F5).keep ⟨gA⟩ (by omega) id
    refine stp ?_
    refine O.callT (Who_none hs (hw.keep F5)) (fun r h6 hr => ?_)
    obtain ⟨rfl, f6⟩ := hr
    have F6 := F5.trans' f6
    refine stp ?_
    refine O.callT (Len_none (hw.keep F6)) (fun r h7 hr => ?_)
    obtain ⟨rfl, rfl⟩ := hr
    refine stp ?_
    refine O.callT (List_none (hw.keep F6)) (fun r h8 hr => ?_)
    obtain ⟨rfl, f8⟩ := hr
    have F8 := F6.trans' f8
    refine stp ?_
    exact loop1a 4 (2 - (1 + 1)) (by omega) ⟨1 + 1, by omega, rfl, rfl, hF.trans' F8⟩
  · refine stp ?_
    refine O.call' zbQ_known (fun r h2 hr => ?_)
    obtain ⟨rfl, rfl⟩ := hr
    refine stp ?_
    rfl
end
end Go.Proofs.Ytagmnpeilgnbdaa.A

namespace Go.Proofs.Ytagmnpeilgnbdaa.A
open Go Go.Vm
set_option maxRecDepth 10000
set_option linter.unusedVariables false
theorem u8nat {n : Nat} (h : n < 256) : (UInt8.ofNat n).toNat = n := by
  rw [UInt8.toNat_ofNat']
  exact Nat.mod_eq_of_lt h
end Go.Proofs.Ytagmnpeilgnbdaa.A

namespace Go.Proofs.Ytagmnpeilgnbdaa.A
open Go Go.Vm
set_option maxRecDepth 10000
set_option linter.unusedVariables false
theorem fits_bytes {h : Heap} {m : Nat} {te : TypeId} {c : List Value} {len : Nat} (hu : Try.prog.underlying te = some (.int .u8)) (hs : Try.prog.cellsOf te = 1) (hl : c.length = len * Try.prog.cellsOf te) (hall : ∀ i, i < len → Fits Try.prog h (m + 1) te ((c.drop (i * Try.prog.cellsOf te)).take (Try.prog.cellsOf te))) : ∃ bs : List UInt8, c = bcells bs ∧ bs.length = len := by
  rw [hs, Nat.mul_one] at hl
  induction c generalizing len with
  | nil => exact ⟨[], rfl, by simpa using hl⟩
  | cons v c ih =>
    cases len with
    | zero => simp at hl
    | succ len =>
      have h0 := hall 0 (by omega)
      rw [hs] at h0
      unfold Fits at h0
      rw [hu] at h0
      simp only [Nat.zero_mul, List.drop_zero, List.take_succ_cons, List.take_zero] at h0
      obtain ⟨x, hx, hwf⟩ := h0
      injection hx with hx _
      obtain ⟨bs, rfl, hb⟩ := ih (len := len) (by simpa using hl) fun i hi => by
        have := hall (i + 1) (by omega)
        rw [hs] at this ⊢
        simpa using this
      have hr : 0 ≤ x ∧ x ≤ 255 := by
        simp [Lit.wf, IntKind.min, IntKind.max, IntKind.signed, IntKind.bits] at hwf
        omega
      refine ⟨UInt8.ofNat x.toNat :: bs, ?_, by simp [hb]⟩
      rw [hx]
      show Value.int .u8 x :: bcells bs = Value.int .u8 ((UInt8.ofNat x.toNat).toNat : Nat) :: bcells bs
      rw [u8nat (by omega)]
      congr 2
      omega
end Go.Proofs.Ytagmnpeilgnbdaa.A

namespace Go.Proofs.Ytagmnpeilgnbdaa.A
open Go Go.Vm
set_option maxRecDepth 10000
set_option linter.unusedVariables false
theorem fits_flat32 {h : Heap} {m : Nat} {t te : TypeId} {c : List Value} (ht : Try.prog.underlying t = some (.array 32 te)) (hu : Try.prog.underlying te = some (.int .u8)) (hs : Try.prog.cellsOf te = 1) (hs32 : Try.prog.cellsOf t = 32) (hv : Fits Try.prog h (m + 2) t c) : ∃ bs : List UInt8, c = bcells bs ∧ bs.length = 32 := by
  unfold Fits at hv
  rw [ht] at hv
  exact fits_bytes hu hs (by rw [hv.1, hs32, hs]) hv.2
end Go.Proofs.Ytagmnpeilgnbdaa.A

namespace Go.Proofs.Ytagmnpeilgnbdaa.A
open Go Go.Vm
set_option maxRecDepth 10000
set_option linter.unusedVariables false
theorem four {l : List UInt8} (h : l.length = 4) : ∃ a b c d, l = [a, b, c, d] := by
  match l, h with
  | [a, b, c, d], _ => exact ⟨a, b, c, d, rfl⟩
end Go.Proofs.Ytagmnpeilgnbdaa.A

namespace Go.Proofs.Ytagmnpeilgnbdaa.A
open Go Go.Vm
set_option maxRecDepth 100000
set_option linter.unusedVariables false
theorem wf_u64 {x : Int} (h : (Lit.int .u64 x).wf = true) : 0 ≤ x ∧ x ≤ 18446744073709551615 := by
  simp [Lit.wf, IntKind.min, IntKind.max, IntKind.signed, IntKind.bits] at h
  omega
theorem sig_fit {h : Heap} {m : Nat} {te tk th tb tu : TypeId} {c : List Value} (f0 : fieldAt Try.prog te 0 = some (0, tk)) (f1 : fieldAt Try.prog te 1 = some (4, th)) (f2 : fieldAt Try.prog te 2 = some (36, tu)) (uk : Try.prog.underlying tk = some (.array 4 tb)) (uh : Try.prog.underlying th = some (.array 32 tb)) (ub : Try.prog.underlying tb = some (.int .u8)) (uu : Try.prog.underlying tu = some (.int .u64))
    (ce : Try.prog.cellsOf te = 37) (ck : Try.prog.cellsOf tk = 4) (ch : Try.prog.cellsOf th = 32) (cb : Try.prog.cellsOf tb = 1) (cu : Try.prog.cellsOf tu = 1) (hv : Fits Try.prog h (m + 3) te c) : ∃ s : Sg, s.ok ∧ c = s.cells := by
  have hlen := hv.len f0
  rw [ce] at hlen
  have hk := hv.field f0
  rw [ck] at hk
  have hb : ∃ bs : List UInt8, (c.drop 0).take 4 = bcells bs ∧ bs.length = 4 := by
    unfold Fits at hk
    rw [uk] at hk
    exact fits_bytes ub cb (by rw [hk.1, ck, cb]) hk.2
  obtain ⟨bs, hb1, hb2⟩ := hb
  obtain ⟨a0, a1, a2, a3, rfl⟩ := four hb2
  obtain ⟨hs, k1, k1l⟩ := fits_flat32 (m := m) uh ub cb ch (hv.field f1)
  rw [ch] at k1
  obtain ⟨x, k2, w2⟩ := (hv.field f2).int uu
  rw [cu] at k2
  have hx := wf_u64 w2
  refine ⟨⟨a0, a1, a2, a3, hs, x⟩, ⟨k1l, hx.1, by show x < _; omega⟩, ?_⟩
  rw [← List.drop_zero (l := c), vsplit c 0 4, hb1, vsplit c (0 + 4) 32, k1, vsplit c (0 + 4 + 32) 1, k2, show c.drop (0 + 4 + 32 + 1) = [] from List.drop_eq_nil_of_le (by omega), List.append_nil]
  rfl
theorem sigV_fit {h : Heap} {v : Value} (hv : FitsV Try.prog h 8 38 v) : ∃ s : Sg, s.ok ∧ v = .agg ⟨s.cells⟩ := by
  have f0 : fieldAt Try.prog 38 0 = some (0, 33) := by kernel_rfl
  obtain ⟨cs, rfl, hc⟩ := FitsV.agg hv f0
  obtain ⟨s, h1, h2⟩ := sig_fit (m := 5) f0 (th := 35) (tb := 5) (tu := 36) (by kernel_rfl) (by kernel_rfl) (by kernel_rfl) (by kernel_rfl) (by kernel_rfl) (by kernel_rfl) (by kernel_rfl) (by kernel_rfl) (by kernel_rfl) (by kernel_rfl) (by kernel_rfl) hc
  exact ⟨s, h1, by rw [h2]⟩
theorem SigsNone_run (h : Heap) (vs : List Value) (hf : FitsAll Try.prog h 8 [38] vs) : Runs Try.prog T0 (.fn fn_zaQ) vs h (fun r _ => r = .bool true) (fun _ _ => False) := by
  obtain ⟨v1, _, rfl, h1, hf⟩ := hf.cons
  obtain rfl := hf.nil
  obtain ⟨s, hs, rfl⟩ := sigV_fit h1
  exact SigsNone_true hs
end Go.Proofs.Ytagmnpeilgnbdaa.A

namespace Go.Proofs.Ytagmnpeilgnbdaa.A
open Go Go.Vm
set_option maxRecDepth 100000
theorem ran_8 : allTrue (xcall Try.prog (tableOf Try.prog) 1000 60 (.fn 8) [] Heap.init) = true := by kernel_rfl
theorem has_8 : (tableOf Try.prog 8).isSome = true := by kernel_rfl
theorem known : KnownAll Try.prog prims := ⟨⟨Option.isSome_iff_exists.1 has_8, fun w => known_calls (Checked.mixed Try.checked) tableOf_ok ran_8 w⟩, trivial⟩
theorem T0_ok : TableOK Try.prog T0 := withKept_ok (withTrue_ok known) fun k hk => by simp at hk
end Go.Proofs.Ytagmnpeilgnbdaa.A
