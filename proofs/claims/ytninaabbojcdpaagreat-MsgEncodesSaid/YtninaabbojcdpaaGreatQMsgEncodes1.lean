/- Contracts of functions, over the machine. -/
import Derived.Test.YtninaabbojcdpaaGreatRows
import Derived.Test.YtninaabbojcdpaaGreatVJ
namespace Go.Vm
abbrev U : Value := undef
abbrev tm (n : Nat) : Operand := .tmp n
abbrev k0 : Operand := .const (.int .i64 0)
abbrev o1 (d : Nat) (x : AOp) : AOper := ⟨some d, x, none, [], false⟩
abbrev o2 (d : Nat) (x : AOp) : AOper := ⟨some d, x, none, [], true⟩
abbrev o3 (x : AOp) : AOper := ⟨none, x, none, [], false⟩
abbrev o4 (d : Nat) (x : AOp) (t : Nat) : AOper := ⟨some d, x, some (t, true), [], false⟩
abbrev o5 (d : Nat) (x : AOp) (t : Nat) : AOper := ⟨some d, x, some (t, false), [], false⟩
end Go.Vm
noncomputable section
set_option maxRecDepth 100000
set_option linter.unusedVariables false
namespace Go.Proofs.YtninaabbojcdpaaGreat.A
open Go Go.Vm
instance : IsIface Tryz.prog 20 := ⟨by kernel_rfl⟩
instance : IsIface Tryz.prog 135 := ⟨by kernel_rfl⟩
instance : IsIface Tryz.prog 136 := ⟨by kernel_rfl⟩
abbrev prims : List FuncId := [9]
abbrev kepts : List FuncId := []
def T0 : Table := withKept (withTrue Tryz.prog prims) kepts
theorem zibQ_known {h : Heap} : Runs Tryz.prog T0 (.fn 9) [] h (fun r h' => r = .bool true ∧ h' = h) (fun _ _ => False) := known_runs rfl
instance : IsBoolT Tryz.prog 4 := ⟨by kernel_rfl⟩
instance : TLeaves Tryz.prog 7 (.i .i64 :: (.i .i64 :: (.b :: (.i .u8 :: [])))) := ⟨by kernel_rfl, by kernel_rfl, by kernel_rfl⟩
instance : TLeaves Tryz.prog 8 (.i .i64 :: (.i .i64 :: (.b :: (.i .u8 :: [])))) := ⟨by kernel_rfl, by kernel_rfl, by kernel_rfl⟩
instance : TLeaves Tryz.prog 25 (.i .i64 :: (.i .i64 :: [])) := ⟨by kernel_rfl, by kernel_rfl, by kernel_rfl⟩
instance : TLeaves Tryz.prog 26 (.i .i64 :: (.i .i64 :: [])) := ⟨by kernel_rfl, by kernel_rfl, by kernel_rfl⟩
instance : TLeaves Tryz.prog 27 (u8s 32) := ⟨by kernel_rfl, by kernel_rfl, by kernel_rfl⟩
instance : TLeaves Tryz.prog 28 (u8s 32) := ⟨by kernel_rfl, by kernel_rfl, by kernel_rfl⟩
instance : TLeaves Tryz.prog 29 (.s :: (.i .i64 :: (.i .i64 :: (u8s 32 ++ (u8s 32 ++ (u8s 32 ++ (u8s 32))))))) := ⟨by kernel_rfl, by kernel_rfl, by kernel_rfl⟩
instance : TLeaves Tryz.prog 30 (.s :: (.i .i64 :: (.i .i64 :: (u8s 32 ++ (u8s 32 ++ (u8s 32 ++ (u8s 32))))))) := ⟨by kernel_rfl, by kernel_rfl, by kernel_rfl⟩
instance : TLeaves Tryz.prog 42 (.i .i64 :: (.i .i64 :: [])) := ⟨by kernel_rfl, by kernel_rfl, by kernel_rfl⟩
instance : TLeaves Tryz.prog 43 (.i .i64 :: (.i .i64 :: [])) := ⟨by kernel_rfl, by kernel_rfl, by kernel_rfl⟩
instance : TLeaves Tryz.prog 65 (.i .i64 :: (.i .i64 :: [])) := ⟨by kernel_rfl, by kernel_rfl, by kernel_rfl⟩
instance : TLeaves Tryz.prog 66 (.i .i64 :: (.i .i64 :: [])) := ⟨by kernel_rfl, by kernel_rfl, by kernel_rfl⟩
instance : TLeaves Tryz.prog 129 (u8s 4) := ⟨by kernel_rfl, by kernel_rfl, by kernel_rfl⟩
instance : TLeaves Tryz.prog 130 (u8s 4) := ⟨by kernel_rfl, by kernel_rfl, by kernel_rfl⟩
instance : TLeaves Tryz.prog 131 (u8s 4 ++ (.i .i64 :: [])) := ⟨by kernel_rfl, by kernel_rfl, by kernel_rfl⟩
instance : TLeaves Tryz.prog 132 (u8s 4 ++ (.i .i64 :: [])) := ⟨by kernel_rfl, by kernel_rfl, by kernel_rfl⟩
instance : TLeaves Tryz.prog 133 (.i .i64 :: (.i .u64 :: [])) := ⟨by kernel_rfl, by kernel_rfl, by kernel_rfl⟩
instance : TLeaves Tryz.prog 134 (.i .i64 :: (.i .u64 :: [])) := ⟨by kernel_rfl, by kernel_rfl, by kernel_rfl⟩
instance : TLeaves Tryz.prog 161 (.i .i64 :: (.i .i64 :: [])) := ⟨by kernel_rfl, by kernel_rfl, by kernel_rfl⟩
instance : TLeaves Tryz.prog 162 (.i .i64 :: (.i .i64 :: [])) := ⟨by kernel_rfl, by kernel_rfl, by kernel_rfl⟩
instance : TLeaves Tryz.prog 168 (.i .i64 :: (.i .i64 :: [])) := ⟨by kernel_rfl, by kernel_rfl, by kernel_rfl⟩
instance : TLeaves Tryz.prog 176 (u8s 4 ++ (.b :: (.i .i64 :: (.i .i64 :: [])))) := ⟨by kernel_rfl, by kernel_rfl, by kernel_rfl⟩
instance : TLeaves Tryz.prog 177 (u8s 4 ++ (.b :: (.i .i64 :: (.i .i64 :: [])))) := ⟨by kernel_rfl, by kernel_rfl, by kernel_rfl⟩
instance : TLeaves Tryz.prog 181 (u8s 4 ++ (u8s 4)) := ⟨by kernel_rfl, by kernel_rfl, by kernel_rfl⟩
instance : TLeaves Tryz.prog 185 (u8s 4 ++ (u8s 4 ++ (.i .u8 :: []))) := ⟨by kernel_rfl, by kernel_rfl, by kernel_rfl⟩
abbrev fn_zhbQ : FuncId := 6
def zhbQ_c : ACode :=
 (.seq (.region [
 o1 3 (.box 26 (tm 0)),
 o1 5 (.box 36 (tm 2)),
 o1 6 (.mov (.const (.bool false)))]) (.seq (.seq (.region [
 o1 17 (.load (some 166) (tm 5)),
 o1 18 (.callV (.func 19) [(tm 17)])]) (.cond (tm 18)
 (.seq (.region [
 o1 19 (.callV (.func 9) []),
 o1 6 (.mov (tm 19))]) .ret)
 .skip)) (.seq (.region [
 o1 20 (.load (some 166) (tm 5)),
 o1 21 (.callV (.func 20) [(tm 20)]),
 o1 7 (.alloc 36 ((.string ⟨⟨[]⟩⟩) :: ((.int .i64 0) :: ((.int .i64 0) :: (z32 ++ (z32 ++ (z32 ++ (z32 ++ ((.int .i64 0) :: (z32 ++ [(.slice none 0 0), (.slice none 0 0)])))))))))),
 o3 (.store 166 (tm 7) (tm 21))]) (.seq (.region [
 o1 23 (.load (some 2) (tm 3)),
 o1 24 (.callV (.func 21) [(tm 23)]),
 o1 22 (.mov (tm 24)),
 o1 25 (.extract 0 (tm 22)),
 o1 26 (.extract 1 (tm 22)),
 o1 8 (.mov (tm 25)),
 o1 9 (.mov (tm 26))]) (.seq (.region [
 o1 28 (.load (some 2) (tm 3)),
 o1 29 (.callV (.func 22) [(tm 28)]),
 o1 27 (.mov (tm 29)),
 o1 30 (.extract 0 (tm 27)),
 o1 31 (.extract 1 (tm 27)),
 o1 10 (.mov (tm 30)),
 o1 11 (.mov (tm 31))]) (.seq (.region [
 o1 33 (.mov (tm 1)),
 o1 34 (.load (some 166) (tm 7)),
 o1 35 (.build ((.int .i64 0) :: ((.string ⟨⟨[]⟩⟩) :: ((.int .i64 0) :: ((.int .i64 0) :: (z32 ++ (z32 ++ (z32 ++ (z32 ++ ((.int .i64 0) :: (z32 ++ [(.slice none 0 0), (.slice none 0 0)])))))))))) [(0, 1, (tm 33)), (1, 166, (tm 34))]),
 o1 36 (.callV (.func 23) [(tm 35)]),
 o1 32 (.mov (tm 36)),
 o1 37 (.extract 0 (tm 32)),
 o1 38 (.extract 1 (tm 32)),
 o1 12 (.mov (tm 37)),
 o1 13 (.mov (tm 38))]) (.seq (.region [
 o1 40 (.mov (tm 1)),
 o1 41 (.load (some 166) (tm 5)),
 o1 42 (.build ((.int .i64 0) :: ((.string ⟨⟨[]⟩⟩) :: ((.int .i64 0) :: ((.int .i64 0) :: (z32 ++ (z32 ++ (z32 ++ (z32 ++ ((.int .i64 0) :: (z32 ++ [(.slice none 0 0), (.slice none 0 0)])))))))))) [(0, 1, (tm 40)), (1, 166, (tm 41))]),
 o1 43 (.callV (.func 24) [(tm 42)]),
 o1 39 (.mov (tm 43)),
 o1 44 (.extract 0 (tm 39)),
 o1 45 (.extract 1 (tm 39)),
 o1 14 (.mov (tm 44)),
 o1 15 (.mov (tm 45))]) (.seq (.region [
 o1 46 (.mov (tm 8)),
 o1 47 (.mov (tm 10)),
 o1 48 (.callV (.func 25) [(tm 46), (tm 47)]),
 o1 49 (.mov (tm 48)),
 o4 50 (.mov (tm 9)) 49,
 o4 51 (.mov (tm 11)) 49,
 o4 52 (.bin .eql (so (.binOp .eql 41 (tm 50) (tm 51) 41) 4) (tm 50) (tm 51)) 49,
 o1 53 (.pick (tm 49) (tm 52) (.const (.bool false))),
 o1 54 (.mov (tm 53)),
 o4 55 (.mov (tm 12)) 54,
 o4 56 (.mov (tm 14)) 54,
 o4 57 (.callV (.func 25) [(tm 55), (tm 56)]) 54,
 o1 58 (.pick (tm 54) (tm 57) (.const (.bool false))),
 o1 59 (.mov (tm 58)),
 o4 60 (.mov (tm 13)) 59,
 o4 61 (.mov (tm 15)) 59,
 o4 62 (.bin .eql (so (.binOp .eql 41 (tm 60) (tm 61) 41) 4) (tm 60) (tm 61)) 59,
 o1 63 (.pick (tm 59) (tm 62) (.const (.bool false))),
 o1 64 (.mov (tm 63)),
 o4 65 (.load (some 166) (tm 7)) 64,
 o4 66 (.load (some 166) (tm 5)) 64,
 o4 67 (.callV (.func 26) [(tm 65), (tm 66)]) 64,
 o1 68 (.pick (tm 64) (tm 67) (.const (.bool false))),
 o1 16 (.mov (tm 68))]) (.seq (.region [
 o1 69 (.mov (tm 8)),
 o1 70 (.callV (.func 27) [(tm 69)])]) (.seq (.region [
 o1 71 (.mov (tm 12)),
 o1 72 (.callV (.func 27) [(tm 71)])]) (.seq (.region [
 o1 73 (.mov (tm 16)),
 o1 74 (.mov (tm 73)),
 o4 75 (.callV (.func 9) []) 74,
 o1 76 (.pick (tm 74) (tm 75) (.const (.bool false))),
 o1 6 (.mov (tm 76))]) .ret)))))))))))
def zhbQ : AFunc := ⟨77, [(6, none)], zhbQ_c, none⟩
theorem zhbQ_t0 : tableOf Tryz.prog 6 = some zhbQ := by kernel_rfl
theorem zhbQ_t : T0 6 = some zhbQ := withKept_t rfl (withTrue_t rfl zhbQ_t0)
theorem zhbQ_runs {v0 v1 v2 : Value} {h : Heap} {R : RP} {X : XP} (k : RunC Tryz.prog T0 zhbQ_c ⟨[v0, v1, v2, U, U, U, U, U, U, U, U, U, U, U, U, U, U, U, U, U, U, U, U, U, U, U, U, U, U, U, U, U, U, U, U, U, U, U, U, U, U, U, U, U, U, U, U, U, U, U, U, U, U, U, U, U, U, U, U, U, U, U, U, U, U, U, U, U, U, U, U, U, U, U, U, U, U], [], h, none⟩ (bodyQ Tryz.prog T0 [(6, none)] R X)) :
 Runs Tryz.prog T0 (.fn 6) [v0, v1, v2] h R X := Runs.fn zhbQ_t rfl k
abbrev fn_zabQ : FuncId := 19
def zabQ_c : ACode :=
 (.seq (.region [
 o1 1 (.box 36 (tm 0)),
 o1 2 (.mov (.const (.bool false)))]) (.seq (.region [
 o1 3 (.fieldAddr 165 (tm 1)),
 o1 4 (.load none (tm 3)),
 o1 5 (.lenSl (tm 4)),
 o1 6 (.bin .gtr (so (.binOp .gtr 3 (tm 5) (.const (.int .i64 70)) 3) 4) (tm 5) (.const (.int .i64 70))),
 o1 7 (.mov (tm 6)),
 o5 8 (.fieldAddr 131 (tm 1)) 7,
 o5 9 (.fieldAddr 33 (tm 8)) 7,
 o5 10 (.load none (tm 9)) 7,
 o5 11 (.lenSl (tm 10)) 7,
 o5 12 (.bin .gtr (so (.binOp .gtr 3 (tm 11) (.const (.int .i64 70)) 3) 4) (tm 11) (.const (.int .i64 70))) 7,
 o1 13 (.pick (tm 7) (.const (.bool true)) (tm 12)),
 o1 14 (.mov (tm 13)),
 o5 15 (.fieldAddr 0 (tm 1)) 14,
 o5 16 (.fieldAddr 0 (tm 15)) 14,
 o5 17 (.load none (tm 16)) 14,
 o5 18 (.lenStr (tm 17)) 14,
 o5 19 (.bin .gtr (so (.binOp .gtr 3 (tm 18) (.const (.int .i64 60)) 3) 4) (tm 18) (.const (.int .i64 60))) 14,
 o1 20 (.pick (tm 14) (.const (.bool true)) (tm 19)),
 o1 2 (.mov (tm 20))]) .ret))
def zabQ : AFunc := ⟨21, [(2, none)], zabQ_c, none⟩
theorem zabQ_t0 : tableOf Tryz.prog 19 = some zabQ := by kernel_rfl
theorem zabQ_t : T0 19 = some zabQ := withKept_t rfl (withTrue_t rfl zabQ_t0)
theorem zabQ_runs {v0 : Value} {h : Heap} {R : RP} {X : XP} (k : RunC Tryz.prog T0 zabQ_c ⟨[v0, U, U, U, U, U, U, U, U, U, U, U, U, U, U, U, U, U, U, U, U], [], h, none⟩ (bodyQ Tryz.prog T0 [(2, none)] R X)) :
 Runs Tryz.prog T0 (.fn 19) [v0] h R X := Runs.fn zabQ_t rfl k
abbrev fn_zxQ : FuncId := 20
def zxQ_c : ACode :=
 (.seq (.region [
 o1 1 (.box 36 (tm 0)),
 o1 2 (.alloc 36 ((.string ⟨⟨[]⟩⟩) :: ((.int .i64 0) :: ((.int .i64 0) :: (z32 ++ (z32 ++ (z32 ++ (z32 ++ ((.int .i64 0) :: (z32 ++ [(.slice none 0 0), (.slice none 0 0)]))))))))))]) (.seq (.region [
 o1 3 (.fieldAddr 131 (tm 1)),
 o1 4 (.load (some 34) (tm 3)),
 o1 5 (.callV (.func 52) [(tm 4)]),
 o1 6 (.fieldAddr 131 (tm 1)),
 o3 (.store 34 (tm 6) (tm 5))]) (.seq (.region [
 o1 7 (.fieldAddr 165 (tm 1)),
 o1 8 (.load none (tm 7)),
 o1 9 (.callV (.func 53) [(tm 8)]),
 o1 10 (.fieldAddr 165 (tm 1)),
 o3 (.store 1 (tm 10) (tm 9))]) (.seq (.region [
 o1 11 (.load (some 166) (tm 1)),
 o3 (.store 166 (tm 2) (tm 11))]) .ret))))
def zxQ : AFunc := ⟨12, [(2, some (some 166))], zxQ_c, none⟩
theorem zxQ_t0 : tableOf Tryz.prog 20 = some zxQ := by kernel_rfl
theorem zxQ_t : T0 20 = some zxQ := withKept_t rfl (withTrue_t rfl zxQ_t0)
theorem zxQ_runs {v0 : Value} {h : Heap} {R : RP} {X : XP} (k : RunC Tryz.prog T0 zxQ_c ⟨[v0, U, U, U, U, U, U, U, U, U, U, U], [], h, none⟩ (bodyQ Tryz.prog T0 [(2, some (some 166))] R X)) :
 Runs Tryz.prog T0 (.fn 20) [v0] h R X := Runs.fn zxQ_t rfl k
abbrev fn_zlcQ : FuncId := 21
def zlcQ_c : ACode :=
 (.seq (.region [
 o1 1 (.box 26 (tm 0)),
 o1 2 (.mov (.const (.slice none 0 0))),
 o1 3 (.mov k0)]) (.seq (.region [
 o1 4 (.load (some 2) (tm 1)),
 o1 5 (.mkIface 26 (tm 4)),
 o1 6 (.callV (.func 54) [(tm 5)]),
 o1 7 (.extract 0 (tm 6)),
 o1 8 (.extract 1 (tm 6)),
 o1 2 (.mov (tm 7)),
 o1 3 (.mov (tm 8))]) .ret))
def zlcQ : AFunc := ⟨9, [(2, none), (3, none)], zlcQ_c, none⟩
theorem zlcQ_t0 : tableOf Tryz.prog 21 = some zlcQ := by kernel_rfl
theorem zlcQ_t : T0 21 = some zlcQ := withKept_t rfl (withTrue_t rfl zlcQ_t0)
theorem zlcQ_runs {v0 : Value} {h : Heap} {R : RP} {X : XP} (k : RunC Tryz.prog T0 zlcQ_c ⟨[v0, U, U, U, U, U, U, U, U], [], h, none⟩ (bodyQ Tryz.prog T0 [(2, none), (3, none)] R X)) :
 Runs Tryz.prog T0 (.fn 21) [v0] h R X := Runs.fn zlcQ_t rfl k
abbrev fn_zhcQ : FuncId := 22
def zhcQ_c : ACode :=
 (.seq (.region [
 o1 1 (.box 26 (tm 0)),
 o1 2 (.mov (.const (.slice none 0 0))),
 o1 3 (.mov k0)]) (.seq (.seq (.region [
 o1 6 (.fieldAddr 0 (tm 1)),
 o1 7 (.load none (tm 6)),
 o1 8 (.callV (.func 45) [(tm 7)]),
 o1 9 (.raw (so (.unOp .not 4 (tm 8)) 4)),
 o1 10 (.mov (tm 9)),
 o5 11 (.fieldAddr 1 (tm 1)) 10,
 o5 12 (.load none (tm 11)) 10,
 o5 13 (.callV (.func 46) [(tm 12)]) 10,
 o5 14 (.raw (so (.unOp .not 4 (tm 13)) 4)) 10,
 o1 15 (.pick (tm 10) (.const (.bool true)) (tm 14))]) (.cond (tm 15)
 (.seq (.region [
 o1 2 (.mov (.const (.slice none 0 0))),
 o1 3 (.mov (.const (.int .i64 3)))]) .ret)
 .skip)) (.seq (.region [
 o1 17 (.callV (.func 55) [(.const (.int .i64 65536))]),
 o1 16 (.mov (tm 17)),
 o1 18 (.extract 0 (tm 16)),
 o1 19 (.extract 1 (tm 16)),
 o1 4 (.mov (tm 18)),
 o1 5 (.mov (tm 19))]) (.seq (.region [
 o1 20 (.mov (tm 4)),
 o1 21 (.callV (.func 56) [(tm 20), (.const (.int .i64 1))])]) (.seq (.region [
 o1 22 (.mov (tm 4)),
 o1 23 (.fieldAddr 0 (tm 1)),
 o1 24 (.load none (tm 23)),
 o1 25 (.callV (.func 56) [(tm 22), (tm 24)])]) (.seq (.region [
 o1 26 (.mov (tm 4)),
 o1 27 (.fieldAddr 1 (tm 1)),
 o1 28 (.load none (tm 27)),
 o1 29 (.callV (.func 56) [(tm 26), (tm 28)])]) (.seq (.region [
 o1 30 (.mov (tm 4)),
 o1 31 (.callV (.func 57) [(tm 30)]),
 o1 32 (.extract 0 (tm 31)),
 o1 33 (.extract 1 (tm 31)),
 o1 2 (.mov (tm 32)),
 o1 3 (.mov (tm 33))]) .ret)))))))
def zhcQ : AFunc := ⟨34, [(2, none), (3, none)], zhcQ_c, none⟩
theorem zhcQ_t0 : tableOf Tryz.prog 22 = some zhcQ := by kernel_rfl
theorem zhcQ_t : T0 22 = some zhcQ := withKept_t rfl (withTrue_t rfl zhcQ_t0)
theorem zhcQ_runs {v0 : Value} {h : Heap} {R : RP} {X : XP} (k : RunC Tryz.prog T0 zhcQ_c ⟨[v0, U, U, U, U, U, U, U, U, U, U, U, U, U, U, U, U, U, U, U, U, U, U, U, U, U, U, U, U, U, U, U, U, U], [], h, none⟩ (bodyQ Tryz.prog T0 [(2, none), (3, none)] R X)) :
 Runs Tryz.prog T0 (.fn 22) [v0] h R X := Runs.fn zhcQ_t rfl k
abbrev fn_zkcQ : FuncId := 23
def zkcQ_c : ACode :=
 (.seq (.region [
 o1 1 (.box 38 (tm 0)),
 o1 2 (.mov (.const (.slice none 0 0))),
 o1 3 (.mov k0)]) (.seq (.region [
 o1 4 (.load (some 167) (tm 1)),
 o1 5 (.mkIface 38 (tm 4)),
 o1 6 (.callV (.func 54) [(tm 5)]),
 o1 7 (.extract 0 (tm 6)),
 o1 8 (.extract 1 (tm 6)),
 o1 2 (.mov (tm 7)),
 o1 3 (.mov (tm 8))]) .ret))
def zkcQ : AFunc := ⟨9, [(2, none), (3, none)], zkcQ_c, none⟩
theorem zkcQ_t0 : tableOf Tryz.prog 23 = some zkcQ := by kernel_rfl
theorem zkcQ_t : T0 23 = some zkcQ := withKept_t rfl (withTrue_t rfl zkcQ_t0)
theorem zkcQ_runs {v0 : Value} {h : Heap} {R : RP} {X : XP} (k : RunC Tryz.prog T0 zkcQ_c ⟨[v0, U, U, U, U, U, U, U, U], [], h, none⟩ (bodyQ Tryz.prog T0 [(2, none), (3, none)] R X)) :
 Runs Tryz.prog T0 (.fn 23) [v0] h R X := Runs.fn zkcQ_t rfl k
abbrev fn_zgcQ : FuncId := 24
def zgcQ_c : ACode :=
 (.seq (.region [
 o1 1 (.box 38 (tm 0)),
 o1 2 (.mov (.const (.slice none 0 0))),
 o1 3 (.mov k0)]) (.seq (.seq (.region [
 o1 8 (.fieldAddr 0 (tm 1)),
 o1 9 (.load none (tm 8)),
 o1 10 (.callV (.func 45) [(tm 9)]),
 o1 11 (.raw (so (.unOp .not 4 (tm 10)) 4))]) (.cond (tm 11)
 (.seq (.region [
 o1 2 (.mov (.const (.slice none 0 0))),
 o1 3 (.mov (.const (.int .i64 3)))]) .ret)
 .skip)) (.seq (.region [
 o1 13 (.fieldAddr 1 (tm 1)),
 o1 14 (.load (some 166) (tm 13)),
 o1 15 (.callV (.func 58) [(tm 14)]),
 o1 12 (.mov (tm 15)),
 o1 16 (.extract 0 (tm 12)),
 o1 17 (.extract 1 (tm 12)),
 o1 4 (.mov (tm 16)),
 o1 5 (.mov (tm 17))]) (.seq (.seq (.region [
 o1 18 (.mov (tm 5)),
 o1 19 (.bin .neq (so (.binOp .neq 41 (tm 18) k0 41) 4) (tm 18) k0)]) (.cond (tm 19)
 (.seq (.region [
 o1 20 (.mov (tm 5)),
 o1 2 (.mov (.const (.slice none 0 0))),
 o1 3 (.mov (tm 20))]) .ret)
 .skip)) (.seq (.region [
 o1 22 (.callV (.func 55) [(.const (.int .i64 65536))]),
 o1 21 (.mov (tm 22)),
 o1 23 (.extract 0 (tm 21)),
 o1 24 (.extract 1 (tm 21)),
 o1 6 (.mov (tm 23)),
 o1 7 (.mov (tm 24))]) (.seq (.region [
 o1 25 (.mov (tm 6)),
 o1 26 (.callV (.func 56) [(tm 25), (.const (.int .i64 2))])]) (.seq (.region [
 o1 27 (.mov (tm 6)),
 o1 28 (.fieldAddr 0 (tm 1)),
 o1 29 (.load none (tm 28)),
 o1 30 (.callV (.func 56) [(tm 27), (tm 29)])]) (.seq (.region [
 o1 31 (.mov (tm 6)),
 o1 32 (.mov (tm 4)),
 o1 33 (.callV (.func 59) [(tm 31), (tm 32)])]) (.seq (.region [
 o1 34 (.mov (tm 6)),
 o1 35 (.callV (.func 57) [(tm 34)]),
 o1 36 (.extract 0 (tm 35)),
 o1 37 (.extract 1 (tm 35)),
 o1 2 (.mov (tm 36)),
 o1 3 (.mov (tm 37))]) .ret)))))))))
def zgcQ : AFunc := ⟨38, [(2, none), (3, none)], zgcQ_c, none⟩
theorem zgcQ_t0 : tableOf Tryz.prog 24 = some zgcQ := by kernel_rfl
theorem zgcQ_t : T0 24 = some zgcQ := withKept_t rfl (withTrue_t rfl zgcQ_t0)
theorem zgcQ_runs {v0 : Value} {h : Heap} {R : RP} {X : XP} (k : RunC Tryz.prog T0 zgcQ_c ⟨[v0, U, U, U, U, U, U, U, U, U, U, U, U, U, U, U, U, U, U, U, U, U, U, U, U, U, U, U, U, U, U, U, U, U, U, U, U, U], [], h, none⟩ (bodyQ Tryz.prog T0 [(2, none), (3, none)] R X)) :
 Runs Tryz.prog T0 (.fn 24) [v0] h R X := Runs.fn zgcQ_t rfl k
abbrev fn_zdbQ : FuncId := 25
def zdbQ_c : ACode :=
 (.seq (.region [
 o1 4 (.mov (.const (.bool false)))]) (.seq (.region [
 o1 5 (.mov (tm 0)),
 o1 6 (.bytesToStr (tm 5)),
 o1 7 (.mov (tm 1)),
 o1 8 (.bytesToStr (tm 7)),
 o1 9 (.bin .eql (so (.binOp .eql 9 (tm 6) (tm 8) 9) 4) (tm 6) (tm 8)),
 o1 4 (.mov (tm 9))]) .ret))
def zdbQ : AFunc := ⟨10, [(4, none)], zdbQ_c, none⟩
theorem zdbQ_t0 : tableOf Tryz.prog 25 = some zdbQ := by kernel_rfl
theorem zdbQ_t : T0 25 = some zdbQ := withKept_t rfl (withTrue_t rfl zdbQ_t0)
theorem zdbQ_runs {v0 v1 : Value} {h : Heap} {R : RP} {X : XP} (k : RunC Tryz.prog T0 zdbQ_c ⟨[v0, v1, U, U, U, U, U, U, U, U], [], h, none⟩ (bodyQ Tryz.prog T0 [(4, none)] R X)) :
 Runs Tryz.prog T0 (.fn 25) [v0, v1] h R X := Runs.fn zdbQ_t rfl k
abbrev fn_zcbQ : FuncId := 26
def zcbQ_c : ACode :=
 (.seq (.region [
 o1 2 (.box 36 (tm 0)),
 o1 3 (.box 36 (tm 1)),
 o1 4 (.mov (.const (.bool false)))]) (.seq (.region [
 o1 5 (.fieldAddr 0 (tm 2)),
 o1 6 (.load (some 131) (tm 5)),
 o1 7 (.fieldAddr 0 (tm 3)),
 o1 8 (.load (some 131) (tm 7)),
 o1 9 (.bin .eql (so (.binOp .eql 30 (tm 6) (tm 8) 30) 4) (tm 6) (tm 8)),
 o1 10 (.mov (tm 9)),
 o4 11 (.fieldAddr 131 (tm 2)) 10,
 o4 12 (.load (some 34) (tm 11)) 10,
 o4 13 (.fieldAddr 131 (tm 3)) 10,
 o4 14 (.load (some 34) (tm 13)) 10,
 o4 15 (.callV (.func 60) [(tm 12), (tm 14)]) 10,
 o1 16 (.pick (tm 10) (tm 15) (.const (.bool false))),
 o1 17 (.mov (tm 16)),
 o4 18 (.fieldAddr 165 (tm 2)) 17,
 o4 19 (.load none (tm 18)) 17,
 o4 20 (.fieldAddr 165 (tm 3)) 17,
 o4 21 (.load none (tm 20)) 17,
 o4 22 (.callV (.func 61) [(tm 19), (tm 21)]) 17,
 o1 23 (.pick (tm 17) (tm 22) (.const (.bool false))),
 o1 4 (.mov (tm 23))]) .ret))
def zcbQ : AFunc := ⟨24, [(4, none)], zcbQ_c, none⟩
theorem zcbQ_t0 : tableOf Tryz.prog 26 = some zcbQ := by kernel_rfl
theorem zcbQ_t : T0 26 = some zcbQ := withKept_t rfl (withTrue_t rfl zcbQ_t0)
theorem zcbQ_runs {v0 v1 : Value} {h : Heap} {R : RP} {X : XP} (k : RunC Tryz.prog T0 zcbQ_c ⟨[v0, v1, U, U, U, U, U, U, U, U, U, U, U, U, U, U, U, U, U, U, U, U, U, U], [], h, none⟩ (bodyQ Tryz.prog T0 [(4, none)] R X)) :
 Runs Tryz.prog T0 (.fn 26) [v0, v1] h R X := Runs.fn zcbQ_t rfl k
abbrev fn_zbbQ : FuncId := 27
def zbbQ_l0 : ACode :=
 (.seq (.seq (.region [
 o1 3 (.mov (tm 2)),
 o1 4 (.mov (tm 0)),
 o1 5 (.lenSl (tm 4)),
 o1 6 (.bin .lss (so (.binOp .lss 3 (tm 3) (tm 5) 3) 4) (tm 3) (tm 5))]) (.cond (tm 6)
 .skip
 (.exit 0))) (.seq (.block 1 (.region [
 o1 9 (.mov (tm 0)),
 o1 10 (.mov (tm 2)),
 o1 11 (.mov (tm 0)),
 o1 12 (.mov (tm 2)),
 o1 13 (.indexSl 1 (tm 11) (tm 12)),
 o1 14 (.load none (tm 13)),
 o1 15 (.bin .xor (so (.binOp .xor 5 (tm 14) (.const (.int .u8 165)) 5) 5) (tm 14) (.const (.int .u8 165))),
 o1 16 (.indexSl 1 (tm 9) (tm 10)),
 o3 (.store 1 (tm 16) (tm 15))])) (.region [
 o1 7 (.mov (tm 2)),
 o1 8 (.bin .add (so (.binOp .add 3 (tm 7) (.const (.int .i64 1)) 3) 3) (tm 7) (.const (.int .i64 1))),
 o1 2 (.mov (tm 8))])))
def zbbQ_c : ACode :=
 (.seq (.region [
 o1 2 (.mov k0)]) (.block 0 (.loop zbbQ_l0)))
def zbbQ : AFunc := ⟨17, [], zbbQ_c, none⟩
theorem zbbQ_t0 : tableOf Tryz.prog 27 = some zbbQ := by kernel_rfl
theorem zbbQ_t : T0 27 = some zbbQ := withKept_t rfl (withTrue_t rfl zbbQ_t0)
theorem zbbQ_runs {v0 : Value} {h : Heap} {R : RP} {X : XP} (k : RunC Tryz.prog T0 zbbQ_c ⟨[v0, U, U, U, U, U, U, U, U, U, U, U, U, U, U, U, U], [], h, none⟩ (bodyQ Tryz.prog T0 [] R X)) :
 Runs Tryz.prog T0 (.fn 27) [v0] h R X := Runs.fn zbbQ_t rfl k
def zbbQ_l0_J (f0 f1 : Value) (ds : List Deferred) (rd : Option Nat) (I : Nat → Value → Heap → Prop) (m : Nat) (s : St) : Prop := ∃ (v2 : Value), ∃ h : Heap, ∃ (x3 x4 x5 x6 x7 x8 x9 x10 x11 x12 x13 x14 x15 x16 : Value), s = ⟨[f0, f1, v2, x3, x4, x5, x6, x7, x8, x9, x10, x11, x12, x13, x14, x15, x16], ds, h, rd⟩ ∧ I m v2 h
theorem zbbQ_l0_rule {f0 f1 : Value} {ds : List Deferred} {rd : Option Nat} {Q : QP} (I : Nat → Value → Heap → Prop) (hb : ∀ (m : Nat) (v2 : Value) (h : Heap) (x3 x4 x5 x6 x7 x8 x9 x10 x11 x12 x13 x14 x15 x16 : Value) , I m v2 h → RunC Tryz.prog T0 zbbQ_l0 ⟨[f0, f1, v2, x3, x4, x5, x6, x7, x8, x9, x10, x11, x12, x13, x14, x15, x16], ds, h, rd⟩ (loopQ (zbbQ_l0_J f0 f1 ds rd I) m Q))
 (m : Nat) {v2 : Value} {h : Heap} {x3 x4 x5 x6 x7 x8 x9 x10 x11 x12 x13 x14 x15 x16 : Value} (hi : I m v2 h) : RunC Tryz.prog T0 (.loop zbbQ_l0) ⟨[f0, f1, v2, x3, x4, x5, x6, x7, x8, x9, x10, x11, x12, x13, x14, x15, x16], ds, h, rd⟩ Q :=
 RunC.loopJ (zbbQ_l0_J f0 f1 ds rd I) (fun m s hj => by obtain ⟨v2, h, x3, x4, x5, x6, x7, x8, x9, x10, x11, x12, x13, x14, x15, x16, rfl, hi⟩ := hj; exact hb m v2 h x3 x4 x5 x6 x7 x8 x9 x10 x11 x12 x13 x14 x15 x16 hi) m _ ⟨_, h, _, _, _, _, _, _, _, _, _, _, _, _, _, _, rfl, hi⟩
theorem zbbQ_l0_again {f0 f1 : Value} {ds : List Deferred} {rd : Option Nat} {Q : QP} {I : Nat → Value → Heap → Prop} {m : Nat} (m' : Nat) {v2 : Value} {h : Heap} {x3 x4 x5 x6 x7 x8 x9 x10 x11 x12 x13 x14 x15 x16 : Value} (hm : m' < m) (hi : I m' v2 h) : loopQ (zbbQ_l0_J f0 f1 ds rd I) m Q .normal ⟨[f0, f1, v2, x3, x4, x5, x6, x7, x8, x9, x10, x11, x12, x13, x14, x15, x16], ds, h, rd⟩ :=
 loopQ.again m' hm ⟨_, h, _, _, _, _, _, _, _, _, _, _, _, _, _, _, rfl, hi⟩
abbrev fn_zaQ : FuncId := 28
def zaQ_l0 : ACode :=
 (.seq (.region [
 o1 49 (.bin .lss (so (.binOp .lss 3 (tm 48) (.const (.int .i64 3)) 3) 0) (tm 48) (.const (.int .i64 3)))]) (.seq (.cond (tm 49)
 .skip
 (.exit 0)) (.seq (.block 1 (.seq (.region [
 o1 50 (.index 3 1 none (tm 47) (tm 48)),
 o1 14 (.mov (tm 50))]) (.region [
 o1 51 (.mov (tm 5)),
 o1 52 (.mov (tm 14)),
 o1 53 (.callV (.func 69) [(tm 51), (tm 52)])]))) (.region [
 o1 54 (.bin .add (so (.binOp .add 3 (tm 48) (.const (.int .i64 1)) 3) 3) (tm 48) (.const (.int .i64 1))),
 o1 48 (.mov (tm 54))]))))
def zaQ_c : ACode :=
 (.seq (.region [
 o1 1 (.box 36 (tm 0)),
 o1 2 (.mov (.const (.slice none 0 0))),
 o1 3 (.mov k0)]) (.seq (.seq (.region [
 o1 15 (.load (some 166) (tm 1)),
 o1 16 (.callV (.func 64) [(tm 15)]),
 o1 17 (.callV (.func 63) [(tm 16)]),
 o1 18 (.callV (.func 62) [(tm 17)]),
 o1 4 (.mov (tm 18))]) (.seq (.region [
 o1 19 (.mov (tm 4)),
 o1 20 (.bin .neq (so (.binOp .neq 41 (tm 19) k0 41) 4) (tm 19) k0)]) (.cond (tm 20)
 (.seq (.region [
 o1 21 (.mov (tm 4)),
 o1 2 (.mov (.const (.slice none 0 0))),
 o1 3 (.mov (tm 21))]) .ret)
 .skip))) (.seq (.region [
 o1 23 (.callV (.func 65) [(.const (.int .i64 65536))]),
 o1 22 (.mov (tm 23)),
 o1 24 (.extract 0 (tm 22)),
 o1 25 (.extract 1 (tm 22)),
 o1 5 (.mov (tm 24)),
 o1 6 (.mov (tm 25))]) (.seq (.region [
 o1 27 (.fieldAddr 0 (tm 1)),
 o1 28 (.load (some 131) (tm 27)),
 o1 29 (.callV (.func 66) [(tm 28)]),
 o1 26 (.mov (tm 29)),
 o1 30 (.extract 0 (tm 26)),
 o1 31 (.extract 1 (tm 26)),
 o1 7 (.mov (tm 30)),
 o1 8 (.mov (tm 31))]) (.seq (.region [
 o1 33 (.fieldAddr 131 (tm 1)),
 o1 34 (.load (some 34) (tm 33)),
 o1 35 (.callV (.func 67) [(tm 34)]),
 o1 32 (.mov (tm 35)),
 o1 36 (.extract 0 (tm 32)),
 o1 37 (.extract 1 (tm 32)),
 o1 9 (.mov (tm 36)),
 o1 10 (.mov (tm 37))]) (.seq (.region [
 o1 39 (.fieldAddr 165 (tm 1)),
 o1 40 (.load none (tm 39)),
 o1 41 (.callV (.func 68) [(tm 40)]),
 o1 38 (.mov (tm 41)),
 o1 42 (.extract 0 (tm 38)),
 o1 43 (.extract 1 (tm 38)),
 o1 11 (.mov (tm 42)),
 o1 12 (.mov (tm 43))]) (.seq (.seq (.region [
 o1 44 (.mov (tm 7)),
 o1 45 (.mov (tm 9)),
 o1 46 (.mov (tm 11)),
 o1 47 (.build [(.slice none 0 0), (.slice none 0 0), (.slice none 0 0)] [(0, 1, (tm 44)), (1, 1, (tm 45)), (2, 1, (tm 46))]),
 o1 48 (.mov k0)]) (.block 0 (.loop zaQ_l0))) (.seq (.region [
 o1 55 (.mov (tm 5)),
 o1 56 (.callV (.func 70) [(tm 55)]),
 o1 57 (.extract 0 (tm 56)),
 o1 58 (.extract 1 (tm 56)),
 o1 2 (.mov (tm 57)),
 o1 3 (.mov (tm 58))]) .ret))))))))
def zaQ : AFunc := ⟨59, [(2, none), (3, none)], zaQ_c, none⟩
theorem zaQ_t0 : tableOf Tryz.prog 28 = some zaQ := by kernel_rfl
theorem zaQ_t : T0 28 = some zaQ := withKept_t rfl (withTrue_t rfl zaQ_t0)
theorem zaQ_runs {v0 : Value} {h : Heap} {R : RP} {X : XP} (k : RunC Tryz.prog T0 zaQ_c ⟨[v0, U, U, U, U, U, U, U, U, U, U, U, U, U, U, U, U, U, U, U, U, U, U, U, U, U, U, U, U, U, U, U, U, U, U, U, U, U, U, U, U, U, U, U, U, U, U, U, U, U, U, U, U, U, U, U, U, U, U], [], h, none⟩ (bodyQ Tryz.prog T0 [(2, none), (3, none)] R X)) :
 Runs Tryz.prog T0 (.fn 28) [v0] h R X := Runs.fn zaQ_t rfl k
def zaQ_l0_J (f0 f1 f2 f3 f4 f5 f6 f7 f8 f9 f10 f11 f12 f13 f15 f16 f17 f18 f19 f20 f21 f22 f23 f24 f25 f26 f27 f28 f29 f30 f31 f32 f33 f34 f35 f36 f37 f38 f39 f40 f41 f42 f43 f44 f45 f46 f47 f55 f56 f57 f58 : Value) (ds : List Deferred) (rd : Option Nat) (I : Nat → Value → Heap → Prop) (m : Nat) (s : St) : Prop := ∃ (v48 : Value), ∃ h : Heap, ∃ (x14 x49 x50 x51 x52 x53 x54 : Value), s = ⟨[f0, f1, f2, f3, f4, f5, f6, f7, f8, f9, f10, f11, f12, f13, x14, f15, f16, f17, f18, f19, f20, f21, f22, f23, f24, f25, f26, f27, f28, f29, f30, f31, f32, f33, f34, f35, f36, f37, f38, f39, f40, f41, f42, f43, f44, f45, f46, f47, v48, x49, x50, x51, x52, x53, x54, f55, f56, f57, f58], ds, h, rd⟩ ∧ I m v48 h
theorem zaQ_l0_rule {f0 f1 f2 f3 f4 f5 f6 f7 f8 f9 f10 f11 f12 f13 f15 f16 f17 f18 f19 f20 f21 f22 f23 f24 f25 f26 f27 f28 f29 f30 f31 f32 f33 f34 f35 f36 f37 f38 f39 f40 f41 f42 f43 f44 f45 f46 f47 f55 f56 f57 f58 : Value} {ds : List Deferred} {rd : Option Nat} {Q : QP} (I : Nat → Value → Heap → Prop) (hb : ∀ (m : Nat) (v48 : Value) (h : Heap) (x14 x49 x50 x51 x52 x53 x54 : Value) , I m v48 h → RunC Tryz.prog T0 zaQ_l0 ⟨[f0, f1, f2, f3, f4, f5, f6, f7, f8, f9, f10, f11, f12, f13, x14, f15, f16, f17, f18, f19, f20, f21, f22, f23, f24, f25, f26, f27, f28, f29, f30, f31, f32, f33, f34, f35, f36, f37, f38, f39, f40, f41, f42, f43, f44, f45, f46, f47, v48, x49, x50, x51, x52, x53, x54, f55, f56, f57, f58], ds, h, rd⟩ (loopQ (zaQ_l0_J f0 f1 f2 f3 f4 f5 f6 f7 f8 f9 f10 f11 f12 f13 f15 f16 f17 f18 f19 f20 f21 f22 f23 f24 f25 f26 f27 f28 f29 f30 f31 f32 f33 f34 f35 f36 f37 f38 f39 f40 f41 f42 f43 f44 f45 f46 f47 f55 f56 f57 f58 ds rd I) m Q))
 (m : Nat) {v48 : Value} {h : Heap} {x14 x49 x50 x51 x52 x53 x54 : Value} (hi : I m v48 h) : RunC Tryz.prog T0 (.loop zaQ_l0) ⟨[f0, f1, f2, f3, f4, f5, f6, f7, f8, f9, f10, f11, f12, f13, x14, f15, f16, f17, f18, f19, f20, f21, f22, f23, f24, f25, f26, f27, f28, f29, f30, f31, f32, f33, f34, f35, f36, f37, f38, f39, f40, f41, f42, f43, f44, f45, f46, f47, v48, x49, x50, x51, x52, x53, x54, f55, f56, f57, f58], ds, h, rd⟩ Q :=
 RunC.loopJ (zaQ_l0_J f0 f1 f2 f3 f4 f5 f6 f7 f8 f9 f10 f11 f12 f13 f15 f16 f17 f18 f19 f20 f21 f22 f23 f24 f25 f26 f27 f28 f29 f30 f31 f32 f33 f34 f35 f36 f37 f38 f39 f40 f41 f42 f43 f44 f45 f46 f47 f55 f56 f57 f58 ds rd I) (fun m s hj => by obtain ⟨v48, h, x14, x49, x50, x51, x52, x53, x54, rfl, hi⟩ := hj; exact hb m v48 h x14 x49 x50 x51 x52 x53 x54 hi) m _ ⟨_, h, _, _, _, _, _, _, _, rfl, hi⟩
theorem zaQ_l0_again {f0 f1 f2 f3 f4 f5 f6 f7 f8 f9 f10 f11 f12 f13 f15 f16 f17 f18 f19 f20 f21 f22 f23 f24 f25 f26 f27 f28 f29 f30 f31 f32 f33 f34 f35 f36 f37 f38 f39 f40 f41 f42 f43 f44 f45 f46 f47 f55 f56 f57 f58 : Value} {ds : List Deferred} {rd : Option Nat} {Q : QP} {I : Nat → Value → Heap → Prop} {m : Nat} (m' : Nat) {v48 : Value} {h : Heap} {x14 x49 x50 x51 x52 x53 x54 : Value} (hm : m' < m) (hi : I m' v48 h) : loopQ (zaQ_l0_J f0 f1 f2 f3 f4 f5 f6 f7 f8 f9 f10 f11 f12 f13 f15 f16 f17 f18 f19 f20 f21 f22 f23 f24 f25 f26 f27 f28 f29 f30 f31 f32 f33 f34 f35 f36 f37 f38 f39 f40 f41 f42 f43 f44 f45 f46 f47 f55 f56 f57 f58 ds rd I) m Q .normal ⟨[f0, f1, f2, f3, f4, f5, f6, f7, f8, f9, f10, f11, f12, f13, x14, f15, f16, f17, f18, f19, f20, f21, f22, f23, f24, f25, f26, f27, f28, f29, f30, f31, f32, f33, f34, f35, f36, f37, f38, f39, f40, f41, f42, f43, f44, f45, f46, f47, v48, x49, x50, x51, x52, x53, x54, f55, f56, f57, f58], ds, h, rd⟩ :=
 loopQ.again m' hm ⟨_, h, _, _, _, _, _, _, _, rfl, hi⟩
abbrev fn_zqcQ : FuncId := 36
def zqcQ_c : ACode :=
 (.seq (.region [
 o1 2 (.mov (.const (.bool false)))]) (.seq (.region [
 o1 3 (.mov (tm 0)),
 o1 4 (.bin .geq (so (.binOp .geq 3 (tm 3) (.const (.int .i64 1)) 3) 4) (tm 3) (.const (.int .i64 1))),
 o1 5 (.mov (tm 4)),
 o4 6 (.mov (tm 0)) 5,
 o4 7 (.bin .leq (so (.binOp .leq 3 (tm 6) (.const (.int .i64 1099511627776)) 3) 4) (tm 6) (.const (.int .i64 1099511627776))) 5,
 o1 8 (.pick (tm 5) (tm 7) (.const (.bool false))),
 o1 2 (.mov (tm 8))]) .ret))
def zqcQ : AFunc := ⟨9, [(2, none)], zqcQ_c, none⟩
theorem zqcQ_t0 : tableOf Tryz.prog 36 = some zqcQ := by kernel_rfl
theorem zqcQ_t : T0 36 = some zqcQ := withKept_t rfl (withTrue_t rfl zqcQ_t0)
theorem zqcQ_runs {v0 : Value} {h : Heap} {R : RP} {X : XP} (k : RunC Tryz.prog T0 zqcQ_c ⟨[v0, U, U, U, U, U, U, U, U], [], h, none⟩ (bodyQ Tryz.prog T0 [(2, none)] R X)) :
 Runs Tryz.prog T0 (.fn 36) [v0] h R X := Runs.fn zqcQ_t rfl k
abbrev fn_zpcQ : FuncId := 37
def zpcQ_c : ACode :=
 (.seq (.region [
 o1 2 (.mov (.const (.bool false)))]) (.seq (.region [
 o1 3 (.mov (tm 0)),
 o1 4 (.bin .geq (so (.binOp .geq 3 (tm 3) (.const (.int .i64 1)) 3) 4) (tm 3) (.const (.int .i64 1))),
 o1 5 (.mov (tm 4)),
 o4 6 (.mov (tm 0)) 5,
 o4 7 (.bin .leq (so (.binOp .leq 3 (tm 6) (.const (.int .i64 1073741824)) 3) 4) (tm 6) (.const (.int .i64 1073741824))) 5,
 o1 8 (.pick (tm 5) (tm 7) (.const (.bool false))),
 o1 2 (.mov (tm 8))]) .ret))
def zpcQ : AFunc := ⟨9, [(2, none)], zpcQ_c, none⟩
theorem zpcQ_t0 : tableOf Tryz.prog 37 = some zpcQ := by kernel_rfl
theorem zpcQ_t : T0 37 = some zpcQ := withKept_t rfl (withTrue_t rfl zpcQ_t0)
theorem zpcQ_runs {v0 : Value} {h : Heap} {R : RP} {X : XP} (k : RunC Tryz.prog T0 zpcQ_c ⟨[v0, U, U, U, U, U, U, U, U], [], h, none⟩ (bodyQ Tryz.prog T0 [(2, none)] R X)) :
 Runs Tryz.prog T0 (.fn 37) [v0] h R X := Runs.fn zpcQ_t rfl k
abbrev fn_zjcQ : FuncId := 45
def zjcQ_c : ACode :=
 (.seq (.region [
 o1 2 (.mov (.const (.bool false)))]) (.seq (.region [
 o1 3 (.mov (tm 0)),
 o1 4 (.bin .geq (so (.binOp .geq 3 (tm 3) (.const (.int .i64 1)) 3) 4) (tm 3) (.const (.int .i64 1))),
 o1 5 (.mov (tm 4)),
 o4 6 (.mov (tm 0)) 5,
 o4 7 (.bin .leq (so (.binOp .leq 3 (tm 6) (.const (.int .i64 1099511627776)) 3) 4) (tm 6) (.const (.int .i64 1099511627776))) 5,
 o1 8 (.pick (tm 5) (tm 7) (.const (.bool false))),
 o1 2 (.mov (tm 8))]) .ret))
def zjcQ : AFunc := ⟨9, [(2, none)], zjcQ_c, none⟩
theorem zjcQ_t0 : tableOf Tryz.prog 45 = some zjcQ := by kernel_rfl
theorem zjcQ_t : T0 45 = some zjcQ := withKept_t rfl (withTrue_t rfl zjcQ_t0)
theorem zjcQ_runs {v0 : Value} {h : Heap} {R : RP} {X : XP} (k : RunC Tryz.prog T0 zjcQ_c ⟨[v0, U, U, U, U, U, U, U, U], [], h, none⟩ (bodyQ Tryz.prog T0 [(2, none)] R X)) :
 Runs Tryz.prog T0 (.fn 45) [v0] h R X := Runs.fn zjcQ_t rfl k
abbrev fn_zicQ : FuncId := 46
def zicQ_c : ACode :=
 (.seq (.region [
 o1 2 (.mov (.const (.bool false)))]) (.seq (.region [
 o1 3 (.mov (tm 0)),
 o1 4 (.bin .geq (so (.binOp .geq 3 (tm 3) (.const (.int .i64 1)) 3) 4) (tm 3) (.const (.int .i64 1))),
 o1 5 (.mov (tm 4)),
 o4 6 (.mov (tm 0)) 5,
 o4 7 (.bin .leq (so (.binOp .leq 3 (tm 6) (.const (.int .i64 1073741824)) 3) 4) (tm 6) (.const (.int .i64 1073741824))) 5,
 o1 8 (.pick (tm 5) (tm 7) (.const (.bool false))),
 o1 2 (.mov (tm 8))]) .ret))
def zicQ : AFunc := ⟨9, [(2, none)], zicQ_c, none⟩
theorem zicQ_t0 : tableOf Tryz.prog 46 = some zicQ := by kernel_rfl
theorem zicQ_t : T0 46 = some zicQ := withKept_t rfl (withTrue_t rfl zicQ_t0)
theorem zicQ_runs {v0 : Value} {h : Heap} {R : RP} {X : XP} (k : RunC Tryz.prog T0 zicQ_c ⟨[v0, U, U, U, U, U, U, U, U], [], h, none⟩ (bodyQ Tryz.prog T0 [(2, none)] R X)) :
 Runs Tryz.prog T0 (.fn 46) [v0] h R X := Runs.fn zicQ_t rfl k
abbrev fn_zyQ : FuncId := 52
def zyQ_c : ACode :=
 (.seq (.region [
 o1 1 (.box 33 (tm 0)),
 o1 2 (.alloc 33 ((.int .i64 0) :: (z32 ++ [(.slice none 0 0)])))]) (.seq (.region [
 o1 3 (.buildSlice 134 [] 0 []),
 o1 4 (.fieldAddr 33 (tm 1)),
 o1 5 (.load none (tm 4)),
 o1 6 (.append 134 2 16 [(.int .i64 0), (.int .u64 0)] false (tm 3) (tm 5)),
 o1 7 (.fieldAddr 33 (tm 1)),
 o3 (.store 1 (tm 7) (tm 6))]) (.seq (.region [
 o1 8 (.load (some 34) (tm 1)),
 o3 (.store 34 (tm 2) (tm 8))]) .ret)))
def zyQ : AFunc := ⟨9, [(2, some (some 34))], zyQ_c, none⟩
theorem zyQ_t0 : tableOf Tryz.prog 52 = some zyQ := by kernel_rfl
theorem zyQ_t : T0 52 = some zyQ := withKept_t rfl (withTrue_t rfl zyQ_t0)
theorem zyQ_runs {v0 : Value} {h : Heap} {R : RP} {X : XP} (k : RunC Tryz.prog T0 zyQ_c ⟨[v0, U, U, U, U, U, U, U, U], [], h, none⟩ (bodyQ Tryz.prog T0 [(2, some (some 34))] R X)) :
 Runs Tryz.prog T0 (.fn 52) [v0] h R X := Runs.fn zyQ_t rfl k
abbrev fn_zzQ : FuncId := 53
def zzQ_c : ACode :=
 (.seq (.region [
 o1 2 (.mov (.const (.slice none 0 0)))]) (.seq (.region [
 o1 3 (.buildSlice 132 [] 0 []),
 o1 4 (.mov (tm 0)),
 o1 5 (.append 132 5 16 [(.int .u8 0), (.int .u8 0), (.int .u8 0), (.int .u8 0), (.int .i64 0)] false (tm 3) (tm 4)),
 o1 2 (.mov (tm 5))]) .ret))
def zzQ : AFunc := ⟨6, [(2, none)], zzQ_c, none⟩
theorem zzQ_t0 : tableOf Tryz.prog 53 = some zzQ := by kernel_rfl
theorem zzQ_t : T0 53 = some zzQ := withKept_t rfl (withTrue_t rfl zzQ_t0)
theorem zzQ_runs {v0 : Value} {h : Heap} {R : RP} {X : XP} (k : RunC Tryz.prog T0 zzQ_c ⟨[v0, U, U, U, U, U], [], h, none⟩ (bodyQ Tryz.prog T0 [(2, none)] R X)) :
 Runs Tryz.prog T0 (.fn 53) [v0] h R X := Runs.fn zzQ_t rfl k
abbrev fn_zocQ : FuncId := 54
def zocQ_c : ACode :=
 (.seq (.region [
 o1 2 (.mov (.const (.slice none 0 0))),
 o1 3 (.mov k0)]) (.seq (.region [
 o1 8 (.callV (.func 65) [(.const (.int .i64 65536))]),
 o1 7 (.mov (tm 8)),
 o1 9 (.extract 0 (tm 7)),
 o1 10 (.extract 1 (tm 7)),
 o1 4 (.mov (tm 9)),
 o1 5 (.mov (tm 10))]) (.seq (.seq (.region [
 o1 11 (.mov (tm 0)),
 o1 12 (.callV (.func 90) [(tm 11)]),
 o1 13 (.mov (tm 4)),
 o1 14 (.invoke (tm 12) "landfall/msg.write" [(tm 13)]),
 o1 6 (.mov (tm 14))]) (.seq (.region [
 o1 15 (.mov (tm 6)),
 o1 16 (.bin .neq (so (.binOp .neq 41 (tm 15) k0 41) 4) (tm 15) k0)]) (.cond (tm 16)
 (.seq (.region [
 o1 17 (.mov (tm 6)),
 o1 2 (.mov (.const (.slice none 0 0))),
 o1 3 (.mov (tm 17))]) .ret)
 .skip))) (.seq (.region [
 o1 18 (.mov (tm 4)),
 o1 19 (.callV (.func 70) [(tm 18)]),
 o1 20 (.extract 0 (tm 19)),
 o1 21 (.extract 1 (tm 19)),
 o1 2 (.mov (tm 20)),
 o1 3 (.mov (tm 21))]) .ret))))
def zocQ : AFunc := ⟨22, [(2, none), (3, none)], zocQ_c, none⟩
theorem zocQ_t0 : tableOf Tryz.prog 54 = some zocQ := by kernel_rfl
theorem zocQ_t : T0 54 = some zocQ := withKept_t rfl (withTrue_t rfl zocQ_t0)
theorem zocQ_runs {v0 : Value} {h : Heap} {R : RP} {X : XP} (k : RunC Tryz.prog T0 zocQ_c ⟨[v0, U, U, U, U, U, U, U, U, U, U, U, U, U, U, U, U, U, U, U, U, U], [], h, none⟩ (bodyQ Tryz.prog T0 [(2, none), (3, none)] R X)) :
 Runs Tryz.prog T0 (.fn 54) [v0] h R X := Runs.fn zocQ_t rfl k
abbrev fn_zkbQ : FuncId := 55
def zkbQ_c : ACode :=
 (.seq (.region [
 o1 2 (.mov (.const (.pointer none))),
 o1 3 (.mov k0)]) (.seq (.seq (.region [
 o1 4 (.mov (tm 0)),
 o1 5 (.bin .lss (so (.binOp .lss 3 (tm 4) k0 3) 4) (tm 4) k0),
 o1 6 (.mov (tm 5)),
 o5 7 (.mov (tm 0)) 6,
 o5 8 (.bin .gtr (so (.binOp .gtr 3 (tm 7) (.const (.int .i64 1048576)) 3) 4) (tm 7) (.const (.int .i64 1048576))) 6,
 o1 9 (.pick (tm 6) (.const (.bool true)) (tm 8))]) (.cond (tm 9)
 (.seq (.region [
 o1 2 (.mov (.const (.pointer none))),
 o1 3 (.mov (.const (.int .i64 3)))]) .ret)
 .skip)) (.seq (.region [
 o1 10 (.mov (tm 0)),
 o1 11 (.build [(.int .i64 0), (.slice none 0 0), (.int .i64 0)] [(0, 1, (tm 10))]),
 o1 12 (.box 140 (tm 11)),
 o1 2 (.mov (tm 12)),
 o1 3 (.mov k0)]) .ret)))
def zkbQ : AFunc := ⟨13, [(2, none), (3, none)], zkbQ_c, none⟩
theorem zkbQ_t0 : tableOf Tryz.prog 55 = some zkbQ := by kernel_rfl
theorem zkbQ_t : T0 55 = some zkbQ := withKept_t rfl (withTrue_t rfl zkbQ_t0)
theorem zkbQ_runs {v0 : Value} {h : Heap} {R : RP} {X : XP} (k : RunC Tryz.prog T0 zkbQ_c ⟨[v0, U, U, U, U, U, U, U, U, U, U, U, U], [], h, none⟩ (bodyQ Tryz.prog T0 [(2, none), (3, none)] R X)) :
 Runs Tryz.prog T0 (.fn 55) [v0] h R X := Runs.fn zkbQ_t rfl k
abbrev fn_zrbQ : FuncId := 56
def zrbQ_c : ACode :=
 (.seq (.region [
 o1 4 (.mov k0)]) (.seq (.seq (.region [
 o1 5 (.mov (tm 1)),
 o1 6 (.bin .lss (so (.binOp .lss 3 (tm 5) k0 3) 4) (tm 5) k0),
 o1 7 (.mov (tm 6)),
 o4 8 (.mov (tm 0)) 7,
 o4 9 (.nilCheck (tm 8)) 7,
 o4 10 (.fieldAddr 2 (tm 9)) 7,
 o4 11 (.load none (tm 10)) 7,
 o4 12 (.bin .eql (so (.binOp .eql 41 (tm 11) k0 41) 4) (tm 11) k0) 7,
 o1 13 (.pick (tm 7) (tm 12) (.const (.bool false)))]) (.cond (tm 13)
 (.region [
 o1 14 (.mov (tm 0)),
 o1 15 (.nilCheck (tm 14)),
 o1 16 (.fieldAddr 2 (tm 15)),
 o3 (.store 1 (tm 16) (.const (.int .i64 3)))])
 .skip)) (.seq (.seq (.region [
 o1 17 (.mov (tm 0)),
 o1 18 (.nilCheck (tm 17)),
 o1 19 (.fieldAddr 2 (tm 18)),
 o1 20 (.load none (tm 19)),
 o1 21 (.bin .neq (so (.binOp .neq 41 (tm 20) k0 41) 4) (tm 20) k0)]) (.cond (tm 21)
 (.seq (.region [
 o1 22 (.mov (tm 0)),
 o1 23 (.nilCheck (tm 22)),
 o1 24 (.fieldAddr 2 (tm 23)),
 o1 25 (.load none (tm 24)),
 o1 4 (.mov (tm 25))]) .ret)
 .skip)) (.seq (.region [
 o1 26 (.mov (tm 0)),
 o1 27 (.mov (tm 1)),
 o1 28 (.callV (.func 92) [(tm 27)]),
 o1 29 (.callV (.func 91) [(tm 26), (tm 28)]),
 o1 4 (.mov (tm 29))]) .ret))))
def zrbQ : AFunc := ⟨30, [(4, none)], zrbQ_c, none⟩
theorem zrbQ_t0 : tableOf Tryz.prog 56 = some zrbQ := by kernel_rfl
theorem zrbQ_t : T0 56 = some zrbQ := withKept_t rfl (withTrue_t rfl zrbQ_t0)
theorem zrbQ_runs {v0 v1 : Value} {h : Heap} {R : RP} {X : XP} (k : RunC Tryz.prog T0 zrbQ_c ⟨[v0, v1, U, U, U, U, U, U, U, U, U, U, U, U, U, U, U, U, U, U, U, U, U, U, U, U, U, U, U, U], [], h, none⟩ (bodyQ Tryz.prog T0 [(4, none)] R X)) :
 Runs Tryz.prog T0 (.fn 56) [v0, v1] h R X := Runs.fn zrbQ_t rfl k
abbrev fn_zobQ : FuncId := 57
def zobQ_c : ACode :=
 (.seq (.region [
 o1 2 (.mov (.const (.slice none 0 0))),
 o1 3 (.mov k0)]) (.seq (.seq (.region [
 o1 4 (.mov (tm 0)),
 o1 5 (.nilCheck (tm 4)),
 o1 6 (.fieldAddr 2 (tm 5)),
 o1 7 (.load none (tm 6)),
 o1 8 (.bin .neq (so (.binOp .neq 41 (tm 7) k0 41) 4) (tm 7) k0)]) (.cond (tm 8)
 (.seq (.regionD [
 o1 9 (.mov (tm 0)),
 o1 10 (.nilCheck (tm 9)),
 o1 11 (.fieldAddr 2 (tm 10)),
 o1 12 (.load none (tm 11)),
 o1 2 (.mov (.const (.slice none 0 0))),
 o2 3 (.mov (tm 12))]) .ret)
 .skip)) (.seq (.region [
 o1 13 (.buildSlice 5 [] 0 []),
 o1 14 (.mov (tm 0)),
 o1 15 (.nilCheck (tm 14)),
 o1 16 (.fieldAddr 1 (tm 15)),
 o1 17 (.load none (tm 16)),
 o1 18 (.append 5 1 1 [(.int .u8 0)] false (tm 13) (tm 17)),
 o1 2 (.mov (tm 18)),
 o1 3 (.mov k0)]) .ret)))
def zobQ : AFunc := ⟨19, [(2, none), (3, none)], zobQ_c, none⟩
theorem zobQ_t0 : tableOf Tryz.prog 57 = some zobQ := by kernel_rfl
theorem zobQ_t : T0 57 = some zobQ := withKept_t rfl (withTrue_t rfl zobQ_t0)
theorem zobQ_runs {v0 : Value} {h : Heap} {R : RP} {X : XP} (k : RunC Tryz.prog T0 zobQ_c ⟨[v0, U, U, U, U, U, U, U, U, U, U, U, U, U, U, U, U, U, U], [], h, none⟩ (bodyQ Tryz.prog T0 [(2, none), (3, none)] R X)) :
 Runs Tryz.prog T0 (.fn 57) [v0] h R X := Runs.fn zobQ_t rfl k
abbrev fn_zecQ : FuncId := 58
def zecQ_c : ACode :=
 (.seq (.region [
 o1 1 (.box 36 (tm 0)),
 o1 2 (.mov (.const (.slice none 0 0))),
 o1 3 (.mov k0)]) (.seq (.region [
 o1 13 (.load (some 166) (tm 1)),
 o1 14 (.callV (.func 93) [(tm 13)]),
 o1 4 (.mov (tm 14))]) (.seq (.seq (.region [
 o1 15 (.mov (tm 4)),
 o1 16 (.bin .neq (so (.binOp .neq 41 (tm 15) k0 41) 4) (tm 15) k0)]) (.cond (tm 16)
 (.seq (.region [
 o1 17 (.mov (tm 4)),
 o1 2 (.mov (.const (.slice none 0 0))),
 o1 3 (.mov (tm 17))]) .ret)
 .skip)) (.seq (.region [
 o1 19 (.fieldAddr 0 (tm 1)),
 o1 20 (.load (some 131) (tm 19)),
 o1 21 (.callV (.func 94) [(tm 20)]),
 o1 18 (.mov (tm 21)),
 o1 22 (.extract 0 (tm 18)),
 o1 23 (.extract 1 (tm 18)),
 o1 5 (.mov (tm 22)),
 o1 6 (.mov (tm 23))]) (.seq (.region [
 o1 25 (.fieldAddr 131 (tm 1)),
 o1 26 (.load (some 34) (tm 25)),
 o1 27 (.callV (.func 95) [(tm 26)]),
 o1 24 (.mov (tm 27)),
 o1 28 (.extract 0 (tm 24)),
 o1 29 (.extract 1 (tm 24)),
 o1 7 (.mov (tm 28)),
 o1 8 (.mov (tm 29))]) (.seq (.region [
 o1 31 (.fieldAddr 165 (tm 1)),
 o1 32 (.load none (tm 31)),
 o1 33 (.callV (.func 96) [(tm 32)]),
 o1 30 (.mov (tm 33)),
 o1 34 (.extract 0 (tm 30)),
 o1 35 (.extract 1 (tm 30)),
 o1 9 (.mov (tm 34)),
 o1 10 (.mov (tm 35))]) (.seq (.region [
 o1 37 (.callV (.func 55) [(.const (.int .i64 65536))]),
 o1 36 (.mov (tm 37)),
 o1 38 (.extract 0 (tm 36)),
 o1 39 (.extract 1 (tm 36)),
 o1 11 (.mov (tm 38)),
 o1 12 (.mov (tm 39))]) (.seq (.region [
 o1 40 (.mov (tm 11)),
 o1 41 (.mov (tm 5)),
 o1 42 (.callV (.func 59) [(tm 40), (tm 41)])]) (.seq (.region [
 o1 43 (.mov (tm 11)),
 o1 44 (.mov (tm 7)),
 o1 45 (.callV (.func 59) [(tm 43), (tm 44)])]) (.seq (.region [
 o1 46 (.mov (tm 11)),
 o1 47 (.mov (tm 9)),
 o1 48 (.callV (.func 59) [(tm 46), (tm 47)])]) (.seq (.region [
 o1 49 (.mov (tm 11)),
 o1 50 (.callV (.func 57) [(tm 49)]),
 o1 51 (.extract 0 (tm 50)),
 o1 52 (.extract 1 (tm 50)),
 o1 2 (.mov (tm 51)),
 o1 3 (.mov (tm 52))]) .ret)))))))))))
def zecQ : AFunc := ⟨53, [(2, none), (3, none)], zecQ_c, none⟩
theorem zecQ_t0 : tableOf Tryz.prog 58 = some zecQ := by kernel_rfl
theorem zecQ_t : T0 58 = some zecQ := withKept_t rfl (withTrue_t rfl zecQ_t0)
theorem zecQ_runs {v0 : Value} {h : Heap} {R : RP} {X : XP} (k : RunC Tryz.prog T0 zecQ_c ⟨[v0, U, U, U, U, U, U, U, U, U, U, U, U, U, U, U, U, U, U, U, U, U, U, U, U, U, U, U, U, U, U, U, U, U, U, U, U, U, U, U, U, U, U, U, U, U, U, U, U, U, U, U, U], [], h, none⟩ (bodyQ Tryz.prog T0 [(2, none), (3, none)] R X)) :
 Runs Tryz.prog T0 (.fn 58) [v0] h R X := Runs.fn zecQ_t rfl k
abbrev fn_znbQ : FuncId := 59
def znbQ_c : ACode :=
 (.seq (.region [
 o1 4 (.mov k0)]) (.seq (.region [
 o1 5 (.mov (tm 0)),
 o1 6 (.mov (tm 1)),
 o1 7 (.callV (.func 97) [(tm 6)]),
 o1 8 (.callV (.func 91) [(tm 5), (tm 7)]),
 o1 4 (.mov (tm 8))]) .ret))
def znbQ : AFunc := ⟨9, [(4, none)], znbQ_c, none⟩
theorem znbQ_t0 : tableOf Tryz.prog 59 = some znbQ := by kernel_rfl
theorem znbQ_t : T0 59 = some znbQ := withKept_t rfl (withTrue_t rfl znbQ_t0)
theorem znbQ_runs {v0 v1 : Value} {h : Heap} {R : RP} {X : XP} (k : RunC Tryz.prog T0 znbQ_c ⟨[v0, v1, U, U, U, U, U, U, U], [], h, none⟩ (bodyQ Tryz.prog T0 [(4, none)] R X)) :
 Runs Tryz.prog T0 (.fn 59) [v0, v1] h R X := Runs.fn znbQ_t rfl k
abbrev fn_zebQ : FuncId := 60
def zebQ_c : ACode :=
 (.seq (.region [
 o1 2 (.box 33 (tm 0)),
 o1 3 (.box 33 (tm 1)),
 o1 4 (.mov (.const (.bool false)))]) (.seq (.region [
 o1 5 (.fieldAddr 0 (tm 2)),
 o1 6 (.load none (tm 5)),
 o1 7 (.fieldAddr 0 (tm 3)),
 o1 8 (.load none (tm 7)),
 o1 9 (.bin .eql (so (.binOp .eql 3 (tm 6) (tm 8) 3) 4) (tm 6) (tm 8)),
 o1 10 (.mov (tm 9)),
 o4 11 (.fieldAddr 1 (tm 2)) 10,
 o4 12 (.load (some 32) (tm 11)) 10,
 o4 13 (.fieldAddr 1 (tm 3)) 10,
 o4 14 (.load (some 32) (tm 13)) 10,
 o4 15 (.bin .eql (so (.binOp .eql 28 (tm 12) (tm 14) 28) 4) (tm 12) (tm 14)) 10,
 o1 16 (.pick (tm 10) (tm 15) (.const (.bool false))),
 o1 17 (.mov (tm 16)),
 o4 18 (.fieldAddr 33 (tm 2)) 17,
 o4 19 (.load none (tm 18)) 17,
 o4 20 (.fieldAddr 33 (tm 3)) 17,
 o4 21 (.load none (tm 20)) 17,
 o4 22 (.callV (.func 98) [(tm 19), (tm 21)]) 17,
 o1 23 (.pick (tm 17) (tm 22) (.const (.bool false))),
 o1 4 (.mov (tm 23))]) .ret))
def zebQ : AFunc := ⟨24, [(4, none)], zebQ_c, none⟩
theorem zebQ_t0 : tableOf Tryz.prog 60 = some zebQ := by kernel_rfl
theorem zebQ_t : T0 60 = some zebQ := withKept_t rfl (withTrue_t rfl zebQ_t0)
theorem zebQ_runs {v0 v1 : Value} {h : Heap} {R : RP} {X : XP} (k : RunC Tryz.prog T0 zebQ_c ⟨[v0, v1, U, U, U, U, U, U, U, U, U, U, U, U, U, U, U, U, U, U, U, U, U, U], [], h, none⟩ (bodyQ Tryz.prog T0 [(4, none)] R X)) :
 Runs Tryz.prog T0 (.fn 60) [v0, v1] h R X := Runs.fn zebQ_t rfl k
abbrev fn_zfbQ : FuncId := 61
def zfbQ_l0 : ACode :=
 (.seq (.seq (.region [
 o1 12 (.mov (tm 5)),
 o1 13 (.mov (tm 12)),
 o4 14 (.mov (tm 6)) 13,
 o4 15 (.mov (tm 0)) 13,
 o4 16 (.lenSl (tm 15)) 13,
 o4 17 (.bin .lss (so (.binOp .lss 3 (tm 14) (tm 16) 3) 4) (tm 14) (tm 16)) 13,
 o1 18 (.pick (tm 13) (tm 17) (.const (.bool false)))]) (.cond (tm 18)
 .skip
 (.exit 0))) (.seq (.block 1 (.regionD [
 o1 21 (.mov (tm 0)),
 o1 22 (.mov (tm 6)),
 o1 23 (.indexSl 5 (tm 21) (tm 22)),
 o1 24 (.load (some 5) (tm 23)),
 o1 25 (.mov (tm 1)),
 o1 26 (.mov (tm 6)),
 o1 27 (.indexSl 5 (tm 25) (tm 26)),
 o1 28 (.load (some 5) (tm 27)),
 o2 29 (.bin .eql (so (.binOp .eql 132 (tm 24) (tm 28) 132) 4) (tm 24) (tm 28)),
 o2 5 (.mov (tm 29))])) (.region [
 o1 19 (.mov (tm 6)),
 o1 20 (.bin .add (so (.binOp .add 3 (tm 19) (.const (.int .i64 1)) 3) 3) (tm 19) (.const (.int .i64 1))),
 o1 6 (.mov (tm 20))])))
def zfbQ_c : ACode :=
 (.seq (.region [
 o1 4 (.mov (.const (.bool false)))]) (.seq (.region [
 o1 7 (.mov (tm 0)),
 o1 8 (.lenSl (tm 7)),
 o1 9 (.mov (tm 1)),
 o1 10 (.lenSl (tm 9)),
 o1 11 (.bin .eql (so (.binOp .eql 3 (tm 8) (tm 10) 3) 4) (tm 8) (tm 10)),
 o1 5 (.mov (tm 11))]) (.seq (.seq (.region [
 o1 6 (.mov k0)]) (.block 0 (.loop zfbQ_l0))) (.seq (.region [
 o1 30 (.mov (tm 5)),
 o1 4 (.mov (tm 30))]) .ret))))
def zfbQ : AFunc := ⟨31, [(4, none)], zfbQ_c, none⟩
theorem zfbQ_t0 : tableOf Tryz.prog 61 = some zfbQ := by kernel_rfl
theorem zfbQ_t : T0 61 = some zfbQ := withKept_t rfl (withTrue_t rfl zfbQ_t0)
theorem zfbQ_runs {v0 v1 : Value} {h : Heap} {R : RP} {X : XP} (k : RunC Tryz.prog T0 zfbQ_c ⟨[v0, v1, U, U, U, U, U, U, U, U, U, U, U, U, U, U, U, U, U, U, U, U, U, U, U, U, U, U, U, U, U], [], h, none⟩ (bodyQ Tryz.prog T0 [(4, none)] R X)) :
 Runs Tryz.prog T0 (.fn 61) [v0, v1] h R X := Runs.fn zfbQ_t rfl k
def zfbQ_l0_J (f0 f1 f2 f3 f4 f7 f8 f9 f10 f11 f30 : Value) (ds : List Deferred) (rd : Option Nat) (I : Nat → Value → Value → Heap → Prop) (m : Nat) (s : St) : Prop := ∃ (v5 v6 : Value), ∃ h : Heap, ∃ (x12 x13 x14 x15 x16 x17 x18 x19 x20 x21 x22 x23 x24 x25 x26 x27 x28 x29 : Value), s = ⟨[f0, f1, f2, f3, f4, v5, v6, f7, f8, f9, f10, f11, x12, x13, x14, x15, x16, x17, x18, x19, x20, x21, x22, x23, x24, x25, x26, x27, x28, x29, f30], ds, h, rd⟩ ∧ I m v5 v6 h
theorem zfbQ_l0_rule {f0 f1 f2 f3 f4 f7 f8 f9 f10 f11 f30 : Value} {ds : List Deferred} {rd : Option Nat} {Q : QP} (I : Nat → Value → Value → Heap → Prop) (hb : ∀ (m : Nat) (v5 v6 : Value) (h : Heap) (x12 x13 x14 x15 x16 x17 x18 x19 x20 x21 x22 x23 x24 x25 x26 x27 x28 x29 : Value) , I m v5 v6 h → RunC Tryz.prog T0 zfbQ_l0 ⟨[f0, f1, f2, f3, f4, v5, v6, f7, f8, f9, f10, f11, x12, x13, x14, x15, x16, x17, x18, x19, x20, x21, x22, x23, x24, x25, x26, x27, x28, x29, f30], ds, h, rd⟩ (loopQ (zfbQ_l0_J f0 f1 f2 f3 f4 f7 f8 f9 f10 f11 f30 ds rd I) m Q))
 (m : Nat) {v5 v6 : Value} {h : Heap} {x12 x13 x14 x15 x16 x17 x18 x19 x20 x21 x22 x23 x24 x25 x26 x27 x28 x29 : Value} (hi : I m v5 v6 h) : RunC Tryz.prog T0 (.loop zfbQ_l0) ⟨[f0, f1, f2, f3, f4, v5, v6, f7, f8, f9, f10, f11, x12, x13, x14, x15, x16, x17, x18, x19, x20, x21, x22, x23, x24, x25, x26, x27, x28, x29, f30], ds, h, rd⟩ Q :=
 RunC.loopJ (zfbQ_l0_J f0 f1 f2 f3 f4 f7 f8 f9 f10 f11 f30 ds rd I) (fun m s hj => by obtain ⟨v5, v6, h, x12, x13, x14, x15, x16, x17, x18, x19, x20, x21, x22, x23, x24, x25, x26, x27, x28, x29, rfl, hi⟩ := hj; exact hb m v5 v6 h x12 x13 x14 x15 x16 x17 x18 x19 x20 x21 x22 x23 x24 x25 x26 x27 x28 x29 hi) m _ ⟨_, _, h, _, _, _, _, _, _, _, _, _, _, _, _, _, _, _, _, _, _, rfl, hi⟩
theorem zfbQ_l0_again {f0 f1 f2 f3 f4 f7 f8 f9 f10 f11 f30 : Value} {ds : List Deferred} {rd : Option Nat} {Q : QP} {I : Nat → Value → Value → Heap → Prop} {m : Nat} (m' : Nat) {v5 v6 : Value} {h : Heap} {x12 x13 x14 x15 x16 x17 x18 x19 x20 x21 x22 x23 x24 x25 x26 x27 x28 x29 : Value} (hm : m' < m) (hi : I m' v5 v6 h) : loopQ (zfbQ_l0_J f0 f1 f2 f3 f4 f7 f8 f9 f10 f11 f30 ds rd I) m Q .normal ⟨[f0, f1, f2, f3, f4, v5, v6, f7, f8, f9, f10, f11, x12, x13, x14, x15, x16, x17, x18, x19, x20, x21, x22, x23, x24, x25, x26, x27, x28, x29, f30], ds, h, rd⟩ :=
 loopQ.again m' hm ⟨_, _, h, _, _, _, _, _, _, _, _, _, _, _, _, _, _, _, _, _, _, rfl, hi⟩
abbrev fn_zdQ : FuncId := 62
def zdQ_ra0 : Code := (rangeParts (subCode ((Tryz.prog.funcs[62]?).bind (·.body)) [true, false, true, false])).1
def zdQ_rb0 : Code := (rangeParts (subCode ((Tryz.prog.funcs[62]?).bind (·.body)) [true, false, true, false])).2
def zdQ_a0 : ACode :=
 (.region [
 o1 3 (.mov (tm 5))])
def zdQ_b0 : ACode :=
 (.block 1 (.seq (.region [
 o1 6 (.mov (tm 3)),
 o1 7 (.bin .neq (so (.binOp .neq 41 (tm 6) k0 41) 4) (tm 6) k0)]) (.cond (tm 7)
 (.seq (.region [
 o1 8 (.mov (tm 3)),
 o3 (.store 1 (tm 2) (tm 8))]) .ret)
 .skip)))
theorem zdQ_ca0 : comp Tryz.prog zdQ_ra0 = some zdQ_a0 := by kernel_rfl
theorem zdQ_cb0 : comp Tryz.prog zdQ_rb0 = some zdQ_b0 := by kernel_rfl
theorem zdQ_na0 : noDefer zdQ_ra0 = true := by kernel_rfl
theorem zdQ_nb0 : noDefer zdQ_rb0 = true := by kernel_rfl
def zdQ_c : ACode :=
 (.seq (.region [
 o1 2 (.alloc 41 [(.int .i64 0)])]) (.seq (.seq (.region [
 o1 4 (.mov (tm 0))]) (.block 0 (.rangeFunc (tm 4) [5] zdQ_ra0 zdQ_rb0))) (.seq (.region [
 o3 (.store 1 (tm 2) k0)]) .ret)))
def zdQ : AFunc := ⟨9, [(2, some none)], zdQ_c, none⟩
theorem zdQ_t0 : tableOf Tryz.prog 62 = some zdQ := by kernel_rfl
theorem zdQ_t : T0 62 = some zdQ := withKept_t rfl (withTrue_t rfl zdQ_t0)
theorem zdQ_runs {v0 : Value} {h : Heap} {R : RP} {X : XP} (k : RunC Tryz.prog T0 zdQ_c ⟨[v0, U, U, U, U, U, U, U, U], [], h, none⟩ (bodyQ Tryz.prog T0 [(2, some none)] R X)) :
 Runs Tryz.prog T0 (.fn 62) [v0] h R X := Runs.fn zdQ_t rfl k
abbrev fn_zbQ : FuncId := 63
def zbQ_c : ACode :=
 (.seq (.region [
 o1 1 (.box 101 (tm 0)),
 o1 2 (.mov (.const .nilFunc))]) (.seq (.region [
 o1 3 (.mkFunc (.func 99) [] [(tm 1)]),
 o1 2 (.mov (tm 3))]) .ret))
def zbQ : AFunc := ⟨4, [(2, none)], zbQ_c, none⟩
theorem zbQ_t0 : tableOf Tryz.prog 63 = some zbQ := by kernel_rfl
theorem zbQ_t : T0 63 = some zbQ := withKept_t rfl (withTrue_t rfl zbQ_t0)
theorem zbQ_runs {v0 : Value} {h : Heap} {R : RP} {X : XP} (k : RunC Tryz.prog T0 zbQ_c ⟨[v0, U, U, U], [], h, none⟩ (bodyQ Tryz.prog T0 [(2, none)] R X)) :
 Runs Tryz.prog T0 (.fn 63) [v0] h R X := Runs.fn zbQ_t rfl k
abbrev fn_zeQ : FuncId := 64
def zeQ_c : ACode :=
 (.seq (.region [
 o1 1 (.box 36 (tm 0)),
 o1 2 (.mov (.const (.slice none 0 0)))]) (.seq (.region [
 o1 3 (.mkFunc (.func 100) [] [(tm 1)]),
 o1 4 (.mkFunc (.func 102) [] [(tm 1)]),
 o1 5 (.mkFunc (.func 104) [] [(tm 1)]),
 o1 6 (.buildSlice 144 [.nilFunc, .nilFunc, .nilFunc] 3 [(0, 1, (tm 3)), (1, 1, (tm 4)), (2, 1, (tm 5))]),
 o1 2 (.mov (tm 6))]) .ret))
def zeQ : AFunc := ⟨7, [(2, none)], zeQ_c, none⟩
theorem zeQ_t0 : tableOf Tryz.prog 64 = some zeQ := by kernel_rfl
theorem zeQ_t : T0 64 = some zeQ := withKept_t rfl (withTrue_t rfl zeQ_t0)
theorem zeQ_runs {v0 : Value} {h : Heap} {R : RP} {X : XP} (k : RunC Tryz.prog T0 zeQ_c ⟨[v0, U, U, U, U, U, U], [], h, none⟩ (bodyQ Tryz.prog T0 [(2, none)] R X)) :
 Runs Tryz.prog T0 (.fn 64) [v0] h R X := Runs.fn zeQ_t rfl k
abbrev fn_zycQ : FuncId := 65
def zycQ_c : ACode :=
 (.seq (.region [
 o1 2 (.mov (.const (.pointer none))),
 o1 3 (.mov k0)]) (.seq (.seq (.region [
 o1 4 (.mov (tm 0)),
 o1 5 (.bin .lss (so (.binOp .lss 3 (tm 4) k0 3) 4) (tm 4) k0),
 o1 6 (.mov (tm 5)),
 o5 7 (.mov (tm 0)) 6,
 o5 8 (.bin .gtr (so (.binOp .gtr 3 (tm 7) (.const (.int .i64 1048576)) 3) 4) (tm 7) (.const (.int .i64 1048576))) 6,
 o1 9 (.pick (tm 6) (.const (.bool true)) (tm 8))]) (.cond (tm 9)
 (.seq (.region [
 o1 2 (.mov (.const (.pointer none))),
 o1 3 (.mov (.const (.int .i64 3)))]) .ret)
 .skip)) (.seq (.region [
 o1 10 (.mov (tm 0)),
 o1 11 (.build [(.int .i64 0), (.slice none 0 0), (.int .i64 0), (.bool false)] [(0, 1, (tm 10)), (3, 1, (.const (.bool true)))]),
 o1 12 (.box 149 (tm 11)),
 o1 2 (.mov (tm 12)),
 o1 3 (.mov k0)]) .ret)))
def zycQ : AFunc := ⟨13, [(2, none), (3, none)], zycQ_c, none⟩
theorem zycQ_t0 : tableOf Tryz.prog 65 = some zycQ := by kernel_rfl
theorem zycQ_t : T0 65 = some zycQ := withKept_t rfl (withTrue_t rfl zycQ_t0)
theorem zycQ_runs {v0 : Value} {h : Heap} {R : RP} {X : XP} (k : RunC Tryz.prog T0 zycQ_c ⟨[v0, U, U, U, U, U, U, U, U, U, U, U, U], [], h, none⟩ (bodyQ Tryz.prog T0 [(2, none), (3, none)] R X)) :
 Runs Tryz.prog T0 (.fn 65) [v0] h R X := Runs.fn zycQ_t rfl k
abbrev fn_zoQ : FuncId := 66
def zoQ_l0 : ACode :=
 (.seq (.region [
 o1 32 (.bin .lss (so (.binOp .lss 3 (tm 31) (.const (.int .i64 4)) 3) 0) (tm 31) (.const (.int .i64 4)))]) (.seq (.cond (tm 32)
 .skip
 (.exit 0)) (.seq (.block 1 (.seq (.region [
 o1 33 (.index 4 1 none (tm 30) (tm 31)),
 o1 8 (.mov (tm 33))]) (.region [
 o1 34 (.mov (tm 5)),
 o1 35 (.mov (tm 8)),
 o1 36 (.nilCheck (tm 35)),
 o1 37 (.load (some 32) (tm 36)),
 o1 38 (.callV (.func 109) [(tm 34), (tm 37)])]))) (.region [
 o1 39 (.bin .add (so (.binOp .add 3 (tm 31) (.const (.int .i64 1)) 3) 3) (tm 31) (.const (.int .i64 1))),
 o1 31 (.mov (tm 39))]))))
def zoQ_c : ACode :=
 (.seq (.region [
 o1 1 (.box 30 (tm 0)),
 o1 2 (.mov (.const (.slice none 0 0))),
 o1 3 (.mov k0)]) (.seq (.seq (.region [
 o1 9 (.load (some 131) (tm 1)),
 o1 10 (.callV (.func 101) [(tm 9)]),
 o1 4 (.mov (tm 10))]) (.seq (.region [
 o1 11 (.mov (tm 4)),
 o1 12 (.bin .neq (so (.binOp .neq 41 (tm 11) k0 41) 4) (tm 11) k0)]) (.cond (tm 12)
 (.seq (.region [
 o1 13 (.mov (tm 4)),
 o1 2 (.mov (.const (.slice none 0 0))),
 o1 3 (.mov (tm 13))]) .ret)
 .skip))) (.seq (.region [
 o1 15 (.callV (.func 65) [(.const (.int .i64 65536))]),
 o1 14 (.mov (tm 15)),
 o1 16 (.extract 0 (tm 14)),
 o1 17 (.extract 1 (tm 14)),
 o1 5 (.mov (tm 16)),
 o1 6 (.mov (tm 17))]) (.seq (.region [
 o1 18 (.mov (tm 5)),
 o1 19 (.fieldAddr 0 (tm 1)),
 o1 20 (.load none (tm 19)),
 o1 21 (.callV (.func 106) [(tm 18), (tm 20)])]) (.seq (.region [
 o1 22 (.mov (tm 5)),
 o1 23 (.fieldAddr 1 (tm 1)),
 o1 24 (.load none (tm 23)),
 o1 25 (.callV (.func 107) [(tm 22), (tm 24)])]) (.seq (.region [
 o1 26 (.mov (tm 5)),
 o1 27 (.fieldAddr 2 (tm 1)),
 o1 28 (.load none (tm 27)),
 o1 29 (.callV (.func 107) [(tm 26), (tm 28)])]) (.seq (.seq (.region [
 o1 30 (.callV (.func 108) [(tm 1)]),
 o1 31 (.mov k0)]) (.block 0 (.loop zoQ_l0))) (.seq (.region [
 o1 40 (.mov (tm 5)),
 o1 41 (.callV (.func 70) [(tm 40)]),
 o1 42 (.extract 0 (tm 41)),
 o1 43 (.extract 1 (tm 41)),
 o1 2 (.mov (tm 42)),
 o1 3 (.mov (tm 43))]) .ret))))))))
def zoQ : AFunc := ⟨44, [(2, none), (3, none)], zoQ_c, none⟩
theorem zoQ_t0 : tableOf Tryz.prog 66 = some zoQ := by kernel_rfl
theorem zoQ_t : T0 66 = some zoQ := withKept_t rfl (withTrue_t rfl zoQ_t0)
theorem zoQ_runs {v0 : Value} {h : Heap} {R : RP} {X : XP} (k : RunC Tryz.prog T0 zoQ_c ⟨[v0, U, U, U, U, U, U, U, U, U, U, U, U, U, U, U, U, U, U, U, U, U, U, U, U, U, U, U, U, U, U, U, U, U, U, U, U, U, U, U, U, U, U, U], [], h, none⟩ (bodyQ Tryz.prog T0 [(2, none), (3, none)] R X)) :
 Runs Tryz.prog T0 (.fn 66) [v0] h R X := Runs.fn zoQ_t rfl k
def zoQ_l0_J (f0 f1 f2 f3 f4 f5 f6 f7 f9 f10 f11 f12 f13 f14 f15 f16 f17 f18 f19 f20 f21 f22 f23 f24 f25 f26 f27 f28 f29 f30 f40 f41 f42 f43 : Value) (ds : List Deferred) (rd : Option Nat) (I : Nat → Value → Heap → Prop) (m : Nat) (s : St) : Prop := ∃ (v31 : Value), ∃ h : Heap, ∃ (x8 x32 x33 x34 x35 x36 x37 x38 x39 : Value), s = ⟨[f0, f1, f2, f3, f4, f5, f6, f7, x8, f9, f10, f11, f12, f13, f14, f15, f16, f17, f18, f19, f20, f21, f22, f23, f24, f25, f26, f27, f28, f29, f30, v31, x32, x33, x34, x35, x36, x37, x38, x39, f40, f41, f42, f43], ds, h, rd⟩ ∧ I m v31 h
theorem zoQ_l0_rule {f0 f1 f2 f3 f4 f5 f6 f7 f9 f10 f11 f12 f13 f14 f15 f16 f17 f18 f19 f20 f21 f22 f23 f24 f25 f26 f27 f28 f29 f30 f40 f41 f42 f43 : Value} {ds : List Deferred} {rd : Option Nat} {Q : QP} (I : Nat → Value → Heap → Prop) (hb : ∀ (m : Nat) (v31 : Value) (h : Heap) (x8 x32 x33 x34 x35 x36 x37 x38 x39 : Value) , I m v31 h → RunC Tryz.prog T0 zoQ_l0 ⟨[f0, f1, f2, f3, f4, f5, f6, f7, x8, f9, f10, f11, f12, f13, f14, f15, f16, f17, f18, f19, f20, f21, f22, f23, f24, f25, f26, f27, f28, f29, f30, v31, x32, x33, x34, x35, x36, x37, x38, x39, f40, f41, f42, f43], ds, h, rd⟩ (loopQ (zoQ_l0_J f0 f1 f2 f3 f4 f5 f6 f7 f9 f10 f11 f12 f13 f14 f15 f16 f17 f18 f19 f20 f21 f22 f23 f24 f25 f26 f27 f28 f29 f30 f40 f41 f42 f43 ds rd I) m Q))
 (m : Nat) {v31 : Value} {h : Heap} {x8 x32 x33 x34 x35 x36 x37 x38 x39 : Value} (hi : I m v31 h) : RunC Tryz.prog T0 (.loop zoQ_l0) ⟨[f0, f1, f2, f3, f4, f5, f6, f7, x8, f9, f10, f11, f12, f13, f14, f15, f16, f17, f18, f19, f20, f21, f22, f23, f24, f25, f26, f27, f28, f29, f30, v31, x32, x33, x34, x35, x36, x37, x38, x39, f40, f41, f42, f43], ds, h, rd⟩ Q :=
 RunC.loopJ (zoQ_l0_J f0 f1 f2 f3 f4 f5 f6 f7 f9 f10 f11 f12 f13 f14 f15 f16 f17 f18 f19 f20 f21 f22 f23 f24 f25 f26 f27 f28 f29 f30 f40 f41 f42 f43 ds rd I) (fun m s hj => by obtain ⟨v31, h, x8, x32, x33, x34, x35, x36, x37, x38, x39, rfl, hi⟩ := hj; exact hb m v31 h x8 x32 x33 x34 x35 x36 x37 x38 x39 hi) m _ ⟨_, h, _, _, _, _, _, _, _, _, _, rfl, hi⟩
theorem zoQ_l0_again {f0 f1 f2 f3 f4 f5 f6 f7 f9 f10 f11 f12 f13 f14 f15 f16 f17 f18 f19 f20 f21 f22 f23 f24 f25 f26 f27 f28 f29 f30 f40 f41 f42 f43 : Value} {ds : List Deferred} {rd : Option Nat} {Q : QP} {I : Nat → Value → Heap → Prop} {m : Nat} (m' : Nat) {v31 : Value} {h : Heap} {x8 x32 x33 x34 x35 x36 x37 x38 x39 : Value} (hm : m' < m) (hi : I m' v31 h) : loopQ (zoQ_l0_J f0 f1 f2 f3 f4 f5 f6 f7 f9 f10 f11 f12 f13 f14 f15 f16 f17 f18 f19 f20 f21 f22 f23 f24 f25 f26 f27 f28 f29 f30 f40 f41 f42 f43 ds rd I) m Q .normal ⟨[f0, f1, f2, f3, f4, f5, f6, f7, x8, f9, f10, f11, f12, f13, f14, f15, f16, f17, f18, f19, f20, f21, f22, f23, f24, f25, f26, f27, f28, f29, f30, v31, x32, x33, x34, x35, x36, x37, x38, x39, f40, f41, f42, f43], ds, h, rd⟩ :=
 loopQ.again m' hm ⟨_, h, _, _, _, _, _, _, _, _, _, rfl, hi⟩
abbrev fn_zkQ : FuncId := 67
def zkQ_l0 : ACode :=
 (.seq (.region [
 o1 35 (.bin .lss (so (.binOp .lss 3 (tm 34) (tm 33) 3) 0) (tm 34) (tm 33))]) (.seq (.cond (tm 35)
 .skip
 (.exit 0)) (.seq (.block 1 (.seq (.region [
 o1 36 (.indexSl 2 (tm 32) (tm 34)),
 o1 37 (.load (some 2) (tm 36)),
 o1 8 (.alloc 134 [(.int .i64 0), (.int .u64 0)]),
 o3 (.store 2 (tm 8) (tm 37))]) (.seq (.region [
 o1 38 (.mov (tm 5)),
 o1 39 (.fieldAddr 0 (tm 8)),
 o1 40 (.load none (tm 39)),
 o1 41 (.callV (.func 107) [(tm 38), (tm 40)])]) (.region [
 o1 42 (.mov (tm 5)),
 o1 43 (.fieldAddr 1 (tm 8)),
 o1 44 (.load none (tm 43)),
 o1 45 (.callV (.func 110) [(tm 42), (tm 44)])])))) (.region [
 o1 46 (.bin .add (so (.binOp .add 3 (tm 34) (.const (.int .i64 1)) 3) 3) (tm 34) (.const (.int .i64 1))),
 o1 34 (.mov (tm 46))]))))
def zkQ_c : ACode :=
 (.seq (.region [
 o1 1 (.box 33 (tm 0)),
 o1 2 (.mov (.const (.slice none 0 0))),
 o1 3 (.mov k0)]) (.seq (.seq (.region [
 o1 9 (.load (some 34) (tm 1)),
 o1 10 (.callV (.func 105) [(tm 9)]),
 o1 4 (.mov (tm 10))]) (.seq (.region [
 o1 11 (.mov (tm 4)),
 o1 12 (.bin .neq (so (.binOp .neq 41 (tm 11) k0 41) 4) (tm 11) k0)]) (.cond (tm 12)
 (.seq (.region [
 o1 13 (.mov (tm 4)),
 o1 2 (.mov (.const (.slice none 0 0))),
 o1 3 (.mov (tm 13))]) .ret)
 .skip))) (.seq (.region [
 o1 15 (.callV (.func 65) [(.const (.int .i64 1048576))]),
 o1 14 (.mov (tm 15)),
 o1 16 (.extract 0 (tm 14)),
 o1 17 (.extract 1 (tm 14)),
 o1 5 (.mov (tm 16)),
 o1 6 (.mov (tm 17))]) (.seq (.region [
 o1 18 (.mov (tm 5)),
 o1 19 (.fieldAddr 0 (tm 1)),
 o1 20 (.load none (tm 19)),
 o1 21 (.callV (.func 107) [(tm 18), (tm 20)])]) (.seq (.region [
 o1 22 (.mov (tm 5)),
 o1 23 (.fieldAddr 1 (tm 1)),
 o1 24 (.load (some 32) (tm 23)),
 o1 25 (.callV (.func 109) [(tm 22), (tm 24)])]) (.seq (.region [
 o1 26 (.mov (tm 5)),
 o1 27 (.fieldAddr 33 (tm 1)),
 o1 28 (.load none (tm 27)),
 o1 29 (.lenSl (tm 28)),
 o1 30 (.callV (.func 107) [(tm 26), (tm 29)])]) (.seq (.seq (.region [
 o1 31 (.fieldAddr 33 (tm 1)),
 o1 32 (.load none (tm 31)),
 o1 33 (.lenSl (tm 32)),
 o1 34 (.mov k0)]) (.block 0 (.loop zkQ_l0))) (.seq (.region [
 o1 47 (.mov (tm 5)),
 o1 48 (.callV (.func 70) [(tm 47)]),
 o1 49 (.extract 0 (tm 48)),
 o1 50 (.extract 1 (tm 48)),
 o1 2 (.mov (tm 49)),
 o1 3 (.mov (tm 50))]) .ret))))))))
def zkQ : AFunc := ⟨51, [(2, none), (3, none)], zkQ_c, none⟩
theorem zkQ_t0 : tableOf Tryz.prog 67 = some zkQ := by kernel_rfl
theorem zkQ_t : T0 67 = some zkQ := withKept_t rfl (withTrue_t rfl zkQ_t0)
theorem zkQ_runs {v0 : Value} {h : Heap} {R : RP} {X : XP} (k : RunC Tryz.prog T0 zkQ_c ⟨[v0, U, U, U, U, U, U, U, U, U, U, U, U, U, U, U, U, U, U, U, U, U, U, U, U, U, U, U, U, U, U, U, U, U, U, U, U, U, U, U, U, U, U, U, U, U, U, U, U, U, U], [], h, none⟩ (bodyQ Tryz.prog T0 [(2, none), (3, none)] R X)) :
 Runs Tryz.prog T0 (.fn 67) [v0] h R X := Runs.fn zkQ_t rfl k
def zkQ_l0_J (f0 f1 f2 f3 f4 f5 f6 f7 f9 f10 f11 f12 f13 f14 f15 f16 f17 f18 f19 f20 f21 f22 f23 f24 f25 f26 f27 f28 f29 f30 f31 f32 f33 f47 f48 f49 f50 : Value) (ds : List Deferred) (rd : Option Nat) (I : Nat → Value → Heap → Prop) (m : Nat) (s : St) : Prop := ∃ (v34 : Value), ∃ h : Heap, ∃ (x8 x35 x36 x37 x38 x39 x40 x41 x42 x43 x44 x45 x46 : Value), s = ⟨[f0, f1, f2, f3, f4, f5, f6, f7, x8, f9, f10, f11, f12, f13, f14, f15, f16, f17, f18, f19, f20, f21, f22, f23, f24, f25, f26, f27, f28, f29, f30, f31, f32, f33, v34, x35, x36, x37, x38, x39, x40, x41, x42, x43, x44, x45, x46, f47, f48, f49, f50], ds, h, rd⟩ ∧ I m v34 h
theorem zkQ_l0_rule {f0 f1 f2 f3 f4 f5 f6 f7 f9 f10 f11 f12 f13 f14 f15 f16 f17 f18 f19 f20 f21 f22 f23 f24 f25 f26 f27 f28 f29 f30 f31 f32 f33 f47 f48 f49 f50 : Value} {ds : List Deferred} {rd : Option Nat} {Q : QP} (I : Nat → Value → Heap → Prop) (hb : ∀ (m : Nat) (v34 : Value) (h : Heap) (x8 x35 x36 x37 x38 x39 x40 x41 x42 x43 x44 x45 x46 : Value) , I m v34 h → RunC Tryz.prog T0 zkQ_l0 ⟨[f0, f1, f2, f3, f4, f5, f6, f7, x8, f9, f10, f11, f12, f13, f14, f15, f16, f17, f18, f19, f20, f21, f22, f23, f24, f25, f26, f27, f28, f29, f30, f31, f32, f33, v34, x35, x36, x37, x38, x39, x40, x41, x42, x43, x44, x45, x46, f47, f48, f49, f50], ds, h, rd⟩ (loopQ (zkQ_l0_J f0 f1 f2 f3 f4 f5 f6 f7 f9 f10 f11 f12 f13 f14 f15 f16 f17 f18 f19 f20 f21 f22 f23 f24 f25 f26 f27 f28 f29 f30 f31 f32 f33 f47 f48 f49 f50 ds rd I) m Q))
 (m : Nat) {v34 : Value} {h : Heap} {x8 x35 x36 x37 x38 x39 x40 x41 x42 x43 x44 x45 x46 : Value} (hi : I m v34 h) : RunC Tryz.prog T0 (.loop zkQ_l0) ⟨[f0, f1, f2, f3, f4, f5, f6, f7, x8, f9, f10, f11, f12, f13, f14, f15, f16, f17, f18, f19, f20, f21, f22, f23, f24, f25, f26, f27, f28, f29, f30, f31, f32, f33, v34, x35, x36, x37, x38, x39, x40, x41, x42, x43, x44, x45, x46, f47, f48, f49, f50], ds, h, rd⟩ Q :=
 RunC.loopJ (zkQ_l0_J f0 f1 f2 f3 f4 f5 f6 f7 f9 f10 f11 f12 f13 f14 f15 f16 f17 f18 f19 f20 f21 f22 f23 f24 f25 f26 f27 f28 f29 f30 f31 f32 f33 f47 f48 f49 f50 ds rd I) (fun m s hj => by obtain ⟨v34, h, x8, x35, x36, x37, x38, x39, x40, x41, x42, x43, x44, x45, x46, rfl, hi⟩ := hj; exact hb m v34 h x8 x35 x36 x37 x38 x39 x40 x41 x42 x43 x44 x45 x46 hi) m _ ⟨_, h, _, _, _, _, _, _, _, _, _, _, _, _, _, rfl, hi⟩
theorem zkQ_l0_again {f0 f1 f2 f3 f4 f5 f6 f7 f9 f10 f11 f12 f13 f14 f15 f16 f17 f18 f19 f20 f21 f22 f23 f24 f25 f26 f27 f28 f29 f30 f31 f32 f33 f47 f48 f49 f50 : Value} {ds : List Deferred} {rd : Option Nat} {Q : QP} {I : Nat → Value → Heap → Prop} {m : Nat} (m' : Nat) {v34 : Value} {h : Heap} {x8 x35 x36 x37 x38 x39 x40 x41 x42 x43 x44 x45 x46 : Value} (hm : m' < m) (hi : I m' v34 h) : loopQ (zkQ_l0_J f0 f1 f2 f3 f4 f5 f6 f7 f9 f10 f11 f12 f13 f14 f15 f16 f17 f18 f19 f20 f21 f22 f23 f24 f25 f26 f27 f28 f29 f30 f31 f32 f33 f47 f48 f49 f50 ds rd I) m Q .normal ⟨[f0, f1, f2, f3, f4, f5, f6, f7, x8, f9, f10, f11, f12, f13, f14, f15, f16, f17, f18, f19, f20, f21, f22, f23, f24, f25, f26, f27, f28, f29, f30, f31, f32, f33, v34, x35, x36, x37, x38, x39, x40, x41, x42, x43, x44, x45, x46, f47, f48, f49, f50], ds, h, rd⟩ :=
 loopQ.again m' hm ⟨_, h, _, _, _, _, _, _, _, _, _, _, _, _, _, rfl, hi⟩
abbrev fn_zwcQ : FuncId := 68
def zwcQ_l0 : ACode :=
 (.seq (.region [
 o1 25 (.bin .lss (so (.binOp .lss 3 (tm 24) (tm 23) 3) 0) (tm 24) (tm 23))]) (.seq (.cond (tm 25)
 .skip
 (.exit 0)) (.seq (.block 1 (.seq (.region [
 o1 26 (.indexSl 5 (tm 22) (tm 24)),
 o1 27 (.load (some 5) (tm 26)),
 o1 8 (.alloc 132 [(.int .u8 0), (.int .u8 0), (.int .u8 0), (.int .u8 0), (.int .i64 0)]),
 o3 (.store 5 (tm 8) (tm 27))]) (.seq (.region [
 o1 28 (.mov (tm 5)),
 o1 29 (.fieldAddr 0 (tm 8)),
 o1 30 (.load (some 4) (tm 29)),
 o1 31 (.callV (.func 111) [(tm 28), (tm 30)])]) (.region [
 o1 32 (.mov (tm 5)),
 o1 33 (.fieldAddr 4 (tm 8)),
 o1 34 (.load none (tm 33)),
 o1 35 (.callV (.func 107) [(tm 32), (tm 34)])])))) (.region [
 o1 36 (.bin .add (so (.binOp .add 3 (tm 24) (.const (.int .i64 1)) 3) 3) (tm 24) (.const (.int .i64 1))),
 o1 24 (.mov (tm 36))]))))
def zwcQ_c : ACode :=
 (.seq (.region [
 o1 2 (.mov (.const (.slice none 0 0))),
 o1 3 (.mov k0)]) (.seq (.seq (.region [
 o1 9 (.mov (tm 0)),
 o1 10 (.callV (.func 103) [(tm 9)]),
 o1 4 (.mov (tm 10))]) (.seq (.region [
 o1 11 (.mov (tm 4)),
 o1 12 (.bin .neq (so (.binOp .neq 41 (tm 11) k0 41) 4) (tm 11) k0)]) (.cond (tm 12)
 (.seq (.region [
 o1 13 (.mov (tm 4)),
 o1 2 (.mov (.const (.slice none 0 0))),
 o1 3 (.mov (tm 13))]) .ret)
 .skip))) (.seq (.region [
 o1 15 (.callV (.func 65) [(.const (.int .i64 1048576))]),
 o1 14 (.mov (tm 15)),
 o1 16 (.extract 0 (tm 14)),
 o1 17 (.extract 1 (tm 14)),
 o1 5 (.mov (tm 16)),
 o1 6 (.mov (tm 17))]) (.seq (.region [
 o1 18 (.mov (tm 5)),
 o1 19 (.mov (tm 0)),
 o1 20 (.lenSl (tm 19)),
 o1 21 (.callV (.func 107) [(tm 18), (tm 20)])]) (.seq (.seq (.region [
 o1 22 (.mov (tm 0)),
 o1 23 (.lenSl (tm 22)),
 o1 24 (.mov k0)]) (.block 0 (.loop zwcQ_l0))) (.seq (.region [
 o1 37 (.mov (tm 5)),
 o1 38 (.callV (.func 70) [(tm 37)]),
 o1 39 (.extract 0 (tm 38)),
 o1 40 (.extract 1 (tm 38)),
 o1 2 (.mov (tm 39)),
 o1 3 (.mov (tm 40))]) .ret))))))
def zwcQ : AFunc := ⟨41, [(2, none), (3, none)], zwcQ_c, none⟩
theorem zwcQ_t0 : tableOf Tryz.prog 68 = some zwcQ := by kernel_rfl
theorem zwcQ_t : T0 68 = some zwcQ := withKept_t rfl (withTrue_t rfl zwcQ_t0)
theorem zwcQ_runs {v0 : Value} {h : Heap} {R : RP} {X : XP} (k : RunC Tryz.prog T0 zwcQ_c ⟨[v0, U, U, U, U, U, U, U, U, U, U, U, U, U, U, U, U, U, U, U, U, U, U, U, U, U, U, U, U, U, U, U, U, U, U, U, U, U, U, U, U], [], h, none⟩ (bodyQ Tryz.prog T0 [(2, none), (3, none)] R X)) :
 Runs Tryz.prog T0 (.fn 68) [v0] h R X := Runs.fn zwcQ_t rfl k
def zwcQ_l0_J (f0 f1 f2 f3 f4 f5 f6 f7 f9 f10 f11 f12 f13 f14 f15 f16 f17 f18 f19 f20 f21 f22 f23 f37 f38 f39 f40 : Value) (ds : List Deferred) (rd : Option Nat) (I : Nat → Value → Heap → Prop) (m : Nat) (s : St) : Prop := ∃ (v24 : Value), ∃ h : Heap, ∃ (x8 x25 x26 x27 x28 x29 x30 x31 x32 x33 x34 x35 x36 : Value), s = ⟨[f0, f1, f2, f3, f4, f5, f6, f7, x8, f9, f10, f11, f12, f13, f14, f15, f16, f17, f18, f19, f20, f21, f22, f23, v24, x25, x26, x27, x28, x29, x30, x31, x32, x33, x34, x35, x36, f37, f38, f39, f40], ds, h, rd⟩ ∧ I m v24 h
theorem zwcQ_l0_rule {f0 f1 f2 f3 f4 f5 f6 f7 f9 f10 f11 f12 f13 f14 f15 f16 f17 f18 f19 f20 f21 f22 f23 f37 f38 f39 f40 : Value} {ds : List Deferred} {rd : Option Nat} {Q : QP} (I : Nat → Value → Heap → Prop) (hb : ∀ (m : Nat) (v24 : Value) (h : Heap) (x8 x25 x26 x27 x28 x29 x30 x31 x32 x33 x34 x35 x36 : Value) , I m v24 h → RunC Tryz.prog T0 zwcQ_l0 ⟨[f0, f1, f2, f3, f4, f5, f6, f7, x8, f9, f10, f11, f12, f13, f14, f15, f16, f17, f18, f19, f20, f21, f22, f23, v24, x25, x26, x27, x28, x29, x30, x31, x32, x33, x34, x35, x36, f37, f38, f39, f40], ds, h, rd⟩ (loopQ (zwcQ_l0_J f0 f1 f2 f3 f4 f5 f6 f7 f9 f10 f11 f12 f13 f14 f15 f16 f17 f18 f19 f20 f21 f22 f23 f37 f38 f39 f40 ds rd I) m Q))
 (m : Nat) {v24 : Value} {h : Heap} {x8 x25 x26 x27 x28 x29 x30 x31 x32 x33 x34 x35 x36 : Value} (hi : I m v24 h) : RunC Tryz.prog T0 (.loop zwcQ_l0) ⟨[f0, f1, f2, f3, f4, f5, f6, f7, x8, f9, f10, f11, f12, f13, f14, f15, f16, f17, f18, f19, f20, f21, f22, f23, v24, x25, x26, x27, x28, x29, x30, x31, x32, x33, x34, x35, x36, f37, f38, f39, f40], ds, h, rd⟩ Q :=
 RunC.loopJ (zwcQ_l0_J f0 f1 f2 f3 f4 f5 f6 f7 f9 f10 f11 f12 f13 f14 f15 f16 f17 f18 f19 f20 f21 f22 f23 f37 f38 f39 f40 ds rd I) (fun m s hj => by obtain ⟨v24, h, x8, x25, x26, x27, x28, x29, x30, x31, x32, x33, x34, x35, x36, rfl, hi⟩ := hj; exact hb m v24 h x8 x25 x26 x27 x28 x29 x30 x31 x32 x33 x34 x35 x36 hi) m _ ⟨_, h, _, _, _, _, _, _, _, _, _, _, _, _, _, rfl, hi⟩
theorem zwcQ_l0_again {f0 f1 f2 f3 f4 f5 f6 f7 f9 f10 f11 f12 f13 f14 f15 f16 f17 f18 f19 f20 f21 f22 f23 f37 f38 f39 f40 : Value} {ds : List Deferred} {rd : Option Nat} {Q : QP} {I : Nat → Value → Heap → Prop} {m : Nat} (m' : Nat) {v24 : Value} {h : Heap} {x8 x25 x26 x27 x28 x29 x30 x31 x32 x33 x34 x35 x36 : Value} (hm : m' < m) (hi : I m' v24 h) : loopQ (zwcQ_l0_J f0 f1 f2 f3 f4 f5 f6 f7 f9 f10 f11 f12 f13 f14 f15 f16 f17 f18 f19 f20 f21 f22 f23 f37 f38 f39 f40 ds rd I) m Q .normal ⟨[f0, f1, f2, f3, f4, f5, f6, f7, x8, f9, f10, f11, f12, f13, f14, f15, f16, f17, f18, f19, f20, f21, f22, f23, v24, x25, x26, x27, x28, x29, x30, x31, x32, x33, x34, x35, x36, f37, f38, f39, f40], ds, h, rd⟩ :=
 loopQ.again m' hm ⟨_, h, _, _, _, _, _, _, _, _, _, _, _, _, _, rfl, hi⟩
abbrev fn_zzcQ : FuncId := 69
def zzcQ_c : ACode :=
 (.seq (.region [
 o1 4 (.mov k0)]) (.seq (.region [
 o1 5 (.mov (tm 0)),
 o1 6 (.mov (tm 1)),
 o1 7 (.lenSl (tm 6)),
 o1 8 (.callV (.func 113) [(tm 7)]),
 o1 9 (.mov (tm 1)),
 o1 10 (.buildSlice 22 [(.slice none 0 0), (.slice none 0 0)] 2 [(0, 1, (tm 8)), (1, 1, (tm 9))]),
 o1 11 (.callV (.func 112) [(tm 5), (.const (.bool true)), (tm 10)]),
 o1 4 (.mov (tm 11))]) .ret))
def zzcQ : AFunc := ⟨12, [(4, none)], zzcQ_c, none⟩
theorem zzcQ_t0 : tableOf Tryz.prog 69 = some zzcQ := by kernel_rfl
theorem zzcQ_t : T0 69 = some zzcQ := withKept_t rfl (withTrue_t rfl zzcQ_t0)
theorem zzcQ_runs {v0 v1 : Value} {h : Heap} {R : RP} {X : XP} (k : RunC Tryz.prog T0 zzcQ_c ⟨[v0, v1, U, U, U, U, U, U, U, U, U, U], [], h, none⟩ (bodyQ Tryz.prog T0 [(4, none)] R X)) :
 Runs Tryz.prog T0 (.fn 69) [v0, v1] h R X := Runs.fn zzcQ_t rfl k
abbrev fn_zadQ : FuncId := 70
def zadQ_c : ACode :=
 (.seq (.region [
 o1 2 (.mov (.const (.slice none 0 0))),
 o1 3 (.mov k0)]) (.seq (.block 0 (.seq (.region [
 o1 5 (.mov (tm 0)),
 o1 6 (.eq .ptr false (so (.binOp .eql 103 (tm 5) (.const (.pointer none)) 103) 4) (tm 5) (.const (.pointer none))),
 o1 7 (.mov (tm 6)),
 o5 8 (.mov (tm 0)) 7,
 o5 9 (.nilCheck (tm 8)) 7,
 o5 10 (.fieldAddr 3 (tm 9)) 7,
 o5 11 (.load none (tm 10)) 7,
 o5 12 (.raw (so (.unOp .not 4 (tm 11)) 4)) 7,
 o1 13 (.pick (tm 7) (.const (.bool true)) (tm 12)),
 o1 4 (.mov (tm 13))]) (.cond (tm 4)
 (.seq (.region [
 o1 2 (.mov (.const (.slice none 0 0))),
 o1 3 (.mov (.const (.int .i64 1)))]) .ret)
 (.seq (.region [
 o1 15 (.mov (tm 0)),
 o1 16 (.nilCheck (tm 15)),
 o1 17 (.fieldAddr 2 (tm 16)),
 o1 18 (.load none (tm 17)),
 o1 19 (.bin .neq (so (.binOp .neq 41 (tm 18) k0 41) 4) (tm 18) k0),
 o1 14 (.mov (tm 19))]) (.cond (tm 14)
 (.seq (.regionD [
 o1 20 (.mov (tm 0)),
 o1 21 (.nilCheck (tm 20)),
 o1 22 (.fieldAddr 2 (tm 21)),
 o1 23 (.load none (tm 22)),
 o1 2 (.mov (.const (.slice none 0 0))),
 o2 3 (.mov (tm 23))]) .ret)
 .skip))))) (.seq (.region [
 o1 24 (.mov (tm 0)),
 o1 25 (.nilCheck (tm 24)),
 o1 26 (.fieldAddr 1 (tm 25)),
 o1 27 (.load none (tm 26)),
 o1 28 (.callV (.func 72) [(tm 27)]),
 o1 2 (.mov (tm 28)),
 o1 3 (.mov k0)]) .ret)))
def zadQ : AFunc := ⟨29, [(2, none), (3, none)], zadQ_c, none⟩
theorem zadQ_t0 : tableOf Tryz.prog 70 = some zadQ := by kernel_rfl
theorem zadQ_t : T0 70 = some zadQ := withKept_t rfl (withTrue_t rfl zadQ_t0)
theorem zadQ_runs {v0 : Value} {h : Heap} {R : RP} {X : XP} (k : RunC Tryz.prog T0 zadQ_c ⟨[v0, U, U, U, U, U, U, U, U, U, U, U, U, U, U, U, U, U, U, U, U, U, U, U, U, U, U, U, U], [], h, none⟩ (bodyQ Tryz.prog T0 [(2, none), (3, none)] R X)) :
 Runs Tryz.prog T0 (.fn 70) [v0] h R X := Runs.fn zadQ_t rfl k
abbrev fn_zscQ : FuncId := 72
def zscQ_c : ACode :=
 (.seq (.region [
 o1 2 (.mov (.const (.slice none 0 0)))]) (.seq (.seq (.region [
 o1 3 (.mov (tm 0)),
 o1 4 (.eq .slice false (so (.binOp .eql 22 (tm 3) (.const (.slice none 0 0)) 22) 4) (tm 3) (.const (.slice none 0 0)))]) (.cond (tm 4)
 (.seq (.region [
 o1 2 (.mov (.const (.slice none 0 0)))]) .ret)
 .skip)) (.seq (.region [
 o1 5 (.buildSlice 5 [] 0 []),
 o1 6 (.mov (tm 0)),
 o1 7 (.append 5 1 1 [(.int .u8 0)] false (tm 5) (tm 6)),
 o1 2 (.mov (tm 7))]) .ret)))
def zscQ : AFunc := ⟨8, [(2, none)], zscQ_c, none⟩
theorem zscQ_t0 : tableOf Tryz.prog 72 = some zscQ := by kernel_rfl
theorem zscQ_t : T0 72 = some zscQ := withKept_t rfl (withTrue_t rfl zscQ_t0)
theorem zscQ_runs {v0 : Value} {h : Heap} {R : RP} {X : XP} (k : RunC Tryz.prog T0 zscQ_c ⟨[v0, U, U, U, U, U, U, U], [], h, none⟩ (bodyQ Tryz.prog T0 [(2, none)] R X)) :
 Runs Tryz.prog T0 (.fn 72) [v0] h R X := Runs.fn zscQ_t rfl k
abbrev fn_zrcQ : FuncId := 90
def zrcQ_c : ACode :=
 (.seq (.region [
 o1 2 (.mov (.const .nilIface))]) (.seq (.seq (.region [
 o1 5 (.mov (tm 0))]) (.block 0 (.seq (.region [
 o1 6 (.assertTo 26 (.agg ⟨[(.int .i64 0), (.int .i64 0)]⟩) true (tm 5)),
 o1 7 (.extract 1 (tm 6)),
 o1 8 (.extract 0 (tm 6))]) (.cond (tm 7)
 (.seq (.region [
 o1 3 (.alloc 26 [(.int .i64 0), (.int .i64 0)]),
 o3 (.store 2 (tm 3) (tm 8))]) (.seq (.region [
 o1 9 (.load (some 2) (tm 3)),
 o1 10 (.mkIface 168 (tm 9)),
 o1 2 (.mov (tm 10))]) .ret))
 (.seq (.region [
 o1 11 (.assertTo 38 (.agg ⟨((.int .i64 0) :: ((.string ⟨⟨[]⟩⟩) :: ((.int .i64 0) :: ((.int .i64 0) :: (z32 ++ (z32 ++ (z32 ++ (z32 ++ ((.int .i64 0) :: (z32 ++ [(.slice none 0 0), (.slice none 0 0)]))))))))))⟩) true (tm 5)),
 o1 12 (.extract 1 (tm 11)),
 o1 13 (.extract 0 (tm 11))]) (.cond (tm 12)
 (.seq (.region [
 o1 4 (.alloc 38 ((.int .i64 0) :: ((.string ⟨⟨[]⟩⟩) :: ((.int .i64 0) :: ((.int .i64 0) :: (z32 ++ (z32 ++ (z32 ++ (z32 ++ ((.int .i64 0) :: (z32 ++ [(.slice none 0 0), (.slice none 0 0)]))))))))))),
 o3 (.store 167 (tm 4) (tm 13))]) (.seq (.region [
 o1 14 (.load (some 167) (tm 4)),
 o1 15 (.mkIface 169 (tm 14)),
 o1 2 (.mov (tm 15))]) .ret))
 .skip)))))) (.seq (.region [
 o1 2 (.mov (.const .nilIface))]) .ret)))
def zrcQ : AFunc := ⟨16, [(2, none)], zrcQ_c, none⟩
theorem zrcQ_t0 : tableOf Tryz.prog 90 = some zrcQ := by kernel_rfl
theorem zrcQ_t : T0 90 = some zrcQ := withKept_t rfl (withTrue_t rfl zrcQ_t0)
theorem zrcQ_runs {v0 : Value} {h : Heap} {R : RP} {X : XP} (k : RunC Tryz.prog T0 zrcQ_c ⟨[v0, U, U, U, U, U, U, U, U, U, U, U, U, U, U, U], [], h, none⟩ (bodyQ Tryz.prog T0 [(2, none)] R X)) :
 Runs Tryz.prog T0 (.fn 90) [v0] h R X := Runs.fn zrcQ_t rfl k
abbrev fn_zsbQ : FuncId := 91
def zsbQ_c : ACode :=
 (.seq (.region [
 o1 4 (.mov k0)]) (.seq (.seq (.regionD [
 o2 5 (.mov (tm 0)),
 o2 6 (.nilCheck (tm 5)),
 o2 7 (.fieldAddr 2 (tm 6)),
 o2 8 (.load none (tm 7)),
 o2 9 (.bin .eql (so (.binOp .eql 41 (tm 8) k0 41) 4) (tm 8) k0),
 o2 10 (.mov (tm 9)),
 o4 11 (.mov (tm 0)) 10,
 o4 12 (.nilCheck (tm 11)) 10,
 o4 13 (.fieldAddr 1 (tm 12)) 10,
 o4 14 (.load none (tm 13)) 10,
 o4 15 (.lenSl (tm 14)) 10,
 o4 16 (.mov (tm 1)) 10,
 o4 17 (.lenSl (tm 16)) 10,
 o4 18 (.bin .add (so (.binOp .add 3 (tm 15) (tm 17) 3) 3) (tm 15) (tm 17)) 10,
 o4 19 (.mov (tm 0)) 10,
 o4 20 (.nilCheck (tm 19)) 10,
 o4 21 (.fieldAddr 0 (tm 20)) 10,
 o4 22 (.load none (tm 21)) 10,
 ⟨some 23, .bin .gtr (so (.binOp .gtr 3 (tm 18) (tm 22) 3) 4) (tm 18) (tm 22), some (10, true), [], true⟩,
 o2 24 (.pick (tm 10) (tm 23) (.const (.bool false)))]) (.cond (tm 24)
 (.region [
 o1 25 (.mov (tm 0)),
 o1 26 (.nilCheck (tm 25)),
 o1 27 (.fieldAddr 2 (tm 26)),
 o3 (.store 1 (tm 27) (.const (.int .i64 4)))])
 .skip)) (.seq (.seq (.region [
 o1 28 (.mov (tm 0)),
 o1 29 (.nilCheck (tm 28)),
 o1 30 (.fieldAddr 2 (tm 29)),
 o1 31 (.load none (tm 30)),
 o1 32 (.bin .eql (so (.binOp .eql 41 (tm 31) k0 41) 4) (tm 31) k0)]) (.cond (tm 32)
 (.region [
 o1 33 (.mov (tm 0)),
 o1 34 (.buildSlice 5 [] 0 []),
 o1 35 (.mov (tm 0)),
 o1 36 (.nilCheck (tm 35)),
 o1 37 (.fieldAddr 1 (tm 36)),
 o1 38 (.load none (tm 37)),
 o1 39 (.append 5 1 1 [(.int .u8 0)] false (tm 34) (tm 38)),
 o1 40 (.mov (tm 1)),
 o1 41 (.append 5 1 1 [(.int .u8 0)] false (tm 39) (tm 40)),
 o1 42 (.nilCheck (tm 33)),
 o1 43 (.fieldAddr 1 (tm 42)),
 o3 (.store 1 (tm 43) (tm 41))])
 .skip)) (.seq (.region [
 o1 44 (.mov (tm 0)),
 o1 45 (.nilCheck (tm 44)),
 o1 46 (.fieldAddr 2 (tm 45)),
 o1 47 (.load none (tm 46)),
 o1 4 (.mov (tm 47))]) .ret))))
def zsbQ : AFunc := ⟨48, [(4, none)], zsbQ_c, none⟩
theorem zsbQ_t0 : tableOf Tryz.prog 91 = some zsbQ := by kernel_rfl
theorem zsbQ_t : T0 91 = some zsbQ := withKept_t rfl (withTrue_t rfl zsbQ_t0)
theorem zsbQ_runs {v0 v1 : Value} {h : Heap} {R : RP} {X : XP} (k : RunC Tryz.prog T0 zsbQ_c ⟨[v0, v1, U, U, U, U, U, U, U, U, U, U, U, U, U, U, U, U, U, U, U, U, U, U, U, U, U, U, U, U, U, U, U, U, U, U, U, U, U, U, U, U, U, U, U, U, U, U], [], h, none⟩ (bodyQ Tryz.prog T0 [(4, none)] R X)) :
 Runs Tryz.prog T0 (.fn 91) [v0, v1] h R X := Runs.fn zsbQ_t rfl k
abbrev fn_zlbQ : FuncId := 92
def zlbQ_l0 : ACode :=
 (.seq (.seq (.region [
 o1 4 (.mov (tm 0)),
 o1 5 (.bin .gtr (so (.binOp .gtr 3 (tm 4) k0 3) 4) (tm 4) k0)]) (.cond (tm 5)
 .skip
 (.exit 0))) (.block 1 (.seq (.region [
 o1 6 (.mov (tm 0)),
 o1 7 (.conv .u8 (so (.convert 3 5 (tm 6)) 5) (tm 6)),
 o1 8 (.buildSlice 5 [(.int .u8 0)] 1 [(0, 1, (tm 7))]),
 o1 9 (.mov (tm 3)),
 o1 10 (.append 5 1 1 [(.int .u8 0)] false (tm 8) (tm 9)),
 o1 3 (.mov (tm 10))]) (.region [
 o1 11 (.mov (tm 0)),
 o1 12 (.bin .shr (so (.binOp .shr 3 (tm 11) (.const (.int .u64 8)) 125) 3) (tm 11) (.const (.int .u64 8))),
 o1 0 (.mov (tm 12))]))))
def zlbQ_c : ACode :=
 (.seq (.region [
 o1 2 (.mov (.const (.slice none 0 0)))]) (.seq (.region [
 o1 3 (.mov (.const (.slice none 0 0)))]) (.seq (.block 0 (.loop zlbQ_l0)) (.seq (.region [
 o1 13 (.mov (tm 3)),
 o1 14 (.lenSl (tm 13)),
 o1 15 (.conv .u8 (so (.convert 3 5 (tm 14)) 5) (tm 14)),
 o1 16 (.buildSlice 5 [(.int .u8 0)] 1 [(0, 1, (tm 15))]),
 o1 17 (.mov (tm 3)),
 o1 18 (.append 5 1 1 [(.int .u8 0)] false (tm 16) (tm 17)),
 o1 2 (.mov (tm 18))]) .ret))))
def zlbQ : AFunc := ⟨19, [(2, none)], zlbQ_c, none⟩
theorem zlbQ_t0 : tableOf Tryz.prog 92 = some zlbQ := by kernel_rfl
theorem zlbQ_t : T0 92 = some zlbQ := withKept_t rfl (withTrue_t rfl zlbQ_t0)
theorem zlbQ_runs {v0 : Value} {h : Heap} {R : RP} {X : XP} (k : RunC Tryz.prog T0 zlbQ_c ⟨[v0, U, U, U, U, U, U, U, U, U, U, U, U, U, U, U, U, U, U], [], h, none⟩ (bodyQ Tryz.prog T0 [(2, none)] R X)) :
 Runs Tryz.prog T0 (.fn 92) [v0] h R X := Runs.fn zlbQ_t rfl k
def zlbQ_l0_J (f1 f2 f13 f14 f15 f16 f17 f18 : Value) (ds : List Deferred) (rd : Option Nat) (I : Nat → Value → Value → Heap → Prop) (m : Nat) (s : St) : Prop := ∃ (v0 v3 : Value), ∃ h : Heap, ∃ (x4 x5 x6 x7 x8 x9 x10 x11 x12 : Value), s = ⟨[v0, f1, f2, v3, x4, x5, x6, x7, x8, x9, x10, x11, x12, f13, f14, f15, f16, f17, f18], ds, h, rd⟩ ∧ I m v0 v3 h
theorem zlbQ_l0_rule {f1 f2 f13 f14 f15 f16 f17 f18 : Value} {ds : List Deferred} {rd : Option Nat} {Q : QP} (I : Nat → Value → Value → Heap → Prop) (hb : ∀ (m : Nat) (v0 v3 : Value) (h : Heap) (x4 x5 x6 x7 x8 x9 x10 x11 x12 : Value) , I m v0 v3 h → RunC Tryz.prog T0 zlbQ_l0 ⟨[v0, f1, f2, v3, x4, x5, x6, x7, x8, x9, x10, x11, x12, f13, f14, f15, f16, f17, f18], ds, h, rd⟩ (loopQ (zlbQ_l0_J f1 f2 f13 f14 f15 f16 f17 f18 ds rd I) m Q))
 (m : Nat) {v0 v3 : Value} {h : Heap} {x4 x5 x6 x7 x8 x9 x10 x11 x12 : Value} (hi : I m v0 v3 h) : RunC Tryz.prog T0 (.loop zlbQ_l0) ⟨[v0, f1, f2, v3, x4, x5, x6, x7, x8, x9, x10, x11, x12, f13, f14, f15, f16, f17, f18], ds, h, rd⟩ Q :=
 RunC.loopJ (zlbQ_l0_J f1 f2 f13 f14 f15 f16 f17 f18 ds rd I) (fun m s hj => by obtain ⟨v0, v3, h, x4, x5, x6, x7, x8, x9, x10, x11, x12, rfl, hi⟩ := hj; exact hb m v0 v3 h x4 x5 x6 x7 x8 x9 x10 x11 x12 hi) m _ ⟨_, _, h, _, _, _, _, _, _, _, _, _, rfl, hi⟩
theorem zlbQ_l0_again {f1 f2 f13 f14 f15 f16 f17 f18 : Value} {ds : List Deferred} {rd : Option Nat} {Q : QP} {I : Nat → Value → Value → Heap → Prop} {m : Nat} (m' : Nat) {v0 v3 : Value} {h : Heap} {x4 x5 x6 x7 x8 x9 x10 x11 x12 : Value} (hm : m' < m) (hi : I m' v0 v3 h) : loopQ (zlbQ_l0_J f1 f2 f13 f14 f15 f16 f17 f18 ds rd I) m Q .normal ⟨[v0, f1, f2, v3, x4, x5, x6, x7, x8, x9, x10, x11, x12, f13, f14, f15, f16, f17, f18], ds, h, rd⟩ :=
 loopQ.again m' hm ⟨_, _, h, _, _, _, _, _, _, _, _, _, rfl, hi⟩
abbrev fn_zfcQ : FuncId := 93
def zfcQ_c : ACode :=
 (.seq (.region [
 o1 1 (.box 36 (tm 0)),
 o1 2 (.mov k0)]) (.seq (.region [
 o1 4 (.fieldAddr 0 (tm 1)),
 o1 5 (.load (some 131) (tm 4)),
 o1 6 (.callV (.func 123) [(tm 5)]),
 o1 3 (.mov (tm 6))]) (.seq (.seq (.region [
 o1 7 (.mov (tm 3)),
 o1 8 (.bin .eql (so (.binOp .eql 41 (tm 7) k0 41) 4) (tm 7) k0)]) (.cond (tm 8)
 (.region [
 o1 9 (.fieldAddr 165 (tm 1)),
 o1 10 (.load none (tm 9)),
 o1 11 (.callV (.func 129) [(tm 10)]),
 o1 3 (.mov (tm 11))])
 .skip)) (.seq (.seq (.region [
 o1 12 (.mov (tm 3)),
 o1 13 (.bin .eql (so (.binOp .eql 41 (tm 12) k0 41) 4) (tm 12) k0)]) (.cond (tm 13)
 (.region [
 o1 14 (.fieldAddr 131 (tm 1)),
 o1 15 (.load (some 34) (tm 14)),
 o1 16 (.callV (.func 127) [(tm 15)]),
 o1 3 (.mov (tm 16))])
 .skip)) (.seq (.region [
 o1 17 (.mov (tm 3)),
 o1 2 (.mov (tm 17))]) .ret)))))
def zfcQ : AFunc := ⟨18, [(2, none)], zfcQ_c, none⟩
theorem zfcQ_t0 : tableOf Tryz.prog 93 = some zfcQ := by kernel_rfl
theorem zfcQ_t : T0 93 = some zfcQ := withKept_t rfl (withTrue_t rfl zfcQ_t0)
theorem zfcQ_runs {v0 : Value} {h : Heap} {R : RP} {X : XP} (k : RunC Tryz.prog T0 zfcQ_c ⟨[v0, U, U, U, U, U, U, U, U, U, U, U, U, U, U, U, U, U], [], h, none⟩ (bodyQ Tryz.prog T0 [(2, none)] R X)) :
 Runs Tryz.prog T0 (.fn 93) [v0] h R X := Runs.fn zfcQ_t rfl k
abbrev fn_zzbQ : FuncId := 94
def zzbQ_c : ACode :=
 (.seq (.region [
 o1 1 (.box 30 (tm 0)),
 o1 2 (.mov (.const (.slice none 0 0))),
 o1 3 (.mov k0)]) (.seq (.region [
 o1 7 (.load (some 131) (tm 1)),
 o1 8 (.callV (.func 123) [(tm 7)]),
 o1 4 (.mov (tm 8))]) (.seq (.seq (.region [
 o1 9 (.mov (tm 4)),
 o1 10 (.bin .neq (so (.binOp .neq 41 (tm 9) k0 41) 4) (tm 9) k0)]) (.cond (tm 10)
 (.seq (.region [
 o1 11 (.mov (tm 4)),
 o1 2 (.mov (.const (.slice none 0 0))),
 o1 3 (.mov (tm 11))]) .ret)
 .skip)) (.seq (.region [
 o1 13 (.callV (.func 55) [(.const (.int .i64 1048576))]),
 o1 12 (.mov (tm 13)),
 o1 14 (.extract 0 (tm 12)),
 o1 15 (.extract 1 (tm 12)),
 o1 5 (.mov (tm 14)),
 o1 6 (.mov (tm 15))]) (.seq (.region [
 o1 16 (.mov (tm 5)),
 o1 17 (.load (some 131) (tm 1)),
 o1 18 (.callV (.func 130) [(tm 16), (tm 17)])]) (.seq (.region [
 o1 19 (.mov (tm 5)),
 o1 20 (.callV (.func 57) [(tm 19)]),
 o1 21 (.extract 0 (tm 20)),
 o1 22 (.extract 1 (tm 20)),
 o1 2 (.mov (tm 21)),
 o1 3 (.mov (tm 22))]) .ret))))))
def zzbQ : AFunc := ⟨23, [(2, none), (3, none)], zzbQ_c, none⟩
theorem zzbQ_t0 : tableOf Tryz.prog 94 = some zzbQ := by kernel_rfl
theorem zzbQ_t : T0 94 = some zzbQ := withKept_t rfl (withTrue_t rfl zzbQ_t0)
theorem zzbQ_runs {v0 : Value} {h : Heap} {R : RP} {X : XP} (k : RunC Tryz.prog T0 zzbQ_c ⟨[v0, U, U, U, U, U, U, U, U, U, U, U, U, U, U, U, U, U, U, U, U, U, U], [], h, none⟩ (bodyQ Tryz.prog T0 [(2, none), (3, none)] R X)) :
 Runs Tryz.prog T0 (.fn 94) [v0] h R X := Runs.fn zzbQ_t rfl k
abbrev fn_zdcQ : FuncId := 95
def zdcQ_l0 : ACode :=
 (.seq (.seq (.region [
 o1 30 (.mov (tm 7)),
 o1 31 (.fieldAddr 33 (tm 1)),
 o1 32 (.load none (tm 31)),
 o1 33 (.lenSl (tm 32)),
 o1 34 (.bin .lss (so (.binOp .lss 3 (tm 30) (tm 33) 3) 4) (tm 30) (tm 33))]) (.cond (tm 34)
 .skip
 (.exit 0))) (.seq (.block 1 (.seq (.region [
 o1 37 (.mov (tm 5)),
 o1 38 (.fieldAddr 33 (tm 1)),
 o1 39 (.load none (tm 38)),
 o1 40 (.mov (tm 7)),
 o1 41 (.indexSl 2 (tm 39) (tm 40)),
 o1 42 (.fieldAddr 0 (tm 41)),
 o1 43 (.load none (tm 42)),
 o1 44 (.callV (.func 56) [(tm 37), (tm 43)])]) (.region [
 o1 45 (.mov (tm 5)),
 o1 46 (.fieldAddr 33 (tm 1)),
 o1 47 (.load none (tm 46)),
 o1 48 (.mov (tm 7)),
 o1 49 (.indexSl 2 (tm 47) (tm 48)),
 o1 50 (.fieldAddr 1 (tm 49)),
 o1 51 (.load none (tm 50)),
 o1 52 (.callV (.func 132) [(tm 45), (tm 51)])]))) (.region [
 o1 35 (.mov (tm 7)),
 o1 36 (.bin .add (so (.binOp .add 3 (tm 35) (.const (.int .i64 1)) 3) 3) (tm 35) (.const (.int .i64 1))),
 o1 7 (.mov (tm 36))])))
def zdcQ_c : ACode :=
 (.seq (.region [
 o1 1 (.box 33 (tm 0)),
 o1 2 (.mov (.const (.slice none 0 0))),
 o1 3 (.mov k0)]) (.seq (.region [
 o1 8 (.load (some 34) (tm 1)),
 o1 9 (.callV (.func 127) [(tm 8)]),
 o1 4 (.mov (tm 9))]) (.seq (.seq (.region [
 o1 10 (.mov (tm 4)),
 o1 11 (.bin .neq (so (.binOp .neq 41 (tm 10) k0 41) 4) (tm 10) k0)]) (.cond (tm 11)
 (.seq (.region [
 o1 12 (.mov (tm 4)),
 o1 2 (.mov (.const (.slice none 0 0))),
 o1 3 (.mov (tm 12))]) .ret)
 .skip)) (.seq (.region [
 o1 14 (.callV (.func 55) [(.const (.int .i64 65536))]),
 o1 13 (.mov (tm 14)),
 o1 15 (.extract 0 (tm 13)),
 o1 16 (.extract 1 (tm 13)),
 o1 5 (.mov (tm 15)),
 o1 6 (.mov (tm 16))]) (.seq (.region [
 o1 17 (.mov (tm 5)),
 o1 18 (.fieldAddr 0 (tm 1)),
 o1 19 (.load none (tm 18)),
 o1 20 (.callV (.func 56) [(tm 17), (tm 19)])]) (.seq (.region [
 o1 21 (.mov (tm 5)),
 o1 22 (.fieldAddr 1 (tm 1)),
 o1 23 (.load (some 32) (tm 22)),
 o1 24 (.callV (.func 131) [(tm 21), (tm 23)])]) (.seq (.region [
 o1 25 (.mov (tm 5)),
 o1 26 (.fieldAddr 33 (tm 1)),
 o1 27 (.load none (tm 26)),
 o1 28 (.lenSl (tm 27)),
 o1 29 (.callV (.func 56) [(tm 25), (tm 28)])]) (.seq (.seq (.region [
 o1 7 (.mov k0)]) (.block 0 (.loop zdcQ_l0))) (.seq (.region [
 o1 53 (.mov (tm 5)),
 o1 54 (.callV (.func 57) [(tm 53)]),
 o1 55 (.extract 0 (tm 54)),
 o1 56 (.extract 1 (tm 54)),
 o1 2 (.mov (tm 55)),
 o1 3 (.mov (tm 56))]) .ret)))))))))
def zdcQ : AFunc := ⟨57, [(2, none), (3, none)], zdcQ_c, none⟩
theorem zdcQ_t0 : tableOf Tryz.prog 95 = some zdcQ := by kernel_rfl
theorem zdcQ_t : T0 95 = some zdcQ := withKept_t rfl (withTrue_t rfl zdcQ_t0)
theorem zdcQ_runs {v0 : Value} {h : Heap} {R : RP} {X : XP} (k : RunC Tryz.prog T0 zdcQ_c ⟨[v0, U, U, U, U, U, U, U, U, U, U, U, U, U, U, U, U, U, U, U, U, U, U, U, U, U, U, U, U, U, U, U, U, U, U, U, U, U, U, U, U, U, U, U, U, U, U, U, U, U, U, U, U, U, U, U, U], [], h, none⟩ (bodyQ Tryz.prog T0 [(2, none), (3, none)] R X)) :
 Runs Tryz.prog T0 (.fn 95) [v0] h R X := Runs.fn zdcQ_t rfl k
def zdcQ_l0_J (f0 f1 f2 f3 f4 f5 f6 f8 f9 f10 f11 f12 f13 f14 f15 f16 f17 f18 f19 f20 f21 f22 f23 f24 f25 f26 f27 f28 f29 f53 f54 f55 f56 : Value) (ds : List Deferred) (rd : Option Nat) (I : Nat → Value → Heap → Prop) (m : Nat) (s : St) : Prop := ∃ (v7 : Value), ∃ h : Heap, ∃ (x30 x31 x32 x33 x34 x35 x36 x37 x38 x39 x40 x41 x42 x43 x44 x45 x46 x47 x48 x49 x50 x51 x52 : Value), s = ⟨[f0, f1, f2, f3, f4, f5, f6, v7, f8, f9, f10, f11, f12, f13, f14, f15, f16, f17, f18, f19, f20, f21, f22, f23, f24, f25, f26, f27, f28, f29, x30, x31, x32, x33, x34, x35, x36, x37, x38, x39, x40, x41, x42, x43, x44, x45, x46, x47, x48, x49, x50, x51, x52, f53, f54, f55, f56], ds, h, rd⟩ ∧ I m v7 h
theorem zdcQ_l0_rule {f0 f1 f2 f3 f4 f5 f6 f8 f9 f10 f11 f12 f13 f14 f15 f16 f17 f18 f19 f20 f21 f22 f23 f24 f25 f26 f27 f28 f29 f53 f54 f55 f56 : Value} {ds : List Deferred} {rd : Option Nat} {Q : QP} (I : Nat → Value → Heap → Prop) (hb : ∀ (m : Nat) (v7 : Value) (h : Heap) (x30 x31 x32 x33 x34 x35 x36 x37 x38 x39 x40 x41 x42 x43 x44 x45 x46 x47 x48 x49 x50 x51 x52 : Value) , I m v7 h → RunC Tryz.prog T0 zdcQ_l0 ⟨[f0, f1, f2, f3, f4, f5, f6, v7, f8, f9, f10, f11, f12, f13, f14, f15, f16, f17, f18, f19, f20, f21, f22, f23, f24, f25, f26, f27, f28, f29, x30, x31, x32, x33, x34, x35, x36, x37, x38, x39, x40, x41, x42, x43, x44, x45, x46, x47, x48, x49, x50, x51, x52, f53, f54, f55, f56], ds, h, rd⟩ (loopQ (zdcQ_l0_J f0 f1 f2 f3 f4 f5 f6 f8 f9 f10 f11 f12 f13 f14 f15 f16 f17 f18 f19 f20 f21 f22 f23 f24 f25 f26 f27 f28 f29 f53 f54 f55 f56 ds rd I) m Q))
 (m : Nat) {v7 : Value} {h : Heap} {x30 x31 x32 x33 x34 x35 x36 x37 x38 x39 x40 x41 x42 x43 x44 x45 x46 x47 x48 x49 x50 x51 x52 : Value} (hi : I m v7 h) : RunC Tryz.prog T0 (.loop zdcQ_l0) ⟨[f0, f1, f2, f3, f4, f5, f6, v7, f8, f9, f10, f11, f12, f13, f14, f15, f16, f17, f18, f19, f20, f21, f22, f23, f24, f25, f26, f27, f28, f29, x30, x31, x32, x33, x34, x35, x36, x37, x38, x39, x40, x41, x42, x43, x44, x45, x46, x47, x48, x49, x50, x51, x52, f53, f54, f55, f56], ds, h, rd⟩ Q :=
 RunC.loopJ (zdcQ_l0_J f0 f1 f2 f3 f4 f5 f6 f8 f9 f10 f11 f12 f13 f14 f15 f16 f17 f18 f19 f20 f21 f22 f23 f24 f25 f26 f27 f28 f29 f53 f54 f55 f56 ds rd I) (fun m s hj => by obtain ⟨v7, h, x30, x31, x32, x33, x34, x35, x36, x37, x38, x39, x40, x41, x42, x43, x44, x45, x46, x47, x48, x49, x50, x51, x52, rfl, hi⟩ := hj; exact hb m v7 h x30 x31 x32 x33 x34 x35 x36 x37 x38 x39 x40 x41 x42 x43 x44 x45 x46 x47 x48 x49 x50 x51 x52 hi) m _ ⟨_, h, _, _, _, _, _, _, _, _, _, _, _, _, _, _, _, _, _, _, _, _, _, _, _, rfl, hi⟩
theorem zdcQ_l0_again {f0 f1 f2 f3 f4 f5 f6 f8 f9 f10 f11 f12 f13 f14 f15 f16 f17 f18 f19 f20 f21 f22 f23 f24 f25 f26 f27 f28 f29 f53 f54 f55 f56 : Value} {ds : List Deferred} {rd : Option Nat} {Q : QP} {I : Nat → Value → Heap → Prop} {m : Nat} (m' : Nat) {v7 : Value} {h : Heap} {x30 x31 x32 x33 x34 x35 x36 x37 x38 x39 x40 x41 x42 x43 x44 x45 x46 x47 x48 x49 x50 x51 x52 : Value} (hm : m' < m) (hi : I m' v7 h) : loopQ (zdcQ_l0_J f0 f1 f2 f3 f4 f5 f6 f8 f9 f10 f11 f12 f13 f14 f15 f16 f17 f18 f19 f20 f21 f22 f23 f24 f25 f26 f27 f28 f29 f53 f54 f55 f56 ds rd I) m Q .normal ⟨[f0, f1, f2, f3, f4, f5, f6, v7, f8, f9, f10, f11, f12, f13, f14, f15, f16, f17, f18, f19, f20, f21, f22, f23, f24, f25, f26, f27, f28, f29, x30, x31, x32, x33, x34, x35, x36, x37, x38, x39, x40, x41, x42, x43, x44, x45, x46, x47, x48, x49, x50, x51, x52, f53, f54, f55, f56], ds, h, rd⟩ :=
 loopQ.again m' hm ⟨_, h, _, _, _, _, _, _, _, _, _, _, _, _, _, _, _, _, _, _, _, _, _, _, _, rfl, hi⟩
abbrev fn_zwbQ : FuncId := 96
def zwbQ_l0 : ACode :=
 (.seq (.seq (.region [
 o1 21 (.mov (tm 7)),
 o1 22 (.mov (tm 0)),
 o1 23 (.lenSl (tm 22)),
 o1 24 (.bin .lss (so (.binOp .lss 3 (tm 21) (tm 23) 3) 4) (tm 21) (tm 23))]) (.cond (tm 24)
 .skip
 (.exit 0))) (.seq (.block 1 (.seq (.region [
 o1 27 (.mov (tm 5)),
 o1 28 (.mov (tm 0)),
 o1 29 (.mov (tm 7)),
 o1 30 (.indexSl 5 (tm 28) (tm 29)),
 o1 31 (.fieldAddr 0 (tm 30)),
 o1 32 (.load (some 4) (tm 31)),
 o1 33 (.callV (.func 133) [(tm 27), (tm 32)])]) (.region [
 o1 34 (.mov (tm 5)),
 o1 35 (.mov (tm 0)),
 o1 36 (.mov (tm 7)),
 o1 37 (.indexSl 5 (tm 35) (tm 36)),
 o1 38 (.fieldAddr 4 (tm 37)),
 o1 39 (.load none (tm 38)),
 o1 40 (.callV (.func 56) [(tm 34), (tm 39)])]))) (.region [
 o1 25 (.mov (tm 7)),
 o1 26 (.bin .add (so (.binOp .add 3 (tm 25) (.const (.int .i64 1)) 3) 3) (tm 25) (.const (.int .i64 1))),
 o1 7 (.mov (tm 26))])))
def zwbQ_c : ACode :=
 (.seq (.region [
 o1 2 (.mov (.const (.slice none 0 0))),
 o1 3 (.mov k0)]) (.seq (.region [
 o1 8 (.mov (tm 0)),
 o1 9 (.callV (.func 129) [(tm 8)]),
 o1 4 (.mov (tm 9))]) (.seq (.seq (.region [
 o1 10 (.mov (tm 4)),
 o1 11 (.bin .neq (so (.binOp .neq 41 (tm 10) k0 41) 4) (tm 10) k0)]) (.cond (tm 11)
 (.seq (.region [
 o1 12 (.mov (tm 4)),
 o1 2 (.mov (.const (.slice none 0 0))),
 o1 3 (.mov (tm 12))]) .ret)
 .skip)) (.seq (.region [
 o1 14 (.callV (.func 55) [(.const (.int .i64 65536))]),
 o1 13 (.mov (tm 14)),
 o1 15 (.extract 0 (tm 13)),
 o1 16 (.extract 1 (tm 13)),
 o1 5 (.mov (tm 15)),
 o1 6 (.mov (tm 16))]) (.seq (.region [
 o1 17 (.mov (tm 5)),
 o1 18 (.mov (tm 0)),
 o1 19 (.lenSl (tm 18)),
 o1 20 (.callV (.func 56) [(tm 17), (tm 19)])]) (.seq (.seq (.region [
 o1 7 (.mov k0)]) (.block 0 (.loop zwbQ_l0))) (.seq (.region [
 o1 41 (.mov (tm 5)),
 o1 42 (.callV (.func 57) [(tm 41)]),
 o1 43 (.extract 0 (tm 42)),
 o1 44 (.extract 1 (tm 42)),
 o1 2 (.mov (tm 43)),
 o1 3 (.mov (tm 44))]) .ret)))))))
def zwbQ : AFunc := ⟨45, [(2, none), (3, none)], zwbQ_c, none⟩
theorem zwbQ_t0 : tableOf Tryz.prog 96 = some zwbQ := by kernel_rfl
theorem zwbQ_t : T0 96 = some zwbQ := withKept_t rfl (withTrue_t rfl zwbQ_t0)
theorem zwbQ_runs {v0 : Value} {h : Heap} {R : RP} {X : XP} (k : RunC Tryz.prog T0 zwbQ_c ⟨[v0, U, U, U, U, U, U, U, U, U, U, U, U, U, U, U, U, U, U, U, U, U, U, U, U, U, U, U, U, U, U, U, U, U, U, U, U, U, U, U, U, U, U, U, U], [], h, none⟩ (bodyQ Tryz.prog T0 [(2, none), (3, none)] R X)) :
 Runs Tryz.prog T0 (.fn 96) [v0] h R X := Runs.fn zwbQ_t rfl k
def zwbQ_l0_J (f0 f1 f2 f3 f4 f5 f6 f8 f9 f10 f11 f12 f13 f14 f15 f16 f17 f18 f19 f20 f41 f42 f43 f44 : Value) (ds : List Deferred) (rd : Option Nat) (I : Nat → Value → Heap → Prop) (m : Nat) (s : St) : Prop := ∃ (v7 : Value), ∃ h : Heap, ∃ (x21 x22 x23 x24 x25 x26 x27 x28 x29 x30 x31 x32 x33 x34 x35 x36 x37 x38 x39 x40 : Value), s = ⟨[f0, f1, f2, f3, f4, f5, f6, v7, f8, f9, f10, f11, f12, f13, f14, f15, f16, f17, f18, f19, f20, x21, x22, x23, x24, x25, x26, x27, x28, x29, x30, x31, x32, x33, x34, x35, x36, x37, x38, x39, x40, f41, f42, f43, f44], ds, h, rd⟩ ∧ I m v7 h
theorem zwbQ_l0_rule {f0 f1 f2 f3 f4 f5 f6 f8 f9 f10 f11 f12 f13 f14 f15 f16 f17 f18 f19 f20 f41 f42 f43 f44 : Value} {ds : List Deferred} {rd : Option Nat} {Q : QP} (I : Nat → Value → Heap → Prop) (hb : ∀ (m : Nat) (v7 : Value) (h : Heap) (x21 x22 x23 x24 x25 x26 x27 x28 x29 x30 x31 x32 x33 x34 x35 x36 x37 x38 x39 x40 : Value) , I m v7 h → RunC Tryz.prog T0 zwbQ_l0 ⟨[f0, f1, f2, f3, f4, f5, f6, v7, f8, f9, f10, f11, f12, f13, f14, f15, f16, f17, f18, f19, f20, x21, x22, x23, x24, x25, x26, x27, x28, x29, x30, x31, x32, x33, x34, x35, x36, x37, x38, x39, x40, f41, f42, f43, f44], ds, h, rd⟩ (loopQ (zwbQ_l0_J f0 f1 f2 f3 f4 f5 f6 f8 f9 f10 f11 f12 f13 f14 f15 f16 f17 f18 f19 f20 f41 f42 f43 f44 ds rd I) m Q))
 (m : Nat) {v7 : Value} {h : Heap} {x21 x22 x23 x24 x25 x26 x27 x28 x29 x30 x31 x32 x33 x34 x35 x36 x37 x38 x39 x40 : Value} (hi : I m v7 h) : RunC Tryz.prog T0 (.loop zwbQ_l0) ⟨[f0, f1, f2, f3, f4, f5, f6, v7, f8, f9, f10, f11, f12, f13, f14, f15, f16, f17, f18, f19, f20, x21, x22, x23, x24, x25, x26, x27, x28, x29, x30, x31, x32, x33, x34, x35, x36, x37, x38, x39, x40, f41, f42, f43, f44], ds, h, rd⟩ Q :=
 RunC.loopJ (zwbQ_l0_J f0 f1 f2 f3 f4 f5 f6 f8 f9 f10 f11 f12 f13 f14 f15 f16 f17 f18 f19 f20 f41 f42 f43 f44 ds rd I) (fun m s hj => by obtain ⟨v7, h, x21, x22, x23, x24, x25, x26, x27, x28, x29, x30, x31, x32, x33, x34, x35, x36, x37, x38, x39, x40, rfl, hi⟩ := hj; exact hb m v7 h x21 x22 x23 x24 x25 x26 x27 x28 x29 x30 x31 x32 x33 x34 x35 x36 x37 x38 x39 x40 hi) m _ ⟨_, h, _, _, _, _, _, _, _, _, _, _, _, _, _, _, _, _, _, _, _, _, rfl, hi⟩
theorem zwbQ_l0_again {f0 f1 f2 f3 f4 f5 f6 f8 f9 f10 f11 f12 f13 f14 f15 f16 f17 f18 f19 f20 f41 f42 f43 f44 : Value} {ds : List Deferred} {rd : Option Nat} {Q : QP} {I : Nat → Value → Heap → Prop} {m : Nat} (m' : Nat) {v7 : Value} {h : Heap} {x21 x22 x23 x24 x25 x26 x27 x28 x29 x30 x31 x32 x33 x34 x35 x36 x37 x38 x39 x40 : Value} (hm : m' < m) (hi : I m' v7 h) : loopQ (zwbQ_l0_J f0 f1 f2 f3 f4 f5 f6 f8 f9 f10 f11 f12 f13 f14 f15 f16 f17 f18 f19 f20 f41 f42 f43 f44 ds rd I) m Q .normal ⟨[f0, f1, f2, f3, f4, f5, f6, v7, f8, f9, f10, f11, f12, f13, f14, f15, f16, f17, f18, f19, f20, x21, x22, x23, x24, x25, x26, x27, x28, x29, x30, x31, x32, x33, x34, x35, x36, x37, x38, x39, x40, f41, f42, f43, f44], ds, h, rd⟩ :=
 loopQ.again m' hm ⟨_, h, _, _, _, _, _, _, _, _, _, _, _, _, _, _, _, _, _, _, _, _, rfl, hi⟩
abbrev fn_zjbQ : FuncId := 97
def zjbQ_c : ACode :=
 (.seq (.region [
 o1 2 (.mov (.const (.slice none 0 0)))]) (.seq (.region [
 o1 3 (.mov (tm 0)),
 o1 4 (.lenSl (tm 3)),
 o1 5 (.callV (.func 92) [(tm 4)]),
 o1 6 (.mov (tm 0)),
 o1 7 (.append 5 1 1 [(.int .u8 0)] false (tm 5) (tm 6)),
 o1 2 (.mov (tm 7))]) .ret))
def zjbQ : AFunc := ⟨8, [(2, none)], zjbQ_c, none⟩
theorem zjbQ_t0 : tableOf Tryz.prog 97 = some zjbQ := by kernel_rfl
theorem zjbQ_t : T0 97 = some zjbQ := withKept_t rfl (withTrue_t rfl zjbQ_t0)
theorem zjbQ_runs {v0 : Value} {h : Heap} {R : RP} {X : XP} (k : RunC Tryz.prog T0 zjbQ_c ⟨[v0, U, U, U, U, U, U, U], [], h, none⟩ (bodyQ Tryz.prog T0 [(2, none)] R X)) :
 Runs Tryz.prog T0 (.fn 97) [v0] h R X := Runs.fn zjbQ_t rfl k
abbrev fn_zgbQ : FuncId := 98
def zgbQ_l0 : ACode :=
 (.seq (.seq (.region [
 o1 12 (.mov (tm 5)),
 o1 13 (.mov (tm 12)),
 o4 14 (.mov (tm 6)) 13,
 o4 15 (.mov (tm 0)) 13,
 o4 16 (.lenSl (tm 15)) 13,
 o4 17 (.bin .lss (so (.binOp .lss 3 (tm 14) (tm 16) 3) 4) (tm 14) (tm 16)) 13,
 o1 18 (.pick (tm 13) (tm 17) (.const (.bool false)))]) (.cond (tm 18)
 .skip
 (.exit 0))) (.seq (.block 1 (.regionD [
 o1 21 (.mov (tm 0)),
 o1 22 (.mov (tm 6)),
 o1 23 (.indexSl 2 (tm 21) (tm 22)),
 o1 24 (.load (some 2) (tm 23)),
 o1 25 (.mov (tm 1)),
 o1 26 (.mov (tm 6)),
 o1 27 (.indexSl 2 (tm 25) (tm 26)),
 o1 28 (.load (some 2) (tm 27)),
 o2 29 (.bin .eql (so (.binOp .eql 134 (tm 24) (tm 28) 134) 4) (tm 24) (tm 28)),
 o2 5 (.mov (tm 29))])) (.region [
 o1 19 (.mov (tm 6)),
 o1 20 (.bin .add (so (.binOp .add 3 (tm 19) (.const (.int .i64 1)) 3) 3) (tm 19) (.const (.int .i64 1))),
 o1 6 (.mov (tm 20))])))
def zgbQ_c : ACode :=
 (.seq (.region [
 o1 4 (.mov (.const (.bool false)))]) (.seq (.region [
 o1 7 (.mov (tm 0)),
 o1 8 (.lenSl (tm 7)),
 o1 9 (.mov (tm 1)),
 o1 10 (.lenSl (tm 9)),
 o1 11 (.bin .eql (so (.binOp .eql 3 (tm 8) (tm 10) 3) 4) (tm 8) (tm 10)),
 o1 5 (.mov (tm 11))]) (.seq (.seq (.region [
 o1 6 (.mov k0)]) (.block 0 (.loop zgbQ_l0))) (.seq (.region [
 o1 30 (.mov (tm 5)),
 o1 4 (.mov (tm 30))]) .ret))))
def zgbQ : AFunc := ⟨31, [(4, none)], zgbQ_c, none⟩
theorem zgbQ_t0 : tableOf Tryz.prog 98 = some zgbQ := by kernel_rfl
theorem zgbQ_t : T0 98 = some zgbQ := withKept_t rfl (withTrue_t rfl zgbQ_t0)
theorem zgbQ_runs {v0 v1 : Value} {h : Heap} {R : RP} {X : XP} (k : RunC Tryz.prog T0 zgbQ_c ⟨[v0, v1, U, U, U, U, U, U, U, U, U, U, U, U, U, U, U, U, U, U, U, U, U, U, U, U, U, U, U, U, U], [], h, none⟩ (bodyQ Tryz.prog T0 [(4, none)] R X)) :
 Runs Tryz.prog T0 (.fn 98) [v0, v1] h R X := Runs.fn zgbQ_t rfl k
def zgbQ_l0_J (f0 f1 f2 f3 f4 f7 f8 f9 f10 f11 f30 : Value) (ds : List Deferred) (rd : Option Nat) (I : Nat → Value → Value → Heap → Prop) (m : Nat) (s : St) : Prop := ∃ (v5 v6 : Value), ∃ h : Heap, ∃ (x12 x13 x14 x15 x16 x17 x18 x19 x20 x21 x22 x23 x24 x25 x26 x27 x28 x29 : Value), s = ⟨[f0, f1, f2, f3, f4, v5, v6, f7, f8, f9, f10, f11, x12, x13, x14, x15, x16, x17, x18, x19, x20, x21, x22, x23, x24, x25, x26, x27, x28, x29, f30], ds, h, rd⟩ ∧ I m v5 v6 h
theorem zgbQ_l0_rule {f0 f1 f2 f3 f4 f7 f8 f9 f10 f11 f30 : Value} {ds : List Deferred} {rd : Option Nat} {Q : QP} (I : Nat → Value → Value → Heap → Prop) (hb : ∀ (m : Nat) (v5 v6 : Value) (h : Heap) (x12 x13 x14 x15 x16 x17 x18 x19 x20 x21 x22 x23 x24 x25 x26 x27 x28 x29 : Value) , I m v5 v6 h → RunC Tryz.prog T0 zgbQ_l0 ⟨[f0, f1, f2, f3, f4, v5, v6, f7, f8, f9, f10, f11, x12, x13, x14, x15, x16, x17, x18, x19, x20, x21, x22, x23, x24, x25, x26, x27, x28, x29, f30], ds, h, rd⟩ (loopQ (zgbQ_l0_J f0 f1 f2 f3 f4 f7 f8 f9 f10 f11 f30 ds rd I) m Q))
 (m : Nat) {v5 v6 : Value} {h : Heap} {x12 x13 x14 x15 x16 x17 x18 x19 x20 x21 x22 x23 x24 x25 x26 x27 x28 x29 : Value} (hi : I m v5 v6 h) : RunC Tryz.prog T0 (.loop zgbQ_l0) ⟨[f0, f1, f2, f3, f4, v5, v6, f7, f8, f9, f10, f11, x12, x13, x14, x15, x16, x17, x18, x19, x20, x21, x22, x23, x24, x25, x26, x27, x28, x29, f30], ds, h, rd⟩ Q :=
 RunC.loopJ (zgbQ_l0_J f0 f1 f2 f3 f4 f7 f8 f9 f10 f11 f30 ds rd I) (fun m s hj => by obtain ⟨v5, v6, h, x12, x13, x14, x15, x16, x17, x18, x19, x20, x21, x22, x23, x24, x25, x26, x27, x28, x29, rfl, hi⟩ := hj; exact hb m v5 v6 h x12 x13 x14 x15 x16 x17 x18 x19 x20 x21 x22 x23 x24 x25 x26 x27 x28 x29 hi) m _ ⟨_, _, h, _, _, _, _, _, _, _, _, _, _, _, _, _, _, _, _, _, _, rfl, hi⟩
theorem zgbQ_l0_again {f0 f1 f2 f3 f4 f7 f8 f9 f10 f11 f30 : Value} {ds : List Deferred} {rd : Option Nat} {Q : QP} {I : Nat → Value → Value → Heap → Prop} {m : Nat} (m' : Nat) {v5 v6 : Value} {h : Heap} {x12 x13 x14 x15 x16 x17 x18 x19 x20 x21 x22 x23 x24 x25 x26 x27 x28 x29 : Value} (hm : m' < m) (hi : I m' v5 v6 h) : loopQ (zgbQ_l0_J f0 f1 f2 f3 f4 f7 f8 f9 f10 f11 f30 ds rd I) m Q .normal ⟨[f0, f1, f2, f3, f4, v5, v6, f7, f8, f9, f10, f11, x12, x13, x14, x15, x16, x17, x18, x19, x20, x21, x22, x23, x24, x25, x26, x27, x28, x29, f30], ds, h, rd⟩ :=
 loopQ.again m' hm ⟨_, _, h, _, _, _, _, _, _, _, _, _, _, _, _, _, _, _, _, _, _, rfl, hi⟩
abbrev fn_zcQ : FuncId := 99
def zcQ_l0 : ACode :=
 (.seq (.region [
 o1 8 (.bin .lss (so (.binOp .lss 3 (tm 7) (tm 6) 3) 0) (tm 7) (tm 6))]) (.seq (.cond (tm 8)
 .skip
 (.exit 0)) (.seq (.block 1 (.seq (.region [
 o1 9 (.indexSl 1 (tm 5) (tm 7)),
 o1 10 (.load none (tm 9)),
 o1 4 (.mov (tm 10))]) (.seq (.region [
 o1 11 (.mov (tm 0)),
 o1 12 (.mov (tm 4)),
 o1 13 (.callV (tm 12) []),
 o1 14 (.callV (tm 11) [(tm 13)]),
 o1 15 (.raw (so (.unOp .not 4 (tm 14)) 4))]) (.cond (tm 15)
 .ret
 .skip)))) (.region [
 o1 16 (.bin .add (so (.binOp .add 3 (tm 7) (.const (.int .i64 1)) 3) 3) (tm 7) (.const (.int .i64 1))),
 o1 7 (.mov (tm 16))]))))
def zcQ_c : ACode :=
 (.seq (.region [
 o1 5 (.load none (tm 1)),
 o1 6 (.lenSl (tm 5)),
 o1 7 (.mov k0)]) (.block 0 (.loop zcQ_l0)))
def zcQ : AFunc := ⟨17, [], zcQ_c, none⟩
theorem zcQ_t0 : tableOf Tryz.prog 99 = some zcQ := by kernel_rfl
theorem zcQ_t : T0 99 = some zcQ := withKept_t rfl (withTrue_t rfl zcQ_t0)
theorem zcQ_runs {v0 v1 : Value} {h : Heap} {R : RP} {X : XP} (k : RunC Tryz.prog T0 zcQ_c ⟨[v0, v1, U, U, U, U, U, U, U, U, U, U, U, U, U, U, U], [], h, none⟩ (bodyQ Tryz.prog T0 [] R X)) :
 Runs Tryz.prog T0 (.fn 99) [v0, v1] h R X := Runs.fn zcQ_t rfl k
def zcQ_l0_J (f0 f1 f2 f3 f5 f6 : Value) (ds : List Deferred) (rd : Option Nat) (I : Nat → Value → Heap → Prop) (m : Nat) (s : St) : Prop := ∃ (v7 : Value), ∃ h : Heap, ∃ (x4 x8 x9 x10 x11 x12 x13 x14 x15 x16 : Value), s = ⟨[f0, f1, f2, f3, x4, f5, f6, v7, x8, x9, x10, x11, x12, x13, x14, x15, x16], ds, h, rd⟩ ∧ I m v7 h
theorem zcQ_l0_rule {f0 f1 f2 f3 f5 f6 : Value} {ds : List Deferred} {rd : Option Nat} {Q : QP} (I : Nat → Value → Heap → Prop) (hb : ∀ (m : Nat) (v7 : Value) (h : Heap) (x4 x8 x9 x10 x11 x12 x13 x14 x15 x16 : Value) , I m v7 h → RunC Tryz.prog T0 zcQ_l0 ⟨[f0, f1, f2, f3, x4, f5, f6, v7, x8, x9, x10, x11, x12, x13, x14, x15, x16], ds, h, rd⟩ (loopQ (zcQ_l0_J f0 f1 f2 f3 f5 f6 ds rd I) m Q))
 (m : Nat) {v7 : Value} {h : Heap} {x4 x8 x9 x10 x11 x12 x13 x14 x15 x16 : Value} (hi : I m v7 h) : RunC Tryz.prog T0 (.loop zcQ_l0) ⟨[f0, f1, f2, f3, x4, f5, f6, v7, x8, x9, x10, x11, x12, x13, x14, x15, x16], ds, h, rd⟩ Q :=
 RunC.loopJ (zcQ_l0_J f0 f1 f2 f3 f5 f6 ds rd I) (fun m s hj => by obtain ⟨v7, h, x4, x8, x9, x10, x11, x12, x13, x14, x15, x16, rfl, hi⟩ := hj; exact hb m v7 h x4 x8 x9 x10 x11 x12 x13 x14 x15 x16 hi) m _ ⟨_, h, _, _, _, _, _, _, _, _, _, _, rfl, hi⟩
theorem zcQ_l0_again {f0 f1 f2 f3 f5 f6 : Value} {ds : List Deferred} {rd : Option Nat} {Q : QP} {I : Nat → Value → Heap → Prop} {m : Nat} (m' : Nat) {v7 : Value} {h : Heap} {x4 x8 x9 x10 x11 x12 x13 x14 x15 x16 : Value} (hm : m' < m) (hi : I m' v7 h) : loopQ (zcQ_l0_J f0 f1 f2 f3 f5 f6 ds rd I) m Q .normal ⟨[f0, f1, f2, f3, x4, f5, f6, v7, x8, x9, x10, x11, x12, x13, x14, x15, x16], ds, h, rd⟩ :=
 loopQ.again m' hm ⟨_, h, _, _, _, _, _, _, _, _, _, _, rfl, hi⟩
abbrev fn_zfQ : FuncId := 100
def zfQ_c : ACode :=
 (.seq (.region [
 o1 1 (.mov k0)]) (.seq (.region [
 o1 2 (.fieldAddr 0 (tm 0)),
 o1 3 (.load (some 131) (tm 2)),
 o1 4 (.callV (.func 101) [(tm 3)]),
 o1 1 (.mov (tm 4))]) .ret))
def zfQ : AFunc := ⟨5, [(1, none)], zfQ_c, none⟩
theorem zfQ_t0 : tableOf Tryz.prog 100 = some zfQ := by kernel_rfl
theorem zfQ_t : T0 100 = some zfQ := withKept_t rfl (withTrue_t rfl zfQ_t0)
theorem zfQ_runs {v0 : Value} {h : Heap} {R : RP} {X : XP} (k : RunC Tryz.prog T0 zfQ_c ⟨[v0, U, U, U, U], [], h, none⟩ (bodyQ Tryz.prog T0 [(1, none)] R X)) :
 Runs Tryz.prog T0 (.fn 100) [v0] h R X := Runs.fn zfQ_t rfl k
abbrev fn_znQ : FuncId := 101
def znQ_l0 : ACode :=
 (.seq (.region [
 o1 8 (.bin .lss (so (.binOp .lss 3 (tm 7) (tm 6) 3) 0) (tm 7) (tm 6))]) (.seq (.cond (tm 8)
 .skip
 (.exit 0)) (.seq (.block 1 (.seq (.region [
 o1 9 (.indexSl 2 (tm 5) (tm 7)),
 o1 10 (.load (some 2) (tm 9)),
 o1 4 (.alloc 175 [.nilFunc, (.int .i64 0)]),
 o3 (.store 2 (tm 4) (tm 10))]) (.seq (.region [
 o1 11 (.fieldAddr 0 (tm 4)),
 o1 12 (.load none (tm 11)),
 o1 13 (.load (some 131) (tm 1)),
 o1 14 (.callV (tm 12) [(tm 13)]),
 o1 15 (.raw (so (.unOp .not 4 (tm 14)) 4))]) (.cond (tm 15)
 (.seq (.region [
 o1 16 (.fieldAddr 1 (tm 4)),
 o1 17 (.load none (tm 16)),
 o1 2 (.mov (tm 17))]) .ret)
 .skip)))) (.region [
 o1 18 (.bin .add (so (.binOp .add 3 (tm 7) (.const (.int .i64 1)) 3) 3) (tm 7) (.const (.int .i64 1))),
 o1 7 (.mov (tm 18))]))))
def znQ_c : ACode :=
 (.seq (.region [
 o1 1 (.box 30 (tm 0)),
 o1 2 (.mov k0)]) (.seq (.seq (.region [
 o1 5 (.callV (.func 134) []),
 o1 6 (.lenSl (tm 5)),
 o1 7 (.mov k0)]) (.block 0 (.loop znQ_l0))) (.seq (.region [
 o1 2 (.mov k0)]) .ret)))
def znQ : AFunc := ⟨19, [(2, none)], znQ_c, none⟩
theorem znQ_t0 : tableOf Tryz.prog 101 = some znQ := by kernel_rfl
theorem znQ_t : T0 101 = some znQ := withKept_t rfl (withTrue_t rfl znQ_t0)
theorem znQ_runs {v0 : Value} {h : Heap} {R : RP} {X : XP} (k : RunC Tryz.prog T0 znQ_c ⟨[v0, U, U, U, U, U, U, U, U, U, U, U, U, U, U, U, U, U, U], [], h, none⟩ (bodyQ Tryz.prog T0 [(2, none)] R X)) :
 Runs Tryz.prog T0 (.fn 101) [v0] h R X := Runs.fn znQ_t rfl k
def znQ_l0_J (f0 f1 f3 f5 f6 : Value) (ds : List Deferred) (rd : Option Nat) (I : Nat → Value → Heap → Prop) (m : Nat) (s : St) : Prop := ∃ (v7 : Value), ∃ h : Heap, ∃ (x2 x4 x8 x9 x10 x11 x12 x13 x14 x15 x16 x17 x18 : Value), s = ⟨[f0, f1, x2, f3, x4, f5, f6, v7, x8, x9, x10, x11, x12, x13, x14, x15, x16, x17, x18], ds, h, rd⟩ ∧ I m v7 h
theorem znQ_l0_rule {f0 f1 f3 f5 f6 : Value} {ds : List Deferred} {rd : Option Nat} {Q : QP} (I : Nat → Value → Heap → Prop) (hb : ∀ (m : Nat) (v7 : Value) (h : Heap) (x2 x4 x8 x9 x10 x11 x12 x13 x14 x15 x16 x17 x18 : Value) , I m v7 h → RunC Tryz.prog T0 znQ_l0 ⟨[f0, f1, x2, f3, x4, f5, f6, v7, x8, x9, x10, x11, x12, x13, x14, x15, x16, x17, x18], ds, h, rd⟩ (loopQ (znQ_l0_J f0 f1 f3 f5 f6 ds rd I) m Q))
 (m : Nat) {v7 : Value} {h : Heap} {x2 x4 x8 x9 x10 x11 x12 x13 x14 x15 x16 x17 x18 : Value} (hi : I m v7 h) : RunC Tryz.prog T0 (.loop znQ_l0) ⟨[f0, f1, x2, f3, x4, f5, f6, v7, x8, x9, x10, x11, x12, x13, x14, x15, x16, x17, x18], ds, h, rd⟩ Q :=
 RunC.loopJ (znQ_l0_J f0 f1 f3 f5 f6 ds rd I) (fun m s hj => by obtain ⟨v7, h, x2, x4, x8, x9, x10, x11, x12, x13, x14, x15, x16, x17, x18, rfl, hi⟩ := hj; exact hb m v7 h x2 x4 x8 x9 x10 x11 x12 x13 x14 x15 x16 x17 x18 hi) m _ ⟨_, h, _, _, _, _, _, _, _, _, _, _, _, _, _, rfl, hi⟩
theorem znQ_l0_again {f0 f1 f3 f5 f6 : Value} {ds : List Deferred} {rd : Option Nat} {Q : QP} {I : Nat → Value → Heap → Prop} {m : Nat} (m' : Nat) {v7 : Value} {h : Heap} {x2 x4 x8 x9 x10 x11 x12 x13 x14 x15 x16 x17 x18 : Value} (hm : m' < m) (hi : I m' v7 h) : loopQ (znQ_l0_J f0 f1 f3 f5 f6 ds rd I) m Q .normal ⟨[f0, f1, x2, f3, x4, f5, f6, v7, x8, x9, x10, x11, x12, x13, x14, x15, x16, x17, x18], ds, h, rd⟩ :=
 loopQ.again m' hm ⟨_, h, _, _, _, _, _, _, _, _, _, _, _, _, _, rfl, hi⟩
abbrev fn_zgQ : FuncId := 102
def zgQ_c : ACode :=
 (.seq (.region [
 o1 1 (.mov k0)]) (.seq (.region [
 o1 2 (.fieldAddr 165 (tm 0)),
 o1 3 (.load none (tm 2)),
 o1 4 (.callV (.func 103) [(tm 3)]),
 o1 1 (.mov (tm 4))]) .ret))
def zgQ : AFunc := ⟨5, [(1, none)], zgQ_c, none⟩
theorem zgQ_t0 : tableOf Tryz.prog 102 = some zgQ := by kernel_rfl
theorem zgQ_t : T0 102 = some zgQ := withKept_t rfl (withTrue_t rfl zgQ_t0)
theorem zgQ_runs {v0 : Value} {h : Heap} {R : RP} {X : XP} (k : RunC Tryz.prog T0 zgQ_c ⟨[v0, U, U, U, U], [], h, none⟩ (bodyQ Tryz.prog T0 [(1, none)] R X)) :
 Runs Tryz.prog T0 (.fn 102) [v0] h R X := Runs.fn zgQ_t rfl k
abbrev fn_zvcQ : FuncId := 103
def zvcQ_l0 : ACode :=
 (.seq (.region [
 o1 19 (.bin .lss (so (.binOp .lss 3 (tm 18) (tm 17) 3) 0) (tm 18) (tm 17))]) (.seq (.cond (tm 19)
 .skip
 (.exit 1)) (.seq (.block 2 (.seq (.region [
 o1 20 (.indexSl 5 (tm 16) (tm 18)),
 o1 21 (.load (some 5) (tm 20)),
 o1 5 (.alloc 132 [(.int .u8 0), (.int .u8 0), (.int .u8 0), (.int .u8 0), (.int .i64 0)]),
 o3 (.store 5 (tm 5) (tm 21))]) (.seq (.region [
 o1 22 (.load (some 5) (tm 5)),
 o1 23 (.callV (.func 135) [(tm 3), (tm 22)]),
 o1 6 (.mov (tm 23))]) (.seq (.region [
 o1 24 (.mov (tm 6)),
 o1 25 (.bin .neq (so (.binOp .neq 41 (tm 24) k0 41) 4) (tm 24) k0)]) (.cond (tm 25)
 (.seq (.region [
 o1 26 (.mov (tm 6)),
 o1 2 (.mov (tm 26))]) .ret)
 .skip))))) (.region [
 o1 27 (.bin .add (so (.binOp .add 3 (tm 18) (.const (.int .i64 1)) 3) 3) (tm 18) (.const (.int .i64 1))),
 o1 18 (.mov (tm 27))]))))
def zvcQ_c : ACode :=
 (.seq (.region [
 o1 2 (.mov k0)]) (.seq (.block 0 (.seq (.region [
 o1 8 (.mov (tm 0)),
 o1 9 (.lenSl (tm 8)),
 o1 10 (.bin .eql (so (.binOp .eql 3 (tm 9) k0 3) 4) (tm 9) k0),
 o1 7 (.mov (tm 10))]) (.cond (tm 7)
 (.seq (.region [
 o1 2 (.mov (.const (.int .i64 6)))]) .ret)
 (.seq (.region [
 o1 12 (.mov (tm 0)),
 o1 13 (.lenSl (tm 12)),
 o1 14 (.bin .gtr (so (.binOp .gtr 3 (tm 13) (.const (.int .i64 64)) 3) 4) (tm 13) (.const (.int .i64 64))),
 o1 11 (.mov (tm 14))]) (.cond (tm 11)
 (.seq (.region [
 o1 2 (.mov (.const (.int .i64 4)))]) .ret)
 .skip))))) (.seq (.region [
 o1 15 (.build [(.int .u8 0), (.int .u8 0), (.int .u8 0), (.int .u8 0), (.bool false), (.int .i64 0), (.int .i64 0)] [(5, 1, (.const (.int .i64 1))), (6, 1, (.const (.int .i64 4611686018427387904)))]),
 o1 3 (.alloc 177 [(.int .u8 0), (.int .u8 0), (.int .u8 0), (.int .u8 0), (.bool false), (.int .i64 0), (.int .i64 0)]),
 o3 (.store 7 (tm 3) (tm 15))]) (.seq (.seq (.region [
 o1 16 (.mov (tm 0)),
 o1 17 (.lenSl (tm 16)),
 o1 18 (.mov k0)]) (.block 1 (.loop zvcQ_l0))) (.seq (.region [
 o1 2 (.mov k0)]) .ret)))))
def zvcQ : AFunc := ⟨28, [(2, none)], zvcQ_c, none⟩
theorem zvcQ_t0 : tableOf Tryz.prog 103 = some zvcQ := by kernel_rfl
theorem zvcQ_t : T0 103 = some zvcQ := withKept_t rfl (withTrue_t rfl zvcQ_t0)
theorem zvcQ_runs {v0 : Value} {h : Heap} {R : RP} {X : XP} (k : RunC Tryz.prog T0 zvcQ_c ⟨[v0, U, U, U, U, U, U, U, U, U, U, U, U, U, U, U, U, U, U, U, U, U, U, U, U, U, U, U], [], h, none⟩ (bodyQ Tryz.prog T0 [(2, none)] R X)) :
 Runs Tryz.prog T0 (.fn 103) [v0] h R X := Runs.fn zvcQ_t rfl k
def zvcQ_l0_J (f0 f1 f3 f4 f7 f8 f9 f10 f11 f12 f13 f14 f15 f16 f17 : Value) (ds : List Deferred) (rd : Option Nat) (I : Nat → Value → Heap → Prop) (m : Nat) (s : St) : Prop := ∃ (v18 : Value), ∃ h : Heap, ∃ (x2 x5 x6 x19 x20 x21 x22 x23 x24 x25 x26 x27 : Value), s = ⟨[f0, f1, x2, f3, f4, x5, x6, f7, f8, f9, f10, f11, f12, f13, f14, f15, f16, f17, v18, x19, x20, x21, x22, x23, x24, x25, x26, x27], ds, h, rd⟩ ∧ I m v18 h
theorem zvcQ_l0_rule {f0 f1 f3 f4 f7 f8 f9 f10 f11 f12 f13 f14 f15 f16 f17 : Value} {ds : List Deferred} {rd : Option Nat} {Q : QP} (I : Nat → Value → Heap → Prop) (hb : ∀ (m : Nat) (v18 : Value) (h : Heap) (x2 x5 x6 x19 x20 x21 x22 x23 x24 x25 x26 x27 : Value) , I m v18 h → RunC Tryz.prog T0 zvcQ_l0 ⟨[f0, f1, x2, f3, f4, x5, x6, f7, f8, f9, f10, f11, f12, f13, f14, f15, f16, f17, v18, x19, x20, x21, x22, x23, x24, x25, x26, x27], ds, h, rd⟩ (loopQ (zvcQ_l0_J f0 f1 f3 f4 f7 f8 f9 f10 f11 f12 f13 f14 f15 f16 f17 ds rd I) m Q))
 (m : Nat) {v18 : Value} {h : Heap} {x2 x5 x6 x19 x20 x21 x22 x23 x24 x25 x26 x27 : Value} (hi : I m v18 h) : RunC Tryz.prog T0 (.loop zvcQ_l0) ⟨[f0, f1, x2, f3, f4, x5, x6, f7, f8, f9, f10, f11, f12, f13, f14, f15, f16, f17, v18, x19, x20, x21, x22, x23, x24, x25, x26, x27], ds, h, rd⟩ Q :=
 RunC.loopJ (zvcQ_l0_J f0 f1 f3 f4 f7 f8 f9 f10 f11 f12 f13 f14 f15 f16 f17 ds rd I) (fun m s hj => by obtain ⟨v18, h, x2, x5, x6, x19, x20, x21, x22, x23, x24, x25, x26, x27, rfl, hi⟩ := hj; exact hb m v18 h x2 x5 x6 x19 x20 x21 x22 x23 x24 x25 x26 x27 hi) m _ ⟨_, h, _, _, _, _, _, _, _, _, _, _, _, _, rfl, hi⟩
theorem zvcQ_l0_again {f0 f1 f3 f4 f7 f8 f9 f10 f11 f12 f13 f14 f15 f16 f17 : Value} {ds : List Deferred} {rd : Option Nat} {Q : QP} {I : Nat → Value → Heap → Prop} {m : Nat} (m' : Nat) {v18 : Value} {h : Heap} {x2 x5 x6 x19 x20 x21 x22 x23 x24 x25 x26 x27 : Value} (hm : m' < m) (hi : I m' v18 h) : loopQ (zvcQ_l0_J f0 f1 f3 f4 f7 f8 f9 f10 f11 f12 f13 f14 f15 f16 f17 ds rd I) m Q .normal ⟨[f0, f1, x2, f3, f4, x5, x6, f7, f8, f9, f10, f11, f12, f13, f14, f15, f16, f17, v18, x19, x20, x21, x22, x23, x24, x25, x26, x27], ds, h, rd⟩ :=
 loopQ.again m' hm ⟨_, h, _, _, _, _, _, _, _, _, _, _, _, _, rfl, hi⟩
abbrev fn_zhQ : FuncId := 104
def zhQ_c : ACode :=
 (.seq (.region [
 o1 1 (.mov k0)]) (.seq (.region [
 o1 2 (.fieldAddr 131 (tm 0)),
 o1 3 (.load (some 34) (tm 2)),
 o1 4 (.callV (.func 105) [(tm 3)]),
 o1 1 (.mov (tm 4))]) .ret))
def zhQ : AFunc := ⟨5, [(1, none)], zhQ_c, none⟩
theorem zhQ_t0 : tableOf Tryz.prog 104 = some zhQ := by kernel_rfl
theorem zhQ_t : T0 104 = some zhQ := withKept_t rfl (withTrue_t rfl zhQ_t0)
theorem zhQ_runs {v0 : Value} {h : Heap} {R : RP} {X : XP} (k : RunC Tryz.prog T0 zhQ_c ⟨[v0, U, U, U, U], [], h, none⟩ (bodyQ Tryz.prog T0 [(1, none)] R X)) :
 Runs Tryz.prog T0 (.fn 104) [v0] h R X := Runs.fn zhQ_t rfl k
abbrev fn_zjQ : FuncId := 105
def zjQ_l0 : ACode :=
 (.seq (.region [
 o1 26 (.bin .lss (so (.binOp .lss 3 (tm 25) (tm 24) 3) 0) (tm 25) (tm 24))]) (.seq (.cond (tm 26)
 .skip
 (.exit 1)) (.seq (.block 2 (.seq (.region [
 o1 27 (.indexSl 2 (tm 23) (tm 25)),
 o1 28 (.load (some 2) (tm 27)),
 o1 5 (.alloc 134 [(.int .i64 0), (.int .u64 0)]),
 o3 (.store 2 (tm 5) (tm 28))]) (.seq (.region [
 o1 29 (.mov (tm 3)),
 o1 30 (.load (some 2) (tm 5)),
 o1 31 (.callV (tm 29) [(tm 30)]),
 o1 6 (.mov (tm 31))]) (.seq (.region [
 o1 32 (.mov (tm 6)),
 o1 33 (.bin .neq (so (.binOp .neq 41 (tm 32) k0 41) 4) (tm 32) k0)]) (.cond (tm 33)
 (.seq (.region [
 o1 34 (.mov (tm 6)),
 o1 2 (.mov (tm 34))]) .ret)
 .skip))))) (.region [
 o1 35 (.bin .add (so (.binOp .add 3 (tm 25) (.const (.int .i64 1)) 3) 3) (tm 25) (.const (.int .i64 1))),
 o1 25 (.mov (tm 35))]))))
def zjQ_c : ACode :=
 (.seq (.region [
 o1 1 (.box 33 (tm 0)),
 o1 2 (.mov k0)]) (.seq (.block 0 (.seq (.region [
 o1 8 (.fieldAddr 0 (tm 1)),
 o1 9 (.load none (tm 8)),
 o1 10 (.bin .lss (so (.binOp .lss 3 (tm 9) (.const (.int .i64 1)) 3) 4) (tm 9) (.const (.int .i64 1))),
 o1 11 (.mov (tm 10)),
 o5 12 (.fieldAddr 0 (tm 1)) 11,
 o5 13 (.load none (tm 12)) 11,
 o5 14 (.bin .gtr (so (.binOp .gtr 3 (tm 13) (.const (.int .i64 1073741824)) 3) 4) (tm 13) (.const (.int .i64 1073741824))) 11,
 o1 15 (.pick (tm 11) (.const (.bool true)) (tm 14)),
 o1 7 (.mov (tm 15))]) (.cond (tm 7)
 (.seq (.region [
 o1 2 (.mov (.const (.int .i64 3)))]) .ret)
 (.seq (.region [
 o1 17 (.fieldAddr 33 (tm 1)),
 o1 18 (.load none (tm 17)),
 o1 19 (.lenSl (tm 18)),
 o1 20 (.bin .gtr (so (.binOp .gtr 3 (tm 19) (.const (.int .i64 64)) 3) 4) (tm 19) (.const (.int .i64 64))),
 o1 16 (.mov (tm 20))]) (.cond (tm 16)
 (.seq (.region [
 o1 2 (.mov (.const (.int .i64 4)))]) .ret)
 .skip))))) (.seq (.region [
 o1 21 (.callV (.func 136) []),
 o1 3 (.mov (tm 21))]) (.seq (.seq (.region [
 o1 22 (.fieldAddr 33 (tm 1)),
 o1 23 (.load none (tm 22)),
 o1 24 (.lenSl (tm 23)),
 o1 25 (.mov k0)]) (.block 1 (.loop zjQ_l0))) (.seq (.region [
 o1 2 (.mov k0)]) .ret)))))
def zjQ : AFunc := ⟨36, [(2, none)], zjQ_c, none⟩
theorem zjQ_t0 : tableOf Tryz.prog 105 = some zjQ := by kernel_rfl
theorem zjQ_t : T0 105 = some zjQ := withKept_t rfl (withTrue_t rfl zjQ_t0)
theorem zjQ_runs {v0 : Value} {h : Heap} {R : RP} {X : XP} (k : RunC Tryz.prog T0 zjQ_c ⟨[v0, U, U, U, U, U, U, U, U, U, U, U, U, U, U, U, U, U, U, U, U, U, U, U, U, U, U, U, U, U, U, U, U, U, U, U], [], h, none⟩ (bodyQ Tryz.prog T0 [(2, none)] R X)) :
 Runs Tryz.prog T0 (.fn 105) [v0] h R X := Runs.fn zjQ_t rfl k
def zjQ_l0_J (f0 f1 f3 f4 f7 f8 f9 f10 f11 f12 f13 f14 f15 f16 f17 f18 f19 f20 f21 f22 f23 f24 : Value) (ds : List Deferred) (rd : Option Nat) (I : Nat → Value → Heap → Prop) (m : Nat) (s : St) : Prop := ∃ (v25 : Value), ∃ h : Heap, ∃ (x2 x5 x6 x26 x27 x28 x29 x30 x31 x32 x33 x34 x35 : Value), s = ⟨[f0, f1, x2, f3, f4, x5, x6, f7, f8, f9, f10, f11, f12, f13, f14, f15, f16, f17, f18, f19, f20, f21, f22, f23, f24, v25, x26, x27, x28, x29, x30, x31, x32, x33, x34, x35], ds, h, rd⟩ ∧ I m v25 h
theorem zjQ_l0_rule {f0 f1 f3 f4 f7 f8 f9 f10 f11 f12 f13 f14 f15 f16 f17 f18 f19 f20 f21 f22 f23 f24 : Value} {ds : List Deferred} {rd : Option Nat} {Q : QP} (I : Nat → Value → Heap → Prop) (hb : ∀ (m : Nat) (v25 : Value) (h : Heap) (x2 x5 x6 x26 x27 x28 x29 x30 x31 x32 x33 x34 x35 : Value) , I m v25 h → RunC Tryz.prog T0 zjQ_l0 ⟨[f0, f1, x2, f3, f4, x5, x6, f7, f8, f9, f10, f11, f12, f13, f14, f15, f16, f17, f18, f19, f20, f21, f22, f23, f24, v25, x26, x27, x28, x29, x30, x31, x32, x33, x34, x35], ds, h, rd⟩ (loopQ (zjQ_l0_J f0 f1 f3 f4 f7 f8 f9 f10 f11 f12 f13 f14 f15 f16 f17 f18 f19 f20 f21 f22 f23 f24 ds rd I) m Q))
 (m : Nat) {v25 : Value} {h : Heap} {x2 x5 x6 x26 x27 x28 x29 x30 x31 x32 x33 x34 x35 : Value} (hi : I m v25 h) : RunC Tryz.prog T0 (.loop zjQ_l0) ⟨[f0, f1, x2, f3, f4, x5, x6, f7, f8, f9, f10, f11, f12, f13, f14, f15, f16, f17, f18, f19, f20, f21, f22, f23, f24, v25, x26, x27, x28, x29, x30, x31, x32, x33, x34, x35], ds, h, rd⟩ Q :=
 RunC.loopJ (zjQ_l0_J f0 f1 f3 f4 f7 f8 f9 f10 f11 f12 f13 f14 f15 f16 f17 f18 f19 f20 f21 f22 f23 f24 ds rd I) (fun m s hj => by obtain ⟨v25, h, x2, x5, x6, x26, x27, x28, x29, x30, x31, x32, x33, x34, x35, rfl, hi⟩ := hj; exact hb m v25 h x2 x5 x6 x26 x27 x28 x29 x30 x31 x32 x33 x34 x35 hi) m _ ⟨_, h, _, _, _, _, _, _, _, _, _, _, _, _, _, rfl, hi⟩
theorem zjQ_l0_again {f0 f1 f3 f4 f7 f8 f9 f10 f11 f12 f13 f14 f15 f16 f17 f18 f19 f20 f21 f22 f23 f24 : Value} {ds : List Deferred} {rd : Option Nat} {Q : QP} {I : Nat → Value → Heap → Prop} {m : Nat} (m' : Nat) {v25 : Value} {h : Heap} {x2 x5 x6 x26 x27 x28 x29 x30 x31 x32 x33 x34 x35 : Value} (hm : m' < m) (hi : I m' v25 h) : loopQ (zjQ_l0_J f0 f1 f3 f4 f7 f8 f9 f10 f11 f12 f13 f14 f15 f16 f17 f18 f19 f20 f21 f22 f23 f24 ds rd I) m Q .normal ⟨[f0, f1, x2, f3, f4, x5, x6, f7, f8, f9, f10, f11, f12, f13, f14, f15, f16, f17, f18, f19, f20, f21, f22, f23, f24, v25, x26, x27, x28, x29, x30, x31, x32, x33, x34, x35], ds, h, rd⟩ :=
 loopQ.again m' hm ⟨_, h, _, _, _, _, _, _, _, _, _, _, _, _, _, rfl, hi⟩
abbrev fn_zedQ : FuncId := 106
def zedQ_c : ACode :=
 (.seq (.region [
 o1 4 (.mov k0)]) (.seq (.region [
 o1 5 (.mov (tm 0)),
 o1 6 (.mov (tm 1)),
 o1 7 (.strToBytes 5 (tm 6)),
 o1 8 (.callV (.func 69) [(tm 5), (tm 7)]),
 o1 4 (.mov (tm 8))]) .ret))
def zedQ : AFunc := ⟨9, [(4, none)], zedQ_c, none⟩
theorem zedQ_t0 : tableOf Tryz.prog 106 = some zedQ := by kernel_rfl
theorem zedQ_t : T0 106 = some zedQ := withKept_t rfl (withTrue_t rfl zedQ_t0)
theorem zedQ_runs {v0 v1 : Value} {h : Heap} {R : RP} {X : XP} (k : RunC Tryz.prog T0 zedQ_c ⟨[v0, v1, U, U, U, U, U, U, U], [], h, none⟩ (bodyQ Tryz.prog T0 [(4, none)] R X)) :
 Runs Tryz.prog T0 (.fn 106) [v0, v1] h R X := Runs.fn zedQ_t rfl k
abbrev fn_zddQ : FuncId := 107
def zddQ_c : ACode :=
 (.seq (.region [
 o1 4 (.mov k0)]) (.seq (.region [
 o1 5 (.mov (tm 0)),
 o1 6 (.mov (tm 1)),
 o1 7 (.bin .geq (so (.binOp .geq 3 (tm 6) k0 3) 4) (tm 6) k0),
 o1 8 (.mov (tm 1)),
 o1 9 (.raw (so (.call ⟨.builtin .max, #[(tm 8), k0], #[3, 3]⟩) 3)),
 o1 10 (.callV (.func 113) [(tm 9)]),
 o1 11 (.buildSlice 22 [(.slice none 0 0)] 1 [(0, 1, (tm 10))]),
 o1 12 (.callV (.func 112) [(tm 5), (tm 7), (tm 11)]),
 o1 4 (.mov (tm 12))]) .ret))
def zddQ : AFunc := ⟨13, [(4, none)], zddQ_c, none⟩
theorem zddQ_t0 : tableOf Tryz.prog 107 = some zddQ := by kernel_rfl
theorem zddQ_t : T0 107 = some zddQ := withKept_t rfl (withTrue_t rfl zddQ_t0)
theorem zddQ_runs {v0 v1 : Value} {h : Heap} {R : RP} {X : XP} (k : RunC Tryz.prog T0 zddQ_c ⟨[v0, v1, U, U, U, U, U, U, U, U, U, U, U], [], h, none⟩ (bodyQ Tryz.prog T0 [(4, none)] R X)) :
 Runs Tryz.prog T0 (.fn 107) [v0, v1] h R X := Runs.fn zddQ_t rfl k
abbrev fn_zrQ : FuncId := 108
def zrQ_c : ACode :=
 (.seq (.region [
 o1 2 (.alloc 152 [(.pointer none), (.pointer none), (.pointer none), (.pointer none)])]) (.seq (.regionD [
 o1 3 (.mov (tm 0)),
 o1 4 (.nilCheck (tm 3)),
 o1 5 (.fieldAddr 3 (tm 4)),
 o1 6 (.mov (tm 0)),
 o1 7 (.nilCheck (tm 6)),
 o1 8 (.fieldAddr 35 (tm 7)),
 o1 9 (.mov (tm 0)),
 o1 10 (.nilCheck (tm 9)),
 o1 11 (.fieldAddr 67 (tm 10)),
 o1 12 (.mov (tm 0)),
 o1 13 (.nilCheck (tm 12)),
 o1 14 (.fieldAddr 99 (tm 13)),
 o2 15 (.build [(.pointer none), (.pointer none), (.pointer none), (.pointer none)] [(0, 1, (tm 5)), (1, 1, (tm 8)), (2, 1, (tm 11)), (3, 1, (tm 14))]),
 ⟨none, .store 4 (tm 2) (tm 15), none, [], true⟩]) .ret))
def zrQ : AFunc := ⟨16, [(2, some (some 4))], zrQ_c, none⟩
theorem zrQ_t0 : tableOf Tryz.prog 108 = some zrQ := by kernel_rfl
theorem zrQ_t : T0 108 = some zrQ := withKept_t rfl (withTrue_t rfl zrQ_t0)
theorem zrQ_runs {v0 : Value} {h : Heap} {R : RP} {X : XP} (k : RunC Tryz.prog T0 zrQ_c ⟨[v0, U, U, U, U, U, U, U, U, U, U, U, U, U, U, U], [], h, none⟩ (bodyQ Tryz.prog T0 [(2, some (some 4))] R X)) :
 Runs Tryz.prog T0 (.fn 108) [v0] h R X := Runs.fn zrQ_t rfl k
abbrev fn_zbdQ : FuncId := 109
def zbdQ_c : ACode :=
 (.seq (.region [
 o1 3 (.box 28 (tm 1)),
 o1 4 (.mov k0)]) (.seq (.region [
 o1 5 (.mov (tm 0)),
 o1 6 (.sliceArr 32 1 (tm 3) none none),
 o1 7 (.buildSlice 22 [(.slice none 0 0)] 1 [(0, 1, (tm 6))]),
 o1 8 (.callV (.func 112) [(tm 5), (.const (.bool true)), (tm 7)]),
 o1 4 (.mov (tm 8))]) .ret))
def zbdQ : AFunc := ⟨9, [(4, none)], zbdQ_c, none⟩
theorem zbdQ_t0 : tableOf Tryz.prog 109 = some zbdQ := by kernel_rfl
theorem zbdQ_t : T0 109 = some zbdQ := withKept_t rfl (withTrue_t rfl zbdQ_t0)
theorem zbdQ_runs {v0 v1 : Value} {h : Heap} {R : RP} {X : XP} (k : RunC Tryz.prog T0 zbdQ_c ⟨[v0, v1, U, U, U, U, U, U, U], [], h, none⟩ (bodyQ Tryz.prog T0 [(4, none)] R X)) :
 Runs Tryz.prog T0 (.fn 109) [v0, v1] h R X := Runs.fn zbdQ_t rfl k
abbrev fn_zfdQ : FuncId := 110
def zfdQ_c : ACode :=
 (.seq (.region [
 o1 4 (.mov k0)]) (.seq (.region [
 o1 6 (.mov (tm 1)),
 o1 7 (.callV (.func 137) [(tm 6)]),
 o1 5 (.alloc 181 [(.int .u8 0), (.int .u8 0), (.int .u8 0), (.int .u8 0), (.int .u8 0), (.int .u8 0), (.int .u8 0), (.int .u8 0)]),
 o3 (.store 8 (tm 5) (tm 7))]) (.seq (.region [
 o1 8 (.mov (tm 0)),
 o1 9 (.sliceArr 8 1 (tm 5) none none),
 o1 10 (.buildSlice 22 [(.slice none 0 0)] 1 [(0, 1, (tm 9))]),
 o1 11 (.callV (.func 112) [(tm 8), (.const (.bool true)), (tm 10)]),
 o1 4 (.mov (tm 11))]) .ret)))
def zfdQ : AFunc := ⟨12, [(4, none)], zfdQ_c, none⟩
theorem zfdQ_t0 : tableOf Tryz.prog 110 = some zfdQ := by kernel_rfl
theorem zfdQ_t : T0 110 = some zfdQ := withKept_t rfl (withTrue_t rfl zfdQ_t0)
theorem zfdQ_runs {v0 v1 : Value} {h : Heap} {R : RP} {X : XP} (k : RunC Tryz.prog T0 zfdQ_c ⟨[v0, v1, U, U, U, U, U, U, U, U, U, U], [], h, none⟩ (bodyQ Tryz.prog T0 [(4, none)] R X)) :
 Runs Tryz.prog T0 (.fn 110) [v0, v1] h R X := Runs.fn zfdQ_t rfl k
abbrev fn_zcdQ : FuncId := 111
def zcdQ_c : ACode :=
 (.seq (.region [
 o1 3 (.box 130 (tm 1)),
 o1 4 (.mov k0)]) (.seq (.region [
 o1 5 (.mov (tm 0)),
 o1 6 (.sliceArr 4 1 (tm 3) none none),
 o1 7 (.buildSlice 22 [(.slice none 0 0)] 1 [(0, 1, (tm 6))]),
 o1 8 (.callV (.func 112) [(tm 5), (.const (.bool true)), (tm 7)]),
 o1 4 (.mov (tm 8))]) .ret))
def zcdQ : AFunc := ⟨9, [(4, none)], zcdQ_c, none⟩
theorem zcdQ_t0 : tableOf Tryz.prog 111 = some zcdQ := by kernel_rfl
theorem zcdQ_t : T0 111 = some zcdQ := withKept_t rfl (withTrue_t rfl zcdQ_t0)
theorem zcdQ_runs {v0 v1 : Value} {h : Heap} {R : RP} {X : XP} (k : RunC Tryz.prog T0 zcdQ_c ⟨[v0, v1, U, U, U, U, U, U, U], [], h, none⟩ (bodyQ Tryz.prog T0 [(4, none)] R X)) :
 Runs Tryz.prog T0 (.fn 111) [v0, v1] h R X := Runs.fn zcdQ_t rfl k
abbrev fn_zgdQ : FuncId := 112
def zgdQ_c : ACode :=
 (.seq (.region [
 o1 6 (.mov k0)]) (.seq (.seq (.region [
 o1 8 (.mov (tm 0)),
 o1 9 (.eq .ptr false (so (.binOp .eql 103 (tm 8) (.const (.pointer none)) 103) 4) (tm 8) (.const (.pointer none))),
 o1 10 (.mov (tm 9)),
 o5 11 (.mov (tm 0)) 10,
 o5 12 (.nilCheck (tm 11)) 10,
 o5 13 (.fieldAddr 3 (tm 12)) 10,
 o5 14 (.load none (tm 13)) 10,
 o5 15 (.raw (so (.unOp .not 4 (tm 14)) 4)) 10,
 o1 16 (.pick (tm 10) (.const (.bool true)) (tm 15))]) (.cond (tm 16)
 (.seq (.region [
 o1 6 (.mov (.const (.int .i64 1)))]) .ret)
 .skip)) (.seq (.region [
 o1 17 (.mov (tm 2)),
 o1 18 (.callV (.func 138) [(tm 17)]),
 o1 7 (.mov (tm 18))]) (.seq (.block 0 (.seq (.region [
 o1 29 (.mov (tm 0)),
 o1 30 (.nilCheck (tm 29)),
 o1 31 (.fieldAddr 2 (tm 30)),
 o1 32 (.load none (tm 31)),
 o1 33 (.bin .neq (so (.binOp .neq 41 (tm 32) k0 41) 4) (tm 32) k0),
 o1 28 (.mov (tm 33))]) (.cond (tm 28)
 .skip
 (.seq (.region [
 o1 35 (.mov (tm 1)),
 o1 36 (.raw (so (.unOp .not 4 (tm 35)) 4)),
 o1 34 (.mov (tm 36))]) (.cond (tm 34)
 (.region [
 o1 37 (.mov (tm 0)),
 o1 38 (.nilCheck (tm 37)),
 o1 39 (.fieldAddr 2 (tm 38)),
 o3 (.store 1 (tm 39) (.const (.int .i64 3)))])
 (.seq (.regionD [
 o1 41 (.mov (tm 0)),
 o1 42 (.nilCheck (tm 41)),
 o1 43 (.fieldAddr 1 (tm 42)),
 o1 44 (.load none (tm 43)),
 o1 45 (.lenSl (tm 44)),
 o1 46 (.mov (tm 7)),
 o1 47 (.lenSl (tm 46)),
 o1 48 (.bin .add (so (.binOp .add 3 (tm 45) (tm 47) 3) 3) (tm 45) (tm 47)),
 o1 49 (.mov (tm 0)),
 o1 50 (.nilCheck (tm 49)),
 o1 51 (.fieldAddr 0 (tm 50)),
 o1 52 (.load none (tm 51)),
 o2 53 (.bin .gtr (so (.binOp .gtr 3 (tm 48) (tm 52) 3) 4) (tm 48) (tm 52)),
 o2 40 (.mov (tm 53))]) (.cond (tm 40)
 (.region [
 o1 54 (.mov (tm 0)),
 o1 55 (.nilCheck (tm 54)),
 o1 56 (.fieldAddr 2 (tm 55)),
 o3 (.store 1 (tm 56) (.const (.int .i64 4)))])
 (.region [
 o1 19 (.mov (tm 0)),
 o1 20 (.mov (tm 0)),
 o1 21 (.nilCheck (tm 20)),
 o1 22 (.fieldAddr 1 (tm 21)),
 o1 23 (.load none (tm 22)),
 o1 24 (.mov (tm 7)),
 o1 25 (.append 5 1 1 [(.int .u8 0)] false (tm 23) (tm 24)),
 o1 26 (.nilCheck (tm 19)),
 o1 27 (.fieldAddr 1 (tm 26)),
 o3 (.store 1 (tm 27) (tm 25))])))))))) (.seq (.region [
 o1 57 (.mov (tm 0)),
 o1 58 (.nilCheck (tm 57)),
 o1 59 (.fieldAddr 2 (tm 58)),
 o1 60 (.load none (tm 59)),
 o1 6 (.mov (tm 60))]) .ret)))))
def zgdQ : AFunc := ⟨61, [(6, none)], zgdQ_c, none⟩
theorem zgdQ_t0 : tableOf Tryz.prog 112 = some zgdQ := by kernel_rfl
theorem zgdQ_t : T0 112 = some zgdQ := withKept_t rfl (withTrue_t rfl zgdQ_t0)
theorem zgdQ_runs {v0 v1 v2 : Value} {h : Heap} {R : RP} {X : XP} (k : RunC Tryz.prog T0 zgdQ_c ⟨[v0, v1, v2, U, U, U, U, U, U, U, U, U, U, U, U, U, U, U, U, U, U, U, U, U, U, U, U, U, U, U, U, U, U, U, U, U, U, U, U, U, U, U, U, U, U, U, U, U, U, U, U, U, U, U, U, U, U, U, U, U, U], [], h, none⟩ (bodyQ Tryz.prog T0 [(6, none)] R X)) :
 Runs Tryz.prog T0 (.fn 112) [v0, v1, v2] h R X := Runs.fn zgdQ_t rfl k
abbrev fn_zhdQ : FuncId := 113
def zhdQ_l0 : ACode :=
 (.seq (.seq (.region [
 o1 5 (.mov (tm 0)),
 o1 6 (.bin .gtr (so (.binOp .gtr 3 (tm 5) k0 3) 4) (tm 5) k0)]) (.cond (tm 6)
 .skip
 (.exit 0))) (.seq (.block 1 (.seq (.region [
 o1 9 (.mov (tm 4)),
 o1 10 (.bin .sub (so (.binOp .sub 3 (.const (.int .i64 8)) (tm 9) 3) 3) (.const (.int .i64 8)) (tm 9)),
 o1 11 (.mov (tm 0)),
 o1 12 (.conv .u8 (so (.convert 3 5 (tm 11)) 5) (tm 11)),
 o1 13 (.indexArr 9 1 (tm 3) (tm 10)),
 o3 (.store 1 (tm 13) (tm 12))]) (.region [
 o1 14 (.mov (tm 4)),
 o1 15 (.bin .add (so (.binOp .add 3 (tm 14) (.const (.int .i64 1)) 3) 3) (tm 14) (.const (.int .i64 1))),
 o1 4 (.mov (tm 15))]))) (.region [
 o1 7 (.mov (tm 0)),
 o1 8 (.bin .shr (so (.binOp .shr 3 (tm 7) (.const (.int .u64 8)) 125) 3) (tm 7) (.const (.int .u64 8))),
 o1 0 (.mov (tm 8))])))
def zhdQ_c : ACode :=
 (.seq (.region [
 o1 2 (.mov (.const (.slice none 0 0)))]) (.seq (.region [
 o1 3 (.alloc 185 [(.int .u8 0), (.int .u8 0), (.int .u8 0), (.int .u8 0), (.int .u8 0), (.int .u8 0), (.int .u8 0), (.int .u8 0), (.int .u8 0)])]) (.seq (.region [
 o1 4 (.mov k0)]) (.seq (.block 0 (.loop zhdQ_l0)) (.seq (.region [
 o1 16 (.mov (tm 4)),
 o1 17 (.bin .sub (so (.binOp .sub 3 (.const (.int .i64 8)) (tm 16) 3) 3) (.const (.int .i64 8)) (tm 16)),
 o1 18 (.mov (tm 4)),
 o1 19 (.conv .u8 (so (.convert 3 5 (tm 18)) 5) (tm 18)),
 o1 20 (.indexArr 9 1 (tm 3) (tm 17)),
 o3 (.store 1 (tm 20) (tm 19))]) (.seq (.region [
 o1 21 (.mov (tm 4)),
 o1 22 (.bin .sub (so (.binOp .sub 3 (.const (.int .i64 8)) (tm 21) 3) 3) (.const (.int .i64 8)) (tm 21)),
 o1 23 (.sliceArr 9 1 (tm 3) (some (tm 22)) none),
 o1 2 (.mov (tm 23))]) .ret))))))
def zhdQ : AFunc := ⟨24, [(2, none)], zhdQ_c, none⟩
theorem zhdQ_t0 : tableOf Tryz.prog 113 = some zhdQ := by kernel_rfl
theorem zhdQ_t : T0 113 = some zhdQ := withKept_t rfl (withTrue_t rfl zhdQ_t0)
theorem zhdQ_runs {v0 : Value} {h : Heap} {R : RP} {X : XP} (k : RunC Tryz.prog T0 zhdQ_c ⟨[v0, U, U, U, U, U, U, U, U, U, U, U, U, U, U, U, U, U, U, U, U, U, U, U], [], h, none⟩ (bodyQ Tryz.prog T0 [(2, none)] R X)) :
 Runs Tryz.prog T0 (.fn 113) [v0] h R X := Runs.fn zhdQ_t rfl k
def zhdQ_l0_J (f1 f2 f3 f16 f17 f18 f19 f20 f21 f22 f23 : Value) (ds : List Deferred) (rd : Option Nat) (I : Nat → Value → Value → Heap → Prop) (m : Nat) (s : St) : Prop := ∃ (v0 v4 : Value), ∃ h : Heap, ∃ (x5 x6 x7 x8 x9 x10 x11 x12 x13 x14 x15 : Value), s = ⟨[v0, f1, f2, f3, v4, x5, x6, x7, x8, x9, x10, x11, x12, x13, x14, x15, f16, f17, f18, f19, f20, f21, f22, f23], ds, h, rd⟩ ∧ I m v0 v4 h
theorem zhdQ_l0_rule {f1 f2 f3 f16 f17 f18 f19 f20 f21 f22 f23 : Value} {ds : List Deferred} {rd : Option Nat} {Q : QP} (I : Nat → Value → Value → Heap → Prop) (hb : ∀ (m : Nat) (v0 v4 : Value) (h : Heap) (x5 x6 x7 x8 x9 x10 x11 x12 x13 x14 x15 : Value) , I m v0 v4 h → RunC Tryz.prog T0 zhdQ_l0 ⟨[v0, f1, f2, f3, v4, x5, x6, x7, x8, x9, x10, x11, x12, x13, x14, x15, f16, f17, f18, f19, f20, f21, f22, f23], ds, h, rd⟩ (loopQ (zhdQ_l0_J f1 f2 f3 f16 f17 f18 f19 f20 f21 f22 f23 ds rd I) m Q))
 (m : Nat) {v0 v4 : Value} {h : Heap} {x5 x6 x7 x8 x9 x10 x11 x12 x13 x14 x15 : Value} (hi : I m v0 v4 h) : RunC Tryz.prog T0 (.loop zhdQ_l0) ⟨[v0, f1, f2, f3, v4, x5, x6, x7, x8, x9, x10, x11, x12, x13, x14, x15, f16, f17, f18, f19, f20, f21, f22, f23], ds, h, rd⟩ Q :=
 RunC.loopJ (zhdQ_l0_J f1 f2 f3 f16 f17 f18 f19 f20 f21 f22 f23 ds rd I) (fun m s hj => by obtain ⟨v0, v4, h, x5, x6, x7, x8, x9, x10, x11, x12, x13, x14, x15, rfl, hi⟩ := hj; exact hb m v0 v4 h x5 x6 x7 x8 x9 x10 x11 x12 x13 x14 x15 hi) m _ ⟨_, _, h, _, _, _, _, _, _, _, _, _, _, _, rfl, hi⟩
theorem zhdQ_l0_again {f1 f2 f3 f16 f17 f18 f19 f20 f21 f22 f23 : Value} {ds : List Deferred} {rd : Option Nat} {Q : QP} {I : Nat → Value → Value → Heap → Prop} {m : Nat} (m' : Nat) {v0 v4 : Value} {h : Heap} {x5 x6 x7 x8 x9 x10 x11 x12 x13 x14 x15 : Value} (hm : m' < m) (hi : I m' v0 v4 h) : loopQ (zhdQ_l0_J f1 f2 f3 f16 f17 f18 f19 f20 f21 f22 f23 ds rd I) m Q .normal ⟨[v0, f1, f2, f3, v4, x5, x6, x7, x8, x9, x10, x11, x12, x13, x14, x15, f16, f17, f18, f19, f20, f21, f22, f23], ds, h, rd⟩ :=
 loopQ.again m' hm ⟨_, _, h, _, _, _, _, _, _, _, _, _, _, _, rfl, hi⟩
abbrev fn_zybQ : FuncId := 123
def zybQ_c : ACode :=
 (.seq (.region [
 o1 1 (.box 30 (tm 0)),
 o1 2 (.mov k0)]) (.seq (.block 0 (.seq (.region [
 o1 4 (.fieldAddr 0 (tm 1)),
 o1 5 (.load none (tm 4)),
 o1 6 (.callV (.func 150) [(tm 5)]),
 o1 7 (.raw (so (.unOp .not 4 (tm 6)) 4)),
 o1 3 (.mov (tm 7))]) (.cond (tm 3)
 (.seq (.region [
 o1 2 (.mov (.const (.int .i64 5)))]) .ret)
 (.seq (.region [
 o1 9 (.fieldAddr 1 (tm 1)),
 o1 10 (.load none (tm 9)),
 o1 11 (.bin .lss (so (.binOp .lss 3 (tm 10) (.const (.int .i64 1)) 3) 4) (tm 10) (.const (.int .i64 1))),
 o1 12 (.mov (tm 11)),
 o5 13 (.fieldAddr 1 (tm 1)) 12,
 o5 14 (.load none (tm 13)) 12,
 o5 15 (.bin .gtr (so (.binOp .gtr 3 (tm 14) (.const (.int .i64 1073741824)) 3) 4) (tm 14) (.const (.int .i64 1073741824))) 12,
 o1 16 (.pick (tm 12) (.const (.bool true)) (tm 15)),
 o1 17 (.mov (tm 16)),
 o5 18 (.fieldAddr 2 (tm 1)) 17,
 o5 19 (.load none (tm 18)) 17,
 o5 20 (.bin .lss (so (.binOp .lss 3 (tm 19) k0 3) 4) (tm 19) k0) 17,
 o1 21 (.pick (tm 17) (.const (.bool true)) (tm 20)),
 o1 22 (.mov (tm 21)),
 o5 23 (.fieldAddr 2 (tm 1)) 22,
 o5 24 (.load none (tm 23)) 22,
 o5 25 (.bin .gtr (so (.binOp .gtr 3 (tm 24) (.const (.int .i64 1099511627776)) 3) 4) (tm 24) (.const (.int .i64 1099511627776))) 22,
 o1 26 (.pick (tm 22) (.const (.bool true)) (tm 25)),
 o1 8 (.mov (tm 26))]) (.cond (tm 8)
 (.seq (.region [
 o1 2 (.mov (.const (.int .i64 3)))]) .ret)
 .skip))))) (.seq (.region [
 o1 2 (.mov k0)]) .ret)))
def zybQ : AFunc := ⟨27, [(2, none)], zybQ_c, none⟩
theorem zybQ_t0 : tableOf Tryz.prog 123 = some zybQ := by kernel_rfl
theorem zybQ_t : T0 123 = some zybQ := withKept_t rfl (withTrue_t rfl zybQ_t0)
theorem zybQ_runs {v0 : Value} {h : Heap} {R : RP} {X : XP} (k : RunC Tryz.prog T0 zybQ_c ⟨[v0, U, U, U, U, U, U, U, U, U, U, U, U, U, U, U, U, U, U, U, U, U, U, U, U, U, U], [], h, none⟩ (bodyQ Tryz.prog T0 [(2, none)] R X)) :
 Runs Tryz.prog T0 (.fn 123) [v0] h R X := Runs.fn zybQ_t rfl k
abbrev fn_zccQ : FuncId := 127
def zccQ_l0 : ACode :=
 (.seq (.seq (.region [
 o1 18 (.mov (tm 3)),
 o1 19 (.fieldAddr 33 (tm 1)),
 o1 20 (.load none (tm 19)),
 o1 21 (.lenSl (tm 20)),
 o1 22 (.bin .lss (so (.binOp .lss 3 (tm 18) (tm 21) 3) 4) (tm 18) (tm 21))]) (.cond (tm 22)
 .skip
 (.exit 1))) (.seq (.block 2 (.block 3 (.seq (.region [
 o1 26 (.fieldAddr 33 (tm 1)),
 o1 27 (.load none (tm 26)),
 o1 28 (.mov (tm 3)),
 o1 29 (.indexSl 2 (tm 27) (tm 28)),
 o1 30 (.fieldAddr 0 (tm 29)),
 o1 31 (.load none (tm 30)),
 o1 32 (.bin .lss (so (.binOp .lss 3 (tm 31) k0 3) 4) (tm 31) k0),
 o1 33 (.mov (tm 32)),
 o5 34 (.fieldAddr 33 (tm 1)) 33,
 o5 35 (.load none (tm 34)) 33,
 o5 36 (.mov (tm 3)) 33,
 o5 37 (.indexSl 2 (tm 35) (tm 36)) 33,
 o5 38 (.fieldAddr 0 (tm 37)) 33,
 o5 39 (.load none (tm 38)) 33,
 o5 40 (.bin .geq (so (.binOp .geq 3 (tm 39) (.const (.int .i64 64)) 3) 4) (tm 39) (.const (.int .i64 64))) 33,
 o1 41 (.pick (tm 33) (.const (.bool true)) (tm 40)),
 o1 25 (.mov (tm 41))]) (.cond (tm 25)
 (.seq (.region [
 o1 2 (.mov (.const (.int .i64 3)))]) .ret)
 (.seq (.regionD [
 o2 43 (.mov (tm 3)),
 o2 44 (.bin .gtr (so (.binOp .gtr 3 (tm 43) k0 3) 4) (tm 43) k0),
 o2 45 (.mov (tm 44)),
 o4 46 (.fieldAddr 33 (tm 1)) 45,
 o4 47 (.load none (tm 46)) 45,
 o4 48 (.mov (tm 3)) 45,
 o4 49 (.indexSl 2 (tm 47) (tm 48)) 45,
 o4 50 (.fieldAddr 0 (tm 49)) 45,
 o4 51 (.load none (tm 50)) 45,
 o4 52 (.fieldAddr 33 (tm 1)) 45,
 o4 53 (.load none (tm 52)) 45,
 o4 54 (.mov (tm 3)) 45,
 o4 55 (.bin .sub (so (.binOp .sub 3 (tm 54) (.const (.int .i64 1)) 3) 3) (tm 54) (.const (.int .i64 1))) 45,
 o4 56 (.indexSl 2 (tm 53) (tm 55)) 45,
 o4 57 (.fieldAddr 0 (tm 56)) 45,
 o4 58 (.load none (tm 57)) 45,
 ⟨some 59, .bin .leq (so (.binOp .leq 3 (tm 51) (tm 58) 3) 4) (tm 51) (tm 58), some (45, true), [], true⟩,
 o2 60 (.pick (tm 45) (tm 59) (.const (.bool false))),
 o2 42 (.mov (tm 60))]) (.cond (tm 42)
 (.seq (.region [
 o1 2 (.mov (.const (.int .i64 9)))]) .ret)
 .skip)))))) (.region [
 o1 23 (.mov (tm 3)),
 o1 24 (.bin .add (so (.binOp .add 3 (tm 23) (.const (.int .i64 1)) 3) 3) (tm 23) (.const (.int .i64 1))),
 o1 3 (.mov (tm 24))])))
def zccQ_c : ACode :=
 (.seq (.region [
 o1 1 (.box 33 (tm 0)),
 o1 2 (.mov k0)]) (.seq (.block 0 (.seq (.region [
 o1 5 (.fieldAddr 0 (tm 1)),
 o1 6 (.load none (tm 5)),
 o1 7 (.bin .lss (so (.binOp .lss 3 (tm 6) (.const (.int .i64 1)) 3) 4) (tm 6) (.const (.int .i64 1))),
 o1 8 (.mov (tm 7)),
 o5 9 (.fieldAddr 0 (tm 1)) 8,
 o5 10 (.load none (tm 9)) 8,
 o5 11 (.bin .gtr (so (.binOp .gtr 3 (tm 10) (.const (.int .i64 1073741824)) 3) 4) (tm 10) (.const (.int .i64 1073741824))) 8,
 o1 12 (.pick (tm 8) (.const (.bool true)) (tm 11)),
 o1 4 (.mov (tm 12))]) (.cond (tm 4)
 (.seq (.region [
 o1 2 (.mov (.const (.int .i64 3)))]) .ret)
 (.seq (.region [
 o1 14 (.fieldAddr 33 (tm 1)),
 o1 15 (.load none (tm 14)),
 o1 16 (.lenSl (tm 15)),
 o1 17 (.bin .gtr (so (.binOp .gtr 3 (tm 16) (.const (.int .i64 64)) 3) 4) (tm 16) (.const (.int .i64 64))),
 o1 13 (.mov (tm 17))]) (.cond (tm 13)
 (.seq (.region [
 o1 2 (.mov (.const (.int .i64 4)))]) .ret)
 .skip))))) (.seq (.seq (.region [
 o1 3 (.mov k0)]) (.block 1 (.loop zccQ_l0))) (.seq (.region [
 o1 2 (.mov k0)]) .ret))))
def zccQ : AFunc := ⟨61, [(2, none)], zccQ_c, none⟩
theorem zccQ_t0 : tableOf Tryz.prog 127 = some zccQ := by kernel_rfl
theorem zccQ_t : T0 127 = some zccQ := withKept_t rfl (withTrue_t rfl zccQ_t0)
theorem zccQ_runs {v0 : Value} {h : Heap} {R : RP} {X : XP} (k : RunC Tryz.prog T0 zccQ_c ⟨[v0, U, U, U, U, U, U, U, U, U, U, U, U, U, U, U, U, U, U, U, U, U, U, U, U, U, U, U, U, U, U, U, U, U, U, U, U, U, U, U, U, U, U, U, U, U, U, U, U, U, U, U, U, U, U, U, U, U, U, U, U], [], h, none⟩ (bodyQ Tryz.prog T0 [(2, none)] R X)) :
 Runs Tryz.prog T0 (.fn 127) [v0] h R X := Runs.fn zccQ_t rfl k
def zccQ_l0_J (f0 f1 f4 f5 f6 f7 f8 f9 f10 f11 f12 f13 f14 f15 f16 f17 : Value) (ds : List Deferred) (rd : Option Nat) (I : Nat → Value → Heap → Prop) (m : Nat) (s : St) : Prop := ∃ (v3 : Value), ∃ h : Heap, ∃ (x2 x18 x19 x20 x21 x22 x23 x24 x25 x26 x27 x28 x29 x30 x31 x32 x33 x34 x35 x36 x37 x38 x39 x40 x41 x42 x43 x44 x45 x46 x47 x48 x49 x50 x51 x52 x53 x54 x55 x56 x57 x58 x59 x60 : Value), s = ⟨[f0, f1, x2, v3, f4, f5, f6, f7, f8, f9, f10, f11, f12, f13, f14, f15, f16, f17, x18, x19, x20, x21, x22, x23, x24, x25, x26, x27, x28, x29, x30, x31, x32, x33, x34, x35, x36, x37, x38, x39, x40, x41, x42, x43, x44, x45, x46, x47, x48, x49, x50, x51, x52, x53, x54, x55, x56, x57, x58, x59, x60], ds, h, rd⟩ ∧ I m v3 h
theorem zccQ_l0_rule {f0 f1 f4 f5 f6 f7 f8 f9 f10 f11 f12 f13 f14 f15 f16 f17 : Value} {ds : List Deferred} {rd : Option Nat} {Q : QP} (I : Nat → Value → Heap → Prop) (hb : ∀ (m : Nat) (v3 : Value) (h : Heap) (x2 x18 x19 x20 x21 x22 x23 x24 x25 x26 x27 x28 x29 x30 x31 x32 x33 x34 x35 x36 x37 x38 x39 x40 x41 x42 x43 x44 x45 x46 x47 x48 x49 x50 x51 x52 x53 x54 x55 x56 x57 x58 x59 x60 : Value) , I m v3 h → RunC Tryz.prog T0 zccQ_l0 ⟨[f0, f1, x2, v3, f4, f5, f6, f7, f8, f9, f10, f11, f12, f13, f14, f15, f16, f17, x18, x19, x20, x21, x22, x23, x24, x25, x26, x27, x28, x29, x30, x31, x32, x33, x34, x35, x36, x37, x38, x39, x40, x41, x42, x43, x44, x45, x46, x47, x48, x49, x50, x51, x52, x53, x54, x55, x56, x57, x58, x59, x60], ds, h, rd⟩ (loopQ (zccQ_l0_J f0 f1 f4 f5 f6 f7 f8 f9 f10 f11 f12 f13 f14 f15 f16 f17 ds rd I) m Q))
 (m : Nat) {v3 : Value} {h : Heap} {x2 x18 x19 x20 x21 x22 x23 x24 x25 x26 x27 x28 x29 x30 x31 x32 x33 x34 x35 x36 x37 x38 x39 x40 x41 x42 x43 x44 x45 x46 x47 x48 x49 x50 x51 x52 x53 x54 x55 x56 x57 x58 x59 x60 : Value} (hi : I m v3 h) : RunC Tryz.prog T0 (.loop zccQ_l0) ⟨[f0, f1, x2, v3, f4, f5, f6, f7, f8, f9, f10, f11, f12, f13, f14, f15, f16, f17, x18, x19, x20, x21, x22, x23, x24, x25, x26, x27, x28, x29, x30, x31, x32, x33, x34, x35, x36, x37, x38, x39, x40, x41, x42, x43, x44, x45, x46, x47, x48, x49, x50, x51, x52, x53, x54, x55, x56, x57, x58, x59, x60], ds, h, rd⟩ Q :=
 RunC.loopJ (zccQ_l0_J f0 f1 f4 f5 f6 f7 f8 f9 f10 f11 f12 f13 f14 f15 f16 f17 ds rd I) (fun m s hj => by obtain ⟨v3, h, x2, x18, x19, x20, x21, x22, x23, x24, x25, x26, x27, x28, x29, x30, x31, x32, x33, x34, x35, x36, x37, x38, x39, x40, x41, x42, x43, x44, x45, x46, x47, x48, x49, x50, x51, x52, x53, x54, x55, x56, x57, x58, x59, x60, rfl, hi⟩ := hj; exact hb m v3 h x2 x18 x19 x20 x21 x22 x23 x24 x25 x26 x27 x28 x29 x30 x31 x32 x33 x34 x35 x36 x37 x38 x39 x40 x41 x42 x43 x44 x45 x46 x47 x48 x49 x50 x51 x52 x53 x54 x55 x56 x57 x58 x59 x60 hi) m _ ⟨_, h, _, _, _, _, _, _, _, _, _, _, _, _, _, _, _, _, _, _, _, _, _, _, _, _, _, _, _, _, _, _, _, _, _, _, _, _, _, _, _, _, _, _, _, _, rfl, hi⟩
theorem zccQ_l0_again {f0 f1 f4 f5 f6 f7 f8 f9 f10 f11 f12 f13 f14 f15 f16 f17 : Value} {ds : List Deferred} {rd : Option Nat} {Q : QP} {I : Nat → Value → Heap → Prop} {m : Nat} (m' : Nat) {v3 : Value} {h : Heap} {x2 x18 x19 x20 x21 x22 x23 x24 x25 x26 x27 x28 x29 x30 x31 x32 x33 x34 x35 x36 x37 x38 x39 x40 x41 x42 x43 x44 x45 x46 x47 x48 x49 x50 x51 x52 x53 x54 x55 x56 x57 x58 x59 x60 : Value} (hm : m' < m) (hi : I m' v3 h) : loopQ (zccQ_l0_J f0 f1 f4 f5 f6 f7 f8 f9 f10 f11 f12 f13 f14 f15 f16 f17 ds rd I) m Q .normal ⟨[f0, f1, x2, v3, f4, f5, f6, f7, f8, f9, f10, f11, f12, f13, f14, f15, f16, f17, x18, x19, x20, x21, x22, x23, x24, x25, x26, x27, x28, x29, x30, x31, x32, x33, x34, x35, x36, x37, x38, x39, x40, x41, x42, x43, x44, x45, x46, x47, x48, x49, x50, x51, x52, x53, x54, x55, x56, x57, x58, x59, x60], ds, h, rd⟩ :=
 loopQ.again m' hm ⟨_, h, _, _, _, _, _, _, _, _, _, _, _, _, _, _, _, _, _, _, _, _, _, _, _, _, _, _, _, _, _, _, _, _, _, _, _, _, _, _, _, _, _, _, _, _, rfl, hi⟩
abbrev fn_zvbQ : FuncId := 129
def zvbQ_l0 : ACode :=
 (.seq (.seq (.region [
 o1 12 (.mov (tm 3)),
 o1 13 (.mov (tm 0)),
 o1 14 (.lenSl (tm 13)),
 o1 15 (.bin .lss (so (.binOp .lss 3 (tm 12) (tm 14) 3) 4) (tm 12) (tm 14))]) (.cond (tm 15)
 .skip
 (.exit 1))) (.seq (.block 2 (.block 3 (.seq (.regionD [
 o2 19 (.mov (tm 3)),
 o2 20 (.bin .gtr (so (.binOp .gtr 3 (tm 19) k0 3) 4) (tm 19) k0),
 o2 21 (.mov (tm 20)),
 o4 22 (.mov (tm 0)) 21,
 o4 23 (.mov (tm 3)) 21,
 o4 24 (.bin .sub (so (.binOp .sub 3 (tm 23) (.const (.int .i64 1)) 3) 3) (tm 23) (.const (.int .i64 1))) 21,
 o4 25 (.indexSl 5 (tm 22) (tm 24)) 21,
 o4 26 (.fieldAddr 0 (tm 25)) 21,
 o4 27 (.load (some 4) (tm 26)) 21,
 o4 28 (.mov (tm 0)) 21,
 o4 29 (.mov (tm 3)) 21,
 o4 30 (.indexSl 5 (tm 28) (tm 29)) 21,
 o4 31 (.fieldAddr 0 (tm 30)) 21,
 o4 32 (.load (some 4) (tm 31)) 21,
 ⟨some 33, .callV (.func 151) [(tm 27), (tm 32)], some (21, true), [], true⟩,
 ⟨some 34, .raw (so (.unOp .not 4 (tm 33)) 4), some (21, true), [], true⟩,
 o2 35 (.pick (tm 21) (tm 34) (.const (.bool false))),
 o2 18 (.mov (tm 35))]) (.cond (tm 18)
 (.seq (.region [
 o1 2 (.mov (.const (.int .i64 9)))]) .ret)
 (.seq (.region [
 o1 37 (.mov (tm 0)),
 o1 38 (.mov (tm 3)),
 o1 39 (.indexSl 5 (tm 37) (tm 38)),
 o1 40 (.fieldAddr 4 (tm 39)),
 o1 41 (.load none (tm 40)),
 o1 42 (.bin .lss (so (.binOp .lss 3 (tm 41) (.const (.int .i64 1)) 3) 4) (tm 41) (.const (.int .i64 1))),
 o1 43 (.mov (tm 42)),
 o5 44 (.mov (tm 0)) 43,
 o5 45 (.mov (tm 3)) 43,
 o5 46 (.indexSl 5 (tm 44) (tm 45)) 43,
 o5 47 (.fieldAddr 4 (tm 46)) 43,
 o5 48 (.load none (tm 47)) 43,
 o5 49 (.bin .gtr (so (.binOp .gtr 3 (tm 48) (.const (.int .i64 4611686018427387904)) 3) 4) (tm 48) (.const (.int .i64 4611686018427387904))) 43,
 o1 50 (.pick (tm 43) (.const (.bool true)) (tm 49)),
 o1 36 (.mov (tm 50))]) (.cond (tm 36)
 (.seq (.region [
 o1 2 (.mov (.const (.int .i64 3)))]) .ret)
 .skip)))))) (.region [
 o1 16 (.mov (tm 3)),
 o1 17 (.bin .add (so (.binOp .add 3 (tm 16) (.const (.int .i64 1)) 3) 3) (tm 16) (.const (.int .i64 1))),
 o1 3 (.mov (tm 17))])))
def zvbQ_c : ACode :=
 (.seq (.region [
 o1 2 (.mov k0)]) (.seq (.block 0 (.seq (.region [
 o1 5 (.mov (tm 0)),
 o1 6 (.lenSl (tm 5)),
 o1 7 (.bin .eql (so (.binOp .eql 3 (tm 6) k0 3) 4) (tm 6) k0),
 o1 4 (.mov (tm 7))]) (.cond (tm 4)
 (.seq (.region [
 o1 2 (.mov (.const (.int .i64 6)))]) .ret)
 (.seq (.region [
 o1 9 (.mov (tm 0)),
 o1 10 (.lenSl (tm 9)),
 o1 11 (.bin .gtr (so (.binOp .gtr 3 (tm 10) (.const (.int .i64 64)) 3) 4) (tm 10) (.const (.int .i64 64))),
 o1 8 (.mov (tm 11))]) (.cond (tm 8)
 (.seq (.region [
 o1 2 (.mov (.const (.int .i64 4)))]) .ret)
 .skip))))) (.seq (.seq (.region [
 o1 3 (.mov k0)]) (.block 1 (.loop zvbQ_l0))) (.seq (.region [
 o1 2 (.mov k0)]) .ret))))
def zvbQ : AFunc := ⟨51, [(2, none)], zvbQ_c, none⟩
theorem zvbQ_t0 : tableOf Tryz.prog 129 = some zvbQ := by kernel_rfl
theorem zvbQ_t : T0 129 = some zvbQ := withKept_t rfl (withTrue_t rfl zvbQ_t0)
theorem zvbQ_runs {v0 : Value} {h : Heap} {R : RP} {X : XP} (k : RunC Tryz.prog T0 zvbQ_c ⟨[v0, U, U, U, U, U, U, U, U, U, U, U, U, U, U, U, U, U, U, U, U, U, U, U, U, U, U, U, U, U, U, U, U, U, U, U, U, U, U, U, U, U, U, U, U, U, U, U, U, U, U], [], h, none⟩ (bodyQ Tryz.prog T0 [(2, none)] R X)) :
 Runs Tryz.prog T0 (.fn 129) [v0] h R X := Runs.fn zvbQ_t rfl k
def zvbQ_l0_J (f0 f1 f4 f5 f6 f7 f8 f9 f10 f11 : Value) (ds : List Deferred) (rd : Option Nat) (I : Nat → Value → Heap → Prop) (m : Nat) (s : St) : Prop := ∃ (v3 : Value), ∃ h : Heap, ∃ (x2 x12 x13 x14 x15 x16 x17 x18 x19 x20 x21 x22 x23 x24 x25 x26 x27 x28 x29 x30 x31 x32 x33 x34 x35 x36 x37 x38 x39 x40 x41 x42 x43 x44 x45 x46 x47 x48 x49 x50 : Value), s = ⟨[f0, f1, x2, v3, f4, f5, f6, f7, f8, f9, f10, f11, x12, x13, x14, x15, x16, x17, x18, x19, x20, x21, x22, x23, x24, x25, x26, x27, x28, x29, x30, x31, x32, x33, x34, x35, x36, x37, x38, x39, x40, x41, x42, x43, x44, x45, x46, x47, x48, x49, x50], ds, h, rd⟩ ∧ I m v3 h
theorem zvbQ_l0_rule {f0 f1 f4 f5 f6 f7 f8 f9 f10 f11 : Value} {ds : List Deferred} {rd : Option Nat} {Q : QP} (I : Nat → Value → Heap → Prop) (hb : ∀ (m : Nat) (v3 : Value) (h : Heap) (x2 x12 x13 x14 x15 x16 x17 x18 x19 x20 x21 x22 x23 x24 x25 x26 x27 x28 x29 x30 x31 x32 x33 x34 x35 x36 x37 x38 x39 x40 x41 x42 x43 x44 x45 x46 x47 x48 x49 x50 : Value) , I m v3 h → RunC Tryz.prog T0 zvbQ_l0 ⟨[f0, f1, x2, v3, f4, f5, f6, f7, f8, f9, f10, f11, x12, x13, x14, x15, x16, x17, x18, x19, x20, x21, x22, x23, x24, x25, x26, x27, x28, x29, x30, x31, x32, x33, x34, x35, x36, x37, x38, x39, x40, x41, x42, x43, x44, x45, x46, x47, x48, x49, x50], ds, h, rd⟩ (loopQ (zvbQ_l0_J f0 f1 f4 f5 f6 f7 f8 f9 f10 f11 ds rd I) m Q))
 (m : Nat) {v3 : Value} {h : Heap} {x2 x12 x13 x14 x15 x16 x17 x18 x19 x20 x21 x22 x23 x24 x25 x26 x27 x28 x29 x30 x31 x32 x33 x34 x35 x36 x37 x38 x39 x40 x41 x42 x43 x44 x45 x46 x47 x48 x49 x50 : Value} (hi : I m v3 h) : RunC Tryz.prog T0 (.loop zvbQ_l0) ⟨[f0, f1, x2, v3, f4, f5, f6, f7, f8, f9, f10, f11, x12, x13, x14, x15, x16, x17, x18, x19, x20, x21, x22, x23, x24, x25, x26, x27, x28, x29, x30, x31, x32, x33, x34, x35, x36, x37, x38, x39, x40, x41, x42, x43, x44, x45, x46, x47, x48, x49, x50], ds, h, rd⟩ Q :=
 RunC.loopJ (zvbQ_l0_J f0 f1 f4 f5 f6 f7 f8 f9 f10 f11 ds rd I) (fun m s hj => by obtain ⟨v3, h, x2, x12, x13, x14, x15, x16, x17, x18, x19, x20, x21, x22, x23, x24, x25, x26, x27, x28, x29, x30, x31, x32, x33, x34, x35, x36, x37, x38, x39, x40, x41, x42, x43, x44, x45, x46, x47, x48, x49, x50, rfl, hi⟩ := hj; exact hb m v3 h x2 x12 x13 x14 x15 x16 x17 x18 x19 x20 x21 x22 x23 x24 x25 x26 x27 x28 x29 x30 x31 x32 x33 x34 x35 x36 x37 x38 x39 x40 x41 x42 x43 x44 x45 x46 x47 x48 x49 x50 hi) m _ ⟨_, h, _, _, _, _, _, _, _, _, _, _, _, _, _, _, _, _, _, _, _, _, _, _, _, _, _, _, _, _, _, _, _, _, _, _, _, _, _, _, _, _, rfl, hi⟩
theorem zvbQ_l0_again {f0 f1 f4 f5 f6 f7 f8 f9 f10 f11 : Value} {ds : List Deferred} {rd : Option Nat} {Q : QP} {I : Nat → Value → Heap → Prop} {m : Nat} (m' : Nat) {v3 : Value} {h : Heap} {x2 x12 x13 x14 x15 x16 x17 x18 x19 x20 x21 x22 x23 x24 x25 x26 x27 x28 x29 x30 x31 x32 x33 x34 x35 x36 x37 x38 x39 x40 x41 x42 x43 x44 x45 x46 x47 x48 x49 x50 : Value} (hm : m' < m) (hi : I m' v3 h) : loopQ (zvbQ_l0_J f0 f1 f4 f5 f6 f7 f8 f9 f10 f11 ds rd I) m Q .normal ⟨[f0, f1, x2, v3, f4, f5, f6, f7, f8, f9, f10, f11, x12, x13, x14, x15, x16, x17, x18, x19, x20, x21, x22, x23, x24, x25, x26, x27, x28, x29, x30, x31, x32, x33, x34, x35, x36, x37, x38, x39, x40, x41, x42, x43, x44, x45, x46, x47, x48, x49, x50], ds, h, rd⟩ :=
 loopQ.again m' hm ⟨_, h, _, _, _, _, _, _, _, _, _, _, _, _, _, _, _, _, _, _, _, _, _, _, _, _, _, _, _, _, _, _, _, _, _, _, _, _, _, _, _, _, rfl, hi⟩
abbrev fn_zbcQ : FuncId := 130
def zbcQ_c : ACode :=
 (.seq (.region [
 o1 3 (.box 30 (tm 1))]) (.seq (.region [
 o1 4 (.mov (tm 0)),
 o1 5 (.fieldAddr 0 (tm 3)),
 o1 6 (.load none (tm 5)),
 o1 7 (.callV (.func 152) [(tm 4), (tm 6)])]) (.seq (.region [
 o1 8 (.mov (tm 0)),
 o1 9 (.fieldAddr 1 (tm 3)),
 o1 10 (.load none (tm 9)),
 o1 11 (.callV (.func 56) [(tm 8), (tm 10)])]) (.seq (.region [
 o1 12 (.mov (tm 0)),
 o1 13 (.fieldAddr 2 (tm 3)),
 o1 14 (.load none (tm 13)),
 o1 15 (.callV (.func 56) [(tm 12), (tm 14)])]) (.seq (.region [
 o1 16 (.mov (tm 0)),
 o1 17 (.fieldAddr 3 (tm 3)),
 o1 18 (.load (some 32) (tm 17)),
 o1 19 (.callV (.func 131) [(tm 16), (tm 18)])]) (.seq (.region [
 o1 20 (.mov (tm 0)),
 o1 21 (.fieldAddr 35 (tm 3)),
 o1 22 (.load (some 32) (tm 21)),
 o1 23 (.callV (.func 131) [(tm 20), (tm 22)])]) (.seq (.region [
 o1 24 (.mov (tm 0)),
 o1 25 (.fieldAddr 67 (tm 3)),
 o1 26 (.load (some 32) (tm 25)),
 o1 27 (.callV (.func 131) [(tm 24), (tm 26)])]) (.region [
 o1 28 (.mov (tm 0)),
 o1 29 (.fieldAddr 99 (tm 3)),
 o1 30 (.load (some 32) (tm 29)),
 o1 31 (.callV (.func 131) [(tm 28), (tm 30)])]))))))))
def zbcQ : AFunc := ⟨32, [], zbcQ_c, none⟩
theorem zbcQ_t0 : tableOf Tryz.prog 130 = some zbcQ := by kernel_rfl
theorem zbcQ_t : T0 130 = some zbcQ := withKept_t rfl (withTrue_t rfl zbcQ_t0)
theorem zbcQ_runs {v0 v1 : Value} {h : Heap} {R : RP} {X : XP} (k : RunC Tryz.prog T0 zbcQ_c ⟨[v0, v1, U, U, U, U, U, U, U, U, U, U, U, U, U, U, U, U, U, U, U, U, U, U, U, U, U, U, U, U, U, U], [], h, none⟩ (bodyQ Tryz.prog T0 [] R X)) :
 Runs Tryz.prog T0 (.fn 130) [v0, v1] h R X := Runs.fn zbcQ_t rfl k
abbrev fn_zpbQ : FuncId := 131
def zpbQ_c : ACode :=
 (.seq (.region [
 o1 3 (.box 28 (tm 1)),
 o1 4 (.mov k0)]) (.seq (.region [
 o1 5 (.mov (tm 0)),
 o1 6 (.buildSlice 5 [] 0 []),
 o1 7 (.sliceArr 32 1 (tm 3) none none),
 o1 8 (.append 5 1 1 [(.int .u8 0)] false (tm 6) (tm 7)),
 o1 9 (.callV (.func 91) [(tm 5), (tm 8)]),
 o1 4 (.mov (tm 9))]) .ret))
def zpbQ : AFunc := ⟨10, [(4, none)], zpbQ_c, none⟩
theorem zpbQ_t0 : tableOf Tryz.prog 131 = some zpbQ := by kernel_rfl
theorem zpbQ_t : T0 131 = some zpbQ := withKept_t rfl (withTrue_t rfl zpbQ_t0)
theorem zpbQ_runs {v0 v1 : Value} {h : Heap} {R : RP} {X : XP} (k : RunC Tryz.prog T0 zpbQ_c ⟨[v0, v1, U, U, U, U, U, U, U, U], [], h, none⟩ (bodyQ Tryz.prog T0 [(4, none)] R X)) :
 Runs Tryz.prog T0 (.fn 131) [v0, v1] h R X := Runs.fn zpbQ_t rfl k
abbrev fn_zubQ : FuncId := 132
def zubQ_c : ACode :=
 (.seq (.region [
 o1 4 (.mov k0)]) (.seq (.region [
 o1 5 (.mov (tm 0)),
 o1 6 (.mov (tm 1)),
 o1 7 (.callV (.func 153) [(tm 6)]),
 o1 8 (.callV (.func 91) [(tm 5), (tm 7)]),
 o1 4 (.mov (tm 8))]) .ret))
def zubQ : AFunc := ⟨9, [(4, none)], zubQ_c, none⟩
theorem zubQ_t0 : tableOf Tryz.prog 132 = some zubQ := by kernel_rfl
theorem zubQ_t : T0 132 = some zubQ := withKept_t rfl (withTrue_t rfl zubQ_t0)
theorem zubQ_runs {v0 v1 : Value} {h : Heap} {R : RP} {X : XP} (k : RunC Tryz.prog T0 zubQ_c ⟨[v0, v1, U, U, U, U, U, U, U], [], h, none⟩ (bodyQ Tryz.prog T0 [(4, none)] R X)) :
 Runs Tryz.prog T0 (.fn 132) [v0, v1] h R X := Runs.fn zubQ_t rfl k
abbrev fn_zqbQ : FuncId := 133
def zqbQ_c : ACode :=
 (.seq (.region [
 o1 3 (.box 130 (tm 1)),
 o1 4 (.mov k0)]) (.seq (.region [
 o1 5 (.mov (tm 0)),
 o1 6 (.buildSlice 5 [] 0 []),
 o1 7 (.sliceArr 4 1 (tm 3) none none),
 o1 8 (.append 5 1 1 [(.int .u8 0)] false (tm 6) (tm 7)),
 o1 9 (.callV (.func 91) [(tm 5), (tm 8)]),
 o1 4 (.mov (tm 9))]) .ret))
def zqbQ : AFunc := ⟨10, [(4, none)], zqbQ_c, none⟩
theorem zqbQ_t0 : tableOf Tryz.prog 133 = some zqbQ := by kernel_rfl
theorem zqbQ_t : T0 133 = some zqbQ := withKept_t rfl (withTrue_t rfl zqbQ_t0)
theorem zqbQ_runs {v0 v1 : Value} {h : Heap} {R : RP} {X : XP} (k : RunC Tryz.prog T0 zqbQ_c ⟨[v0, v1, U, U, U, U, U, U, U, U], [], h, none⟩ (bodyQ Tryz.prog T0 [(4, none)] R X)) :
 Runs Tryz.prog T0 (.fn 133) [v0, v1] h R X := Runs.fn zqbQ_t rfl k
abbrev fn_ztQ : FuncId := 134
def ztQ_c : ACode :=
 (.seq (.region [
 o1 0 (.mov (.const (.slice none 0 0)))]) (.seq (.region [
 o1 1 (.build [.nilFunc, (.int .i64 0)] [(0, 1, (.func 154)), (1, 1, (.const (.int .i64 5)))]),
 o1 2 (.build [.nilFunc, (.int .i64 0)] [(0, 1, (.func 156)), (1, 1, (.const (.int .i64 3)))]),
 o1 3 (.build [.nilFunc, (.int .i64 0)] [(0, 1, (.func 157)), (1, 1, (.const (.int .i64 3)))]),
 o1 4 (.buildSlice 175 [.nilFunc, (.int .i64 0), .nilFunc, (.int .i64 0), .nilFunc, (.int .i64 0)] 3 [(0, 2, (tm 1)), (2, 2, (tm 2)), (4, 2, (tm 3))]),
 o1 0 (.mov (tm 4))]) .ret))
def ztQ : AFunc := ⟨5, [(0, none)], ztQ_c, none⟩
theorem ztQ_t0 : tableOf Tryz.prog 134 = some ztQ := by kernel_rfl
theorem ztQ_t : T0 134 = some ztQ := withKept_t rfl (withTrue_t rfl ztQ_t0)
theorem ztQ_runs {v : Value} {h : Heap} {R : RP} {X : XP} (k : RunC Tryz.prog T0 ztQ_c ⟨[undef, U, U, U, U], [], h, none⟩ (bodyQ Tryz.prog T0 [(0, none)] R X)) :
 Runs Tryz.prog T0 (.fn 134) [] h R X := Runs.fn ztQ_t rfl k
end Go.Proofs.YtninaabbojcdpaaGreat.A
