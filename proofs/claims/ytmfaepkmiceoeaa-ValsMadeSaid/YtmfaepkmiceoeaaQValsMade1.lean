/- Contracts of functions, over the machine. -/
import Derived.Test.YtmfaepkmiceoeaaRows
import Derived.Test.YtmfaepkmiceoeaaVJ
import Derived.Test.YtmfaepkmiceoeaaVK
namespace Go.Vm
abbrev U : Value := undef
abbrev tm (n : Nat) : Operand := .tmp n
abbrev k0 : Operand := .const (.int .i64 0)
abbrev o1 (d : Nat) (x : AOp) : AOper := ⟨some d, x, none, [], false⟩
abbrev o2 (d : Nat) (x : AOp) : AOper := ⟨some d, x, none, [], true⟩
abbrev o3 (x : AOp) : AOper := ⟨none, x, none, [], false⟩
abbrev o4 (d : Nat) (x : AOp) (t : Nat) : AOper := ⟨some d, x, some (t, true), [], false⟩
abbrev o5 (d : Nat) (x : AOp) (t : Nat) : AOper := ⟨some d, x, some (t, false), [], false⟩
end Go.Vm
noncomputable section
set_option maxRecDepth 100000
set_option linter.unusedVariables false
namespace Go.Proofs.Ytmfaepkmiceoeaa.A
open Go Go.Vm
instance : IsIface Try.prog 20 := ⟨by kernel_rfl⟩
abbrev prims : List FuncId := [5, 9]
abbrev kepts : List FuncId := []
def T0 : Table := withKept (withTrue Try.prog prims) kepts
theorem zgQ_known {h : Heap} : Runs Try.prog T0 (.fn 5) [] h (fun r h' => r = .bool true ∧ h' = h) (fun _ _ => False) := known_runs rfl
instance : IsBoolT Try.prog 4 := ⟨by kernel_rfl⟩
instance : TLeaves Try.prog 7 (.i .i64 :: (.i .i64 :: (.b :: (.i .u8 :: [])))) := ⟨by kernel_rfl, by kernel_rfl, by kernel_rfl⟩
instance : TLeaves Try.prog 8 (.i .i64 :: (.i .i64 :: (.b :: (.i .u8 :: [])))) := ⟨by kernel_rfl, by kernel_rfl, by kernel_rfl⟩
instance : TLeaves Try.prog 27 (.i .i64 :: (.i .i64 :: [])) := ⟨by kernel_rfl, by kernel_rfl, by kernel_rfl⟩
instance : TLeaves Try.prog 28 (.i .i64 :: (.i .i64 :: [])) := ⟨by kernel_rfl, by kernel_rfl, by kernel_rfl⟩
instance : TLeaves Try.prog 41 (u8s 4) := ⟨by kernel_rfl, by kernel_rfl, by kernel_rfl⟩
instance : TLeaves Try.prog 42 (u8s 4) := ⟨by kernel_rfl, by kernel_rfl, by kernel_rfl⟩
instance : TLeaves Try.prog 51 (.i .u64 :: (.i .u64 :: [])) := ⟨by kernel_rfl, by kernel_rfl, by kernel_rfl⟩
instance : TLeaves Try.prog 52 (.i .u64 :: (.i .u64 :: [])) := ⟨by kernel_rfl, by kernel_rfl, by kernel_rfl⟩
instance : TLeaves Try.prog 53 (u8s 4 ++ (.i .i64 :: [])) := ⟨by kernel_rfl, by kernel_rfl, by kernel_rfl⟩
instance : TLeaves Try.prog 54 (u8s 4 ++ (.i .i64 :: [])) := ⟨by kernel_rfl, by kernel_rfl, by kernel_rfl⟩
instance : TLeaves Try.prog 62 (u8s 32) := ⟨by kernel_rfl, by kernel_rfl, by kernel_rfl⟩
instance : TLeaves Try.prog 63 (u8s 32) := ⟨by kernel_rfl, by kernel_rfl, by kernel_rfl⟩
instance : TLeaves Try.prog 75 (u8s 4 ++ (.b :: (.i .i64 :: (.i .i64 :: [])))) := ⟨by kernel_rfl, by kernel_rfl, by kernel_rfl⟩
instance : TLeaves Try.prog 76 (u8s 4 ++ (.b :: (.i .i64 :: (.i .i64 :: [])))) := ⟨by kernel_rfl, by kernel_rfl, by kernel_rfl⟩
instance : TLeaves Try.prog 94 (.i .u64 :: (.i .u64 :: (.i .u64 :: []))) := ⟨by kernel_rfl, by kernel_rfl, by kernel_rfl⟩
instance : TLeaves Try.prog 95 (.i .u64 :: (.i .u64 :: (.i .u64 :: []))) := ⟨by kernel_rfl, by kernel_rfl, by kernel_rfl⟩
instance : TLeaves Try.prog 132 (.i .u32 :: (.i .u32 :: (.i .u32 :: (.i .u32 :: (.i .u32 :: (.i .u32 :: (.i .u32 :: (.i .u32 :: [])))))))) := ⟨by kernel_rfl, by kernel_rfl, by kernel_rfl⟩
instance : TLeaves Try.prog 140 (u8s 4 ++ (u8s 4 ++ (.i .u8 :: []))) := ⟨by kernel_rfl, by kernel_rfl, by kernel_rfl⟩
instance : TLeaves Try.prog 143 (.i .u32 :: (.i .u32 :: (.i .u32 :: (.i .u32 :: (.i .u32 :: (.i .u32 :: (.i .u32 :: (.i .u32 :: [])))))))) := ⟨by kernel_rfl, by kernel_rfl, by kernel_rfl⟩
instance : TLeaves Try.prog 146 (.i .i64 :: []) := ⟨by kernel_rfl, by kernel_rfl, by kernel_rfl⟩
instance : TLeaves Try.prog 147 (.i .i64 :: []) := ⟨by kernel_rfl, by kernel_rfl, by kernel_rfl⟩
instance : TLeaves Try.prog 152 (.i .u32 :: (.i .u32 :: (.i .u32 :: (.i .u32 :: (.i .u32 :: (.i .u32 :: (.i .u32 :: (.i .u32 :: (.i .u32 :: (.i .u32 :: (.i .u32 :: (.i .u32 :: (.i .u32 :: (.i .u32 :: (.i .u32 :: (.i .u32 :: [])))))))))))))))) := ⟨by kernel_rfl, by kernel_rfl, by kernel_rfl⟩
instance : TLeaves Try.prog 153 (.i .i64 :: (.i .i64 :: (.i .i64 :: (.i .i64 :: (.i .i64 :: (.i .i64 :: (.i .i64 :: (.i .i64 :: (.i .i64 :: (.i .i64 :: (.i .i64 :: (.i .i64 :: (.i .i64 :: (.i .i64 :: (.i .i64 :: (.i .i64 :: [])))))))))))))))) := ⟨by kernel_rfl, by kernel_rfl, by kernel_rfl⟩
instance : TLeaves Try.prog 156 (.i .i64 :: (.i .i64 :: [])) := ⟨by kernel_rfl, by kernel_rfl, by kernel_rfl⟩
instance : TLeaves Try.prog 157 (.i .i64 :: (.i .i64 :: [])) := ⟨by kernel_rfl, by kernel_rfl, by kernel_rfl⟩
instance : TLeaves Try.prog 167 (.i .i64 :: (.i .i64 :: (.i .i64 :: (.i .i64 :: (.i .i64 :: (.i .i64 :: (.i .i64 :: (.i .i64 :: (.i .i64 :: (.i .i64 :: (.i .i64 :: (.i .i64 :: (.i .i64 :: (.i .i64 :: (.i .i64 :: (.i .i64 :: (.i .i64 :: (.i .i64 :: (.i .i64 :: (.i .i64 :: (.i .i64 :: (.i .i64 :: (.i .i64 :: (.i .i64 :: (.i .i64 :: (.i .i64 :: (.i .i64 :: (.i .i64 :: (.i .i64 :: (.i .i64 :: (.i .i64 :: (.i .i64 :: (.i .i64 :: (.i .i64 :: (.i .i64 :: (.i .i64 :: (.i .i64 :: (.i .i64 :: (.i .i64 :: (.i .i64 :: (.i .i64 :: (.i .i64 :: (.i .i64 :: (.i .i64 :: (.i .i64 :: (.i .i64 :: (.i .i64 :: (.i .i64 :: (.i .i64 :: (.i .i64 :: (.i .i64 :: (.i .i64 :: (.i .i64 :: (.i .i64 :: (.i .i64 :: (.i .i64 :: (.i .i64 :: (.i .i64 :: (.i .i64 :: (.i .i64 :: (.i .i64 :: (.i .i64 :: (.i .i64 :: (.i .i64 :: (.i .i64 :: (.i .i64 :: (.i .i64 :: (.i .i64 :: (.i .i64 :: (.i .i64 :: (.i .i64 :: (.i .i64 :: (.i .i64 :: (.i .i64 :: (.i .i64 :: (.i .i64 :: (.i .i64 :: (.i .i64 :: (.i .i64 :: (.i .i64 :: (.i .i64 :: (.i .i64 :: (.i .i64 :: (.i .i64 :: (.i .i64 :: (.i .i64 :: (.i .i64 :: (.i .i64 :: (.i .i64 :: (.i .i64 :: (.i .i64 :: (.i .i64 :: (.i .i64 :: (.i .i64 :: (.i .i64 :: (.i .i64 :: (.i .i64 :: (.i .i64 :: (.i .i64 :: (.i .i64 :: (.i .i64 :: (.i .i64 :: (.i .i64 :: (.i .i64 :: (.i .i64 :: (.i .i64 :: (.i .i64 :: (.i .i64 :: (.i .i64 :: (.i .i64 :: (.i .i64 :: (.i .i64 :: (.i .i64 :: (.i .i64 :: (.i .i64 :: (.i .i64 :: (.i .i64 :: (.i .i64 :: (.i .i64 :: (.i .i64 :: (.i .i64 :: (.i .i64 :: (.i .i64 :: (.i .i64 :: (.i .i64 :: (.i .i64 :: (.i .i64 :: (.i .i64 :: (.i .i64 :: (.i .i64 :: (.i .i64 :: (.i .i64 :: (.i .i64 :: (.i .i64 :: (.i .i64 :: (.i .i64 :: (.i .i64 :: (.i .i64 :: (.i .i64 :: (.i .i64 :: (.i .i64 :: (.i .i64 :: (.i .i64 :: (.i .i64 :: (.i .i64 :: (.i .i64 :: (.i .i64 :: (.i .i64 :: (.i .i64 :: (.i .i64 :: (.i .i64 :: (.i .i64 :: (.i .i64 :: (.i .i64 :: (.i .i64 :: (.i .i64 :: (.i .i64 :: (.i .i64 :: (.i .i64 :: (.i .i64 :: [])))))))))))))))))))))))))))))))))))))))))))))))))))))))))))))))))))))))))))))))))))))))))))))))))))))))))))))))))))))))))))))))))))))))))))))))))))))))))))))))) := ⟨by kernel_rfl, by kernel_rfl, by kernel_rfl⟩
abbrev fn_zhQ : FuncId := 7
def zhQ_c : ACode :=
 (.seq (.region [
 o1 6 (.mov (.const (.bool false)))]) (.seq (.region [
 o1 13 (.callV (.func 5) []),
 o1 7 (.mov (tm 13))]) (.seq (.seq (.region [
 o1 14 (.mov (tm 0)),
 o1 15 (.lenSl (tm 14)),
 o1 16 (.bin .gtr (so (.binOp .gtr 3 (tm 15) (.const (.int .i64 30)) 3) 4) (tm 15) (.const (.int .i64 30))),
 o1 17 (.mov (tm 16)),
 o5 18 (.mov (tm 1)) 17,
 o5 19 (.lenSl (tm 18)) 17,
 o5 20 (.bin .gtr (so (.binOp .gtr 3 (tm 19) (.const (.int .i64 30)) 3) 4) (tm 19) (.const (.int .i64 30))) 17,
 o1 21 (.pick (tm 17) (.const (.bool true)) (tm 20)),
 o1 22 (.mov (tm 21)),
 o5 23 (.mov (tm 0)) 22,
 o5 24 (.callV (.func 22) [(tm 23)]) 22,
 o5 25 (.bin .neq (so (.binOp .neq 26 (tm 24) k0 26) 4) (tm 24) k0) 22,
 o1 26 (.pick (tm 22) (.const (.bool true)) (tm 25)),
 o1 27 (.mov (tm 26)),
 o5 28 (.mov (tm 1)) 27,
 o5 29 (.callV (.func 22) [(tm 28)]) 27,
 o5 30 (.bin .neq (so (.binOp .neq 26 (tm 29) k0 26) 4) (tm 29) k0) 27,
 o1 31 (.pick (tm 27) (.const (.bool true)) (tm 30))]) (.cond (tm 31)
 (.seq (.region [
 o1 32 (.mov (tm 7)),
 o1 6 (.mov (tm 32))]) .ret)
 .skip)) (.seq (.region [
 o1 33 (.mov (tm 0)),
 o1 34 (.mov (tm 1)),
 o1 35 (.callV (.func 32) [(tm 33), (tm 34)]),
 o1 8 (.mov (tm 35))]) (.seq (.seq (.region [
 o1 36 (.mov (tm 0)),
 o1 37 (.mov (tm 8)),
 o1 38 (.mov (tm 1)),
 o1 39 (.callV (.func 24) [(tm 36), (tm 37), (tm 38), k0]),
 o1 40 (.raw (so (.unOp .not 4 (tm 39)) 4)),
 o1 41 (.mov (tm 40)),
 o5 42 (.mov (tm 1)) 41,
 o5 43 (.mov (tm 1)) 41,
 o5 44 (.mov (tm 0)) 41,
 o5 45 (.callV (.func 32) [(tm 43), (tm 44)]) 41,
 o5 46 (.mov (tm 0)) 41,
 o5 47 (.callV (.func 24) [(tm 42), (tm 45), (tm 46), k0]) 41,
 o5 48 (.raw (so (.unOp .not 4 (tm 47)) 4)) 41,
 o1 49 (.pick (tm 41) (.const (.bool true)) (tm 48)),
 o1 50 (.mov (tm 49)),
 o5 51 (.mov (tm 0)) 50,
 o5 52 (.mov (tm 0)) 50,
 o5 53 (.callV (.func 24) [(tm 51), (.const (.slice none 0 0)), (tm 52), k0]) 50,
 o5 54 (.raw (so (.unOp .not 4 (tm 53)) 4)) 50,
 o1 55 (.pick (tm 50) (.const (.bool true)) (tm 54))]) (.cond (tm 55)
 (.seq (.region [
 o1 6 (.mov (.const (.bool false)))]) .ret)
 .skip)) (.seq (.region [
 o1 56 (.mov (tm 2)),
 o1 57 (.mov (tm 8)),
 o1 58 (.lenSl (tm 57)),
 o1 59 (.bin .add (so (.binOp .add 3 (tm 58) (.const (.int .i64 1)) 3) 3) (tm 58) (.const (.int .i64 1))),
 o1 60 (.callV (.func 27) [(tm 56), (tm 59)]),
 o1 2 (.mov (tm 60))]) (.seq (.region [
 o1 62 (.mov (tm 0)),
 o1 63 (.mov (tm 8)),
 o1 64 (.mov (tm 2)),
 o1 65 (.sliceSl 5 (tm 63) none (some (tm 64)) none),
 o1 66 (.callV (.func 17) [(tm 62), (tm 65)]),
 o1 61 (.mov (tm 66)),
 o1 67 (.extract 0 (tm 61)),
 o1 68 (.extract 1 (tm 61)),
 o1 9 (.mov (tm 67)),
 o1 10 (.mov (tm 68))]) (.seq (.seq (.region [
 o1 69 (.mov (tm 10)),
 o1 70 (.bin .neq (so (.binOp .neq 26 (tm 69) k0 26) 4) (tm 69) k0)]) (.cond (tm 70)
 (.seq (.region [
 o1 71 (.mov (tm 7)),
 o1 72 (.mov (tm 71)),
 o4 73 (.mov (tm 10)) 72,
 o4 74 (.bin .eql (so (.binOp .eql 26 (tm 73) (.const (.int .i64 6)) 26) 4) (tm 73) (.const (.int .i64 6))) 72,
 o1 75 (.pick (tm 72) (tm 74) (.const (.bool false))),
 o1 6 (.mov (tm 75))]) .ret)
 .skip)) (.seq (.region [
 o1 77 (.mov (tm 0)),
 o1 78 (.mov (tm 8)),
 o1 79 (.mov (tm 2)),
 o1 80 (.sliceSl 5 (tm 78) (some (tm 79)) none none),
 o1 81 (.callV (.func 17) [(tm 77), (tm 80)]),
 o1 76 (.mov (tm 81)),
 o1 82 (.extract 0 (tm 76)),
 o1 83 (.extract 1 (tm 76)),
 o1 11 (.mov (tm 82)),
 o1 12 (.mov (tm 83))]) (.seq (.seq (.region [
 o1 84 (.mov (tm 9)),
 o1 85 (.mov (tm 8)),
 o1 86 (.mov (tm 2)),
 o1 87 (.sliceSl 5 (tm 85) (some (tm 86)) none none),
 o1 88 (.mov (tm 1)),
 o1 89 (.callV (.func 24) [(tm 84), (tm 87), (tm 88), k0]),
 o1 90 (.raw (so (.unOp .not 4 (tm 89)) 4))]) (.cond (tm 90)
 (.seq (.region [
 o1 6 (.mov (.const (.bool false)))]) .ret)
 .skip)) (.seq (.region [
 o1 91 (.mov (tm 7)),
 o1 92 (.mov (tm 91)),
 o4 93 (.mov (tm 12)) 92,
 o4 94 (.bin .eql (so (.binOp .eql 26 (tm 93) (.const (.int .i64 6)) 26) 4) (tm 93) (.const (.int .i64 6))) 92,
 o4 95 (.mov (tm 94)) 92,
 o5 96 (.mov (tm 12)) 95,
 o5 97 (.bin .eql (so (.binOp .eql 26 (tm 96) k0 26) 4) (tm 96) k0) 95,
 o5 98 (.mov (tm 97)) 95,
 o4 99 (.mov (tm 11)) 98,
 o4 100 (.mov (tm 8)) 98,
 o4 101 (.mov (tm 2)) 98,
 o4 102 (.sliceSl 5 (tm 100) none (some (tm 101)) none) 98,
 o4 103 (.mov (tm 1)) 98,
 o4 104 (.callV (.func 24) [(tm 99), (tm 102), (tm 103), k0]) 98,
 o5 105 (.pick (tm 98) (tm 104) (.const (.bool false))) 95,
 o4 106 (.pick (tm 95) (.const (.bool true)) (tm 105)) 92,
 o1 107 (.pick (tm 92) (tm 106) (.const (.bool false))),
 o1 6 (.mov (tm 107))]) .ret)))))))))))
def zhQ : AFunc := ⟨108, [(6, none)], zhQ_c, none⟩
theorem zhQ_t0 : tableOf Try.prog 7 = some zhQ := by kernel_rfl
theorem zhQ_t : T0 7 = some zhQ := withKept_t rfl (withTrue_t rfl zhQ_t0)
theorem zhQ_runs {v0 v1 v2 : Value} {h : Heap} {R : RP} {X : XP} (k : RunC Try.prog T0 zhQ_c ⟨[v0, v1, v2, U, U, U, U, U, U, U, U, U, U, U, U, U, U, U, U, U, U, U, U, U, U, U, U, U, U, U, U, U, U, U, U, U, U, U, U, U, U, U, U, U, U, U, U, U, U, U, U, U, U, U, U, U, U, U, U, U, U, U, U, U, U, U, U, U, U, U, U, U, U, U, U, U, U, U, U, U, U, U, U, U, U, U, U, U, U, U, U, U, U, U, U, U, U, U, U, U, U, U, U, U, U, U, U, U], [], h, none⟩ (bodyQ Try.prog T0 [(6, none)] R X)) :
 Runs Try.prog T0 (.fn 7) [v0, v1, v2] h R X := Runs.fn zhQ_t rfl k
abbrev fn_zeQ : FuncId := 13
def zeQ_l0 : ACode :=
 (.seq (.seq (.region [
 o1 12 (.mov (tm 5)),
 o1 13 (.mov (tm 12)),
 o4 14 (.mov (tm 6)) 13,
 o4 15 (.mov (tm 0)) 13,
 o4 16 (.lenSl (tm 15)) 13,
 o4 17 (.bin .lss (so (.binOp .lss 3 (tm 14) (tm 16) 3) 4) (tm 14) (tm 16)) 13,
 o1 18 (.pick (tm 13) (tm 17) (.const (.bool false)))]) (.cond (tm 18)
 .skip
 (.exit 0))) (.seq (.block 1 (.regionD [
 o1 21 (.mov (tm 0)),
 o1 22 (.mov (tm 6)),
 o1 23 (.indexSl 5 (tm 21) (tm 22)),
 o1 24 (.load (some 5) (tm 23)),
 o1 25 (.mov (tm 1)),
 o1 26 (.mov (tm 6)),
 o1 27 (.indexSl 5 (tm 25) (tm 26)),
 o1 28 (.load (some 5) (tm 27)),
 o2 29 (.bin .eql (so (.binOp .eql 54 (tm 24) (tm 28) 54) 4) (tm 24) (tm 28)),
 o2 5 (.mov (tm 29))])) (.region [
 o1 19 (.mov (tm 6)),
 o1 20 (.bin .add (so (.binOp .add 3 (tm 19) (.const (.int .i64 1)) 3) 3) (tm 19) (.const (.int .i64 1))),
 o1 6 (.mov (tm 20))])))
def zeQ_c : ACode :=
 (.seq (.region [
 o1 4 (.mov (.const (.bool false)))]) (.seq (.region [
 o1 7 (.mov (tm 0)),
 o1 8 (.lenSl (tm 7)),
 o1 9 (.mov (tm 1)),
 o1 10 (.lenSl (tm 9)),
 o1 11 (.bin .eql (so (.binOp .eql 3 (tm 8) (tm 10) 3) 4) (tm 8) (tm 10)),
 o1 5 (.mov (tm 11))]) (.seq (.seq (.region [
 o1 6 (.mov k0)]) (.block 0 (.loop zeQ_l0))) (.seq (.region [
 o1 30 (.mov (tm 5)),
 o1 4 (.mov (tm 30))]) .ret))))
def zeQ : AFunc := ⟨31, [(4, none)], zeQ_c, none⟩
theorem zeQ_t0 : tableOf Try.prog 13 = some zeQ := by kernel_rfl
theorem zeQ_t : T0 13 = some zeQ := withKept_t rfl (withTrue_t rfl zeQ_t0)
theorem zeQ_runs {v0 v1 : Value} {h : Heap} {R : RP} {X : XP} (k : RunC Try.prog T0 zeQ_c ⟨[v0, v1, U, U, U, U, U, U, U, U, U, U, U, U, U, U, U, U, U, U, U, U, U, U, U, U, U, U, U, U, U], [], h, none⟩ (bodyQ Try.prog T0 [(4, none)] R X)) :
 Runs Try.prog T0 (.fn 13) [v0, v1] h R X := Runs.fn zeQ_t rfl k
def zeQ_l0_J (f0 f1 f2 f3 f4 f7 f8 f9 f10 f11 f30 : Value) (ds : List Deferred) (rd : Option Nat) (I : Nat → Value → Value → Heap → Prop) (m : Nat) (s : St) : Prop := ∃ (v5 v6 : Value), ∃ h : Heap, ∃ (x12 x13 x14 x15 x16 x17 x18 x19 x20 x21 x22 x23 x24 x25 x26 x27 x28 x29 : Value), s = ⟨[f0, f1, f2, f3, f4, v5, v6, f7, f8, f9, f10, f11, x12, x13, x14, x15, x16, x17, x18, x19, x20, x21, x22, x23, x24, x25, x26, x27, x28, x29, f30], ds, h, rd⟩ ∧ I m v5 v6 h
theorem zeQ_l0_rule {f0 f1 f2 f3 f4 f7 f8 f9 f10 f11 f30 : Value} {ds : List Deferred} {rd : Option Nat} {Q : QP} (I : Nat → Value → Value → Heap → Prop) (hb : ∀ (m : Nat) (v5 v6 : Value) (h : Heap) (x12 x13 x14 x15 x16 x17 x18 x19 x20 x21 x22 x23 x24 x25 x26 x27 x28 x29 : Value) , I m v5 v6 h → RunC Try.prog T0 zeQ_l0 ⟨[f0, f1, f2, f3, f4, v5, v6, f7, f8, f9, f10, f11, x12, x13, x14, x15, x16, x17, x18, x19, x20, x21, x22, x23, x24, x25, x26, x27, x28, x29, f30], ds, h, rd⟩ (loopQ (zeQ_l0_J f0 f1 f2 f3 f4 f7 f8 f9 f10 f11 f30 ds rd I) m Q))
 (m : Nat) {v5 v6 : Value} {h : Heap} {x12 x13 x14 x15 x16 x17 x18 x19 x20 x21 x22 x23 x24 x25 x26 x27 x28 x29 : Value} (hi : I m v5 v6 h) : RunC Try.prog T0 (.loop zeQ_l0) ⟨[f0, f1, f2, f3, f4, v5, v6, f7, f8, f9, f10, f11, x12, x13, x14, x15, x16, x17, x18, x19, x20, x21, x22, x23, x24, x25, x26, x27, x28, x29, f30], ds, h, rd⟩ Q :=
 RunC.loopJ (zeQ_l0_J f0 f1 f2 f3 f4 f7 f8 f9 f10 f11 f30 ds rd I) (fun m s hj => by obtain ⟨v5, v6, h, x12, x13, x14, x15, x16, x17, x18, x19, x20, x21, x22, x23, x24, x25, x26, x27, x28, x29, rfl, hi⟩ := hj; exact hb m v5 v6 h x12 x13 x14 x15 x16 x17 x18 x19 x20 x21 x22 x23 x24 x25 x26 x27 x28 x29 hi) m _ ⟨_, _, h, _, _, _, _, _, _, _, _, _, _, _, _, _, _, _, _, _, _, rfl, hi⟩
theorem zeQ_l0_again {f0 f1 f2 f3 f4 f7 f8 f9 f10 f11 f30 : Value} {ds : List Deferred} {rd : Option Nat} {Q : QP} {I : Nat → Value → Value → Heap → Prop} {m : Nat} (m' : Nat) {v5 v6 : Value} {h : Heap} {x12 x13 x14 x15 x16 x17 x18 x19 x20 x21 x22 x23 x24 x25 x26 x27 x28 x29 : Value} (hm : m' < m) (hi : I m' v5 v6 h) : loopQ (zeQ_l0_J f0 f1 f2 f3 f4 f7 f8 f9 f10 f11 f30 ds rd I) m Q .normal ⟨[f0, f1, f2, f3, f4, v5, v6, f7, f8, f9, f10, f11, x12, x13, x14, x15, x16, x17, x18, x19, x20, x21, x22, x23, x24, x25, x26, x27, x28, x29, f30], ds, h, rd⟩ :=
 loopQ.again m' hm ⟨_, _, h, _, _, _, _, _, _, _, _, _, _, _, _, _, _, _, _, _, _, rfl, hi⟩
abbrev fn_zsQ : FuncId := 17
def zsQ_l0 : ACode :=
 (.seq (.region [
 o1 23 (.bin .lss (so (.binOp .lss 3 (tm 22) (tm 21) 3) 0) (tm 22) (tm 21))]) (.seq (.cond (tm 23)
 .skip
 (.exit 0)) (.seq (.block 1 (.seq (.region [
 o1 24 (.indexSl 5 (tm 20) (tm 22)),
 o1 25 (.load (some 5) (tm 24)),
 o1 9 (.alloc 54 [(.int .u8 0), (.int .u8 0), (.int .u8 0), (.int .u8 0), (.int .i64 0)]),
 o3 (.store 5 (tm 9) (tm 25))]) (.seq (.seq (.region [
 o1 26 (.load (some 5) (tm 9)),
 o1 27 (.callV (.func 48) [(tm 7), (tm 26)]),
 o1 10 (.mov (tm 27))]) (.seq (.region [
 o1 28 (.mov (tm 10)),
 o1 29 (.bin .neq (so (.binOp .neq 26 (tm 28) k0 26) 4) (tm 28) k0)]) (.cond (tm 29)
 (.seq (.region [
 o1 30 (.mov (tm 10)),
 o3 (.store 1 (tm 4) (.const (.slice none 0 0))),
 o1 5 (.mov (tm 30))]) .ret)
 .skip))) (.seq (.region [
 o1 32 (.mov (tm 0)),
 o1 33 (.fieldAddr 0 (tm 9)),
 o1 34 (.load (some 4) (tm 33)),
 o1 35 (.callV (.func 19) [(tm 32), (tm 34)]),
 o1 31 (.mov (tm 35)),
 o1 36 (.extract 0 (tm 31)),
 o1 37 (.extract 1 (tm 31)),
 o1 11 (.mov (tm 36)),
 o1 12 (.mov (tm 37))]) (.seq (.region [
 o1 38 (.fieldAddr 4 (tm 9)),
 o1 39 (.load none (tm 38)),
 o1 40 (.bin .eql (so (.binOp .eql 3 (tm 39) k0 3) 4) (tm 39) k0),
 o1 41 (.mov (tm 40)),
 o4 42 (.mov (tm 12)) 41,
 o4 43 (.raw (so (.unOp .not 4 (tm 42)) 4)) 41,
 o1 44 (.pick (tm 41) (tm 43) (.const (.bool false)))]) (.cond (tm 44)
 (.seq (.region [
 o3 (.store 1 (tm 4) (.const (.slice none 0 0))),
 o1 5 (.mov (.const (.int .i64 10)))]) .ret)
 .skip)))))) (.region [
 o1 45 (.bin .add (so (.binOp .add 3 (tm 22) (.const (.int .i64 1)) 3) 3) (tm 22) (.const (.int .i64 1))),
 o1 22 (.mov (tm 45))]))))
def zsQ_ra0 : Code := (rangeParts (subCode ((Try.prog.funcs[17]?).bind (·.body)) [true, true, true, true, false, true, false])).1
def zsQ_rb0 : Code := (rangeParts (subCode ((Try.prog.funcs[17]?).bind (·.body)) [true, true, true, true, false, true, false])).2
def zsQ_a0 : ACode :=
 (.region [
 o1 13 (.alloc 54 [(.int .u8 0), (.int .u8 0), (.int .u8 0), (.int .u8 0), (.int .i64 0)]),
 o3 (.store 5 (tm 13) (tm 49))])
def zsQ_b0 : ACode :=
 (.block 3 (.seq (.region [
 o1 50 (.fieldAddr 4 (tm 13)),
 o1 51 (.load none (tm 50)),
 o1 52 (.bin .gtr (so (.binOp .gtr 3 (tm 51) k0 3) 4) (tm 51) k0)]) (.cond (tm 52)
 (.region [
 o1 53 (.load none (tm 4)),
 o1 54 (.load (some 5) (tm 13)),
 o1 55 (.buildSlice 54 [(.int .u8 0), (.int .u8 0), (.int .u8 0), (.int .u8 0), (.int .i64 0)] 1 [(0, 5, (tm 54))]),
 o1 56 (.append 54 5 16 [(.int .u8 0), (.int .u8 0), (.int .u8 0), (.int .u8 0), (.int .i64 0)] false (tm 53) (tm 55)),
 o3 (.store 1 (tm 4) (tm 56))])
 .skip)))
theorem zsQ_ca0 : comp Try.prog zsQ_ra0 = some zsQ_a0 := by kernel_rfl
theorem zsQ_cb0 : comp Try.prog zsQ_rb0 = some zsQ_b0 := by kernel_rfl
theorem zsQ_na0 : noDefer zsQ_ra0 = true := by kernel_rfl
theorem zsQ_nb0 : noDefer zsQ_rb0 = true := by kernel_rfl
def zsQ_c : ACode :=
 (.seq (.region [
 o1 4 (.alloc 25 [(.slice none 0 0)]),
 o1 5 (.mov k0)]) (.seq (.seq (.region [
 o1 14 (.mov (tm 0)),
 o1 15 (.callV (.func 22) [(tm 14)]),
 o1 6 (.mov (tm 15))]) (.seq (.region [
 o1 16 (.mov (tm 6)),
 o1 17 (.bin .neq (so (.binOp .neq 26 (tm 16) k0 26) 4) (tm 16) k0)]) (.cond (tm 17)
 (.seq (.region [
 o1 18 (.mov (tm 6)),
 o3 (.store 1 (tm 4) (.const (.slice none 0 0))),
 o1 5 (.mov (tm 18))]) .ret)
 .skip))) (.seq (.region [
 o1 19 (.build [(.int .u8 0), (.int .u8 0), (.int .u8 0), (.int .u8 0), (.bool false), (.int .i64 0), (.int .i64 0)] [(6, 1, (.const (.int .i64 4611686018427387904)))]),
 o1 7 (.alloc 76 [(.int .u8 0), (.int .u8 0), (.int .u8 0), (.int .u8 0), (.bool false), (.int .i64 0), (.int .i64 0)]),
 o3 (.store 7 (tm 7) (tm 19))]) (.seq (.seq (.region [
 o1 20 (.mov (tm 1)),
 o1 21 (.lenSl (tm 20)),
 o1 22 (.mov k0)]) (.block 0 (.loop zsQ_l0))) (.seq (.seq (.region [
 o1 46 (.mov (tm 0)),
 o1 47 (.mov (tm 1)),
 o1 48 (.callV (.func 49) [(tm 46), (tm 47)])]) (.block 2 (.rangeFunc (tm 48) [49] zsQ_ra0 zsQ_rb0))) (.seq (.block 4 (.seq (.region [
 o1 58 (.load none (tm 4)),
 o1 59 (.lenSl (tm 58)),
 o1 60 (.bin .eql (so (.binOp .eql 3 (tm 59) k0 3) 4) (tm 59) k0),
 o1 57 (.mov (tm 60))]) (.cond (tm 57)
 (.seq (.region [
 o3 (.store 1 (tm 4) (.const (.slice none 0 0))),
 o1 5 (.mov (.const (.int .i64 6)))]) .ret)
 (.seq (.region [
 o1 62 (.load none (tm 4)),
 o1 63 (.lenSl (tm 62)),
 o1 64 (.bin .gtr (so (.binOp .gtr 3 (tm 63) (.const (.int .i64 64)) 3) 4) (tm 63) (.const (.int .i64 64))),
 o1 61 (.mov (tm 64))]) (.cond (tm 61)
 (.seq (.region [
 o3 (.store 1 (tm 4) (.const (.slice none 0 0))),
 o1 5 (.mov (.const (.int .i64 7)))]) .ret)
 .skip))))) (.seq (.region [
 o1 65 (.load none (tm 4)),
 o3 (.store 1 (tm 4) (tm 65)),
 o1 5 (.mov k0)]) .ret)))))))
def zsQ : AFunc := ⟨66, [(4, some none), (5, none)], zsQ_c, none⟩
theorem zsQ_t0 : tableOf Try.prog 17 = some zsQ := by kernel_rfl
theorem zsQ_t : T0 17 = some zsQ := withKept_t rfl (withTrue_t rfl zsQ_t0)
theorem zsQ_runs {v0 v1 : Value} {h : Heap} {R : RP} {X : XP} (k : RunC Try.prog T0 zsQ_c ⟨[v0, v1, U, U, U, U, U, U, U, U, U, U, U, U, U, U, U, U, U, U, U, U, U, U, U, U, U, U, U, U, U, U, U, U, U, U, U, U, U, U, U, U, U, U, U, U, U, U, U, U, U, U, U, U, U, U, U, U, U, U, U, U, U, U, U, U], [], h, none⟩ (bodyQ Try.prog T0 [(4, some none), (5, none)] R X)) :
 Runs Try.prog T0 (.fn 17) [v0, v1] h R X := Runs.fn zsQ_t rfl k
def zsQ_l0_J (f0 f1 f2 f3 f4 f6 f7 f8 f13 f14 f15 f16 f17 f18 f19 f20 f21 f46 f47 f48 f49 f50 f51 f52 f53 f54 f55 f56 f57 f58 f59 f60 f61 f62 f63 f64 f65 : Value) (ds : List Deferred) (rd : Option Nat) (I : Nat → Value → Value → Heap → Prop) (m : Nat) (s : St) : Prop := ∃ (v5 v22 : Value), ∃ h : Heap, ∃ (x9 x10 x11 x12 x23 x24 x25 x26 x27 x28 x29 x30 x31 x32 x33 x34 x35 x36 x37 x38 x39 x40 x41 x42 x43 x44 x45 : Value), s = ⟨[f0, f1, f2, f3, f4, v5, f6, f7, f8, x9, x10, x11, x12, f13, f14, f15, f16, f17, f18, f19, f20, f21, v22, x23, x24, x25, x26, x27, x28, x29, x30, x31, x32, x33, x34, x35, x36, x37, x38, x39, x40, x41, x42, x43, x44, x45, f46, f47, f48, f49, f50, f51, f52, f53, f54, f55, f56, f57, f58, f59, f60, f61, f62, f63, f64, f65], ds, h, rd⟩ ∧ I m v5 v22 h
theorem zsQ_l0_rule {f0 f1 f2 f3 f4 f6 f7 f8 f13 f14 f15 f16 f17 f18 f19 f20 f21 f46 f47 f48 f49 f50 f51 f52 f53 f54 f55 f56 f57 f58 f59 f60 f61 f62 f63 f64 f65 : Value} {ds : List Deferred} {rd : Option Nat} {Q : QP} (I : Nat → Value → Value → Heap → Prop) (hb : ∀ (m : Nat) (v5 v22 : Value) (h : Heap) (x9 x10 x11 x12 x23 x24 x25 x26 x27 x28 x29 x30 x31 x32 x33 x34 x35 x36 x37 x38 x39 x40 x41 x42 x43 x44 x45 : Value) , I m v5 v22 h → RunC Try.prog T0 zsQ_l0 ⟨[f0, f1, f2, f3, f4, v5, f6, f7, f8, x9, x10, x11, x12, f13, f14, f15, f16, f17, f18, f19, f20, f21, v22, x23, x24, x25, x26, x27, x28, x29, x30, x31, x32, x33, x34, x35, x36, x37, x38, x39, x40, x41, x42, x43, x44, x45, f46, f47, f48, f49, f50, f51, f52, f53, f54, f55, f56, f57, f58, f59, f60, f61, f62, f63, f64, f65], ds, h, rd⟩ (loopQ (zsQ_l0_J f0 f1 f2 f3 f4 f6 f7 f8 f13 f14 f15 f16 f17 f18 f19 f20 f21 f46 f47 f48 f49 f50 f51 f52 f53 f54 f55 f56 f57 f58 f59 f60 f61 f62 f63 f64 f65 ds rd I) m Q))
 (m : Nat) {v5 v22 : Value} {h : Heap} {x9 x10 x11 x12 x23 x24 x25 x26 x27 x28 x29 x30 x31 x32 x33 x34 x35 x36 x37 x38 x39 x40 x41 x42 x43 x44 x45 : Value} (hi : I m v5 v22 h) : RunC Try.prog T0 (.loop zsQ_l0) ⟨[f0, f1, f2, f3, f4, v5, f6, f7, f8, x9, x10, x11, x12, f13, f14, f15, f16, f17, f18, f19, f20, f21, v22, x23, x24, x25, x26, x27, x28, x29, x30, x31, x32, x33, x34, x35, x36, x37, x38, x39, x40, x41, x42, x43, x44, x45, f46, f47, f48, f49, f50, f51, f52, f53, f54, f55, f56, f57, f58, f59, f60, f61, f62, f63, f64, f65], ds, h, rd⟩ Q :=
 RunC.loopJ (zsQ_l0_J f0 f1 f2 f3 f4 f6 f7 f8 f13 f14 f15 f16 f17 f18 f19 f20 f21 f46 f47 f48 f49 f50 f51 f52 f53 f54 f55 f56 f57 f58 f59 f60 f61 f62 f63 f64 f65 ds rd I) (fun m s hj => by obtain ⟨v5, v22, h, x9, x10, x11, x12, x23, x24, x25, x26, x27, x28, x29, x30, x31, x32, x33, x34, x35, x36, x37, x38, x39, x40, x41, x42, x43, x44, x45, rfl, hi⟩ := hj; exact hb m v5 v22 h x9 x10 x11 x12 x23 x24 x25 x26 x27 x28 x29 x30 x31 x32 x33 x34 x35 x36 x37 x38 x39 x40 x41 x42 x43 x44 x45 hi) m _ ⟨_, _, h, _, _, _, _, _, _, _, _, _, _, _, _, _, _, _, _, _, _, _, _, _, _, _, _, _, _, _, rfl, hi⟩
theorem zsQ_l0_again {f0 f1 f2 f3 f4 f6 f7 f8 f13 f14 f15 f16 f17 f18 f19 f20 f21 f46 f47 f48 f49 f50 f51 f52 f53 f54 f55 f56 f57 f58 f59 f60 f61 f62 f63 f64 f65 : Value} {ds : List Deferred} {rd : Option Nat} {Q : QP} {I : Nat → Value → Value → Heap → Prop} {m : Nat} (m' : Nat) {v5 v22 : Value} {h : Heap} {x9 x10 x11 x12 x23 x24 x25 x26 x27 x28 x29 x30 x31 x32 x33 x34 x35 x36 x37 x38 x39 x40 x41 x42 x43 x44 x45 : Value} (hm : m' < m) (hi : I m' v5 v22 h) : loopQ (zsQ_l0_J f0 f1 f2 f3 f4 f6 f7 f8 f13 f14 f15 f16 f17 f18 f19 f20 f21 f46 f47 f48 f49 f50 f51 f52 f53 f54 f55 f56 f57 f58 f59 f60 f61 f62 f63 f64 f65 ds rd I) m Q .normal ⟨[f0, f1, f2, f3, f4, v5, f6, f7, f8, x9, x10, x11, x12, f13, f14, f15, f16, f17, f18, f19, f20, f21, v22, x23, x24, x25, x26, x27, x28, x29, x30, x31, x32, x33, x34, x35, x36, x37, x38, x39, x40, x41, x42, x43, x44, x45, f46, f47, f48, f49, f50, f51, f52, f53, f54, f55, f56, f57, f58, f59, f60, f61, f62, f63, f64, f65], ds, h, rd⟩ :=
 loopQ.again m' hm ⟨_, _, h, _, _, _, _, _, _, _, _, _, _, _, _, _, _, _, _, _, _, _, _, _, _, _, _, _, _, _, rfl, hi⟩
abbrev fn_zuQ : FuncId := 19
def zuQ_c : ACode :=
 (.seq (.region [
 o1 3 (.box 42 (tm 1)),
 o1 4 (.mov k0),
 o1 5 (.mov (.const (.bool false)))]) (.seq (.seq (.region [
 o1 9 (.mov (tm 0)),
 o1 10 (.callV (.func 22) [(tm 9)]),
 o1 11 (.bin .eql (so (.binOp .eql 26 (tm 10) k0 26) 4) (tm 10) k0)]) (.cond (tm 11)
 (.seq (.region [
 o1 13 (.mov (tm 0)),
 o1 14 (.load (some 4) (tm 3)),
 o1 15 (.callV (.func 52) [(tm 13), (tm 14), (.func 53)]),
 o1 12 (.mov (tm 15)),
 o1 16 (.extract 0 (tm 12)),
 o1 17 (.extract 1 (tm 12)),
 o1 6 (.mov (tm 16)),
 o1 7 (.mov (tm 17))]) (.seq (.seq (.region [
 o1 18 (.mov (tm 7)),
 o1 19 (.raw (so (.unOp .not 4 (tm 18)) 4))]) (.cond (tm 19)
 (.region [
 o1 6 (.mov k0)])
 .skip)) (.seq (.region [
 o1 20 (.mov (tm 6)),
 o1 21 (.mov (tm 7)),
 o1 4 (.mov (tm 20)),
 o1 5 (.mov (tm 21))]) .ret)))
 .skip)) (.seq (.region [
 o1 22 (.mov (tm 0)),
 o1 23 (.mkFunc (.func 55) [] [(tm 3)]),
 o1 24 (.callV (.func 54) [(tm 22), (tm 23)]),
 o1 8 (.mov (tm 24))]) (.seq (.region [
 o1 25 (.mov (tm 8)),
 o1 26 (.raw (so (.call ⟨.builtin .max, #[(tm 25), k0], #[3, 3]⟩) 3)),
 o1 27 (.mov (tm 8)),
 o1 28 (.bin .geq (so (.binOp .geq 3 (tm 27) k0 3) 4) (tm 27) k0),
 o1 4 (.mov (tm 26)),
 o1 5 (.mov (tm 28))]) .ret))))
def zuQ : AFunc := ⟨29, [(4, none), (5, none)], zuQ_c, none⟩
theorem zuQ_t0 : tableOf Try.prog 19 = some zuQ := by kernel_rfl
theorem zuQ_t : T0 19 = some zuQ := withKept_t rfl (withTrue_t rfl zuQ_t0)
theorem zuQ_runs {v0 v1 : Value} {h : Heap} {R : RP} {X : XP} (k : RunC Try.prog T0 zuQ_c ⟨[v0, v1, U, U, U, U, U, U, U, U, U, U, U, U, U, U, U, U, U, U, U, U, U, U, U, U, U, U, U], [], h, none⟩ (bodyQ Try.prog T0 [(4, none), (5, none)] R X)) :
 Runs Try.prog T0 (.fn 19) [v0, v1] h R X := Runs.fn zuQ_t rfl k
abbrev fn_ztQ : FuncId := 22
def ztQ_l0 : ACode :=
 (.seq (.region [
 o1 19 (.bin .lss (so (.binOp .lss 3 (tm 18) (tm 17) 3) 0) (tm 18) (tm 17))]) (.seq (.cond (tm 19)
 .skip
 (.exit 1)) (.seq (.block 2 (.seq (.region [
 o1 20 (.indexSl 5 (tm 16) (tm 18)),
 o1 21 (.load (some 5) (tm 20)),
 o1 5 (.alloc 54 [(.int .u8 0), (.int .u8 0), (.int .u8 0), (.int .u8 0), (.int .i64 0)]),
 o3 (.store 5 (tm 5) (tm 21))]) (.seq (.region [
 o1 22 (.load (some 5) (tm 5)),
 o1 23 (.callV (.func 48) [(tm 3), (tm 22)]),
 o1 6 (.mov (tm 23))]) (.seq (.region [
 o1 24 (.mov (tm 6)),
 o1 25 (.bin .neq (so (.binOp .neq 26 (tm 24) k0 26) 4) (tm 24) k0)]) (.cond (tm 25)
 (.seq (.region [
 o1 26 (.mov (tm 6)),
 o1 2 (.mov (tm 26))]) .ret)
 .skip))))) (.region [
 o1 27 (.bin .add (so (.binOp .add 3 (tm 18) (.const (.int .i64 1)) 3) 3) (tm 18) (.const (.int .i64 1))),
 o1 18 (.mov (tm 27))]))))
def ztQ_c : ACode :=
 (.seq (.region [
 o1 2 (.mov k0)]) (.seq (.block 0 (.seq (.region [
 o1 8 (.mov (tm 0)),
 o1 9 (.lenSl (tm 8)),
 o1 10 (.bin .eql (so (.binOp .eql 3 (tm 9) k0 3) 4) (tm 9) k0),
 o1 7 (.mov (tm 10))]) (.cond (tm 7)
 (.seq (.region [
 o1 2 (.mov (.const (.int .i64 6)))]) .ret)
 (.seq (.region [
 o1 12 (.mov (tm 0)),
 o1 13 (.lenSl (tm 12)),
 o1 14 (.bin .gtr (so (.binOp .gtr 3 (tm 13) (.const (.int .i64 64)) 3) 4) (tm 13) (.const (.int .i64 64))),
 o1 11 (.mov (tm 14))]) (.cond (tm 11)
 (.seq (.region [
 o1 2 (.mov (.const (.int .i64 4)))]) .ret)
 .skip))))) (.seq (.region [
 o1 15 (.build [(.int .u8 0), (.int .u8 0), (.int .u8 0), (.int .u8 0), (.bool false), (.int .i64 0), (.int .i64 0)] [(5, 1, (.const (.int .i64 1))), (6, 1, (.const (.int .i64 4611686018427387904)))]),
 o1 3 (.alloc 76 [(.int .u8 0), (.int .u8 0), (.int .u8 0), (.int .u8 0), (.bool false), (.int .i64 0), (.int .i64 0)]),
 o3 (.store 7 (tm 3) (tm 15))]) (.seq (.seq (.region [
 o1 16 (.mov (tm 0)),
 o1 17 (.lenSl (tm 16)),
 o1 18 (.mov k0)]) (.block 1 (.loop ztQ_l0))) (.seq (.region [
 o1 2 (.mov k0)]) .ret)))))
def ztQ : AFunc := ⟨28, [(2, none)], ztQ_c, none⟩
theorem ztQ_t0 : tableOf Try.prog 22 = some ztQ := by kernel_rfl
theorem ztQ_t : T0 22 = some ztQ := withKept_t rfl (withTrue_t rfl ztQ_t0)
theorem ztQ_runs {v0 : Value} {h : Heap} {R : RP} {X : XP} (k : RunC Try.prog T0 ztQ_c ⟨[v0, U, U, U, U, U, U, U, U, U, U, U, U, U, U, U, U, U, U, U, U, U, U, U, U, U, U, U], [], h, none⟩ (bodyQ Try.prog T0 [(2, none)] R X)) :
 Runs Try.prog T0 (.fn 22) [v0] h R X := Runs.fn ztQ_t rfl k
def ztQ_l0_J (f0 f1 f3 f4 f7 f8 f9 f10 f11 f12 f13 f14 f15 f16 f17 : Value) (ds : List Deferred) (rd : Option Nat) (I : Nat → Value → Heap → Prop) (m : Nat) (s : St) : Prop := ∃ (v18 : Value), ∃ h : Heap, ∃ (x2 x5 x6 x19 x20 x21 x22 x23 x24 x25 x26 x27 : Value), s = ⟨[f0, f1, x2, f3, f4, x5, x6, f7, f8, f9, f10, f11, f12, f13, f14, f15, f16, f17, v18, x19, x20, x21, x22, x23, x24, x25, x26, x27], ds, h, rd⟩ ∧ I m v18 h
theorem ztQ_l0_rule {f0 f1 f3 f4 f7 f8 f9 f10 f11 f12 f13 f14 f15 f16 f17 : Value} {ds : List Deferred} {rd : Option Nat} {Q : QP} (I : Nat → Value → Heap → Prop) (hb : ∀ (m : Nat) (v18 : Value) (h : Heap) (x2 x5 x6 x19 x20 x21 x22 x23 x24 x25 x26 x27 : Value) , I m v18 h → RunC Try.prog T0 ztQ_l0 ⟨[f0, f1, x2, f3, f4, x5, x6, f7, f8, f9, f10, f11, f12, f13, f14, f15, f16, f17, v18, x19, x20, x21, x22, x23, x24, x25, x26, x27], ds, h, rd⟩ (loopQ (ztQ_l0_J f0 f1 f3 f4 f7 f8 f9 f10 f11 f12 f13 f14 f15 f16 f17 ds rd I) m Q))
 (m : Nat) {v18 : Value} {h : Heap} {x2 x5 x6 x19 x20 x21 x22 x23 x24 x25 x26 x27 : Value} (hi : I m v18 h) : RunC Try.prog T0 (.loop ztQ_l0) ⟨[f0, f1, x2, f3, f4, x5, x6, f7, f8, f9, f10, f11, f12, f13, f14, f15, f16, f17, v18, x19, x20, x21, x22, x23, x24, x25, x26, x27], ds, h, rd⟩ Q :=
 RunC.loopJ (ztQ_l0_J f0 f1 f3 f4 f7 f8 f9 f10 f11 f12 f13 f14 f15 f16 f17 ds rd I) (fun m s hj => by obtain ⟨v18, h, x2, x5, x6, x19, x20, x21, x22, x23, x24, x25, x26, x27, rfl, hi⟩ := hj; exact hb m v18 h x2 x5 x6 x19 x20 x21 x22 x23 x24 x25 x26 x27 hi) m _ ⟨_, h, _, _, _, _, _, _, _, _, _, _, _, _, rfl, hi⟩
theorem ztQ_l0_again {f0 f1 f3 f4 f7 f8 f9 f10 f11 f12 f13 f14 f15 f16 f17 : Value} {ds : List Deferred} {rd : Option Nat} {Q : QP} {I : Nat → Value → Heap → Prop} {m : Nat} (m' : Nat) {v18 : Value} {h : Heap} {x2 x5 x6 x19 x20 x21 x22 x23 x24 x25 x26 x27 : Value} (hm : m' < m) (hi : I m' v18 h) : loopQ (ztQ_l0_J f0 f1 f3 f4 f7 f8 f9 f10 f11 f12 f13 f14 f15 f16 f17 ds rd I) m Q .normal ⟨[f0, f1, x2, f3, f4, x5, x6, f7, f8, f9, f10, f11, f12, f13, f14, f15, f16, f17, v18, x19, x20, x21, x22, x23, x24, x25, x26, x27], ds, h, rd⟩ :=
 loopQ.again m' hm ⟨_, h, _, _, _, _, _, _, _, _, _, _, _, _, rfl, hi⟩
abbrev fn_zjQ : FuncId := 24
def zjQ_c : ACode :=
 (.seq (.region [
 o1 8 (.mov (.const (.bool false)))]) (.seq (.region [
 o1 12 (.mov (tm 0)),
 o1 13 (.mov (tm 1)),
 o1 14 (.callV (.func 17) [(tm 12), (tm 13)]),
 o1 11 (.mov (tm 14)),
 o1 15 (.extract 0 (tm 11)),
 o1 16 (.extract 1 (tm 11)),
 o1 9 (.mov (tm 15)),
 o1 10 (.mov (tm 16))]) (.seq (.region [
 o1 17 (.mov (tm 10)),
 o1 18 (.mov (tm 3)),
 o1 19 (.bin .eql (so (.binOp .eql 26 (tm 17) (tm 18) 26) 4) (tm 17) (tm 18)),
 o1 20 (.mov (tm 19)),
 o4 21 (.mov (tm 9)) 20,
 o4 22 (.mov (tm 2)) 20,
 o4 23 (.callV (.func 13) [(tm 21), (tm 22)]) 20,
 o1 24 (.pick (tm 20) (tm 23) (.const (.bool false))),
 o1 8 (.mov (tm 24))]) .ret)))
def zjQ : AFunc := ⟨25, [(8, none)], zjQ_c, none⟩
theorem zjQ_t0 : tableOf Try.prog 24 = some zjQ := by kernel_rfl
theorem zjQ_t : T0 24 = some zjQ := withKept_t rfl (withTrue_t rfl zjQ_t0)
theorem zjQ_runs {v0 v1 v2 v3 : Value} {h : Heap} {R : RP} {X : XP} (k : RunC Try.prog T0 zjQ_c ⟨[v0, v1, v2, v3, U, U, U, U, U, U, U, U, U, U, U, U, U, U, U, U, U, U, U, U, U], [], h, none⟩ (bodyQ Try.prog T0 [(8, none)] R X)) :
 Runs Try.prog T0 (.fn 24) [v0, v1, v2, v3] h R X := Runs.fn zjQ_t rfl k
abbrev fn_zdQ : FuncId := 27
def zdQ_c : ACode :=
 (.seq (.region [
 o1 4 (.mov k0)]) (.seq (.seq (.region [
 o1 5 (.mov (tm 1)),
 o1 6 (.bin .leq (so (.binOp .leq 3 (tm 5) k0 3) 4) (tm 5) k0)]) (.cond (tm 6)
 (.seq (.region [
 o1 4 (.mov k0)]) .ret)
 .skip)) (.seq (.region [
 o1 7 (.mov (tm 0)),
 o1 8 (.mov (tm 1)),
 o1 9 (.bin .rem (so (.binOp .rem 3 (tm 7) (tm 8) 3) 3) (tm 7) (tm 8)),
 o1 0 (.mov (tm 9))]) (.seq (.seq (.region [
 o1 10 (.mov (tm 0)),
 o1 11 (.bin .lss (so (.binOp .lss 3 (tm 10) k0 3) 4) (tm 10) k0)]) (.cond (tm 11)
 (.region [
 o1 12 (.mov (tm 0)),
 o1 13 (.mov (tm 1)),
 o1 14 (.bin .add (so (.binOp .add 3 (tm 12) (tm 13) 3) 3) (tm 12) (tm 13)),
 o1 0 (.mov (tm 14))])
 .skip)) (.seq (.region [
 o1 15 (.mov (tm 0)),
 o1 4 (.mov (tm 15))]) .ret)))))
def zdQ : AFunc := ⟨16, [(4, none)], zdQ_c, none⟩
theorem zdQ_t0 : tableOf Try.prog 27 = some zdQ := by kernel_rfl
theorem zdQ_t : T0 27 = some zdQ := withKept_t rfl (withTrue_t rfl zdQ_t0)
theorem zdQ_runs {v0 v1 : Value} {h : Heap} {R : RP} {X : XP} (k : RunC Try.prog T0 zdQ_c ⟨[v0, v1, U, U, U, U, U, U, U, U, U, U, U, U, U, U], [], h, none⟩ (bodyQ Try.prog T0 [(4, none)] R X)) :
 Runs Try.prog T0 (.fn 27) [v0, v1] h R X := Runs.fn zdQ_t rfl k
abbrev fn_zkQ : FuncId := 32
def zkQ_l0 : ACode :=
 (.seq (.seq (.region [
 o1 8 (.mov (tm 6)),
 o1 9 (.mov (tm 0)),
 o1 10 (.lenSl (tm 9)),
 o1 11 (.bin .lss (so (.binOp .lss 3 (tm 8) (tm 10) 3) 4) (tm 8) (tm 10)),
 o1 12 (.mov (tm 11)),
 o5 13 (.mov (tm 7)) 12,
 o5 14 (.mov (tm 1)) 12,
 o5 15 (.lenSl (tm 14)) 12,
 o5 16 (.bin .lss (so (.binOp .lss 3 (tm 13) (tm 15) 3) 4) (tm 13) (tm 15)) 12,
 o1 17 (.pick (tm 12) (.const (.bool true)) (tm 16))]) (.cond (tm 17)
 .skip
 (.exit 0))) (.block 1 (.block 2 (.seq (.regionD [
 o1 39 (.mov (tm 7)),
 o1 40 (.mov (tm 1)),
 o1 41 (.lenSl (tm 40)),
 o2 42 (.bin .eql (so (.binOp .eql 3 (tm 39) (tm 41) 3) 4) (tm 39) (tm 41)),
 o2 43 (.mov (tm 42)),
 o5 44 (.mov (tm 6)) 43,
 o5 45 (.mov (tm 0)) 43,
 o5 46 (.lenSl (tm 45)) 43,
 ⟨some 47, .bin .lss (so (.binOp .lss 3 (tm 44) (tm 46) 3) 4) (tm 44) (tm 46), some (43, false), [], true⟩,
 ⟨some 48, .mov (tm 47), some (43, false), [], true⟩,
 o4 49 (.mov (tm 0)) 48,
 o4 50 (.mov (tm 6)) 48,
 o4 51 (.indexSl 5 (tm 49) (tm 50)) 48,
 o4 52 (.fieldAddr 0 (tm 51)) 48,
 o4 53 (.sliceArr 4 1 (tm 52) none none) 48,
 o4 54 (.bytesToStr (tm 53)) 48,
 o4 55 (.mov (tm 1)) 48,
 o4 56 (.mov (tm 7)) 48,
 o4 57 (.indexSl 5 (tm 55) (tm 56)) 48,
 o4 58 (.fieldAddr 0 (tm 57)) 48,
 o4 59 (.sliceArr 4 1 (tm 58) none none) 48,
 o4 60 (.bytesToStr (tm 59)) 48,
 ⟨some 61, .bin .lss (so (.binOp .lss 9 (tm 54) (tm 60) 9) 4) (tm 54) (tm 60), some (48, true), [], true⟩,
 ⟨some 62, .pick (tm 48) (tm 61) (.const (.bool false)), some (43, false), [], true⟩,
 o2 63 (.pick (tm 43) (.const (.bool true)) (tm 62)),
 o2 38 (.mov (tm 63))]) (.cond (tm 38)
 (.seq (.region [
 o1 64 (.mov (tm 5)),
 o1 65 (.mov (tm 0)),
 o1 66 (.mov (tm 6)),
 o1 67 (.indexSl 5 (tm 65) (tm 66)),
 o1 68 (.fieldAddr 0 (tm 67)),
 o1 69 (.load (some 4) (tm 68)),
 o1 70 (.build [(.int .u8 0), (.int .u8 0), (.int .u8 0), (.int .u8 0), (.int .i64 0)] [(0, 4, (tm 69))]),
 o1 71 (.buildSlice 54 [(.int .u8 0), (.int .u8 0), (.int .u8 0), (.int .u8 0), (.int .i64 0)] 1 [(0, 5, (tm 70))]),
 o1 72 (.append 54 5 16 [(.int .u8 0), (.int .u8 0), (.int .u8 0), (.int .u8 0), (.int .i64 0)] false (tm 64) (tm 71)),
 o1 5 (.mov (tm 72))]) (.region [
 o1 73 (.mov (tm 6)),
 o1 74 (.bin .add (so (.binOp .add 3 (tm 73) (.const (.int .i64 1)) 3) 3) (tm 73) (.const (.int .i64 1))),
 o1 6 (.mov (tm 74))]))
 (.seq (.regionD [
 o1 76 (.mov (tm 6)),
 o1 77 (.mov (tm 0)),
 o1 78 (.lenSl (tm 77)),
 o2 79 (.bin .eql (so (.binOp .eql 3 (tm 76) (tm 78) 3) 4) (tm 76) (tm 78)),
 o2 80 (.mov (tm 79)),
 o5 81 (.mov (tm 1)) 80,
 o5 82 (.mov (tm 7)) 80,
 o5 83 (.indexSl 5 (tm 81) (tm 82)) 80,
 o5 84 (.fieldAddr 0 (tm 83)) 80,
 o5 85 (.sliceArr 4 1 (tm 84) none none) 80,
 o5 86 (.bytesToStr (tm 85)) 80,
 o5 87 (.mov (tm 0)) 80,
 o5 88 (.mov (tm 6)) 80,
 o5 89 (.indexSl 5 (tm 87) (tm 88)) 80,
 o5 90 (.fieldAddr 0 (tm 89)) 80,
 o5 91 (.sliceArr 4 1 (tm 90) none none) 80,
 o5 92 (.bytesToStr (tm 91)) 80,
 ⟨some 93, .bin .lss (so (.binOp .lss 9 (tm 86) (tm 92) 9) 4) (tm 86) (tm 92), some (80, false), [], true⟩,
 o2 94 (.pick (tm 80) (.const (.bool true)) (tm 93)),
 o2 75 (.mov (tm 94))]) (.cond (tm 75)
 (.seq (.region [
 o1 95 (.mov (tm 5)),
 o1 96 (.mov (tm 1)),
 o1 97 (.mov (tm 7)),
 o1 98 (.indexSl 5 (tm 96) (tm 97)),
 o1 99 (.load (some 5) (tm 98)),
 o1 100 (.buildSlice 54 [(.int .u8 0), (.int .u8 0), (.int .u8 0), (.int .u8 0), (.int .i64 0)] 1 [(0, 5, (tm 99))]),
 o1 101 (.append 54 5 16 [(.int .u8 0), (.int .u8 0), (.int .u8 0), (.int .u8 0), (.int .i64 0)] false (tm 95) (tm 100)),
 o1 5 (.mov (tm 101))]) (.region [
 o1 102 (.mov (tm 7)),
 o1 103 (.bin .add (so (.binOp .add 3 (tm 102) (.const (.int .i64 1)) 3) 3) (tm 102) (.const (.int .i64 1))),
 o1 7 (.mov (tm 103))]))
 (.seq (.seq (.regionD [
 o1 18 (.mov (tm 0)),
 o1 19 (.mov (tm 6)),
 o1 20 (.indexSl 5 (tm 18) (tm 19)),
 o1 21 (.load (some 5) (tm 20)),
 o1 22 (.mov (tm 1)),
 o1 23 (.mov (tm 7)),
 o1 24 (.indexSl 5 (tm 22) (tm 23)),
 o1 25 (.load (some 5) (tm 24)),
 o2 26 (.bin .neq (so (.binOp .neq 54 (tm 21) (tm 25) 54) 4) (tm 21) (tm 25))]) (.cond (tm 26)
 (.region [
 o1 27 (.mov (tm 5)),
 o1 28 (.mov (tm 1)),
 o1 29 (.mov (tm 7)),
 o1 30 (.indexSl 5 (tm 28) (tm 29)),
 o1 31 (.load (some 5) (tm 30)),
 o1 32 (.buildSlice 54 [(.int .u8 0), (.int .u8 0), (.int .u8 0), (.int .u8 0), (.int .i64 0)] 1 [(0, 5, (tm 31))]),
 o1 33 (.append 54 5 16 [(.int .u8 0), (.int .u8 0), (.int .u8 0), (.int .u8 0), (.int .i64 0)] false (tm 27) (tm 32)),
 o1 5 (.mov (tm 33))])
 .skip)) (.seq (.region [
 o1 34 (.mov (tm 6)),
 o1 35 (.bin .add (so (.binOp .add 3 (tm 34) (.const (.int .i64 1)) 3) 3) (tm 34) (.const (.int .i64 1))),
 o1 6 (.mov (tm 35))]) (.region [
 o1 36 (.mov (tm 7)),
 o1 37 (.bin .add (so (.binOp .add 3 (tm 36) (.const (.int .i64 1)) 3) 3) (tm 36) (.const (.int .i64 1))),
 o1 7 (.mov (tm 37))]))))))))))
def zkQ_c : ACode :=
 (.seq (.region [
 o1 4 (.mov (.const (.slice none 0 0)))]) (.seq (.region [
 o1 5 (.mov (.const (.slice none 0 0)))]) (.seq (.region [
 o1 6 (.mov k0),
 o1 7 (.mov k0)]) (.seq (.block 0 (.loop zkQ_l0)) (.seq (.region [
 o1 104 (.mov (tm 5)),
 o1 4 (.mov (tm 104))]) .ret)))))
def zkQ : AFunc := ⟨105, [(4, none)], zkQ_c, none⟩
theorem zkQ_t0 : tableOf Try.prog 32 = some zkQ := by kernel_rfl
theorem zkQ_t : T0 32 = some zkQ := withKept_t rfl (withTrue_t rfl zkQ_t0)
theorem zkQ_runs {v0 v1 : Value} {h : Heap} {R : RP} {X : XP} (k : RunC Try.prog T0 zkQ_c ⟨[v0, v1, U, U, U, U, U, U, U, U, U, U, U, U, U, U, U, U, U, U, U, U, U, U, U, U, U, U, U, U, U, U, U, U, U, U, U, U, U, U, U, U, U, U, U, U, U, U, U, U, U, U, U, U, U, U, U, U, U, U, U, U, U, U, U, U, U, U, U, U, U, U, U, U, U, U, U, U, U, U, U, U, U, U, U, U, U, U, U, U, U, U, U, U, U, U, U, U, U, U, U, U, U, U, U], [], h, none⟩ (bodyQ Try.prog T0 [(4, none)] R X)) :
 Runs Try.prog T0 (.fn 32) [v0, v1] h R X := Runs.fn zkQ_t rfl k
def zkQ_l0_J (f0 f1 f2 f3 f4 f104 : Value) (ds : List Deferred) (rd : Option Nat) (I : Nat → Value → Value → Value → Heap → Prop) (m : Nat) (s : St) : Prop := ∃ (v5 v6 v7 : Value), ∃ h : Heap, ∃ (x8 x9 x10 x11 x12 x13 x14 x15 x16 x17 x18 x19 x20 x21 x22 x23 x24 x25 x26 x27 x28 x29 x30 x31 x32 x33 x34 x35 x36 x37 x38 x39 x40 x41 x42 x43 x44 x45 x46 x47 x48 x49 x50 x51 x52 x53 x54 x55 x56 x57 x58 x59 x60 x61 x62 x63 x64 x65 x66 x67 x68 x69 x70 x71 x72 x73 x74 x75 x76 x77 x78 x79 x80 x81 x82 x83 x84 x85 x86 x87 x88 x89 x90 x91 x92 x93 x94 x95 x96 x97 x98 x99 x100 x101 x102 x103 : Value), s = ⟨[f0, f1, f2, f3, f4, v5, v6, v7, x8, x9, x10, x11, x12, x13, x14, x15, x16, x17, x18, x19, x20, x21, x22, x23, x24, x25, x26, x27, x28, x29, x30, x31, x32, x33, x34, x35, x36, x37, x38, x39, x40, x41, x42, x43, x44, x45, x46, x47, x48, x49, x50, x51, x52, x53, x54, x55, x56, x57, x58, x59, x60, x61, x62, x63, x64, x65, x66, x67, x68, x69, x70, x71, x72, x73, x74, x75, x76, x77, x78, x79, x80, x81, x82, x83, x84, x85, x86, x87, x88, x89, x90, x91, x92, x93, x94, x95, x96, x97, x98, x99, x100, x101, x102, x103, f104], ds, h, rd⟩ ∧ I m v5 v6 v7 h
theorem zkQ_l0_rule {f0 f1 f2 f3 f4 f104 : Value} {ds : List Deferred} {rd : Option Nat} {Q : QP} (I : Nat → Value → Value → Value → Heap → Prop) (hb : ∀ (m : Nat) (v5 v6 v7 : Value) (h : Heap) (x8 x9 x10 x11 x12 x13 x14 x15 x16 x17 x18 x19 x20 x21 x22 x23 x24 x25 x26 x27 x28 x29 x30 x31 x32 x33 x34 x35 x36 x37 x38 x39 x40 x41 x42 x43 x44 x45 x46 x47 x48 x49 x50 x51 x52 x53 x54 x55 x56 x57 x58 x59 x60 x61 x62 x63 x64 x65 x66 x67 x68 x69 x70 x71 x72 x73 x74 x75 x76 x77 x78 x79 x80 x81 x82 x83 x84 x85 x86 x87 x88 x89 x90 x91 x92 x93 x94 x95 x96 x97 x98 x99 x100 x101 x102 x103 : Value) , I m v5 v6 v7 h → RunC Try.prog T0 zkQ_l0 ⟨[f0, f1, f2, f3, f4, v5, v6, v7, x8, x9, x10, x11, x12, x13, x14, x15, x16, x17, x18, x19, x20, x21, x22, x23, x24, x25, x26, x27, x28, x29, x30, x31, x32, x33, x34, x35, x36, x37, x38, x39, x40, x41, x42, x43, x44, x45, x46, x47, x48, x49, x50, x51, x52, x53, x54, x55, x56, x57, x58, x59, x60, x61, x62, x63, x64, x65, x66, x67, x68, x69, x70, x71, x72, x73, x74, x75, x76, x77, x78, x79, x80, x81, x82, x83, x84, x85, x86, x87, x88, x89, x90, x91, x92, x93, x94, x95, x96, x97, x98, x99, x100, x101, x102, x103, f104], ds, h, rd⟩ (loopQ (zkQ_l0_J f0 f1 f2 f3 f4 f104 ds rd I) m Q))
 (m : Nat) {v5 v6 v7 : Value} {h : Heap} {x8 x9 x10 x11 x12 x13 x14 x15 x16 x17 x18 x19 x20 x21 x22 x23 x24 x25 x26 x27 x28 x29 x30 x31 x32 x33 x34 x35 x36 x37 x38 x39 x40 x41 x42 x43 x44 x45 x46 x47 x48 x49 x50 x51 x52 x53 x54 x55 x56 x57 x58 x59 x60 x61 x62 x63 x64 x65 x66 x67 x68 x69 x70 x71 x72 x73 x74 x75 x76 x77 x78 x79 x80 x81 x82 x83 x84 x85 x86 x87 x88 x89 x90 x91 x92 x93 x94 x95 x96 x97 x98 x99 x100 x101 x102 x103 : Value} (hi : I m v5 v6 v7 h) : RunC Try.prog T0 (.loop zkQ_l0) ⟨[f0, f1, f2, f3, f4, v5, v6, v7, x8, x9, x10, x11, x12, x13, x14, x15, x16, x17, x18, x19, x20, x21, x22, x23, x24, x25, x26, x27, x28, x29, x30, x31, x32, x33, x34, x35, x36, x37, x38, x39, x40, x41, x42, x43, x44, x45, x46, x47, x48, x49, x50, x51, x52, x53, x54, x55, x56, x57, x58, x59, x60, x61, x62, x63, x64, x65, x66, x67, x68, x69, x70, x71, x72, x73, x74, x75, x76, x77, x78, x79, x80, x81, x82, x83, x84, x85, x86, x87, x88, x89, x90, x91, x92, x93, x94, x95, x96, x97, x98, x99, x100, x101, x102, x103, f104], ds, h, rd⟩ Q :=
 RunC.loopJ (zkQ_l0_J f0 f1 f2 f3 f4 f104 ds rd I) (fun m s hj => by obtain ⟨v5, v6, v7, h, x8, x9, x10, x11, x12, x13, x14, x15, x16, x17, x18, x19, x20, x21, x22, x23, x24, x25, x26, x27, x28, x29, x30, x31, x32, x33, x34, x35, x36, x37, x38, x39, x40, x41, x42, x43, x44, x45, x46, x47, x48, x49, x50, x51, x52, x53, x54, x55, x56, x57, x58, x59, x60, x61, x62, x63, x64, x65, x66, x67, x68, x69, x70, x71, x72, x73, x74, x75, x76, x77, x78, x79, x80, x81, x82, x83, x84, x85, x86, x87, x88, x89, x90, x91, x92, x93, x94, x95, x96, x97, x98, x99, x100, x101, x102, x103, rfl, hi⟩ := hj; exact hb m v5 v6 v7 h x8 x9 x10 x11 x12 x13 x14 x15 x16 x17 x18 x19 x20 x21 x22 x23 x24 x25 x26 x27 x28 x29 x30 x31 x32 x33 x34 x35 x36 x37 x38 x39 x40 x41 x42 x43 x44 x45 x46 x47 x48 x49 x50 x51 x52 x53 x54 x55 x56 x57 x58 x59 x60 x61 x62 x63 x64 x65 x66 x67 x68 x69 x70 x71 x72 x73 x74 x75 x76 x77 x78 x79 x80 x81 x82 x83 x84 x85 x86 x87 x88 x89 x90 x91 x92 x93 x94 x95 x96 x97 x98 x99 x100 x101 x102 x103 hi) m _ ⟨_, _, _, h, _, _, _, _, _, _, _, _, _, _, _, _, _, _, _, _, _, _, _, _, _, _, _, _, _, _, _, _, _, _, _, _, _, _, _, _, _, _, _, _, _, _, _, _, _, _, _, _, _, _, _, _, _, _, _, _, _, _, _, _, _, _, _, _, _, _, _, _, _, _, _, _, _, _, _, _, _, _, _, _, _, _, _, _, _, _, _, _, _, _, _, _, _, _, _, _, rfl, hi⟩
theorem zkQ_l0_again {f0 f1 f2 f3 f4 f104 : Value} {ds : List Deferred} {rd : Option Nat} {Q : QP} {I : Nat → Value → Value → Value → Heap → Prop} {m : Nat} (m' : Nat) {v5 v6 v7 : Value} {h : Heap} {x8 x9 x10 x11 x12 x13 x14 x15 x16 x17 x18 x19 x20 x21 x22 x23 x24 x25 x26 x27 x28 x29 x30 x31 x32 x33 x34 x35 x36 x37 x38 x39 x40 x41 x42 x43 x44 x45 x46 x47 x48 x49 x50 x51 x52 x53 x54 x55 x56 x57 x58 x59 x60 x61 x62 x63 x64 x65 x66 x67 x68 x69 x70 x71 x72 x73 x74 x75 x76 x77 x78 x79 x80 x81 x82 x83 x84 x85 x86 x87 x88 x89 x90 x91 x92 x93 x94 x95 x96 x97 x98 x99 x100 x101 x102 x103 : Value} (hm : m' < m) (hi : I m' v5 v6 v7 h) : loopQ (zkQ_l0_J f0 f1 f2 f3 f4 f104 ds rd I) m Q .normal ⟨[f0, f1, f2, f3, f4, v5, v6, v7, x8, x9, x10, x11, x12, x13, x14, x15, x16, x17, x18, x19, x20, x21, x22, x23, x24, x25, x26, x27, x28, x29, x30, x31, x32, x33, x34, x35, x36, x37, x38, x39, x40, x41, x42, x43, x44, x45, x46, x47, x48, x49, x50, x51, x52, x53, x54, x55, x56, x57, x58, x59, x60, x61, x62, x63, x64, x65, x66, x67, x68, x69, x70, x71, x72, x73, x74, x75, x76, x77, x78, x79, x80, x81, x82, x83, x84, x85, x86, x87, x88, x89, x90, x91, x92, x93, x94, x95, x96, x97, x98, x99, x100, x101, x102, x103, f104], ds, h, rd⟩ :=
 loopQ.again m' hm ⟨_, _, _, h, _, _, _, _, _, _, _, _, _, _, _, _, _, _, _, _, _, _, _, _, _, _, _, _, _, _, _, _, _, _, _, _, _, _, _, _, _, _, _, _, _, _, _, _, _, _, _, _, _, _, _, _, _, _, _, _, _, _, _, _, _, _, _, _, _, _, _, _, _, _, _, _, _, _, _, _, _, _, _, _, _, _, _, _, _, _, _, _, _, _, _, _, _, _, _, _, rfl, hi⟩
abbrev fn_zxQ : FuncId := 48
def zxQ_c : ACode :=
 (.seq (.region [
 o1 3 (.box 54 (tm 1)),
 o1 4 (.mov k0)]) (.seq (.regionD [
 o2 6 (.mov (tm 0)),
 o2 7 (.nilCheck (tm 6)),
 o2 8 (.fieldAddr 4 (tm 7)),
 o2 9 (.load none (tm 8)),
 o2 10 (.mov (tm 9)),
 o4 11 (.mov (tm 0)) 10,
 o4 12 (.nilCheck (tm 11)) 10,
 o4 13 (.fieldAddr 0 (tm 12)) 10,
 o4 14 (.sliceArr 4 1 (tm 13) none none) 10,
 o4 15 (.fieldAddr 0 (tm 3)) 10,
 o4 16 (.sliceArr 4 1 (tm 15) none none) 10,
 ⟨some 17, .callV (.func 79) [(tm 14), (tm 16)], some (10, true), [], true⟩,
 ⟨some 18, .bin .geq (so (.binOp .geq 3 (tm 17) k0 3) 4) (tm 17) k0, some (10, true), [], true⟩,
 o2 19 (.pick (tm 10) (tm 18) (.const (.bool false))),
 o2 5 (.mov (tm 19))]) (.seq (.region [
 o1 20 (.mov (tm 0)),
 o1 21 (.mov (tm 0)),
 o1 22 (.fieldAddr 0 (tm 3)),
 o1 23 (.load (some 4) (tm 22)),
 o1 24 (.nilCheck (tm 20)),
 o1 25 (.fieldAddr 0 (tm 24)),
 o3 (.store 4 (tm 25) (tm 23)),
 o1 26 (.nilCheck (tm 21)),
 o1 27 (.fieldAddr 4 (tm 26)),
 o3 (.store 1 (tm 27) (.const (.bool true)))]) (.seq (.block 0 (.seq (.region [
 o1 29 (.mov (tm 5)),
 o1 28 (.mov (tm 29))]) (.cond (tm 28)
 (.seq (.region [
 o1 4 (.mov (.const (.int .i64 9)))]) .ret)
 (.seq (.regionD [
 o1 31 (.fieldAddr 4 (tm 3)),
 o1 32 (.load none (tm 31)),
 o1 33 (.mov (tm 0)),
 o1 34 (.nilCheck (tm 33)),
 o1 35 (.fieldAddr 5 (tm 34)),
 o1 36 (.load none (tm 35)),
 o2 37 (.bin .lss (so (.binOp .lss 3 (tm 32) (tm 36) 3) 4) (tm 32) (tm 36)),
 o2 38 (.mov (tm 37)),
 o5 39 (.fieldAddr 4 (tm 3)) 38,
 o5 40 (.load none (tm 39)) 38,
 o5 41 (.mov (tm 0)) 38,
 o5 42 (.nilCheck (tm 41)) 38,
 o5 43 (.fieldAddr 6 (tm 42)) 38,
 o5 44 (.load none (tm 43)) 38,
 ⟨some 45, .bin .gtr (so (.binOp .gtr 3 (tm 40) (tm 44) 3) 4) (tm 40) (tm 44), some (38, false), [], true⟩,
 o2 46 (.pick (tm 38) (.const (.bool true)) (tm 45)),
 o2 30 (.mov (tm 46))]) (.cond (tm 30)
 (.seq (.region [
 o1 4 (.mov (.const (.int .i64 3)))]) .ret)
 .skip))))) (.seq (.region [
 o1 4 (.mov k0)]) .ret)))))
def zxQ : AFunc := ⟨47, [(4, none)], zxQ_c, none⟩
theorem zxQ_t0 : tableOf Try.prog 48 = some zxQ := by kernel_rfl
theorem zxQ_t : T0 48 = some zxQ := withKept_t rfl (withTrue_t rfl zxQ_t0)
theorem zxQ_runs {v0 v1 : Value} {h : Heap} {R : RP} {X : XP} (k : RunC Try.prog T0 zxQ_c ⟨[v0, v1, U, U, U, U, U, U, U, U, U, U, U, U, U, U, U, U, U, U, U, U, U, U, U, U, U, U, U, U, U, U, U, U, U, U, U, U, U, U, U, U, U, U, U, U, U], [], h, none⟩ (bodyQ Try.prog T0 [(4, none)] R X)) :
 Runs Try.prog T0 (.fn 48) [v0, v1] h R X := Runs.fn zxQ_t rfl k
abbrev fn_zyQ : FuncId := 49
def zyQ_c : ACode :=
 (.seq (.region [
 o1 2 (.box 25 (tm 0)),
 o1 3 (.box 25 (tm 1)),
 o1 4 (.mov (.const .nilFunc))]) (.seq (.region [
 o1 5 (.mkFunc (.func 80) [] [(tm 3), (tm 2)]),
 o1 4 (.mov (tm 5))]) .ret))
def zyQ : AFunc := ⟨6, [(4, none)], zyQ_c, none⟩
theorem zyQ_t0 : tableOf Try.prog 49 = some zyQ := by kernel_rfl
theorem zyQ_t : T0 49 = some zyQ := withKept_t rfl (withTrue_t rfl zyQ_t0)
theorem zyQ_runs {v0 v1 : Value} {h : Heap} {R : RP} {X : XP} (k : RunC Try.prog T0 zyQ_c ⟨[v0, v1, U, U, U, U], [], h, none⟩ (bodyQ Try.prog T0 [(4, none)] R X)) :
 Runs Try.prog T0 (.fn 49) [v0, v1] h R X := Runs.fn zyQ_t rfl k
abbrev fn_zqQ : FuncId := 52
def zqQ_l0 : ACode :=
 (.seq (.seq (.region [
 o1 15 (.mov (tm 9)),
 o1 16 (.mov (tm 10)),
 o1 17 (.bin .lss (so (.binOp .lss 3 (tm 15) (tm 16) 3) 4) (tm 15) (tm 16))]) (.cond (tm 17)
 .skip
 (.exit 0))) (.block 1 (.seq (.region [
 o1 18 (.mov (tm 9)),
 o1 19 (.mov (tm 10)),
 o1 20 (.bin .add (so (.binOp .add 3 (tm 18) (tm 19) 3) 3) (tm 18) (tm 19)),
 o1 21 (.conv .u64 (so (.convert 3 115 (tm 20)) 115) (tm 20)),
 o1 22 (.bin .shr (so (.binOp .shr 115 (tm 21) (.const (.int .u64 1)) 115) 115) (tm 21) (.const (.int .u64 1))),
 o1 23 (.conv .i64 (so (.convert 115 3 (tm 22)) 3) (tm 22)),
 o1 11 (.mov (tm 23))]) (.seq (.regionD [
 o1 24 (.mov (tm 2)),
 o1 25 (.mov (tm 0)),
 o1 26 (.mov (tm 11)),
 o1 27 (.indexSl 5 (tm 25) (tm 26)),
 o1 28 (.load (some 5) (tm 27)),
 o1 29 (.load (some 4) (tm 4)),
 o2 30 (.callV (tm 24) [(tm 28), (tm 29)]),
 o2 31 (.bin .lss (so (.binOp .lss 3 (tm 30) k0 3) 4) (tm 30) k0)]) (.cond (tm 31)
 (.region [
 o1 32 (.mov (tm 11)),
 o1 33 (.bin .add (so (.binOp .add 3 (tm 32) (.const (.int .i64 1)) 3) 3) (tm 32) (.const (.int .i64 1))),
 o1 9 (.mov (tm 33))])
 (.region [
 o1 34 (.mov (tm 11)),
 o1 10 (.mov (tm 34))]))))))
def zqQ_c : ACode :=
 (.seq (.region [
 o1 4 (.box 42 (tm 1)),
 o1 6 (.mov k0),
 o1 7 (.mov (.const (.bool false)))]) (.seq (.region [
 o1 12 (.mov (tm 0)),
 o1 13 (.lenSl (tm 12)),
 o1 8 (.mov (tm 13))]) (.seq (.region [
 o1 14 (.mov (tm 8)),
 o1 9 (.mov k0),
 o1 10 (.mov (tm 14))]) (.seq (.block 0 (.loop zqQ_l0)) (.seq (.regionD [
 o1 35 (.mov (tm 9)),
 o1 36 (.mov (tm 9)),
 o1 37 (.mov (tm 8)),
 o1 38 (.bin .lss (so (.binOp .lss 3 (tm 36) (tm 37) 3) 4) (tm 36) (tm 37)),
 o1 39 (.mov (tm 38)),
 o4 40 (.mov (tm 2)) 39,
 o4 41 (.mov (tm 0)) 39,
 o4 42 (.mov (tm 9)) 39,
 o4 43 (.indexSl 5 (tm 41) (tm 42)) 39,
 o4 44 (.load (some 5) (tm 43)) 39,
 o4 45 (.load (some 4) (tm 4)) 39,
 ⟨some 46, .callV (tm 40) [(tm 44), (tm 45)], some (39, true), [(some 35, .mov (tm 9), none)], false⟩,
 o4 47 (.bin .eql (so (.binOp .eql 3 (tm 46) k0 3) 4) (tm 46) k0) 39,
 o1 48 (.pick (tm 39) (tm 47) (.const (.bool false))),
 o1 6 (.mov (tm 35)),
 o2 7 (.mov (tm 48))]) .ret)))))
def zqQ : AFunc := ⟨49, [(6, none), (7, none)], zqQ_c, none⟩
theorem zqQ_t0 : tableOf Try.prog 52 = some zqQ := by kernel_rfl
theorem zqQ_t : T0 52 = some zqQ := withKept_t rfl (withTrue_t rfl zqQ_t0)
theorem zqQ_runs {v0 v1 v2 : Value} {h : Heap} {R : RP} {X : XP} (k : RunC Try.prog T0 zqQ_c ⟨[v0, v1, v2, U, U, U, U, U, U, U, U, U, U, U, U, U, U, U, U, U, U, U, U, U, U, U, U, U, U, U, U, U, U, U, U, U, U, U, U, U, U, U, U, U, U, U, U, U, U], [], h, none⟩ (bodyQ Try.prog T0 [(6, none), (7, none)] R X)) :
 Runs Try.prog T0 (.fn 52) [v0, v1, v2] h R X := Runs.fn zqQ_t rfl k
def zqQ_l0_J (f0 f1 f2 f3 f4 f5 f6 f7 f8 f12 f13 f14 f35 f36 f37 f38 f39 f40 f41 f42 f43 f44 f45 f46 f47 f48 : Value) (ds : List Deferred) (rd : Option Nat) (I : Nat → Value → Value → Heap → Prop) (m : Nat) (s : St) : Prop := ∃ (v9 v10 : Value), ∃ h : Heap, ∃ (x11 x15 x16 x17 x18 x19 x20 x21 x22 x23 x24 x25 x26 x27 x28 x29 x30 x31 x32 x33 x34 : Value), s = ⟨[f0, f1, f2, f3, f4, f5, f6, f7, f8, v9, v10, x11, f12, f13, f14, x15, x16, x17, x18, x19, x20, x21, x22, x23, x24, x25, x26, x27, x28, x29, x30, x31, x32, x33, x34, f35, f36, f37, f38, f39, f40, f41, f42, f43, f44, f45, f46, f47, f48], ds, h, rd⟩ ∧ I m v9 v10 h
theorem zqQ_l0_rule {f0 f1 f2 f3 f4 f5 f6 f7 f8 f12 f13 f14 f35 f36 f37 f38 f39 f40 f41 f42 f43 f44 f45 f46 f47 f48 : Value} {ds : List Deferred} {rd : Option Nat} {Q : QP} (I : Nat → Value → Value → Heap → Prop) (hb : ∀ (m : Nat) (v9 v10 : Value) (h : Heap) (x11 x15 x16 x17 x18 x19 x20 x21 x22 x23 x24 x25 x26 x27 x28 x29 x30 x31 x32 x33 x34 : Value) , I m v9 v10 h → RunC Try.prog T0 zqQ_l0 ⟨[f0, f1, f2, f3, f4, f5, f6, f7, f8, v9, v10, x11, f12, f13, f14, x15, x16, x17, x18, x19, x20, x21, x22, x23, x24, x25, x26, x27, x28, x29, x30, x31, x32, x33, x34, f35, f36, f37, f38, f39, f40, f41, f42, f43, f44, f45, f46, f47, f48], ds, h, rd⟩ (loopQ (zqQ_l0_J f0 f1 f2 f3 f4 f5 f6 f7 f8 f12 f13 f14 f35 f36 f37 f38 f39 f40 f41 f42 f43 f44 f45 f46 f47 f48 ds rd I) m Q))
 (m : Nat) {v9 v10 : Value} {h : Heap} {x11 x15 x16 x17 x18 x19 x20 x21 x22 x23 x24 x25 x26 x27 x28 x29 x30 x31 x32 x33 x34 : Value} (hi : I m v9 v10 h) : RunC Try.prog T0 (.loop zqQ_l0) ⟨[f0, f1, f2, f3, f4, f5, f6, f7, f8, v9, v10, x11, f12, f13, f14, x15, x16, x17, x18, x19, x20, x21, x22, x23, x24, x25, x26, x27, x28, x29, x30, x31, x32, x33, x34, f35, f36, f37, f38, f39, f40, f41, f42, f43, f44, f45, f46, f47, f48], ds, h, rd⟩ Q :=
 RunC.loopJ (zqQ_l0_J f0 f1 f2 f3 f4 f5 f6 f7 f8 f12 f13 f14 f35 f36 f37 f38 f39 f40 f41 f42 f43 f44 f45 f46 f47 f48 ds rd I) (fun m s hj => by obtain ⟨v9, v10, h, x11, x15, x16, x17, x18, x19, x20, x21, x22, x23, x24, x25, x26, x27, x28, x29, x30, x31, x32, x33, x34, rfl, hi⟩ := hj; exact hb m v9 v10 h x11 x15 x16 x17 x18 x19 x20 x21 x22 x23 x24 x25 x26 x27 x28 x29 x30 x31 x32 x33 x34 hi) m _ ⟨_, _, h, _, _, _, _, _, _, _, _, _, _, _, _, _, _, _, _, _, _, _, _, _, rfl, hi⟩
theorem zqQ_l0_again {f0 f1 f2 f3 f4 f5 f6 f7 f8 f12 f13 f14 f35 f36 f37 f38 f39 f40 f41 f42 f43 f44 f45 f46 f47 f48 : Value} {ds : List Deferred} {rd : Option Nat} {Q : QP} {I : Nat → Value → Value → Heap → Prop} {m : Nat} (m' : Nat) {v9 v10 : Value} {h : Heap} {x11 x15 x16 x17 x18 x19 x20 x21 x22 x23 x24 x25 x26 x27 x28 x29 x30 x31 x32 x33 x34 : Value} (hm : m' < m) (hi : I m' v9 v10 h) : loopQ (zqQ_l0_J f0 f1 f2 f3 f4 f5 f6 f7 f8 f12 f13 f14 f35 f36 f37 f38 f39 f40 f41 f42 f43 f44 f45 f46 f47 f48 ds rd I) m Q .normal ⟨[f0, f1, f2, f3, f4, f5, f6, f7, f8, v9, v10, x11, f12, f13, f14, x15, x16, x17, x18, x19, x20, x21, x22, x23, x24, x25, x26, x27, x28, x29, x30, x31, x32, x33, x34, f35, f36, f37, f38, f39, f40, f41, f42, f43, f44, f45, f46, f47, f48], ds, h, rd⟩ :=
 loopQ.again m' hm ⟨_, _, h, _, _, _, _, _, _, _, _, _, _, _, _, _, _, _, _, _, _, _, _, _, rfl, hi⟩
abbrev fn_zwQ : FuncId := 53
def zwQ_c : ACode :=
 (.seq (.region [
 o1 2 (.box 54 (tm 0)),
 o1 3 (.box 42 (tm 1)),
 o1 4 (.mov k0)]) (.seq (.regionD [
 o1 5 (.fieldAddr 0 (tm 2)),
 o1 6 (.sliceArr 4 1 (tm 5) none none),
 o1 7 (.sliceArr 4 1 (tm 3) none none),
 o2 8 (.callV (.func 79) [(tm 6), (tm 7)]),
 o2 4 (.mov (tm 8))]) .ret))
def zwQ : AFunc := ⟨9, [(4, none)], zwQ_c, none⟩
theorem zwQ_t0 : tableOf Try.prog 53 = some zwQ := by kernel_rfl
theorem zwQ_t : T0 53 = some zwQ := withKept_t rfl (withTrue_t rfl zwQ_t0)
theorem zwQ_runs {v0 v1 : Value} {h : Heap} {R : RP} {X : XP} (k : RunC Try.prog T0 zwQ_c ⟨[v0, v1, U, U, U, U, U, U, U], [], h, none⟩ (bodyQ Try.prog T0 [(4, none)] R X)) :
 Runs Try.prog T0 (.fn 53) [v0, v1] h R X := Runs.fn zwQ_t rfl k
abbrev fn_zrQ : FuncId := 54
def zrQ_l0 : ACode :=
 (.seq (.region [
 o1 9 (.bin .lss (so (.binOp .lss 3 (tm 8) (tm 7) 3) 0) (tm 8) (tm 7))]) (.seq (.cond (tm 9)
 .skip
 (.exit 0)) (.seq (.block 1 (.seq (.region [
 o1 10 (.mov (tm 8)),
 o1 5 (.mov (tm 10))]) (.seq (.region [
 o1 11 (.mov (tm 1)),
 o1 12 (.mov (tm 0)),
 o1 13 (.mov (tm 5)),
 o1 14 (.indexSl 5 (tm 12) (tm 13)),
 o1 15 (.load (some 5) (tm 14)),
 o1 16 (.callV (tm 11) [(tm 15)])]) (.cond (tm 16)
 (.seq (.region [
 o1 17 (.mov (tm 5)),
 o1 4 (.mov (tm 17))]) .ret)
 .skip)))) (.region [
 o1 18 (.bin .add (so (.binOp .add 3 (tm 8) (.const (.int .i64 1)) 3) 3) (tm 8) (.const (.int .i64 1))),
 o1 8 (.mov (tm 18))]))))
def zrQ_c : ACode :=
 (.seq (.region [
 o1 4 (.mov k0)]) (.seq (.seq (.region [
 o1 6 (.mov (tm 0)),
 o1 7 (.lenSl (tm 6)),
 o1 8 (.mov k0)]) (.block 0 (.loop zrQ_l0))) (.seq (.region [
 o1 4 (.mov (.const (.int .i64 (-1))))]) .ret)))
def zrQ : AFunc := ⟨19, [(4, none)], zrQ_c, none⟩
theorem zrQ_t0 : tableOf Try.prog 54 = some zrQ := by kernel_rfl
theorem zrQ_t : T0 54 = some zrQ := withKept_t rfl (withTrue_t rfl zrQ_t0)
theorem zrQ_runs {v0 v1 : Value} {h : Heap} {R : RP} {X : XP} (k : RunC Try.prog T0 zrQ_c ⟨[v0, v1, U, U, U, U, U, U, U, U, U, U, U, U, U, U, U, U, U], [], h, none⟩ (bodyQ Try.prog T0 [(4, none)] R X)) :
 Runs Try.prog T0 (.fn 54) [v0, v1] h R X := Runs.fn zrQ_t rfl k
def zrQ_l0_J (f0 f1 f2 f3 f6 f7 : Value) (ds : List Deferred) (rd : Option Nat) (I : Nat → Value → Heap → Prop) (m : Nat) (s : St) : Prop := ∃ (v8 : Value), ∃ h : Heap, ∃ (x4 x5 x9 x10 x11 x12 x13 x14 x15 x16 x17 x18 : Value), s = ⟨[f0, f1, f2, f3, x4, x5, f6, f7, v8, x9, x10, x11, x12, x13, x14, x15, x16, x17, x18], ds, h, rd⟩ ∧ I m v8 h
theorem zrQ_l0_rule {f0 f1 f2 f3 f6 f7 : Value} {ds : List Deferred} {rd : Option Nat} {Q : QP} (I : Nat → Value → Heap → Prop) (hb : ∀ (m : Nat) (v8 : Value) (h : Heap) (x4 x5 x9 x10 x11 x12 x13 x14 x15 x16 x17 x18 : Value) , I m v8 h → RunC Try.prog T0 zrQ_l0 ⟨[f0, f1, f2, f3, x4, x5, f6, f7, v8, x9, x10, x11, x12, x13, x14, x15, x16, x17, x18], ds, h, rd⟩ (loopQ (zrQ_l0_J f0 f1 f2 f3 f6 f7 ds rd I) m Q))
 (m : Nat) {v8 : Value} {h : Heap} {x4 x5 x9 x10 x11 x12 x13 x14 x15 x16 x17 x18 : Value} (hi : I m v8 h) : RunC Try.prog T0 (.loop zrQ_l0) ⟨[f0, f1, f2, f3, x4, x5, f6, f7, v8, x9, x10, x11, x12, x13, x14, x15, x16, x17, x18], ds, h, rd⟩ Q :=
 RunC.loopJ (zrQ_l0_J f0 f1 f2 f3 f6 f7 ds rd I) (fun m s hj => by obtain ⟨v8, h, x4, x5, x9, x10, x11, x12, x13, x14, x15, x16, x17, x18, rfl, hi⟩ := hj; exact hb m v8 h x4 x5 x9 x10 x11 x12 x13 x14 x15 x16 x17 x18 hi) m _ ⟨_, h, _, _, _, _, _, _, _, _, _, _, _, _, rfl, hi⟩
theorem zrQ_l0_again {f0 f1 f2 f3 f6 f7 : Value} {ds : List Deferred} {rd : Option Nat} {Q : QP} {I : Nat → Value → Heap → Prop} {m : Nat} (m' : Nat) {v8 : Value} {h : Heap} {x4 x5 x9 x10 x11 x12 x13 x14 x15 x16 x17 x18 : Value} (hm : m' < m) (hi : I m' v8 h) : loopQ (zrQ_l0_J f0 f1 f2 f3 f6 f7 ds rd I) m Q .normal ⟨[f0, f1, f2, f3, x4, x5, f6, f7, v8, x9, x10, x11, x12, x13, x14, x15, x16, x17, x18], ds, h, rd⟩ :=
 loopQ.again m' hm ⟨_, h, _, _, _, _, _, _, _, _, _, _, _, _, rfl, hi⟩
abbrev fn_zvQ : FuncId := 55
def zvQ_c : ACode :=
 (.seq (.region [
 o1 2 (.box 54 (tm 0)),
 o1 3 (.mov (.const (.bool false)))]) (.seq (.region [
 o1 4 (.fieldAddr 0 (tm 2)),
 o1 5 (.load (some 4) (tm 4)),
 o1 6 (.load (some 4) (tm 1)),
 o1 7 (.bin .eql (so (.binOp .eql 42 (tm 5) (tm 6) 42) 4) (tm 5) (tm 6)),
 o1 3 (.mov (tm 7))]) .ret))
def zvQ : AFunc := ⟨8, [(3, none)], zvQ_c, none⟩
theorem zvQ_t0 : tableOf Try.prog 55 = some zvQ := by kernel_rfl
theorem zvQ_t : T0 55 = some zvQ := withKept_t rfl (withTrue_t rfl zvQ_t0)
theorem zvQ_runs {v0 v1 : Value} {h : Heap} {R : RP} {X : XP} (k : RunC Try.prog T0 zvQ_c ⟨[v0, v1, U, U, U, U, U, U], [], h, none⟩ (bodyQ Try.prog T0 [(3, none)] R X)) :
 Runs Try.prog T0 (.fn 55) [v0, v1] h R X := Runs.fn zvQ_t rfl k
abbrev fn_zaQ : FuncId := 79
def zaQ_c : ACode :=
 (.seq (.region [
 o1 4 (.mov k0)]) (.seq (.region [
 o1 5 (.mov (tm 0)),
 o1 6 (.mov (tm 1)),
 o1 7 (.ext .compare (.func 99) [(tm 5), (tm 6)]),
 o1 4 (.mov (tm 7))]) .ret))
def zaQ : AFunc := ⟨8, [(4, none)], zaQ_c, none⟩
theorem zaQ_t0 : tableOf Try.prog 79 = some zaQ := by kernel_rfl
theorem zaQ_t : T0 79 = some zaQ := withKept_t rfl (withTrue_t rfl zaQ_t0)
theorem zaQ_runs {v0 v1 : Value} {h : Heap} {R : RP} {X : XP} (k : RunC Try.prog T0 zaQ_c ⟨[v0, v1, U, U, U, U, U, U], [], h, none⟩ (bodyQ Try.prog T0 [(4, none)] R X)) :
 Runs Try.prog T0 (.fn 79) [v0, v1] h R X := Runs.fn zaQ_t rfl k
abbrev fn_zzQ : FuncId := 80
def zzQ_l0 : ACode :=
 (.seq (.seq (.regionD [
 o2 14 (.load none (tm 2)),
 o2 15 (.lenSl (tm 14)),
 o2 16 (.bin .gtr (so (.binOp .gtr 3 (tm 15) k0 3) 4) (tm 15) k0),
 o2 17 (.mov (tm 16)),
 o4 18 (.load none (tm 2)) 17,
 o4 19 (.indexSl 5 (tm 18) k0) 17,
 o4 20 (.load (some 5) (tm 19)) 17,
 o4 21 (.fieldAddr 0 (tm 5)) 17,
 o4 22 (.load (some 4) (tm 21)) 17,
 ⟨some 23, .callV (.func 53) [(tm 20), (tm 22)], some (17, true), [], true⟩,
 ⟨some 24, .bin .lss (so (.binOp .lss 3 (tm 23) k0 3) 4) (tm 23) k0, some (17, true), [], true⟩,
 o2 25 (.pick (tm 17) (tm 24) (.const (.bool false)))]) (.cond (tm 25)
 .skip
 (.exit 2))) (.block 3 (.seq (.seq (.region [
 o1 26 (.mov (tm 0)),
 o1 27 (.load none (tm 2)),
 o1 28 (.indexSl 5 (tm 27) k0),
 o1 29 (.load (some 5) (tm 28)),
 o1 30 (.callV (tm 26) [(tm 29)]),
 o1 31 (.raw (so (.unOp .not 4 (tm 30)) 4))]) (.cond (tm 31)
 .ret
 .skip)) (.region [
 o1 32 (.load none (tm 2)),
 o1 33 (.sliceSl 5 (tm 32) (some (.const (.int .i64 1))) none none),
 o3 (.store 1 (tm 2) (tm 33))]))))
def zzQ_l1 : ACode :=
 (.seq (.region [
 o1 11 (.bin .lss (so (.binOp .lss 3 (tm 10) (tm 9) 3) 0) (tm 10) (tm 9))]) (.seq (.cond (tm 11)
 .skip
 (.exit 0)) (.seq (.block 1 (.seq (.region [
 o1 12 (.indexSl 5 (tm 8) (tm 10)),
 o1 13 (.load (some 5) (tm 12)),
 o1 5 (.alloc 54 [(.int .u8 0), (.int .u8 0), (.int .u8 0), (.int .u8 0), (.int .i64 0)]),
 o3 (.store 5 (tm 5) (tm 13))]) (.seq (.block 2 (.loop zzQ_l0)) (.seq (.seq (.regionD [
 o2 34 (.load none (tm 2)),
 o2 35 (.lenSl (tm 34)),
 o2 36 (.bin .gtr (so (.binOp .gtr 3 (tm 35) k0 3) 4) (tm 35) k0),
 o2 37 (.mov (tm 36)),
 o4 38 (.load none (tm 2)) 37,
 o4 39 (.indexSl 5 (tm 38) k0) 37,
 o4 40 (.fieldAddr 0 (tm 39)) 37,
 o4 41 (.load (some 4) (tm 40)) 37,
 o4 42 (.fieldAddr 0 (tm 5)) 37,
 o4 43 (.load (some 4) (tm 42)) 37,
 ⟨some 44, .bin .eql (so (.binOp .eql 42 (tm 41) (tm 43) 42) 4) (tm 41) (tm 43), some (37, true), [], true⟩,
 o2 45 (.pick (tm 37) (tm 44) (.const (.bool false)))]) (.cond (tm 45)
 (.region [
 o1 46 (.load none (tm 2)),
 o1 47 (.sliceSl 5 (tm 46) (some (.const (.int .i64 1))) none none),
 o3 (.store 1 (tm 2) (tm 47))])
 .skip)) (.seq (.region [
 o1 48 (.mov (tm 0)),
 o1 49 (.load (some 5) (tm 5)),
 o1 50 (.callV (tm 48) [(tm 49)]),
 o1 51 (.raw (so (.unOp .not 4 (tm 50)) 4))]) (.cond (tm 51)
 .ret
 .skip)))))) (.region [
 o1 52 (.bin .add (so (.binOp .add 3 (tm 10) (.const (.int .i64 1)) 3) 3) (tm 10) (.const (.int .i64 1))),
 o1 10 (.mov (tm 52))]))))
def zzQ_l2 : ACode :=
 (.seq (.region [
 o1 56 (.bin .lss (so (.binOp .lss 3 (tm 55) (tm 54) 3) 0) (tm 55) (tm 54))]) (.seq (.cond (tm 56)
 .skip
 (.exit 4)) (.seq (.block 5 (.seq (.region [
 o1 57 (.indexSl 5 (tm 53) (tm 55)),
 o1 58 (.load (some 5) (tm 57)),
 o1 7 (.alloc 54 [(.int .u8 0), (.int .u8 0), (.int .u8 0), (.int .u8 0), (.int .i64 0)]),
 o3 (.store 5 (tm 7) (tm 58))]) (.seq (.region [
 o1 59 (.mov (tm 0)),
 o1 60 (.load (some 5) (tm 7)),
 o1 61 (.callV (tm 59) [(tm 60)]),
 o1 62 (.raw (so (.unOp .not 4 (tm 61)) 4))]) (.cond (tm 62)
 .ret
 .skip)))) (.region [
 o1 63 (.bin .add (so (.binOp .add 3 (tm 55) (.const (.int .i64 1)) 3) 3) (tm 55) (.const (.int .i64 1))),
 o1 55 (.mov (tm 63))]))))
def zzQ_c : ACode :=
 (.seq (.seq (.region [
 o1 8 (.load none (tm 1)),
 o1 9 (.lenSl (tm 8)),
 o1 10 (.mov k0)]) (.block 0 (.loop zzQ_l1))) (.seq (.region [
 o1 53 (.load none (tm 2)),
 o1 54 (.lenSl (tm 53)),
 o1 55 (.mov k0)]) (.block 4 (.loop zzQ_l2))))
def zzQ : AFunc := ⟨64, [], zzQ_c, none⟩
theorem zzQ_t0 : tableOf Try.prog 80 = some zzQ := by kernel_rfl
theorem zzQ_t : T0 80 = some zzQ := withKept_t rfl (withTrue_t rfl zzQ_t0)
theorem zzQ_runs {v0 v1 v2 : Value} {h : Heap} {R : RP} {X : XP} (k : RunC Try.prog T0 zzQ_c ⟨[v0, v1, v2, U, U, U, U, U, U, U, U, U, U, U, U, U, U, U, U, U, U, U, U, U, U, U, U, U, U, U, U, U, U, U, U, U, U, U, U, U, U, U, U, U, U, U, U, U, U, U, U, U, U, U, U, U, U, U, U, U, U, U, U, U], [], h, none⟩ (bodyQ Try.prog T0 [] R X)) :
 Runs Try.prog T0 (.fn 80) [v0, v1, v2] h R X := Runs.fn zzQ_t rfl k
def zzQ_l0_J (f0 f1 f2 f3 f4 f5 f6 f7 f8 f9 f10 f11 f12 f13 f34 f35 f36 f37 f38 f39 f40 f41 f42 f43 f44 f45 f46 f47 f48 f49 f50 f51 f52 f53 f54 f55 f56 f57 f58 f59 f60 f61 f62 f63 : Value) (ds : List Deferred) (rd : Option Nat) (I : Nat → Heap → Prop) (m : Nat) (s : St) : Prop := ∃ h : Heap, ∃ (x14 x15 x16 x17 x18 x19 x20 x21 x22 x23 x24 x25 x26 x27 x28 x29 x30 x31 x32 x33 : Value), s = ⟨[f0, f1, f2, f3, f4, f5, f6, f7, f8, f9, f10, f11, f12, f13, x14, x15, x16, x17, x18, x19, x20, x21, x22, x23, x24, x25, x26, x27, x28, x29, x30, x31, x32, x33, f34, f35, f36, f37, f38, f39, f40, f41, f42, f43, f44, f45, f46, f47, f48, f49, f50, f51, f52, f53, f54, f55, f56, f57, f58, f59, f60, f61, f62, f63], ds, h, rd⟩ ∧ I m  h
theorem zzQ_l0_rule {f0 f1 f2 f3 f4 f5 f6 f7 f8 f9 f10 f11 f12 f13 f34 f35 f36 f37 f38 f39 f40 f41 f42 f43 f44 f45 f46 f47 f48 f49 f50 f51 f52 f53 f54 f55 f56 f57 f58 f59 f60 f61 f62 f63 : Value} {ds : List Deferred} {rd : Option Nat} {Q : QP} (I : Nat → Heap → Prop) (hb : ∀ (m : Nat) (h : Heap) (x14 x15 x16 x17 x18 x19 x20 x21 x22 x23 x24 x25 x26 x27 x28 x29 x30 x31 x32 x33 : Value) , I m  h → RunC Try.prog T0 zzQ_l0 ⟨[f0, f1, f2, f3, f4, f5, f6, f7, f8, f9, f10, f11, f12, f13, x14, x15, x16, x17, x18, x19, x20, x21, x22, x23, x24, x25, x26, x27, x28, x29, x30, x31, x32, x33, f34, f35, f36, f37, f38, f39, f40, f41, f42, f43, f44, f45, f46, f47, f48, f49, f50, f51, f52, f53, f54, f55, f56, f57, f58, f59, f60, f61, f62, f63], ds, h, rd⟩ (loopQ (zzQ_l0_J f0 f1 f2 f3 f4 f5 f6 f7 f8 f9 f10 f11 f12 f13 f34 f35 f36 f37 f38 f39 f40 f41 f42 f43 f44 f45 f46 f47 f48 f49 f50 f51 f52 f53 f54 f55 f56 f57 f58 f59 f60 f61 f62 f63 ds rd I) m Q))
 (m : Nat) {v : Value} {h : Heap} {x14 x15 x16 x17 x18 x19 x20 x21 x22 x23 x24 x25 x26 x27 x28 x29 x30 x31 x32 x33 : Value} (hi : I m  h) : RunC Try.prog T0 (.loop zzQ_l0) ⟨[f0, f1, f2, f3, f4, f5, f6, f7, f8, f9, f10, f11, f12, f13, x14, x15, x16, x17, x18, x19, x20, x21, x22, x23, x24, x25, x26, x27, x28, x29, x30, x31, x32, x33, f34, f35, f36, f37, f38, f39, f40, f41, f42, f43, f44, f45, f46, f47, f48, f49, f50, f51, f52, f53, f54, f55, f56, f57, f58, f59, f60, f61, f62, f63], ds, h, rd⟩ Q :=
 RunC.loopJ (zzQ_l0_J f0 f1 f2 f3 f4 f5 f6 f7 f8 f9 f10 f11 f12 f13 f34 f35 f36 f37 f38 f39 f40 f41 f42 f43 f44 f45 f46 f47 f48 f49 f50 f51 f52 f53 f54 f55 f56 f57 f58 f59 f60 f61 f62 f63 ds rd I) (fun m s hj => by obtain ⟨h, x14, x15, x16, x17, x18, x19, x20, x21, x22, x23, x24, x25, x26, x27, x28, x29, x30, x31, x32, x33, rfl, hi⟩ := hj; exact hb m  h x14 x15 x16 x17 x18 x19 x20 x21 x22 x23 x24 x25 x26 x27 x28 x29 x30 x31 x32 x33 hi) m _ ⟨h, _, _, _, _, _, _, _, _, _, _, _, _, _, _, _, _, _, _, _, _, rfl, hi⟩
theorem zzQ_l0_again {f0 f1 f2 f3 f4 f5 f6 f7 f8 f9 f10 f11 f12 f13 f34 f35 f36 f37 f38 f39 f40 f41 f42 f43 f44 f45 f46 f47 f48 f49 f50 f51 f52 f53 f54 f55 f56 f57 f58 f59 f60 f61 f62 f63 : Value} {ds : List Deferred} {rd : Option Nat} {Q : QP} {I : Nat → Heap → Prop} {m : Nat} (m' : Nat) {v : Value} {h : Heap} {x14 x15 x16 x17 x18 x19 x20 x21 x22 x23 x24 x25 x26 x27 x28 x29 x30 x31 x32 x33 : Value} (hm : m' < m) (hi : I m'  h) : loopQ (zzQ_l0_J f0 f1 f2 f3 f4 f5 f6 f7 f8 f9 f10 f11 f12 f13 f34 f35 f36 f37 f38 f39 f40 f41 f42 f43 f44 f45 f46 f47 f48 f49 f50 f51 f52 f53 f54 f55 f56 f57 f58 f59 f60 f61 f62 f63 ds rd I) m Q .normal ⟨[f0, f1, f2, f3, f4, f5, f6, f7, f8, f9, f10, f11, f12, f13, x14, x15, x16, x17, x18, x19, x20, x21, x22, x23, x24, x25, x26, x27, x28, x29, x30, x31, x32, x33, f34, f35, f36, f37, f38, f39, f40, f41, f42, f43, f44, f45, f46, f47, f48, f49, f50, f51, f52, f53, f54, f55, f56, f57, f58, f59, f60, f61, f62, f63], ds, h, rd⟩ :=
 loopQ.again m' hm ⟨h, _, _, _, _, _, _, _, _, _, _, _, _, _, _, _, _, _, _, _, _, rfl, hi⟩
def zzQ_l1_J (f0 f1 f2 f3 f4 f6 f7 f8 f9 f53 f54 f55 f56 f57 f58 f59 f60 f61 f62 f63 : Value) (ds : List Deferred) (rd : Option Nat) (I : Nat → Value → Heap → Prop) (m : Nat) (s : St) : Prop := ∃ (v10 : Value), ∃ h : Heap, ∃ (x5 x11 x12 x13 x14 x15 x16 x17 x18 x19 x20 x21 x22 x23 x24 x25 x26 x27 x28 x29 x30 x31 x32 x33 x34 x35 x36 x37 x38 x39 x40 x41 x42 x43 x44 x45 x46 x47 x48 x49 x50 x51 x52 : Value), s = ⟨[f0, f1, f2, f3, f4, x5, f6, f7, f8, f9, v10, x11, x12, x13, x14, x15, x16, x17, x18, x19, x20, x21, x22, x23, x24, x25, x26, x27, x28, x29, x30, x31, x32, x33, x34, x35, x36, x37, x38, x39, x40, x41, x42, x43, x44, x45, x46, x47, x48, x49, x50, x51, x52, f53, f54, f55, f56, f57, f58, f59, f60, f61, f62, f63], ds, h, rd⟩ ∧ I m v10 h
theorem zzQ_l1_rule {f0 f1 f2 f3 f4 f6 f7 f8 f9 f53 f54 f55 f56 f57 f58 f59 f60 f61 f62 f63 : Value} {ds : List Deferred} {rd : Option Nat} {Q : QP} (I : Nat → Value → Heap → Prop) (hb : ∀ (m : Nat) (v10 : Value) (h : Heap) (x5 x11 x12 x13 x14 x15 x16 x17 x18 x19 x20 x21 x22 x23 x24 x25 x26 x27 x28 x29 x30 x31 x32 x33 x34 x35 x36 x37 x38 x39 x40 x41 x42 x43 x44 x45 x46 x47 x48 x49 x50 x51 x52 : Value) , I m v10 h → RunC Try.prog T0 zzQ_l1 ⟨[f0, f1, f2, f3, f4, x5, f6, f7, f8, f9, v10, x11, x12, x13, x14, x15, x16, x17, x18, x19, x20, x21, x22, x23, x24, x25, x26, x27, x28, x29, x30, x31, x32, x33, x34, x35, x36, x37, x38, x39, x40, x41, x42, x43, x44, x45, x46, x47, x48, x49, x50, x51, x52, f53, f54, f55, f56, f57, f58, f59, f60, f61, f62, f63], ds, h, rd⟩ (loopQ (zzQ_l1_J f0 f1 f2 f3 f4 f6 f7 f8 f9 f53 f54 f55 f56 f57 f58 f59 f60 f61 f62 f63 ds rd I) m Q))
 (m : Nat) {v10 : Value} {h : Heap} {x5 x11 x12 x13 x14 x15 x16 x17 x18 x19 x20 x21 x22 x23 x24 x25 x26 x27 x28 x29 x30 x31 x32 x33 x34 x35 x36 x37 x38 x39 x40 x41 x42 x43 x44 x45 x46 x47 x48 x49 x50 x51 x52 : Value} (hi : I m v10 h) : RunC Try.prog T0 (.loop zzQ_l1) ⟨[f0, f1, f2, f3, f4, x5, f6, f7, f8, f9, v10, x11, x12, x13, x14, x15, x16, x17, x18, x19, x20, x21, x22, x23, x24, x25, x26, x27, x28, x29, x30, x31, x32, x33, x34, x35, x36, x37, x38, x39, x40, x41, x42, x43, x44, x45, x46, x47, x48, x49, x50, x51, x52, f53, f54, f55, f56, f57, f58, f59, f60, f61, f62, f63], ds, h, rd⟩ Q :=
 RunC.loopJ (zzQ_l1_J f0 f1 f2 f3 f4 f6 f7 f8 f9 f53 f54 f55 f56 f57 f58 f59 f60 f61 f62 f63 ds rd I) (fun m s hj => by obtain ⟨v10, h, x5, x11, x12, x13, x14, x15, x16, x17, x18, x19, x20, x21, x22, x23, x24, x25, x26, x27, x28, x29, x30, x31, x32, x33, x34, x35, x36, x37, x38, x39, x40, x41, x42, x43, x44, x45, x46, x47, x48, x49, x50, x51, x52, rfl, hi⟩ := hj; exact hb m v10 h x5 x11 x12 x13 x14 x15 x16 x17 x18 x19 x20 x21 x22 x23 x24 x25 x26 x27 x28 x29 x30 x31 x32 x33 x34 x35 x36 x37 x38 x39 x40 x41 x42 x43 x44 x45 x46 x47 x48 x49 x50 x51 x52 hi) m _ ⟨_, h, _, _, _, _, _, _, _, _, _, _, _, _, _, _, _, _, _, _, _, _, _, _, _, _, _, _, _, _, _, _, _, _, _, _, _, _, _, _, _, _, _, _, _, rfl, hi⟩
theorem zzQ_l1_again {f0 f1 f2 f3 f4 f6 f7 f8 f9 f53 f54 f55 f56 f57 f58 f59 f60 f61 f62 f63 : Value} {ds : List Deferred} {rd : Option Nat} {Q : QP} {I : Nat → Value → Heap → Prop} {m : Nat} (m' : Nat) {v10 : Value} {h : Heap} {x5 x11 x12 x13 x14 x15 x16 x17 x18 x19 x20 x21 x22 x23 x24 x25 x26 x27 x28 x29 x30 x31 x32 x33 x34 x35 x36 x37 x38 x39 x40 x41 x42 x43 x44 x45 x46 x47 x48 x49 x50 x51 x52 : Value} (hm : m' < m) (hi : I m' v10 h) : loopQ (zzQ_l1_J f0 f1 f2 f3 f4 f6 f7 f8 f9 f53 f54 f55 f56 f57 f58 f59 f60 f61 f62 f63 ds rd I) m Q .normal ⟨[f0, f1, f2, f3, f4, x5, f6, f7, f8, f9, v10, x11, x12, x13, x14, x15, x16, x17, x18, x19, x20, x21, x22, x23, x24, x25, x26, x27, x28, x29, x30, x31, x32, x33, x34, x35, x36, x37, x38, x39, x40, x41, x42, x43, x44, x45, x46, x47, x48, x49, x50, x51, x52, f53, f54, f55, f56, f57, f58, f59, f60, f61, f62, f63], ds, h, rd⟩ :=
 loopQ.again m' hm ⟨_, h, _, _, _, _, _, _, _, _, _, _, _, _, _, _, _, _, _, _, _, _, _, _, _, _, _, _, _, _, _, _, _, _, _, _, _, _, _, _, _, _, _, _, _, rfl, hi⟩
def zzQ_l2_J (f0 f1 f2 f3 f4 f5 f6 f8 f9 f10 f11 f12 f13 f14 f15 f16 f17 f18 f19 f20 f21 f22 f23 f24 f25 f26 f27 f28 f29 f30 f31 f32 f33 f34 f35 f36 f37 f38 f39 f40 f41 f42 f43 f44 f45 f46 f47 f48 f49 f50 f51 f52 f53 f54 : Value) (ds : List Deferred) (rd : Option Nat) (I : Nat → Value → Heap → Prop) (m : Nat) (s : St) : Prop := ∃ (v55 : Value), ∃ h : Heap, ∃ (x7 x56 x57 x58 x59 x60 x61 x62 x63 : Value), s = ⟨[f0, f1, f2, f3, f4, f5, f6, x7, f8, f9, f10, f11, f12, f13, f14, f15, f16, f17, f18, f19, f20, f21, f22, f23, f24, f25, f26, f27, f28, f29, f30, f31, f32, f33, f34, f35, f36, f37, f38, f39, f40, f41, f42, f43, f44, f45, f46, f47, f48, f49, f50, f51, f52, f53, f54, v55, x56, x57, x58, x59, x60, x61, x62, x63], ds, h, rd⟩ ∧ I m v55 h
theorem zzQ_l2_rule {f0 f1 f2 f3 f4 f5 f6 f8 f9 f10 f11 f12 f13 f14 f15 f16 f17 f18 f19 f20 f21 f22 f23 f24 f25 f26 f27 f28 f29 f30 f31 f32 f33 f34 f35 f36 f37 f38 f39 f40 f41 f42 f43 f44 f45 f46 f47 f48 f49 f50 f51 f52 f53 f54 : Value} {ds : List Deferred} {rd : Option Nat} {Q : QP} (I : Nat → Value → Heap → Prop) (hb : ∀ (m : Nat) (v55 : Value) (h : Heap) (x7 x56 x57 x58 x59 x60 x61 x62 x63 : Value) , I m v55 h → RunC Try.prog T0 zzQ_l2 ⟨[f0, f1, f2, f3, f4, f5, f6, x7, f8, f9, f10, f11, f12, f13, f14, f15, f16, f17, f18, f19, f20, f21, f22, f23, f24, f25, f26, f27, f28, f29, f30, f31, f32, f33, f34, f35, f36, f37, f38, f39, f40, f41, f42, f43, f44, f45, f46, f47, f48, f49, f50, f51, f52, f53, f54, v55, x56, x57, x58, x59, x60, x61, x62, x63], ds, h, rd⟩ (loopQ (zzQ_l2_J f0 f1 f2 f3 f4 f5 f6 f8 f9 f10 f11 f12 f13 f14 f15 f16 f17 f18 f19 f20 f21 f22 f23 f24 f25 f26 f27 f28 f29 f30 f31 f32 f33 f34 f35 f36 f37 f38 f39 f40 f41 f42 f43 f44 f45 f46 f47 f48 f49 f50 f51 f52 f53 f54 ds rd I) m Q))
 (m : Nat) {v55 : Value} {h : Heap} {x7 x56 x57 x58 x59 x60 x61 x62 x63 : Value} (hi : I m v55 h) : RunC Try.prog T0 (.loop zzQ_l2) ⟨[f0, f1, f2, f3, f4, f5, f6, x7, f8, f9, f10, f11, f12, f13, f14, f15, f16, f17, f18, f19, f20, f21, f22, f23, f24, f25, f26, f27, f28, f29, f30, f31, f32, f33, f34, f35, f36, f37, f38, f39, f40, f41, f42, f43, f44, f45, f46, f47, f48, f49, f50, f51, f52, f53, f54, v55, x56, x57, x58, x59, x60, x61, x62, x63], ds, h, rd⟩ Q :=
 RunC.loopJ (zzQ_l2_J f0 f1 f2 f3 f4 f5 f6 f8 f9 f10 f11 f12 f13 f14 f15 f16 f17 f18 f19 f20 f21 f22 f23 f24 f25 f26 f27 f28 f29 f30 f31 f32 f33 f34 f35 f36 f37 f38 f39 f40 f41 f42 f43 f44 f45 f46 f47 f48 f49 f50 f51 f52 f53 f54 ds rd I) (fun m s hj => by obtain ⟨v55, h, x7, x56, x57, x58, x59, x60, x61, x62, x63, rfl, hi⟩ := hj; exact hb m v55 h x7 x56 x57 x58 x59 x60 x61 x62 x63 hi) m _ ⟨_, h, _, _, _, _, _, _, _, _, _, rfl, hi⟩
theorem zzQ_l2_again {f0 f1 f2 f3 f4 f5 f6 f8 f9 f10 f11 f12 f13 f14 f15 f16 f17 f18 f19 f20 f21 f22 f23 f24 f25 f26 f27 f28 f29 f30 f31 f32 f33 f34 f35 f36 f37 f38 f39 f40 f41 f42 f43 f44 f45 f46 f47 f48 f49 f50 f51 f52 f53 f54 : Value} {ds : List Deferred} {rd : Option Nat} {Q : QP} {I : Nat → Value → Heap → Prop} {m : Nat} (m' : Nat) {v55 : Value} {h : Heap} {x7 x56 x57 x58 x59 x60 x61 x62 x63 : Value} (hm : m' < m) (hi : I m' v55 h) : loopQ (zzQ_l2_J f0 f1 f2 f3 f4 f5 f6 f8 f9 f10 f11 f12 f13 f14 f15 f16 f17 f18 f19 f20 f21 f22 f23 f24 f25 f26 f27 f28 f29 f30 f31 f32 f33 f34 f35 f36 f37 f38 f39 f40 f41 f42 f43 f44 f45 f46 f47 f48 f49 f50 f51 f52 f53 f54 ds rd I) m Q .normal ⟨[f0, f1, f2, f3, f4, f5, f6, x7, f8, f9, f10, f11, f12, f13, f14, f15, f16, f17, f18, f19, f20, f21, f22, f23, f24, f25, f26, f27, f28, f29, f30, f31, f32, f33, f34, f35, f36, f37, f38, f39, f40, f41, f42, f43, f44, f45, f46, f47, f48, f49, f50, f51, f52, f53, f54, v55, x56, x57, x58, x59, x60, x61, x62, x63], ds, h, rd⟩ :=
 loopQ.again m' hm ⟨_, h, _, _, _, _, _, _, _, _, _, rfl, hi⟩
end Go.Proofs.Ytmfaepkmiceoeaa.A

namespace Go.Proofs.Ytmfaepkmiceoeaa.A
open Go Go.Vm
set_option maxRecDepth 10000
set_option linter.unusedVariables false
theorem four {l : List UInt8} (h : l.length = 4) : ∃ a b c d, l = [a, b, c, d] := by
  match l, h with
  | [a, b, c, d], _ => exact ⟨a, b, c, d, rfl⟩
abbrev k4 (a b c d : UInt8) : List Value := [.int .u8 a.toNat, .int .u8 b.toNat, .int .u8 c.toNat, .int .u8 d.toNat]
end Go.Proofs.Ytmfaepkmiceoeaa.A

namespace Go.Proofs.Ytmfaepkmiceoeaa.A
open Go Go.Vm
set_option maxRecDepth 10000
set_option linter.unusedVariables false
structure Val where
  k0 : UInt8
  k1 : UInt8
  k2 : UInt8
  k3 : UInt8
  p : Int
deriving DecidableEq
abbrev Val.key (v : Val) : List UInt8 := [v.k0, v.k1, v.k2, v.k3]
abbrev Val.cells (v : Val) : List Value := [.int .u8 v.k0.toNat, .int .u8 v.k1.toNat, .int .u8 v.k2.toNat, .int .u8 v.k3.toNat, .int .i64 v.p]
abbrev zVal : Val := ⟨0, 0, 0, 0, 0⟩
def Val.of (l : List UInt8) (p : Int) : Val := ⟨l.getD 0 0, l.getD 1 0, l.getD 2 0, l.getD 3 0, p⟩
def vcells (l : List Val) : List Value := l.flatMap Val.cells
theorem vcells_nil : vcells [] = [] := rfl
theorem vcells_cons (v : Val) (l : List Val) : vcells (v :: l) = v.cells ++ vcells l := rfl
theorem vcells_append (l m : List Val) : vcells (l ++ m) = vcells l ++ vcells m := by simp [vcells]
theorem vcells_len : ∀ l : List Val, (vcells l).length = l.length * 5
  | [] => rfl
  | v :: l => by rw [vcells_cons, List.length_append, vcells_len l]; simp; omega
theorem vcells_at : ∀ {l : List Val} {k : Nat}, k < l.length → ((vcells l).drop (k * 5)).take 5 = (l.getD k zVal).cells
  | v :: l, 0, _ => by rw [vcells_cons]; rfl
  | v :: l, k + 1, h => by
    have := vcells_at (l := l) (k := k) (by simpa using h)
    rw [vcells_cons, show (k + 1) * 5 = v.cells.length + k * 5 from by simp; omega, ← List.drop_drop, List.drop_left]
    exact this
theorem val_cells {h : Heap} {b o n k : Nat} {l : List Val} (hc : cellsAt h b o (n * 5) = some (vcells l)) (hn : l.length = n) (hk : k < n) : Cells h b (o + k * 5) 5 (l.getD k zVal).cells := ⟨by
  rw [cellsAt_sub hc (by omega), vcells_at (by omega)]⟩
theorem val_key {h : Heap} {b o n k : Nat} {l : List Val} (hc : cellsAt h b o (n * 5) = some (vcells l)) (hn : l.length = n) (hk : k < n) : Cells h b (o + k * 5) 4 [.int .u8 (l.getD k zVal).k0.toNat, .int .u8 (l.getD k zVal).k1.toNat, .int .u8 (l.getD k zVal).k2.toNat, .int .u8 (l.getD k zVal).k3.toNat] := ⟨by
  have h5 := (val_cells hc hn hk).eq
  have := cellsAt_sub (k := 0) (m := 4) h5 (by omega)
  simpa using this⟩
def stepsV (least : Int) : Option Val → List Val → Int
  | _, [] => 0
  | last, v :: l => if (match last with | none => false | some x => !keyLt x.key v.key) = true then 9 else if v.p < least ∨ 4611686018427387904 < v.p then 3 else stepsV least (some v) l
def checkV (l : List Val) : Int := if l.length = 0 then 6 else if 64 < l.length then 4 else stepsV 1 none l
def lastV (l : List Val) (k : Nat) : Option Val := if k = 0 then none else some (l.getD (k - 1) zVal)
theorem drop_getD {l : List Val} {k : Nat} (hk : k < l.length) : l.drop k = l.getD k zVal :: l.drop (k + 1) := by
  rw [List.drop_eq_getElem_cons hk]
  simp [List.getD, hk]
theorem stepsV_at {least : Int} {l : List Val} {k : Nat} (hk : k < l.length) : stepsV least (lastV l k) (l.drop k) =
    if (match lastV l k with | none => false | some x => !keyLt x.key (l.getD k zVal).key) = true then 9 else if (l.getD k zVal).p < least ∨ 4611686018427387904 < (l.getD k zVal).p then 3 else stepsV least (lastV l (k + 1)) (l.drop (k + 1)) := by
  rw [drop_getD hk]
  rfl
def atS (x : Val) (begun : Bool) (least most : Int) (v : Val) : Int := if (begun && !keyLt x.key v.key) = true then 9 else if v.p < least ∨ most < v.p then 3 else 0
theorem stepsV_atS {least : Int} {l : List Val} {k : Nat} {x : Val} (hk : k < l.length) (hx : 0 < k → lastV l k = some x) :
    stepsV least (lastV l k) (l.drop k) = if atS x (decide (0 < k)) least 4611686018427387904 (l.getD k zVal) = 0 then stepsV least (lastV l (k + 1)) (l.drop (k + 1)) else atS x (decide (0 < k)) least 4611686018427387904 (l.getD k zVal) := by
  rw [stepsV_at hk]
  by_cases h0 : 0 < k
  · rw [hx h0]
    unfold atS
    simp only [decide_eq_true h0, Bool.true_and]
    split
    · rfl
    · split
      · rfl
      · rfl
  · obtain rfl : k = 0 := by omega
    unfold atS
    simp only [lastV, if_true, Nat.lt_irrefl, decide_false, Bool.false_and, Bool.false_eq_true, if_false]
    split
    · rfl
    · rfl
end Go.Proofs.Ytmfaepkmiceoeaa.A

namespace Go.Proofs.Ytmfaepkmiceoeaa.A
open Go Go.Vm
set_option maxRecDepth 10000
set_option linter.unusedVariables false
theorem Compare_ok {h : Heap} {v w : Value} {a b : List UInt8} {n m : Nat} (h1 : Rd h 1 v (bcells a) n) (h2 : Rd h 1 w (bcells b) m) :
    Runs Try.prog T0 (.fn fn_zaQ) [v, w] h (fun r h' => r = .int .i64 (cmpB a b) ∧ h' = h) (fun _ _ => False) := by
  have h1' := h1
  have h2' := h2
  obtain ⟨a0, c0, rfl, _, _⟩ := h1
  obtain ⟨a1, c1, rfl, _, _⟩ := h2
  refine zaQ_runs ?_
  refine stp ?_
  refine O.how (XOp.mkCompare h1' h2' (by kernel_rfl)) ?_
  refine stp ?_
  exact ⟨rfl, rfl⟩
abbrev lookC (x : Val) (begun : Bool) (least most : Int) : List Value := [.int .u8 x.k0.toNat, .int .u8 x.k1.toNat, .int .u8 x.k2.toNat, .int .u8 x.k3.toNat, .bool begun, .int .i64 least, .int .i64 most]
theorem at_ok {h : Heap} {q : Nat} {x v : Val} {begun : Bool} {least most : Int} (hg : h.get q = .cells (lookC x begun least most) 0) (hq : q < h.n) :
    Runs Try.prog T0 (.fn fn_zxQ) [.pointer (some ⟨q, 0, none⟩), .agg ⟨v.cells⟩] h (fun r h' => r = .int .i64 (atS x begun least most v) ∧ h'.get q = .cells (lookC v true least most) 0 ∧ Fr (fun i => i = q) h h') (fun _ _ => False) := by
  haveI : HGet h q _ := ⟨hg⟩
  haveI : BLt q h := ⟨hq⟩
  have fin : ∀ {c : List Value} {o : AObj}, c = lookC v true least most → (((h.push o).set q (.cells c 0)).get q = .cells (lookC v true least most) 0 ∧ Fr (fun i => i = q) h ((h.push o).set q (.cells c 0))) := fun hc => ⟨by rw [Heap.get_set, if_pos rfl, hc], Fr.refl.push.set fun _ => rfl⟩
  refine zxQ_runs ?_
  refine stp ?_
  cases begun with
  | true =>
    refine stp ?_
    refine D.callT (Compare_ok (a := x.key) (b := v.key) (Rd.mk (n := 4) (by simp; omega) ?_) (Rd.mk (n := 4) (by simp) ?_)) (fun _ _ _ => rfl) (fun r h1 hr => ?_)
    · rw [cellsAt_of (c := lookC x true least most) (by rw [Heap.get_push, if_neg (by omega), hg]; rfl) (by simp)]
      rfl
    · rw [cellsAt_of (c := v.cells) (by rw [Heap.get_push, if_pos rfl]; rfl) (by simp)]
      rfl
    obtain ⟨rfl, rfl⟩ := hr
    refine stp ?_
    have hk : keyLt x.key v.key = decide (cmpB x.key v.key < 0) := rfl
    unfold atS
    refine C.if (fun hge => ?_) (fun hlt => ?_)
    · refine stp ?_
      rw [if_pos (by rw [hk, decide_eq_false (by omega)]; rfl)]
      exact ⟨rfl, fin rfl⟩
    · refine stp ?_
      rw [if_neg (by rw [hk, decide_eq_true (by omega)]; simp)]
      refine D.dec (fun h1 => ?_) (fun h1 => ?_)
      · refine stp ?_
        rw [if_pos (.inl h1)]
        exact ⟨rfl, fin rfl⟩
      · refine stp ?_
        refine C.if (fun h2 => ?_) (fun h2 => ?_)
        · refine stp ?_
          rw [if_pos (.inr h2)]
          exact ⟨rfl, fin rfl⟩
        · refine stp ?_
          rw [if_neg (by omega)]
          exact ⟨rfl, fin rfl⟩
  | false =>
    refine stp ?_
    unfold atS
    rw [if_neg (by simp)]
    refine D.dec (fun h1 => ?_) (fun h1 => ?_)
    · refine stp ?_
      rw [if_pos (.inl h1)]
      exact ⟨rfl, fin rfl⟩
    · refine stp ?_
      refine C.if (fun h2 => ?_) (fun h2 => ?_)
      · refine stp ?_
        rw [if_pos (.inr h2)]
        exact ⟨rfl, fin rfl⟩
      · refine stp ?_
        rw [if_neg (by omega)]
        exact ⟨rfl, fin rfl⟩
end Go.Proofs.Ytmfaepkmiceoeaa.A

namespace Go.Proofs.Ytmfaepkmiceoeaa.A
open Go Go.Vm
set_option maxRecDepth 10000
set_option linter.unusedVariables false
theorem VCheck_ok {h : Heap} {v : Value} {l : List Val} (hv : Rd h 5 v (vcells l) l.length) :
    Runs Try.prog T0 (.fn fn_ztQ) [v] h (fun r h' => r = .int .i64 (checkV l) ∧ Fr (fun _ => False) h h') (fun _ _ => False) := by
  obtain ⟨a, cap, rfl, hlen, hc⟩ := hv
  refine ztQ_runs ?_
  refine stp ?_
  unfold checkV
  refine C.if (fun h0 => ?_) (fun h0 => ?_)
  · refine stp ?_
    rw [if_pos (by omega)]
    exact ⟨rfl, Fr.refl⟩
  rw [if_neg (by omega)]
  refine stp ?_
  refine C.if (fun h1 => ?_) (fun h1 => ?_)
  · refine stp ?_
    rw [if_pos (by omega)]
    exact ⟨rfl, Fr.refl⟩
  rw [if_neg (by omega)]
  obtain ⟨b, o, sp, rfl, hb, hcc⟩ := hc (by omega)
  refine stp ?_
  refine ztQ_l0_rule (fun m v18 h' => ∃ k : Nat, k ≤ l.length ∧ m = l.length - k ∧ v18 = .int .i64 k ∧ (∃ x : Val, h'.get h.n = .cells (lookC x (decide (0 < k)) 1 4611686018427387904) 0 ∧ (0 < k → lastV l k = some x)) ∧ h.n < h'.n ∧ Fr (fun _ => False) h h' ∧ stepsV 1 none l = stepsV 1 (lastV l k) (l.drop k)) ?_ l.length ⟨0, by omega, rfl, rfl, ⟨zVal, ?_, by omega⟩, by simp, ?_, rfl⟩
  · rintro m v18 h' x2 x5 x6 x19 x20 x21 x22 x23 x24 x25 x26 x27 ⟨k, hk, rfl, rfl, ⟨x, hg, hx⟩, hn, hf, hst⟩
    refine stp ?_
    refine C.if (fun hlt => ?_) (fun hge => ?_)
    · have hlt : k < l.length := by omega
      have hcc' : cellsAt h' b o (l.length * 5) = some (vcells l) := by rw [cellsAt_keep hf hb id]; exact hcc
      haveI := val_cells hcc' rfl hlt
      refine stp ?_
      refine O.call' (at_ok (x := x) (v := l.getD k zVal) (begun := decide (0 < k)) (by rw [Heap.get_push, if_neg (by omega), hg]) (by simp; omega)) (fun r h2 hr => ?_)
      obtain ⟨rfl, hg2, hf2⟩ := hr
      have hn2 := hf2.n
      simp only [Heap.n_push] at hn2
      have hfh : Fr (fun _ => False) h h2 := Fr.trans (S := fun _ => False) hf (Fr.trans (S := fun i => i = h.n) Fr.refl.push hf2 fun i _ hi => hi) fun i hi ho => by omega
      refine stp ?_
      refine C.ifN (fun he => ?_) (fun he => ?_)
      · refine stp ?_
        rw [hst, stepsV_atS hlt hx, if_neg he]
        exact ⟨rfl, hfh⟩
      · refine stp ?_
        refine ztQ_l0_again (l.length - (k + 1)) (by omega) ⟨k + 1, by omega, rfl, rfl, ⟨l.getD k zVal, by rw [hg2, decide_eq_true (show 0 < k + 1 by omega)], fun _ => rfl⟩, by omega, hfh, ?_⟩
        rw [hst, stepsV_atS hlt hx, if_pos he]
    · obtain rfl : k = l.length := by omega
      refine stp ?_
      rw [hst, List.drop_length]
      exact ⟨rfl, hf⟩
  · rw [Heap.get_push, if_pos rfl]
    rfl
  · exact Fr.refl.push
end Go.Proofs.Ytmfaepkmiceoeaa.A

namespace Go.Proofs.Ytmfaepkmiceoeaa.A
open Go Go.Vm
set_option maxRecDepth 10000
set_option linter.unusedVariables false
end Go.Proofs.Ytmfaepkmiceoeaa.A

namespace Go.Proofs.Ytmfaepkmiceoeaa.A
open Go Go.Vm
set_option maxRecDepth 10000
set_option linter.unusedVariables false
end Go.Proofs.Ytmfaepkmiceoeaa.A

namespace Go.Proofs.Ytmfaepkmiceoeaa.A
open Go Go.Vm
set_option maxRecDepth 10000
set_option linter.unusedVariables false
theorem stepsV_range {least : Int} : ∀ {l : List Val} {o : Option Val}, stepsV least o l = 0 → ∀ v ∈ l, least ≤ v.p ∧ v.p ≤ 4611686018427387904
  | [], _, _, _, h => by cases h
  | v :: l, o, h, w, hw => by
    have key : ∀ b : Bool, (if b = true then (9 : Int) else if v.p < least ∨ 4611686018427387904 < v.p then 3 else stepsV least (some v) l) = 0 → least ≤ w.p ∧ w.p ≤ 4611686018427387904 := by
      intro b h
      by_cases hA : b = true
      · rw [if_pos hA] at h; cases h
      · rw [if_neg hA] at h
        by_cases hB : v.p < least ∨ 4611686018427387904 < v.p
        · rw [if_pos hB] at h; cases h
        · rw [if_neg hB] at h
          rcases List.mem_cons.1 hw with rfl | hw
          · omega
          · exact stepsV_range h w hw
    exact key _ h
theorem checkV_ok {l : List Val} (h : checkV l = 0) : 0 < l.length ∧ l.length ≤ 64 ∧ stepsV 1 none l = 0 ∧ ∀ v ∈ l, 1 ≤ v.p ∧ v.p ≤ 4611686018427387904 := by
  unfold checkV at h
  split at h
  · cases h
  · split at h
    · cases h
    · exact ⟨by omega, by omega, h, stepsV_range h⟩
end Go.Proofs.Ytmfaepkmiceoeaa.A

namespace Go.Proofs.Ytmfaepkmiceoeaa.A
open Go Go.Vm
set_option maxRecDepth 10000
set_option linter.unusedVariables false
theorem kn_ex : ∃ f : Val → Nat, ∀ v : Val, f v = v.k0.toNat * 16777216 + v.k1.toNat * 65536 + v.k2.toNat * 256 + v.k3.toNat := ⟨_, fun _ => rfl⟩
def kn : Val → Nat := Classical.choose kn_ex
theorem kn_eq (v : Val) : kn v = v.k0.toNat * 16777216 + v.k1.toNat * 65536 + v.k2.toNat * 256 + v.k3.toNat := Classical.choose_spec kn_ex v
theorem u8ne {a b : UInt8} : a ≠ b ↔ a.toNat ≠ b.toNat := ⟨fun h e => h (UInt8.toNat_inj.1 e), fun h e => h (by rw [e])⟩
theorem u8lt' {a b : UInt8} : a < b ↔ a.toNat < b.toNat := Iff.rfl
theorem cmp_kn (v w : Val) : cmpB v.key w.key = if kn v < kn w then -1 else if kn v = kn w then 0 else 1 := by
  obtain ⟨a0, a1, a2, a3, p⟩ := v
  obtain ⟨b0, b1, b2, b3, q⟩ := w
  have e : cmpB (Val.key ⟨a0, a1, a2, a3, p⟩) (Val.key ⟨b0, b1, b2, b3, q⟩) = _ := cmp4 a0 a1 a2 a3 b0 b1 b2 b3
  rw [e]
  simp only [kn_eq]
  simp only [u8ne, u8lt']
  have h0 := a0.toNat_lt; have h1 := a1.toNat_lt; have h2 := a2.toNat_lt; have h3 := a3.toNat_lt
  have g0 := b0.toNat_lt; have g1 := b1.toNat_lt; have g2 := b2.toNat_lt; have g3 := b3.toNat_lt
  generalize a0.toNat = a0 at *; generalize a1.toNat = a1 at *; generalize a2.toNat = a2 at *; generalize a3.toNat = a3 at *
  generalize b0.toNat = b0 at *; generalize b1.toNat = b1 at *; generalize b2.toNat = b2 at *; generalize b3.toNat = b3 at *
  by_cases c0 : a0 = b0
  · rw [if_neg (by omega)]
    by_cases c1 : a1 = b1
    · rw [if_neg (by omega)]
      by_cases c2 : a2 = b2
      · rw [if_neg (by omega)]
        by_cases c3 : a3 = b3
        · rw [if_neg (by omega), if_neg (by omega), if_pos (by omega)]
        · rw [if_pos (by omega)]
          by_cases l : a3 < b3
          · rw [if_pos l, if_pos (by omega)]
          · rw [if_neg l, if_neg (by omega), if_neg (by omega)]
      · rw [if_pos (by omega)]
        by_cases l : a2 < b2
        · rw [if_pos l, if_pos (by omega)]
        · rw [if_neg l, if_neg (by omega), if_neg (by omega)]
    · rw [if_pos (by omega)]
      by_cases l : a1 < b1
      · rw [if_pos l, if_pos (by omega)]
      · rw [if_neg l, if_neg (by omega), if_neg (by omega)]
  · rw [if_pos (by omega)]
    by_cases l : a0 < b0
    · rw [if_pos l, if_pos (by omega)]
    · rw [if_neg l, if_neg (by omega), if_neg (by omega)]
theorem keyLt_kn (v w : Val) : keyLt v.key w.key = decide (kn v < kn w) := by
  unfold keyLt
  rw [cmp_kn]
  by_cases h : kn v < kn w
  · rw [if_pos h]; simp [h]
  · rw [if_neg h]
    by_cases h2 : kn v = kn w
    · rw [if_pos h2]; simp [h2]
    · rw [if_neg h2]; simp [h]
theorem kn_key {v w : Val} : kn v = kn w ↔ v.key = w.key := by
  constructor
  · intro h
    obtain ⟨a0, a1, a2, a3, p⟩ := v
    obtain ⟨b0, b1, b2, b3, q⟩ := w
    rw [kn_eq, kn_eq] at h
    have h0 := a0.toNat_lt; have h1 := a1.toNat_lt; have h2 := a2.toNat_lt; have h3 := a3.toNat_lt
    have g0 := b0.toNat_lt; have g1 := b1.toNat_lt; have g2 := b2.toNat_lt; have g3 := b3.toNat_lt
    simp only at h
    have e0 : a0 = b0 := UInt8.toNat_inj.1 (by omega)
    have e1 : a1 = b1 := UInt8.toNat_inj.1 (by omega)
    have e2 : a2 = b2 := UInt8.toNat_inj.1 (by omega)
    have e3 : a3 = b3 := UInt8.toNat_inj.1 (by omega)
    subst e0 e1 e2 e3
    rfl
  · intro h
    rw [kn_eq, kn_eq]
    injection h with h0 h
    injection h with h1 h
    injection h with h2 h
    injection h with h3 _
    rw [h0, h1, h2, h3]
theorem steps_rise {least : Int} : ∀ {l : List Val} {o : Option Val}, stepsV least o l = 0 → (∀ x, o = some x → ∀ v ∈ l, kn x < kn v) ∧ l.Pairwise (fun a b => kn a < kn b)
  | [], _, _ => ⟨(fun _ _ v hv => (by cases hv)), List.Pairwise.nil⟩
  | v :: l, o, h => by
    have key : ∀ b : Bool, (if b = true then (9 : Int) else if v.p < least ∨ 4611686018427387904 < v.p then 3 else stepsV least (some v) l) = 0 → b = false ∧ stepsV least (some v) l = 0 := by
      intro b h
      by_cases hA : b = true
      · rw [if_pos hA] at h; cases h
      · rw [if_neg hA] at h
        by_cases hB : v.p < least ∨ 4611686018427387904 < v.p
        · rw [if_pos hB] at h; cases h
        · rw [if_neg hB] at h
          exact ⟨by simpa using hA, h⟩
    obtain ⟨h1, h2⟩ := key _ h
    obtain ⟨h3, h4⟩ := steps_rise h2
    have hv := h3 v rfl
    refine ⟨fun x hx w hw => ?_, .cons hv h4⟩
    subst hx
    have hxv : kn x < kn v := by
      have h1 : (!keyLt x.key v.key) = false := h1
      rw [keyLt_kn] at h1
      simpa using h1
    rcases List.mem_cons.1 hw with rfl | hw
    · exact hxv
    · have := hv w hw; omega
theorem rises {l : List Val} (h : checkV l = 0) {i j : Nat} (hij : i < j) (hj : j < l.length) : kn (l.getD i zVal) < kn (l.getD j zVal) := by
  obtain ⟨_, _, c3, _⟩ := checkV_ok h
  have hp := (steps_rise c3).2
  have := List.pairwise_iff_getElem.1 hp i j (by omega) hj hij
  simpa [List.getD, hj, show i < l.length by omega] using this
end Go.Proofs.Ytmfaepkmiceoeaa.A

namespace Go.Proofs.Ytmfaepkmiceoeaa.A
open Go Go.Vm
set_option maxRecDepth 10000
set_option linter.unusedVariables false
abbrev Val.kcells (v : Val) : List Value := [.int .u8 v.k0.toNat, .int .u8 v.k1.toNat, .int .u8 v.k2.toNat, .int .u8 v.k3.toNat]
theorem compare_ok {h : Heap} {v w : Val} : Runs Try.prog T0 (.fn fn_zwQ) [.agg ⟨v.cells⟩, .agg ⟨w.kcells⟩] h (fun r h' => r = .int .i64 (cmpB v.key w.key) ∧ Fr (fun _ => False) h h') (fun _ _ => False) := by
  refine zwQ_runs ?_
  refine stp ?_
  refine D.callX (Compare_ok (a := v.key) (b := w.key) (Rd.mk (n := 4) (by simp; omega) ?_) (Rd.mk (n := 4) (by simp) ?_)) (fun _ _ _ => rfl) (fun r h1 hr => ?_) (fun _ _ hx => hx.elim)
  · rw [cellsAt_of (c := v.cells) (by rw [Heap.get_push, if_neg (by simp), Heap.get_push, if_pos rfl]; rfl) (by simp)]
    rfl
  · rw [cellsAt_of (c := w.kcells) (by rw [Heap.get_push, if_pos rfl]; rfl) (by simp)]
    rfl
  obtain ⟨rfl, rfl⟩ := hr
  refine stp ?_
  exact ⟨rfl, Fr.refl.push.push⟩
theorem shr1 {P : Program} {ts : List Value} {h : Heap} {x y : Operand} {t t' ty : TypeId} {J : IntKind} {n : Nat} [e1 : Ev ts x (.int .u64 (n : Nat))] [e2 : Ev ts y (.int J 1)] : XOp P ts h (.bin .shr (so (.binOp .shr t x y t') ty) x y) (.int .u64 ((n / 2 : Nat) : Int)) h := by
  have := XOp.shr (P := P) (ts := ts) (h := h) (x := x) (y := y) (t := t) (t' := t') (ty := ty) (K := .u64) (J := J) (p := (n : Int)) (q := 1) (by omega)
  rw [show ((n : Int).fdiv (2 ^ (min (1 : Int).toNat IntKind.u64.bits))) = ((n / 2 : Nat) : Int) from by
    rw [show (2 : Int) ^ (min (1 : Int).toNat IntKind.u64.bits) = 2 from rfl, Int.fdiv_eq_ediv_of_nonneg _ (by omega)]
    omega] at this
  exact this
def atV (l : List Val) (w : Val) (i : Nat) : Prop := i ≤ l.length ∧ (∀ t, t < i → kn (l.getD t zVal) < kn w) ∧ ∀ t, i ≤ t → t < l.length → kn w ≤ kn (l.getD t zVal)
set_option maxHeartbeats 1000000 in
theorem Search_ok {h : Heap} {v : Value} {l : List Val} {w : Val} (hv : Rd h 5 v (vcells l) l.length) (hl : l.length < 1048576) (hup : ∀ i j, i < j → j < l.length → kn (l.getD i zVal) < kn (l.getD j zVal)) :
    Runs Try.prog T0 (.fn fn_zqQ) [v, .agg ⟨w.kcells⟩, .func (.func fn_zwQ) ⟨[]⟩ ⟨[]⟩] h
      (fun r h' => ∃ i, atV l w i ∧ r = .tuple ⟨[.int .i64 (i : Nat), .bool (decide (i < l.length ∧ kn (l.getD i zVal) = kn w))]⟩ ∧ Fr (fun _ => False) h h') (fun _ _ => False) := by
  obtain ⟨a, cap, rfl, hlen, hc⟩ := hv
  refine zqQ_runs ?_
  refine stp ?_
  refine zqQ_l0_rule (fun m v9 v10 h' => ∃ i j : Nat, i ≤ j ∧ j ≤ l.length ∧ m = j - i ∧ v9 = .int .i64 i ∧ v10 = .int .i64 j ∧ (∀ t, t < i → kn (l.getD t zVal) < kn w) ∧ (∀ t, j ≤ t → t < l.length → kn w ≤ kn (l.getD t zVal)) ∧ h'.get h.n = .cells w.kcells 0 ∧ h.n < h'.n ∧ Fr (fun _ => False) h h') ?_ l.length ⟨0, l.length, by omega, Nat.le_refl _, by omega, rfl, rfl, fun t ht => by omega, fun t h1 h2 => by omega, by rw [Heap.get_push, if_pos rfl], by simp, Fr.refl.push⟩
  rintro m v9 v10 h' x11 x15 x16 x17 x18 x19 x20 x21 x22 x23 x24 x25 x26 x27 x28 x29 x30 x31 x32 x33 x34 ⟨i, j, hij, hj, rfl, rfl, rfl, hlo, hhi, hg, hn, hf⟩
  haveI : HGet h' h.n _ := ⟨hg⟩
  haveI : BLt h.n h' := ⟨hn⟩
  refine stp ?_
  refine C.if (fun hlt => ?_) (fun hge => ?_)
  · have hlt : i < j := by omega
    refine stp ?_
    rw [show ((i : Nat) : Int) + ((j : Nat) : Int) = (((i + j : Nat)) : Int) from by omega]
    refine O.how shr1 ?_
    obtain ⟨md, hmd⟩ : ∃ md : Nat, md = (i + j) / 2 := ⟨_, rfl⟩
    rw [← hmd]
    have hm1 : i ≤ md := by omega
    have hm2 : md < j := by omega
    obtain ⟨b, o, sp, rfl, hb, hcc⟩ := hc (by omega)
    have hcc' : cellsAt h' b o (l.length * 5) = some (vcells l) := by rw [cellsAt_keep hf hb id]; exact hcc
    haveI := val_cells hcc' rfl (show md < l.length by omega)
    refine stp ?_
    refine D.callX (compare_ok (v := l.getD md zVal) (w := w)) (fun _ _ _ => rfl) (fun r h1 hr => ?_) (fun _ _ hx => hx.elim)
    obtain ⟨rfl, hf1⟩ := hr
    have n1 := hf1.n
    rw [cmp_kn]
    refine stp ?_
    refine C.if (fun hc1 => ?_) (fun hc1 => ?_)
    · have hkn : kn (l.getD md zVal) < kn w := by
        apply Classical.byContradiction
        intro hno
        rw [if_neg hno] at hc1
        split at hc1 <;> omega
      refine stp ?_
      refine zqQ_l0_again (j - (md + 1)) (by omega) ⟨md + 1, j, by omega, hj, rfl, rfl, rfl, fun t ht => ?_, hhi, by rw [hf1.get _ hn id, hg], by omega, hf.trans' hf1⟩
      rcases Nat.lt_or_ge t md with h2 | h2
      · have := hup t md h2 (by omega); omega
      · obtain rfl : t = md := by omega
        exact hkn
    · have hkn : kn w ≤ kn (l.getD md zVal) := by
        apply Classical.byContradiction
        intro hno
        rw [if_pos (by omega)] at hc1
        omega
      refine stp ?_
      refine zqQ_l0_again (md - i) (by omega) ⟨i, md, by omega, by omega, rfl, rfl, rfl, hlo, fun t h1 h2 => ?_, by rw [hf1.get _ hn id, hg], by omega, hf.trans' hf1⟩
      rcases Nat.lt_or_ge md t with h3 | h3
      · have := hup md t h3 h2; omega
      · obtain rfl : t = md := by omega
        exact hkn
  · obtain rfl : i = j := by omega
    refine stp ?_
    refine D.dec (fun hin => ?_) (fun hout => ?_)
    · have hin : i < l.length := by omega
      obtain ⟨b, o, sp, rfl, hb, hcc⟩ := hc (by omega)
      have hcc' : cellsAt h' b o (l.length * 5) = some (vcells l) := by rw [cellsAt_keep hf hb id]; exact hcc
      haveI := val_cells hcc' rfl hin
      refine stp ?_
      refine D.howT (XOp.mkIndexSl (by omega)) rfl ?_
      refine stp ?_
      refine D.callT (compare_ok (v := l.getD i zVal) (w := w)) (fun _ _ _ => ?_) (fun r h1 hr => ?_)
      · exact StabL.ok
      obtain ⟨rfl, hf1⟩ := hr
      rw [cmp_kn]
      refine stp ?_
      refine ⟨i, ⟨hj, hlo, hhi⟩, ?_, hf.trans' hf1⟩
      have hd : decide ((if kn (l.getD i zVal) < kn w then (-1 : Int) else if kn (l.getD i zVal) = kn w then 0 else 1) = 0) = decide (i < l.length ∧ kn (l.getD i zVal) = kn w) := by
        refine decide_eq_decide.2 ⟨fun h => ⟨hin, ?_⟩, fun h => ?_⟩
        · apply Classical.byContradiction
          intro hno
          rw [if_neg hno] at h
          split at h <;> omega
        · rw [if_neg (by omega), if_pos h.2]
      rw [← hd]
    · refine stp ?_
      refine D.skT ?_ ?_
      · exact StabL.ok
      refine stp ?_
      refine ⟨i, ⟨hj, hlo, hhi⟩, ?_, hf⟩
      rw [decide_eq_false (fun h => hout (by omega))]
end Go.Proofs.Ytmfaepkmiceoeaa.A

namespace Go.Proofs.Ytmfaepkmiceoeaa.A
open Go Go.Vm
set_option maxRecDepth 10000
set_option linter.unusedVariables false
theorem same_key {v w : Val} : same v.kcells w.kcells = decide (kn v = kn w) := by
  by_cases h : kn v = kn w
  · rw [decide_eq_true h]
    have hk := kn_key.1 h
    have : v.kcells = w.kcells := congrArg bcells hk
    rw [this]
    exact same_self _
  · rw [decide_eq_false h]
    refine same_ne.2 fun h2 => h (kn_key.2 ?_)
    have h2 : bcells v.key = bcells w.key := h2
    have := congrArg bytesOf h2
    rw [bytesOf_bcells, bytesOf_bcells] at this
    injection this
def findN (l : List Val) (w : Val) : Option Nat := l.findIdx? fun v => decide (kn v = kn w)
def findA (l : List Val) (w : Val) : Nat := (findN l w).getD 0
theorem findN_some {l : List Val} {w : Val} {i : Nat} (hi : i < l.length) (h : kn (l.getD i zVal) = kn w) (hf : ∀ t, t < i → kn (l.getD t zVal) ≠ kn w) : findN l w = some i := by
  unfold findN
  rw [List.findIdx?_eq_some_iff_getElem]
  refine ⟨hi, by simpa [List.getD, hi] using h, fun t ht => ?_⟩
  have := hf t ht
  simpa [List.getD, show t < l.length by omega] using this
theorem findN_none {l : List Val} {w : Val} (hf : ∀ t, t < l.length → kn (l.getD t zVal) ≠ kn w) : findN l w = none := by
  unfold findN
  rw [List.findIdx?_eq_none_iff]
  intro v hv
  obtain ⟨t, ht, rfl⟩ := List.getElem_of_mem hv
  have := hf t ht
  simpa [List.getD, ht] using this
theorem Find1_ok {h : Heap} {q : Nat} {v w : Val} (hg : h.get q = .cells w.kcells 0) (hq : q < h.n) : Runs Try.prog T0 (.fn fn_zvQ) [.agg ⟨v.cells⟩, .pointer (some ⟨q, 0, none⟩)] h (fun r h' => r = .bool (decide (kn v = kn w)) ∧ Fr (fun _ => False) h h') (fun _ _ => False) := by
  haveI : HGet h q _ := ⟨hg⟩
  haveI : BLt q h := ⟨hq⟩
  refine zvQ_runs ?_
  refine stp ?_
  rw [← same_key]
  exact ⟨rfl, Fr.refl.push⟩
theorem IndexFunc_ok {h : Heap} {q : Nat} {v : Value} {l : List Val} {w : Val} (hv : Rd h 5 v (vcells l) l.length) (hl : l.length < 1048576) (hg : h.get q = .cells w.kcells 0) (hq : q < h.n) :
    Runs Try.prog T0 (.fn fn_zrQ) [v, .func (.func fn_zvQ) ⟨[]⟩ ⟨[.pointer (some ⟨q, 0, none⟩)]⟩] h
      (fun r h' => r = .int .i64 (match findN l w with | some i => ((i : Nat) : Int) | none => -1) ∧ Fr (fun _ => False) h h') (fun _ _ => False) := by
  obtain ⟨a, cap, rfl, hlen, hc⟩ := hv
  refine zrQ_runs ?_
  refine stp ?_
  refine zrQ_l0_rule (fun m v8 h' => ∃ k : Nat, k ≤ l.length ∧ m = l.length - k ∧ v8 = .int .i64 k ∧ (∀ t, t < k → kn (l.getD t zVal) ≠ kn w) ∧ Fr (fun _ => False) h h') ?_ l.length ⟨0, by omega, rfl, rfl, fun t ht => by omega, Fr.refl⟩
  rintro m v8 h' x4 x5 x9 x10 x11 x12 x13 x14 x15 x16 x17 x18 ⟨k, hk, rfl, rfl, hno, hf⟩
  refine stp ?_
  refine C.if (fun hlt => ?_) (fun hge => ?_)
  · have hlt : k < l.length := by omega
    obtain ⟨b, o, sp, rfl, hb, hcc⟩ := hc (by omega)
    have hcc' : cellsAt h' b o (l.length * 5) = some (vcells l) := by rw [cellsAt_keep hf hb id]; exact hcc
    haveI := val_cells hcc' rfl hlt
    have n' := hf.n
    refine stp ?_
    refine O.call' (Find1_ok (v := l.getD k zVal) (w := w) (by rw [hf.get _ hq id, hg]) (by omega)) (fun r h1 hr => ?_)
    obtain ⟨rfl, hf1⟩ := hr
    refine stp ?_
    refine C.if (fun hy => ?_) (fun hn => ?_)
    · refine stp ?_
      rw [findN_some hlt hy hno]
      exact ⟨rfl, hf.trans' hf1⟩
    · refine stp ?_
      refine zrQ_l0_again (l.length - (k + 1)) (by omega) ⟨k + 1, by omega, rfl, rfl, fun t ht => ?_, hf.trans' hf1⟩
      rcases Nat.lt_or_ge t k with h2 | h2
      · exact hno t h2
      · obtain rfl : t = k := by omega
        exact hn
  · obtain rfl : k = l.length := by omega
    refine stp ?_
    rw [findN_none hno]
    exact ⟨rfl, hf⟩
theorem Find_ok {h : Heap} {v : Value} {l : List Val} {w : Val} (hv : Rd h 5 v (vcells l) l.length) (hl : l.length < 1048576) :
    Runs Try.prog T0 (.fn fn_zuQ) [v, .agg ⟨w.kcells⟩] h (fun r h' => r = .tuple ⟨[.int .i64 (findA l w : Nat), .bool (findN l w).isSome]⟩ ∧ Fr (fun _ => False) h h') (fun _ _ => False) := by
  have hv0 := hv
  obtain ⟨a, cap, rfl, hlen, _⟩ := hv
  refine zuQ_runs ?_
  refine stp ?_
  have f0 : Fr (fun _ => False) h (h.push (.cells w.kcells 0)) := Fr.refl.push
  have g0 : HGet (h.push (.cells w.kcells 0)) h.n (.cells w.kcells 0) := HGet.new
  have n0 : (h.push (.cells w.kcells 0)).n = h.n + 1 := rfl
  generalize h.push (.cells w.kcells 0) = h0 at *
  refine O.call' (VCheck_ok (hv0.keep f0 fun _ _ => id)) (fun r h1 hr => ?_)
  obtain ⟨rfl, hf1⟩ := hr
  have n1 := hf1.n
  have g1 := hf1.keep g0 (by omega) id
  have f1 := f0.trans' hf1
  haveI := g1
  refine stp ?_
  refine C.if (fun hz => ?_) (fun hz => ?_)
  · refine stp ?_
    refine O.call' (Search_ok (w := w) (hv0.keep f1 fun _ _ => id) hl (fun i j hij hj => rises hz hij hj)) (fun r h2 hr => ?_)
    obtain ⟨i, ⟨hi, hlo, hhi⟩, rfl, hf2⟩ := hr
    refine stp ?_
    by_cases hy : i < l.length ∧ kn (l.getD i zVal) = kn w
    · rw [decide_eq_true hy]
      refine stp ?_
      have hs := findN_some hy.1 hy.2 fun t ht => by have := hlo t ht; omega
      unfold findA
      rw [hs]
      exact ⟨rfl, f1.trans' hf2⟩
    · rw [decide_eq_false hy]
      refine stp ?_
      have hs : findN l w = none := findN_none fun t ht => by
        rcases Nat.lt_or_ge t i with h2 | h2
        · have := hlo t h2; omega
        · rcases Nat.lt_or_ge i t with h3 | h3
          · have h4 := rises hz h3 ht
            have h5 := hhi i (Nat.le_refl _) (by omega)
            omega
          · obtain rfl : t = i := by omega
            exact fun h => hy ⟨ht, h⟩
      unfold findA
      rw [hs]
      exact ⟨rfl, f1.trans' hf2⟩
  · refine stp ?_
    refine O.call' (IndexFunc_ok (w := w) (hv0.keep f1 fun _ _ => id) hl g1.eq (by omega)) (fun r h2 hr => ?_)
    obtain ⟨rfl, hf2⟩ := hr
    unfold findA
    cases hs : findN l w with
    | none =>
      refine stp ?_
      exact ⟨rfl, f1.trans' hf2⟩
    | some i =>
      refine stp ?_
      refine ⟨?_, f1.trans' hf2⟩
      have e1 : (if (0 : Int) > ((i : Nat) : Int) then (0 : Int) else ((i : Nat) : Int)) = ((i : Nat) : Int) := if_neg (by omega)
      have e2 : decide ((0 : Int) ≤ ((i : Nat) : Int)) = true := decide_eq_true (by omega)
      show Value.tuple ⟨[.int .i64 (if (0 : Int) > ((i : Nat) : Int) then (0 : Int) else ((i : Nat) : Int)), .bool (decide ((0 : Int) ≤ ((i : Nat) : Int)))]⟩ = _
      rw [e1, e2]
      rfl
end Go.Proofs.Ytmfaepkmiceoeaa.A

namespace Go.Proofs.Ytmfaepkmiceoeaa.A
open Go Go.Vm
set_option maxRecDepth 10000
set_option linter.unusedVariables false
end Go.Proofs.Ytmfaepkmiceoeaa.A

namespace Go.Proofs.Ytmfaepkmiceoeaa.A
open Go Go.Vm
set_option maxRecDepth 10000
set_option linter.unusedVariables false
theorem SameVals_same {h : Heap} {v w : Value} {l : List Val} (hv : Rd h 5 v (vcells l) l.length) (hw : Rd h 5 w (vcells l) l.length) (hs : l.length < 1048576) :
    Runs Try.prog T0 (.fn fn_zeQ) [v, w] h (fun r h' => r = .bool true ∧ h' = h) (fun _ _ => False) := by
  obtain ⟨a, cap, rfl, hlen, hc⟩ := hv
  obtain ⟨a', cap', rfl, hlen', hc'⟩ := hw
  refine zeQ_runs ?_
  refine stpP ?_
  refine zeQ_l0_rule (fun m v5 v6 h' => ∃ k : Nat, k ≤ l.length ∧ m = l.length - k ∧ v6 = .int .i64 k ∧ v5 = .bool true ∧ h' = h) ?_ l.length ⟨0, by omega, rfl, rfl, by simp, rfl⟩
  rintro m v5 v6 h' x12 x13 x14 x15 x16 x17 x18 x19 x20 x21 x22 x23 x24 x25 x26 x27 x28 x29 ⟨k, hk, rfl, rfl, rfl, rfl⟩
  refine stpP ?_
  refine C.if (fun hlt => ?_) (fun hge => ?_)
  · have hlt : k < l.length := by omega
    obtain ⟨b, o, sp, rfl, hb, hcc⟩ := hc (by omega)
    obtain ⟨b', o', sp', rfl, hb', hcc'⟩ := hc' (by omega)
    haveI := val_cells hcc rfl hlt
    haveI := val_cells hcc' rfl hlt
    refine stpP ?_
    rw [same_self]
    exact zeQ_l0_again (l.length - (k + 1)) (by omega) ⟨k + 1, by omega, rfl, rfl, rfl, rfl⟩
  · refine stpP ?_
    exact ⟨rfl, rfl⟩
theorem Rd.block_lt {h : Heap} {size n : Nat} {v : Value} {c : List Value} (hv : Rd h size v c n) {i : Nat} (hi : blockOf v i) : i < h.n := by
  obtain ⟨a, cap, rfl, _, hc⟩ := hv
  cases a with
  | none => exact hi.elim
  | some a =>
    obtain ⟨h1, h2⟩ := hi
    obtain ⟨b, o, sp, e, hb, _⟩ := hc h2
    cases e
    subst h1
    exact hb
end Go.Proofs.Ytmfaepkmiceoeaa.A

namespace Go.Proofs.Ytmfaepkmiceoeaa.A
open Go Go.Vm
set_option maxRecDepth 10000
set_option linter.unusedVariables false
theorem one_val {h : Heap} {c : List Value} {es : Nat} (hc : c.length = 5) : newCells (h.push (.cells c es)) 5 [.int .u8 0, .int .u8 0, .int .u8 0, .int .u8 0, .int .i64 0] false (.slice (some ⟨h.n, 0, none⟩) 1 1) = some (1, c) :=
  (Rd.mk (size := 5) (n := 1) (cap := 1) (sp := none) (o := 0) (b := h.n) (c := c) (by simp) (by rw [cellsAt_of (c := c) (by rw [Heap.get_push, if_pos rfl]; rfl) (by omega), List.drop_zero, List.take_of_length_le (by omega)])).new _
end Go.Proofs.Ytmfaepkmiceoeaa.A

namespace Go.Proofs.Ytmfaepkmiceoeaa.A
open Go Go.Vm
set_option maxRecDepth 10000
set_option linter.unusedVariables false
def chgS (c : Val) : Bool → List Val → List Val
  | put, [] => if put then [] else [c]
  | put, v :: l => (if !put && decide (kn c < kn v) then [c] else []) ++ ((if kn v = kn c then [] else [v]) ++ chgS c (put || decide (kn c < kn v)) l)
def keepS (c v : Val) : List Val := if kn v = kn c then [] else [v]
theorem keepS_same {c v : Val} (h : kn v = kn c) : keepS c v = [] := if_pos h
theorem keepS_other {c v : Val} (h : ¬ kn v = kn c) : keepS c v = [v] := if_neg h
end Go.Proofs.Ytmfaepkmiceoeaa.A

namespace Go.Proofs.Ytmfaepkmiceoeaa.A
open Go Go.Vm
set_option maxRecDepth 10000
set_option linter.unusedVariables false
theorem chgS_cons (c v : Val) (put : Bool) (l : List Val) : chgS c put (v :: l) = (if !put && decide (kn c < kn v) then [c] else []) ++ (keepS c v ++ chgS c (put || decide (kn c < kn v)) l) := by
  unfold keepS
  rw [chgS]
theorem chgS_low {c : Val} {put : Bool} : ∀ {A l : List Val}, (∀ v ∈ A, kn v < kn c) → chgS c put (A ++ l) = A ++ chgS c put l
  | [], l, _ => by rw [List.nil_append, List.nil_append]
  | v :: A, l, h => by
    have hv := h v (by simp)
    rw [List.cons_append, chgS_cons, keepS_other (by omega), decide_eq_false (by omega), Bool.and_false, Bool.or_false, if_neg Bool.false_ne_true, List.nil_append, chgS_low (A := A) fun w hw => h w (by simp [hw]), List.singleton_append, List.cons_append]
theorem chgS_up {c : Val} : ∀ {l : List Val}, (∀ v ∈ l, kn c < kn v) → chgS c true l = l
  | [], _ => rfl
  | v :: l, h => by
    have hv := h v (by simp)
    rw [chgS_cons, keepS_other (by omega), Bool.not_true, Bool.false_and, Bool.true_or, if_neg Bool.false_ne_true, List.nil_append, chgS_up fun w hw => h w (by simp [hw]), List.singleton_append]
theorem chgS_high {c : Val} {put : Bool} : ∀ {l : List Val}, (∀ v ∈ l, kn c < kn v) → chgS c put l = (if put then [] else [c]) ++ l
  | [], _ => by rw [chgS, List.append_nil]
  | v :: l, h => by
    have hv := h v (by simp)
    have hl : ∀ w ∈ l, kn c < kn w := fun w hw => h w (by simp [hw])
    rw [chgS_cons, keepS_other (by omega), decide_eq_true hv, Bool.or_true, chgS_up hl, List.singleton_append]
    cases put
    · rw [Bool.not_false, Bool.true_and, if_pos rfl, if_neg Bool.false_ne_true]
    · rw [Bool.not_true, Bool.false_and, if_neg Bool.false_ne_true, if_pos rfl]
theorem chgS_head {c v : Val} {put : Bool} {l : List Val} (hv : kn v = kn c) (h : ∀ w ∈ l, kn c < kn w) : chgS c put (v :: l) = (if put then [] else [c]) ++ l := by
  rw [chgS_cons, keepS_same hv, decide_eq_false (by omega), Bool.and_false, Bool.or_false, if_neg Bool.false_ne_true, List.nil_append, List.nil_append, chgS_high h]
def allS (l cs : List Val) : List Val := cs.foldl (fun o c => chgS c (decide (c.p = 0)) o) l
theorem allS_low : ∀ {cs A l : List Val}, (∀ c ∈ cs, ∀ v ∈ A, kn v < kn c) → allS (A ++ l) cs = A ++ allS l cs
  | [], A, l, _ => rfl
  | c :: cs, A, l, h => by
    show allS (chgS c (decide (c.p = 0)) (A ++ l)) cs = A ++ allS (chgS c (decide (c.p = 0)) l) cs
    rw [chgS_low (h c (by simp)), allS_low fun d hd => h d (by simp [hd])]
end Go.Proofs.Ytmfaepkmiceoeaa.A

namespace Go.Proofs.Ytmfaepkmiceoeaa.A
open Go Go.Vm
set_option maxRecDepth 10000
set_option linter.unusedVariables false
def skipS (c : Val) : List Val → List Val
  | [] => []
  | v :: l => if kn v = kn c then l else v :: l
def belowS (c v : Val) : Bool := decide (kn v < kn c)
def mergeS : List Val → List Val → List Val
  | l, [] => l
  | l, c :: cs => l.takeWhile (belowS c) ++ c :: mergeS (skipS c (l.dropWhile (belowS c))) cs
def powS (v : Val) : Bool := decide (0 < v.p)
theorem take_below {c : Val} : ∀ {l : List Val}, ∀ v ∈ l.takeWhile (belowS c), kn v < kn c
  | [], v, h => by simp at h
  | w :: l, v, h => by
    rw [List.takeWhile_cons] at h
    by_cases hw : belowS c w = true
    · rw [if_pos hw] at h
      rcases List.mem_cons.1 h with rfl | h
      · exact of_decide_eq_true hw
      · exact take_below v h
    · rw [if_neg hw] at h
      simp at h
theorem drop_above {c : Val} : ∀ {l : List Val}, l.Pairwise (fun a b => kn a < kn b) → ∀ v ∈ l.dropWhile (belowS c), ¬ kn v < kn c
  | [], _, v, h => by simp at h
  | w :: l, hp, v, h => by
    rw [List.dropWhile_cons] at h
    by_cases hw : belowS c w = true
    · rw [if_pos hw] at h
      exact drop_above hp.of_cons v h
    · rw [if_neg hw] at h
      have hw : ¬ kn w < kn c := fun h2 => hw (decide_eq_true h2)
      rcases List.mem_cons.1 h with rfl | h
      · exact hw
      · have := (List.pairwise_cons.1 hp).1 v h
        omega
theorem chgS_from {c : Val} {put : Bool} {l : List Val} (hp : l.Pairwise (fun a b => kn a < kn b)) (h : ∀ v ∈ l, ¬ kn v < kn c) : chgS c put l = (if put then [] else [c]) ++ skipS c l := by
  cases l with
  | nil => rw [chgS, skipS, List.append_nil]
  | cons v l =>
    have hv := h v (by simp)
    have ht := (List.pairwise_cons.1 hp).1
    by_cases he : kn v = kn c
    · rw [chgS_head he fun w hw => by have := ht w hw; omega, skipS, if_pos he]
    · rw [chgS_high fun w hw => ?_, skipS, if_neg he]
      rcases List.mem_cons.1 hw with rfl | hw
      · omega
      · have := ht w hw; omega
theorem skipS_sub (c : Val) (l : List Val) : (skipS c l).Sublist l := by
  cases l with
  | nil => exact List.Sublist.refl _
  | cons v l =>
    rw [skipS]
    split
    · exact List.sublist_cons_self _ _
    · exact List.Sublist.refl _
theorem allS_merge : ∀ {cs l : List Val}, l.Pairwise (fun a b => kn a < kn b) → cs.Pairwise (fun a b => kn a < kn b) → (∀ v ∈ l, 1 ≤ v.p) → (∀ c ∈ cs, 0 ≤ c.p) → allS l cs = (mergeS l cs).filter powS
  | [], l, _, _, h1, _ => by
    show l = l.filter powS
    rw [List.filter_eq_self.2]
    intro v hv
    have := h1 v hv
    exact decide_eq_true (by omega)
  | c :: cs, l, hl, hc, h1, h2 => by
    have hA : ∀ v ∈ l.takeWhile (belowS c), kn v < kn c := take_below
    have hcs := (List.pairwise_cons.1 hc).1
    have hsub := (skipS_sub c (l.dropWhile (belowS c))).trans (List.dropWhile_sublist (belowS c))
    have hc0 := h2 c (by simp)
    have ih := allS_merge (cs := cs) (l := skipS c (l.dropWhile (belowS c))) (hl.sublist hsub) hc.of_cons (fun v hv => h1 v (hsub.subset hv)) (fun d hd => h2 d (by simp [hd]))
    rw [mergeS, List.filter_append, List.filter_cons, ← ih]
    have hpow : ∀ v ∈ l.takeWhile (belowS c), powS v = true := fun v hv => by
      have := h1 v ((List.takeWhile_sublist _).subset hv)
      exact decide_eq_true (by omega)
    rw [List.filter_eq_self.2 hpow]
    show allS (chgS c (decide (c.p = 0)) l) cs = _
    conv => lhs; rw [← List.takeWhile_append_dropWhile (p := belowS c) (l := l)]
    rw [chgS_low hA, allS_low fun d hd v hv => by have := hcs d hd; have := hA v hv; omega]
    rw [chgS_from (hl.sublist (List.dropWhile_sublist _)) (drop_above hl)]
    congr 1
    by_cases h0 : c.p = 0
    · rw [decide_eq_true h0, if_pos rfl, List.nil_append, if_neg (by unfold powS; rw [decide_eq_false (by omega)]; exact Bool.false_ne_true)]
    · rw [decide_eq_false h0, if_neg Bool.false_ne_true, if_pos (by unfold powS; exact decide_eq_true (by omega))]
      exact allS_low fun d hd v hv => by
        obtain rfl := List.mem_singleton.1 hv
        exact hcs d hd
end Go.Proofs.Ytmfaepkmiceoeaa.A

namespace Go.Proofs.Ytmfaepkmiceoeaa.A
open Go Go.Vm
set_option maxRecDepth 10000
set_option linter.unusedVariables false
def chkC (l : List Val) : Option Val → List Val → Int
  | _, [] => 0
  | last, c :: cs => if (match last with | none => false | some x => !keyLt x.key c.key) = true then 9 else if c.p < 0 ∨ 4611686018427387904 < c.p then 3 else if c.p = 0 ∧ (findN l c).isSome = false then 10 else chkC l (some c) cs
theorem chkC_at {l cs : List Val} {k : Nat} (hk : k < cs.length) : chkC l (lastV cs k) (cs.drop k) =
    if (match lastV cs k with | none => false | some x => !keyLt x.key (cs.getD k zVal).key) = true then 9 else if (cs.getD k zVal).p < 0 ∨ 4611686018427387904 < (cs.getD k zVal).p then 3 else if (cs.getD k zVal).p = 0 ∧ (findN l (cs.getD k zVal)).isSome = false then 10 else chkC l (lastV cs (k + 1)) (cs.drop (k + 1)) := by
  rw [drop_getD hk]
  rfl
theorem chkC_atS {l cs : List Val} {k : Nat} {x : Val} (hk : k < cs.length) (hx : 0 < k → lastV cs k = some x) :
    chkC l (lastV cs k) (cs.drop k) = if atS x (decide (0 < k)) 0 4611686018427387904 (cs.getD k zVal) = 0 then (if (cs.getD k zVal).p = 0 ∧ (findN l (cs.getD k zVal)).isSome = false then 10 else chkC l (lastV cs (k + 1)) (cs.drop (k + 1))) else atS x (decide (0 < k)) 0 4611686018427387904 (cs.getD k zVal) := by
  rw [chkC_at hk]
  by_cases h0 : 0 < k
  · rw [hx h0]
    unfold atS
    simp only [decide_eq_true h0, Bool.true_and]
    split
    · rfl
    · split
      · rfl
      · rfl
  · obtain rfl : k = 0 := by omega
    unfold atS
    simp only [lastV, if_true, Nat.lt_irrefl, decide_false, Bool.false_and, Bool.false_eq_true, if_false]
    split
    · rfl
    · rfl
def changeS (l cs : List Val) : Int × List Val :=
  if checkV l ≠ 0 then (checkV l, []) else if chkC l none cs ≠ 0 then (chkC l none cs, []) else if (allS l cs).length = 0 then (6, []) else if 64 < (allS l cs).length then (7, []) else (0, allS l cs)
theorem chgS_len (c : Val) : ∀ (put : Bool) (l : List Val), (chgS c put l).length ≤ l.length + (if put then 0 else 1)
  | true, [] => by simp [chgS]
  | false, [] => by simp [chgS]
  | put, v :: l => by
    have ih := chgS_len c (put || decide (kn c < kn v)) l
    rw [chgS_cons]
    simp only [List.length_append, List.length_cons]
    have hk : (keepS c v).length ≤ 1 := by
      unfold keepS; split <;> simp
    cases put with
    | true => simp at ih ⊢; omega
    | false =>
      by_cases h : kn c < kn v
      · simp [h] at ih ⊢; omega
      · simp [h] at ih ⊢; omega
end Go.Proofs.Ytmfaepkmiceoeaa.A
