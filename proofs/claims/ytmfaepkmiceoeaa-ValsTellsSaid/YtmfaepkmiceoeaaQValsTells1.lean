/- Contracts of functions, over the machine. -/
import Derived.Test.YtmfaepkmiceoeaaRows
import Derived.Test.YtmfaepkmiceoeaaVJ
namespace Go.Vm
abbrev U : Value := undef
abbrev tm (n : Nat) : Operand := .tmp n
abbrev k0 : Operand := .const (.int .i64 0)
abbrev o1 (d : Nat) (x : AOp) : AOper := ⟨some d, x, none, [], false⟩
abbrev o2 (d : Nat) (x : AOp) : AOper := ⟨some d, x, none, [], true⟩
abbrev o3 (x : AOp) : AOper := ⟨none, x, none, [], false⟩
abbrev o4 (d : Nat) (x : AOp) (t : Nat) : AOper := ⟨some d, x, some (t, true), [], false⟩
abbrev o5 (d : Nat) (x : AOp) (t : Nat) : AOper := ⟨some d, x, some (t, false), [], false⟩
end Go.Vm
noncomputable section
set_option maxRecDepth 100000
set_option linter.unusedVariables false
namespace Go.Proofs.Ytmfaepkmiceoeaa.A
open Go Go.Vm
instance : IsIface Try.prog 20 := ⟨by kernel_rfl⟩
abbrev prims : List FuncId := [9]
abbrev kepts : List FuncId := []
def T0 : Table := withKept (withTrue Try.prog prims) kepts
theorem ztQ_known {h : Heap} : Runs Try.prog T0 (.fn 9) [] h (fun r h' => r = .bool true ∧ h' = h) (fun _ _ => False) := known_runs rfl
instance : IsBoolT Try.prog 4 := ⟨by kernel_rfl⟩
instance : TLeaves Try.prog 7 (.i .i64 :: (.i .i64 :: (.b :: (.i .u8 :: [])))) := ⟨by kernel_rfl, by kernel_rfl, by kernel_rfl⟩
instance : TLeaves Try.prog 8 (.i .i64 :: (.i .i64 :: (.b :: (.i .u8 :: [])))) := ⟨by kernel_rfl, by kernel_rfl, by kernel_rfl⟩
instance : TLeaves Try.prog 27 (.i .i64 :: (.i .i64 :: [])) := ⟨by kernel_rfl, by kernel_rfl, by kernel_rfl⟩
instance : TLeaves Try.prog 28 (.i .i64 :: (.i .i64 :: [])) := ⟨by kernel_rfl, by kernel_rfl, by kernel_rfl⟩
instance : TLeaves Try.prog 41 (u8s 4) := ⟨by kernel_rfl, by kernel_rfl, by kernel_rfl⟩
instance : TLeaves Try.prog 42 (u8s 4) := ⟨by kernel_rfl, by kernel_rfl, by kernel_rfl⟩
instance : TLeaves Try.prog 51 (.i .u64 :: (.i .u64 :: [])) := ⟨by kernel_rfl, by kernel_rfl, by kernel_rfl⟩
instance : TLeaves Try.prog 52 (.i .u64 :: (.i .u64 :: [])) := ⟨by kernel_rfl, by kernel_rfl, by kernel_rfl⟩
instance : TLeaves Try.prog 53 (u8s 4 ++ (.i .i64 :: [])) := ⟨by kernel_rfl, by kernel_rfl, by kernel_rfl⟩
instance : TLeaves Try.prog 54 (u8s 4 ++ (.i .i64 :: [])) := ⟨by kernel_rfl, by kernel_rfl, by kernel_rfl⟩
instance : TLeaves Try.prog 62 (u8s 32) := ⟨by kernel_rfl, by kernel_rfl, by kernel_rfl⟩
instance : TLeaves Try.prog 63 (u8s 32) := ⟨by kernel_rfl, by kernel_rfl, by kernel_rfl⟩
instance : TLeaves Try.prog 75 (u8s 4 ++ (.b :: (.i .i64 :: (.i .i64 :: [])))) := ⟨by kernel_rfl, by kernel_rfl, by kernel_rfl⟩
instance : TLeaves Try.prog 76 (u8s 4 ++ (.b :: (.i .i64 :: (.i .i64 :: [])))) := ⟨by kernel_rfl, by kernel_rfl, by kernel_rfl⟩
instance : TLeaves Try.prog 94 (.i .u64 :: (.i .u64 :: (.i .u64 :: []))) := ⟨by kernel_rfl, by kernel_rfl, by kernel_rfl⟩
instance : TLeaves Try.prog 95 (.i .u64 :: (.i .u64 :: (.i .u64 :: []))) := ⟨by kernel_rfl, by kernel_rfl, by kernel_rfl⟩
instance : TLeaves Try.prog 132 (.i .u32 :: (.i .u32 :: (.i .u32 :: (.i .u32 :: (.i .u32 :: (.i .u32 :: (.i .u32 :: (.i .u32 :: [])))))))) := ⟨by kernel_rfl, by kernel_rfl, by kernel_rfl⟩
instance : TLeaves Try.prog 140 (u8s 4 ++ (u8s 4 ++ (.i .u8 :: []))) := ⟨by kernel_rfl, by kernel_rfl, by kernel_rfl⟩
instance : TLeaves Try.prog 143 (.i .u32 :: (.i .u32 :: (.i .u32 :: (.i .u32 :: (.i .u32 :: (.i .u32 :: (.i .u32 :: (.i .u32 :: [])))))))) := ⟨by kernel_rfl, by kernel_rfl, by kernel_rfl⟩
instance : TLeaves Try.prog 146 (.i .i64 :: []) := ⟨by kernel_rfl, by kernel_rfl, by kernel_rfl⟩
instance : TLeaves Try.prog 147 (.i .i64 :: []) := ⟨by kernel_rfl, by kernel_rfl, by kernel_rfl⟩
instance : TLeaves Try.prog 152 (.i .u32 :: (.i .u32 :: (.i .u32 :: (.i .u32 :: (.i .u32 :: (.i .u32 :: (.i .u32 :: (.i .u32 :: (.i .u32 :: (.i .u32 :: (.i .u32 :: (.i .u32 :: (.i .u32 :: (.i .u32 :: (.i .u32 :: (.i .u32 :: [])))))))))))))))) := ⟨by kernel_rfl, by kernel_rfl, by kernel_rfl⟩
instance : TLeaves Try.prog 153 (.i .i64 :: (.i .i64 :: (.i .i64 :: (.i .i64 :: (.i .i64 :: (.i .i64 :: (.i .i64 :: (.i .i64 :: (.i .i64 :: (.i .i64 :: (.i .i64 :: (.i .i64 :: (.i .i64 :: (.i .i64 :: (.i .i64 :: (.i .i64 :: [])))))))))))))))) := ⟨by kernel_rfl, by kernel_rfl, by kernel_rfl⟩
instance : TLeaves Try.prog 156 (.i .i64 :: (.i .i64 :: [])) := ⟨by kernel_rfl, by kernel_rfl, by kernel_rfl⟩
instance : TLeaves Try.prog 157 (.i .i64 :: (.i .i64 :: [])) := ⟨by kernel_rfl, by kernel_rfl, by kernel_rfl⟩
instance : TLeaves Try.prog 167 (.i .i64 :: (.i .i64 :: (.i .i64 :: (.i .i64 :: (.i .i64 :: (.i .i64 :: (.i .i64 :: (.i .i64 :: (.i .i64 :: (.i .i64 :: (.i .i64 :: (.i .i64 :: (.i .i64 :: (.i .i64 :: (.i .i64 :: (.i .i64 :: (.i .i64 :: (.i .i64 :: (.i .i64 :: (.i .i64 :: (.i .i64 :: (.i .i64 :: (.i .i64 :: (.i .i64 :: (.i .i64 :: (.i .i64 :: (.i .i64 :: (.i .i64 :: (.i .i64 :: (.i .i64 :: (.i .i64 :: (.i .i64 :: (.i .i64 :: (.i .i64 :: (.i .i64 :: (.i .i64 :: (.i .i64 :: (.i .i64 :: (.i .i64 :: (.i .i64 :: (.i .i64 :: (.i .i64 :: (.i .i64 :: (.i .i64 :: (.i .i64 :: (.i .i64 :: (.i .i64 :: (.i .i64 :: (.i .i64 :: (.i .i64 :: (.i .i64 :: (.i .i64 :: (.i .i64 :: (.i .i64 :: (.i .i64 :: (.i .i64 :: (.i .i64 :: (.i .i64 :: (.i .i64 :: (.i .i64 :: (.i .i64 :: (.i .i64 :: (.i .i64 :: (.i .i64 :: (.i .i64 :: (.i .i64 :: (.i .i64 :: (.i .i64 :: (.i .i64 :: (.i .i64 :: (.i .i64 :: (.i .i64 :: (.i .i64 :: (.i .i64 :: (.i .i64 :: (.i .i64 :: (.i .i64 :: (.i .i64 :: (.i .i64 :: (.i .i64 :: (.i .i64 :: (.i .i64 :: (.i .i64 :: (.i .i64 :: (.i .i64 :: (.i .i64 :: (.i .i64 :: (.i .i64 :: (.i .i64 :: (.i .i64 :: (.i .i64 :: (.i .i64 :: (.i .i64 :: (.i .i64 :: (.i .i64 :: (.i .i64 :: (.i .i64 :: (.i .i64 :: (.i .i64 :: (.i .i64 :: (.i .i64 :: (.i .i64 :: (.i .i64 :: (.i .i64 :: (.i .i64 :: (.i .i64 :: (.i .i64 :: (.i .i64 :: (.i .i64 :: (.i .i64 :: (.i .i64 :: (.i .i64 :: (.i .i64 :: (.i .i64 :: (.i .i64 :: (.i .i64 :: (.i .i64 :: (.i .i64 :: (.i .i64 :: (.i .i64 :: (.i .i64 :: (.i .i64 :: (.i .i64 :: (.i .i64 :: (.i .i64 :: (.i .i64 :: (.i .i64 :: (.i .i64 :: (.i .i64 :: (.i .i64 :: (.i .i64 :: (.i .i64 :: (.i .i64 :: (.i .i64 :: (.i .i64 :: (.i .i64 :: (.i .i64 :: (.i .i64 :: (.i .i64 :: (.i .i64 :: (.i .i64 :: (.i .i64 :: (.i .i64 :: (.i .i64 :: (.i .i64 :: (.i .i64 :: (.i .i64 :: (.i .i64 :: (.i .i64 :: (.i .i64 :: (.i .i64 :: (.i .i64 :: (.i .i64 :: (.i .i64 :: (.i .i64 :: (.i .i64 :: (.i .i64 :: (.i .i64 :: (.i .i64 :: (.i .i64 :: [])))))))))))))))))))))))))))))))))))))))))))))))))))))))))))))))))))))))))))))))))))))))))))))))))))))))))))))))))))))))))))))))))))))))))))))))))))))))))))))))) := ⟨by kernel_rfl, by kernel_rfl, by kernel_rfl⟩
abbrev fn_zsQ : FuncId := 8
def zsQ_c : ACode :=
 (.seq (.region [
 o1 3 (.box 42 (tm 1)),
 o1 4 (.mov (.const (.bool false)))]) (.seq (.seq (.region [
 o1 23 (.mov (tm 0)),
 o1 24 (.lenSl (tm 23)),
 o1 25 (.bin .gtr (so (.binOp .gtr 3 (tm 24) (.const (.int .i64 80)) 3) 4) (tm 24) (.const (.int .i64 80)))]) (.cond (tm 25)
 (.seq (.region [
 o1 26 (.callV (.func 9) []),
 o1 4 (.mov (tm 26))]) .ret)
 .skip)) (.seq (.region [
 o1 27 (.mov (tm 0)),
 o1 28 (.callV (.func 16) [(tm 27)]),
 o1 5 (.mov (tm 28))]) (.seq (.region [
 o1 30 (.mov (tm 5)),
 o1 31 (.callV (.func 31) [(tm 30)]),
 o1 29 (.mov (tm 31)),
 o1 32 (.extract 0 (tm 29)),
 o1 33 (.extract 1 (tm 29)),
 o1 6 (.alloc 52 [(.int .u64 0), (.int .u64 0)]),
 o3 (.store 2 (tm 6) (tm 32)),
 o1 7 (.mov (tm 33))]) (.seq (.region [
 o1 35 (.mov (tm 0)),
 o1 36 (.callV (.func 33) [(tm 35)]),
 o1 34 (.mov (tm 36)),
 o1 37 (.extract 0 (tm 34)),
 o1 38 (.extract 1 (tm 34)),
 o1 8 (.alloc 52 [(.int .u64 0), (.int .u64 0)]),
 o3 (.store 2 (tm 8) (tm 37)),
 o1 9 (.mov (tm 38))]) (.seq (.region [
 o1 40 (.mov (tm 5)),
 o1 41 (.load (some 4) (tm 3)),
 o1 42 (.callV (.func 19) [(tm 40), (tm 41)]),
 o1 39 (.mov (tm 42)),
 o1 43 (.extract 0 (tm 39)),
 o1 44 (.extract 1 (tm 39)),
 o1 10 (.mov (tm 43)),
 o1 11 (.mov (tm 44))]) (.seq (.region [
 o1 46 (.mov (tm 0)),
 o1 47 (.load (some 4) (tm 3)),
 o1 48 (.callV (.func 34) [(tm 46), (tm 47)]),
 o1 45 (.mov (tm 48)),
 o1 49 (.extract 0 (tm 45)),
 o1 50 (.extract 1 (tm 45)),
 o1 12 (.mov (tm 49)),
 o1 13 (.mov (tm 50))]) (.seq (.region [
 o1 52 (.mov (tm 5)),
 o1 53 (.callV (.func 25) [(tm 52)]),
 o1 51 (.mov (tm 53)),
 o1 54 (.extract 0 (tm 51)),
 o1 55 (.extract 1 (tm 51)),
 o1 14 (.mov (tm 54)),
 o1 15 (.mov (tm 55))]) (.seq (.region [
 o1 57 (.mov (tm 0)),
 o1 58 (.callV (.func 35) [(tm 57)]),
 o1 56 (.mov (tm 58)),
 o1 59 (.extract 0 (tm 56)),
 o1 60 (.extract 1 (tm 56)),
 o1 16 (.mov (tm 59)),
 o1 17 (.mov (tm 60))]) (.seq (.region [
 o1 62 (.mov (tm 5)),
 o1 63 (.callV (.func 36) [(tm 62)]),
 o1 61 (.mov (tm 63)),
 o1 64 (.extract 0 (tm 61)),
 o1 65 (.extract 1 (tm 61)),
 o1 18 (.alloc 63 z32),
 o3 (.store 32 (tm 18) (tm 64)),
 o1 19 (.mov (tm 65))]) (.seq (.region [
 o1 67 (.mov (tm 0)),
 o1 68 (.callV (.func 37) [(tm 67)]),
 o1 66 (.mov (tm 68)),
 o1 69 (.extract 0 (tm 66)),
 o1 70 (.extract 1 (tm 66)),
 o1 20 (.alloc 63 z32),
 o3 (.store 32 (tm 20) (tm 69)),
 o1 21 (.mov (tm 70))]) (.seq (.region [
 o1 71 (.load (some 2) (tm 6)),
 o1 72 (.load (some 2) (tm 8)),
 o1 73 (.bin .eql (so (.binOp .eql 52 (tm 71) (tm 72) 52) 4) (tm 71) (tm 72)),
 o1 74 (.mov (tm 73)),
 o4 75 (.mov (tm 7)) 74,
 o4 76 (.mov (tm 9)) 74,
 o4 77 (.bin .eql (so (.binOp .eql 26 (tm 75) (tm 76) 26) 4) (tm 75) (tm 76)) 74,
 o1 78 (.pick (tm 74) (tm 77) (.const (.bool false))),
 o1 79 (.mov (tm 78)),
 o4 80 (.mov (tm 10)) 79,
 o4 81 (.mov (tm 12)) 79,
 o4 82 (.bin .eql (so (.binOp .eql 3 (tm 80) (tm 81) 3) 4) (tm 80) (tm 81)) 79,
 o1 83 (.pick (tm 79) (tm 82) (.const (.bool false))),
 o1 84 (.mov (tm 83)),
 o4 85 (.mov (tm 11)) 84,
 o4 86 (.mov (tm 13)) 84,
 o4 87 (.bin .eql (so (.binOp .eql 4 (tm 85) (tm 86) 4) 4) (tm 85) (tm 86)) 84,
 o1 88 (.pick (tm 84) (tm 87) (.const (.bool false))),
 o1 89 (.mov (tm 88)),
 o4 90 (.mov (tm 14)) 89,
 o4 91 (.mov (tm 16)) 89,
 o4 92 (.callV (.func 26) [(tm 90), (tm 91)]) 89,
 o1 93 (.pick (tm 89) (tm 92) (.const (.bool false))),
 o1 94 (.mov (tm 93)),
 o4 95 (.mov (tm 15)) 94,
 o4 96 (.mov (tm 17)) 94,
 o4 97 (.bin .eql (so (.binOp .eql 26 (tm 95) (tm 96) 26) 4) (tm 95) (tm 96)) 94,
 o1 98 (.pick (tm 94) (tm 97) (.const (.bool false))),
 o1 99 (.mov (tm 98)),
 o4 100 (.load (some 32) (tm 18)) 99,
 o4 101 (.load (some 32) (tm 20)) 99,
 o4 102 (.bin .eql (so (.binOp .eql 63 (tm 100) (tm 101) 63) 4) (tm 100) (tm 101)) 99,
 o1 103 (.pick (tm 99) (tm 102) (.const (.bool false))),
 o1 104 (.mov (tm 103)),
 o4 105 (.mov (tm 19)) 104,
 o4 106 (.mov (tm 21)) 104,
 o4 107 (.bin .eql (so (.binOp .eql 26 (tm 105) (tm 106) 26) 4) (tm 105) (tm 106)) 104,
 o1 108 (.pick (tm 104) (tm 107) (.const (.bool false))),
 o1 109 (.mov (tm 108)),
 o4 110 (.mov (tm 5)) 109,
 o4 111 (.callV (.func 22) [(tm 110)]) 109,
 o4 112 (.mov (tm 0)) 109,
 o4 113 (.callV (.func 38) [(tm 112)]) 109,
 o4 114 (.bin .eql (so (.binOp .eql 26 (tm 111) (tm 113) 26) 4) (tm 111) (tm 113)) 109,
 o1 115 (.pick (tm 109) (tm 114) (.const (.bool false))),
 o1 22 (.mov (tm 115))]) (.seq (.region [
 o1 116 (.mov (tm 14)),
 o1 117 (.callV (.func 39) [(tm 116)])]) (.seq (.region [
 o1 118 (.mov (tm 22)),
 o1 119 (.mov (tm 118)),
 o4 120 (.mov (tm 5)) 119,
 o4 121 (.mov (tm 0)) 119,
 o4 122 (.callV (.func 13) [(tm 120), (tm 121)]) 119,
 o1 123 (.pick (tm 119) (tm 122) (.const (.bool false))),
 o1 124 (.mov (tm 123)),
 o4 125 (.callV (.func 9) []) 124,
 o1 126 (.pick (tm 124) (tm 125) (.const (.bool false))),
 o1 4 (.mov (tm 126))]) .ret))))))))))))))
def zsQ : AFunc := ⟨127, [(4, none)], zsQ_c, none⟩
theorem zsQ_t0 : tableOf Try.prog 8 = some zsQ := by kernel_rfl
theorem zsQ_t : T0 8 = some zsQ := withKept_t rfl (withTrue_t rfl zsQ_t0)
theorem zsQ_runs {v0 v1 : Value} {h : Heap} {R : RP} {X : XP} (k : RunC Try.prog T0 zsQ_c ⟨[v0, v1, U, U, U, U, U, U, U, U, U, U, U, U, U, U, U, U, U, U, U, U, U, U, U, U, U, U, U, U, U, U, U, U, U, U, U, U, U, U, U, U, U, U, U, U, U, U, U, U, U, U, U, U, U, U, U, U, U, U, U, U, U, U, U, U, U, U, U, U, U, U, U, U, U, U, U, U, U, U, U, U, U, U, U, U, U, U, U, U, U, U, U, U, U, U, U, U, U, U, U, U, U, U, U, U, U, U, U, U, U, U, U, U, U, U, U, U, U, U, U, U, U, U, U, U, U], [], h, none⟩ (bodyQ Try.prog T0 [(4, none)] R X)) :
 Runs Try.prog T0 (.fn 8) [v0, v1] h R X := Runs.fn zsQ_t rfl k
abbrev fn_zrQ : FuncId := 13
def zrQ_l0 : ACode :=
 (.seq (.seq (.region [
 o1 12 (.mov (tm 5)),
 o1 13 (.mov (tm 12)),
 o4 14 (.mov (tm 6)) 13,
 o4 15 (.mov (tm 0)) 13,
 o4 16 (.lenSl (tm 15)) 13,
 o4 17 (.bin .lss (so (.binOp .lss 3 (tm 14) (tm 16) 3) 4) (tm 14) (tm 16)) 13,
 o1 18 (.pick (tm 13) (tm 17) (.const (.bool false)))]) (.cond (tm 18)
 .skip
 (.exit 0))) (.seq (.block 1 (.regionD [
 o1 21 (.mov (tm 0)),
 o1 22 (.mov (tm 6)),
 o1 23 (.indexSl 5 (tm 21) (tm 22)),
 o1 24 (.load (some 5) (tm 23)),
 o1 25 (.mov (tm 1)),
 o1 26 (.mov (tm 6)),
 o1 27 (.indexSl 5 (tm 25) (tm 26)),
 o1 28 (.load (some 5) (tm 27)),
 o2 29 (.bin .eql (so (.binOp .eql 54 (tm 24) (tm 28) 54) 4) (tm 24) (tm 28)),
 o2 5 (.mov (tm 29))])) (.region [
 o1 19 (.mov (tm 6)),
 o1 20 (.bin .add (so (.binOp .add 3 (tm 19) (.const (.int .i64 1)) 3) 3) (tm 19) (.const (.int .i64 1))),
 o1 6 (.mov (tm 20))])))
def zrQ_c : ACode :=
 (.seq (.region [
 o1 4 (.mov (.const (.bool false)))]) (.seq (.region [
 o1 7 (.mov (tm 0)),
 o1 8 (.lenSl (tm 7)),
 o1 9 (.mov (tm 1)),
 o1 10 (.lenSl (tm 9)),
 o1 11 (.bin .eql (so (.binOp .eql 3 (tm 8) (tm 10) 3) 4) (tm 8) (tm 10)),
 o1 5 (.mov (tm 11))]) (.seq (.seq (.region [
 o1 6 (.mov k0)]) (.block 0 (.loop zrQ_l0))) (.seq (.region [
 o1 30 (.mov (tm 5)),
 o1 4 (.mov (tm 30))]) .ret))))
def zrQ : AFunc := ⟨31, [(4, none)], zrQ_c, none⟩
theorem zrQ_t0 : tableOf Try.prog 13 = some zrQ := by kernel_rfl
theorem zrQ_t : T0 13 = some zrQ := withKept_t rfl (withTrue_t rfl zrQ_t0)
theorem zrQ_runs {v0 v1 : Value} {h : Heap} {R : RP} {X : XP} (k : RunC Try.prog T0 zrQ_c ⟨[v0, v1, U, U, U, U, U, U, U, U, U, U, U, U, U, U, U, U, U, U, U, U, U, U, U, U, U, U, U, U, U], [], h, none⟩ (bodyQ Try.prog T0 [(4, none)] R X)) :
 Runs Try.prog T0 (.fn 13) [v0, v1] h R X := Runs.fn zrQ_t rfl k
def zrQ_l0_J (f0 f1 f2 f3 f4 f7 f8 f9 f10 f11 f30 : Value) (ds : List Deferred) (rd : Option Nat) (I : Nat → Value → Value → Heap → Prop) (m : Nat) (s : St) : Prop := ∃ (v5 v6 : Value), ∃ h : Heap, ∃ (x12 x13 x14 x15 x16 x17 x18 x19 x20 x21 x22 x23 x24 x25 x26 x27 x28 x29 : Value), s = ⟨[f0, f1, f2, f3, f4, v5, v6, f7, f8, f9, f10, f11, x12, x13, x14, x15, x16, x17, x18, x19, x20, x21, x22, x23, x24, x25, x26, x27, x28, x29, f30], ds, h, rd⟩ ∧ I m v5 v6 h
theorem zrQ_l0_rule {f0 f1 f2 f3 f4 f7 f8 f9 f10 f11 f30 : Value} {ds : List Deferred} {rd : Option Nat} {Q : QP} (I : Nat → Value → Value → Heap → Prop) (hb : ∀ (m : Nat) (v5 v6 : Value) (h : Heap) (x12 x13 x14 x15 x16 x17 x18 x19 x20 x21 x22 x23 x24 x25 x26 x27 x28 x29 : Value) , I m v5 v6 h → RunC Try.prog T0 zrQ_l0 ⟨[f0, f1, f2, f3, f4, v5, v6, f7, f8, f9, f10, f11, x12, x13, x14, x15, x16, x17, x18, x19, x20, x21, x22, x23, x24, x25, x26, x27, x28, x29, f30], ds, h, rd⟩ (loopQ (zrQ_l0_J f0 f1 f2 f3 f4 f7 f8 f9 f10 f11 f30 ds rd I) m Q))
 (m : Nat) {v5 v6 : Value} {h : Heap} {x12 x13 x14 x15 x16 x17 x18 x19 x20 x21 x22 x23 x24 x25 x26 x27 x28 x29 : Value} (hi : I m v5 v6 h) : RunC Try.prog T0 (.loop zrQ_l0) ⟨[f0, f1, f2, f3, f4, v5, v6, f7, f8, f9, f10, f11, x12, x13, x14, x15, x16, x17, x18, x19, x20, x21, x22, x23, x24, x25, x26, x27, x28, x29, f30], ds, h, rd⟩ Q :=
 RunC.loopJ (zrQ_l0_J f0 f1 f2 f3 f4 f7 f8 f9 f10 f11 f30 ds rd I) (fun m s hj => by obtain ⟨v5, v6, h, x12, x13, x14, x15, x16, x17, x18, x19, x20, x21, x22, x23, x24, x25, x26, x27, x28, x29, rfl, hi⟩ := hj; exact hb m v5 v6 h x12 x13 x14 x15 x16 x17 x18 x19 x20 x21 x22 x23 x24 x25 x26 x27 x28 x29 hi) m _ ⟨_, _, h, _, _, _, _, _, _, _, _, _, _, _, _, _, _, _, _, _, _, rfl, hi⟩
theorem zrQ_l0_again {f0 f1 f2 f3 f4 f7 f8 f9 f10 f11 f30 : Value} {ds : List Deferred} {rd : Option Nat} {Q : QP} {I : Nat → Value → Value → Heap → Prop} {m : Nat} (m' : Nat) {v5 v6 : Value} {h : Heap} {x12 x13 x14 x15 x16 x17 x18 x19 x20 x21 x22 x23 x24 x25 x26 x27 x28 x29 : Value} (hm : m' < m) (hi : I m' v5 v6 h) : loopQ (zrQ_l0_J f0 f1 f2 f3 f4 f7 f8 f9 f10 f11 f30 ds rd I) m Q .normal ⟨[f0, f1, f2, f3, f4, v5, v6, f7, f8, f9, f10, f11, x12, x13, x14, x15, x16, x17, x18, x19, x20, x21, x22, x23, x24, x25, x26, x27, x28, x29, f30], ds, h, rd⟩ :=
 loopQ.again m' hm ⟨_, _, h, _, _, _, _, _, _, _, _, _, _, _, _, _, _, _, _, _, _, rfl, hi⟩
abbrev fn_zoQ : FuncId := 16
def zoQ_c : ACode :=
 (.seq (.region [
 o1 2 (.mov (.const (.slice none 0 0)))]) (.seq (.region [
 o1 3 (.buildSlice 54 [] 0 []),
 o1 4 (.mov (tm 0)),
 o1 5 (.append 54 5 16 [(.int .u8 0), (.int .u8 0), (.int .u8 0), (.int .u8 0), (.int .i64 0)] false (tm 3) (tm 4)),
 o1 2 (.mov (tm 5))]) .ret))
def zoQ : AFunc := ⟨6, [(2, none)], zoQ_c, none⟩
theorem zoQ_t0 : tableOf Try.prog 16 = some zoQ := by kernel_rfl
theorem zoQ_t : T0 16 = some zoQ := withKept_t rfl (withTrue_t rfl zoQ_t0)
theorem zoQ_runs {v0 : Value} {h : Heap} {R : RP} {X : XP} (k : RunC Try.prog T0 zoQ_c ⟨[v0, U, U, U, U, U], [], h, none⟩ (bodyQ Try.prog T0 [(2, none)] R X)) :
 Runs Try.prog T0 (.fn 16) [v0] h R X := Runs.fn zoQ_t rfl k
abbrev fn_zbcQ : FuncId := 19
def zbcQ_c : ACode :=
 (.seq (.region [
 o1 3 (.box 42 (tm 1)),
 o1 4 (.mov k0),
 o1 5 (.mov (.const (.bool false)))]) (.seq (.seq (.region [
 o1 9 (.mov (tm 0)),
 o1 10 (.callV (.func 22) [(tm 9)]),
 o1 11 (.bin .eql (so (.binOp .eql 26 (tm 10) k0 26) 4) (tm 10) k0)]) (.cond (tm 11)
 (.seq (.region [
 o1 13 (.mov (tm 0)),
 o1 14 (.load (some 4) (tm 3)),
 o1 15 (.callV (.func 52) [(tm 13), (tm 14), (.func 53)]),
 o1 12 (.mov (tm 15)),
 o1 16 (.extract 0 (tm 12)),
 o1 17 (.extract 1 (tm 12)),
 o1 6 (.mov (tm 16)),
 o1 7 (.mov (tm 17))]) (.seq (.seq (.region [
 o1 18 (.mov (tm 7)),
 o1 19 (.raw (so (.unOp .not 4 (tm 18)) 4))]) (.cond (tm 19)
 (.region [
 o1 6 (.mov k0)])
 .skip)) (.seq (.region [
 o1 20 (.mov (tm 6)),
 o1 21 (.mov (tm 7)),
 o1 4 (.mov (tm 20)),
 o1 5 (.mov (tm 21))]) .ret)))
 .skip)) (.seq (.region [
 o1 22 (.mov (tm 0)),
 o1 23 (.mkFunc (.func 55) [] [(tm 3)]),
 o1 24 (.callV (.func 54) [(tm 22), (tm 23)]),
 o1 8 (.mov (tm 24))]) (.seq (.region [
 o1 25 (.mov (tm 8)),
 o1 26 (.raw (so (.call ⟨.builtin .max, #[(tm 25), k0], #[3, 3]⟩) 3)),
 o1 27 (.mov (tm 8)),
 o1 28 (.bin .geq (so (.binOp .geq 3 (tm 27) k0 3) 4) (tm 27) k0),
 o1 4 (.mov (tm 26)),
 o1 5 (.mov (tm 28))]) .ret))))
def zbcQ : AFunc := ⟨29, [(4, none), (5, none)], zbcQ_c, none⟩
theorem zbcQ_t0 : tableOf Try.prog 19 = some zbcQ := by kernel_rfl
theorem zbcQ_t : T0 19 = some zbcQ := withKept_t rfl (withTrue_t rfl zbcQ_t0)
theorem zbcQ_runs {v0 v1 : Value} {h : Heap} {R : RP} {X : XP} (k : RunC Try.prog T0 zbcQ_c ⟨[v0, v1, U, U, U, U, U, U, U, U, U, U, U, U, U, U, U, U, U, U, U, U, U, U, U, U, U, U, U], [], h, none⟩ (bodyQ Try.prog T0 [(4, none), (5, none)] R X)) :
 Runs Try.prog T0 (.fn 19) [v0, v1] h R X := Runs.fn zbcQ_t rfl k
abbrev fn_zzbQ : FuncId := 22
def zzbQ_l0 : ACode :=
 (.seq (.region [
 o1 19 (.bin .lss (so (.binOp .lss 3 (tm 18) (tm 17) 3) 0) (tm 18) (tm 17))]) (.seq (.cond (tm 19)
 .skip
 (.exit 1)) (.seq (.block 2 (.seq (.region [
 o1 20 (.indexSl 5 (tm 16) (tm 18)),
 o1 21 (.load (some 5) (tm 20)),
 o1 5 (.alloc 54 [(.int .u8 0), (.int .u8 0), (.int .u8 0), (.int .u8 0), (.int .i64 0)]),
 o3 (.store 5 (tm 5) (tm 21))]) (.seq (.region [
 o1 22 (.load (some 5) (tm 5)),
 o1 23 (.callV (.func 48) [(tm 3), (tm 22)]),
 o1 6 (.mov (tm 23))]) (.seq (.region [
 o1 24 (.mov (tm 6)),
 o1 25 (.bin .neq (so (.binOp .neq 26 (tm 24) k0 26) 4) (tm 24) k0)]) (.cond (tm 25)
 (.seq (.region [
 o1 26 (.mov (tm 6)),
 o1 2 (.mov (tm 26))]) .ret)
 .skip))))) (.region [
 o1 27 (.bin .add (so (.binOp .add 3 (tm 18) (.const (.int .i64 1)) 3) 3) (tm 18) (.const (.int .i64 1))),
 o1 18 (.mov (tm 27))]))))
def zzbQ_c : ACode :=
 (.seq (.region [
 o1 2 (.mov k0)]) (.seq (.block 0 (.seq (.region [
 o1 8 (.mov (tm 0)),
 o1 9 (.lenSl (tm 8)),
 o1 10 (.bin .eql (so (.binOp .eql 3 (tm 9) k0 3) 4) (tm 9) k0),
 o1 7 (.mov (tm 10))]) (.cond (tm 7)
 (.seq (.region [
 o1 2 (.mov (.const (.int .i64 6)))]) .ret)
 (.seq (.region [
 o1 12 (.mov (tm 0)),
 o1 13 (.lenSl (tm 12)),
 o1 14 (.bin .gtr (so (.binOp .gtr 3 (tm 13) (.const (.int .i64 64)) 3) 4) (tm 13) (.const (.int .i64 64))),
 o1 11 (.mov (tm 14))]) (.cond (tm 11)
 (.seq (.region [
 o1 2 (.mov (.const (.int .i64 4)))]) .ret)
 .skip))))) (.seq (.region [
 o1 15 (.build [(.int .u8 0), (.int .u8 0), (.int .u8 0), (.int .u8 0), (.bool false), (.int .i64 0), (.int .i64 0)] [(5, 1, (.const (.int .i64 1))), (6, 1, (.const (.int .i64 4611686018427387904)))]),
 o1 3 (.alloc 76 [(.int .u8 0), (.int .u8 0), (.int .u8 0), (.int .u8 0), (.bool false), (.int .i64 0), (.int .i64 0)]),
 o3 (.store 7 (tm 3) (tm 15))]) (.seq (.seq (.region [
 o1 16 (.mov (tm 0)),
 o1 17 (.lenSl (tm 16)),
 o1 18 (.mov k0)]) (.block 1 (.loop zzbQ_l0))) (.seq (.region [
 o1 2 (.mov k0)]) .ret)))))
def zzbQ : AFunc := ⟨28, [(2, none)], zzbQ_c, none⟩
theorem zzbQ_t0 : tableOf Try.prog 22 = some zzbQ := by kernel_rfl
theorem zzbQ_t : T0 22 = some zzbQ := withKept_t rfl (withTrue_t rfl zzbQ_t0)
theorem zzbQ_runs {v0 : Value} {h : Heap} {R : RP} {X : XP} (k : RunC Try.prog T0 zzbQ_c ⟨[v0, U, U, U, U, U, U, U, U, U, U, U, U, U, U, U, U, U, U, U, U, U, U, U, U, U, U, U], [], h, none⟩ (bodyQ Try.prog T0 [(2, none)] R X)) :
 Runs Try.prog T0 (.fn 22) [v0] h R X := Runs.fn zzbQ_t rfl k
def zzbQ_l0_J (f0 f1 f3 f4 f7 f8 f9 f10 f11 f12 f13 f14 f15 f16 f17 : Value) (ds : List Deferred) (rd : Option Nat) (I : Nat → Value → Heap → Prop) (m : Nat) (s : St) : Prop := ∃ (v18 : Value), ∃ h : Heap, ∃ (x2 x5 x6 x19 x20 x21 x22 x23 x24 x25 x26 x27 : Value), s = ⟨[f0, f1, x2, f3, f4, x5, x6, f7, f8, f9, f10, f11, f12, f13, f14, f15, f16, f17, v18, x19, x20, x21, x22, x23, x24, x25, x26, x27], ds, h, rd⟩ ∧ I m v18 h
theorem zzbQ_l0_rule {f0 f1 f3 f4 f7 f8 f9 f10 f11 f12 f13 f14 f15 f16 f17 : Value} {ds : List Deferred} {rd : Option Nat} {Q : QP} (I : Nat → Value → Heap → Prop) (hb : ∀ (m : Nat) (v18 : Value) (h : Heap) (x2 x5 x6 x19 x20 x21 x22 x23 x24 x25 x26 x27 : Value) , I m v18 h → RunC Try.prog T0 zzbQ_l0 ⟨[f0, f1, x2, f3, f4, x5, x6, f7, f8, f9, f10, f11, f12, f13, f14, f15, f16, f17, v18, x19, x20, x21, x22, x23, x24, x25, x26, x27], ds, h, rd⟩ (loopQ (zzbQ_l0_J f0 f1 f3 f4 f7 f8 f9 f10 f11 f12 f13 f14 f15 f16 f17 ds rd I) m Q))
 (m : Nat) {v18 : Value} {h : Heap} {x2 x5 x6 x19 x20 x21 x22 x23 x24 x25 x26 x27 : Value} (hi : I m v18 h) : RunC Try.prog T0 (.loop zzbQ_l0) ⟨[f0, f1, x2, f3, f4, x5, x6, f7, f8, f9, f10, f11, f12, f13, f14, f15, f16, f17, v18, x19, x20, x21, x22, x23, x24, x25, x26, x27], ds, h, rd⟩ Q :=
 RunC.loopJ (zzbQ_l0_J f0 f1 f3 f4 f7 f8 f9 f10 f11 f12 f13 f14 f15 f16 f17 ds rd I) (fun m s hj => by obtain ⟨v18, h, x2, x5, x6, x19, x20, x21, x22, x23, x24, x25, x26, x27, rfl, hi⟩ := hj; exact hb m v18 h x2 x5 x6 x19 x20 x21 x22 x23 x24 x25 x26 x27 hi) m _ ⟨_, h, _, _, _, _, _, _, _, _, _, _, _, _, rfl, hi⟩
theorem zzbQ_l0_again {f0 f1 f3 f4 f7 f8 f9 f10 f11 f12 f13 f14 f15 f16 f17 : Value} {ds : List Deferred} {rd : Option Nat} {Q : QP} {I : Nat → Value → Heap → Prop} {m : Nat} (m' : Nat) {v18 : Value} {h : Heap} {x2 x5 x6 x19 x20 x21 x22 x23 x24 x25 x26 x27 : Value} (hm : m' < m) (hi : I m' v18 h) : loopQ (zzbQ_l0_J f0 f1 f3 f4 f7 f8 f9 f10 f11 f12 f13 f14 f15 f16 f17 ds rd I) m Q .normal ⟨[f0, f1, x2, f3, f4, x5, x6, f7, f8, f9, f10, f11, f12, f13, f14, f15, f16, f17, v18, x19, x20, x21, x22, x23, x24, x25, x26, x27], ds, h, rd⟩ :=
 loopQ.again m' hm ⟨_, h, _, _, _, _, _, _, _, _, _, _, _, _, rfl, hi⟩
abbrev fn_zacQ : FuncId := 25
def zacQ_l0 : ACode :=
 (.seq (.region [
 o1 25 (.bin .lss (so (.binOp .lss 3 (tm 24) (tm 23) 3) 0) (tm 24) (tm 23))]) (.seq (.cond (tm 25)
 .skip
 (.exit 0)) (.seq (.block 1 (.seq (.region [
 o1 26 (.indexSl 5 (tm 22) (tm 24)),
 o1 27 (.load (some 5) (tm 26)),
 o1 8 (.alloc 54 [(.int .u8 0), (.int .u8 0), (.int .u8 0), (.int .u8 0), (.int .i64 0)]),
 o3 (.store 5 (tm 8) (tm 27))]) (.seq (.region [
 o1 28 (.mov (tm 5)),
 o1 29 (.fieldAddr 0 (tm 8)),
 o1 30 (.load (some 4) (tm 29)),
 o1 31 (.callV (.func 58) [(tm 28), (tm 30)])]) (.region [
 o1 32 (.mov (tm 5)),
 o1 33 (.fieldAddr 4 (tm 8)),
 o1 34 (.load none (tm 33)),
 o1 35 (.callV (.func 57) [(tm 32), (tm 34)])])))) (.region [
 o1 36 (.bin .add (so (.binOp .add 3 (tm 24) (.const (.int .i64 1)) 3) 3) (tm 24) (.const (.int .i64 1))),
 o1 24 (.mov (tm 36))]))))
def zacQ_c : ACode :=
 (.seq (.region [
 o1 2 (.mov (.const (.slice none 0 0))),
 o1 3 (.mov k0)]) (.seq (.seq (.region [
 o1 9 (.mov (tm 0)),
 o1 10 (.callV (.func 22) [(tm 9)]),
 o1 4 (.mov (tm 10))]) (.seq (.region [
 o1 11 (.mov (tm 4)),
 o1 12 (.bin .neq (so (.binOp .neq 26 (tm 11) k0 26) 4) (tm 11) k0)]) (.cond (tm 12)
 (.seq (.region [
 o1 13 (.mov (tm 4)),
 o1 2 (.mov (.const (.slice none 0 0))),
 o1 3 (.mov (tm 13))]) .ret)
 .skip))) (.seq (.region [
 o1 15 (.callV (.func 56) [(.const (.int .i64 1048576))]),
 o1 14 (.mov (tm 15)),
 o1 16 (.extract 0 (tm 14)),
 o1 17 (.extract 1 (tm 14)),
 o1 5 (.mov (tm 16)),
 o1 6 (.mov (tm 17))]) (.seq (.region [
 o1 18 (.mov (tm 5)),
 o1 19 (.mov (tm 0)),
 o1 20 (.lenSl (tm 19)),
 o1 21 (.callV (.func 57) [(tm 18), (tm 20)])]) (.seq (.seq (.region [
 o1 22 (.mov (tm 0)),
 o1 23 (.lenSl (tm 22)),
 o1 24 (.mov k0)]) (.block 0 (.loop zacQ_l0))) (.seq (.region [
 o1 37 (.mov (tm 5)),
 o1 38 (.callV (.func 59) [(tm 37)]),
 o1 39 (.extract 0 (tm 38)),
 o1 40 (.extract 1 (tm 38)),
 o1 2 (.mov (tm 39)),
 o1 3 (.mov (tm 40))]) .ret))))))
def zacQ : AFunc := ⟨41, [(2, none), (3, none)], zacQ_c, none⟩
theorem zacQ_t0 : tableOf Try.prog 25 = some zacQ := by kernel_rfl
theorem zacQ_t : T0 25 = some zacQ := withKept_t rfl (withTrue_t rfl zacQ_t0)
theorem zacQ_runs {v0 : Value} {h : Heap} {R : RP} {X : XP} (k : RunC Try.prog T0 zacQ_c ⟨[v0, U, U, U, U, U, U, U, U, U, U, U, U, U, U, U, U, U, U, U, U, U, U, U, U, U, U, U, U, U, U, U, U, U, U, U, U, U, U, U, U], [], h, none⟩ (bodyQ Try.prog T0 [(2, none), (3, none)] R X)) :
 Runs Try.prog T0 (.fn 25) [v0] h R X := Runs.fn zacQ_t rfl k
def zacQ_l0_J (f0 f1 f2 f3 f4 f5 f6 f7 f9 f10 f11 f12 f13 f14 f15 f16 f17 f18 f19 f20 f21 f22 f23 f37 f38 f39 f40 : Value) (ds : List Deferred) (rd : Option Nat) (I : Nat → Value → Heap → Prop) (m : Nat) (s : St) : Prop := ∃ (v24 : Value), ∃ h : Heap, ∃ (x8 x25 x26 x27 x28 x29 x30 x31 x32 x33 x34 x35 x36 : Value), s = ⟨[f0, f1, f2, f3, f4, f5, f6, f7, x8, f9, f10, f11, f12, f13, f14, f15, f16, f17, f18, f19, f20, f21, f22, f23, v24, x25, x26, x27, x28, x29, x30, x31, x32, x33, x34, x35, x36, f37, f38, f39, f40], ds, h, rd⟩ ∧ I m v24 h
theorem zacQ_l0_rule {f0 f1 f2 f3 f4 f5 f6 f7 f9 f10 f11 f12 f13 f14 f15 f16 f17 f18 f19 f20 f21 f22 f23 f37 f38 f39 f40 : Value} {ds : List Deferred} {rd : Option Nat} {Q : QP} (I : Nat → Value → Heap → Prop) (hb : ∀ (m : Nat) (v24 : Value) (h : Heap) (x8 x25 x26 x27 x28 x29 x30 x31 x32 x33 x34 x35 x36 : Value) , I m v24 h → RunC Try.prog T0 zacQ_l0 ⟨[f0, f1, f2, f3, f4, f5, f6, f7, x8, f9, f10, f11, f12, f13, f14, f15, f16, f17, f18, f19, f20, f21, f22, f23, v24, x25, x26, x27, x28, x29, x30, x31, x32, x33, x34, x35, x36, f37, f38, f39, f40], ds, h, rd⟩ (loopQ (zacQ_l0_J f0 f1 f2 f3 f4 f5 f6 f7 f9 f10 f11 f12 f13 f14 f15 f16 f17 f18 f19 f20 f21 f22 f23 f37 f38 f39 f40 ds rd I) m Q))
 (m : Nat) {v24 : Value} {h : Heap} {x8 x25 x26 x27 x28 x29 x30 x31 x32 x33 x34 x35 x36 : Value} (hi : I m v24 h) : RunC Try.prog T0 (.loop zacQ_l0) ⟨[f0, f1, f2, f3, f4, f5, f6, f7, x8, f9, f10, f11, f12, f13, f14, f15, f16, f17, f18, f19, f20, f21, f22, f23, v24, x25, x26, x27, x28, x29, x30, x31, x32, x33, x34, x35, x36, f37, f38, f39, f40], ds, h, rd⟩ Q :=
 RunC.loopJ (zacQ_l0_J f0 f1 f2 f3 f4 f5 f6 f7 f9 f10 f11 f12 f13 f14 f15 f16 f17 f18 f19 f20 f21 f22 f23 f37 f38 f39 f40 ds rd I) (fun m s hj => by obtain ⟨v24, h, x8, x25, x26, x27, x28, x29, x30, x31, x32, x33, x34, x35, x36, rfl, hi⟩ := hj; exact hb m v24 h x8 x25 x26 x27 x28 x29 x30 x31 x32 x33 x34 x35 x36 hi) m _ ⟨_, h, _, _, _, _, _, _, _, _, _, _, _, _, _, rfl, hi⟩
theorem zacQ_l0_again {f0 f1 f2 f3 f4 f5 f6 f7 f9 f10 f11 f12 f13 f14 f15 f16 f17 f18 f19 f20 f21 f22 f23 f37 f38 f39 f40 : Value} {ds : List Deferred} {rd : Option Nat} {Q : QP} {I : Nat → Value → Heap → Prop} {m : Nat} (m' : Nat) {v24 : Value} {h : Heap} {x8 x25 x26 x27 x28 x29 x30 x31 x32 x33 x34 x35 x36 : Value} (hm : m' < m) (hi : I m' v24 h) : loopQ (zacQ_l0_J f0 f1 f2 f3 f4 f5 f6 f7 f9 f10 f11 f12 f13 f14 f15 f16 f17 f18 f19 f20 f21 f22 f23 f37 f38 f39 f40 ds rd I) m Q .normal ⟨[f0, f1, f2, f3, f4, f5, f6, f7, x8, f9, f10, f11, f12, f13, f14, f15, f16, f17, f18, f19, f20, f21, f22, f23, v24, x25, x26, x27, x28, x29, x30, x31, x32, x33, x34, x35, x36, f37, f38, f39, f40], ds, h, rd⟩ :=
 loopQ.again m' hm ⟨_, h, _, _, _, _, _, _, _, _, _, _, _, _, _, rfl, hi⟩
abbrev fn_zqQ : FuncId := 26
def zqQ_c : ACode :=
 (.seq (.region [
 o1 4 (.mov (.const (.bool false)))]) (.seq (.region [
 o1 5 (.mov (tm 0)),
 o1 6 (.bytesToStr (tm 5)),
 o1 7 (.mov (tm 1)),
 o1 8 (.bytesToStr (tm 7)),
 o1 9 (.bin .eql (so (.binOp .eql 9 (tm 6) (tm 8) 9) 4) (tm 6) (tm 8)),
 o1 4 (.mov (tm 9))]) .ret))
def zqQ : AFunc := ⟨10, [(4, none)], zqQ_c, none⟩
theorem zqQ_t0 : tableOf Try.prog 26 = some zqQ := by kernel_rfl
theorem zqQ_t : T0 26 = some zqQ := withKept_t rfl (withTrue_t rfl zqQ_t0)
theorem zqQ_runs {v0 v1 : Value} {h : Heap} {R : RP} {X : XP} (k : RunC Try.prog T0 zqQ_c ⟨[v0, v1, U, U, U, U, U, U, U, U], [], h, none⟩ (bodyQ Try.prog T0 [(4, none)] R X)) :
 Runs Try.prog T0 (.fn 26) [v0, v1] h R X := Runs.fn zqQ_t rfl k
abbrev fn_zhcQ : FuncId := 29
def zhcQ_c : ACode :=
 (.seq (.region [
 o1 2 (.alloc 52 [(.int .u64 0), (.int .u64 0)]),
 o1 3 (.mov k0)]) (.seq (.seq (.region [
 o1 4 (.mov (tm 0)),
 o1 5 (.bin .lss (so (.binOp .lss 3 (tm 4) k0 3) 4) (tm 4) k0)]) (.cond (tm 5)
 (.seq (.region [
 o1 6 (.build [(.int .u64 0), (.int .u64 0)] []),
 o3 (.store 2 (tm 2) (tm 6)),
 o1 3 (.mov (.const (.int .i64 3)))]) .ret)
 .skip)) (.seq (.region [
 o1 7 (.mov (tm 0)),
 o1 8 (.conv .u64 (so (.convert 3 50 (tm 7)) 50) (tm 7)),
 o1 9 (.build [(.int .u64 0), (.int .u64 0)] [(1, 1, (tm 8))]),
 o3 (.store 2 (tm 2) (tm 9)),
 o1 3 (.mov k0)]) .ret)))
def zhcQ : AFunc := ⟨10, [(2, some (some 2)), (3, none)], zhcQ_c, none⟩
theorem zhcQ_t0 : tableOf Try.prog 29 = some zhcQ := by kernel_rfl
theorem zhcQ_t : T0 29 = some zhcQ := withKept_t rfl (withTrue_t rfl zhcQ_t0)
theorem zhcQ_runs {v0 : Value} {h : Heap} {R : RP} {X : XP} (k : RunC Try.prog T0 zhcQ_c ⟨[v0, U, U, U, U, U, U, U, U, U], [], h, none⟩ (bodyQ Try.prog T0 [(2, some (some 2)), (3, none)] R X)) :
 Runs Try.prog T0 (.fn 29) [v0] h R X := Runs.fn zhcQ_t rfl k
abbrev fn_zicQ : FuncId := 30
def zicQ_c : ACode :=
 (.seq (.region [
 o1 2 (.box 52 (tm 0)),
 o1 3 (.box 52 (tm 1)),
 o1 4 (.alloc 52 [(.int .u64 0), (.int .u64 0)]),
 o1 5 (.mov k0)]) (.seq (.region [
 o1 7 (.fieldAddr 1 (tm 2)),
 o1 8 (.load none (tm 7)),
 o1 9 (.fieldAddr 0 (tm 2)),
 o1 10 (.load none (tm 9)),
 o1 11 (.build [(.int .u64 0), (.int .u64 0), (.int .u64 0)] [(0, 1, (tm 8)), (1, 1, (tm 10))]),
 o1 6 (.alloc 95 [(.int .u64 0), (.int .u64 0), (.int .u64 0)]),
 o3 (.store 3 (tm 6) (tm 11))]) (.seq (.region [
 o1 12 (.fieldAddr 1 (tm 3)),
 o1 13 (.load none (tm 12)),
 o1 14 (.callV (.func 60) [(tm 6), k0, (tm 13)])]) (.seq (.region [
 o1 15 (.fieldAddr 0 (tm 3)),
 o1 16 (.load none (tm 15)),
 o1 17 (.callV (.func 60) [(tm 6), (.const (.int .i64 1)), (tm 16)])]) (.seq (.region [
 o1 18 (.load (some 3) (tm 6)),
 o1 19 (.callV (.func 61) [(tm 18)]),
 o1 20 (.extract 0 (tm 19)),
 o1 21 (.extract 1 (tm 19)),
 o3 (.store 2 (tm 4) (tm 20)),
 o1 5 (.mov (tm 21))]) .ret)))))
def zicQ : AFunc := ⟨22, [(4, some (some 2)), (5, none)], zicQ_c, none⟩
theorem zicQ_t0 : tableOf Try.prog 30 = some zicQ := by kernel_rfl
theorem zicQ_t : T0 30 = some zicQ := withKept_t rfl (withTrue_t rfl zicQ_t0)
theorem zicQ_runs {v0 v1 : Value} {h : Heap} {R : RP} {X : XP} (k : RunC Try.prog T0 zicQ_c ⟨[v0, v1, U, U, U, U, U, U, U, U, U, U, U, U, U, U, U, U, U, U, U, U], [], h, none⟩ (bodyQ Try.prog T0 [(4, some (some 2)), (5, none)] R X)) :
 Runs Try.prog T0 (.fn 30) [v0, v1] h R X := Runs.fn zicQ_t rfl k
abbrev fn_zecQ : FuncId := 31
def zecQ_l0 : ACode :=
 (.seq (.region [
 o1 17 (.bin .lss (so (.binOp .lss 3 (tm 16) (tm 15) 3) 0) (tm 16) (tm 15))]) (.seq (.cond (tm 17)
 .skip
 (.exit 0)) (.seq (.block 1 (.seq (.region [
 o1 18 (.indexSl 5 (tm 14) (tm 16)),
 o1 19 (.load (some 5) (tm 18)),
 o1 7 (.alloc 54 [(.int .u8 0), (.int .u8 0), (.int .u8 0), (.int .u8 0), (.int .i64 0)]),
 o3 (.store 5 (tm 7) (tm 19))]) (.region [
 o1 20 (.mov (tm 5)),
 o1 21 (.fieldAddr 4 (tm 7)),
 o1 22 (.load none (tm 21)),
 o1 23 (.buildSlice 3 [(.int .i64 0)] 1 [(0, 1, (tm 22))]),
 o1 24 (.append 3 1 8 [(.int .i64 0)] false (tm 20) (tm 23)),
 o1 5 (.mov (tm 24))]))) (.region [
 o1 25 (.bin .add (so (.binOp .add 3 (tm 16) (.const (.int .i64 1)) 3) 3) (tm 16) (.const (.int .i64 1))),
 o1 16 (.mov (tm 25))]))))
def zecQ_c : ACode :=
 (.seq (.region [
 o1 2 (.alloc 52 [(.int .u64 0), (.int .u64 0)]),
 o1 3 (.mov k0)]) (.seq (.seq (.region [
 o1 8 (.mov (tm 0)),
 o1 9 (.callV (.func 22) [(tm 8)]),
 o1 4 (.mov (tm 9))]) (.seq (.region [
 o1 10 (.mov (tm 4)),
 o1 11 (.bin .neq (so (.binOp .neq 26 (tm 10) k0 26) 4) (tm 10) k0)]) (.cond (tm 11)
 (.seq (.region [
 o1 12 (.build [(.int .u64 0), (.int .u64 0)] []),
 o1 13 (.mov (tm 4)),
 o3 (.store 2 (tm 2) (tm 12)),
 o1 3 (.mov (tm 13))]) .ret)
 .skip))) (.seq (.region [
 o1 5 (.mov (.const (.slice none 0 0)))]) (.seq (.seq (.region [
 o1 14 (.mov (tm 0)),
 o1 15 (.lenSl (tm 14)),
 o1 16 (.mov k0)]) (.block 0 (.loop zecQ_l0))) (.seq (.region [
 o1 26 (.mov (tm 5)),
 o1 27 (.callV (.func 62) [(tm 26)]),
 o1 28 (.extract 0 (tm 27)),
 o1 29 (.extract 1 (tm 27)),
 o3 (.store 2 (tm 2) (tm 28)),
 o1 3 (.mov (tm 29))]) .ret)))))
def zecQ : AFunc := ⟨30, [(2, some (some 2)), (3, none)], zecQ_c, none⟩
theorem zecQ_t0 : tableOf Try.prog 31 = some zecQ := by kernel_rfl
theorem zecQ_t : T0 31 = some zecQ := withKept_t rfl (withTrue_t rfl zecQ_t0)
theorem zecQ_runs {v0 : Value} {h : Heap} {R : RP} {X : XP} (k : RunC Try.prog T0 zecQ_c ⟨[v0, U, U, U, U, U, U, U, U, U, U, U, U, U, U, U, U, U, U, U, U, U, U, U, U, U, U, U, U, U], [], h, none⟩ (bodyQ Try.prog T0 [(2, some (some 2)), (3, none)] R X)) :
 Runs Try.prog T0 (.fn 31) [v0] h R X := Runs.fn zecQ_t rfl k
def zecQ_l0_J (f0 f1 f2 f3 f4 f6 f8 f9 f10 f11 f12 f13 f14 f15 f26 f27 f28 f29 : Value) (ds : List Deferred) (rd : Option Nat) (I : Nat → Value → Value → Heap → Prop) (m : Nat) (s : St) : Prop := ∃ (v5 v16 : Value), ∃ h : Heap, ∃ (x7 x17 x18 x19 x20 x21 x22 x23 x24 x25 : Value), s = ⟨[f0, f1, f2, f3, f4, v5, f6, x7, f8, f9, f10, f11, f12, f13, f14, f15, v16, x17, x18, x19, x20, x21, x22, x23, x24, x25, f26, f27, f28, f29], ds, h, rd⟩ ∧ I m v5 v16 h
theorem zecQ_l0_rule {f0 f1 f2 f3 f4 f6 f8 f9 f10 f11 f12 f13 f14 f15 f26 f27 f28 f29 : Value} {ds : List Deferred} {rd : Option Nat} {Q : QP} (I : Nat → Value → Value → Heap → Prop) (hb : ∀ (m : Nat) (v5 v16 : Value) (h : Heap) (x7 x17 x18 x19 x20 x21 x22 x23 x24 x25 : Value) , I m v5 v16 h → RunC Try.prog T0 zecQ_l0 ⟨[f0, f1, f2, f3, f4, v5, f6, x7, f8, f9, f10, f11, f12, f13, f14, f15, v16, x17, x18, x19, x20, x21, x22, x23, x24, x25, f26, f27, f28, f29], ds, h, rd⟩ (loopQ (zecQ_l0_J f0 f1 f2 f3 f4 f6 f8 f9 f10 f11 f12 f13 f14 f15 f26 f27 f28 f29 ds rd I) m Q))
 (m : Nat) {v5 v16 : Value} {h : Heap} {x7 x17 x18 x19 x20 x21 x22 x23 x24 x25 : Value} (hi : I m v5 v16 h) : RunC Try.prog T0 (.loop zecQ_l0) ⟨[f0, f1, f2, f3, f4, v5, f6, x7, f8, f9, f10, f11, f12, f13, f14, f15, v16, x17, x18, x19, x20, x21, x22, x23, x24, x25, f26, f27, f28, f29], ds, h, rd⟩ Q :=
 RunC.loopJ (zecQ_l0_J f0 f1 f2 f3 f4 f6 f8 f9 f10 f11 f12 f13 f14 f15 f26 f27 f28 f29 ds rd I) (fun m s hj => by obtain ⟨v5, v16, h, x7, x17, x18, x19, x20, x21, x22, x23, x24, x25, rfl, hi⟩ := hj; exact hb m v5 v16 h x7 x17 x18 x19 x20 x21 x22 x23 x24 x25 hi) m _ ⟨_, _, h, _, _, _, _, _, _, _, _, _, _, rfl, hi⟩
theorem zecQ_l0_again {f0 f1 f2 f3 f4 f6 f8 f9 f10 f11 f12 f13 f14 f15 f26 f27 f28 f29 : Value} {ds : List Deferred} {rd : Option Nat} {Q : QP} {I : Nat → Value → Value → Heap → Prop} {m : Nat} (m' : Nat) {v5 v16 : Value} {h : Heap} {x7 x17 x18 x19 x20 x21 x22 x23 x24 x25 : Value} (hm : m' < m) (hi : I m' v5 v16 h) : loopQ (zecQ_l0_J f0 f1 f2 f3 f4 f6 f8 f9 f10 f11 f12 f13 f14 f15 f26 f27 f28 f29 ds rd I) m Q .normal ⟨[f0, f1, f2, f3, f4, v5, f6, x7, f8, f9, f10, f11, f12, f13, f14, f15, v16, x17, x18, x19, x20, x21, x22, x23, x24, x25, f26, f27, f28, f29], ds, h, rd⟩ :=
 loopQ.again m' hm ⟨_, _, h, _, _, _, _, _, _, _, _, _, _, rfl, hi⟩
abbrev fn_zpbQ : FuncId := 33
def zpbQ_l0 : ACode :=
 (.seq (.seq (.region [
 o1 13 (.mov (tm 6)),
 o1 14 (.mov (tm 0)),
 o1 15 (.lenSl (tm 14)),
 o1 16 (.bin .lss (so (.binOp .lss 3 (tm 13) (tm 15) 3) 4) (tm 13) (tm 15))]) (.cond (tm 16)
 .skip
 (.exit 0))) (.seq (.block 1 (.region [
 o1 19 (.mov (tm 5)),
 o1 20 (.mov (tm 0)),
 o1 21 (.mov (tm 6)),
 o1 22 (.indexSl 5 (tm 20) (tm 21)),
 o1 23 (.fieldAddr 4 (tm 22)),
 o1 24 (.load none (tm 23)),
 o1 25 (.buildSlice 3 [(.int .i64 0)] 1 [(0, 1, (tm 24))]),
 o1 26 (.append 3 1 8 [(.int .i64 0)] false (tm 19) (tm 25)),
 o1 5 (.mov (tm 26))])) (.region [
 o1 17 (.mov (tm 6)),
 o1 18 (.bin .add (so (.binOp .add 3 (tm 17) (.const (.int .i64 1)) 3) 3) (tm 17) (.const (.int .i64 1))),
 o1 6 (.mov (tm 18))])))
def zpbQ_c : ACode :=
 (.seq (.region [
 o1 2 (.alloc 52 [(.int .u64 0), (.int .u64 0)]),
 o1 3 (.mov k0)]) (.seq (.region [
 o1 7 (.mov (tm 0)),
 o1 8 (.callV (.func 38) [(tm 7)]),
 o1 4 (.mov (tm 8))]) (.seq (.seq (.region [
 o1 9 (.mov (tm 4)),
 o1 10 (.bin .neq (so (.binOp .neq 26 (tm 9) k0 26) 4) (tm 9) k0)]) (.cond (tm 10)
 (.seq (.region [
 o1 11 (.build [(.int .u64 0), (.int .u64 0)] []),
 o1 12 (.mov (tm 4)),
 o3 (.store 2 (tm 2) (tm 11)),
 o1 3 (.mov (tm 12))]) .ret)
 .skip)) (.seq (.region [
 o1 5 (.mov (.const (.slice none 0 0)))]) (.seq (.seq (.region [
 o1 6 (.mov k0)]) (.block 0 (.loop zpbQ_l0))) (.seq (.region [
 o1 27 (.mov (tm 5)),
 o1 28 (.callV (.func 63) [(tm 27)]),
 o1 29 (.extract 0 (tm 28)),
 o1 30 (.extract 1 (tm 28)),
 o3 (.store 2 (tm 2) (tm 29)),
 o1 3 (.mov (tm 30))]) .ret))))))
def zpbQ : AFunc := ⟨31, [(2, some (some 2)), (3, none)], zpbQ_c, none⟩
theorem zpbQ_t0 : tableOf Try.prog 33 = some zpbQ := by kernel_rfl
theorem zpbQ_t : T0 33 = some zpbQ := withKept_t rfl (withTrue_t rfl zpbQ_t0)
theorem zpbQ_runs {v0 : Value} {h : Heap} {R : RP} {X : XP} (k : RunC Try.prog T0 zpbQ_c ⟨[v0, U, U, U, U, U, U, U, U, U, U, U, U, U, U, U, U, U, U, U, U, U, U, U, U, U, U, U, U, U, U], [], h, none⟩ (bodyQ Try.prog T0 [(2, some (some 2)), (3, none)] R X)) :
 Runs Try.prog T0 (.fn 33) [v0] h R X := Runs.fn zpbQ_t rfl k
def zpbQ_l0_J (f0 f1 f2 f3 f4 f7 f8 f9 f10 f11 f12 f27 f28 f29 f30 : Value) (ds : List Deferred) (rd : Option Nat) (I : Nat → Value → Value → Heap → Prop) (m : Nat) (s : St) : Prop := ∃ (v5 v6 : Value), ∃ h : Heap, ∃ (x13 x14 x15 x16 x17 x18 x19 x20 x21 x22 x23 x24 x25 x26 : Value), s = ⟨[f0, f1, f2, f3, f4, v5, v6, f7, f8, f9, f10, f11, f12, x13, x14, x15, x16, x17, x18, x19, x20, x21, x22, x23, x24, x25, x26, f27, f28, f29, f30], ds, h, rd⟩ ∧ I m v5 v6 h
theorem zpbQ_l0_rule {f0 f1 f2 f3 f4 f7 f8 f9 f10 f11 f12 f27 f28 f29 f30 : Value} {ds : List Deferred} {rd : Option Nat} {Q : QP} (I : Nat → Value → Value → Heap → Prop) (hb : ∀ (m : Nat) (v5 v6 : Value) (h : Heap) (x13 x14 x15 x16 x17 x18 x19 x20 x21 x22 x23 x24 x25 x26 : Value) , I m v5 v6 h → RunC Try.prog T0 zpbQ_l0 ⟨[f0, f1, f2, f3, f4, v5, v6, f7, f8, f9, f10, f11, f12, x13, x14, x15, x16, x17, x18, x19, x20, x21, x22, x23, x24, x25, x26, f27, f28, f29, f30], ds, h, rd⟩ (loopQ (zpbQ_l0_J f0 f1 f2 f3 f4 f7 f8 f9 f10 f11 f12 f27 f28 f29 f30 ds rd I) m Q))
 (m : Nat) {v5 v6 : Value} {h : Heap} {x13 x14 x15 x16 x17 x18 x19 x20 x21 x22 x23 x24 x25 x26 : Value} (hi : I m v5 v6 h) : RunC Try.prog T0 (.loop zpbQ_l0) ⟨[f0, f1, f2, f3, f4, v5, v6, f7, f8, f9, f10, f11, f12, x13, x14, x15, x16, x17, x18, x19, x20, x21, x22, x23, x24, x25, x26, f27, f28, f29, f30], ds, h, rd⟩ Q :=
 RunC.loopJ (zpbQ_l0_J f0 f1 f2 f3 f4 f7 f8 f9 f10 f11 f12 f27 f28 f29 f30 ds rd I) (fun m s hj => by obtain ⟨v5, v6, h, x13, x14, x15, x16, x17, x18, x19, x20, x21, x22, x23, x24, x25, x26, rfl, hi⟩ := hj; exact hb m v5 v6 h x13 x14 x15 x16 x17 x18 x19 x20 x21 x22 x23 x24 x25 x26 hi) m _ ⟨_, _, h, _, _, _, _, _, _, _, _, _, _, _, _, _, _, rfl, hi⟩
theorem zpbQ_l0_again {f0 f1 f2 f3 f4 f7 f8 f9 f10 f11 f12 f27 f28 f29 f30 : Value} {ds : List Deferred} {rd : Option Nat} {Q : QP} {I : Nat → Value → Value → Heap → Prop} {m : Nat} (m' : Nat) {v5 v6 : Value} {h : Heap} {x13 x14 x15 x16 x17 x18 x19 x20 x21 x22 x23 x24 x25 x26 : Value} (hm : m' < m) (hi : I m' v5 v6 h) : loopQ (zpbQ_l0_J f0 f1 f2 f3 f4 f7 f8 f9 f10 f11 f12 f27 f28 f29 f30 ds rd I) m Q .normal ⟨[f0, f1, f2, f3, f4, v5, v6, f7, f8, f9, f10, f11, f12, x13, x14, x15, x16, x17, x18, x19, x20, x21, x22, x23, x24, x25, x26, f27, f28, f29, f30], ds, h, rd⟩ :=
 loopQ.again m' hm ⟨_, _, h, _, _, _, _, _, _, _, _, _, _, _, _, _, _, rfl, hi⟩
abbrev fn_zmbQ : FuncId := 34
def zmbQ_l0 : ACode :=
 (.seq (.seq (.region [
 o1 7 (.mov (tm 6)),
 o1 8 (.mov (tm 0)),
 o1 9 (.lenSl (tm 8)),
 o1 10 (.bin .lss (so (.binOp .lss 3 (tm 7) (tm 9) 3) 4) (tm 7) (tm 9))]) (.cond (tm 10)
 .skip
 (.exit 0))) (.seq (.block 1 (.seq (.regionD [
 o1 13 (.mov (tm 0)),
 o1 14 (.mov (tm 6)),
 o1 15 (.indexSl 5 (tm 13) (tm 14)),
 o1 16 (.fieldAddr 0 (tm 15)),
 o1 17 (.load (some 4) (tm 16)),
 o1 18 (.load (some 4) (tm 3)),
 o2 19 (.bin .eql (so (.binOp .eql 42 (tm 17) (tm 18) 42) 4) (tm 17) (tm 18))]) (.cond (tm 19)
 (.seq (.region [
 o1 20 (.mov (tm 6)),
 o1 4 (.mov (tm 20)),
 o1 5 (.mov (.const (.bool true)))]) .ret)
 .skip))) (.region [
 o1 11 (.mov (tm 6)),
 o1 12 (.bin .add (so (.binOp .add 3 (tm 11) (.const (.int .i64 1)) 3) 3) (tm 11) (.const (.int .i64 1))),
 o1 6 (.mov (tm 12))])))
def zmbQ_c : ACode :=
 (.seq (.region [
 o1 3 (.box 42 (tm 1)),
 o1 4 (.mov k0),
 o1 5 (.mov (.const (.bool false)))]) (.seq (.seq (.region [
 o1 6 (.mov k0)]) (.block 0 (.loop zmbQ_l0))) (.seq (.region [
 o1 4 (.mov k0),
 o1 5 (.mov (.const (.bool false)))]) .ret)))
def zmbQ : AFunc := ⟨21, [(4, none), (5, none)], zmbQ_c, none⟩
theorem zmbQ_t0 : tableOf Try.prog 34 = some zmbQ := by kernel_rfl
theorem zmbQ_t : T0 34 = some zmbQ := withKept_t rfl (withTrue_t rfl zmbQ_t0)
theorem zmbQ_runs {v0 v1 : Value} {h : Heap} {R : RP} {X : XP} (k : RunC Try.prog T0 zmbQ_c ⟨[v0, v1, U, U, U, U, U, U, U, U, U, U, U, U, U, U, U, U, U, U, U], [], h, none⟩ (bodyQ Try.prog T0 [(4, none), (5, none)] R X)) :
 Runs Try.prog T0 (.fn 34) [v0, v1] h R X := Runs.fn zmbQ_t rfl k
def zmbQ_l0_J (f0 f1 f2 f3 : Value) (ds : List Deferred) (rd : Option Nat) (I : Nat → Value → Heap → Prop) (m : Nat) (s : St) : Prop := ∃ (v6 : Value), ∃ h : Heap, ∃ (x4 x5 x7 x8 x9 x10 x11 x12 x13 x14 x15 x16 x17 x18 x19 x20 : Value), s = ⟨[f0, f1, f2, f3, x4, x5, v6, x7, x8, x9, x10, x11, x12, x13, x14, x15, x16, x17, x18, x19, x20], ds, h, rd⟩ ∧ I m v6 h
theorem zmbQ_l0_rule {f0 f1 f2 f3 : Value} {ds : List Deferred} {rd : Option Nat} {Q : QP} (I : Nat → Value → Heap → Prop) (hb : ∀ (m : Nat) (v6 : Value) (h : Heap) (x4 x5 x7 x8 x9 x10 x11 x12 x13 x14 x15 x16 x17 x18 x19 x20 : Value) , I m v6 h → RunC Try.prog T0 zmbQ_l0 ⟨[f0, f1, f2, f3, x4, x5, v6, x7, x8, x9, x10, x11, x12, x13, x14, x15, x16, x17, x18, x19, x20], ds, h, rd⟩ (loopQ (zmbQ_l0_J f0 f1 f2 f3 ds rd I) m Q))
 (m : Nat) {v6 : Value} {h : Heap} {x4 x5 x7 x8 x9 x10 x11 x12 x13 x14 x15 x16 x17 x18 x19 x20 : Value} (hi : I m v6 h) : RunC Try.prog T0 (.loop zmbQ_l0) ⟨[f0, f1, f2, f3, x4, x5, v6, x7, x8, x9, x10, x11, x12, x13, x14, x15, x16, x17, x18, x19, x20], ds, h, rd⟩ Q :=
 RunC.loopJ (zmbQ_l0_J f0 f1 f2 f3 ds rd I) (fun m s hj => by obtain ⟨v6, h, x4, x5, x7, x8, x9, x10, x11, x12, x13, x14, x15, x16, x17, x18, x19, x20, rfl, hi⟩ := hj; exact hb m v6 h x4 x5 x7 x8 x9 x10 x11 x12 x13 x14 x15 x16 x17 x18 x19 x20 hi) m _ ⟨_, h, _, _, _, _, _, _, _, _, _, _, _, _, _, _, _, _, rfl, hi⟩
theorem zmbQ_l0_again {f0 f1 f2 f3 : Value} {ds : List Deferred} {rd : Option Nat} {Q : QP} {I : Nat → Value → Heap → Prop} {m : Nat} (m' : Nat) {v6 : Value} {h : Heap} {x4 x5 x7 x8 x9 x10 x11 x12 x13 x14 x15 x16 x17 x18 x19 x20 : Value} (hm : m' < m) (hi : I m' v6 h) : loopQ (zmbQ_l0_J f0 f1 f2 f3 ds rd I) m Q .normal ⟨[f0, f1, f2, f3, x4, x5, v6, x7, x8, x9, x10, x11, x12, x13, x14, x15, x16, x17, x18, x19, x20], ds, h, rd⟩ :=
 loopQ.again m' hm ⟨_, h, _, _, _, _, _, _, _, _, _, _, _, _, _, _, _, _, rfl, hi⟩
abbrev fn_zlbQ : FuncId := 35
def zlbQ_l0 : ACode :=
 (.seq (.seq (.region [
 o1 21 (.mov (tm 7)),
 o1 22 (.mov (tm 0)),
 o1 23 (.lenSl (tm 22)),
 o1 24 (.bin .lss (so (.binOp .lss 3 (tm 21) (tm 23) 3) 4) (tm 21) (tm 23))]) (.cond (tm 24)
 .skip
 (.exit 0))) (.seq (.block 1 (.seq (.region [
 o1 27 (.mov (tm 5)),
 o1 28 (.mov (tm 0)),
 o1 29 (.mov (tm 7)),
 o1 30 (.indexSl 5 (tm 28) (tm 29)),
 o1 31 (.fieldAddr 0 (tm 30)),
 o1 32 (.load (some 4) (tm 31)),
 o1 33 (.callV (.func 66) [(tm 27), (tm 32)])]) (.region [
 o1 34 (.mov (tm 5)),
 o1 35 (.mov (tm 0)),
 o1 36 (.mov (tm 7)),
 o1 37 (.indexSl 5 (tm 35) (tm 36)),
 o1 38 (.fieldAddr 4 (tm 37)),
 o1 39 (.load none (tm 38)),
 o1 40 (.callV (.func 65) [(tm 34), (tm 39)])]))) (.region [
 o1 25 (.mov (tm 7)),
 o1 26 (.bin .add (so (.binOp .add 3 (tm 25) (.const (.int .i64 1)) 3) 3) (tm 25) (.const (.int .i64 1))),
 o1 7 (.mov (tm 26))])))
def zlbQ_c : ACode :=
 (.seq (.region [
 o1 2 (.mov (.const (.slice none 0 0))),
 o1 3 (.mov k0)]) (.seq (.region [
 o1 8 (.mov (tm 0)),
 o1 9 (.callV (.func 38) [(tm 8)]),
 o1 4 (.mov (tm 9))]) (.seq (.seq (.region [
 o1 10 (.mov (tm 4)),
 o1 11 (.bin .neq (so (.binOp .neq 26 (tm 10) k0 26) 4) (tm 10) k0)]) (.cond (tm 11)
 (.seq (.region [
 o1 12 (.mov (tm 4)),
 o1 2 (.mov (.const (.slice none 0 0))),
 o1 3 (.mov (tm 12))]) .ret)
 .skip)) (.seq (.region [
 o1 14 (.callV (.func 64) [(.const (.int .i64 65536))]),
 o1 13 (.mov (tm 14)),
 o1 15 (.extract 0 (tm 13)),
 o1 16 (.extract 1 (tm 13)),
 o1 5 (.mov (tm 15)),
 o1 6 (.mov (tm 16))]) (.seq (.region [
 o1 17 (.mov (tm 5)),
 o1 18 (.mov (tm 0)),
 o1 19 (.lenSl (tm 18)),
 o1 20 (.callV (.func 65) [(tm 17), (tm 19)])]) (.seq (.seq (.region [
 o1 7 (.mov k0)]) (.block 0 (.loop zlbQ_l0))) (.seq (.region [
 o1 41 (.mov (tm 5)),
 o1 42 (.callV (.func 67) [(tm 41)]),
 o1 43 (.extract 0 (tm 42)),
 o1 44 (.extract 1 (tm 42)),
 o1 2 (.mov (tm 43)),
 o1 3 (.mov (tm 44))]) .ret)))))))
def zlbQ : AFunc := ⟨45, [(2, none), (3, none)], zlbQ_c, none⟩
theorem zlbQ_t0 : tableOf Try.prog 35 = some zlbQ := by kernel_rfl
theorem zlbQ_t : T0 35 = some zlbQ := withKept_t rfl (withTrue_t rfl zlbQ_t0)
theorem zlbQ_runs {v0 : Value} {h : Heap} {R : RP} {X : XP} (k : RunC Try.prog T0 zlbQ_c ⟨[v0, U, U, U, U, U, U, U, U, U, U, U, U, U, U, U, U, U, U, U, U, U, U, U, U, U, U, U, U, U, U, U, U, U, U, U, U, U, U, U, U, U, U, U, U], [], h, none⟩ (bodyQ Try.prog T0 [(2, none), (3, none)] R X)) :
 Runs Try.prog T0 (.fn 35) [v0] h R X := Runs.fn zlbQ_t rfl k
def zlbQ_l0_J (f0 f1 f2 f3 f4 f5 f6 f8 f9 f10 f11 f12 f13 f14 f15 f16 f17 f18 f19 f20 f41 f42 f43 f44 : Value) (ds : List Deferred) (rd : Option Nat) (I : Nat → Value → Heap → Prop) (m : Nat) (s : St) : Prop := ∃ (v7 : Value), ∃ h : Heap, ∃ (x21 x22 x23 x24 x25 x26 x27 x28 x29 x30 x31 x32 x33 x34 x35 x36 x37 x38 x39 x40 : Value), s = ⟨[f0, f1, f2, f3, f4, f5, f6, v7, f8, f9, f10, f11, f12, f13, f14, f15, f16, f17, f18, f19, f20, x21, x22, x23, x24, x25, x26, x27, x28, x29, x30, x31, x32, x33, x34, x35, x36, x37, x38, x39, x40, f41, f42, f43, f44], ds, h, rd⟩ ∧ I m v7 h
theorem zlbQ_l0_rule {f0 f1 f2 f3 f4 f5 f6 f8 f9 f10 f11 f12 f13 f14 f15 f16 f17 f18 f19 f20 f41 f42 f43 f44 : Value} {ds : List Deferred} {rd : Option Nat} {Q : QP} (I : Nat → Value → Heap → Prop) (hb : ∀ (m : Nat) (v7 : Value) (h : Heap) (x21 x22 x23 x24 x25 x26 x27 x28 x29 x30 x31 x32 x33 x34 x35 x36 x37 x38 x39 x40 : Value) , I m v7 h → RunC Try.prog T0 zlbQ_l0 ⟨[f0, f1, f2, f3, f4, f5, f6, v7, f8, f9, f10, f11, f12, f13, f14, f15, f16, f17, f18, f19, f20, x21, x22, x23, x24, x25, x26, x27, x28, x29, x30, x31, x32, x33, x34, x35, x36, x37, x38, x39, x40, f41, f42, f43, f44], ds, h, rd⟩ (loopQ (zlbQ_l0_J f0 f1 f2 f3 f4 f5 f6 f8 f9 f10 f11 f12 f13 f14 f15 f16 f17 f18 f19 f20 f41 f42 f43 f44 ds rd I) m Q))
 (m : Nat) {v7 : Value} {h : Heap} {x21 x22 x23 x24 x25 x26 x27 x28 x29 x30 x31 x32 x33 x34 x35 x36 x37 x38 x39 x40 : Value} (hi : I m v7 h) : RunC Try.prog T0 (.loop zlbQ_l0) ⟨[f0, f1, f2, f3, f4, f5, f6, v7, f8, f9, f10, f11, f12, f13, f14, f15, f16, f17, f18, f19, f20, x21, x22, x23, x24, x25, x26, x27, x28, x29, x30, x31, x32, x33, x34, x35, x36, x37, x38, x39, x40, f41, f42, f43, f44], ds, h, rd⟩ Q :=
 RunC.loopJ (zlbQ_l0_J f0 f1 f2 f3 f4 f5 f6 f8 f9 f10 f11 f12 f13 f14 f15 f16 f17 f18 f19 f20 f41 f42 f43 f44 ds rd I) (fun m s hj => by obtain ⟨v7, h, x21, x22, x23, x24, x25, x26, x27, x28, x29, x30, x31, x32, x33, x34, x35, x36, x37, x38, x39, x40, rfl, hi⟩ := hj; exact hb m v7 h x21 x22 x23 x24 x25 x26 x27 x28 x29 x30 x31 x32 x33 x34 x35 x36 x37 x38 x39 x40 hi) m _ ⟨_, h, _, _, _, _, _, _, _, _, _, _, _, _, _, _, _, _, _, _, _, _, rfl, hi⟩
theorem zlbQ_l0_again {f0 f1 f2 f3 f4 f5 f6 f8 f9 f10 f11 f12 f13 f14 f15 f16 f17 f18 f19 f20 f41 f42 f43 f44 : Value} {ds : List Deferred} {rd : Option Nat} {Q : QP} {I : Nat → Value → Heap → Prop} {m : Nat} (m' : Nat) {v7 : Value} {h : Heap} {x21 x22 x23 x24 x25 x26 x27 x28 x29 x30 x31 x32 x33 x34 x35 x36 x37 x38 x39 x40 : Value} (hm : m' < m) (hi : I m' v7 h) : loopQ (zlbQ_l0_J f0 f1 f2 f3 f4 f5 f6 f8 f9 f10 f11 f12 f13 f14 f15 f16 f17 f18 f19 f20 f41 f42 f43 f44 ds rd I) m Q .normal ⟨[f0, f1, f2, f3, f4, f5, f6, v7, f8, f9, f10, f11, f12, f13, f14, f15, f16, f17, f18, f19, f20, x21, x22, x23, x24, x25, x26, x27, x28, x29, x30, x31, x32, x33, x34, x35, x36, x37, x38, x39, x40, f41, f42, f43, f44], ds, h, rd⟩ :=
 loopQ.again m' hm ⟨_, h, _, _, _, _, _, _, _, _, _, _, _, _, _, _, _, _, _, _, _, _, rfl, hi⟩
abbrev fn_zdcQ : FuncId := 36
def zdcQ_c : ACode :=
 (.seq (.region [
 o1 2 (.alloc 63 z32),
 o1 3 (.mov k0)]) (.seq (.region [
 o1 7 (.mov (tm 0)),
 o1 8 (.callV (.func 25) [(tm 7)]),
 o1 6 (.mov (tm 8)),
 o1 9 (.extract 0 (tm 6)),
 o1 10 (.extract 1 (tm 6)),
 o1 4 (.mov (tm 9)),
 o1 5 (.mov (tm 10))]) (.seq (.seq (.region [
 o1 11 (.mov (tm 5)),
 o1 12 (.bin .neq (so (.binOp .neq 26 (tm 11) k0 26) 4) (tm 11) k0)]) (.cond (tm 12)
 (.seq (.region [
 o1 13 (.build z32 []),
 o1 14 (.mov (tm 5)),
 o3 (.store 32 (tm 2) (tm 13)),
 o1 3 (.mov (tm 14))]) .ret)
 .skip)) (.seq (.region [
 o1 15 (.mov (tm 4)),
 o1 16 (.callV (.func 68) [(tm 15)]),
 o3 (.store 32 (tm 2) (tm 16)),
 o1 3 (.mov k0)]) .ret))))
def zdcQ : AFunc := ⟨17, [(2, some (some 32)), (3, none)], zdcQ_c, none⟩
theorem zdcQ_t0 : tableOf Try.prog 36 = some zdcQ := by kernel_rfl
theorem zdcQ_t : T0 36 = some zdcQ := withKept_t rfl (withTrue_t rfl zdcQ_t0)
theorem zdcQ_runs {v0 : Value} {h : Heap} {R : RP} {X : XP} (k : RunC Try.prog T0 zdcQ_c ⟨[v0, U, U, U, U, U, U, U, U, U, U, U, U, U, U, U, U], [], h, none⟩ (bodyQ Try.prog T0 [(2, some (some 32)), (3, none)] R X)) :
 Runs Try.prog T0 (.fn 36) [v0] h R X := Runs.fn zdcQ_t rfl k
abbrev fn_znbQ : FuncId := 37
def znbQ_c : ACode :=
 (.seq (.region [
 o1 2 (.alloc 63 z32),
 o1 3 (.mov k0)]) (.seq (.region [
 o1 7 (.mov (tm 0)),
 o1 8 (.callV (.func 35) [(tm 7)]),
 o1 6 (.mov (tm 8)),
 o1 9 (.extract 0 (tm 6)),
 o1 10 (.extract 1 (tm 6)),
 o1 4 (.mov (tm 9)),
 o1 5 (.mov (tm 10))]) (.seq (.seq (.region [
 o1 11 (.mov (tm 5)),
 o1 12 (.bin .neq (so (.binOp .neq 26 (tm 11) k0 26) 4) (tm 11) k0)]) (.cond (tm 12)
 (.seq (.region [
 o1 13 (.build z32 []),
 o1 14 (.mov (tm 5)),
 o3 (.store 32 (tm 2) (tm 13)),
 o1 3 (.mov (tm 14))]) .ret)
 .skip)) (.seq (.region [
 o1 15 (.mov (tm 4)),
 o1 16 (.callV (.func 69) [(tm 15)]),
 o3 (.store 32 (tm 2) (tm 16)),
 o1 3 (.mov k0)]) .ret))))
def znbQ : AFunc := ⟨17, [(2, some (some 32)), (3, none)], znbQ_c, none⟩
theorem znbQ_t0 : tableOf Try.prog 37 = some znbQ := by kernel_rfl
theorem znbQ_t : T0 37 = some znbQ := withKept_t rfl (withTrue_t rfl znbQ_t0)
theorem znbQ_runs {v0 : Value} {h : Heap} {R : RP} {X : XP} (k : RunC Try.prog T0 znbQ_c ⟨[v0, U, U, U, U, U, U, U, U, U, U, U, U, U, U, U, U], [], h, none⟩ (bodyQ Try.prog T0 [(2, some (some 32)), (3, none)] R X)) :
 Runs Try.prog T0 (.fn 37) [v0] h R X := Runs.fn znbQ_t rfl k
abbrev fn_zkbQ : FuncId := 38
def zkbQ_l0 : ACode :=
 (.seq (.seq (.region [
 o1 12 (.mov (tm 3)),
 o1 13 (.mov (tm 0)),
 o1 14 (.lenSl (tm 13)),
 o1 15 (.bin .lss (so (.binOp .lss 3 (tm 12) (tm 14) 3) 4) (tm 12) (tm 14))]) (.cond (tm 15)
 .skip
 (.exit 1))) (.seq (.block 2 (.block 3 (.seq (.regionD [
 o2 19 (.mov (tm 3)),
 o2 20 (.bin .gtr (so (.binOp .gtr 3 (tm 19) k0 3) 4) (tm 19) k0),
 o2 21 (.mov (tm 20)),
 o4 22 (.mov (tm 0)) 21,
 o4 23 (.mov (tm 3)) 21,
 o4 24 (.bin .sub (so (.binOp .sub 3 (tm 23) (.const (.int .i64 1)) 3) 3) (tm 23) (.const (.int .i64 1))) 21,
 o4 25 (.indexSl 5 (tm 22) (tm 24)) 21,
 o4 26 (.fieldAddr 0 (tm 25)) 21,
 o4 27 (.load (some 4) (tm 26)) 21,
 o4 28 (.mov (tm 0)) 21,
 o4 29 (.mov (tm 3)) 21,
 o4 30 (.indexSl 5 (tm 28) (tm 29)) 21,
 o4 31 (.fieldAddr 0 (tm 30)) 21,
 o4 32 (.load (some 4) (tm 31)) 21,
 ⟨some 33, .callV (.func 50) [(tm 27), (tm 32)], some (21, true), [], true⟩,
 ⟨some 34, .raw (so (.unOp .not 4 (tm 33)) 4), some (21, true), [], true⟩,
 o2 35 (.pick (tm 21) (tm 34) (.const (.bool false))),
 o2 18 (.mov (tm 35))]) (.cond (tm 18)
 (.seq (.region [
 o1 2 (.mov (.const (.int .i64 9)))]) .ret)
 (.seq (.region [
 o1 37 (.mov (tm 0)),
 o1 38 (.mov (tm 3)),
 o1 39 (.indexSl 5 (tm 37) (tm 38)),
 o1 40 (.fieldAddr 4 (tm 39)),
 o1 41 (.load none (tm 40)),
 o1 42 (.bin .lss (so (.binOp .lss 3 (tm 41) (.const (.int .i64 1)) 3) 4) (tm 41) (.const (.int .i64 1))),
 o1 43 (.mov (tm 42)),
 o5 44 (.mov (tm 0)) 43,
 o5 45 (.mov (tm 3)) 43,
 o5 46 (.indexSl 5 (tm 44) (tm 45)) 43,
 o5 47 (.fieldAddr 4 (tm 46)) 43,
 o5 48 (.load none (tm 47)) 43,
 o5 49 (.bin .gtr (so (.binOp .gtr 3 (tm 48) (.const (.int .i64 4611686018427387904)) 3) 4) (tm 48) (.const (.int .i64 4611686018427387904))) 43,
 o1 50 (.pick (tm 43) (.const (.bool true)) (tm 49)),
 o1 36 (.mov (tm 50))]) (.cond (tm 36)
 (.seq (.region [
 o1 2 (.mov (.const (.int .i64 3)))]) .ret)
 .skip)))))) (.region [
 o1 16 (.mov (tm 3)),
 o1 17 (.bin .add (so (.binOp .add 3 (tm 16) (.const (.int .i64 1)) 3) 3) (tm 16) (.const (.int .i64 1))),
 o1 3 (.mov (tm 17))])))
def zkbQ_c : ACode :=
 (.seq (.region [
 o1 2 (.mov k0)]) (.seq (.block 0 (.seq (.region [
 o1 5 (.mov (tm 0)),
 o1 6 (.lenSl (tm 5)),
 o1 7 (.bin .eql (so (.binOp .eql 3 (tm 6) k0 3) 4) (tm 6) k0),
 o1 4 (.mov (tm 7))]) (.cond (tm 4)
 (.seq (.region [
 o1 2 (.mov (.const (.int .i64 6)))]) .ret)
 (.seq (.region [
 o1 9 (.mov (tm 0)),
 o1 10 (.lenSl (tm 9)),
 o1 11 (.bin .gtr (so (.binOp .gtr 3 (tm 10) (.const (.int .i64 64)) 3) 4) (tm 10) (.const (.int .i64 64))),
 o1 8 (.mov (tm 11))]) (.cond (tm 8)
 (.seq (.region [
 o1 2 (.mov (.const (.int .i64 4)))]) .ret)
 .skip))))) (.seq (.seq (.region [
 o1 3 (.mov k0)]) (.block 1 (.loop zkbQ_l0))) (.seq (.region [
 o1 2 (.mov k0)]) .ret))))
def zkbQ : AFunc := ⟨51, [(2, none)], zkbQ_c, none⟩
theorem zkbQ_t0 : tableOf Try.prog 38 = some zkbQ := by kernel_rfl
theorem zkbQ_t : T0 38 = some zkbQ := withKept_t rfl (withTrue_t rfl zkbQ_t0)
theorem zkbQ_runs {v0 : Value} {h : Heap} {R : RP} {X : XP} (k : RunC Try.prog T0 zkbQ_c ⟨[v0, U, U, U, U, U, U, U, U, U, U, U, U, U, U, U, U, U, U, U, U, U, U, U, U, U, U, U, U, U, U, U, U, U, U, U, U, U, U, U, U, U, U, U, U, U, U, U, U, U, U], [], h, none⟩ (bodyQ Try.prog T0 [(2, none)] R X)) :
 Runs Try.prog T0 (.fn 38) [v0] h R X := Runs.fn zkbQ_t rfl k
def zkbQ_l0_J (f0 f1 f4 f5 f6 f7 f8 f9 f10 f11 : Value) (ds : List Deferred) (rd : Option Nat) (I : Nat → Value → Heap → Prop) (m : Nat) (s : St) : Prop := ∃ (v3 : Value), ∃ h : Heap, ∃ (x2 x12 x13 x14 x15 x16 x17 x18 x19 x20 x21 x22 x23 x24 x25 x26 x27 x28 x29 x30 x31 x32 x33 x34 x35 x36 x37 x38 x39 x40 x41 x42 x43 x44 x45 x46 x47 x48 x49 x50 : Value), s = ⟨[f0, f1, x2, v3, f4, f5, f6, f7, f8, f9, f10, f11, x12, x13, x14, x15, x16, x17, x18, x19, x20, x21, x22, x23, x24, x25, x26, x27, x28, x29, x30, x31, x32, x33, x34, x35, x36, x37, x38, x39, x40, x41, x42, x43, x44, x45, x46, x47, x48, x49, x50], ds, h, rd⟩ ∧ I m v3 h
theorem zkbQ_l0_rule {f0 f1 f4 f5 f6 f7 f8 f9 f10 f11 : Value} {ds : List Deferred} {rd : Option Nat} {Q : QP} (I : Nat → Value → Heap → Prop) (hb : ∀ (m : Nat) (v3 : Value) (h : Heap) (x2 x12 x13 x14 x15 x16 x17 x18 x19 x20 x21 x22 x23 x24 x25 x26 x27 x28 x29 x30 x31 x32 x33 x34 x35 x36 x37 x38 x39 x40 x41 x42 x43 x44 x45 x46 x47 x48 x49 x50 : Value) , I m v3 h → RunC Try.prog T0 zkbQ_l0 ⟨[f0, f1, x2, v3, f4, f5, f6, f7, f8, f9, f10, f11, x12, x13, x14, x15, x16, x17, x18, x19, x20, x21, x22, x23, x24, x25, x26, x27, x28, x29, x30, x31, x32, x33, x34, x35, x36, x37, x38, x39, x40, x41, x42, x43, x44, x45, x46, x47, x48, x49, x50], ds, h, rd⟩ (loopQ (zkbQ_l0_J f0 f1 f4 f5 f6 f7 f8 f9 f10 f11 ds rd I) m Q))
 (m : Nat) {v3 : Value} {h : Heap} {x2 x12 x13 x14 x15 x16 x17 x18 x19 x20 x21 x22 x23 x24 x25 x26 x27 x28 x29 x30 x31 x32 x33 x34 x35 x36 x37 x38 x39 x40 x41 x42 x43 x44 x45 x46 x47 x48 x49 x50 : Value} (hi : I m v3 h) : RunC Try.prog T0 (.loop zkbQ_l0) ⟨[f0, f1, x2, v3, f4, f5, f6, f7, f8, f9, f10, f11, x12, x13, x14, x15, x16, x17, x18, x19, x20, x21, x22, x23, x24, x25, x26, x27, x28, x29, x30, x31, x32, x33, x34, x35, x36, x37, x38, x39, x40, x41, x42, x43, x44, x45, x46, x47, x48, x49, x50], ds, h, rd⟩ Q :=
 RunC.loopJ (zkbQ_l0_J f0 f1 f4 f5 f6 f7 f8 f9 f10 f11 ds rd I) (fun m s hj => by obtain ⟨v3, h, x2, x12, x13, x14, x15, x16, x17, x18, x19, x20, x21, x22, x23, x24, x25, x26, x27, x28, x29, x30, x31, x32, x33, x34, x35, x36, x37, x38, x39, x40, x41, x42, x43, x44, x45, x46, x47, x48, x49, x50, rfl, hi⟩ := hj; exact hb m v3 h x2 x12 x13 x14 x15 x16 x17 x18 x19 x20 x21 x22 x23 x24 x25 x26 x27 x28 x29 x30 x31 x32 x33 x34 x35 x36 x37 x38 x39 x40 x41 x42 x43 x44 x45 x46 x47 x48 x49 x50 hi) m _ ⟨_, h, _, _, _, _, _, _, _, _, _, _, _, _, _, _, _, _, _, _, _, _, _, _, _, _, _, _, _, _, _, _, _, _, _, _, _, _, _, _, _, _, rfl, hi⟩
theorem zkbQ_l0_again {f0 f1 f4 f5 f6 f7 f8 f9 f10 f11 : Value} {ds : List Deferred} {rd : Option Nat} {Q : QP} {I : Nat → Value → Heap → Prop} {m : Nat} (m' : Nat) {v3 : Value} {h : Heap} {x2 x12 x13 x14 x15 x16 x17 x18 x19 x20 x21 x22 x23 x24 x25 x26 x27 x28 x29 x30 x31 x32 x33 x34 x35 x36 x37 x38 x39 x40 x41 x42 x43 x44 x45 x46 x47 x48 x49 x50 : Value} (hm : m' < m) (hi : I m' v3 h) : loopQ (zkbQ_l0_J f0 f1 f4 f5 f6 f7 f8 f9 f10 f11 ds rd I) m Q .normal ⟨[f0, f1, x2, v3, f4, f5, f6, f7, f8, f9, f10, f11, x12, x13, x14, x15, x16, x17, x18, x19, x20, x21, x22, x23, x24, x25, x26, x27, x28, x29, x30, x31, x32, x33, x34, x35, x36, x37, x38, x39, x40, x41, x42, x43, x44, x45, x46, x47, x48, x49, x50], ds, h, rd⟩ :=
 loopQ.again m' hm ⟨_, h, _, _, _, _, _, _, _, _, _, _, _, _, _, _, _, _, _, _, _, _, _, _, _, _, _, _, _, _, _, _, _, _, _, _, _, _, _, _, _, _, rfl, hi⟩
abbrev fn_zpQ : FuncId := 39
def zpQ_l0 : ACode :=
 (.seq (.seq (.region [
 o1 3 (.mov (tm 2)),
 o1 4 (.mov (tm 0)),
 o1 5 (.lenSl (tm 4)),
 o1 6 (.bin .lss (so (.binOp .lss 3 (tm 3) (tm 5) 3) 4) (tm 3) (tm 5))]) (.cond (tm 6)
 .skip
 (.exit 0))) (.seq (.block 1 (.region [
 o1 9 (.mov (tm 0)),
 o1 10 (.mov (tm 2)),
 o1 11 (.mov (tm 0)),
 o1 12 (.mov (tm 2)),
 o1 13 (.indexSl 1 (tm 11) (tm 12)),
 o1 14 (.load none (tm 13)),
 o1 15 (.bin .xor (so (.binOp .xor 5 (tm 14) (.const (.int .u8 165)) 5) 5) (tm 14) (.const (.int .u8 165))),
 o1 16 (.indexSl 1 (tm 9) (tm 10)),
 o3 (.store 1 (tm 16) (tm 15))])) (.region [
 o1 7 (.mov (tm 2)),
 o1 8 (.bin .add (so (.binOp .add 3 (tm 7) (.const (.int .i64 1)) 3) 3) (tm 7) (.const (.int .i64 1))),
 o1 2 (.mov (tm 8))])))
def zpQ_c : ACode :=
 (.seq (.region [
 o1 2 (.mov k0)]) (.block 0 (.loop zpQ_l0)))
def zpQ : AFunc := ⟨17, [], zpQ_c, none⟩
theorem zpQ_t0 : tableOf Try.prog 39 = some zpQ := by kernel_rfl
theorem zpQ_t : T0 39 = some zpQ := withKept_t rfl (withTrue_t rfl zpQ_t0)
theorem zpQ_runs {v0 : Value} {h : Heap} {R : RP} {X : XP} (k : RunC Try.prog T0 zpQ_c ⟨[v0, U, U, U, U, U, U, U, U, U, U, U, U, U, U, U, U], [], h, none⟩ (bodyQ Try.prog T0 [] R X)) :
 Runs Try.prog T0 (.fn 39) [v0] h R X := Runs.fn zpQ_t rfl k
def zpQ_l0_J (f0 f1 : Value) (ds : List Deferred) (rd : Option Nat) (I : Nat → Value → Heap → Prop) (m : Nat) (s : St) : Prop := ∃ (v2 : Value), ∃ h : Heap, ∃ (x3 x4 x5 x6 x7 x8 x9 x10 x11 x12 x13 x14 x15 x16 : Value), s = ⟨[f0, f1, v2, x3, x4, x5, x6, x7, x8, x9, x10, x11, x12, x13, x14, x15, x16], ds, h, rd⟩ ∧ I m v2 h
theorem zpQ_l0_rule {f0 f1 : Value} {ds : List Deferred} {rd : Option Nat} {Q : QP} (I : Nat → Value → Heap → Prop) (hb : ∀ (m : Nat) (v2 : Value) (h : Heap) (x3 x4 x5 x6 x7 x8 x9 x10 x11 x12 x13 x14 x15 x16 : Value) , I m v2 h → RunC Try.prog T0 zpQ_l0 ⟨[f0, f1, v2, x3, x4, x5, x6, x7, x8, x9, x10, x11, x12, x13, x14, x15, x16], ds, h, rd⟩ (loopQ (zpQ_l0_J f0 f1 ds rd I) m Q))
 (m : Nat) {v2 : Value} {h : Heap} {x3 x4 x5 x6 x7 x8 x9 x10 x11 x12 x13 x14 x15 x16 : Value} (hi : I m v2 h) : RunC Try.prog T0 (.loop zpQ_l0) ⟨[f0, f1, v2, x3, x4, x5, x6, x7, x8, x9, x10, x11, x12, x13, x14, x15, x16], ds, h, rd⟩ Q :=
 RunC.loopJ (zpQ_l0_J f0 f1 ds rd I) (fun m s hj => by obtain ⟨v2, h, x3, x4, x5, x6, x7, x8, x9, x10, x11, x12, x13, x14, x15, x16, rfl, hi⟩ := hj; exact hb m v2 h x3 x4 x5 x6 x7 x8 x9 x10 x11 x12 x13 x14 x15 x16 hi) m _ ⟨_, h, _, _, _, _, _, _, _, _, _, _, _, _, _, _, rfl, hi⟩
theorem zpQ_l0_again {f0 f1 : Value} {ds : List Deferred} {rd : Option Nat} {Q : QP} {I : Nat → Value → Heap → Prop} {m : Nat} (m' : Nat) {v2 : Value} {h : Heap} {x3 x4 x5 x6 x7 x8 x9 x10 x11 x12 x13 x14 x15 x16 : Value} (hm : m' < m) (hi : I m' v2 h) : loopQ (zpQ_l0_J f0 f1 ds rd I) m Q .normal ⟨[f0, f1, v2, x3, x4, x5, x6, x7, x8, x9, x10, x11, x12, x13, x14, x15, x16], ds, h, rd⟩ :=
 loopQ.again m' hm ⟨_, h, _, _, _, _, _, _, _, _, _, _, _, _, _, _, rfl, hi⟩
abbrev fn_zgcQ : FuncId := 48
def zgcQ_c : ACode :=
 (.seq (.region [
 o1 3 (.box 54 (tm 1)),
 o1 4 (.mov k0)]) (.seq (.regionD [
 o2 6 (.mov (tm 0)),
 o2 7 (.nilCheck (tm 6)),
 o2 8 (.fieldAddr 4 (tm 7)),
 o2 9 (.load none (tm 8)),
 o2 10 (.mov (tm 9)),
 o4 11 (.mov (tm 0)) 10,
 o4 12 (.nilCheck (tm 11)) 10,
 o4 13 (.fieldAddr 0 (tm 12)) 10,
 o4 14 (.sliceArr 4 1 (tm 13) none none) 10,
 o4 15 (.fieldAddr 0 (tm 3)) 10,
 o4 16 (.sliceArr 4 1 (tm 15) none none) 10,
 ⟨some 17, .callV (.func 79) [(tm 14), (tm 16)], some (10, true), [], true⟩,
 ⟨some 18, .bin .geq (so (.binOp .geq 3 (tm 17) k0 3) 4) (tm 17) k0, some (10, true), [], true⟩,
 o2 19 (.pick (tm 10) (tm 18) (.const (.bool false))),
 o2 5 (.mov (tm 19))]) (.seq (.region [
 o1 20 (.mov (tm 0)),
 o1 21 (.mov (tm 0)),
 o1 22 (.fieldAddr 0 (tm 3)),
 o1 23 (.load (some 4) (tm 22)),
 o1 24 (.nilCheck (tm 20)),
 o1 25 (.fieldAddr 0 (tm 24)),
 o3 (.store 4 (tm 25) (tm 23)),
 o1 26 (.nilCheck (tm 21)),
 o1 27 (.fieldAddr 4 (tm 26)),
 o3 (.store 1 (tm 27) (.const (.bool true)))]) (.seq (.block 0 (.seq (.region [
 o1 29 (.mov (tm 5)),
 o1 28 (.mov (tm 29))]) (.cond (tm 28)
 (.seq (.region [
 o1 4 (.mov (.const (.int .i64 9)))]) .ret)
 (.seq (.regionD [
 o1 31 (.fieldAddr 4 (tm 3)),
 o1 32 (.load none (tm 31)),
 o1 33 (.mov (tm 0)),
 o1 34 (.nilCheck (tm 33)),
 o1 35 (.fieldAddr 5 (tm 34)),
 o1 36 (.load none (tm 35)),
 o2 37 (.bin .lss (so (.binOp .lss 3 (tm 32) (tm 36) 3) 4) (tm 32) (tm 36)),
 o2 38 (.mov (tm 37)),
 o5 39 (.fieldAddr 4 (tm 3)) 38,
 o5 40 (.load none (tm 39)) 38,
 o5 41 (.mov (tm 0)) 38,
 o5 42 (.nilCheck (tm 41)) 38,
 o5 43 (.fieldAddr 6 (tm 42)) 38,
 o5 44 (.load none (tm 43)) 38,
 ⟨some 45, .bin .gtr (so (.binOp .gtr 3 (tm 40) (tm 44) 3) 4) (tm 40) (tm 44), some (38, false), [], true⟩,
 o2 46 (.pick (tm 38) (.const (.bool true)) (tm 45)),
 o2 30 (.mov (tm 46))]) (.cond (tm 30)
 (.seq (.region [
 o1 4 (.mov (.const (.int .i64 3)))]) .ret)
 .skip))))) (.seq (.region [
 o1 4 (.mov k0)]) .ret)))))
def zgcQ : AFunc := ⟨47, [(4, none)], zgcQ_c, none⟩
theorem zgcQ_t0 : tableOf Try.prog 48 = some zgcQ := by kernel_rfl
theorem zgcQ_t : T0 48 = some zgcQ := withKept_t rfl (withTrue_t rfl zgcQ_t0)
theorem zgcQ_runs {v0 v1 : Value} {h : Heap} {R : RP} {X : XP} (k : RunC Try.prog T0 zgcQ_c ⟨[v0, v1, U, U, U, U, U, U, U, U, U, U, U, U, U, U, U, U, U, U, U, U, U, U, U, U, U, U, U, U, U, U, U, U, U, U, U, U, U, U, U, U, U, U, U, U, U], [], h, none⟩ (bodyQ Try.prog T0 [(4, none)] R X)) :
 Runs Try.prog T0 (.fn 48) [v0, v1] h R X := Runs.fn zgcQ_t rfl k
abbrev fn_zobQ : FuncId := 50
def zobQ_l0 : ACode :=
 (.seq (.seq (.region [
 o1 6 (.mov (tm 5)),
 o1 7 (.bin .lss (so (.binOp .lss 3 (tm 6) (.const (.int .i64 4)) 3) 4) (tm 6) (.const (.int .i64 4)))]) (.cond (tm 7)
 .skip
 (.exit 0))) (.seq (.block 1 (.seq (.regionD [
 o1 10 (.mov (tm 5)),
 o1 11 (.indexArr 4 1 (tm 2) (tm 10)),
 o1 12 (.load none (tm 11)),
 o1 13 (.mov (tm 5)),
 o1 14 (.indexArr 4 1 (tm 3) (tm 13)),
 o1 15 (.load none (tm 14)),
 o2 16 (.bin .neq (so (.binOp .neq 5 (tm 12) (tm 15) 5) 4) (tm 12) (tm 15))]) (.cond (tm 16)
 (.seq (.regionD [
 o1 17 (.mov (tm 5)),
 o1 18 (.indexArr 4 1 (tm 2) (tm 17)),
 o1 19 (.load none (tm 18)),
 o1 20 (.mov (tm 5)),
 o1 21 (.indexArr 4 1 (tm 3) (tm 20)),
 o1 22 (.load none (tm 21)),
 o2 23 (.bin .lss (so (.binOp .lss 5 (tm 19) (tm 22) 5) 4) (tm 19) (tm 22)),
 o2 4 (.mov (tm 23))]) .ret)
 .skip))) (.region [
 o1 8 (.mov (tm 5)),
 o1 9 (.bin .add (so (.binOp .add 3 (tm 8) (.const (.int .i64 1)) 3) 3) (tm 8) (.const (.int .i64 1))),
 o1 5 (.mov (tm 9))])))
def zobQ_c : ACode :=
 (.seq (.region [
 o1 2 (.box 42 (tm 0)),
 o1 3 (.box 42 (tm 1)),
 o1 4 (.mov (.const (.bool false)))]) (.seq (.seq (.region [
 o1 5 (.mov k0)]) (.block 0 (.loop zobQ_l0))) (.seq (.region [
 o1 4 (.mov (.const (.bool false)))]) .ret)))
def zobQ : AFunc := ⟨24, [(4, none)], zobQ_c, none⟩
theorem zobQ_t0 : tableOf Try.prog 50 = some zobQ := by kernel_rfl
theorem zobQ_t : T0 50 = some zobQ := withKept_t rfl (withTrue_t rfl zobQ_t0)
theorem zobQ_runs {v0 v1 : Value} {h : Heap} {R : RP} {X : XP} (k : RunC Try.prog T0 zobQ_c ⟨[v0, v1, U, U, U, U, U, U, U, U, U, U, U, U, U, U, U, U, U, U, U, U, U, U], [], h, none⟩ (bodyQ Try.prog T0 [(4, none)] R X)) :
 Runs Try.prog T0 (.fn 50) [v0, v1] h R X := Runs.fn zobQ_t rfl k
def zobQ_l0_J (f0 f1 f2 f3 : Value) (ds : List Deferred) (rd : Option Nat) (I : Nat → Value → Heap → Prop) (m : Nat) (s : St) : Prop := ∃ (v5 : Value), ∃ h : Heap, ∃ (x4 x6 x7 x8 x9 x10 x11 x12 x13 x14 x15 x16 x17 x18 x19 x20 x21 x22 x23 : Value), s = ⟨[f0, f1, f2, f3, x4, v5, x6, x7, x8, x9, x10, x11, x12, x13, x14, x15, x16, x17, x18, x19, x20, x21, x22, x23], ds, h, rd⟩ ∧ I m v5 h
theorem zobQ_l0_rule {f0 f1 f2 f3 : Value} {ds : List Deferred} {rd : Option Nat} {Q : QP} (I : Nat → Value → Heap → Prop) (hb : ∀ (m : Nat) (v5 : Value) (h : Heap) (x4 x6 x7 x8 x9 x10 x11 x12 x13 x14 x15 x16 x17 x18 x19 x20 x21 x22 x23 : Value) , I m v5 h → RunC Try.prog T0 zobQ_l0 ⟨[f0, f1, f2, f3, x4, v5, x6, x7, x8, x9, x10, x11, x12, x13, x14, x15, x16, x17, x18, x19, x20, x21, x22, x23], ds, h, rd⟩ (loopQ (zobQ_l0_J f0 f1 f2 f3 ds rd I) m Q))
 (m : Nat) {v5 : Value} {h : Heap} {x4 x6 x7 x8 x9 x10 x11 x12 x13 x14 x15 x16 x17 x18 x19 x20 x21 x22 x23 : Value} (hi : I m v5 h) : RunC Try.prog T0 (.loop zobQ_l0) ⟨[f0, f1, f2, f3, x4, v5, x6, x7, x8, x9, x10, x11, x12, x13, x14, x15, x16, x17, x18, x19, x20, x21, x22, x23], ds, h, rd⟩ Q :=
 RunC.loopJ (zobQ_l0_J f0 f1 f2 f3 ds rd I) (fun m s hj => by obtain ⟨v5, h, x4, x6, x7, x8, x9, x10, x11, x12, x13, x14, x15, x16, x17, x18, x19, x20, x21, x22, x23, rfl, hi⟩ := hj; exact hb m v5 h x4 x6 x7 x8 x9 x10 x11 x12 x13 x14 x15 x16 x17 x18 x19 x20 x21 x22 x23 hi) m _ ⟨_, h, _, _, _, _, _, _, _, _, _, _, _, _, _, _, _, _, _, _, _, rfl, hi⟩
theorem zobQ_l0_again {f0 f1 f2 f3 : Value} {ds : List Deferred} {rd : Option Nat} {Q : QP} {I : Nat → Value → Heap → Prop} {m : Nat} (m' : Nat) {v5 : Value} {h : Heap} {x4 x6 x7 x8 x9 x10 x11 x12 x13 x14 x15 x16 x17 x18 x19 x20 x21 x22 x23 : Value} (hm : m' < m) (hi : I m' v5 h) : loopQ (zobQ_l0_J f0 f1 f2 f3 ds rd I) m Q .normal ⟨[f0, f1, f2, f3, x4, v5, x6, x7, x8, x9, x10, x11, x12, x13, x14, x15, x16, x17, x18, x19, x20, x21, x22, x23], ds, h, rd⟩ :=
 loopQ.again m' hm ⟨_, h, _, _, _, _, _, _, _, _, _, _, _, _, _, _, _, _, _, _, _, rfl, hi⟩
abbrev fn_zrbQ : FuncId := 52
def zrbQ_l0 : ACode :=
 (.seq (.seq (.region [
 o1 15 (.mov (tm 9)),
 o1 16 (.mov (tm 10)),
 o1 17 (.bin .lss (so (.binOp .lss 3 (tm 15) (tm 16) 3) 4) (tm 15) (tm 16))]) (.cond (tm 17)
 .skip
 (.exit 0))) (.block 1 (.seq (.region [
 o1 18 (.mov (tm 9)),
 o1 19 (.mov (tm 10)),
 o1 20 (.bin .add (so (.binOp .add 3 (tm 18) (tm 19) 3) 3) (tm 18) (tm 19)),
 o1 21 (.conv .u64 (so (.convert 3 115 (tm 20)) 115) (tm 20)),
 o1 22 (.bin .shr (so (.binOp .shr 115 (tm 21) (.const (.int .u64 1)) 115) 115) (tm 21) (.const (.int .u64 1))),
 o1 23 (.conv .i64 (so (.convert 115 3 (tm 22)) 3) (tm 22)),
 o1 11 (.mov (tm 23))]) (.seq (.regionD [
 o1 24 (.mov (tm 2)),
 o1 25 (.mov (tm 0)),
 o1 26 (.mov (tm 11)),
 o1 27 (.indexSl 5 (tm 25) (tm 26)),
 o1 28 (.load (some 5) (tm 27)),
 o1 29 (.load (some 4) (tm 4)),
 o2 30 (.callV (tm 24) [(tm 28), (tm 29)]),
 o2 31 (.bin .lss (so (.binOp .lss 3 (tm 30) k0 3) 4) (tm 30) k0)]) (.cond (tm 31)
 (.region [
 o1 32 (.mov (tm 11)),
 o1 33 (.bin .add (so (.binOp .add 3 (tm 32) (.const (.int .i64 1)) 3) 3) (tm 32) (.const (.int .i64 1))),
 o1 9 (.mov (tm 33))])
 (.region [
 o1 34 (.mov (tm 11)),
 o1 10 (.mov (tm 34))]))))))
def zrbQ_c : ACode :=
 (.seq (.region [
 o1 4 (.box 42 (tm 1)),
 o1 6 (.mov k0),
 o1 7 (.mov (.const (.bool false)))]) (.seq (.region [
 o1 12 (.mov (tm 0)),
 o1 13 (.lenSl (tm 12)),
 o1 8 (.mov (tm 13))]) (.seq (.region [
 o1 14 (.mov (tm 8)),
 o1 9 (.mov k0),
 o1 10 (.mov (tm 14))]) (.seq (.block 0 (.loop zrbQ_l0)) (.seq (.regionD [
 o1 35 (.mov (tm 9)),
 o1 36 (.mov (tm 9)),
 o1 37 (.mov (tm 8)),
 o1 38 (.bin .lss (so (.binOp .lss 3 (tm 36) (tm 37) 3) 4) (tm 36) (tm 37)),
 o1 39 (.mov (tm 38)),
 o4 40 (.mov (tm 2)) 39,
 o4 41 (.mov (tm 0)) 39,
 o4 42 (.mov (tm 9)) 39,
 o4 43 (.indexSl 5 (tm 41) (tm 42)) 39,
 o4 44 (.load (some 5) (tm 43)) 39,
 o4 45 (.load (some 4) (tm 4)) 39,
 ⟨some 46, .callV (tm 40) [(tm 44), (tm 45)], some (39, true), [(some 35, .mov (tm 9), none)], false⟩,
 o4 47 (.bin .eql (so (.binOp .eql 3 (tm 46) k0 3) 4) (tm 46) k0) 39,
 o1 48 (.pick (tm 39) (tm 47) (.const (.bool false))),
 o1 6 (.mov (tm 35)),
 o2 7 (.mov (tm 48))]) .ret)))))
def zrbQ : AFunc := ⟨49, [(6, none), (7, none)], zrbQ_c, none⟩
theorem zrbQ_t0 : tableOf Try.prog 52 = some zrbQ := by kernel_rfl
theorem zrbQ_t : T0 52 = some zrbQ := withKept_t rfl (withTrue_t rfl zrbQ_t0)
theorem zrbQ_runs {v0 v1 v2 : Value} {h : Heap} {R : RP} {X : XP} (k : RunC Try.prog T0 zrbQ_c ⟨[v0, v1, v2, U, U, U, U, U, U, U, U, U, U, U, U, U, U, U, U, U, U, U, U, U, U, U, U, U, U, U, U, U, U, U, U, U, U, U, U, U, U, U, U, U, U, U, U, U, U], [], h, none⟩ (bodyQ Try.prog T0 [(6, none), (7, none)] R X)) :
 Runs Try.prog T0 (.fn 52) [v0, v1, v2] h R X := Runs.fn zrbQ_t rfl k
def zrbQ_l0_J (f0 f1 f2 f3 f4 f5 f6 f7 f8 f12 f13 f14 f35 f36 f37 f38 f39 f40 f41 f42 f43 f44 f45 f46 f47 f48 : Value) (ds : List Deferred) (rd : Option Nat) (I : Nat → Value → Value → Heap → Prop) (m : Nat) (s : St) : Prop := ∃ (v9 v10 : Value), ∃ h : Heap, ∃ (x11 x15 x16 x17 x18 x19 x20 x21 x22 x23 x24 x25 x26 x27 x28 x29 x30 x31 x32 x33 x34 : Value), s = ⟨[f0, f1, f2, f3, f4, f5, f6, f7, f8, v9, v10, x11, f12, f13, f14, x15, x16, x17, x18, x19, x20, x21, x22, x23, x24, x25, x26, x27, x28, x29, x30, x31, x32, x33, x34, f35, f36, f37, f38, f39, f40, f41, f42, f43, f44, f45, f46, f47, f48], ds, h, rd⟩ ∧ I m v9 v10 h
theorem zrbQ_l0_rule {f0 f1 f2 f3 f4 f5 f6 f7 f8 f12 f13 f14 f35 f36 f37 f38 f39 f40 f41 f42 f43 f44 f45 f46 f47 f48 : Value} {ds : List Deferred} {rd : Option Nat} {Q : QP} (I : Nat → Value → Value → Heap → Prop) (hb : ∀ (m : Nat) (v9 v10 : Value) (h : Heap) (x11 x15 x16 x17 x18 x19 x20 x21 x22 x23 x24 x25 x26 x27 x28 x29 x30 x31 x32 x33 x34 : Value) , I m v9 v10 h → RunC Try.prog T0 zrbQ_l0 ⟨[f0, f1, f2, f3, f4, f5, f6, f7, f8, v9, v10, x11, f12, f13, f14, x15, x16, x17, x18, x19, x20, x21, x22, x23, x24, x25, x26, x27, x28, x29, x30, x31, x32, x33, x34, f35, f36, f37, f38, f39, f40, f41, f42, f43, f44, f45, f46, f47, f48], ds, h, rd⟩ (loopQ (zrbQ_l0_J f0 f1 f2 f3 f4 f5 f6 f7 f8 f12 f13 f14 f35 f36 f37 f38 f39 f40 f41 f42 f43 f44 f45 f46 f47 f48 ds rd I) m Q))
 (m : Nat) {v9 v10 : Value} {h : Heap} {x11 x15 x16 x17 x18 x19 x20 x21 x22 x23 x24 x25 x26 x27 x28 x29 x30 x31 x32 x33 x34 : Value} (hi : I m v9 v10 h) : RunC Try.prog T0 (.loop zrbQ_l0) ⟨[f0, f1, f2, f3, f4, f5, f6, f7, f8, v9, v10, x11, f12, f13, f14, x15, x16, x17, x18, x19, x20, x21, x22, x23, x24, x25, x26, x27, x28, x29, x30, x31, x32, x33, x34, f35, f36, f37, f38, f39, f40, f41, f42, f43, f44, f45, f46, f47, f48], ds, h, rd⟩ Q :=
 RunC.loopJ (zrbQ_l0_J f0 f1 f2 f3 f4 f5 f6 f7 f8 f12 f13 f14 f35 f36 f37 f38 f39 f40 f41 f42 f43 f44 f45 f46 f47 f48 ds rd I) (fun m s hj => by obtain ⟨v9, v10, h, x11, x15, x16, x17, x18, x19, x20, x21, x22, x23, x24, x25, x26, x27, x28, x29, x30, x31, x32, x33, x34, rfl, hi⟩ := hj; exact hb m v9 v10 h x11 x15 x16 x17 x18 x19 x20 x21 x22 x23 x24 x25 x26 x27 x28 x29 x30 x31 x32 x33 x34 hi) m _ ⟨_, _, h, _, _, _, _, _, _, _, _, _, _, _, _, _, _, _, _, _, _, _, _, _, rfl, hi⟩
theorem zrbQ_l0_again {f0 f1 f2 f3 f4 f5 f6 f7 f8 f12 f13 f14 f35 f36 f37 f38 f39 f40 f41 f42 f43 f44 f45 f46 f47 f48 : Value} {ds : List Deferred} {rd : Option Nat} {Q : QP} {I : Nat → Value → Value → Heap → Prop} {m : Nat} (m' : Nat) {v9 v10 : Value} {h : Heap} {x11 x15 x16 x17 x18 x19 x20 x21 x22 x23 x24 x25 x26 x27 x28 x29 x30 x31 x32 x33 x34 : Value} (hm : m' < m) (hi : I m' v9 v10 h) : loopQ (zrbQ_l0_J f0 f1 f2 f3 f4 f5 f6 f7 f8 f12 f13 f14 f35 f36 f37 f38 f39 f40 f41 f42 f43 f44 f45 f46 f47 f48 ds rd I) m Q .normal ⟨[f0, f1, f2, f3, f4, f5, f6, f7, f8, v9, v10, x11, f12, f13, f14, x15, x16, x17, x18, x19, x20, x21, x22, x23, x24, x25, x26, x27, x28, x29, x30, x31, x32, x33, x34, f35, f36, f37, f38, f39, f40, f41, f42, f43, f44, f45, f46, f47, f48], ds, h, rd⟩ :=
 loopQ.again m' hm ⟨_, _, h, _, _, _, _, _, _, _, _, _, _, _, _, _, _, _, _, _, _, _, _, _, rfl, hi⟩
abbrev fn_zfcQ : FuncId := 53
def zfcQ_c : ACode :=
 (.seq (.region [
 o1 2 (.box 54 (tm 0)),
 o1 3 (.box 42 (tm 1)),
 o1 4 (.mov k0)]) (.seq (.regionD [
 o1 5 (.fieldAddr 0 (tm 2)),
 o1 6 (.sliceArr 4 1 (tm 5) none none),
 o1 7 (.sliceArr 4 1 (tm 3) none none),
 o2 8 (.callV (.func 79) [(tm 6), (tm 7)]),
 o2 4 (.mov (tm 8))]) .ret))
def zfcQ : AFunc := ⟨9, [(4, none)], zfcQ_c, none⟩
theorem zfcQ_t0 : tableOf Try.prog 53 = some zfcQ := by kernel_rfl
theorem zfcQ_t : T0 53 = some zfcQ := withKept_t rfl (withTrue_t rfl zfcQ_t0)
theorem zfcQ_runs {v0 v1 : Value} {h : Heap} {R : RP} {X : XP} (k : RunC Try.prog T0 zfcQ_c ⟨[v0, v1, U, U, U, U, U, U, U], [], h, none⟩ (bodyQ Try.prog T0 [(4, none)] R X)) :
 Runs Try.prog T0 (.fn 53) [v0, v1] h R X := Runs.fn zfcQ_t rfl k
abbrev fn_zvbQ : FuncId := 54
def zvbQ_l0 : ACode :=
 (.seq (.region [
 o1 9 (.bin .lss (so (.binOp .lss 3 (tm 8) (tm 7) 3) 0) (tm 8) (tm 7))]) (.seq (.cond (tm 9)
 .skip
 (.exit 0)) (.seq (.block 1 (.seq (.region [
 o1 10 (.mov (tm 8)),
 o1 5 (.mov (tm 10))]) (.seq (.region [
 o1 11 (.mov (tm 1)),
 o1 12 (.mov (tm 0)),
 o1 13 (.mov (tm 5)),
 o1 14 (.indexSl 5 (tm 12) (tm 13)),
 o1 15 (.load (some 5) (tm 14)),
 o1 16 (.callV (tm 11) [(tm 15)])]) (.cond (tm 16)
 (.seq (.region [
 o1 17 (.mov (tm 5)),
 o1 4 (.mov (tm 17))]) .ret)
 .skip)))) (.region [
 o1 18 (.bin .add (so (.binOp .add 3 (tm 8) (.const (.int .i64 1)) 3) 3) (tm 8) (.const (.int .i64 1))),
 o1 8 (.mov (tm 18))]))))
def zvbQ_c : ACode :=
 (.seq (.region [
 o1 4 (.mov k0)]) (.seq (.seq (.region [
 o1 6 (.mov (tm 0)),
 o1 7 (.lenSl (tm 6)),
 o1 8 (.mov k0)]) (.block 0 (.loop zvbQ_l0))) (.seq (.region [
 o1 4 (.mov (.const (.int .i64 (-1))))]) .ret)))
def zvbQ : AFunc := ⟨19, [(4, none)], zvbQ_c, none⟩
theorem zvbQ_t0 : tableOf Try.prog 54 = some zvbQ := by kernel_rfl
theorem zvbQ_t : T0 54 = some zvbQ := withKept_t rfl (withTrue_t rfl zvbQ_t0)
theorem zvbQ_runs {v0 v1 : Value} {h : Heap} {R : RP} {X : XP} (k : RunC Try.prog T0 zvbQ_c ⟨[v0, v1, U, U, U, U, U, U, U, U, U, U, U, U, U, U, U, U, U], [], h, none⟩ (bodyQ Try.prog T0 [(4, none)] R X)) :
 Runs Try.prog T0 (.fn 54) [v0, v1] h R X := Runs.fn zvbQ_t rfl k
def zvbQ_l0_J (f0 f1 f2 f3 f6 f7 : Value) (ds : List Deferred) (rd : Option Nat) (I : Nat → Value → Heap → Prop) (m : Nat) (s : St) : Prop := ∃ (v8 : Value), ∃ h : Heap, ∃ (x4 x5 x9 x10 x11 x12 x13 x14 x15 x16 x17 x18 : Value), s = ⟨[f0, f1, f2, f3, x4, x5, f6, f7, v8, x9, x10, x11, x12, x13, x14, x15, x16, x17, x18], ds, h, rd⟩ ∧ I m v8 h
theorem zvbQ_l0_rule {f0 f1 f2 f3 f6 f7 : Value} {ds : List Deferred} {rd : Option Nat} {Q : QP} (I : Nat → Value → Heap → Prop) (hb : ∀ (m : Nat) (v8 : Value) (h : Heap) (x4 x5 x9 x10 x11 x12 x13 x14 x15 x16 x17 x18 : Value) , I m v8 h → RunC Try.prog T0 zvbQ_l0 ⟨[f0, f1, f2, f3, x4, x5, f6, f7, v8, x9, x10, x11, x12, x13, x14, x15, x16, x17, x18], ds, h, rd⟩ (loopQ (zvbQ_l0_J f0 f1 f2 f3 f6 f7 ds rd I) m Q))
 (m : Nat) {v8 : Value} {h : Heap} {x4 x5 x9 x10 x11 x12 x13 x14 x15 x16 x17 x18 : Value} (hi : I m v8 h) : RunC Try.prog T0 (.loop zvbQ_l0) ⟨[f0, f1, f2, f3, x4, x5, f6, f7, v8, x9, x10, x11, x12, x13, x14, x15, x16, x17, x18], ds, h, rd⟩ Q :=
 RunC.loopJ (zvbQ_l0_J f0 f1 f2 f3 f6 f7 ds rd I) (fun m s hj => by obtain ⟨v8, h, x4, x5, x9, x10, x11, x12, x13, x14, x15, x16, x17, x18, rfl, hi⟩ := hj; exact hb m v8 h x4 x5 x9 x10 x11 x12 x13 x14 x15 x16 x17 x18 hi) m _ ⟨_, h, _, _, _, _, _, _, _, _, _, _, _, _, rfl, hi⟩
theorem zvbQ_l0_again {f0 f1 f2 f3 f6 f7 : Value} {ds : List Deferred} {rd : Option Nat} {Q : QP} {I : Nat → Value → Heap → Prop} {m : Nat} (m' : Nat) {v8 : Value} {h : Heap} {x4 x5 x9 x10 x11 x12 x13 x14 x15 x16 x17 x18 : Value} (hm : m' < m) (hi : I m' v8 h) : loopQ (zvbQ_l0_J f0 f1 f2 f3 f6 f7 ds rd I) m Q .normal ⟨[f0, f1, f2, f3, x4, x5, f6, f7, v8, x9, x10, x11, x12, x13, x14, x15, x16, x17, x18], ds, h, rd⟩ :=
 loopQ.again m' hm ⟨_, h, _, _, _, _, _, _, _, _, _, _, _, _, rfl, hi⟩
abbrev fn_zccQ : FuncId := 55
def zccQ_c : ACode :=
 (.seq (.region [
 o1 2 (.box 54 (tm 0)),
 o1 3 (.mov (.const (.bool false)))]) (.seq (.region [
 o1 4 (.fieldAddr 0 (tm 2)),
 o1 5 (.load (some 4) (tm 4)),
 o1 6 (.load (some 4) (tm 1)),
 o1 7 (.bin .eql (so (.binOp .eql 42 (tm 5) (tm 6) 42) 4) (tm 5) (tm 6)),
 o1 3 (.mov (tm 7))]) .ret))
def zccQ : AFunc := ⟨8, [(3, none)], zccQ_c, none⟩
theorem zccQ_t0 : tableOf Try.prog 55 = some zccQ := by kernel_rfl
theorem zccQ_t : T0 55 = some zccQ := withKept_t rfl (withTrue_t rfl zccQ_t0)
theorem zccQ_runs {v0 v1 : Value} {h : Heap} {R : RP} {X : XP} (k : RunC Try.prog T0 zccQ_c ⟨[v0, v1, U, U, U, U, U, U], [], h, none⟩ (bodyQ Try.prog T0 [(3, none)] R X)) :
 Runs Try.prog T0 (.fn 55) [v0, v1] h R X := Runs.fn zccQ_t rfl k
abbrev fn_zocQ : FuncId := 56
def zocQ_c : ACode :=
 (.seq (.region [
 o1 2 (.mov (.const (.pointer none))),
 o1 3 (.mov k0)]) (.seq (.seq (.region [
 o1 4 (.mov (tm 0)),
 o1 5 (.bin .lss (so (.binOp .lss 3 (tm 4) k0 3) 4) (tm 4) k0),
 o1 6 (.mov (tm 5)),
 o5 7 (.mov (tm 0)) 6,
 o5 8 (.bin .gtr (so (.binOp .gtr 3 (tm 7) (.const (.int .i64 1048576)) 3) 4) (tm 7) (.const (.int .i64 1048576))) 6,
 o1 9 (.pick (tm 6) (.const (.bool true)) (tm 8))]) (.cond (tm 9)
 (.seq (.region [
 o1 2 (.mov (.const (.pointer none))),
 o1 3 (.mov (.const (.int .i64 3)))]) .ret)
 .skip)) (.seq (.region [
 o1 10 (.mov (tm 0)),
 o1 11 (.build [(.int .i64 0), (.slice none 0 0), (.int .i64 0), (.bool false)] [(0, 1, (tm 10)), (3, 1, (.const (.bool true)))]),
 o1 12 (.box 119 (tm 11)),
 o1 2 (.mov (tm 12)),
 o1 3 (.mov k0)]) .ret)))
def zocQ : AFunc := ⟨13, [(2, none), (3, none)], zocQ_c, none⟩
theorem zocQ_t0 : tableOf Try.prog 56 = some zocQ := by kernel_rfl
theorem zocQ_t : T0 56 = some zocQ := withKept_t rfl (withTrue_t rfl zocQ_t0)
theorem zocQ_runs {v0 : Value} {h : Heap} {R : RP} {X : XP} (k : RunC Try.prog T0 zocQ_c ⟨[v0, U, U, U, U, U, U, U, U, U, U, U, U], [], h, none⟩ (bodyQ Try.prog T0 [(2, none), (3, none)] R X)) :
 Runs Try.prog T0 (.fn 56) [v0] h R X := Runs.fn zocQ_t rfl k
abbrev fn_zrcQ : FuncId := 57
def zrcQ_c : ACode :=
 (.seq (.region [
 o1 4 (.mov k0)]) (.seq (.region [
 o1 5 (.mov (tm 0)),
 o1 6 (.mov (tm 1)),
 o1 7 (.bin .geq (so (.binOp .geq 3 (tm 6) k0 3) 4) (tm 6) k0),
 o1 8 (.mov (tm 1)),
 o1 9 (.raw (so (.call ⟨.builtin .max, #[(tm 8), k0], #[3, 3]⟩) 3)),
 o1 10 (.callV (.func 82) [(tm 9)]),
 o1 11 (.buildSlice 22 [(.slice none 0 0)] 1 [(0, 1, (tm 10))]),
 o1 12 (.callV (.func 81) [(tm 5), (tm 7), (tm 11)]),
 o1 4 (.mov (tm 12))]) .ret))
def zrcQ : AFunc := ⟨13, [(4, none)], zrcQ_c, none⟩
theorem zrcQ_t0 : tableOf Try.prog 57 = some zrcQ := by kernel_rfl
theorem zrcQ_t : T0 57 = some zrcQ := withKept_t rfl (withTrue_t rfl zrcQ_t0)
theorem zrcQ_runs {v0 v1 : Value} {h : Heap} {R : RP} {X : XP} (k : RunC Try.prog T0 zrcQ_c ⟨[v0, v1, U, U, U, U, U, U, U, U, U, U, U], [], h, none⟩ (bodyQ Try.prog T0 [(4, none)] R X)) :
 Runs Try.prog T0 (.fn 57) [v0, v1] h R X := Runs.fn zrcQ_t rfl k
abbrev fn_zqcQ : FuncId := 58
def zqcQ_c : ACode :=
 (.seq (.region [
 o1 3 (.box 42 (tm 1)),
 o1 4 (.mov k0)]) (.seq (.region [
 o1 5 (.mov (tm 0)),
 o1 6 (.sliceArr 4 1 (tm 3) none none),
 o1 7 (.buildSlice 22 [(.slice none 0 0)] 1 [(0, 1, (tm 6))]),
 o1 8 (.callV (.func 81) [(tm 5), (.const (.bool true)), (tm 7)]),
 o1 4 (.mov (tm 8))]) .ret))
def zqcQ : AFunc := ⟨9, [(4, none)], zqcQ_c, none⟩
theorem zqcQ_t0 : tableOf Try.prog 58 = some zqcQ := by kernel_rfl
theorem zqcQ_t : T0 58 = some zqcQ := withKept_t rfl (withTrue_t rfl zqcQ_t0)
theorem zqcQ_runs {v0 v1 : Value} {h : Heap} {R : RP} {X : XP} (k : RunC Try.prog T0 zqcQ_c ⟨[v0, v1, U, U, U, U, U, U, U], [], h, none⟩ (bodyQ Try.prog T0 [(4, none)] R X)) :
 Runs Try.prog T0 (.fn 58) [v0, v1] h R X := Runs.fn zqcQ_t rfl k
abbrev fn_zpcQ : FuncId := 59
def zpcQ_c : ACode :=
 (.seq (.region [
 o1 2 (.mov (.const (.slice none 0 0))),
 o1 3 (.mov k0)]) (.seq (.block 0 (.seq (.region [
 o1 5 (.mov (tm 0)),
 o1 6 (.eq .ptr false (so (.binOp .eql 88 (tm 5) (.const (.pointer none)) 88) 4) (tm 5) (.const (.pointer none))),
 o1 7 (.mov (tm 6)),
 o5 8 (.mov (tm 0)) 7,
 o5 9 (.nilCheck (tm 8)) 7,
 o5 10 (.fieldAddr 3 (tm 9)) 7,
 o5 11 (.load none (tm 10)) 7,
 o5 12 (.raw (so (.unOp .not 4 (tm 11)) 4)) 7,
 o1 13 (.pick (tm 7) (.const (.bool true)) (tm 12)),
 o1 4 (.mov (tm 13))]) (.cond (tm 4)
 (.seq (.region [
 o1 2 (.mov (.const (.slice none 0 0))),
 o1 3 (.mov (.const (.int .i64 1)))]) .ret)
 (.seq (.region [
 o1 15 (.mov (tm 0)),
 o1 16 (.nilCheck (tm 15)),
 o1 17 (.fieldAddr 2 (tm 16)),
 o1 18 (.load none (tm 17)),
 o1 19 (.bin .neq (so (.binOp .neq 26 (tm 18) k0 26) 4) (tm 18) k0),
 o1 14 (.mov (tm 19))]) (.cond (tm 14)
 (.seq (.regionD [
 o1 20 (.mov (tm 0)),
 o1 21 (.nilCheck (tm 20)),
 o1 22 (.fieldAddr 2 (tm 21)),
 o1 23 (.load none (tm 22)),
 o1 2 (.mov (.const (.slice none 0 0))),
 o2 3 (.mov (tm 23))]) .ret)
 .skip))))) (.seq (.region [
 o1 24 (.mov (tm 0)),
 o1 25 (.nilCheck (tm 24)),
 o1 26 (.fieldAddr 1 (tm 25)),
 o1 27 (.load none (tm 26)),
 o1 28 (.callV (.func 70) [(tm 27)]),
 o1 2 (.mov (tm 28)),
 o1 3 (.mov k0)]) .ret)))
def zpcQ : AFunc := ⟨29, [(2, none), (3, none)], zpcQ_c, none⟩
theorem zpcQ_t0 : tableOf Try.prog 59 = some zpcQ := by kernel_rfl
theorem zpcQ_t : T0 59 = some zpcQ := withKept_t rfl (withTrue_t rfl zpcQ_t0)
theorem zpcQ_runs {v0 : Value} {h : Heap} {R : RP} {X : XP} (k : RunC Try.prog T0 zpcQ_c ⟨[v0, U, U, U, U, U, U, U, U, U, U, U, U, U, U, U, U, U, U, U, U, U, U, U, U, U, U, U, U], [], h, none⟩ (bodyQ Try.prog T0 [(2, none), (3, none)] R X)) :
 Runs Try.prog T0 (.fn 59) [v0] h R X := Runs.fn zpcQ_t rfl k
abbrev fn_zmcQ : FuncId := 60
def zmcQ_l0 : ACode :=
 (.seq (.seq (.region [
 o1 7 (.mov (tm 1)),
 o1 8 (.bin .lss (so (.binOp .lss 3 (tm 7) (.const (.int .i64 3)) 3) 4) (tm 7) (.const (.int .i64 3))),
 o1 9 (.mov (tm 8)),
 o4 10 (.mov (tm 2)) 9,
 o4 11 (.bin .gtr (so (.binOp .gtr 50 (tm 10) (.const (.int .u64 0)) 50) 4) (tm 10) (.const (.int .u64 0))) 9,
 o1 12 (.pick (tm 9) (tm 11) (.const (.bool false)))]) (.cond (tm 12)
 .skip
 (.exit 0))) (.seq (.block 1 (.seq (.regionD [
 o1 15 (.mov (tm 0)),
 o1 16 (.mov (tm 1)),
 o1 17 (.nilCheck (tm 15)),
 o1 18 (.indexArr 3 1 (tm 17) (tm 16)),
 o1 19 (.load none (tm 18)),
 o1 20 (.mov (tm 2)),
 o1 21 (.bin .add (so (.binOp .add 50 (tm 19) (tm 20) 50) 50) (tm 19) (tm 20)),
 o1 22 (.nilCheck (tm 15)),
 o2 23 (.indexArr 3 1 (tm 22) (tm 16)),
 ⟨none, .store 1 (tm 23) (tm 21), none, [], true⟩]) (.seq (.region [
 o1 24 (.mov (tm 0)),
 o1 25 (.mov (tm 1)),
 o1 26 (.nilCheck (tm 24)),
 o1 27 (.indexArr 3 1 (tm 26) (tm 25)),
 o1 28 (.load none (tm 27)),
 o1 29 (.mov (tm 2)),
 o1 30 (.bin .lss (so (.binOp .lss 50 (tm 28) (tm 29) 50) 4) (tm 28) (tm 29))]) (.cond (tm 30)
 (.region [
 o1 2 (.mov (.const (.int .u64 1)))])
 (.region [
 o1 2 (.mov (.const (.int .u64 0)))]))))) (.region [
 o1 13 (.mov (tm 1)),
 o1 14 (.bin .add (so (.binOp .add 3 (tm 13) (.const (.int .i64 1)) 3) 3) (tm 13) (.const (.int .i64 1))),
 o1 1 (.mov (tm 14))])))
def zmcQ_c : ACode :=
 (.seq (.region [
 o1 6 (.mov (.const (.int .u64 0)))]) (.seq (.block 0 (.loop zmcQ_l0)) (.seq (.region [
 o1 31 (.mov (tm 2)),
 o1 6 (.mov (tm 31))]) .ret)))
def zmcQ : AFunc := ⟨32, [(6, none)], zmcQ_c, none⟩
theorem zmcQ_t0 : tableOf Try.prog 60 = some zmcQ := by kernel_rfl
theorem zmcQ_t : T0 60 = some zmcQ := withKept_t rfl (withTrue_t rfl zmcQ_t0)
theorem zmcQ_runs {v0 v1 v2 : Value} {h : Heap} {R : RP} {X : XP} (k : RunC Try.prog T0 zmcQ_c ⟨[v0, v1, v2, U, U, U, U, U, U, U, U, U, U, U, U, U, U, U, U, U, U, U, U, U, U, U, U, U, U, U, U, U], [], h, none⟩ (bodyQ Try.prog T0 [(6, none)] R X)) :
 Runs Try.prog T0 (.fn 60) [v0, v1, v2] h R X := Runs.fn zmcQ_t rfl k
def zmcQ_l0_J (f0 f3 f4 f5 f6 f31 : Value) (ds : List Deferred) (rd : Option Nat) (I : Nat → Value → Value → Heap → Prop) (m : Nat) (s : St) : Prop := ∃ (v1 v2 : Value), ∃ h : Heap, ∃ (x7 x8 x9 x10 x11 x12 x13 x14 x15 x16 x17 x18 x19 x20 x21 x22 x23 x24 x25 x26 x27 x28 x29 x30 : Value), s = ⟨[f0, v1, v2, f3, f4, f5, f6, x7, x8, x9, x10, x11, x12, x13, x14, x15, x16, x17, x18, x19, x20, x21, x22, x23, x24, x25, x26, x27, x28, x29, x30, f31], ds, h, rd⟩ ∧ I m v1 v2 h
theorem zmcQ_l0_rule {f0 f3 f4 f5 f6 f31 : Value} {ds : List Deferred} {rd : Option Nat} {Q : QP} (I : Nat → Value → Value → Heap → Prop) (hb : ∀ (m : Nat) (v1 v2 : Value) (h : Heap) (x7 x8 x9 x10 x11 x12 x13 x14 x15 x16 x17 x18 x19 x20 x21 x22 x23 x24 x25 x26 x27 x28 x29 x30 : Value) , I m v1 v2 h → RunC Try.prog T0 zmcQ_l0 ⟨[f0, v1, v2, f3, f4, f5, f6, x7, x8, x9, x10, x11, x12, x13, x14, x15, x16, x17, x18, x19, x20, x21, x22, x23, x24, x25, x26, x27, x28, x29, x30, f31], ds, h, rd⟩ (loopQ (zmcQ_l0_J f0 f3 f4 f5 f6 f31 ds rd I) m Q))
 (m : Nat) {v1 v2 : Value} {h : Heap} {x7 x8 x9 x10 x11 x12 x13 x14 x15 x16 x17 x18 x19 x20 x21 x22 x23 x24 x25 x26 x27 x28 x29 x30 : Value} (hi : I m v1 v2 h) : RunC Try.prog T0 (.loop zmcQ_l0) ⟨[f0, v1, v2, f3, f4, f5, f6, x7, x8, x9, x10, x11, x12, x13, x14, x15, x16, x17, x18, x19, x20, x21, x22, x23, x24, x25, x26, x27, x28, x29, x30, f31], ds, h, rd⟩ Q :=
 RunC.loopJ (zmcQ_l0_J f0 f3 f4 f5 f6 f31 ds rd I) (fun m s hj => by obtain ⟨v1, v2, h, x7, x8, x9, x10, x11, x12, x13, x14, x15, x16, x17, x18, x19, x20, x21, x22, x23, x24, x25, x26, x27, x28, x29, x30, rfl, hi⟩ := hj; exact hb m v1 v2 h x7 x8 x9 x10 x11 x12 x13 x14 x15 x16 x17 x18 x19 x20 x21 x22 x23 x24 x25 x26 x27 x28 x29 x30 hi) m _ ⟨_, _, h, _, _, _, _, _, _, _, _, _, _, _, _, _, _, _, _, _, _, _, _, _, _, _, _, rfl, hi⟩
theorem zmcQ_l0_again {f0 f3 f4 f5 f6 f31 : Value} {ds : List Deferred} {rd : Option Nat} {Q : QP} {I : Nat → Value → Value → Heap → Prop} {m : Nat} (m' : Nat) {v1 v2 : Value} {h : Heap} {x7 x8 x9 x10 x11 x12 x13 x14 x15 x16 x17 x18 x19 x20 x21 x22 x23 x24 x25 x26 x27 x28 x29 x30 : Value} (hm : m' < m) (hi : I m' v1 v2 h) : loopQ (zmcQ_l0_J f0 f3 f4 f5 f6 f31 ds rd I) m Q .normal ⟨[f0, v1, v2, f3, f4, f5, f6, x7, x8, x9, x10, x11, x12, x13, x14, x15, x16, x17, x18, x19, x20, x21, x22, x23, x24, x25, x26, x27, x28, x29, x30, f31], ds, h, rd⟩ :=
 loopQ.again m' hm ⟨_, _, h, _, _, _, _, _, _, _, _, _, _, _, _, _, _, _, _, _, _, _, _, _, _, _, _, rfl, hi⟩
abbrev fn_zncQ : FuncId := 61
def zncQ_c : ACode :=
 (.seq (.region [
 o1 1 (.box 95 (tm 0)),
 o1 2 (.alloc 52 [(.int .u64 0), (.int .u64 0)]),
 o1 3 (.mov k0)]) (.seq (.seq (.region [
 o1 4 (.indexArr 3 1 (tm 1) (.const (.int .i64 2))),
 o1 5 (.load none (tm 4)),
 o1 6 (.bin .gtr (so (.binOp .gtr 50 (tm 5) (.const (.int .u64 0)) 50) 4) (tm 5) (.const (.int .u64 0)))]) (.cond (tm 6)
 (.seq (.region [
 o1 7 (.build [(.int .u64 0), (.int .u64 0)] []),
 o3 (.store 2 (tm 2) (tm 7)),
 o1 3 (.mov (.const (.int .i64 7)))]) .ret)
 .skip)) (.seq (.region [
 o1 8 (.indexArr 3 1 (tm 1) (.const (.int .i64 1))),
 o1 9 (.load none (tm 8)),
 o1 10 (.indexArr 3 1 (tm 1) k0),
 o1 11 (.load none (tm 10)),
 o1 12 (.build [(.int .u64 0), (.int .u64 0)] [(0, 1, (tm 9)), (1, 1, (tm 11))]),
 o3 (.store 2 (tm 2) (tm 12)),
 o1 3 (.mov k0)]) .ret)))
def zncQ : AFunc := ⟨13, [(2, some (some 2)), (3, none)], zncQ_c, none⟩
theorem zncQ_t0 : tableOf Try.prog 61 = some zncQ := by kernel_rfl
theorem zncQ_t : T0 61 = some zncQ := withKept_t rfl (withTrue_t rfl zncQ_t0)
theorem zncQ_runs {v0 : Value} {h : Heap} {R : RP} {X : XP} (k : RunC Try.prog T0 zncQ_c ⟨[v0, U, U, U, U, U, U, U, U, U, U, U, U], [], h, none⟩ (bodyQ Try.prog T0 [(2, some (some 2)), (3, none)] R X)) :
 Runs Try.prog T0 (.fn 61) [v0] h R X := Runs.fn zncQ_t rfl k
abbrev fn_zjcQ : FuncId := 62
def zjcQ_c : ACode :=
 (.seq (.region [
 o1 2 (.alloc 52 [(.int .u64 0), (.int .u64 0)]),
 o1 3 (.mov k0)]) (.seq (.region [
 o1 4 (.build [(.int .u64 0), (.int .u64 0)] []),
 o1 5 (.mov (tm 0)),
 o1 6 (.callV (.func 83) [(tm 4), (tm 5), (.func 84)]),
 o1 7 (.extract 0 (tm 6)),
 o1 8 (.extract 1 (tm 6)),
 o3 (.store 2 (tm 2) (tm 7)),
 o1 3 (.mov (tm 8))]) .ret))
def zjcQ : AFunc := ⟨9, [(2, some (some 2)), (3, none)], zjcQ_c, none⟩
theorem zjcQ_t0 : tableOf Try.prog 62 = some zjcQ := by kernel_rfl
theorem zjcQ_t : T0 62 = some zjcQ := withKept_t rfl (withTrue_t rfl zjcQ_t0)
theorem zjcQ_runs {v0 : Value} {h : Heap} {R : RP} {X : XP} (k : RunC Try.prog T0 zjcQ_c ⟨[v0, U, U, U, U, U, U, U, U], [], h, none⟩ (bodyQ Try.prog T0 [(2, some (some 2)), (3, none)] R X)) :
 Runs Try.prog T0 (.fn 62) [v0] h R X := Runs.fn zjcQ_t rfl k
abbrev fn_zwQ : FuncId := 63
def zwQ_l0 : ACode :=
 (.seq (.seq (.region [
 o1 8 (.mov (tm 5)),
 o1 9 (.mov (tm 0)),
 o1 10 (.lenSl (tm 9)),
 o1 11 (.bin .lss (so (.binOp .lss 3 (tm 8) (tm 10) 3) 4) (tm 8) (tm 10))]) (.cond (tm 11)
 .skip
 (.exit 0))) (.seq (.block 1 (.seq (.region [
 o1 15 (.mov (tm 0)),
 o1 16 (.mov (tm 5)),
 o1 17 (.indexSl 1 (tm 15) (tm 16)),
 o1 18 (.load none (tm 17)),
 o1 19 (.callV (.func 85) [(tm 18)]),
 o1 14 (.mov (tm 19)),
 o1 20 (.extract 0 (tm 14)),
 o1 21 (.extract 1 (tm 14)),
 o1 6 (.alloc 52 [(.int .u64 0), (.int .u64 0)]),
 o3 (.store 2 (tm 6) (tm 20)),
 o1 7 (.mov (tm 21))]) (.seq (.seq (.region [
 o1 22 (.mov (tm 7)),
 o1 23 (.bin .neq (so (.binOp .neq 26 (tm 22) k0 26) 4) (tm 22) k0)]) (.cond (tm 23)
 (.seq (.region [
 o1 24 (.build [(.int .u64 0), (.int .u64 0)] []),
 o1 25 (.mov (tm 7)),
 o3 (.store 2 (tm 2) (tm 24)),
 o1 3 (.mov (tm 25))]) .ret)
 .skip)) (.region [
 o1 27 (.load (some 2) (tm 4)),
 o1 28 (.load (some 2) (tm 6)),
 o1 29 (.callV (.func 86) [(tm 27), (tm 28)]),
 o1 26 (.mov (tm 29)),
 o1 30 (.extract 0 (tm 26)),
 o1 31 (.extract 1 (tm 26)),
 o3 (.store 2 (tm 4) (tm 30))])))) (.region [
 o1 12 (.mov (tm 5)),
 o1 13 (.bin .add (so (.binOp .add 3 (tm 12) (.const (.int .i64 1)) 3) 3) (tm 12) (.const (.int .i64 1))),
 o1 5 (.mov (tm 13))])))
def zwQ_c : ACode :=
 (.seq (.region [
 o1 2 (.alloc 52 [(.int .u64 0), (.int .u64 0)]),
 o1 3 (.mov k0)]) (.seq (.region [
 o1 4 (.alloc 52 [(.int .u64 0), (.int .u64 0)])]) (.seq (.seq (.region [
 o1 5 (.mov k0)]) (.block 0 (.loop zwQ_l0))) (.seq (.region [
 o1 32 (.load (some 2) (tm 4)),
 o3 (.store 2 (tm 2) (tm 32)),
 o1 3 (.mov k0)]) .ret))))
def zwQ : AFunc := ⟨33, [(2, some (some 2)), (3, none)], zwQ_c, none⟩
theorem zwQ_t0 : tableOf Try.prog 63 = some zwQ := by kernel_rfl
theorem zwQ_t : T0 63 = some zwQ := withKept_t rfl (withTrue_t rfl zwQ_t0)
theorem zwQ_runs {v0 : Value} {h : Heap} {R : RP} {X : XP} (k : RunC Try.prog T0 zwQ_c ⟨[v0, U, U, U, U, U, U, U, U, U, U, U, U, U, U, U, U, U, U, U, U, U, U, U, U, U, U, U, U, U, U, U, U], [], h, none⟩ (bodyQ Try.prog T0 [(2, some (some 2)), (3, none)] R X)) :
 Runs Try.prog T0 (.fn 63) [v0] h R X := Runs.fn zwQ_t rfl k
def zwQ_l0_J (f0 f1 f2 f4 f32 : Value) (ds : List Deferred) (rd : Option Nat) (I : Nat → Value → Heap → Prop) (m : Nat) (s : St) : Prop := ∃ (v5 : Value), ∃ h : Heap, ∃ (x3 x6 x7 x8 x9 x10 x11 x12 x13 x14 x15 x16 x17 x18 x19 x20 x21 x22 x23 x24 x25 x26 x27 x28 x29 x30 x31 : Value), s = ⟨[f0, f1, f2, x3, f4, v5, x6, x7, x8, x9, x10, x11, x12, x13, x14, x15, x16, x17, x18, x19, x20, x21, x22, x23, x24, x25, x26, x27, x28, x29, x30, x31, f32], ds, h, rd⟩ ∧ I m v5 h
theorem zwQ_l0_rule {f0 f1 f2 f4 f32 : Value} {ds : List Deferred} {rd : Option Nat} {Q : QP} (I : Nat → Value → Heap → Prop) (hb : ∀ (m : Nat) (v5 : Value) (h : Heap) (x3 x6 x7 x8 x9 x10 x11 x12 x13 x14 x15 x16 x17 x18 x19 x20 x21 x22 x23 x24 x25 x26 x27 x28 x29 x30 x31 : Value) , I m v5 h → RunC Try.prog T0 zwQ_l0 ⟨[f0, f1, f2, x3, f4, v5, x6, x7, x8, x9, x10, x11, x12, x13, x14, x15, x16, x17, x18, x19, x20, x21, x22, x23, x24, x25, x26, x27, x28, x29, x30, x31, f32], ds, h, rd⟩ (loopQ (zwQ_l0_J f0 f1 f2 f4 f32 ds rd I) m Q))
 (m : Nat) {v5 : Value} {h : Heap} {x3 x6 x7 x8 x9 x10 x11 x12 x13 x14 x15 x16 x17 x18 x19 x20 x21 x22 x23 x24 x25 x26 x27 x28 x29 x30 x31 : Value} (hi : I m v5 h) : RunC Try.prog T0 (.loop zwQ_l0) ⟨[f0, f1, f2, x3, f4, v5, x6, x7, x8, x9, x10, x11, x12, x13, x14, x15, x16, x17, x18, x19, x20, x21, x22, x23, x24, x25, x26, x27, x28, x29, x30, x31, f32], ds, h, rd⟩ Q :=
 RunC.loopJ (zwQ_l0_J f0 f1 f2 f4 f32 ds rd I) (fun m s hj => by obtain ⟨v5, h, x3, x6, x7, x8, x9, x10, x11, x12, x13, x14, x15, x16, x17, x18, x19, x20, x21, x22, x23, x24, x25, x26, x27, x28, x29, x30, x31, rfl, hi⟩ := hj; exact hb m v5 h x3 x6 x7 x8 x9 x10 x11 x12 x13 x14 x15 x16 x17 x18 x19 x20 x21 x22 x23 x24 x25 x26 x27 x28 x29 x30 x31 hi) m _ ⟨_, h, _, _, _, _, _, _, _, _, _, _, _, _, _, _, _, _, _, _, _, _, _, _, _, _, _, _, _, rfl, hi⟩
theorem zwQ_l0_again {f0 f1 f2 f4 f32 : Value} {ds : List Deferred} {rd : Option Nat} {Q : QP} {I : Nat → Value → Heap → Prop} {m : Nat} (m' : Nat) {v5 : Value} {h : Heap} {x3 x6 x7 x8 x9 x10 x11 x12 x13 x14 x15 x16 x17 x18 x19 x20 x21 x22 x23 x24 x25 x26 x27 x28 x29 x30 x31 : Value} (hm : m' < m) (hi : I m' v5 h) : loopQ (zwQ_l0_J f0 f1 f2 f4 f32 ds rd I) m Q .normal ⟨[f0, f1, f2, x3, f4, v5, x6, x7, x8, x9, x10, x11, x12, x13, x14, x15, x16, x17, x18, x19, x20, x21, x22, x23, x24, x25, x26, x27, x28, x29, x30, x31, f32], ds, h, rd⟩ :=
 loopQ.again m' hm ⟨_, h, _, _, _, _, _, _, _, _, _, _, _, _, _, _, _, _, _, _, _, _, _, _, _, _, _, _, _, rfl, hi⟩
abbrev fn_zebQ : FuncId := 64
def zebQ_c : ACode :=
 (.seq (.region [
 o1 2 (.mov (.const (.pointer none))),
 o1 3 (.mov k0)]) (.seq (.seq (.region [
 o1 4 (.mov (tm 0)),
 o1 5 (.bin .lss (so (.binOp .lss 3 (tm 4) k0 3) 4) (tm 4) k0),
 o1 6 (.mov (tm 5)),
 o5 7 (.mov (tm 0)) 6,
 o5 8 (.bin .gtr (so (.binOp .gtr 3 (tm 7) (.const (.int .i64 1048576)) 3) 4) (tm 7) (.const (.int .i64 1048576))) 6,
 o1 9 (.pick (tm 6) (.const (.bool true)) (tm 8))]) (.cond (tm 9)
 (.seq (.region [
 o1 2 (.mov (.const (.pointer none))),
 o1 3 (.mov (.const (.int .i64 3)))]) .ret)
 .skip)) (.seq (.region [
 o1 10 (.mov (tm 0)),
 o1 11 (.build [(.int .i64 0), (.slice none 0 0), (.int .i64 0)] [(0, 1, (tm 10))]),
 o1 12 (.box 126 (tm 11)),
 o1 2 (.mov (tm 12)),
 o1 3 (.mov k0)]) .ret)))
def zebQ : AFunc := ⟨13, [(2, none), (3, none)], zebQ_c, none⟩
theorem zebQ_t0 : tableOf Try.prog 64 = some zebQ := by kernel_rfl
theorem zebQ_t : T0 64 = some zebQ := withKept_t rfl (withTrue_t rfl zebQ_t0)
theorem zebQ_runs {v0 : Value} {h : Heap} {R : RP} {X : XP} (k : RunC Try.prog T0 zebQ_c ⟨[v0, U, U, U, U, U, U, U, U, U, U, U, U], [], h, none⟩ (bodyQ Try.prog T0 [(2, none), (3, none)] R X)) :
 Runs Try.prog T0 (.fn 64) [v0] h R X := Runs.fn zebQ_t rfl k
abbrev fn_zibQ : FuncId := 65
def zibQ_c : ACode :=
 (.seq (.region [
 o1 4 (.mov k0)]) (.seq (.seq (.region [
 o1 5 (.mov (tm 1)),
 o1 6 (.bin .lss (so (.binOp .lss 3 (tm 5) k0 3) 4) (tm 5) k0),
 o1 7 (.mov (tm 6)),
 o4 8 (.mov (tm 0)) 7,
 o4 9 (.nilCheck (tm 8)) 7,
 o4 10 (.fieldAddr 2 (tm 9)) 7,
 o4 11 (.load none (tm 10)) 7,
 o4 12 (.bin .eql (so (.binOp .eql 26 (tm 11) k0 26) 4) (tm 11) k0) 7,
 o1 13 (.pick (tm 7) (tm 12) (.const (.bool false)))]) (.cond (tm 13)
 (.region [
 o1 14 (.mov (tm 0)),
 o1 15 (.nilCheck (tm 14)),
 o1 16 (.fieldAddr 2 (tm 15)),
 o3 (.store 1 (tm 16) (.const (.int .i64 3)))])
 .skip)) (.seq (.seq (.region [
 o1 17 (.mov (tm 0)),
 o1 18 (.nilCheck (tm 17)),
 o1 19 (.fieldAddr 2 (tm 18)),
 o1 20 (.load none (tm 19)),
 o1 21 (.bin .neq (so (.binOp .neq 26 (tm 20) k0 26) 4) (tm 20) k0)]) (.cond (tm 21)
 (.seq (.region [
 o1 22 (.mov (tm 0)),
 o1 23 (.nilCheck (tm 22)),
 o1 24 (.fieldAddr 2 (tm 23)),
 o1 25 (.load none (tm 24)),
 o1 4 (.mov (tm 25))]) .ret)
 .skip)) (.seq (.region [
 o1 26 (.mov (tm 0)),
 o1 27 (.mov (tm 1)),
 o1 28 (.callV (.func 88) [(tm 27)]),
 o1 29 (.callV (.func 87) [(tm 26), (tm 28)]),
 o1 4 (.mov (tm 29))]) .ret))))
def zibQ : AFunc := ⟨30, [(4, none)], zibQ_c, none⟩
theorem zibQ_t0 : tableOf Try.prog 65 = some zibQ := by kernel_rfl
theorem zibQ_t : T0 65 = some zibQ := withKept_t rfl (withTrue_t rfl zibQ_t0)
theorem zibQ_runs {v0 v1 : Value} {h : Heap} {R : RP} {X : XP} (k : RunC Try.prog T0 zibQ_c ⟨[v0, v1, U, U, U, U, U, U, U, U, U, U, U, U, U, U, U, U, U, U, U, U, U, U, U, U, U, U, U, U], [], h, none⟩ (bodyQ Try.prog T0 [(4, none)] R X)) :
 Runs Try.prog T0 (.fn 65) [v0, v1] h R X := Runs.fn zibQ_t rfl k
abbrev fn_zhbQ : FuncId := 66
def zhbQ_c : ACode :=
 (.seq (.region [
 o1 3 (.box 42 (tm 1)),
 o1 4 (.mov k0)]) (.seq (.region [
 o1 5 (.mov (tm 0)),
 o1 6 (.buildSlice 5 [] 0 []),
 o1 7 (.sliceArr 4 1 (tm 3) none none),
 o1 8 (.append 5 1 1 [(.int .u8 0)] false (tm 6) (tm 7)),
 o1 9 (.callV (.func 87) [(tm 5), (tm 8)]),
 o1 4 (.mov (tm 9))]) .ret))
def zhbQ : AFunc := ⟨10, [(4, none)], zhbQ_c, none⟩
theorem zhbQ_t0 : tableOf Try.prog 66 = some zhbQ := by kernel_rfl
theorem zhbQ_t : T0 66 = some zhbQ := withKept_t rfl (withTrue_t rfl zhbQ_t0)
theorem zhbQ_runs {v0 v1 : Value} {h : Heap} {R : RP} {X : XP} (k : RunC Try.prog T0 zhbQ_c ⟨[v0, v1, U, U, U, U, U, U, U, U], [], h, none⟩ (bodyQ Try.prog T0 [(4, none)] R X)) :
 Runs Try.prog T0 (.fn 66) [v0, v1] h R X := Runs.fn zhbQ_t rfl k
abbrev fn_zgbQ : FuncId := 67
def zgbQ_c : ACode :=
 (.seq (.region [
 o1 2 (.mov (.const (.slice none 0 0))),
 o1 3 (.mov k0)]) (.seq (.seq (.region [
 o1 4 (.mov (tm 0)),
 o1 5 (.nilCheck (tm 4)),
 o1 6 (.fieldAddr 2 (tm 5)),
 o1 7 (.load none (tm 6)),
 o1 8 (.bin .neq (so (.binOp .neq 26 (tm 7) k0 26) 4) (tm 7) k0)]) (.cond (tm 8)
 (.seq (.regionD [
 o1 9 (.mov (tm 0)),
 o1 10 (.nilCheck (tm 9)),
 o1 11 (.fieldAddr 2 (tm 10)),
 o1 12 (.load none (tm 11)),
 o1 2 (.mov (.const (.slice none 0 0))),
 o2 3 (.mov (tm 12))]) .ret)
 .skip)) (.seq (.region [
 o1 13 (.buildSlice 5 [] 0 []),
 o1 14 (.mov (tm 0)),
 o1 15 (.nilCheck (tm 14)),
 o1 16 (.fieldAddr 1 (tm 15)),
 o1 17 (.load none (tm 16)),
 o1 18 (.append 5 1 1 [(.int .u8 0)] false (tm 13) (tm 17)),
 o1 2 (.mov (tm 18)),
 o1 3 (.mov k0)]) .ret)))
def zgbQ : AFunc := ⟨19, [(2, none), (3, none)], zgbQ_c, none⟩
theorem zgbQ_t0 : tableOf Try.prog 67 = some zgbQ := by kernel_rfl
theorem zgbQ_t : T0 67 = some zgbQ := withKept_t rfl (withTrue_t rfl zgbQ_t0)
theorem zgbQ_runs {v0 : Value} {h : Heap} {R : RP} {X : XP} (k : RunC Try.prog T0 zgbQ_c ⟨[v0, U, U, U, U, U, U, U, U, U, U, U, U, U, U, U, U, U, U], [], h, none⟩ (bodyQ Try.prog T0 [(2, none), (3, none)] R X)) :
 Runs Try.prog T0 (.fn 67) [v0] h R X := Runs.fn zgbQ_t rfl k
abbrev fn_zfQ : FuncId := 68
def zfQ_c : ACode :=
 (.seq (.region [
 o1 2 (.alloc 63 z32)]) (.seq (.region [
 o1 6 (.callV (.func 89) []),
 o1 3 (.mov (tm 6))]) (.seq (.region [
 o1 7 (.mov (tm 3)),
 o1 8 (.mov (tm 0)),
 o1 9 (.callV (.func 90) [(tm 7), (tm 8)])]) (.seq (.region [
 o1 11 (.mov (tm 3)),
 o1 12 (.callV (.func 91) [(tm 11)]),
 o1 10 (.mov (tm 12)),
 o1 13 (.extract 0 (tm 10)),
 o1 14 (.extract 1 (tm 10)),
 o1 4 (.alloc 63 z32),
 o3 (.store 32 (tm 4) (tm 13)),
 o1 5 (.mov (tm 14))]) (.seq (.region [
 o1 15 (.load (some 32) (tm 4)),
 o3 (.store 32 (tm 2) (tm 15))]) .ret)))))
def zfQ : AFunc := ⟨16, [(2, some (some 32))], zfQ_c, none⟩
theorem zfQ_t0 : tableOf Try.prog 68 = some zfQ := by kernel_rfl
theorem zfQ_t : T0 68 = some zfQ := withKept_t rfl (withTrue_t rfl zfQ_t0)
theorem zfQ_runs {v0 : Value} {h : Heap} {R : RP} {X : XP} (k : RunC Try.prog T0 zfQ_c ⟨[v0, U, U, U, U, U, U, U, U, U, U, U, U, U, U, U], [], h, none⟩ (bodyQ Try.prog T0 [(2, some (some 32))] R X)) :
 Runs Try.prog T0 (.fn 68) [v0] h R X := Runs.fn zfQ_t rfl k
abbrev fn_zyQ : FuncId := 69
def zyQ_l0 : ACode :=
 (.seq (.seq (.region [
 o1 11 (.mov (tm 3)),
 o1 12 (.lenSl (tm 11)),
 o1 13 (.bin .eql (so (.binOp .eql 3 (tm 12) k0 3) 4) (tm 12) k0),
 o1 14 (.mov (tm 13)),
 o5 15 (.mov (tm 3)) 14,
 o5 16 (.lenSl (tm 15)) 14,
 o5 17 (.bin .rem (so (.binOp .rem 3 (tm 16) (.const (.int .i64 64)) 3) 3) (tm 16) (.const (.int .i64 64))) 14,
 o5 18 (.bin .neq (so (.binOp .neq 3 (tm 17) k0 3) 4) (tm 17) k0) 14,
 o1 19 (.pick (tm 14) (.const (.bool true)) (tm 18))]) (.cond (tm 19)
 .skip
 (.exit 0))) (.block 1 (.region [
 o1 20 (.mov (tm 3)),
 o1 21 (.buildSlice 5 [(.int .u8 0)] 1 [(0, 1, (.const (.int .u8 0)))]),
 o1 22 (.append 5 1 1 [(.int .u8 0)] false (tm 20) (tm 21)),
 o1 3 (.mov (tm 22))])))
def zyQ_l1 : ACode :=
 (.seq (.seq (.region [
 o1 28 (.mov (tm 5)),
 o1 29 (.mov (tm 3)),
 o1 30 (.lenSl (tm 29)),
 o1 31 (.bin .lss (so (.binOp .lss 3 (tm 28) (tm 30) 3) 4) (tm 28) (tm 30))]) (.cond (tm 31)
 .skip
 (.exit 2))) (.seq (.block 3 (.regionD [
 o1 34 (.load (some 8) (tm 4)),
 o1 35 (.mov (tm 3)),
 o1 36 (.mov (tm 5)),
 o1 37 (.mov (tm 5)),
 o1 38 (.bin .add (so (.binOp .add 3 (tm 37) (.const (.int .i64 64)) 3) 3) (tm 37) (.const (.int .i64 64))),
 o1 39 (.sliceSl 1 (tm 35) (some (tm 36)) (some (tm 38)) none),
 o1 40 (.mov (tm 0)),
 o1 41 (.lenSl (tm 40)),
 o1 42 (.mov (tm 5)),
 o1 43 (.bin .add (so (.binOp .add 3 (tm 42) (.const (.int .i64 64)) 3) 3) (tm 42) (.const (.int .i64 64))),
 o1 44 (.raw (so (.call ⟨.builtin .min, #[(tm 41), (tm 43)], #[3, 3]⟩) 3)),
 o1 45 (.mov (tm 5)),
 o1 46 (.bin .add (so (.binOp .add 3 (tm 45) (.const (.int .i64 64)) 3) 3) (tm 45) (.const (.int .i64 64))),
 o1 47 (.mov (tm 3)),
 o1 48 (.lenSl (tm 47)),
 o1 49 (.bin .eql (so (.binOp .eql 3 (tm 46) (tm 48) 3) 4) (tm 46) (tm 48)),
 o2 50 (.callV (.func 93) [(tm 34), (tm 39), (tm 44), (tm 49)]),
 ⟨none, .store 8 (tm 4) (tm 50), none, [], true⟩])) (.region [
 o1 32 (.mov (tm 5)),
 o1 33 (.bin .add (so (.binOp .add 3 (tm 32) (.const (.int .i64 64)) 3) 3) (tm 32) (.const (.int .i64 64))),
 o1 5 (.mov (tm 33))])))
def zyQ_l2 : ACode :=
 (.seq (.seq (.region [
 o1 51 (.mov (tm 7)),
 o1 52 (.bin .lss (so (.binOp .lss 3 (tm 51) (.const (.int .i64 32)) 3) 4) (tm 51) (.const (.int .i64 32)))]) (.cond (tm 52)
 .skip
 (.exit 4))) (.seq (.block 5 (.region [
 o1 55 (.mov (tm 7)),
 o1 56 (.mov (tm 7)),
 o1 57 (.bin .quo (so (.binOp .quo 3 (tm 56) (.const (.int .i64 4)) 3) 3) (tm 56) (.const (.int .i64 4))),
 o1 58 (.indexArr 8 1 (tm 4) (tm 57)),
 o1 59 (.load none (tm 58)),
 o1 60 (.mov (tm 7)),
 o1 61 (.bin .rem (so (.binOp .rem 3 (tm 60) (.const (.int .i64 4)) 3) 3) (tm 60) (.const (.int .i64 4))),
 o1 62 (.bin .mul (so (.binOp .mul 3 (.const (.int .i64 8)) (tm 61) 3) 3) (.const (.int .i64 8)) (tm 61)),
 o1 63 (.conv .u64 (so (.convert 3 115 (tm 62)) 115) (tm 62)),
 o1 64 (.bin .shr (so (.binOp .shr 131 (tm 59) (tm 63) 115) 131) (tm 59) (tm 63)),
 o1 65 (.conv .u8 (so (.convert 131 5 (tm 64)) 5) (tm 64)),
 o1 66 (.indexArr 32 1 (tm 6) (tm 55)),
 o3 (.store 1 (tm 66) (tm 65))])) (.region [
 o1 53 (.mov (tm 7)),
 o1 54 (.bin .add (so (.binOp .add 3 (tm 53) (.const (.int .i64 1)) 3) 3) (tm 53) (.const (.int .i64 1))),
 o1 7 (.mov (tm 54))])))
def zyQ_c : ACode :=
 (.seq (.region [
 o1 2 (.alloc 63 z32)]) (.seq (.region [
 o1 8 (.buildSlice 5 [] 0 []),
 o1 9 (.mov (tm 0)),
 o1 10 (.append 5 1 1 [(.int .u8 0)] false (tm 8) (tm 9)),
 o1 3 (.mov (tm 10))]) (.seq (.block 0 (.loop zyQ_l0)) (.seq (.region [
 o1 23 (.callV (.func 92) []),
 o1 4 (.alloc 132 [(.int .u32 0), (.int .u32 0), (.int .u32 0), (.int .u32 0), (.int .u32 0), (.int .u32 0), (.int .u32 0), (.int .u32 0)]),
 o3 (.store 8 (tm 4) (tm 23))]) (.seq (.region [
 o1 24 (.indexArr 8 1 (tm 4) k0),
 o1 25 (.load none (tm 24)),
 o1 26 (.bin .xor (so (.binOp .xor 131 (tm 25) (.const (.int .u32 16842784)) 131) 131) (tm 25) (.const (.int .u32 16842784))),
 o1 27 (.indexArr 8 1 (tm 4) k0),
 o3 (.store 1 (tm 27) (tm 26))]) (.seq (.seq (.region [
 o1 5 (.mov k0)]) (.block 2 (.loop zyQ_l1))) (.seq (.region [
 o1 6 (.alloc 63 z32)]) (.seq (.seq (.region [
 o1 7 (.mov k0)]) (.block 4 (.loop zyQ_l2))) (.seq (.region [
 o1 67 (.load (some 32) (tm 6)),
 o3 (.store 32 (tm 2) (tm 67))]) .ret)))))))))
def zyQ : AFunc := ⟨68, [(2, some (some 32))], zyQ_c, none⟩
theorem zyQ_t0 : tableOf Try.prog 69 = some zyQ := by kernel_rfl
theorem zyQ_t : T0 69 = some zyQ := withKept_t rfl (withTrue_t rfl zyQ_t0)
theorem zyQ_runs {v0 : Value} {h : Heap} {R : RP} {X : XP} (k : RunC Try.prog T0 zyQ_c ⟨[v0, U, U, U, U, U, U, U, U, U, U, U, U, U, U, U, U, U, U, U, U, U, U, U, U, U, U, U, U, U, U, U, U, U, U, U, U, U, U, U, U, U, U, U, U, U, U, U, U, U, U, U, U, U, U, U, U, U, U, U, U, U, U, U, U, U, U, U], [], h, none⟩ (bodyQ Try.prog T0 [(2, some (some 32))] R X)) :
 Runs Try.prog T0 (.fn 69) [v0] h R X := Runs.fn zyQ_t rfl k
def zyQ_l0_J (f0 f1 f2 f4 f5 f6 f7 f8 f9 f10 f23 f24 f25 f26 f27 f28 f29 f30 f31 f32 f33 f34 f35 f36 f37 f38 f39 f40 f41 f42 f43 f44 f45 f46 f47 f48 f49 f50 f51 f52 f53 f54 f55 f56 f57 f58 f59 f60 f61 f62 f63 f64 f65 f66 f67 : Value) (ds : List Deferred) (rd : Option Nat) (I : Nat → Value → Heap → Prop) (m : Nat) (s : St) : Prop := ∃ (v3 : Value), ∃ h : Heap, ∃ (x11 x12 x13 x14 x15 x16 x17 x18 x19 x20 x21 x22 : Value), s = ⟨[f0, f1, f2, v3, f4, f5, f6, f7, f8, f9, f10, x11, x12, x13, x14, x15, x16, x17, x18, x19, x20, x21, x22, f23, f24, f25, f26, f27, f28, f29, f30, f31, f32, f33, f34, f35, f36, f37, f38, f39, f40, f41, f42, f43, f44, f45, f46, f47, f48, f49, f50, f51, f52, f53, f54, f55, f56, f57, f58, f59, f60, f61, f62, f63, f64, f65, f66, f67], ds, h, rd⟩ ∧ I m v3 h
theorem zyQ_l0_rule {f0 f1 f2 f4 f5 f6 f7 f8 f9 f10 f23 f24 f25 f26 f27 f28 f29 f30 f31 f32 f33 f34 f35 f36 f37 f38 f39 f40 f41 f42 f43 f44 f45 f46 f47 f48 f49 f50 f51 f52 f53 f54 f55 f56 f57 f58 f59 f60 f61 f62 f63 f64 f65 f66 f67 : Value} {ds : List Deferred} {rd : Option Nat} {Q : QP} (I : Nat → Value → Heap → Prop) (hb : ∀ (m : Nat) (v3 : Value) (h : Heap) (x11 x12 x13 x14 x15 x16 x17 x18 x19 x20 x21 x22 : Value) , I m v3 h → RunC Try.prog T0 zyQ_l0 ⟨[f0, f1, f2, v3, f4, f5, f6, f7, f8, f9, f10, x11, x12, x13, x14, x15, x16, x17, x18, x19, x20, x21, x22, f23, f24, f25, f26, f27, f28, f29, f30, f31, f32, f33, f34, f35, f36, f37, f38, f39, f40, f41, f42, f43, f44, f45, f46, f47, f48, f49, f50, f51, f52, f53, f54, f55, f56, f57, f58, f59, f60, f61, f62, f63, f64, f65, f66, f67], ds, h, rd⟩ (loopQ (zyQ_l0_J f0 f1 f2 f4 f5 f6 f7 f8 f9 f10 f23 f24 f25 f26 f27 f28 f29 f30 f31 f32 f33 f34 f35 f36 f37 f38 f39 f40 f41 f42 f43 f44 f45 f46 f47 f48 f49 f50 f51 f52 f53 f54 f55 f56 f57 f58 f59 f60 f61 f62 f63 f64 f65 f66 f67 ds rd I) m Q))
 (m : Nat) {v3 : Value} {h : Heap} {x11 x12 x13 x14 x15 x16 x17 x18 x19 x20 x21 x22 : Value} (hi : I m v3 h) : RunC Try.prog T0 (.loop zyQ_l0) ⟨[f0, f1, f2, v3, f4, f5, f6, f7, f8, f9, f10, x11, x12, x13, x14, x15, x16, x17, x18, x19, x20, x21, x22, f23, f24, f25, f26, f27, f28, f29, f30, f31, f32, f33, f34, f35, f36, f37, f38, f39, f40, f41, f42, f43, f44, f45, f46, f47, f48, f49, f50, f51, f52, f53, f54, f55, f56, f57, f58, f59, f60, f61, f62, f63, f64, f65, f66, f67], ds, h, rd⟩ Q :=
 RunC.loopJ (zyQ_l0_J f0 f1 f2 f4 f5 f6 f7 f8 f9 f10 f23 f24 f25 f26 f27 f28 f29 f30 f31 f32 f33 f34 f35 f36 f37 f38 f39 f40 f41 f42 f43 f44 f45 f46 f47 f48 f49 f50 f51 f52 f53 f54 f55 f56 f57 f58 f59 f60 f61 f62 f63 f64 f65 f66 f67 ds rd I) (fun m s hj => by obtain ⟨v3, h, x11, x12, x13, x14, x15, x16, x17, x18, x19, x20, x21, x22, rfl, hi⟩ := hj; exact hb m v3 h x11 x12 x13 x14 x15 x16 x17 x18 x19 x20 x21 x22 hi) m _ ⟨_, h, _, _, _, _, _, _, _, _, _, _, _, _, rfl, hi⟩
theorem zyQ_l0_again {f0 f1 f2 f4 f5 f6 f7 f8 f9 f10 f23 f24 f25 f26 f27 f28 f29 f30 f31 f32 f33 f34 f35 f36 f37 f38 f39 f40 f41 f42 f43 f44 f45 f46 f47 f48 f49 f50 f51 f52 f53 f54 f55 f56 f57 f58 f59 f60 f61 f62 f63 f64 f65 f66 f67 : Value} {ds : List Deferred} {rd : Option Nat} {Q : QP} {I : Nat → Value → Heap → Prop} {m : Nat} (m' : Nat) {v3 : Value} {h : Heap} {x11 x12 x13 x14 x15 x16 x17 x18 x19 x20 x21 x22 : Value} (hm : m' < m) (hi : I m' v3 h) : loopQ (zyQ_l0_J f0 f1 f2 f4 f5 f6 f7 f8 f9 f10 f23 f24 f25 f26 f27 f28 f29 f30 f31 f32 f33 f34 f35 f36 f37 f38 f39 f40 f41 f42 f43 f44 f45 f46 f47 f48 f49 f50 f51 f52 f53 f54 f55 f56 f57 f58 f59 f60 f61 f62 f63 f64 f65 f66 f67 ds rd I) m Q .normal ⟨[f0, f1, f2, v3, f4, f5, f6, f7, f8, f9, f10, x11, x12, x13, x14, x15, x16, x17, x18, x19, x20, x21, x22, f23, f24, f25, f26, f27, f28, f29, f30, f31, f32, f33, f34, f35, f36, f37, f38, f39, f40, f41, f42, f43, f44, f45, f46, f47, f48, f49, f50, f51, f52, f53, f54, f55, f56, f57, f58, f59, f60, f61, f62, f63, f64, f65, f66, f67], ds, h, rd⟩ :=
 loopQ.again m' hm ⟨_, h, _, _, _, _, _, _, _, _, _, _, _, _, rfl, hi⟩
def zyQ_l1_J (f0 f1 f2 f3 f4 f6 f7 f8 f9 f10 f11 f12 f13 f14 f15 f16 f17 f18 f19 f20 f21 f22 f23 f24 f25 f26 f27 f51 f52 f53 f54 f55 f56 f57 f58 f59 f60 f61 f62 f63 f64 f65 f66 f67 : Value) (ds : List Deferred) (rd : Option Nat) (I : Nat → Value → Heap → Prop) (m : Nat) (s : St) : Prop := ∃ (v5 : Value), ∃ h : Heap, ∃ (x28 x29 x30 x31 x32 x33 x34 x35 x36 x37 x38 x39 x40 x41 x42 x43 x44 x45 x46 x47 x48 x49 x50 : Value), s = ⟨[f0, f1, f2, f3, f4, v5, f6, f7, f8, f9, f10, f11, f12, f13, f14, f15, f16, f17, f18, f19, f20, f21, f22, f23, f24, f25, f26, f27, x28, x29, x30, x31, x32, x33, x34, x35, x36, x37, x38, x39, x40, x41, x42, x43, x44, x45, x46, x47, x48, x49, x50, f51, f52, f53, f54, f55, f56, f57, f58, f59, f60, f61, f62, f63, f64, f65, f66, f67], ds, h, rd⟩ ∧ I m v5 h
theorem zyQ_l1_rule {f0 f1 f2 f3 f4 f6 f7 f8 f9 f10 f11 f12 f13 f14 f15 f16 f17 f18 f19 f20 f21 f22 f23 f24 f25 f26 f27 f51 f52 f53 f54 f55 f56 f57 f58 f59 f60 f61 f62 f63 f64 f65 f66 f67 : Value} {ds : List Deferred} {rd : Option Nat} {Q : QP} (I : Nat → Value → Heap → Prop) (hb : ∀ (m : Nat) (v5 : Value) (h : Heap) (x28 x29 x30 x31 x32 x33 x34 x35 x36 x37 x38 x39 x40 x41 x42 x43 x44 x45 x46 x47 x48 x49 x50 : Value) , I m v5 h → RunC Try.prog T0 zyQ_l1 ⟨[f0, f1, f2, f3, f4, v5, f6, f7, f8, f9, f10, f11, f12, f13, f14, f15, f16, f17, f18, f19, f20, f21, f22, f23, f24, f25, f26, f27, x28, x29, x30, x31, x32, x33, x34, x35, x36, x37, x38, x39, x40, x41, x42, x43, x44, x45, x46, x47, x48, x49, x50, f51, f52, f53, f54, f55, f56, f57, f58, f59, f60, f61, f62, f63, f64, f65, f66, f67], ds, h, rd⟩ (loopQ (zyQ_l1_J f0 f1 f2 f3 f4 f6 f7 f8 f9 f10 f11 f12 f13 f14 f15 f16 f17 f18 f19 f20 f21 f22 f23 f24 f25 f26 f27 f51 f52 f53 f54 f55 f56 f57 f58 f59 f60 f61 f62 f63 f64 f65 f66 f67 ds rd I) m Q))
 (m : Nat) {v5 : Value} {h : Heap} {x28 x29 x30 x31 x32 x33 x34 x35 x36 x37 x38 x39 x40 x41 x42 x43 x44 x45 x46 x47 x48 x49 x50 : Value} (hi : I m v5 h) : RunC Try.prog T0 (.loop zyQ_l1) ⟨[f0, f1, f2, f3, f4, v5, f6, f7, f8, f9, f10, f11, f12, f13, f14, f15, f16, f17, f18, f19, f20, f21, f22, f23, f24, f25, f26, f27, x28, x29, x30, x31, x32, x33, x34, x35, x36, x37, x38, x39, x40, x41, x42, x43, x44, x45, x46, x47, x48, x49, x50, f51, f52, f53, f54, f55, f56, f57, f58, f59, f60, f61, f62, f63, f64, f65, f66, f67], ds, h, rd⟩ Q :=
 RunC.loopJ (zyQ_l1_J f0 f1 f2 f3 f4 f6 f7 f8 f9 f10 f11 f12 f13 f14 f15 f16 f17 f18 f19 f20 f21 f22 f23 f24 f25 f26 f27 f51 f52 f53 f54 f55 f56 f57 f58 f59 f60 f61 f62 f63 f64 f65 f66 f67 ds rd I) (fun m s hj => by obtain ⟨v5, h, x28, x29, x30, x31, x32, x33, x34, x35, x36, x37, x38, x39, x40, x41, x42, x43, x44, x45, x46, x47, x48, x49, x50, rfl, hi⟩ := hj; exact hb m v5 h x28 x29 x30 x31 x32 x33 x34 x35 x36 x37 x38 x39 x40 x41 x42 x43 x44 x45 x46 x47 x48 x49 x50 hi) m _ ⟨_, h, _, _, _, _, _, _, _, _, _, _, _, _, _, _, _, _, _, _, _, _, _, _, _, rfl, hi⟩
theorem zyQ_l1_again {f0 f1 f2 f3 f4 f6 f7 f8 f9 f10 f11 f12 f13 f14 f15 f16 f17 f18 f19 f20 f21 f22 f23 f24 f25 f26 f27 f51 f52 f53 f54 f55 f56 f57 f58 f59 f60 f61 f62 f63 f64 f65 f66 f67 : Value} {ds : List Deferred} {rd : Option Nat} {Q : QP} {I : Nat → Value → Heap → Prop} {m : Nat} (m' : Nat) {v5 : Value} {h : Heap} {x28 x29 x30 x31 x32 x33 x34 x35 x36 x37 x38 x39 x40 x41 x42 x43 x44 x45 x46 x47 x48 x49 x50 : Value} (hm : m' < m) (hi : I m' v5 h) : loopQ (zyQ_l1_J f0 f1 f2 f3 f4 f6 f7 f8 f9 f10 f11 f12 f13 f14 f15 f16 f17 f18 f19 f20 f21 f22 f23 f24 f25 f26 f27 f51 f52 f53 f54 f55 f56 f57 f58 f59 f60 f61 f62 f63 f64 f65 f66 f67 ds rd I) m Q .normal ⟨[f0, f1, f2, f3, f4, v5, f6, f7, f8, f9, f10, f11, f12, f13, f14, f15, f16, f17, f18, f19, f20, f21, f22, f23, f24, f25, f26, f27, x28, x29, x30, x31, x32, x33, x34, x35, x36, x37, x38, x39, x40, x41, x42, x43, x44, x45, x46, x47, x48, x49, x50, f51, f52, f53, f54, f55, f56, f57, f58, f59, f60, f61, f62, f63, f64, f65, f66, f67], ds, h, rd⟩ :=
 loopQ.again m' hm ⟨_, h, _, _, _, _, _, _, _, _, _, _, _, _, _, _, _, _, _, _, _, _, _, _, _, rfl, hi⟩
def zyQ_l2_J (f0 f1 f2 f3 f4 f5 f6 f8 f9 f10 f11 f12 f13 f14 f15 f16 f17 f18 f19 f20 f21 f22 f23 f24 f25 f26 f27 f28 f29 f30 f31 f32 f33 f34 f35 f36 f37 f38 f39 f40 f41 f42 f43 f44 f45 f46 f47 f48 f49 f50 f67 : Value) (ds : List Deferred) (rd : Option Nat) (I : Nat → Value → Heap → Prop) (m : Nat) (s : St) : Prop := ∃ (v7 : Value), ∃ h : Heap, ∃ (x51 x52 x53 x54 x55 x56 x57 x58 x59 x60 x61 x62 x63 x64 x65 x66 : Value), s = ⟨[f0, f1, f2, f3, f4, f5, f6, v7, f8, f9, f10, f11, f12, f13, f14, f15, f16, f17, f18, f19, f20, f21, f22, f23, f24, f25, f26, f27, f28, f29, f30, f31, f32, f33, f34, f35, f36, f37, f38, f39, f40, f41, f42, f43, f44, f45, f46, f47, f48, f49, f50, x51, x52, x53, x54, x55, x56, x57, x58, x59, x60, x61, x62, x63, x64, x65, x66, f67], ds, h, rd⟩ ∧ I m v7 h
theorem zyQ_l2_rule {f0 f1 f2 f3 f4 f5 f6 f8 f9 f10 f11 f12 f13 f14 f15 f16 f17 f18 f19 f20 f21 f22 f23 f24 f25 f26 f27 f28 f29 f30 f31 f32 f33 f34 f35 f36 f37 f38 f39 f40 f41 f42 f43 f44 f45 f46 f47 f48 f49 f50 f67 : Value} {ds : List Deferred} {rd : Option Nat} {Q : QP} (I : Nat → Value → Heap → Prop) (hb : ∀ (m : Nat) (v7 : Value) (h : Heap) (x51 x52 x53 x54 x55 x56 x57 x58 x59 x60 x61 x62 x63 x64 x65 x66 : Value) , I m v7 h → RunC Try.prog T0 zyQ_l2 ⟨[f0, f1, f2, f3, f4, f5, f6, v7, f8, f9, f10, f11, f12, f13, f14, f15, f16, f17, f18, f19, f20, f21, f22, f23, f24, f25, f26, f27, f28, f29, f30, f31, f32, f33, f34, f35, f36, f37, f38, f39, f40, f41, f42, f43, f44, f45, f46, f47, f48, f49, f50, x51, x52, x53, x54, x55, x56, x57, x58, x59, x60, x61, x62, x63, x64, x65, x66, f67], ds, h, rd⟩ (loopQ (zyQ_l2_J f0 f1 f2 f3 f4 f5 f6 f8 f9 f10 f11 f12 f13 f14 f15 f16 f17 f18 f19 f20 f21 f22 f23 f24 f25 f26 f27 f28 f29 f30 f31 f32 f33 f34 f35 f36 f37 f38 f39 f40 f41 f42 f43 f44 f45 f46 f47 f48 f49 f50 f67 ds rd I) m Q))
 (m : Nat) {v7 : Value} {h : Heap} {x51 x52 x53 x54 x55 x56 x57 x58 x59 x60 x61 x62 x63 x64 x65 x66 : Value} (hi : I m v7 h) : RunC Try.prog T0 (.loop zyQ_l2) ⟨[f0, f1, f2, f3, f4, f5, f6, v7, f8, f9, f10, f11, f12, f13, f14, f15, f16, f17, f18, f19, f20, f21, f22, f23, f24, f25, f26, f27, f28, f29, f30, f31, f32, f33, f34, f35, f36, f37, f38, f39, f40, f41, f42, f43, f44, f45, f46, f47, f48, f49, f50, x51, x52, x53, x54, x55, x56, x57, x58, x59, x60, x61, x62, x63, x64, x65, x66, f67], ds, h, rd⟩ Q :=
 RunC.loopJ (zyQ_l2_J f0 f1 f2 f3 f4 f5 f6 f8 f9 f10 f11 f12 f13 f14 f15 f16 f17 f18 f19 f20 f21 f22 f23 f24 f25 f26 f27 f28 f29 f30 f31 f32 f33 f34 f35 f36 f37 f38 f39 f40 f41 f42 f43 f44 f45 f46 f47 f48 f49 f50 f67 ds rd I) (fun m s hj => by obtain ⟨v7, h, x51, x52, x53, x54, x55, x56, x57, x58, x59, x60, x61, x62, x63, x64, x65, x66, rfl, hi⟩ := hj; exact hb m v7 h x51 x52 x53 x54 x55 x56 x57 x58 x59 x60 x61 x62 x63 x64 x65 x66 hi) m _ ⟨_, h, _, _, _, _, _, _, _, _, _, _, _, _, _, _, _, _, rfl, hi⟩
theorem zyQ_l2_again {f0 f1 f2 f3 f4 f5 f6 f8 f9 f10 f11 f12 f13 f14 f15 f16 f17 f18 f19 f20 f21 f22 f23 f24 f25 f26 f27 f28 f29 f30 f31 f32 f33 f34 f35 f36 f37 f38 f39 f40 f41 f42 f43 f44 f45 f46 f47 f48 f49 f50 f67 : Value} {ds : List Deferred} {rd : Option Nat} {Q : QP} {I : Nat → Value → Heap → Prop} {m : Nat} (m' : Nat) {v7 : Value} {h : Heap} {x51 x52 x53 x54 x55 x56 x57 x58 x59 x60 x61 x62 x63 x64 x65 x66 : Value} (hm : m' < m) (hi : I m' v7 h) : loopQ (zyQ_l2_J f0 f1 f2 f3 f4 f5 f6 f8 f9 f10 f11 f12 f13 f14 f15 f16 f17 f18 f19 f20 f21 f22 f23 f24 f25 f26 f27 f28 f29 f30 f31 f32 f33 f34 f35 f36 f37 f38 f39 f40 f41 f42 f43 f44 f45 f46 f47 f48 f49 f50 f67 ds rd I) m Q .normal ⟨[f0, f1, f2, f3, f4, f5, f6, v7, f8, f9, f10, f11, f12, f13, f14, f15, f16, f17, f18, f19, f20, f21, f22, f23, f24, f25, f26, f27, f28, f29, f30, f31, f32, f33, f34, f35, f36, f37, f38, f39, f40, f41, f42, f43, f44, f45, f46, f47, f48, f49, f50, x51, x52, x53, x54, x55, x56, x57, x58, x59, x60, x61, x62, x63, x64, x65, x66, f67], ds, h, rd⟩ :=
 loopQ.again m' hm ⟨_, h, _, _, _, _, _, _, _, _, _, _, _, _, _, _, _, _, rfl, hi⟩
abbrev fn_zsbQ : FuncId := 70
def zsbQ_c : ACode :=
 (.seq (.region [
 o1 2 (.mov (.const (.slice none 0 0)))]) (.seq (.seq (.region [
 o1 3 (.mov (tm 0)),
 o1 4 (.eq .slice false (so (.binOp .eql 22 (tm 3) (.const (.slice none 0 0)) 22) 4) (tm 3) (.const (.slice none 0 0)))]) (.cond (tm 4)
 (.seq (.region [
 o1 2 (.mov (.const (.slice none 0 0)))]) .ret)
 .skip)) (.seq (.region [
 o1 5 (.buildSlice 5 [] 0 []),
 o1 6 (.mov (tm 0)),
 o1 7 (.append 5 1 1 [(.int .u8 0)] false (tm 5) (tm 6)),
 o1 2 (.mov (tm 7))]) .ret)))
def zsbQ : AFunc := ⟨8, [(2, none)], zsbQ_c, none⟩
theorem zsbQ_t0 : tableOf Try.prog 70 = some zsbQ := by kernel_rfl
theorem zsbQ_t : T0 70 = some zsbQ := withKept_t rfl (withTrue_t rfl zsbQ_t0)
theorem zsbQ_runs {v0 : Value} {h : Heap} {R : RP} {X : XP} (k : RunC Try.prog T0 zsbQ_c ⟨[v0, U, U, U, U, U, U, U], [], h, none⟩ (bodyQ Try.prog T0 [(2, none)] R X)) :
 Runs Try.prog T0 (.fn 70) [v0] h R X := Runs.fn zsbQ_t rfl k
abbrev fn_zlQ : FuncId := 79
def zlQ_c : ACode :=
 (.seq (.region [
 o1 4 (.mov k0)]) (.seq (.region [
 o1 5 (.mov (tm 0)),
 o1 6 (.mov (tm 1)),
 o1 7 (.ext .compare (.func 99) [(tm 5), (tm 6)]),
 o1 4 (.mov (tm 7))]) .ret))
def zlQ : AFunc := ⟨8, [(4, none)], zlQ_c, none⟩
theorem zlQ_t0 : tableOf Try.prog 79 = some zlQ := by kernel_rfl
theorem zlQ_t : T0 79 = some zlQ := withKept_t rfl (withTrue_t rfl zlQ_t0)
theorem zlQ_runs {v0 v1 : Value} {h : Heap} {R : RP} {X : XP} (k : RunC Try.prog T0 zlQ_c ⟨[v0, v1, U, U, U, U, U, U], [], h, none⟩ (bodyQ Try.prog T0 [(4, none)] R X)) :
 Runs Try.prog T0 (.fn 79) [v0, v1] h R X := Runs.fn zlQ_t rfl k
abbrev fn_zscQ : FuncId := 81
def zscQ_c : ACode :=
 (.seq (.region [
 o1 6 (.mov k0)]) (.seq (.seq (.region [
 o1 8 (.mov (tm 0)),
 o1 9 (.eq .ptr false (so (.binOp .eql 88 (tm 8) (.const (.pointer none)) 88) 4) (tm 8) (.const (.pointer none))),
 o1 10 (.mov (tm 9)),
 o5 11 (.mov (tm 0)) 10,
 o5 12 (.nilCheck (tm 11)) 10,
 o5 13 (.fieldAddr 3 (tm 12)) 10,
 o5 14 (.load none (tm 13)) 10,
 o5 15 (.raw (so (.unOp .not 4 (tm 14)) 4)) 10,
 o1 16 (.pick (tm 10) (.const (.bool true)) (tm 15))]) (.cond (tm 16)
 (.seq (.region [
 o1 6 (.mov (.const (.int .i64 1)))]) .ret)
 .skip)) (.seq (.region [
 o1 17 (.mov (tm 2)),
 o1 18 (.callV (.func 100) [(tm 17)]),
 o1 7 (.mov (tm 18))]) (.seq (.block 0 (.seq (.region [
 o1 29 (.mov (tm 0)),
 o1 30 (.nilCheck (tm 29)),
 o1 31 (.fieldAddr 2 (tm 30)),
 o1 32 (.load none (tm 31)),
 o1 33 (.bin .neq (so (.binOp .neq 26 (tm 32) k0 26) 4) (tm 32) k0),
 o1 28 (.mov (tm 33))]) (.cond (tm 28)
 .skip
 (.seq (.region [
 o1 35 (.mov (tm 1)),
 o1 36 (.raw (so (.unOp .not 4 (tm 35)) 4)),
 o1 34 (.mov (tm 36))]) (.cond (tm 34)
 (.region [
 o1 37 (.mov (tm 0)),
 o1 38 (.nilCheck (tm 37)),
 o1 39 (.fieldAddr 2 (tm 38)),
 o3 (.store 1 (tm 39) (.const (.int .i64 3)))])
 (.seq (.regionD [
 o1 41 (.mov (tm 0)),
 o1 42 (.nilCheck (tm 41)),
 o1 43 (.fieldAddr 1 (tm 42)),
 o1 44 (.load none (tm 43)),
 o1 45 (.lenSl (tm 44)),
 o1 46 (.mov (tm 7)),
 o1 47 (.lenSl (tm 46)),
 o1 48 (.bin .add (so (.binOp .add 3 (tm 45) (tm 47) 3) 3) (tm 45) (tm 47)),
 o1 49 (.mov (tm 0)),
 o1 50 (.nilCheck (tm 49)),
 o1 51 (.fieldAddr 0 (tm 50)),
 o1 52 (.load none (tm 51)),
 o2 53 (.bin .gtr (so (.binOp .gtr 3 (tm 48) (tm 52) 3) 4) (tm 48) (tm 52)),
 o2 40 (.mov (tm 53))]) (.cond (tm 40)
 (.region [
 o1 54 (.mov (tm 0)),
 o1 55 (.nilCheck (tm 54)),
 o1 56 (.fieldAddr 2 (tm 55)),
 o3 (.store 1 (tm 56) (.const (.int .i64 4)))])
 (.region [
 o1 19 (.mov (tm 0)),
 o1 20 (.mov (tm 0)),
 o1 21 (.nilCheck (tm 20)),
 o1 22 (.fieldAddr 1 (tm 21)),
 o1 23 (.load none (tm 22)),
 o1 24 (.mov (tm 7)),
 o1 25 (.append 5 1 1 [(.int .u8 0)] false (tm 23) (tm 24)),
 o1 26 (.nilCheck (tm 19)),
 o1 27 (.fieldAddr 1 (tm 26)),
 o3 (.store 1 (tm 27) (tm 25))])))))))) (.seq (.region [
 o1 57 (.mov (tm 0)),
 o1 58 (.nilCheck (tm 57)),
 o1 59 (.fieldAddr 2 (tm 58)),
 o1 60 (.load none (tm 59)),
 o1 6 (.mov (tm 60))]) .ret)))))
def zscQ : AFunc := ⟨61, [(6, none)], zscQ_c, none⟩
theorem zscQ_t0 : tableOf Try.prog 81 = some zscQ := by kernel_rfl
theorem zscQ_t : T0 81 = some zscQ := withKept_t rfl (withTrue_t rfl zscQ_t0)
theorem zscQ_runs {v0 v1 v2 : Value} {h : Heap} {R : RP} {X : XP} (k : RunC Try.prog T0 zscQ_c ⟨[v0, v1, v2, U, U, U, U, U, U, U, U, U, U, U, U, U, U, U, U, U, U, U, U, U, U, U, U, U, U, U, U, U, U, U, U, U, U, U, U, U, U, U, U, U, U, U, U, U, U, U, U, U, U, U, U, U, U, U, U, U, U], [], h, none⟩ (bodyQ Try.prog T0 [(6, none)] R X)) :
 Runs Try.prog T0 (.fn 81) [v0, v1, v2] h R X := Runs.fn zscQ_t rfl k
abbrev fn_ztcQ : FuncId := 82
def ztcQ_l0 : ACode :=
 (.seq (.seq (.region [
 o1 5 (.mov (tm 0)),
 o1 6 (.bin .gtr (so (.binOp .gtr 3 (tm 5) k0 3) 4) (tm 5) k0)]) (.cond (tm 6)
 .skip
 (.exit 0))) (.seq (.block 1 (.seq (.region [
 o1 9 (.mov (tm 4)),
 o1 10 (.bin .sub (so (.binOp .sub 3 (.const (.int .i64 8)) (tm 9) 3) 3) (.const (.int .i64 8)) (tm 9)),
 o1 11 (.mov (tm 0)),
 o1 12 (.conv .u8 (so (.convert 3 5 (tm 11)) 5) (tm 11)),
 o1 13 (.indexArr 9 1 (tm 3) (tm 10)),
 o3 (.store 1 (tm 13) (tm 12))]) (.region [
 o1 14 (.mov (tm 4)),
 o1 15 (.bin .add (so (.binOp .add 3 (tm 14) (.const (.int .i64 1)) 3) 3) (tm 14) (.const (.int .i64 1))),
 o1 4 (.mov (tm 15))]))) (.region [
 o1 7 (.mov (tm 0)),
 o1 8 (.bin .shr (so (.binOp .shr 3 (tm 7) (.const (.int .u64 8)) 115) 3) (tm 7) (.const (.int .u64 8))),
 o1 0 (.mov (tm 8))])))
def ztcQ_c : ACode :=
 (.seq (.region [
 o1 2 (.mov (.const (.slice none 0 0)))]) (.seq (.region [
 o1 3 (.alloc 140 [(.int .u8 0), (.int .u8 0), (.int .u8 0), (.int .u8 0), (.int .u8 0), (.int .u8 0), (.int .u8 0), (.int .u8 0), (.int .u8 0)])]) (.seq (.region [
 o1 4 (.mov k0)]) (.seq (.block 0 (.loop ztcQ_l0)) (.seq (.region [
 o1 16 (.mov (tm 4)),
 o1 17 (.bin .sub (so (.binOp .sub 3 (.const (.int .i64 8)) (tm 16) 3) 3) (.const (.int .i64 8)) (tm 16)),
 o1 18 (.mov (tm 4)),
 o1 19 (.conv .u8 (so (.convert 3 5 (tm 18)) 5) (tm 18)),
 o1 20 (.indexArr 9 1 (tm 3) (tm 17)),
 o3 (.store 1 (tm 20) (tm 19))]) (.seq (.region [
 o1 21 (.mov (tm 4)),
 o1 22 (.bin .sub (so (.binOp .sub 3 (.const (.int .i64 8)) (tm 21) 3) 3) (.const (.int .i64 8)) (tm 21)),
 o1 23 (.sliceArr 9 1 (tm 3) (some (tm 22)) none),
 o1 2 (.mov (tm 23))]) .ret))))))
def ztcQ : AFunc := ⟨24, [(2, none)], ztcQ_c, none⟩
theorem ztcQ_t0 : tableOf Try.prog 82 = some ztcQ := by kernel_rfl
theorem ztcQ_t : T0 82 = some ztcQ := withKept_t rfl (withTrue_t rfl ztcQ_t0)
theorem ztcQ_runs {v0 : Value} {h : Heap} {R : RP} {X : XP} (k : RunC Try.prog T0 ztcQ_c ⟨[v0, U, U, U, U, U, U, U, U, U, U, U, U, U, U, U, U, U, U, U, U, U, U, U], [], h, none⟩ (bodyQ Try.prog T0 [(2, none)] R X)) :
 Runs Try.prog T0 (.fn 82) [v0] h R X := Runs.fn ztcQ_t rfl k
def ztcQ_l0_J (f1 f2 f3 f16 f17 f18 f19 f20 f21 f22 f23 : Value) (ds : List Deferred) (rd : Option Nat) (I : Nat → Value → Value → Heap → Prop) (m : Nat) (s : St) : Prop := ∃ (v0 v4 : Value), ∃ h : Heap, ∃ (x5 x6 x7 x8 x9 x10 x11 x12 x13 x14 x15 : Value), s = ⟨[v0, f1, f2, f3, v4, x5, x6, x7, x8, x9, x10, x11, x12, x13, x14, x15, f16, f17, f18, f19, f20, f21, f22, f23], ds, h, rd⟩ ∧ I m v0 v4 h
theorem ztcQ_l0_rule {f1 f2 f3 f16 f17 f18 f19 f20 f21 f22 f23 : Value} {ds : List Deferred} {rd : Option Nat} {Q : QP} (I : Nat → Value → Value → Heap → Prop) (hb : ∀ (m : Nat) (v0 v4 : Value) (h : Heap) (x5 x6 x7 x8 x9 x10 x11 x12 x13 x14 x15 : Value) , I m v0 v4 h → RunC Try.prog T0 ztcQ_l0 ⟨[v0, f1, f2, f3, v4, x5, x6, x7, x8, x9, x10, x11, x12, x13, x14, x15, f16, f17, f18, f19, f20, f21, f22, f23], ds, h, rd⟩ (loopQ (ztcQ_l0_J f1 f2 f3 f16 f17 f18 f19 f20 f21 f22 f23 ds rd I) m Q))
 (m : Nat) {v0 v4 : Value} {h : Heap} {x5 x6 x7 x8 x9 x10 x11 x12 x13 x14 x15 : Value} (hi : I m v0 v4 h) : RunC Try.prog T0 (.loop ztcQ_l0) ⟨[v0, f1, f2, f3, v4, x5, x6, x7, x8, x9, x10, x11, x12, x13, x14, x15, f16, f17, f18, f19, f20, f21, f22, f23], ds, h, rd⟩ Q :=
 RunC.loopJ (ztcQ_l0_J f1 f2 f3 f16 f17 f18 f19 f20 f21 f22 f23 ds rd I) (fun m s hj => by obtain ⟨v0, v4, h, x5, x6, x7, x8, x9, x10, x11, x12, x13, x14, x15, rfl, hi⟩ := hj; exact hb m v0 v4 h x5 x6 x7 x8 x9 x10 x11 x12 x13 x14 x15 hi) m _ ⟨_, _, h, _, _, _, _, _, _, _, _, _, _, _, rfl, hi⟩
theorem ztcQ_l0_again {f1 f2 f3 f16 f17 f18 f19 f20 f21 f22 f23 : Value} {ds : List Deferred} {rd : Option Nat} {Q : QP} {I : Nat → Value → Value → Heap → Prop} {m : Nat} (m' : Nat) {v0 v4 : Value} {h : Heap} {x5 x6 x7 x8 x9 x10 x11 x12 x13 x14 x15 : Value} (hm : m' < m) (hi : I m' v0 v4 h) : loopQ (ztcQ_l0_J f1 f2 f3 f16 f17 f18 f19 f20 f21 f22 f23 ds rd I) m Q .normal ⟨[v0, f1, f2, f3, v4, x5, x6, x7, x8, x9, x10, x11, x12, x13, x14, x15, f16, f17, f18, f19, f20, f21, f22, f23], ds, h, rd⟩ :=
 loopQ.again m' hm ⟨_, _, h, _, _, _, _, _, _, _, _, _, _, _, rfl, hi⟩
abbrev fn_zlcQ : FuncId := 83
def zlcQ_l0 : ACode :=
 (.seq (.region [
 o1 16 (.bin .lss (so (.binOp .lss 3 (tm 15) (tm 14) 3) 0) (tm 15) (tm 14))]) (.seq (.cond (tm 16)
 .skip
 (.exit 0)) (.seq (.block 1 (.seq (.region [
 o1 17 (.indexSl 1 (tm 13) (tm 15)),
 o1 18 (.load none (tm 17)),
 o1 9 (.mov (tm 18))]) (.seq (.region [
 o1 20 (.mov (tm 2)),
 o1 21 (.load (some 2) (tm 3)),
 o1 22 (.mov (tm 9)),
 o1 23 (.callV (tm 20) [(tm 21), (tm 22)]),
 o1 19 (.mov (tm 23)),
 o1 24 (.extract 0 (tm 19)),
 o1 25 (.extract 1 (tm 19)),
 o1 10 (.alloc 52 [(.int .u64 0), (.int .u64 0)]),
 o3 (.store 2 (tm 10) (tm 24)),
 o1 11 (.mov (tm 25))]) (.seq (.seq (.region [
 o1 26 (.mov (tm 11)),
 o1 27 (.bin .neq (so (.binOp .neq 26 (tm 26) k0 26) 4) (tm 26) k0)]) (.cond (tm 27)
 (.seq (.region [
 o1 12 (.alloc 52 [(.int .u64 0), (.int .u64 0)])]) (.seq (.region [
 o1 28 (.load (some 2) (tm 12)),
 o1 29 (.mov (tm 11)),
 o3 (.store 2 (tm 6) (tm 28)),
 o1 7 (.mov (tm 29))]) .ret))
 .skip)) (.region [
 o1 30 (.load (some 2) (tm 10)),
 o3 (.store 2 (tm 3) (tm 30))]))))) (.region [
 o1 31 (.bin .add (so (.binOp .add 3 (tm 15) (.const (.int .i64 1)) 3) 3) (tm 15) (.const (.int .i64 1))),
 o1 15 (.mov (tm 31))]))))
def zlcQ_c : ACode :=
 (.seq (.region [
 o1 3 (.box 52 (tm 0)),
 o1 6 (.alloc 52 [(.int .u64 0), (.int .u64 0)]),
 o1 7 (.mov k0)]) (.seq (.seq (.region [
 o1 13 (.mov (tm 1)),
 o1 14 (.lenSl (tm 13)),
 o1 15 (.mov k0)]) (.block 0 (.loop zlcQ_l0))) (.seq (.region [
 o1 32 (.load (some 2) (tm 3)),
 o3 (.store 2 (tm 6) (tm 32)),
 o1 7 (.mov k0)]) .ret)))
def zlcQ : AFunc := ⟨33, [(6, some (some 2)), (7, none)], zlcQ_c, none⟩
theorem zlcQ_t0 : tableOf Try.prog 83 = some zlcQ := by kernel_rfl
theorem zlcQ_t : T0 83 = some zlcQ := withKept_t rfl (withTrue_t rfl zlcQ_t0)
theorem zlcQ_runs {v0 v1 v2 : Value} {h : Heap} {R : RP} {X : XP} (k : RunC Try.prog T0 zlcQ_c ⟨[v0, v1, v2, U, U, U, U, U, U, U, U, U, U, U, U, U, U, U, U, U, U, U, U, U, U, U, U, U, U, U, U, U, U], [], h, none⟩ (bodyQ Try.prog T0 [(6, some (some 2)), (7, none)] R X)) :
 Runs Try.prog T0 (.fn 83) [v0, v1, v2] h R X := Runs.fn zlcQ_t rfl k
def zlcQ_l0_J (f0 f1 f2 f3 f4 f5 f6 f8 f13 f14 f32 : Value) (ds : List Deferred) (rd : Option Nat) (I : Nat → Value → Heap → Prop) (m : Nat) (s : St) : Prop := ∃ (v15 : Value), ∃ h : Heap, ∃ (x7 x9 x10 x11 x12 x16 x17 x18 x19 x20 x21 x22 x23 x24 x25 x26 x27 x28 x29 x30 x31 : Value), s = ⟨[f0, f1, f2, f3, f4, f5, f6, x7, f8, x9, x10, x11, x12, f13, f14, v15, x16, x17, x18, x19, x20, x21, x22, x23, x24, x25, x26, x27, x28, x29, x30, x31, f32], ds, h, rd⟩ ∧ I m v15 h
theorem zlcQ_l0_rule {f0 f1 f2 f3 f4 f5 f6 f8 f13 f14 f32 : Value} {ds : List Deferred} {rd : Option Nat} {Q : QP} (I : Nat → Value → Heap → Prop) (hb : ∀ (m : Nat) (v15 : Value) (h : Heap) (x7 x9 x10 x11 x12 x16 x17 x18 x19 x20 x21 x22 x23 x24 x25 x26 x27 x28 x29 x30 x31 : Value) , I m v15 h → RunC Try.prog T0 zlcQ_l0 ⟨[f0, f1, f2, f3, f4, f5, f6, x7, f8, x9, x10, x11, x12, f13, f14, v15, x16, x17, x18, x19, x20, x21, x22, x23, x24, x25, x26, x27, x28, x29, x30, x31, f32], ds, h, rd⟩ (loopQ (zlcQ_l0_J f0 f1 f2 f3 f4 f5 f6 f8 f13 f14 f32 ds rd I) m Q))
 (m : Nat) {v15 : Value} {h : Heap} {x7 x9 x10 x11 x12 x16 x17 x18 x19 x20 x21 x22 x23 x24 x25 x26 x27 x28 x29 x30 x31 : Value} (hi : I m v15 h) : RunC Try.prog T0 (.loop zlcQ_l0) ⟨[f0, f1, f2, f3, f4, f5, f6, x7, f8, x9, x10, x11, x12, f13, f14, v15, x16, x17, x18, x19, x20, x21, x22, x23, x24, x25, x26, x27, x28, x29, x30, x31, f32], ds, h, rd⟩ Q :=
 RunC.loopJ (zlcQ_l0_J f0 f1 f2 f3 f4 f5 f6 f8 f13 f14 f32 ds rd I) (fun m s hj => by obtain ⟨v15, h, x7, x9, x10, x11, x12, x16, x17, x18, x19, x20, x21, x22, x23, x24, x25, x26, x27, x28, x29, x30, x31, rfl, hi⟩ := hj; exact hb m v15 h x7 x9 x10 x11 x12 x16 x17 x18 x19 x20 x21 x22 x23 x24 x25 x26 x27 x28 x29 x30 x31 hi) m _ ⟨_, h, _, _, _, _, _, _, _, _, _, _, _, _, _, _, _, _, _, _, _, _, _, rfl, hi⟩
theorem zlcQ_l0_again {f0 f1 f2 f3 f4 f5 f6 f8 f13 f14 f32 : Value} {ds : List Deferred} {rd : Option Nat} {Q : QP} {I : Nat → Value → Heap → Prop} {m : Nat} (m' : Nat) {v15 : Value} {h : Heap} {x7 x9 x10 x11 x12 x16 x17 x18 x19 x20 x21 x22 x23 x24 x25 x26 x27 x28 x29 x30 x31 : Value} (hm : m' < m) (hi : I m' v15 h) : loopQ (zlcQ_l0_J f0 f1 f2 f3 f4 f5 f6 f8 f13 f14 f32 ds rd I) m Q .normal ⟨[f0, f1, f2, f3, f4, f5, f6, x7, f8, x9, x10, x11, x12, f13, f14, v15, x16, x17, x18, x19, x20, x21, x22, x23, x24, x25, x26, x27, x28, x29, x30, x31, f32], ds, h, rd⟩ :=
 loopQ.again m' hm ⟨_, h, _, _, _, _, _, _, _, _, _, _, _, _, _, _, _, _, _, _, _, _, _, rfl, hi⟩
abbrev fn_zkcQ : FuncId := 84
def zkcQ_c : ACode :=
 (.seq (.region [
 o1 2 (.box 52 (tm 0)),
 o1 4 (.alloc 52 [(.int .u64 0), (.int .u64 0)]),
 o1 5 (.mov k0)]) (.seq (.region [
 o1 9 (.mov (tm 1)),
 o1 10 (.callV (.func 29) [(tm 9)]),
 o1 8 (.mov (tm 10)),
 o1 11 (.extract 0 (tm 8)),
 o1 12 (.extract 1 (tm 8)),
 o1 6 (.alloc 52 [(.int .u64 0), (.int .u64 0)]),
 o3 (.store 2 (tm 6) (tm 11)),
 o1 7 (.mov (tm 12))]) (.seq (.seq (.region [
 o1 13 (.mov (tm 7)),
 o1 14 (.bin .neq (so (.binOp .neq 26 (tm 13) k0 26) 4) (tm 13) k0)]) (.cond (tm 14)
 (.seq (.region [
 o1 15 (.load (some 2) (tm 6)),
 o1 16 (.mov (tm 7)),
 o3 (.store 2 (tm 4) (tm 15)),
 o1 5 (.mov (tm 16))]) .ret)
 .skip)) (.seq (.region [
 o1 17 (.load (some 2) (tm 2)),
 o1 18 (.load (some 2) (tm 6)),
 o1 19 (.callV (.func 30) [(tm 17), (tm 18)]),
 o1 20 (.extract 0 (tm 19)),
 o1 21 (.extract 1 (tm 19)),
 o3 (.store 2 (tm 4) (tm 20)),
 o1 5 (.mov (tm 21))]) .ret))))
def zkcQ : AFunc := ⟨22, [(4, some (some 2)), (5, none)], zkcQ_c, none⟩
theorem zkcQ_t0 : tableOf Try.prog 84 = some zkcQ := by kernel_rfl
theorem zkcQ_t : T0 84 = some zkcQ := withKept_t rfl (withTrue_t rfl zkcQ_t0)
theorem zkcQ_runs {v0 v1 : Value} {h : Heap} {R : RP} {X : XP} (k : RunC Try.prog T0 zkcQ_c ⟨[v0, v1, U, U, U, U, U, U, U, U, U, U, U, U, U, U, U, U, U, U, U, U], [], h, none⟩ (bodyQ Try.prog T0 [(4, some (some 2)), (5, none)] R X)) :
 Runs Try.prog T0 (.fn 84) [v0, v1] h R X := Runs.fn zkcQ_t rfl k
abbrev fn_zuQ : FuncId := 85
def zuQ_c : ACode :=
 (.seq (.region [
 o1 2 (.alloc 52 [(.int .u64 0), (.int .u64 0)]),
 o1 3 (.mov k0)]) (.seq (.seq (.region [
 o1 4 (.mov (tm 0)),
 o1 5 (.bin .lss (so (.binOp .lss 3 (tm 4) k0 3) 4) (tm 4) k0)]) (.cond (tm 5)
 (.seq (.region [
 o1 6 (.build [(.int .u64 0), (.int .u64 0)] []),
 o3 (.store 2 (tm 2) (tm 6)),
 o1 3 (.mov (.const (.int .i64 3)))]) .ret)
 .skip)) (.seq (.region [
 o1 7 (.mov (tm 0)),
 o1 8 (.conv .u64 (so (.convert 3 50 (tm 7)) 50) (tm 7)),
 o1 9 (.build [(.int .u64 0), (.int .u64 0)] [(1, 1, (tm 8))]),
 o3 (.store 2 (tm 2) (tm 9)),
 o1 3 (.mov k0)]) .ret)))
def zuQ : AFunc := ⟨10, [(2, some (some 2)), (3, none)], zuQ_c, none⟩
theorem zuQ_t0 : tableOf Try.prog 85 = some zuQ := by kernel_rfl
theorem zuQ_t : T0 85 = some zuQ := withKept_t rfl (withTrue_t rfl zuQ_t0)
theorem zuQ_runs {v0 : Value} {h : Heap} {R : RP} {X : XP} (k : RunC Try.prog T0 zuQ_c ⟨[v0, U, U, U, U, U, U, U, U, U], [], h, none⟩ (bodyQ Try.prog T0 [(2, some (some 2)), (3, none)] R X)) :
 Runs Try.prog T0 (.fn 85) [v0] h R X := Runs.fn zuQ_t rfl k
abbrev fn_zvQ : FuncId := 86
def zvQ_c : ACode :=
 (.seq (.region [
 o1 2 (.box 52 (tm 0)),
 o1 3 (.box 52 (tm 1)),
 o1 4 (.alloc 52 [(.int .u64 0), (.int .u64 0)]),
 o1 5 (.mov k0)]) (.seq (.region [
 o1 11 (.fieldAddr 1 (tm 2)),
 o1 12 (.load none (tm 11)),
 o1 13 (.fieldAddr 1 (tm 3)),
 o1 14 (.load none (tm 13)),
 o1 15 (.callV (.func 101) [(tm 12), (tm 14), (.const (.int .u64 0))]),
 o1 10 (.mov (tm 15)),
 o1 16 (.extract 0 (tm 10)),
 o1 17 (.extract 1 (tm 10)),
 o1 6 (.mov (tm 16)),
 o1 7 (.mov (tm 17))]) (.seq (.region [
 o1 19 (.fieldAddr 0 (tm 2)),
 o1 20 (.load none (tm 19)),
 o1 21 (.fieldAddr 0 (tm 3)),
 o1 22 (.load none (tm 21)),
 o1 23 (.mov (tm 7)),
 o1 24 (.callV (.func 101) [(tm 20), (tm 22), (tm 23)]),
 o1 18 (.mov (tm 24)),
 o1 25 (.extract 0 (tm 18)),
 o1 26 (.extract 1 (tm 18)),
 o1 8 (.mov (tm 25)),
 o1 9 (.mov (tm 26))]) (.seq (.seq (.region [
 o1 27 (.mov (tm 9)),
 o1 28 (.bin .eql (so (.binOp .eql 50 (tm 27) (.const (.int .u64 1)) 50) 4) (tm 27) (.const (.int .u64 1)))]) (.cond (tm 28)
 (.seq (.region [
 o1 29 (.build [(.int .u64 0), (.int .u64 0)] []),
 o3 (.store 2 (tm 4) (tm 29)),
 o1 5 (.mov (.const (.int .i64 7)))]) .ret)
 .skip)) (.seq (.region [
 o1 30 (.mov (tm 8)),
 o1 31 (.mov (tm 6)),
 o1 32 (.build [(.int .u64 0), (.int .u64 0)] [(0, 1, (tm 30)), (1, 1, (tm 31))]),
 o3 (.store 2 (tm 4) (tm 32)),
 o1 5 (.mov k0)]) .ret)))))
def zvQ : AFunc := ⟨33, [(4, some (some 2)), (5, none)], zvQ_c, none⟩
theorem zvQ_t0 : tableOf Try.prog 86 = some zvQ := by kernel_rfl
theorem zvQ_t : T0 86 = some zvQ := withKept_t rfl (withTrue_t rfl zvQ_t0)
theorem zvQ_runs {v0 v1 : Value} {h : Heap} {R : RP} {X : XP} (k : RunC Try.prog T0 zvQ_c ⟨[v0, v1, U, U, U, U, U, U, U, U, U, U, U, U, U, U, U, U, U, U, U, U, U, U, U, U, U, U, U, U, U, U, U], [], h, none⟩ (bodyQ Try.prog T0 [(4, some (some 2)), (5, none)] R X)) :
 Runs Try.prog T0 (.fn 86) [v0, v1] h R X := Runs.fn zvQ_t rfl k
abbrev fn_zjbQ : FuncId := 87
def zjbQ_c : ACode :=
 (.seq (.region [
 o1 4 (.mov k0)]) (.seq (.seq (.regionD [
 o2 5 (.mov (tm 0)),
 o2 6 (.nilCheck (tm 5)),
 o2 7 (.fieldAddr 2 (tm 6)),
 o2 8 (.load none (tm 7)),
 o2 9 (.bin .eql (so (.binOp .eql 26 (tm 8) k0 26) 4) (tm 8) k0),
 o2 10 (.mov (tm 9)),
 o4 11 (.mov (tm 0)) 10,
 o4 12 (.nilCheck (tm 11)) 10,
 o4 13 (.fieldAddr 1 (tm 12)) 10,
 o4 14 (.load none (tm 13)) 10,
 o4 15 (.lenSl (tm 14)) 10,
 o4 16 (.mov (tm 1)) 10,
 o4 17 (.lenSl (tm 16)) 10,
 o4 18 (.bin .add (so (.binOp .add 3 (tm 15) (tm 17) 3) 3) (tm 15) (tm 17)) 10,
 o4 19 (.mov (tm 0)) 10,
 o4 20 (.nilCheck (tm 19)) 10,
 o4 21 (.fieldAddr 0 (tm 20)) 10,
 o4 22 (.load none (tm 21)) 10,
 ⟨some 23, .bin .gtr (so (.binOp .gtr 3 (tm 18) (tm 22) 3) 4) (tm 18) (tm 22), some (10, true), [], true⟩,
 o2 24 (.pick (tm 10) (tm 23) (.const (.bool false)))]) (.cond (tm 24)
 (.region [
 o1 25 (.mov (tm 0)),
 o1 26 (.nilCheck (tm 25)),
 o1 27 (.fieldAddr 2 (tm 26)),
 o3 (.store 1 (tm 27) (.const (.int .i64 4)))])
 .skip)) (.seq (.seq (.region [
 o1 28 (.mov (tm 0)),
 o1 29 (.nilCheck (tm 28)),
 o1 30 (.fieldAddr 2 (tm 29)),
 o1 31 (.load none (tm 30)),
 o1 32 (.bin .eql (so (.binOp .eql 26 (tm 31) k0 26) 4) (tm 31) k0)]) (.cond (tm 32)
 (.region [
 o1 33 (.mov (tm 0)),
 o1 34 (.buildSlice 5 [] 0 []),
 o1 35 (.mov (tm 0)),
 o1 36 (.nilCheck (tm 35)),
 o1 37 (.fieldAddr 1 (tm 36)),
 o1 38 (.load none (tm 37)),
 o1 39 (.append 5 1 1 [(.int .u8 0)] false (tm 34) (tm 38)),
 o1 40 (.mov (tm 1)),
 o1 41 (.append 5 1 1 [(.int .u8 0)] false (tm 39) (tm 40)),
 o1 42 (.nilCheck (tm 33)),
 o1 43 (.fieldAddr 1 (tm 42)),
 o3 (.store 1 (tm 43) (tm 41))])
 .skip)) (.seq (.region [
 o1 44 (.mov (tm 0)),
 o1 45 (.nilCheck (tm 44)),
 o1 46 (.fieldAddr 2 (tm 45)),
 o1 47 (.load none (tm 46)),
 o1 4 (.mov (tm 47))]) .ret))))
def zjbQ : AFunc := ⟨48, [(4, none)], zjbQ_c, none⟩
theorem zjbQ_t0 : tableOf Try.prog 87 = some zjbQ := by kernel_rfl
theorem zjbQ_t : T0 87 = some zjbQ := withKept_t rfl (withTrue_t rfl zjbQ_t0)
theorem zjbQ_runs {v0 v1 : Value} {h : Heap} {R : RP} {X : XP} (k : RunC Try.prog T0 zjbQ_c ⟨[v0, v1, U, U, U, U, U, U, U, U, U, U, U, U, U, U, U, U, U, U, U, U, U, U, U, U, U, U, U, U, U, U, U, U, U, U, U, U, U, U, U, U, U, U, U, U, U, U], [], h, none⟩ (bodyQ Try.prog T0 [(4, none)] R X)) :
 Runs Try.prog T0 (.fn 87) [v0, v1] h R X := Runs.fn zjbQ_t rfl k
abbrev fn_zfbQ : FuncId := 88
def zfbQ_l0 : ACode :=
 (.seq (.seq (.region [
 o1 4 (.mov (tm 0)),
 o1 5 (.bin .gtr (so (.binOp .gtr 3 (tm 4) k0 3) 4) (tm 4) k0)]) (.cond (tm 5)
 .skip
 (.exit 0))) (.block 1 (.seq (.region [
 o1 6 (.mov (tm 0)),
 o1 7 (.conv .u8 (so (.convert 3 5 (tm 6)) 5) (tm 6)),
 o1 8 (.buildSlice 5 [(.int .u8 0)] 1 [(0, 1, (tm 7))]),
 o1 9 (.mov (tm 3)),
 o1 10 (.append 5 1 1 [(.int .u8 0)] false (tm 8) (tm 9)),
 o1 3 (.mov (tm 10))]) (.region [
 o1 11 (.mov (tm 0)),
 o1 12 (.bin .shr (so (.binOp .shr 3 (tm 11) (.const (.int .u64 8)) 115) 3) (tm 11) (.const (.int .u64 8))),
 o1 0 (.mov (tm 12))]))))
def zfbQ_c : ACode :=
 (.seq (.region [
 o1 2 (.mov (.const (.slice none 0 0)))]) (.seq (.region [
 o1 3 (.mov (.const (.slice none 0 0)))]) (.seq (.block 0 (.loop zfbQ_l0)) (.seq (.region [
 o1 13 (.mov (tm 3)),
 o1 14 (.lenSl (tm 13)),
 o1 15 (.conv .u8 (so (.convert 3 5 (tm 14)) 5) (tm 14)),
 o1 16 (.buildSlice 5 [(.int .u8 0)] 1 [(0, 1, (tm 15))]),
 o1 17 (.mov (tm 3)),
 o1 18 (.append 5 1 1 [(.int .u8 0)] false (tm 16) (tm 17)),
 o1 2 (.mov (tm 18))]) .ret))))
def zfbQ : AFunc := ⟨19, [(2, none)], zfbQ_c, none⟩
theorem zfbQ_t0 : tableOf Try.prog 88 = some zfbQ := by kernel_rfl
theorem zfbQ_t : T0 88 = some zfbQ := withKept_t rfl (withTrue_t rfl zfbQ_t0)
theorem zfbQ_runs {v0 : Value} {h : Heap} {R : RP} {X : XP} (k : RunC Try.prog T0 zfbQ_c ⟨[v0, U, U, U, U, U, U, U, U, U, U, U, U, U, U, U, U, U, U], [], h, none⟩ (bodyQ Try.prog T0 [(2, none)] R X)) :
 Runs Try.prog T0 (.fn 88) [v0] h R X := Runs.fn zfbQ_t rfl k
def zfbQ_l0_J (f1 f2 f13 f14 f15 f16 f17 f18 : Value) (ds : List Deferred) (rd : Option Nat) (I : Nat → Value → Value → Heap → Prop) (m : Nat) (s : St) : Prop := ∃ (v0 v3 : Value), ∃ h : Heap, ∃ (x4 x5 x6 x7 x8 x9 x10 x11 x12 : Value), s = ⟨[v0, f1, f2, v3, x4, x5, x6, x7, x8, x9, x10, x11, x12, f13, f14, f15, f16, f17, f18], ds, h, rd⟩ ∧ I m v0 v3 h
theorem zfbQ_l0_rule {f1 f2 f13 f14 f15 f16 f17 f18 : Value} {ds : List Deferred} {rd : Option Nat} {Q : QP} (I : Nat → Value → Value → Heap → Prop) (hb : ∀ (m : Nat) (v0 v3 : Value) (h : Heap) (x4 x5 x6 x7 x8 x9 x10 x11 x12 : Value) , I m v0 v3 h → RunC Try.prog T0 zfbQ_l0 ⟨[v0, f1, f2, v3, x4, x5, x6, x7, x8, x9, x10, x11, x12, f13, f14, f15, f16, f17, f18], ds, h, rd⟩ (loopQ (zfbQ_l0_J f1 f2 f13 f14 f15 f16 f17 f18 ds rd I) m Q))
 (m : Nat) {v0 v3 : Value} {h : Heap} {x4 x5 x6 x7 x8 x9 x10 x11 x12 : Value} (hi : I m v0 v3 h) : RunC Try.prog T0 (.loop zfbQ_l0) ⟨[v0, f1, f2, v3, x4, x5, x6, x7, x8, x9, x10, x11, x12, f13, f14, f15, f16, f17, f18], ds, h, rd⟩ Q :=
 RunC.loopJ (zfbQ_l0_J f1 f2 f13 f14 f15 f16 f17 f18 ds rd I) (fun m s hj => by obtain ⟨v0, v3, h, x4, x5, x6, x7, x8, x9, x10, x11, x12, rfl, hi⟩ := hj; exact hb m v0 v3 h x4 x5 x6 x7 x8 x9 x10 x11 x12 hi) m _ ⟨_, _, h, _, _, _, _, _, _, _, _, _, rfl, hi⟩
theorem zfbQ_l0_again {f1 f2 f13 f14 f15 f16 f17 f18 : Value} {ds : List Deferred} {rd : Option Nat} {Q : QP} {I : Nat → Value → Value → Heap → Prop} {m : Nat} (m' : Nat) {v0 v3 : Value} {h : Heap} {x4 x5 x6 x7 x8 x9 x10 x11 x12 : Value} (hm : m' < m) (hi : I m' v0 v3 h) : loopQ (zfbQ_l0_J f1 f2 f13 f14 f15 f16 f17 f18 ds rd I) m Q .normal ⟨[v0, f1, f2, v3, x4, x5, x6, x7, x8, x9, x10, x11, x12, f13, f14, f15, f16, f17, f18], ds, h, rd⟩ :=
 loopQ.again m' hm ⟨_, _, h, _, _, _, _, _, _, _, _, _, rfl, hi⟩
abbrev fn_zaQ : FuncId := 89
def zaQ_c : ACode :=
 (.seq (.region [
 o1 0 (.mov (.const (.pointer none)))]) (.seq (.region [
 o1 2 (.callV (.func 102) []),
 o1 1 (.alloc 143 [(.int .u32 0), (.int .u32 0), (.int .u32 0), (.int .u32 0), (.int .u32 0), (.int .u32 0), (.int .u32 0), (.int .u32 0)]),
 o3 (.store 8 (tm 1) (tm 2))]) (.seq (.region [
 o1 3 (.indexArr 8 1 (tm 1) k0),
 o1 4 (.load none (tm 3)),
 o1 5 (.bin .xor (so (.binOp .xor 131 (tm 4) (.const (.int .u32 16842784)) 131) 131) (tm 4) (.const (.int .u32 16842784))),
 o1 6 (.indexArr 8 1 (tm 1) k0),
 o3 (.store 1 (tm 6) (tm 5))]) (.seq (.region [
 o1 7 (.build [(.int .i64 0)] []),
 o1 8 (.box 147 (tm 7)),
 o1 9 (.load (some 8) (tm 1)),
 o1 10 (.build [(.pointer none), (.int .u32 0), (.int .u32 0), (.int .u32 0), (.int .u32 0), (.int .u32 0), (.int .u32 0), (.int .u32 0), (.int .u32 0), (.slice none 0 0)] [(0, 1, (tm 8)), (1, 8, (tm 9))]),
 o1 11 (.box 149 (tm 10)),
 o1 0 (.mov (tm 11))]) .ret))))
def zaQ : AFunc := ⟨12, [(0, none)], zaQ_c, none⟩
theorem zaQ_t0 : tableOf Try.prog 89 = some zaQ := by kernel_rfl
theorem zaQ_t : T0 89 = some zaQ := withKept_t rfl (withTrue_t rfl zaQ_t0)
theorem zaQ_runs {v : Value} {h : Heap} {R : RP} {X : XP} (k : RunC Try.prog T0 zaQ_c ⟨[undef, U, U, U, U, U, U, U, U, U, U, U], [], h, none⟩ (bodyQ Try.prog T0 [(0, none)] R X)) :
 Runs Try.prog T0 (.fn 89) [] h R X := Runs.fn zaQ_t rfl k
abbrev fn_zdQ : FuncId := 90
def zdQ_l0 : ACode :=
 (.seq (.seq (.region [
 o1 16 (.mov (tm 0)),
 o1 17 (.nilCheck (tm 16)),
 o1 18 (.fieldAddr 9 (tm 17)),
 o1 19 (.load none (tm 18)),
 o1 20 (.lenSl (tm 19)),
 o1 21 (.bin .gtr (so (.binOp .gtr 3 (tm 20) (.const (.int .i64 64)) 3) 4) (tm 20) (.const (.int .i64 64)))]) (.cond (tm 21)
 .skip
 (.exit 0))) (.block 1 (.seq (.region [
 o1 22 (.mov (tm 0)),
 o1 23 (.nilCheck (tm 22)),
 o1 24 (.fieldAddr 0 (tm 23)),
 o1 25 (.load none (tm 24)),
 o1 26 (.callV (.func 104) [(tm 25), (.const (.int .i64 64))])]) (.seq (.regionD [
 o1 27 (.mov (tm 0)),
 o1 28 (.nilCheck (tm 27)),
 o1 29 (.fieldAddr 1 (tm 28)),
 o1 30 (.mov (tm 0)),
 o1 31 (.nilCheck (tm 30)),
 o1 32 (.fieldAddr 9 (tm 31)),
 o1 33 (.load none (tm 32)),
 o1 34 (.sliceSl 1 (tm 33) none (some (.const (.int .i64 64))) none),
 o1 35 (.mov (tm 0)),
 o1 36 (.nilCheck (tm 35)),
 o1 37 (.fieldAddr 0 (tm 36)),
 o1 38 (.load none (tm 37)),
 o1 39 (.nilCheck (tm 38)),
 o1 40 (.fieldAddr 0 (tm 39)),
 o1 41 (.load none (tm 40)),
 o2 42 (.callV (.func 105) [(tm 29), (tm 34), (tm 41), (.const (.bool false))])]) (.region [
 o1 43 (.mov (tm 0)),
 o1 44 (.mov (tm 0)),
 o1 45 (.nilCheck (tm 44)),
 o1 46 (.fieldAddr 9 (tm 45)),
 o1 47 (.load none (tm 46)),
 o1 48 (.sliceSl 1 (tm 47) (some (.const (.int .i64 64))) none none),
 o1 49 (.nilCheck (tm 43)),
 o1 50 (.fieldAddr 9 (tm 49)),
 o3 (.store 1 (tm 50) (tm 48))])))))
def zdQ_c : ACode :=
 (.seq (.region [
 o1 4 (.mov k0)]) (.seq (.seq (.region [
 o1 5 (.mov (tm 0)),
 o1 6 (.callV (.func 103) [(tm 5)])]) (.cond (tm 6)
 (.seq (.region [
 o1 4 (.mov (.const (.int .i64 1)))]) .ret)
 .skip)) (.seq (.region [
 o1 7 (.mov (tm 0)),
 o1 8 (.mov (tm 0)),
 o1 9 (.nilCheck (tm 8)),
 o1 10 (.fieldAddr 9 (tm 9)),
 o1 11 (.load none (tm 10)),
 o1 12 (.mov (tm 1)),
 o1 13 (.append 5 1 1 [(.int .u8 0)] false (tm 11) (tm 12)),
 o1 14 (.nilCheck (tm 7)),
 o1 15 (.fieldAddr 9 (tm 14)),
 o3 (.store 1 (tm 15) (tm 13))]) (.seq (.block 0 (.loop zdQ_l0)) (.seq (.region [
 o1 4 (.mov k0)]) .ret)))))
def zdQ : AFunc := ⟨51, [(4, none)], zdQ_c, none⟩
theorem zdQ_t0 : tableOf Try.prog 90 = some zdQ := by kernel_rfl
theorem zdQ_t : T0 90 = some zdQ := withKept_t rfl (withTrue_t rfl zdQ_t0)
theorem zdQ_runs {v0 v1 : Value} {h : Heap} {R : RP} {X : XP} (k : RunC Try.prog T0 zdQ_c ⟨[v0, v1, U, U, U, U, U, U, U, U, U, U, U, U, U, U, U, U, U, U, U, U, U, U, U, U, U, U, U, U, U, U, U, U, U, U, U, U, U, U, U, U, U, U, U, U, U, U, U, U, U], [], h, none⟩ (bodyQ Try.prog T0 [(4, none)] R X)) :
 Runs Try.prog T0 (.fn 90) [v0, v1] h R X := Runs.fn zdQ_t rfl k
def zdQ_l0_J (f0 f1 f2 f3 f4 f5 f6 f7 f8 f9 f10 f11 f12 f13 f14 f15 : Value) (ds : List Deferred) (rd : Option Nat) (I : Nat → Heap → Prop) (m : Nat) (s : St) : Prop := ∃ h : Heap, ∃ (x16 x17 x18 x19 x20 x21 x22 x23 x24 x25 x26 x27 x28 x29 x30 x31 x32 x33 x34 x35 x36 x37 x38 x39 x40 x41 x42 x43 x44 x45 x46 x47 x48 x49 x50 : Value), s = ⟨[f0, f1, f2, f3, f4, f5, f6, f7, f8, f9, f10, f11, f12, f13, f14, f15, x16, x17, x18, x19, x20, x21, x22, x23, x24, x25, x26, x27, x28, x29, x30, x31, x32, x33, x34, x35, x36, x37, x38, x39, x40, x41, x42, x43, x44, x45, x46, x47, x48, x49, x50], ds, h, rd⟩ ∧ I m  h
theorem zdQ_l0_rule {f0 f1 f2 f3 f4 f5 f6 f7 f8 f9 f10 f11 f12 f13 f14 f15 : Value} {ds : List Deferred} {rd : Option Nat} {Q : QP} (I : Nat → Heap → Prop) (hb : ∀ (m : Nat) (h : Heap) (x16 x17 x18 x19 x20 x21 x22 x23 x24 x25 x26 x27 x28 x29 x30 x31 x32 x33 x34 x35 x36 x37 x38 x39 x40 x41 x42 x43 x44 x45 x46 x47 x48 x49 x50 : Value) , I m  h → RunC Try.prog T0 zdQ_l0 ⟨[f0, f1, f2, f3, f4, f5, f6, f7, f8, f9, f10, f11, f12, f13, f14, f15, x16, x17, x18, x19, x20, x21, x22, x23, x24, x25, x26, x27, x28, x29, x30, x31, x32, x33, x34, x35, x36, x37, x38, x39, x40, x41, x42, x43, x44, x45, x46, x47, x48, x49, x50], ds, h, rd⟩ (loopQ (zdQ_l0_J f0 f1 f2 f3 f4 f5 f6 f7 f8 f9 f10 f11 f12 f13 f14 f15 ds rd I) m Q))
 (m : Nat) {v : Value} {h : Heap} {x16 x17 x18 x19 x20 x21 x22 x23 x24 x25 x26 x27 x28 x29 x30 x31 x32 x33 x34 x35 x36 x37 x38 x39 x40 x41 x42 x43 x44 x45 x46 x47 x48 x49 x50 : Value} (hi : I m  h) : RunC Try.prog T0 (.loop zdQ_l0) ⟨[f0, f1, f2, f3, f4, f5, f6, f7, f8, f9, f10, f11, f12, f13, f14, f15, x16, x17, x18, x19, x20, x21, x22, x23, x24, x25, x26, x27, x28, x29, x30, x31, x32, x33, x34, x35, x36, x37, x38, x39, x40, x41, x42, x43, x44, x45, x46, x47, x48, x49, x50], ds, h, rd⟩ Q :=
 RunC.loopJ (zdQ_l0_J f0 f1 f2 f3 f4 f5 f6 f7 f8 f9 f10 f11 f12 f13 f14 f15 ds rd I) (fun m s hj => by obtain ⟨h, x16, x17, x18, x19, x20, x21, x22, x23, x24, x25, x26, x27, x28, x29, x30, x31, x32, x33, x34, x35, x36, x37, x38, x39, x40, x41, x42, x43, x44, x45, x46, x47, x48, x49, x50, rfl, hi⟩ := hj; exact hb m  h x16 x17 x18 x19 x20 x21 x22 x23 x24 x25 x26 x27 x28 x29 x30 x31 x32 x33 x34 x35 x36 x37 x38 x39 x40 x41 x42 x43 x44 x45 x46 x47 x48 x49 x50 hi) m _ ⟨h, _, _, _, _, _, _, _, _, _, _, _, _, _, _, _, _, _, _, _, _, _, _, _, _, _, _, _, _, _, _, _, _, _, _, _, rfl, hi⟩
theorem zdQ_l0_again {f0 f1 f2 f3 f4 f5 f6 f7 f8 f9 f10 f11 f12 f13 f14 f15 : Value} {ds : List Deferred} {rd : Option Nat} {Q : QP} {I : Nat → Heap → Prop} {m : Nat} (m' : Nat) {v : Value} {h : Heap} {x16 x17 x18 x19 x20 x21 x22 x23 x24 x25 x26 x27 x28 x29 x30 x31 x32 x33 x34 x35 x36 x37 x38 x39 x40 x41 x42 x43 x44 x45 x46 x47 x48 x49 x50 : Value} (hm : m' < m) (hi : I m'  h) : loopQ (zdQ_l0_J f0 f1 f2 f3 f4 f5 f6 f7 f8 f9 f10 f11 f12 f13 f14 f15 ds rd I) m Q .normal ⟨[f0, f1, f2, f3, f4, f5, f6, f7, f8, f9, f10, f11, f12, f13, f14, f15, x16, x17, x18, x19, x20, x21, x22, x23, x24, x25, x26, x27, x28, x29, x30, x31, x32, x33, x34, x35, x36, x37, x38, x39, x40, x41, x42, x43, x44, x45, x46, x47, x48, x49, x50], ds, h, rd⟩ :=
 loopQ.again m' hm ⟨h, _, _, _, _, _, _, _, _, _, _, _, _, _, _, _, _, _, _, _, _, _, _, _, _, _, _, _, _, _, _, _, _, _, _, _, rfl, hi⟩
abbrev fn_zcQ : FuncId := 91
def zcQ_l0 : ACode :=
 (.seq (.region [
 o1 31 (.bin .lss (so (.binOp .lss 3 (tm 30) (.const (.int .i64 32)) 3) 0) (tm 30) (.const (.int .i64 32)))]) (.seq (.cond (tm 31)
 .skip
 (.exit 0)) (.seq (.block 1 (.seq (.region [
 o1 32 (.mov (tm 30)),
 o1 6 (.mov (tm 32))]) (.region [
 o1 33 (.mov (tm 6)),
 o1 34 (.mov (tm 6)),
 o1 35 (.bin .quo (so (.binOp .quo 3 (tm 34) (.const (.int .i64 4)) 3) 3) (tm 34) (.const (.int .i64 4))),
 o1 36 (.indexArr 8 1 (tm 4) (tm 35)),
 o1 37 (.load none (tm 36)),
 o1 38 (.mov (tm 6)),
 o1 39 (.bin .rem (so (.binOp .rem 3 (tm 38) (.const (.int .i64 4)) 3) 3) (tm 38) (.const (.int .i64 4))),
 o1 40 (.bin .mul (so (.binOp .mul 3 (.const (.int .i64 8)) (tm 39) 3) 3) (.const (.int .i64 8)) (tm 39)),
 o1 41 (.bin .shr (so (.binOp .shr 131 (tm 37) (tm 40) 3) 131) (tm 37) (tm 40)),
 o1 42 (.conv .u8 (so (.convert 131 5 (tm 41)) 5) (tm 41)),
 o1 43 (.indexArr 32 1 (tm 2) (tm 33)),
 o3 (.store 1 (tm 43) (tm 42))]))) (.region [
 o1 44 (.bin .add (so (.binOp .add 3 (tm 30) (.const (.int .i64 1)) 3) 3) (tm 30) (.const (.int .i64 1))),
 o1 30 (.mov (tm 44))]))))
def zcQ_c : ACode :=
 (.seq (.region [
 o1 2 (.alloc 63 z32),
 o1 3 (.mov k0)]) (.seq (.seq (.region [
 o1 7 (.mov (tm 0)),
 o1 8 (.callV (.func 103) [(tm 7)])]) (.cond (tm 8)
 (.seq (.region [
 o1 9 (.build z32 []),
 o3 (.store 32 (tm 2) (tm 9)),
 o1 3 (.mov (.const (.int .i64 1)))]) .ret)
 .skip)) (.seq (.region [
 o1 10 (.mov (tm 0)),
 o1 11 (.nilCheck (tm 10)),
 o1 12 (.fieldAddr 1 (tm 11)),
 o1 13 (.load (some 8) (tm 12)),
 o1 4 (.alloc 143 [(.int .u32 0), (.int .u32 0), (.int .u32 0), (.int .u32 0), (.int .u32 0), (.int .u32 0), (.int .u32 0), (.int .u32 0)]),
 o3 (.store 8 (tm 4) (tm 13))]) (.seq (.regionD [
 o1 14 (.mov (tm 0)),
 o1 15 (.nilCheck (tm 14)),
 o1 16 (.fieldAddr 9 (tm 15)),
 o1 17 (.load none (tm 16)),
 o1 19 (.mov (tm 0)),
 o1 20 (.nilCheck (tm 19)),
 o1 21 (.fieldAddr 9 (tm 20)),
 o1 22 (.load none (tm 21)),
 o1 23 (.lenSl (tm 22)),
 o1 24 (.bin .sub (so (.binOp .sub 3 (.const (.int .i64 64)) (tm 23) 3) 3) (.const (.int .i64 64)) (tm 23)),
 ⟨some 18, .callV (.func 70) [(tm 17)], none, [(some 24, .bin .sub (so (.binOp .sub 3 (.const (.int .i64 64)) (tm 23) 3) 3) (.const (.int .i64 64)) (tm 23), none), (some 23, .lenSl (tm 22), none), (some 22, .load none (tm 21), none), (some 21, .fieldAddr 9 (tm 20), none), (some 20, .nilCheck (tm 19), none), (some 19, .mov (tm 0), none)], false⟩,
 o2 25 (.append 5 1 1 [(.int .u8 0)] true (tm 18) (tm 24)),
 o2 5 (.mov (tm 25))]) (.seq (.region [
 o1 26 (.mov (tm 5)),
 o1 27 (.mov (tm 0)),
 o1 28 (.callV (.func 106) [(tm 27)]),
 o1 29 (.callV (.func 105) [(tm 4), (tm 26), (tm 28), (.const (.bool true))])]) (.seq (.seq (.region [
 o1 30 (.mov k0)]) (.block 0 (.loop zcQ_l0))) (.seq (.region [
 o1 45 (.load (some 32) (tm 2)),
 o3 (.store 32 (tm 2) (tm 45)),
 o1 3 (.mov k0)]) .ret)))))))
def zcQ : AFunc := ⟨46, [(2, some (some 32)), (3, none)], zcQ_c, none⟩
theorem zcQ_t0 : tableOf Try.prog 91 = some zcQ := by kernel_rfl
theorem zcQ_t : T0 91 = some zcQ := withKept_t rfl (withTrue_t rfl zcQ_t0)
theorem zcQ_runs {v0 : Value} {h : Heap} {R : RP} {X : XP} (k : RunC Try.prog T0 zcQ_c ⟨[v0, U, U, U, U, U, U, U, U, U, U, U, U, U, U, U, U, U, U, U, U, U, U, U, U, U, U, U, U, U, U, U, U, U, U, U, U, U, U, U, U, U, U, U, U, U], [], h, none⟩ (bodyQ Try.prog T0 [(2, some (some 32)), (3, none)] R X)) :
 Runs Try.prog T0 (.fn 91) [v0] h R X := Runs.fn zcQ_t rfl k
def zcQ_l0_J (f0 f1 f2 f3 f4 f5 f7 f8 f9 f10 f11 f12 f13 f14 f15 f16 f17 f18 f19 f20 f21 f22 f23 f24 f25 f26 f27 f28 f29 f45 : Value) (ds : List Deferred) (rd : Option Nat) (I : Nat → Value → Heap → Prop) (m : Nat) (s : St) : Prop := ∃ (v30 : Value), ∃ h : Heap, ∃ (x6 x31 x32 x33 x34 x35 x36 x37 x38 x39 x40 x41 x42 x43 x44 : Value), s = ⟨[f0, f1, f2, f3, f4, f5, x6, f7, f8, f9, f10, f11, f12, f13, f14, f15, f16, f17, f18, f19, f20, f21, f22, f23, f24, f25, f26, f27, f28, f29, v30, x31, x32, x33, x34, x35, x36, x37, x38, x39, x40, x41, x42, x43, x44, f45], ds, h, rd⟩ ∧ I m v30 h
theorem zcQ_l0_rule {f0 f1 f2 f3 f4 f5 f7 f8 f9 f10 f11 f12 f13 f14 f15 f16 f17 f18 f19 f20 f21 f22 f23 f24 f25 f26 f27 f28 f29 f45 : Value} {ds : List Deferred} {rd : Option Nat} {Q : QP} (I : Nat → Value → Heap → Prop) (hb : ∀ (m : Nat) (v30 : Value) (h : Heap) (x6 x31 x32 x33 x34 x35 x36 x37 x38 x39 x40 x41 x42 x43 x44 : Value) , I m v30 h → RunC Try.prog T0 zcQ_l0 ⟨[f0, f1, f2, f3, f4, f5, x6, f7, f8, f9, f10, f11, f12, f13, f14, f15, f16, f17, f18, f19, f20, f21, f22, f23, f24, f25, f26, f27, f28, f29, v30, x31, x32, x33, x34, x35, x36, x37, x38, x39, x40, x41, x42, x43, x44, f45], ds, h, rd⟩ (loopQ (zcQ_l0_J f0 f1 f2 f3 f4 f5 f7 f8 f9 f10 f11 f12 f13 f14 f15 f16 f17 f18 f19 f20 f21 f22 f23 f24 f25 f26 f27 f28 f29 f45 ds rd I) m Q))
 (m : Nat) {v30 : Value} {h : Heap} {x6 x31 x32 x33 x34 x35 x36 x37 x38 x39 x40 x41 x42 x43 x44 : Value} (hi : I m v30 h) : RunC Try.prog T0 (.loop zcQ_l0) ⟨[f0, f1, f2, f3, f4, f5, x6, f7, f8, f9, f10, f11, f12, f13, f14, f15, f16, f17, f18, f19, f20, f21, f22, f23, f24, f25, f26, f27, f28, f29, v30, x31, x32, x33, x34, x35, x36, x37, x38, x39, x40, x41, x42, x43, x44, f45], ds, h, rd⟩ Q :=
 RunC.loopJ (zcQ_l0_J f0 f1 f2 f3 f4 f5 f7 f8 f9 f10 f11 f12 f13 f14 f15 f16 f17 f18 f19 f20 f21 f22 f23 f24 f25 f26 f27 f28 f29 f45 ds rd I) (fun m s hj => by obtain ⟨v30, h, x6, x31, x32, x33, x34, x35, x36, x37, x38, x39, x40, x41, x42, x43, x44, rfl, hi⟩ := hj; exact hb m v30 h x6 x31 x32 x33 x34 x35 x36 x37 x38 x39 x40 x41 x42 x43 x44 hi) m _ ⟨_, h, _, _, _, _, _, _, _, _, _, _, _, _, _, _, _, rfl, hi⟩
theorem zcQ_l0_again {f0 f1 f2 f3 f4 f5 f7 f8 f9 f10 f11 f12 f13 f14 f15 f16 f17 f18 f19 f20 f21 f22 f23 f24 f25 f26 f27 f28 f29 f45 : Value} {ds : List Deferred} {rd : Option Nat} {Q : QP} {I : Nat → Value → Heap → Prop} {m : Nat} (m' : Nat) {v30 : Value} {h : Heap} {x6 x31 x32 x33 x34 x35 x36 x37 x38 x39 x40 x41 x42 x43 x44 : Value} (hm : m' < m) (hi : I m' v30 h) : loopQ (zcQ_l0_J f0 f1 f2 f3 f4 f5 f7 f8 f9 f10 f11 f12 f13 f14 f15 f16 f17 f18 f19 f20 f21 f22 f23 f24 f25 f26 f27 f28 f29 f45 ds rd I) m Q .normal ⟨[f0, f1, f2, f3, f4, f5, x6, f7, f8, f9, f10, f11, f12, f13, f14, f15, f16, f17, f18, f19, f20, f21, f22, f23, f24, f25, f26, f27, f28, f29, v30, x31, x32, x33, x34, x35, x36, x37, x38, x39, x40, x41, x42, x43, x44, f45], ds, h, rd⟩ :=
 loopQ.again m' hm ⟨_, h, _, _, _, _, _, _, _, _, _, _, _, _, _, _, _, rfl, hi⟩
abbrev fn_zzQ : FuncId := 92
def zzQ_c : ACode :=
 (.seq (.region [
 o1 0 (.alloc 132 [(.int .u32 0), (.int .u32 0), (.int .u32 0), (.int .u32 0), (.int .u32 0), (.int .u32 0), (.int .u32 0), (.int .u32 0)])]) (.seq (.region [
 o1 1 (.build [(.int .u32 0), (.int .u32 0), (.int .u32 0), (.int .u32 0), (.int .u32 0), (.int .u32 0), (.int .u32 0), (.int .u32 0)] [(0, 1, (.const (.int .u32 1779033703))), (1, 1, (.const (.int .u32 3144134277))), (2, 1, (.const (.int .u32 1013904242))), (3, 1, (.const (.int .u32 2773480762))), (4, 1, (.const (.int .u32 1359893119))), (5, 1, (.const (.int .u32 2600822924))), (6, 1, (.const (.int .u32 528734635))), (7, 1, (.const (.int .u32 1541459225)))]),
 o3 (.store 8 (tm 0) (tm 1))]) .ret))
def zzQ : AFunc := ⟨2, [(0, some (some 8))], zzQ_c, none⟩
theorem zzQ_t0 : tableOf Try.prog 92 = some zzQ := by kernel_rfl
theorem zzQ_t : T0 92 = some zzQ := withKept_t rfl (withTrue_t rfl zzQ_t0)
theorem zzQ_runs {v : Value} {h : Heap} {R : RP} {X : XP} (k : RunC Try.prog T0 zzQ_c ⟨[undef, U], [], h, none⟩ (bodyQ Try.prog T0 [(0, some (some 8))] R X)) :
 Runs Try.prog T0 (.fn 92) [] h R X := Runs.fn zzQ_t rfl k
end Go.Proofs.Ytmfaepkmiceoeaa.A
