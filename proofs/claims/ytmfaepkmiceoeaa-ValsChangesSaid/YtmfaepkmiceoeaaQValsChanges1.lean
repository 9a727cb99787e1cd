/- Contracts of functions, over the machine. -/
import Derived.Test.YtmfaepkmiceoeaaRows
import Derived.Test.YtmfaepkmiceoeaaVJ
import Derived.Test.YtmfaepkmiceoeaaVK
namespace Go.Vm
abbrev U : Value := undef
abbrev tm (n : Nat) : Operand := .tmp n
abbrev k0 : Operand := .const (.int .i64 0)
abbrev o1 (d : Nat) (x : AOp) : AOper := ⟨some d, x, none, [], false⟩
abbrev o2 (d : Nat) (x : AOp) : AOper := ⟨some d, x, none, [], true⟩
abbrev o3 (x : AOp) : AOper := ⟨none, x, none, [], false⟩
abbrev o4 (d : Nat) (x : AOp) (t : Nat) : AOper := ⟨some d, x, some (t, true), [], false⟩
abbrev o5 (d : Nat) (x : AOp) (t : Nat) : AOper := ⟨some d, x, some (t, false), [], false⟩
end Go.Vm
noncomputable section
set_option maxRecDepth 100000
set_option linter.unusedVariables false
namespace Go.Proofs.Ytmfaepkmiceoeaa.A
open Go Go.Vm
instance : IsIface Try.prog 20 := ⟨by kernel_rfl⟩
abbrev prims : List FuncId := [5, 9]
abbrev kepts : List FuncId := []
def T0 : Table := withKept (withTrue Try.prog prims) kepts
theorem ziQ_known {h : Heap} : Runs Try.prog T0 (.fn 9) [] h (fun r h' => r = .bool true ∧ h' = h) (fun _ _ => False) := known_runs rfl
instance : IsBoolT Try.prog 4 := ⟨by kernel_rfl⟩
instance : TLeaves Try.prog 7 (.i .i64 :: (.i .i64 :: (.b :: (.i .u8 :: [])))) := ⟨by kernel_rfl, by kernel_rfl, by kernel_rfl⟩
instance : TLeaves Try.prog 8 (.i .i64 :: (.i .i64 :: (.b :: (.i .u8 :: [])))) := ⟨by kernel_rfl, by kernel_rfl, by kernel_rfl⟩
instance : TLeaves Try.prog 27 (.i .i64 :: (.i .i64 :: [])) := ⟨by kernel_rfl, by kernel_rfl, by kernel_rfl⟩
instance : TLeaves Try.prog 28 (.i .i64 :: (.i .i64 :: [])) := ⟨by kernel_rfl, by kernel_rfl, by kernel_rfl⟩
instance : TLeaves Try.prog 41 (u8s 4) := ⟨by kernel_rfl, by kernel_rfl, by kernel_rfl⟩
instance : TLeaves Try.prog 42 (u8s 4) := ⟨by kernel_rfl, by kernel_rfl, by kernel_rfl⟩
instance : TLeaves Try.prog 51 (.i .u64 :: (.i .u64 :: [])) := ⟨by kernel_rfl, by kernel_rfl, by kernel_rfl⟩
instance : TLeaves Try.prog 52 (.i .u64 :: (.i .u64 :: [])) := ⟨by kernel_rfl, by kernel_rfl, by kernel_rfl⟩
instance : TLeaves Try.prog 53 (u8s 4 ++ (.i .i64 :: [])) := ⟨by kernel_rfl, by kernel_rfl, by kernel_rfl⟩
instance : TLeaves Try.prog 54 (u8s 4 ++ (.i .i64 :: [])) := ⟨by kernel_rfl, by kernel_rfl, by kernel_rfl⟩
instance : TLeaves Try.prog 62 (u8s 32) := ⟨by kernel_rfl, by kernel_rfl, by kernel_rfl⟩
instance : TLeaves Try.prog 63 (u8s 32) := ⟨by kernel_rfl, by kernel_rfl, by kernel_rfl⟩
instance : TLeaves Try.prog 75 (u8s 4 ++ (.b :: (.i .i64 :: (.i .i64 :: [])))) := ⟨by kernel_rfl, by kernel_rfl, by kernel_rfl⟩
instance : TLeaves Try.prog 76 (u8s 4 ++ (.b :: (.i .i64 :: (.i .i64 :: [])))) := ⟨by kernel_rfl, by kernel_rfl, by kernel_rfl⟩
instance : TLeaves Try.prog 94 (.i .u64 :: (.i .u64 :: (.i .u64 :: []))) := ⟨by kernel_rfl, by kernel_rfl, by kernel_rfl⟩
instance : TLeaves Try.prog 95 (.i .u64 :: (.i .u64 :: (.i .u64 :: []))) := ⟨by kernel_rfl, by kernel_rfl, by kernel_rfl⟩
instance : TLeaves Try.prog 132 (.i .u32 :: (.i .u32 :: (.i .u32 :: (.i .u32 :: (.i .u32 :: (.i .u32 :: (.i .u32 :: (.i .u32 :: [])))))))) := ⟨by kernel_rfl, by kernel_rfl, by kernel_rfl⟩
instance : TLeaves Try.prog 140 (u8s 4 ++ (u8s 4 ++ (.i .u8 :: []))) := ⟨by kernel_rfl, by kernel_rfl, by kernel_rfl⟩
instance : TLeaves Try.prog 143 (.i .u32 :: (.i .u32 :: (.i .u32 :: (.i .u32 :: (.i .u32 :: (.i .u32 :: (.i .u32 :: (.i .u32 :: [])))))))) := ⟨by kernel_rfl, by kernel_rfl, by kernel_rfl⟩
instance : TLeaves Try.prog 146 (.i .i64 :: []) := ⟨by kernel_rfl, by kernel_rfl, by kernel_rfl⟩
instance : TLeaves Try.prog 147 (.i .i64 :: []) := ⟨by kernel_rfl, by kernel_rfl, by kernel_rfl⟩
instance : TLeaves Try.prog 152 (.i .u32 :: (.i .u32 :: (.i .u32 :: (.i .u32 :: (.i .u32 :: (.i .u32 :: (.i .u32 :: (.i .u32 :: (.i .u32 :: (.i .u32 :: (.i .u32 :: (.i .u32 :: (.i .u32 :: (.i .u32 :: (.i .u32 :: (.i .u32 :: [])))))))))))))))) := ⟨by kernel_rfl, by kernel_rfl, by kernel_rfl⟩
instance : TLeaves Try.prog 153 (.i .i64 :: (.i .i64 :: (.i .i64 :: (.i .i64 :: (.i .i64 :: (.i .i64 :: (.i .i64 :: (.i .i64 :: (.i .i64 :: (.i .i64 :: (.i .i64 :: (.i .i64 :: (.i .i64 :: (.i .i64 :: (.i .i64 :: (.i .i64 :: [])))))))))))))))) := ⟨by kernel_rfl, by kernel_rfl, by kernel_rfl⟩
instance : TLeaves Try.prog 156 (.i .i64 :: (.i .i64 :: [])) := ⟨by kernel_rfl, by kernel_rfl, by kernel_rfl⟩
instance : TLeaves Try.prog 157 (.i .i64 :: (.i .i64 :: [])) := ⟨by kernel_rfl, by kernel_rfl, by kernel_rfl⟩
instance : TLeaves Try.prog 167 (.i .i64 :: (.i .i64 :: (.i .i64 :: (.i .i64 :: (.i .i64 :: (.i .i64 :: (.i .i64 :: (.i .i64 :: (.i .i64 :: (.i .i64 :: (.i .i64 :: (.i .i64 :: (.i .i64 :: (.i .i64 :: (.i .i64 :: (.i .i64 :: (.i .i64 :: (.i .i64 :: (.i .i64 :: (.i .i64 :: (.i .i64 :: (.i .i64 :: (.i .i64 :: (.i .i64 :: (.i .i64 :: (.i .i64 :: (.i .i64 :: (.i .i64 :: (.i .i64 :: (.i .i64 :: (.i .i64 :: (.i .i64 :: (.i .i64 :: (.i .i64 :: (.i .i64 :: (.i .i64 :: (.i .i64 :: (.i .i64 :: (.i .i64 :: (.i .i64 :: (.i .i64 :: (.i .i64 :: (.i .i64 :: (.i .i64 :: (.i .i64 :: (.i .i64 :: (.i .i64 :: (.i .i64 :: (.i .i64 :: (.i .i64 :: (.i .i64 :: (.i .i64 :: (.i .i64 :: (.i .i64 :: (.i .i64 :: (.i .i64 :: (.i .i64 :: (.i .i64 :: (.i .i64 :: (.i .i64 :: (.i .i64 :: (.i .i64 :: (.i .i64 :: (.i .i64 :: (.i .i64 :: (.i .i64 :: (.i .i64 :: (.i .i64 :: (.i .i64 :: (.i .i64 :: (.i .i64 :: (.i .i64 :: (.i .i64 :: (.i .i64 :: (.i .i64 :: (.i .i64 :: (.i .i64 :: (.i .i64 :: (.i .i64 :: (.i .i64 :: (.i .i64 :: (.i .i64 :: (.i .i64 :: (.i .i64 :: (.i .i64 :: (.i .i64 :: (.i .i64 :: (.i .i64 :: (.i .i64 :: (.i .i64 :: (.i .i64 :: (.i .i64 :: (.i .i64 :: (.i .i64 :: (.i .i64 :: (.i .i64 :: (.i .i64 :: (.i .i64 :: (.i .i64 :: (.i .i64 :: (.i .i64 :: (.i .i64 :: (.i .i64 :: (.i .i64 :: (.i .i64 :: (.i .i64 :: (.i .i64 :: (.i .i64 :: (.i .i64 :: (.i .i64 :: (.i .i64 :: (.i .i64 :: (.i .i64 :: (.i .i64 :: (.i .i64 :: (.i .i64 :: (.i .i64 :: (.i .i64 :: (.i .i64 :: (.i .i64 :: (.i .i64 :: (.i .i64 :: (.i .i64 :: (.i .i64 :: (.i .i64 :: (.i .i64 :: (.i .i64 :: (.i .i64 :: (.i .i64 :: (.i .i64 :: (.i .i64 :: (.i .i64 :: (.i .i64 :: (.i .i64 :: (.i .i64 :: (.i .i64 :: (.i .i64 :: (.i .i64 :: (.i .i64 :: (.i .i64 :: (.i .i64 :: (.i .i64 :: (.i .i64 :: (.i .i64 :: (.i .i64 :: (.i .i64 :: (.i .i64 :: (.i .i64 :: (.i .i64 :: (.i .i64 :: (.i .i64 :: (.i .i64 :: (.i .i64 :: (.i .i64 :: (.i .i64 :: (.i .i64 :: (.i .i64 :: (.i .i64 :: (.i .i64 :: (.i .i64 :: [])))))))))))))))))))))))))))))))))))))))))))))))))))))))))))))))))))))))))))))))))))))))))))))))))))))))))))))))))))))))))))))))))))))))))))))))))))))))))))))))) := ⟨by kernel_rfl, by kernel_rfl, by kernel_rfl⟩
abbrev fn_zfQ : FuncId := 4
def zfQ_c : ACode :=
 (.seq (.region [
 o1 4 (.mov (.const (.bool false)))]) (.seq (.seq (.region [
 o1 12 (.mov (tm 0)),
 o1 13 (.lenSl (tm 12)),
 o1 14 (.bin .gtr (so (.binOp .gtr 3 (tm 13) (.const (.int .i64 80)) 3) 4) (tm 13) (.const (.int .i64 80))),
 o1 15 (.mov (tm 14)),
 o5 16 (.mov (tm 1)) 15,
 o5 17 (.lenSl (tm 16)) 15,
 o5 18 (.bin .gtr (so (.binOp .gtr 3 (tm 17) (.const (.int .i64 80)) 3) 4) (tm 17) (.const (.int .i64 80))) 15,
 o1 19 (.pick (tm 15) (.const (.bool true)) (tm 18))]) (.cond (tm 19)
 (.seq (.region [
 o1 20 (.callV (.func 9) []),
 o1 4 (.mov (tm 20))]) .ret)
 .skip)) (.seq (.region [
 o1 21 (.mov (tm 0)),
 o1 22 (.callV (.func 16) [(tm 21)]),
 o1 23 (.mov (tm 1)),
 o1 24 (.callV (.func 16) [(tm 23)]),
 o1 5 (.mov (tm 22)),
 o1 6 (.mov (tm 24))]) (.seq (.region [
 o1 26 (.mov (tm 5)),
 o1 27 (.mov (tm 6)),
 o1 28 (.callV (.func 17) [(tm 26), (tm 27)]),
 o1 25 (.mov (tm 28)),
 o1 29 (.extract 0 (tm 25)),
 o1 30 (.extract 1 (tm 25)),
 o1 7 (.mov (tm 29)),
 o1 8 (.mov (tm 30))]) (.seq (.region [
 o1 32 (.mov (tm 0)),
 o1 33 (.mov (tm 1)),
 o1 34 (.callV (.func 18) [(tm 32), (tm 33)]),
 o1 31 (.mov (tm 34)),
 o1 35 (.extract 0 (tm 31)),
 o1 36 (.extract 1 (tm 31)),
 o1 9 (.mov (tm 35)),
 o1 10 (.mov (tm 36))]) (.seq (.region [
 o1 37 (.mov (tm 7)),
 o1 38 (.mov (tm 9)),
 o1 39 (.callV (.func 13) [(tm 37), (tm 38)]),
 o1 40 (.mov (tm 39)),
 o4 41 (.mov (tm 8)) 40,
 o4 42 (.mov (tm 10)) 40,
 o4 43 (.bin .eql (so (.binOp .eql 26 (tm 41) (tm 42) 26) 4) (tm 41) (tm 42)) 40,
 o1 44 (.pick (tm 40) (tm 43) (.const (.bool false))),
 o1 11 (.mov (tm 44))]) (.seq (.region [
 o1 45 (.mov (tm 7)),
 o1 46 (.callV (.func 14) [(tm 45)])]) (.seq (.region [
 o1 47 (.mov (tm 11)),
 o1 48 (.mov (tm 47)),
 o4 49 (.mov (tm 5)) 48,
 o4 50 (.mov (tm 0)) 48,
 o4 51 (.callV (.func 13) [(tm 49), (tm 50)]) 48,
 o1 52 (.pick (tm 48) (tm 51) (.const (.bool false))),
 o1 53 (.mov (tm 52)),
 o4 54 (.mov (tm 6)) 53,
 o4 55 (.mov (tm 1)) 53,
 o4 56 (.callV (.func 13) [(tm 54), (tm 55)]) 53,
 o1 57 (.pick (tm 53) (tm 56) (.const (.bool false))),
 o1 58 (.mov (tm 57)),
 o4 59 (.callV (.func 9) []) 58,
 o1 60 (.pick (tm 58) (tm 59) (.const (.bool false))),
 o1 4 (.mov (tm 60))]) .ret))))))))
def zfQ : AFunc := ⟨61, [(4, none)], zfQ_c, none⟩
theorem zfQ_t0 : tableOf Try.prog 4 = some zfQ := by kernel_rfl
theorem zfQ_t : T0 4 = some zfQ := withKept_t rfl (withTrue_t rfl zfQ_t0)
theorem zfQ_runs {v0 v1 : Value} {h : Heap} {R : RP} {X : XP} (k : RunC Try.prog T0 zfQ_c ⟨[v0, v1, U, U, U, U, U, U, U, U, U, U, U, U, U, U, U, U, U, U, U, U, U, U, U, U, U, U, U, U, U, U, U, U, U, U, U, U, U, U, U, U, U, U, U, U, U, U, U, U, U, U, U, U, U, U, U, U, U, U, U], [], h, none⟩ (bodyQ Try.prog T0 [(4, none)] R X)) :
 Runs Try.prog T0 (.fn 4) [v0, v1] h R X := Runs.fn zfQ_t rfl k
abbrev fn_zeQ : FuncId := 13
def zeQ_l0 : ACode :=
 (.seq (.seq (.region [
 o1 12 (.mov (tm 5)),
 o1 13 (.mov (tm 12)),
 o4 14 (.mov (tm 6)) 13,
 o4 15 (.mov (tm 0)) 13,
 o4 16 (.lenSl (tm 15)) 13,
 o4 17 (.bin .lss (so (.binOp .lss 3 (tm 14) (tm 16) 3) 4) (tm 14) (tm 16)) 13,
 o1 18 (.pick (tm 13) (tm 17) (.const (.bool false)))]) (.cond (tm 18)
 .skip
 (.exit 0))) (.seq (.block 1 (.regionD [
 o1 21 (.mov (tm 0)),
 o1 22 (.mov (tm 6)),
 o1 23 (.indexSl 5 (tm 21) (tm 22)),
 o1 24 (.load (some 5) (tm 23)),
 o1 25 (.mov (tm 1)),
 o1 26 (.mov (tm 6)),
 o1 27 (.indexSl 5 (tm 25) (tm 26)),
 o1 28 (.load (some 5) (tm 27)),
 o2 29 (.bin .eql (so (.binOp .eql 54 (tm 24) (tm 28) 54) 4) (tm 24) (tm 28)),
 o2 5 (.mov (tm 29))])) (.region [
 o1 19 (.mov (tm 6)),
 o1 20 (.bin .add (so (.binOp .add 3 (tm 19) (.const (.int .i64 1)) 3) 3) (tm 19) (.const (.int .i64 1))),
 o1 6 (.mov (tm 20))])))
def zeQ_c : ACode :=
 (.seq (.region [
 o1 4 (.mov (.const (.bool false)))]) (.seq (.region [
 o1 7 (.mov (tm 0)),
 o1 8 (.lenSl (tm 7)),
 o1 9 (.mov (tm 1)),
 o1 10 (.lenSl (tm 9)),
 o1 11 (.bin .eql (so (.binOp .eql 3 (tm 8) (tm 10) 3) 4) (tm 8) (tm 10)),
 o1 5 (.mov (tm 11))]) (.seq (.seq (.region [
 o1 6 (.mov k0)]) (.block 0 (.loop zeQ_l0))) (.seq (.region [
 o1 30 (.mov (tm 5)),
 o1 4 (.mov (tm 30))]) .ret))))
def zeQ : AFunc := ⟨31, [(4, none)], zeQ_c, none⟩
theorem zeQ_t0 : tableOf Try.prog 13 = some zeQ := by kernel_rfl
theorem zeQ_t : T0 13 = some zeQ := withKept_t rfl (withTrue_t rfl zeQ_t0)
theorem zeQ_runs {v0 v1 : Value} {h : Heap} {R : RP} {X : XP} (k : RunC Try.prog T0 zeQ_c ⟨[v0, v1, U, U, U, U, U, U, U, U, U, U, U, U, U, U, U, U, U, U, U, U, U, U, U, U, U, U, U, U, U], [], h, none⟩ (bodyQ Try.prog T0 [(4, none)] R X)) :
 Runs Try.prog T0 (.fn 13) [v0, v1] h R X := Runs.fn zeQ_t rfl k
def zeQ_l0_J (f0 f1 f2 f3 f4 f7 f8 f9 f10 f11 f30 : Value) (ds : List Deferred) (rd : Option Nat) (I : Nat → Value → Value → Heap → Prop) (m : Nat) (s : St) : Prop := ∃ (v5 v6 : Value), ∃ h : Heap, ∃ (x12 x13 x14 x15 x16 x17 x18 x19 x20 x21 x22 x23 x24 x25 x26 x27 x28 x29 : Value), s = ⟨[f0, f1, f2, f3, f4, v5, v6, f7, f8, f9, f10, f11, x12, x13, x14, x15, x16, x17, x18, x19, x20, x21, x22, x23, x24, x25, x26, x27, x28, x29, f30], ds, h, rd⟩ ∧ I m v5 v6 h
theorem zeQ_l0_rule {f0 f1 f2 f3 f4 f7 f8 f9 f10 f11 f30 : Value} {ds : List Deferred} {rd : Option Nat} {Q : QP} (I : Nat → Value → Value → Heap → Prop) (hb : ∀ (m : Nat) (v5 v6 : Value) (h : Heap) (x12 x13 x14 x15 x16 x17 x18 x19 x20 x21 x22 x23 x24 x25 x26 x27 x28 x29 : Value) , I m v5 v6 h → RunC Try.prog T0 zeQ_l0 ⟨[f0, f1, f2, f3, f4, v5, v6, f7, f8, f9, f10, f11, x12, x13, x14, x15, x16, x17, x18, x19, x20, x21, x22, x23, x24, x25, x26, x27, x28, x29, f30], ds, h, rd⟩ (loopQ (zeQ_l0_J f0 f1 f2 f3 f4 f7 f8 f9 f10 f11 f30 ds rd I) m Q))
 (m : Nat) {v5 v6 : Value} {h : Heap} {x12 x13 x14 x15 x16 x17 x18 x19 x20 x21 x22 x23 x24 x25 x26 x27 x28 x29 : Value} (hi : I m v5 v6 h) : RunC Try.prog T0 (.loop zeQ_l0) ⟨[f0, f1, f2, f3, f4, v5, v6, f7, f8, f9, f10, f11, x12, x13, x14, x15, x16, x17, x18, x19, x20, x21, x22, x23, x24, x25, x26, x27, x28, x29, f30], ds, h, rd⟩ Q :=
 RunC.loopJ (zeQ_l0_J f0 f1 f2 f3 f4 f7 f8 f9 f10 f11 f30 ds rd I) (fun m s hj => by obtain ⟨v5, v6, h, x12, x13, x14, x15, x16, x17, x18, x19, x20, x21, x22, x23, x24, x25, x26, x27, x28, x29, rfl, hi⟩ := hj; exact hb m v5 v6 h x12 x13 x14 x15 x16 x17 x18 x19 x20 x21 x22 x23 x24 x25 x26 x27 x28 x29 hi) m _ ⟨_, _, h, _, _, _, _, _, _, _, _, _, _, _, _, _, _, _, _, _, _, rfl, hi⟩
theorem zeQ_l0_again {f0 f1 f2 f3 f4 f7 f8 f9 f10 f11 f30 : Value} {ds : List Deferred} {rd : Option Nat} {Q : QP} {I : Nat → Value → Value → Heap → Prop} {m : Nat} (m' : Nat) {v5 v6 : Value} {h : Heap} {x12 x13 x14 x15 x16 x17 x18 x19 x20 x21 x22 x23 x24 x25 x26 x27 x28 x29 : Value} (hm : m' < m) (hi : I m' v5 v6 h) : loopQ (zeQ_l0_J f0 f1 f2 f3 f4 f7 f8 f9 f10 f11 f30 ds rd I) m Q .normal ⟨[f0, f1, f2, f3, f4, v5, v6, f7, f8, f9, f10, f11, x12, x13, x14, x15, x16, x17, x18, x19, x20, x21, x22, x23, x24, x25, x26, x27, x28, x29, f30], ds, h, rd⟩ :=
 loopQ.again m' hm ⟨_, _, h, _, _, _, _, _, _, _, _, _, _, _, _, _, _, _, _, _, _, rfl, hi⟩
abbrev fn_zcQ : FuncId := 14
def zcQ_l0 : ACode :=
 (.seq (.seq (.region [
 o1 3 (.mov (tm 2)),
 o1 4 (.mov (tm 0)),
 o1 5 (.lenSl (tm 4)),
 o1 6 (.bin .lss (so (.binOp .lss 3 (tm 3) (tm 5) 3) 4) (tm 3) (tm 5))]) (.cond (tm 6)
 .skip
 (.exit 0))) (.seq (.block 1 (.region [
 o1 9 (.mov (tm 0)),
 o1 10 (.mov (tm 2)),
 o1 11 (.build [(.int .u8 0), (.int .u8 0), (.int .u8 0), (.int .u8 0), (.int .i64 0)] [(4, 1, (.const (.int .i64 (-7))))]),
 o1 12 (.indexSl 5 (tm 9) (tm 10)),
 o3 (.store 5 (tm 12) (tm 11))])) (.region [
 o1 7 (.mov (tm 2)),
 o1 8 (.bin .add (so (.binOp .add 3 (tm 7) (.const (.int .i64 1)) 3) 3) (tm 7) (.const (.int .i64 1))),
 o1 2 (.mov (tm 8))])))
def zcQ_c : ACode :=
 (.seq (.region [
 o1 2 (.mov k0)]) (.block 0 (.loop zcQ_l0)))
def zcQ : AFunc := ⟨13, [], zcQ_c, none⟩
theorem zcQ_t0 : tableOf Try.prog 14 = some zcQ := by kernel_rfl
theorem zcQ_t : T0 14 = some zcQ := withKept_t rfl (withTrue_t rfl zcQ_t0)
theorem zcQ_runs {v0 : Value} {h : Heap} {R : RP} {X : XP} (k : RunC Try.prog T0 zcQ_c ⟨[v0, U, U, U, U, U, U, U, U, U, U, U, U], [], h, none⟩ (bodyQ Try.prog T0 [] R X)) :
 Runs Try.prog T0 (.fn 14) [v0] h R X := Runs.fn zcQ_t rfl k
def zcQ_l0_J (f0 f1 : Value) (ds : List Deferred) (rd : Option Nat) (I : Nat → Value → Heap → Prop) (m : Nat) (s : St) : Prop := ∃ (v2 : Value), ∃ h : Heap, ∃ (x3 x4 x5 x6 x7 x8 x9 x10 x11 x12 : Value), s = ⟨[f0, f1, v2, x3, x4, x5, x6, x7, x8, x9, x10, x11, x12], ds, h, rd⟩ ∧ I m v2 h
theorem zcQ_l0_rule {f0 f1 : Value} {ds : List Deferred} {rd : Option Nat} {Q : QP} (I : Nat → Value → Heap → Prop) (hb : ∀ (m : Nat) (v2 : Value) (h : Heap) (x3 x4 x5 x6 x7 x8 x9 x10 x11 x12 : Value) , I m v2 h → RunC Try.prog T0 zcQ_l0 ⟨[f0, f1, v2, x3, x4, x5, x6, x7, x8, x9, x10, x11, x12], ds, h, rd⟩ (loopQ (zcQ_l0_J f0 f1 ds rd I) m Q))
 (m : Nat) {v2 : Value} {h : Heap} {x3 x4 x5 x6 x7 x8 x9 x10 x11 x12 : Value} (hi : I m v2 h) : RunC Try.prog T0 (.loop zcQ_l0) ⟨[f0, f1, v2, x3, x4, x5, x6, x7, x8, x9, x10, x11, x12], ds, h, rd⟩ Q :=
 RunC.loopJ (zcQ_l0_J f0 f1 ds rd I) (fun m s hj => by obtain ⟨v2, h, x3, x4, x5, x6, x7, x8, x9, x10, x11, x12, rfl, hi⟩ := hj; exact hb m v2 h x3 x4 x5 x6 x7 x8 x9 x10 x11 x12 hi) m _ ⟨_, h, _, _, _, _, _, _, _, _, _, _, rfl, hi⟩
theorem zcQ_l0_again {f0 f1 : Value} {ds : List Deferred} {rd : Option Nat} {Q : QP} {I : Nat → Value → Heap → Prop} {m : Nat} (m' : Nat) {v2 : Value} {h : Heap} {x3 x4 x5 x6 x7 x8 x9 x10 x11 x12 : Value} (hm : m' < m) (hi : I m' v2 h) : loopQ (zcQ_l0_J f0 f1 ds rd I) m Q .normal ⟨[f0, f1, v2, x3, x4, x5, x6, x7, x8, x9, x10, x11, x12], ds, h, rd⟩ :=
 loopQ.again m' hm ⟨_, h, _, _, _, _, _, _, _, _, _, _, rfl, hi⟩
abbrev fn_zbQ : FuncId := 16
def zbQ_c : ACode :=
 (.seq (.region [
 o1 2 (.mov (.const (.slice none 0 0)))]) (.seq (.region [
 o1 3 (.buildSlice 54 [] 0 []),
 o1 4 (.mov (tm 0)),
 o1 5 (.append 54 5 16 [(.int .u8 0), (.int .u8 0), (.int .u8 0), (.int .u8 0), (.int .i64 0)] false (tm 3) (tm 4)),
 o1 2 (.mov (tm 5))]) .ret))
def zbQ : AFunc := ⟨6, [(2, none)], zbQ_c, none⟩
theorem zbQ_t0 : tableOf Try.prog 16 = some zbQ := by kernel_rfl
theorem zbQ_t : T0 16 = some zbQ := withKept_t rfl (withTrue_t rfl zbQ_t0)
theorem zbQ_runs {v0 : Value} {h : Heap} {R : RP} {X : XP} (k : RunC Try.prog T0 zbQ_c ⟨[v0, U, U, U, U, U], [], h, none⟩ (bodyQ Try.prog T0 [(2, none)] R X)) :
 Runs Try.prog T0 (.fn 16) [v0] h R X := Runs.fn zbQ_t rfl k
abbrev fn_zsQ : FuncId := 17
def zsQ_l0 : ACode :=
 (.seq (.region [
 o1 23 (.bin .lss (so (.binOp .lss 3 (tm 22) (tm 21) 3) 0) (tm 22) (tm 21))]) (.seq (.cond (tm 23)
 .skip
 (.exit 0)) (.seq (.block 1 (.seq (.region [
 o1 24 (.indexSl 5 (tm 20) (tm 22)),
 o1 25 (.load (some 5) (tm 24)),
 o1 9 (.alloc 54 [(.int .u8 0), (.int .u8 0), (.int .u8 0), (.int .u8 0), (.int .i64 0)]),
 o3 (.store 5 (tm 9) (tm 25))]) (.seq (.seq (.region [
 o1 26 (.load (some 5) (tm 9)),
 o1 27 (.callV (.func 48) [(tm 7), (tm 26)]),
 o1 10 (.mov (tm 27))]) (.seq (.region [
 o1 28 (.mov (tm 10)),
 o1 29 (.bin .neq (so (.binOp .neq 26 (tm 28) k0 26) 4) (tm 28) k0)]) (.cond (tm 29)
 (.seq (.region [
 o1 30 (.mov (tm 10)),
 o3 (.store 1 (tm 4) (.const (.slice none 0 0))),
 o1 5 (.mov (tm 30))]) .ret)
 .skip))) (.seq (.region [
 o1 32 (.mov (tm 0)),
 o1 33 (.fieldAddr 0 (tm 9)),
 o1 34 (.load (some 4) (tm 33)),
 o1 35 (.callV (.func 19) [(tm 32), (tm 34)]),
 o1 31 (.mov (tm 35)),
 o1 36 (.extract 0 (tm 31)),
 o1 37 (.extract 1 (tm 31)),
 o1 11 (.mov (tm 36)),
 o1 12 (.mov (tm 37))]) (.seq (.region [
 o1 38 (.fieldAddr 4 (tm 9)),
 o1 39 (.load none (tm 38)),
 o1 40 (.bin .eql (so (.binOp .eql 3 (tm 39) k0 3) 4) (tm 39) k0),
 o1 41 (.mov (tm 40)),
 o4 42 (.mov (tm 12)) 41,
 o4 43 (.raw (so (.unOp .not 4 (tm 42)) 4)) 41,
 o1 44 (.pick (tm 41) (tm 43) (.const (.bool false)))]) (.cond (tm 44)
 (.seq (.region [
 o3 (.store 1 (tm 4) (.const (.slice none 0 0))),
 o1 5 (.mov (.const (.int .i64 10)))]) .ret)
 .skip)))))) (.region [
 o1 45 (.bin .add (so (.binOp .add 3 (tm 22) (.const (.int .i64 1)) 3) 3) (tm 22) (.const (.int .i64 1))),
 o1 22 (.mov (tm 45))]))))
def zsQ_ra0 : Code := (rangeParts (subCode ((Try.prog.funcs[17]?).bind (·.body)) [true, true, true, true, false, true, false])).1
def zsQ_rb0 : Code := (rangeParts (subCode ((Try.prog.funcs[17]?).bind (·.body)) [true, true, true, true, false, true, false])).2
def zsQ_a0 : ACode :=
 (.region [
 o1 13 (.alloc 54 [(.int .u8 0), (.int .u8 0), (.int .u8 0), (.int .u8 0), (.int .i64 0)]),
 o3 (.store 5 (tm 13) (tm 49))])
def zsQ_b0 : ACode :=
 (.block 3 (.seq (.region [
 o1 50 (.fieldAddr 4 (tm 13)),
 o1 51 (.load none (tm 50)),
 o1 52 (.bin .gtr (so (.binOp .gtr 3 (tm 51) k0 3) 4) (tm 51) k0)]) (.cond (tm 52)
 (.region [
 o1 53 (.load none (tm 4)),
 o1 54 (.load (some 5) (tm 13)),
 o1 55 (.buildSlice 54 [(.int .u8 0), (.int .u8 0), (.int .u8 0), (.int .u8 0), (.int .i64 0)] 1 [(0, 5, (tm 54))]),
 o1 56 (.append 54 5 16 [(.int .u8 0), (.int .u8 0), (.int .u8 0), (.int .u8 0), (.int .i64 0)] false (tm 53) (tm 55)),
 o3 (.store 1 (tm 4) (tm 56))])
 .skip)))
theorem zsQ_ca0 : comp Try.prog zsQ_ra0 = some zsQ_a0 := by kernel_rfl
theorem zsQ_cb0 : comp Try.prog zsQ_rb0 = some zsQ_b0 := by kernel_rfl
theorem zsQ_na0 : noDefer zsQ_ra0 = true := by kernel_rfl
theorem zsQ_nb0 : noDefer zsQ_rb0 = true := by kernel_rfl
def zsQ_c : ACode :=
 (.seq (.region [
 o1 4 (.alloc 25 [(.slice none 0 0)]),
 o1 5 (.mov k0)]) (.seq (.seq (.region [
 o1 14 (.mov (tm 0)),
 o1 15 (.callV (.func 22) [(tm 14)]),
 o1 6 (.mov (tm 15))]) (.seq (.region [
 o1 16 (.mov (tm 6)),
 o1 17 (.bin .neq (so (.binOp .neq 26 (tm 16) k0 26) 4) (tm 16) k0)]) (.cond (tm 17)
 (.seq (.region [
 o1 18 (.mov (tm 6)),
 o3 (.store 1 (tm 4) (.const (.slice none 0 0))),
 o1 5 (.mov (tm 18))]) .ret)
 .skip))) (.seq (.region [
 o1 19 (.build [(.int .u8 0), (.int .u8 0), (.int .u8 0), (.int .u8 0), (.bool false), (.int .i64 0), (.int .i64 0)] [(6, 1, (.const (.int .i64 4611686018427387904)))]),
 o1 7 (.alloc 76 [(.int .u8 0), (.int .u8 0), (.int .u8 0), (.int .u8 0), (.bool false), (.int .i64 0), (.int .i64 0)]),
 o3 (.store 7 (tm 7) (tm 19))]) (.seq (.seq (.region [
 o1 20 (.mov (tm 1)),
 o1 21 (.lenSl (tm 20)),
 o1 22 (.mov k0)]) (.block 0 (.loop zsQ_l0))) (.seq (.seq (.region [
 o1 46 (.mov (tm 0)),
 o1 47 (.mov (tm 1)),
 o1 48 (.callV (.func 49) [(tm 46), (tm 47)])]) (.block 2 (.rangeFunc (tm 48) [49] zsQ_ra0 zsQ_rb0))) (.seq (.block 4 (.seq (.region [
 o1 58 (.load none (tm 4)),
 o1 59 (.lenSl (tm 58)),
 o1 60 (.bin .eql (so (.binOp .eql 3 (tm 59) k0 3) 4) (tm 59) k0),
 o1 57 (.mov (tm 60))]) (.cond (tm 57)
 (.seq (.region [
 o3 (.store 1 (tm 4) (.const (.slice none 0 0))),
 o1 5 (.mov (.const (.int .i64 6)))]) .ret)
 (.seq (.region [
 o1 62 (.load none (tm 4)),
 o1 63 (.lenSl (tm 62)),
 o1 64 (.bin .gtr (so (.binOp .gtr 3 (tm 63) (.const (.int .i64 64)) 3) 4) (tm 63) (.const (.int .i64 64))),
 o1 61 (.mov (tm 64))]) (.cond (tm 61)
 (.seq (.region [
 o3 (.store 1 (tm 4) (.const (.slice none 0 0))),
 o1 5 (.mov (.const (.int .i64 7)))]) .ret)
 .skip))))) (.seq (.region [
 o1 65 (.load none (tm 4)),
 o3 (.store 1 (tm 4) (tm 65)),
 o1 5 (.mov k0)]) .ret)))))))
def zsQ : AFunc := ⟨66, [(4, some none), (5, none)], zsQ_c, none⟩
theorem zsQ_t0 : tableOf Try.prog 17 = some zsQ := by kernel_rfl
theorem zsQ_t : T0 17 = some zsQ := withKept_t rfl (withTrue_t rfl zsQ_t0)
theorem zsQ_runs {v0 v1 : Value} {h : Heap} {R : RP} {X : XP} (k : RunC Try.prog T0 zsQ_c ⟨[v0, v1, U, U, U, U, U, U, U, U, U, U, U, U, U, U, U, U, U, U, U, U, U, U, U, U, U, U, U, U, U, U, U, U, U, U, U, U, U, U, U, U, U, U, U, U, U, U, U, U, U, U, U, U, U, U, U, U, U, U, U, U, U, U, U, U], [], h, none⟩ (bodyQ Try.prog T0 [(4, some none), (5, none)] R X)) :
 Runs Try.prog T0 (.fn 17) [v0, v1] h R X := Runs.fn zsQ_t rfl k
def zsQ_l0_J (f0 f1 f2 f3 f4 f6 f7 f8 f13 f14 f15 f16 f17 f18 f19 f20 f21 f46 f47 f48 f49 f50 f51 f52 f53 f54 f55 f56 f57 f58 f59 f60 f61 f62 f63 f64 f65 : Value) (ds : List Deferred) (rd : Option Nat) (I : Nat → Value → Value → Heap → Prop) (m : Nat) (s : St) : Prop := ∃ (v5 v22 : Value), ∃ h : Heap, ∃ (x9 x10 x11 x12 x23 x24 x25 x26 x27 x28 x29 x30 x31 x32 x33 x34 x35 x36 x37 x38 x39 x40 x41 x42 x43 x44 x45 : Value), s = ⟨[f0, f1, f2, f3, f4, v5, f6, f7, f8, x9, x10, x11, x12, f13, f14, f15, f16, f17, f18, f19, f20, f21, v22, x23, x24, x25, x26, x27, x28, x29, x30, x31, x32, x33, x34, x35, x36, x37, x38, x39, x40, x41, x42, x43, x44, x45, f46, f47, f48, f49, f50, f51, f52, f53, f54, f55, f56, f57, f58, f59, f60, f61, f62, f63, f64, f65], ds, h, rd⟩ ∧ I m v5 v22 h
theorem zsQ_l0_rule {f0 f1 f2 f3 f4 f6 f7 f8 f13 f14 f15 f16 f17 f18 f19 f20 f21 f46 f47 f48 f49 f50 f51 f52 f53 f54 f55 f56 f57 f58 f59 f60 f61 f62 f63 f64 f65 : Value} {ds : List Deferred} {rd : Option Nat} {Q : QP} (I : Nat → Value → Value → Heap → Prop) (hb : ∀ (m : Nat) (v5 v22 : Value) (h : Heap) (x9 x10 x11 x12 x23 x24 x25 x26 x27 x28 x29 x30 x31 x32 x33 x34 x35 x36 x37 x38 x39 x40 x41 x42 x43 x44 x45 : Value) , I m v5 v22 h → RunC Try.prog T0 zsQ_l0 ⟨[f0, f1, f2, f3, f4, v5, f6, f7, f8, x9, x10, x11, x12, f13, f14, f15, f16, f17, f18, f19, f20, f21, v22, x23, x24, x25, x26, x27, x28, x29, x30, x31, x32, x33, x34, x35, x36, x37, x38, x39, x40, x41, x42, x43, x44, x45, f46, f47, f48, f49, f50, f51, f52, f53, f54, f55, f56, f57, f58, f59, f60, f61, f62, f63, f64, f65], ds, h, rd⟩ (loopQ (zsQ_l0_J f0 f1 f2 f3 f4 f6 f7 f8 f13 f14 f15 f16 f17 f18 f19 f20 f21 f46 f47 f48 f49 f50 f51 f52 f53 f54 f55 f56 f57 f58 f59 f60 f61 f62 f63 f64 f65 ds rd I) m Q))
 (m : Nat) {v5 v22 : Value} {h : Heap} {x9 x10 x11 x12 x23 x24 x25 x26 x27 x28 x29 x30 x31 x32 x33 x34 x35 x36 x37 x38 x39 x40 x41 x42 x43 x44 x45 : Value} (hi : I m v5 v22 h) : RunC Try.prog T0 (.loop zsQ_l0) ⟨[f0, f1, f2, f3, f4, v5, f6, f7, f8, x9, x10, x11, x12, f13, f14, f15, f16, f17, f18, f19, f20, f21, v22, x23, x24, x25, x26, x27, x28, x29, x30, x31, x32, x33, x34, x35, x36, x37, x38, x39, x40, x41, x42, x43, x44, x45, f46, f47, f48, f49, f50, f51, f52, f53, f54, f55, f56, f57, f58, f59, f60, f61, f62, f63, f64, f65], ds, h, rd⟩ Q :=
 RunC.loopJ (zsQ_l0_J f0 f1 f2 f3 f4 f6 f7 f8 f13 f14 f15 f16 f17 f18 f19 f20 f21 f46 f47 f48 f49 f50 f51 f52 f53 f54 f55 f56 f57 f58 f59 f60 f61 f62 f63 f64 f65 ds rd I) (fun m s hj => by obtain ⟨v5, v22, h, x9, x10, x11, x12, x23, x24, x25, x26, x27, x28, x29, x30, x31, x32, x33, x34, x35, x36, x37, x38, x39, x40, x41, x42, x43, x44, x45, rfl, hi⟩ := hj; exact hb m v5 v22 h x9 x10 x11 x12 x23 x24 x25 x26 x27 x28 x29 x30 x31 x32 x33 x34 x35 x36 x37 x38 x39 x40 x41 x42 x43 x44 x45 hi) m _ ⟨_, _, h, _, _, _, _, _, _, _, _, _, _, _, _, _, _, _, _, _, _, _, _, _, _, _, _, _, _, _, rfl, hi⟩
theorem zsQ_l0_again {f0 f1 f2 f3 f4 f6 f7 f8 f13 f14 f15 f16 f17 f18 f19 f20 f21 f46 f47 f48 f49 f50 f51 f52 f53 f54 f55 f56 f57 f58 f59 f60 f61 f62 f63 f64 f65 : Value} {ds : List Deferred} {rd : Option Nat} {Q : QP} {I : Nat → Value → Value → Heap → Prop} {m : Nat} (m' : Nat) {v5 v22 : Value} {h : Heap} {x9 x10 x11 x12 x23 x24 x25 x26 x27 x28 x29 x30 x31 x32 x33 x34 x35 x36 x37 x38 x39 x40 x41 x42 x43 x44 x45 : Value} (hm : m' < m) (hi : I m' v5 v22 h) : loopQ (zsQ_l0_J f0 f1 f2 f3 f4 f6 f7 f8 f13 f14 f15 f16 f17 f18 f19 f20 f21 f46 f47 f48 f49 f50 f51 f52 f53 f54 f55 f56 f57 f58 f59 f60 f61 f62 f63 f64 f65 ds rd I) m Q .normal ⟨[f0, f1, f2, f3, f4, v5, f6, f7, f8, x9, x10, x11, x12, f13, f14, f15, f16, f17, f18, f19, f20, f21, v22, x23, x24, x25, x26, x27, x28, x29, x30, x31, x32, x33, x34, x35, x36, x37, x38, x39, x40, x41, x42, x43, x44, x45, f46, f47, f48, f49, f50, f51, f52, f53, f54, f55, f56, f57, f58, f59, f60, f61, f62, f63, f64, f65], ds, h, rd⟩ :=
 loopQ.again m' hm ⟨_, _, h, _, _, _, _, _, _, _, _, _, _, _, _, _, _, _, _, _, _, _, _, _, _, _, _, _, _, _, rfl, hi⟩
abbrev fn_zlQ : FuncId := 18
def zlQ_l0 : ACode :=
 (.seq (.seq (.region [
 o1 20 (.mov (tm 8)),
 o1 21 (.mov (tm 1)),
 o1 22 (.lenSl (tm 21)),
 o1 23 (.bin .lss (so (.binOp .lss 3 (tm 20) (tm 22) 3) 4) (tm 20) (tm 22))]) (.cond (tm 23)
 .skip
 (.exit 0))) (.seq (.block 1 (.seq (.region [
 o1 26 (.mov (tm 1)),
 o1 27 (.mov (tm 8)),
 o1 28 (.indexSl 5 (tm 26) (tm 27)),
 o1 29 (.load (some 5) (tm 28)),
 o1 9 (.alloc 54 [(.int .u8 0), (.int .u8 0), (.int .u8 0), (.int .u8 0), (.int .i64 0)]),
 o3 (.store 5 (tm 9) (tm 29))]) (.seq (.region [
 o1 31 (.mov (tm 0)),
 o1 32 (.fieldAddr 0 (tm 9)),
 o1 33 (.load (some 4) (tm 32)),
 o1 34 (.callV (.func 34) [(tm 31), (tm 33)]),
 o1 30 (.mov (tm 34)),
 o1 35 (.extract 0 (tm 30)),
 o1 36 (.extract 1 (tm 30)),
 o1 10 (.mov (tm 35)),
 o1 11 (.mov (tm 36))]) (.seq (.block 2 (.seq (.regionD [
 o2 38 (.mov (tm 8)),
 o2 39 (.bin .gtr (so (.binOp .gtr 3 (tm 38) k0 3) 4) (tm 38) k0),
 o2 40 (.mov (tm 39)),
 o4 41 (.mov (tm 1)) 40,
 o4 42 (.mov (tm 8)) 40,
 o4 43 (.bin .sub (so (.binOp .sub 3 (tm 42) (.const (.int .i64 1)) 3) 3) (tm 42) (.const (.int .i64 1))) 40,
 o4 44 (.indexSl 5 (tm 41) (tm 43)) 40,
 o4 45 (.fieldAddr 0 (tm 44)) 40,
 o4 46 (.load (some 4) (tm 45)) 40,
 o4 47 (.fieldAddr 0 (tm 9)) 40,
 o4 48 (.load (some 4) (tm 47)) 40,
 ⟨some 49, .callV (.func 50) [(tm 46), (tm 48)], some (40, true), [], true⟩,
 ⟨some 50, .raw (so (.unOp .not 4 (tm 49)) 4), some (40, true), [], true⟩,
 o2 51 (.pick (tm 40) (tm 50) (.const (.bool false))),
 o2 37 (.mov (tm 51))]) (.cond (tm 37)
 (.seq (.region [
 o1 4 (.mov (.const (.slice none 0 0))),
 o1 5 (.mov (.const (.int .i64 9)))]) .ret)
 (.seq (.region [
 o1 53 (.fieldAddr 4 (tm 9)),
 o1 54 (.load none (tm 53)),
 o1 55 (.bin .lss (so (.binOp .lss 3 (tm 54) k0 3) 4) (tm 54) k0),
 o1 56 (.mov (tm 55)),
 o5 57 (.fieldAddr 4 (tm 9)) 56,
 o5 58 (.load none (tm 57)) 56,
 o5 59 (.bin .gtr (so (.binOp .gtr 3 (tm 58) (.const (.int .i64 4611686018427387904)) 3) 4) (tm 58) (.const (.int .i64 4611686018427387904))) 56,
 o1 60 (.pick (tm 56) (.const (.bool true)) (tm 59)),
 o1 52 (.mov (tm 60))]) (.cond (tm 52)
 (.seq (.region [
 o1 4 (.mov (.const (.slice none 0 0))),
 o1 5 (.mov (.const (.int .i64 3)))]) .ret)
 (.seq (.region [
 o1 62 (.fieldAddr 4 (tm 9)),
 o1 63 (.load none (tm 62)),
 o1 64 (.bin .eql (so (.binOp .eql 3 (tm 63) k0 3) 4) (tm 63) k0),
 o1 65 (.mov (tm 64)),
 o4 66 (.mov (tm 11)) 65,
 o4 67 (.raw (so (.unOp .not 4 (tm 66)) 4)) 65,
 o1 68 (.pick (tm 65) (tm 67) (.const (.bool false))),
 o1 61 (.mov (tm 68))]) (.cond (tm 61)
 (.seq (.region [
 o1 4 (.mov (.const (.slice none 0 0))),
 o1 5 (.mov (.const (.int .i64 10)))]) .ret)
 .skip))))))) (.region [
 o1 69 (.mov (tm 7)),
 o1 70 (.load (some 5) (tm 9)),
 o1 71 (.callV (.func 51) [(tm 69), (tm 70)]),
 o1 7 (.mov (tm 71))]))))) (.region [
 o1 24 (.mov (tm 8)),
 o1 25 (.bin .add (so (.binOp .add 3 (tm 24) (.const (.int .i64 1)) 3) 3) (tm 24) (.const (.int .i64 1))),
 o1 8 (.mov (tm 25))])))
def zlQ_c : ACode :=
 (.seq (.region [
 o1 4 (.mov (.const (.slice none 0 0))),
 o1 5 (.mov k0)]) (.seq (.region [
 o1 12 (.mov (tm 0)),
 o1 13 (.callV (.func 38) [(tm 12)]),
 o1 6 (.mov (tm 13))]) (.seq (.seq (.region [
 o1 14 (.mov (tm 6)),
 o1 15 (.bin .neq (so (.binOp .neq 26 (tm 14) k0 26) 4) (tm 14) k0)]) (.cond (tm 15)
 (.seq (.region [
 o1 16 (.mov (tm 6)),
 o1 4 (.mov (.const (.slice none 0 0))),
 o1 5 (.mov (tm 16))]) .ret)
 .skip)) (.seq (.region [
 o1 17 (.buildSlice 54 [] 0 []),
 o1 18 (.mov (tm 0)),
 o1 19 (.append 54 5 16 [(.int .u8 0), (.int .u8 0), (.int .u8 0), (.int .u8 0), (.int .i64 0)] false (tm 17) (tm 18)),
 o1 7 (.mov (tm 19))]) (.seq (.seq (.region [
 o1 8 (.mov k0)]) (.block 0 (.loop zlQ_l0))) (.seq (.block 3 (.seq (.region [
 o1 73 (.mov (tm 7)),
 o1 74 (.lenSl (tm 73)),
 o1 75 (.bin .eql (so (.binOp .eql 3 (tm 74) k0 3) 4) (tm 74) k0),
 o1 72 (.mov (tm 75))]) (.cond (tm 72)
 (.seq (.region [
 o1 4 (.mov (.const (.slice none 0 0))),
 o1 5 (.mov (.const (.int .i64 6)))]) .ret)
 (.seq (.region [
 o1 77 (.mov (tm 7)),
 o1 78 (.lenSl (tm 77)),
 o1 79 (.bin .gtr (so (.binOp .gtr 3 (tm 78) (.const (.int .i64 64)) 3) 4) (tm 78) (.const (.int .i64 64))),
 o1 76 (.mov (tm 79))]) (.cond (tm 76)
 (.seq (.region [
 o1 4 (.mov (.const (.slice none 0 0))),
 o1 5 (.mov (.const (.int .i64 7)))]) .ret)
 .skip))))) (.seq (.region [
 o1 80 (.mov (tm 7)),
 o1 4 (.mov (tm 80)),
 o1 5 (.mov k0)]) .ret)))))))
def zlQ : AFunc := ⟨81, [(4, none), (5, none)], zlQ_c, none⟩
theorem zlQ_t0 : tableOf Try.prog 18 = some zlQ := by kernel_rfl
theorem zlQ_t : T0 18 = some zlQ := withKept_t rfl (withTrue_t rfl zlQ_t0)
theorem zlQ_runs {v0 v1 : Value} {h : Heap} {R : RP} {X : XP} (k : RunC Try.prog T0 zlQ_c ⟨[v0, v1, U, U, U, U, U, U, U, U, U, U, U, U, U, U, U, U, U, U, U, U, U, U, U, U, U, U, U, U, U, U, U, U, U, U, U, U, U, U, U, U, U, U, U, U, U, U, U, U, U, U, U, U, U, U, U, U, U, U, U, U, U, U, U, U, U, U, U, U, U, U, U, U, U, U, U, U, U, U, U], [], h, none⟩ (bodyQ Try.prog T0 [(4, none), (5, none)] R X)) :
 Runs Try.prog T0 (.fn 18) [v0, v1] h R X := Runs.fn zlQ_t rfl k
def zlQ_l0_J (f0 f1 f2 f3 f6 f12 f13 f14 f15 f16 f17 f18 f19 f72 f73 f74 f75 f76 f77 f78 f79 f80 : Value) (ds : List Deferred) (rd : Option Nat) (I : Nat → Value → Value → Heap → Prop) (m : Nat) (s : St) : Prop := ∃ (v7 v8 : Value), ∃ h : Heap, ∃ (x4 x5 x9 x10 x11 x20 x21 x22 x23 x24 x25 x26 x27 x28 x29 x30 x31 x32 x33 x34 x35 x36 x37 x38 x39 x40 x41 x42 x43 x44 x45 x46 x47 x48 x49 x50 x51 x52 x53 x54 x55 x56 x57 x58 x59 x60 x61 x62 x63 x64 x65 x66 x67 x68 x69 x70 x71 : Value), s = ⟨[f0, f1, f2, f3, x4, x5, f6, v7, v8, x9, x10, x11, f12, f13, f14, f15, f16, f17, f18, f19, x20, x21, x22, x23, x24, x25, x26, x27, x28, x29, x30, x31, x32, x33, x34, x35, x36, x37, x38, x39, x40, x41, x42, x43, x44, x45, x46, x47, x48, x49, x50, x51, x52, x53, x54, x55, x56, x57, x58, x59, x60, x61, x62, x63, x64, x65, x66, x67, x68, x69, x70, x71, f72, f73, f74, f75, f76, f77, f78, f79, f80], ds, h, rd⟩ ∧ I m v7 v8 h
theorem zlQ_l0_rule {f0 f1 f2 f3 f6 f12 f13 f14 f15 f16 f17 f18 f19 f72 f73 f74 f75 f76 f77 f78 f79 f80 : Value} {ds : List Deferred} {rd : Option Nat} {Q : QP} (I : Nat → Value → Value → Heap → Prop) (hb : ∀ (m : Nat) (v7 v8 : Value) (h : Heap) (x4 x5 x9 x10 x11 x20 x21 x22 x23 x24 x25 x26 x27 x28 x29 x30 x31 x32 x33 x34 x35 x36 x37 x38 x39 x40 x41 x42 x43 x44 x45 x46 x47 x48 x49 x50 x51 x52 x53 x54 x55 x56 x57 x58 x59 x60 x61 x62 x63 x64 x65 x66 x67 x68 x69 x70 x71 : Value) , I m v7 v8 h → RunC Try.prog T0 zlQ_l0 ⟨[f0, f1, f2, f3, x4, x5, f6, v7, v8, x9, x10, x11, f12, f13, f14, f15, f16, f17, f18, f19, x20, x21, x22, x23, x24, x25, x26, x27, x28, x29, x30, x31, x32, x33, x34, x35, x36, x37, x38, x39, x40, x41, x42, x43, x44, x45, x46, x47, x48, x49, x50, x51, x52, x53, x54, x55, x56, x57, x58, x59, x60, x61, x62, x63, x64, x65, x66, x67, x68, x69, x70, x71, f72, f73, f74, f75, f76, f77, f78, f79, f80], ds, h, rd⟩ (loopQ (zlQ_l0_J f0 f1 f2 f3 f6 f12 f13 f14 f15 f16 f17 f18 f19 f72 f73 f74 f75 f76 f77 f78 f79 f80 ds rd I) m Q))
 (m : Nat) {v7 v8 : Value} {h : Heap} {x4 x5 x9 x10 x11 x20 x21 x22 x23 x24 x25 x26 x27 x28 x29 x30 x31 x32 x33 x34 x35 x36 x37 x38 x39 x40 x41 x42 x43 x44 x45 x46 x47 x48 x49 x50 x51 x52 x53 x54 x55 x56 x57 x58 x59 x60 x61 x62 x63 x64 x65 x66 x67 x68 x69 x70 x71 : Value} (hi : I m v7 v8 h) : RunC Try.prog T0 (.loop zlQ_l0) ⟨[f0, f1, f2, f3, x4, x5, f6, v7, v8, x9, x10, x11, f12, f13, f14, f15, f16, f17, f18, f19, x20, x21, x22, x23, x24, x25, x26, x27, x28, x29, x30, x31, x32, x33, x34, x35, x36, x37, x38, x39, x40, x41, x42, x43, x44, x45, x46, x47, x48, x49, x50, x51, x52, x53, x54, x55, x56, x57, x58, x59, x60, x61, x62, x63, x64, x65, x66, x67, x68, x69, x70, x71, f72, f73, f74, f75, f76, f77, f78, f79, f80], ds, h, rd⟩ Q :=
 RunC.loopJ (zlQ_l0_J f0 f1 f2 f3 f6 f12 f13 f14 f15 f16 f17 f18 f19 f72 f73 f74 f75 f76 f77 f78 f79 f80 ds rd I) (fun m s hj => by obtain ⟨v7, v8, h, x4, x5, x9, x10, x11, x20, x21, x22, x23, x24, x25, x26, x27, x28, x29, x30, x31, x32, x33, x34, x35, x36, x37, x38, x39, x40, x41, x42, x43, x44, x45, x46, x47, x48, x49, x50, x51, x52, x53, x54, x55, x56, x57, x58, x59, x60, x61, x62, x63, x64, x65, x66, x67, x68, x69, x70, x71, rfl, hi⟩ := hj; exact hb m v7 v8 h x4 x5 x9 x10 x11 x20 x21 x22 x23 x24 x25 x26 x27 x28 x29 x30 x31 x32 x33 x34 x35 x36 x37 x38 x39 x40 x41 x42 x43 x44 x45 x46 x47 x48 x49 x50 x51 x52 x53 x54 x55 x56 x57 x58 x59 x60 x61 x62 x63 x64 x65 x66 x67 x68 x69 x70 x71 hi) m _ ⟨_, _, h, _, _, _, _, _, _, _, _, _, _, _, _, _, _, _, _, _, _, _, _, _, _, _, _, _, _, _, _, _, _, _, _, _, _, _, _, _, _, _, _, _, _, _, _, _, _, _, _, _, _, _, _, _, _, _, _, _, rfl, hi⟩
theorem zlQ_l0_again {f0 f1 f2 f3 f6 f12 f13 f14 f15 f16 f17 f18 f19 f72 f73 f74 f75 f76 f77 f78 f79 f80 : Value} {ds : List Deferred} {rd : Option Nat} {Q : QP} {I : Nat → Value → Value → Heap → Prop} {m : Nat} (m' : Nat) {v7 v8 : Value} {h : Heap} {x4 x5 x9 x10 x11 x20 x21 x22 x23 x24 x25 x26 x27 x28 x29 x30 x31 x32 x33 x34 x35 x36 x37 x38 x39 x40 x41 x42 x43 x44 x45 x46 x47 x48 x49 x50 x51 x52 x53 x54 x55 x56 x57 x58 x59 x60 x61 x62 x63 x64 x65 x66 x67 x68 x69 x70 x71 : Value} (hm : m' < m) (hi : I m' v7 v8 h) : loopQ (zlQ_l0_J f0 f1 f2 f3 f6 f12 f13 f14 f15 f16 f17 f18 f19 f72 f73 f74 f75 f76 f77 f78 f79 f80 ds rd I) m Q .normal ⟨[f0, f1, f2, f3, x4, x5, f6, v7, v8, x9, x10, x11, f12, f13, f14, f15, f16, f17, f18, f19, x20, x21, x22, x23, x24, x25, x26, x27, x28, x29, x30, x31, x32, x33, x34, x35, x36, x37, x38, x39, x40, x41, x42, x43, x44, x45, x46, x47, x48, x49, x50, x51, x52, x53, x54, x55, x56, x57, x58, x59, x60, x61, x62, x63, x64, x65, x66, x67, x68, x69, x70, x71, f72, f73, f74, f75, f76, f77, f78, f79, f80], ds, h, rd⟩ :=
 loopQ.again m' hm ⟨_, _, h, _, _, _, _, _, _, _, _, _, _, _, _, _, _, _, _, _, _, _, _, _, _, _, _, _, _, _, _, _, _, _, _, _, _, _, _, _, _, _, _, _, _, _, _, _, _, _, _, _, _, _, _, _, _, _, _, _, rfl, hi⟩
abbrev fn_zuQ : FuncId := 19
def zuQ_c : ACode :=
 (.seq (.region [
 o1 3 (.box 42 (tm 1)),
 o1 4 (.mov k0),
 o1 5 (.mov (.const (.bool false)))]) (.seq (.seq (.region [
 o1 9 (.mov (tm 0)),
 o1 10 (.callV (.func 22) [(tm 9)]),
 o1 11 (.bin .eql (so (.binOp .eql 26 (tm 10) k0 26) 4) (tm 10) k0)]) (.cond (tm 11)
 (.seq (.region [
 o1 13 (.mov (tm 0)),
 o1 14 (.load (some 4) (tm 3)),
 o1 15 (.callV (.func 52) [(tm 13), (tm 14), (.func 53)]),
 o1 12 (.mov (tm 15)),
 o1 16 (.extract 0 (tm 12)),
 o1 17 (.extract 1 (tm 12)),
 o1 6 (.mov (tm 16)),
 o1 7 (.mov (tm 17))]) (.seq (.seq (.region [
 o1 18 (.mov (tm 7)),
 o1 19 (.raw (so (.unOp .not 4 (tm 18)) 4))]) (.cond (tm 19)
 (.region [
 o1 6 (.mov k0)])
 .skip)) (.seq (.region [
 o1 20 (.mov (tm 6)),
 o1 21 (.mov (tm 7)),
 o1 4 (.mov (tm 20)),
 o1 5 (.mov (tm 21))]) .ret)))
 .skip)) (.seq (.region [
 o1 22 (.mov (tm 0)),
 o1 23 (.mkFunc (.func 55) [] [(tm 3)]),
 o1 24 (.callV (.func 54) [(tm 22), (tm 23)]),
 o1 8 (.mov (tm 24))]) (.seq (.region [
 o1 25 (.mov (tm 8)),
 o1 26 (.raw (so (.call ⟨.builtin .max, #[(tm 25), k0], #[3, 3]⟩) 3)),
 o1 27 (.mov (tm 8)),
 o1 28 (.bin .geq (so (.binOp .geq 3 (tm 27) k0 3) 4) (tm 27) k0),
 o1 4 (.mov (tm 26)),
 o1 5 (.mov (tm 28))]) .ret))))
def zuQ : AFunc := ⟨29, [(4, none), (5, none)], zuQ_c, none⟩
theorem zuQ_t0 : tableOf Try.prog 19 = some zuQ := by kernel_rfl
theorem zuQ_t : T0 19 = some zuQ := withKept_t rfl (withTrue_t rfl zuQ_t0)
theorem zuQ_runs {v0 v1 : Value} {h : Heap} {R : RP} {X : XP} (k : RunC Try.prog T0 zuQ_c ⟨[v0, v1, U, U, U, U, U, U, U, U, U, U, U, U, U, U, U, U, U, U, U, U, U, U, U, U, U, U, U], [], h, none⟩ (bodyQ Try.prog T0 [(4, none), (5, none)] R X)) :
 Runs Try.prog T0 (.fn 19) [v0, v1] h R X := Runs.fn zuQ_t rfl k
abbrev fn_ztQ : FuncId := 22
def ztQ_l0 : ACode :=
 (.seq (.region [
 o1 19 (.bin .lss (so (.binOp .lss 3 (tm 18) (tm 17) 3) 0) (tm 18) (tm 17))]) (.seq (.cond (tm 19)
 .skip
 (.exit 1)) (.seq (.block 2 (.seq (.region [
 o1 20 (.indexSl 5 (tm 16) (tm 18)),
 o1 21 (.load (some 5) (tm 20)),
 o1 5 (.alloc 54 [(.int .u8 0), (.int .u8 0), (.int .u8 0), (.int .u8 0), (.int .i64 0)]),
 o3 (.store 5 (tm 5) (tm 21))]) (.seq (.region [
 o1 22 (.load (some 5) (tm 5)),
 o1 23 (.callV (.func 48) [(tm 3), (tm 22)]),
 o1 6 (.mov (tm 23))]) (.seq (.region [
 o1 24 (.mov (tm 6)),
 o1 25 (.bin .neq (so (.binOp .neq 26 (tm 24) k0 26) 4) (tm 24) k0)]) (.cond (tm 25)
 (.seq (.region [
 o1 26 (.mov (tm 6)),
 o1 2 (.mov (tm 26))]) .ret)
 .skip))))) (.region [
 o1 27 (.bin .add (so (.binOp .add 3 (tm 18) (.const (.int .i64 1)) 3) 3) (tm 18) (.const (.int .i64 1))),
 o1 18 (.mov (tm 27))]))))
def ztQ_c : ACode :=
 (.seq (.region [
 o1 2 (.mov k0)]) (.seq (.block 0 (.seq (.region [
 o1 8 (.mov (tm 0)),
 o1 9 (.lenSl (tm 8)),
 o1 10 (.bin .eql (so (.binOp .eql 3 (tm 9) k0 3) 4) (tm 9) k0),
 o1 7 (.mov (tm 10))]) (.cond (tm 7)
 (.seq (.region [
 o1 2 (.mov (.const (.int .i64 6)))]) .ret)
 (.seq (.region [
 o1 12 (.mov (tm 0)),
 o1 13 (.lenSl (tm 12)),
 o1 14 (.bin .gtr (so (.binOp .gtr 3 (tm 13) (.const (.int .i64 64)) 3) 4) (tm 13) (.const (.int .i64 64))),
 o1 11 (.mov (tm 14))]) (.cond (tm 11)
 (.seq (.region [
 o1 2 (.mov (.const (.int .i64 4)))]) .ret)
 .skip))))) (.seq (.region [
 o1 15 (.build [(.int .u8 0), (.int .u8 0), (.int .u8 0), (.int .u8 0), (.bool false), (.int .i64 0), (.int .i64 0)] [(5, 1, (.const (.int .i64 1))), (6, 1, (.const (.int .i64 4611686018427387904)))]),
 o1 3 (.alloc 76 [(.int .u8 0), (.int .u8 0), (.int .u8 0), (.int .u8 0), (.bool false), (.int .i64 0), (.int .i64 0)]),
 o3 (.store 7 (tm 3) (tm 15))]) (.seq (.seq (.region [
 o1 16 (.mov (tm 0)),
 o1 17 (.lenSl (tm 16)),
 o1 18 (.mov k0)]) (.block 1 (.loop ztQ_l0))) (.seq (.region [
 o1 2 (.mov k0)]) .ret)))))
def ztQ : AFunc := ⟨28, [(2, none)], ztQ_c, none⟩
theorem ztQ_t0 : tableOf Try.prog 22 = some ztQ := by kernel_rfl
theorem ztQ_t : T0 22 = some ztQ := withKept_t rfl (withTrue_t rfl ztQ_t0)
theorem ztQ_runs {v0 : Value} {h : Heap} {R : RP} {X : XP} (k : RunC Try.prog T0 ztQ_c ⟨[v0, U, U, U, U, U, U, U, U, U, U, U, U, U, U, U, U, U, U, U, U, U, U, U, U, U, U, U], [], h, none⟩ (bodyQ Try.prog T0 [(2, none)] R X)) :
 Runs Try.prog T0 (.fn 22) [v0] h R X := Runs.fn ztQ_t rfl k
def ztQ_l0_J (f0 f1 f3 f4 f7 f8 f9 f10 f11 f12 f13 f14 f15 f16 f17 : Value) (ds : List Deferred) (rd : Option Nat) (I : Nat → Value → Heap → Prop) (m : Nat) (s : St) : Prop := ∃ (v18 : Value), ∃ h : Heap, ∃ (x2 x5 x6 x19 x20 x21 x22 x23 x24 x25 x26 x27 : Value), s = ⟨[f0, f1, x2, f3, f4, x5, x6, f7, f8, f9, f10, f11, f12, f13, f14, f15, f16, f17, v18, x19, x20, x21, x22, x23, x24, x25, x26, x27], ds, h, rd⟩ ∧ I m v18 h
theorem ztQ_l0_rule {f0 f1 f3 f4 f7 f8 f9 f10 f11 f12 f13 f14 f15 f16 f17 : Value} {ds : List Deferred} {rd : Option Nat} {Q : QP} (I : Nat → Value → Heap → Prop) (hb : ∀ (m : Nat) (v18 : Value) (h : Heap) (x2 x5 x6 x19 x20 x21 x22 x23 x24 x25 x26 x27 : Value) , I m v18 h → RunC Try.prog T0 ztQ_l0 ⟨[f0, f1, x2, f3, f4, x5, x6, f7, f8, f9, f10, f11, f12, f13, f14, f15, f16, f17, v18, x19, x20, x21, x22, x23, x24, x25, x26, x27], ds, h, rd⟩ (loopQ (ztQ_l0_J f0 f1 f3 f4 f7 f8 f9 f10 f11 f12 f13 f14 f15 f16 f17 ds rd I) m Q))
 (m : Nat) {v18 : Value} {h : Heap} {x2 x5 x6 x19 x20 x21 x22 x23 x24 x25 x26 x27 : Value} (hi : I m v18 h) : RunC Try.prog T0 (.loop ztQ_l0) ⟨[f0, f1, x2, f3, f4, x5, x6, f7, f8, f9, f10, f11, f12, f13, f14, f15, f16, f17, v18, x19, x20, x21, x22, x23, x24, x25, x26, x27], ds, h, rd⟩ Q :=
 RunC.loopJ (ztQ_l0_J f0 f1 f3 f4 f7 f8 f9 f10 f11 f12 f13 f14 f15 f16 f17 ds rd I) (fun m s hj => by obtain ⟨v18, h, x2, x5, x6, x19, x20, x21, x22, x23, x24, x25, x26, x27, rfl, hi⟩ := hj; exact hb m v18 h x2 x5 x6 x19 x20 x21 x22 x23 x24 x25 x26 x27 hi) m _ ⟨_, h, _, _, _, _, _, _, _, _, _, _, _, _, rfl, hi⟩
theorem ztQ_l0_again {f0 f1 f3 f4 f7 f8 f9 f10 f11 f12 f13 f14 f15 f16 f17 : Value} {ds : List Deferred} {rd : Option Nat} {Q : QP} {I : Nat → Value → Heap → Prop} {m : Nat} (m' : Nat) {v18 : Value} {h : Heap} {x2 x5 x6 x19 x20 x21 x22 x23 x24 x25 x26 x27 : Value} (hm : m' < m) (hi : I m' v18 h) : loopQ (ztQ_l0_J f0 f1 f3 f4 f7 f8 f9 f10 f11 f12 f13 f14 f15 f16 f17 ds rd I) m Q .normal ⟨[f0, f1, x2, f3, f4, x5, x6, f7, f8, f9, f10, f11, f12, f13, f14, f15, f16, f17, v18, x19, x20, x21, x22, x23, x24, x25, x26, x27], ds, h, rd⟩ :=
 loopQ.again m' hm ⟨_, h, _, _, _, _, _, _, _, _, _, _, _, _, rfl, hi⟩
abbrev fn_znQ : FuncId := 34
def znQ_l0 : ACode :=
 (.seq (.seq (.region [
 o1 7 (.mov (tm 6)),
 o1 8 (.mov (tm 0)),
 o1 9 (.lenSl (tm 8)),
 o1 10 (.bin .lss (so (.binOp .lss 3 (tm 7) (tm 9) 3) 4) (tm 7) (tm 9))]) (.cond (tm 10)
 .skip
 (.exit 0))) (.seq (.block 1 (.seq (.regionD [
 o1 13 (.mov (tm 0)),
 o1 14 (.mov (tm 6)),
 o1 15 (.indexSl 5 (tm 13) (tm 14)),
 o1 16 (.fieldAddr 0 (tm 15)),
 o1 17 (.load (some 4) (tm 16)),
 o1 18 (.load (some 4) (tm 3)),
 o2 19 (.bin .eql (so (.binOp .eql 42 (tm 17) (tm 18) 42) 4) (tm 17) (tm 18))]) (.cond (tm 19)
 (.seq (.region [
 o1 20 (.mov (tm 6)),
 o1 4 (.mov (tm 20)),
 o1 5 (.mov (.const (.bool true)))]) .ret)
 .skip))) (.region [
 o1 11 (.mov (tm 6)),
 o1 12 (.bin .add (so (.binOp .add 3 (tm 11) (.const (.int .i64 1)) 3) 3) (tm 11) (.const (.int .i64 1))),
 o1 6 (.mov (tm 12))])))
def znQ_c : ACode :=
 (.seq (.region [
 o1 3 (.box 42 (tm 1)),
 o1 4 (.mov k0),
 o1 5 (.mov (.const (.bool false)))]) (.seq (.seq (.region [
 o1 6 (.mov k0)]) (.block 0 (.loop znQ_l0))) (.seq (.region [
 o1 4 (.mov k0),
 o1 5 (.mov (.const (.bool false)))]) .ret)))
def znQ : AFunc := ⟨21, [(4, none), (5, none)], znQ_c, none⟩
theorem znQ_t0 : tableOf Try.prog 34 = some znQ := by kernel_rfl
theorem znQ_t : T0 34 = some znQ := withKept_t rfl (withTrue_t rfl znQ_t0)
theorem znQ_runs {v0 v1 : Value} {h : Heap} {R : RP} {X : XP} (k : RunC Try.prog T0 znQ_c ⟨[v0, v1, U, U, U, U, U, U, U, U, U, U, U, U, U, U, U, U, U, U, U], [], h, none⟩ (bodyQ Try.prog T0 [(4, none), (5, none)] R X)) :
 Runs Try.prog T0 (.fn 34) [v0, v1] h R X := Runs.fn znQ_t rfl k
def znQ_l0_J (f0 f1 f2 f3 : Value) (ds : List Deferred) (rd : Option Nat) (I : Nat → Value → Heap → Prop) (m : Nat) (s : St) : Prop := ∃ (v6 : Value), ∃ h : Heap, ∃ (x4 x5 x7 x8 x9 x10 x11 x12 x13 x14 x15 x16 x17 x18 x19 x20 : Value), s = ⟨[f0, f1, f2, f3, x4, x5, v6, x7, x8, x9, x10, x11, x12, x13, x14, x15, x16, x17, x18, x19, x20], ds, h, rd⟩ ∧ I m v6 h
theorem znQ_l0_rule {f0 f1 f2 f3 : Value} {ds : List Deferred} {rd : Option Nat} {Q : QP} (I : Nat → Value → Heap → Prop) (hb : ∀ (m : Nat) (v6 : Value) (h : Heap) (x4 x5 x7 x8 x9 x10 x11 x12 x13 x14 x15 x16 x17 x18 x19 x20 : Value) , I m v6 h → RunC Try.prog T0 znQ_l0 ⟨[f0, f1, f2, f3, x4, x5, v6, x7, x8, x9, x10, x11, x12, x13, x14, x15, x16, x17, x18, x19, x20], ds, h, rd⟩ (loopQ (znQ_l0_J f0 f1 f2 f3 ds rd I) m Q))
 (m : Nat) {v6 : Value} {h : Heap} {x4 x5 x7 x8 x9 x10 x11 x12 x13 x14 x15 x16 x17 x18 x19 x20 : Value} (hi : I m v6 h) : RunC Try.prog T0 (.loop znQ_l0) ⟨[f0, f1, f2, f3, x4, x5, v6, x7, x8, x9, x10, x11, x12, x13, x14, x15, x16, x17, x18, x19, x20], ds, h, rd⟩ Q :=
 RunC.loopJ (znQ_l0_J f0 f1 f2 f3 ds rd I) (fun m s hj => by obtain ⟨v6, h, x4, x5, x7, x8, x9, x10, x11, x12, x13, x14, x15, x16, x17, x18, x19, x20, rfl, hi⟩ := hj; exact hb m v6 h x4 x5 x7 x8 x9 x10 x11 x12 x13 x14 x15 x16 x17 x18 x19 x20 hi) m _ ⟨_, h, _, _, _, _, _, _, _, _, _, _, _, _, _, _, _, _, rfl, hi⟩
theorem znQ_l0_again {f0 f1 f2 f3 : Value} {ds : List Deferred} {rd : Option Nat} {Q : QP} {I : Nat → Value → Heap → Prop} {m : Nat} (m' : Nat) {v6 : Value} {h : Heap} {x4 x5 x7 x8 x9 x10 x11 x12 x13 x14 x15 x16 x17 x18 x19 x20 : Value} (hm : m' < m) (hi : I m' v6 h) : loopQ (znQ_l0_J f0 f1 f2 f3 ds rd I) m Q .normal ⟨[f0, f1, f2, f3, x4, x5, v6, x7, x8, x9, x10, x11, x12, x13, x14, x15, x16, x17, x18, x19, x20], ds, h, rd⟩ :=
 loopQ.again m' hm ⟨_, h, _, _, _, _, _, _, _, _, _, _, _, _, _, _, _, _, rfl, hi⟩
abbrev fn_zmQ : FuncId := 38
def zmQ_l0 : ACode :=
 (.seq (.seq (.region [
 o1 12 (.mov (tm 3)),
 o1 13 (.mov (tm 0)),
 o1 14 (.lenSl (tm 13)),
 o1 15 (.bin .lss (so (.binOp .lss 3 (tm 12) (tm 14) 3) 4) (tm 12) (tm 14))]) (.cond (tm 15)
 .skip
 (.exit 1))) (.seq (.block 2 (.block 3 (.seq (.regionD [
 o2 19 (.mov (tm 3)),
 o2 20 (.bin .gtr (so (.binOp .gtr 3 (tm 19) k0 3) 4) (tm 19) k0),
 o2 21 (.mov (tm 20)),
 o4 22 (.mov (tm 0)) 21,
 o4 23 (.mov (tm 3)) 21,
 o4 24 (.bin .sub (so (.binOp .sub 3 (tm 23) (.const (.int .i64 1)) 3) 3) (tm 23) (.const (.int .i64 1))) 21,
 o4 25 (.indexSl 5 (tm 22) (tm 24)) 21,
 o4 26 (.fieldAddr 0 (tm 25)) 21,
 o4 27 (.load (some 4) (tm 26)) 21,
 o4 28 (.mov (tm 0)) 21,
 o4 29 (.mov (tm 3)) 21,
 o4 30 (.indexSl 5 (tm 28) (tm 29)) 21,
 o4 31 (.fieldAddr 0 (tm 30)) 21,
 o4 32 (.load (some 4) (tm 31)) 21,
 ⟨some 33, .callV (.func 50) [(tm 27), (tm 32)], some (21, true), [], true⟩,
 ⟨some 34, .raw (so (.unOp .not 4 (tm 33)) 4), some (21, true), [], true⟩,
 o2 35 (.pick (tm 21) (tm 34) (.const (.bool false))),
 o2 18 (.mov (tm 35))]) (.cond (tm 18)
 (.seq (.region [
 o1 2 (.mov (.const (.int .i64 9)))]) .ret)
 (.seq (.region [
 o1 37 (.mov (tm 0)),
 o1 38 (.mov (tm 3)),
 o1 39 (.indexSl 5 (tm 37) (tm 38)),
 o1 40 (.fieldAddr 4 (tm 39)),
 o1 41 (.load none (tm 40)),
 o1 42 (.bin .lss (so (.binOp .lss 3 (tm 41) (.const (.int .i64 1)) 3) 4) (tm 41) (.const (.int .i64 1))),
 o1 43 (.mov (tm 42)),
 o5 44 (.mov (tm 0)) 43,
 o5 45 (.mov (tm 3)) 43,
 o5 46 (.indexSl 5 (tm 44) (tm 45)) 43,
 o5 47 (.fieldAddr 4 (tm 46)) 43,
 o5 48 (.load none (tm 47)) 43,
 o5 49 (.bin .gtr (so (.binOp .gtr 3 (tm 48) (.const (.int .i64 4611686018427387904)) 3) 4) (tm 48) (.const (.int .i64 4611686018427387904))) 43,
 o1 50 (.pick (tm 43) (.const (.bool true)) (tm 49)),
 o1 36 (.mov (tm 50))]) (.cond (tm 36)
 (.seq (.region [
 o1 2 (.mov (.const (.int .i64 3)))]) .ret)
 .skip)))))) (.region [
 o1 16 (.mov (tm 3)),
 o1 17 (.bin .add (so (.binOp .add 3 (tm 16) (.const (.int .i64 1)) 3) 3) (tm 16) (.const (.int .i64 1))),
 o1 3 (.mov (tm 17))])))
def zmQ_c : ACode :=
 (.seq (.region [
 o1 2 (.mov k0)]) (.seq (.block 0 (.seq (.region [
 o1 5 (.mov (tm 0)),
 o1 6 (.lenSl (tm 5)),
 o1 7 (.bin .eql (so (.binOp .eql 3 (tm 6) k0 3) 4) (tm 6) k0),
 o1 4 (.mov (tm 7))]) (.cond (tm 4)
 (.seq (.region [
 o1 2 (.mov (.const (.int .i64 6)))]) .ret)
 (.seq (.region [
 o1 9 (.mov (tm 0)),
 o1 10 (.lenSl (tm 9)),
 o1 11 (.bin .gtr (so (.binOp .gtr 3 (tm 10) (.const (.int .i64 64)) 3) 4) (tm 10) (.const (.int .i64 64))),
 o1 8 (.mov (tm 11))]) (.cond (tm 8)
 (.seq (.region [
 o1 2 (.mov (.const (.int .i64 4)))]) .ret)
 .skip))))) (.seq (.seq (.region [
 o1 3 (.mov k0)]) (.block 1 (.loop zmQ_l0))) (.seq (.region [
 o1 2 (.mov k0)]) .ret))))
def zmQ : AFunc := ⟨51, [(2, none)], zmQ_c, none⟩
theorem zmQ_t0 : tableOf Try.prog 38 = some zmQ := by kernel_rfl
theorem zmQ_t : T0 38 = some zmQ := withKept_t rfl (withTrue_t rfl zmQ_t0)
theorem zmQ_runs {v0 : Value} {h : Heap} {R : RP} {X : XP} (k : RunC Try.prog T0 zmQ_c ⟨[v0, U, U, U, U, U, U, U, U, U, U, U, U, U, U, U, U, U, U, U, U, U, U, U, U, U, U, U, U, U, U, U, U, U, U, U, U, U, U, U, U, U, U, U, U, U, U, U, U, U, U], [], h, none⟩ (bodyQ Try.prog T0 [(2, none)] R X)) :
 Runs Try.prog T0 (.fn 38) [v0] h R X := Runs.fn zmQ_t rfl k
def zmQ_l0_J (f0 f1 f4 f5 f6 f7 f8 f9 f10 f11 : Value) (ds : List Deferred) (rd : Option Nat) (I : Nat → Value → Heap → Prop) (m : Nat) (s : St) : Prop := ∃ (v3 : Value), ∃ h : Heap, ∃ (x2 x12 x13 x14 x15 x16 x17 x18 x19 x20 x21 x22 x23 x24 x25 x26 x27 x28 x29 x30 x31 x32 x33 x34 x35 x36 x37 x38 x39 x40 x41 x42 x43 x44 x45 x46 x47 x48 x49 x50 : Value), s = ⟨[f0, f1, x2, v3, f4, f5, f6, f7, f8, f9, f10, f11, x12, x13, x14, x15, x16, x17, x18, x19, x20, x21, x22, x23, x24, x25, x26, x27, x28, x29, x30, x31, x32, x33, x34, x35, x36, x37, x38, x39, x40, x41, x42, x43, x44, x45, x46, x47, x48, x49, x50], ds, h, rd⟩ ∧ I m v3 h
theorem zmQ_l0_rule {f0 f1 f4 f5 f6 f7 f8 f9 f10 f11 : Value} {ds : List Deferred} {rd : Option Nat} {Q : QP} (I : Nat → Value → Heap → Prop) (hb : ∀ (m : Nat) (v3 : Value) (h : Heap) (x2 x12 x13 x14 x15 x16 x17 x18 x19 x20 x21 x22 x23 x24 x25 x26 x27 x28 x29 x30 x31 x32 x33 x34 x35 x36 x37 x38 x39 x40 x41 x42 x43 x44 x45 x46 x47 x48 x49 x50 : Value) , I m v3 h → RunC Try.prog T0 zmQ_l0 ⟨[f0, f1, x2, v3, f4, f5, f6, f7, f8, f9, f10, f11, x12, x13, x14, x15, x16, x17, x18, x19, x20, x21, x22, x23, x24, x25, x26, x27, x28, x29, x30, x31, x32, x33, x34, x35, x36, x37, x38, x39, x40, x41, x42, x43, x44, x45, x46, x47, x48, x49, x50], ds, h, rd⟩ (loopQ (zmQ_l0_J f0 f1 f4 f5 f6 f7 f8 f9 f10 f11 ds rd I) m Q))
 (m : Nat) {v3 : Value} {h : Heap} {x2 x12 x13 x14 x15 x16 x17 x18 x19 x20 x21 x22 x23 x24 x25 x26 x27 x28 x29 x30 x31 x32 x33 x34 x35 x36 x37 x38 x39 x40 x41 x42 x43 x44 x45 x46 x47 x48 x49 x50 : Value} (hi : I m v3 h) : RunC Try.prog T0 (.loop zmQ_l0) ⟨[f0, f1, x2, v3, f4, f5, f6, f7, f8, f9, f10, f11, x12, x13, x14, x15, x16, x17, x18, x19, x20, x21, x22, x23, x24, x25, x26, x27, x28, x29, x30, x31, x32, x33, x34, x35, x36, x37, x38, x39, x40, x41, x42, x43, x44, x45, x46, x47, x48, x49, x50], ds, h, rd⟩ Q :=
 RunC.loopJ (zmQ_l0_J f0 f1 f4 f5 f6 f7 f8 f9 f10 f11 ds rd I) (fun m s hj => by obtain ⟨v3, h, x2, x12, x13, x14, x15, x16, x17, x18, x19, x20, x21, x22, x23, x24, x25, x26, x27, x28, x29, x30, x31, x32, x33, x34, x35, x36, x37, x38, x39, x40, x41, x42, x43, x44, x45, x46, x47, x48, x49, x50, rfl, hi⟩ := hj; exact hb m v3 h x2 x12 x13 x14 x15 x16 x17 x18 x19 x20 x21 x22 x23 x24 x25 x26 x27 x28 x29 x30 x31 x32 x33 x34 x35 x36 x37 x38 x39 x40 x41 x42 x43 x44 x45 x46 x47 x48 x49 x50 hi) m _ ⟨_, h, _, _, _, _, _, _, _, _, _, _, _, _, _, _, _, _, _, _, _, _, _, _, _, _, _, _, _, _, _, _, _, _, _, _, _, _, _, _, _, _, rfl, hi⟩
theorem zmQ_l0_again {f0 f1 f4 f5 f6 f7 f8 f9 f10 f11 : Value} {ds : List Deferred} {rd : Option Nat} {Q : QP} {I : Nat → Value → Heap → Prop} {m : Nat} (m' : Nat) {v3 : Value} {h : Heap} {x2 x12 x13 x14 x15 x16 x17 x18 x19 x20 x21 x22 x23 x24 x25 x26 x27 x28 x29 x30 x31 x32 x33 x34 x35 x36 x37 x38 x39 x40 x41 x42 x43 x44 x45 x46 x47 x48 x49 x50 : Value} (hm : m' < m) (hi : I m' v3 h) : loopQ (zmQ_l0_J f0 f1 f4 f5 f6 f7 f8 f9 f10 f11 ds rd I) m Q .normal ⟨[f0, f1, x2, v3, f4, f5, f6, f7, f8, f9, f10, f11, x12, x13, x14, x15, x16, x17, x18, x19, x20, x21, x22, x23, x24, x25, x26, x27, x28, x29, x30, x31, x32, x33, x34, x35, x36, x37, x38, x39, x40, x41, x42, x43, x44, x45, x46, x47, x48, x49, x50], ds, h, rd⟩ :=
 loopQ.again m' hm ⟨_, h, _, _, _, _, _, _, _, _, _, _, _, _, _, _, _, _, _, _, _, _, _, _, _, _, _, _, _, _, _, _, _, _, _, _, _, _, _, _, _, _, rfl, hi⟩
abbrev fn_zxQ : FuncId := 48
def zxQ_c : ACode :=
 (.seq (.region [
 o1 3 (.box 54 (tm 1)),
 o1 4 (.mov k0)]) (.seq (.regionD [
 o2 6 (.mov (tm 0)),
 o2 7 (.nilCheck (tm 6)),
 o2 8 (.fieldAddr 4 (tm 7)),
 o2 9 (.load none (tm 8)),
 o2 10 (.mov (tm 9)),
 o4 11 (.mov (tm 0)) 10,
 o4 12 (.nilCheck (tm 11)) 10,
 o4 13 (.fieldAddr 0 (tm 12)) 10,
 o4 14 (.sliceArr 4 1 (tm 13) none none) 10,
 o4 15 (.fieldAddr 0 (tm 3)) 10,
 o4 16 (.sliceArr 4 1 (tm 15) none none) 10,
 ⟨some 17, .callV (.func 79) [(tm 14), (tm 16)], some (10, true), [], true⟩,
 ⟨some 18, .bin .geq (so (.binOp .geq 3 (tm 17) k0 3) 4) (tm 17) k0, some (10, true), [], true⟩,
 o2 19 (.pick (tm 10) (tm 18) (.const (.bool false))),
 o2 5 (.mov (tm 19))]) (.seq (.region [
 o1 20 (.mov (tm 0)),
 o1 21 (.mov (tm 0)),
 o1 22 (.fieldAddr 0 (tm 3)),
 o1 23 (.load (some 4) (tm 22)),
 o1 24 (.nilCheck (tm 20)),
 o1 25 (.fieldAddr 0 (tm 24)),
 o3 (.store 4 (tm 25) (tm 23)),
 o1 26 (.nilCheck (tm 21)),
 o1 27 (.fieldAddr 4 (tm 26)),
 o3 (.store 1 (tm 27) (.const (.bool true)))]) (.seq (.block 0 (.seq (.region [
 o1 29 (.mov (tm 5)),
 o1 28 (.mov (tm 29))]) (.cond (tm 28)
 (.seq (.region [
 o1 4 (.mov (.const (.int .i64 9)))]) .ret)
 (.seq (.regionD [
 o1 31 (.fieldAddr 4 (tm 3)),
 o1 32 (.load none (tm 31)),
 o1 33 (.mov (tm 0)),
 o1 34 (.nilCheck (tm 33)),
 o1 35 (.fieldAddr 5 (tm 34)),
 o1 36 (.load none (tm 35)),
 o2 37 (.bin .lss (so (.binOp .lss 3 (tm 32) (tm 36) 3) 4) (tm 32) (tm 36)),
 o2 38 (.mov (tm 37)),
 o5 39 (.fieldAddr 4 (tm 3)) 38,
 o5 40 (.load none (tm 39)) 38,
 o5 41 (.mov (tm 0)) 38,
 o5 42 (.nilCheck (tm 41)) 38,
 o5 43 (.fieldAddr 6 (tm 42)) 38,
 o5 44 (.load none (tm 43)) 38,
 ⟨some 45, .bin .gtr (so (.binOp .gtr 3 (tm 40) (tm 44) 3) 4) (tm 40) (tm 44), some (38, false), [], true⟩,
 o2 46 (.pick (tm 38) (.const (.bool true)) (tm 45)),
 o2 30 (.mov (tm 46))]) (.cond (tm 30)
 (.seq (.region [
 o1 4 (.mov (.const (.int .i64 3)))]) .ret)
 .skip))))) (.seq (.region [
 o1 4 (.mov k0)]) .ret)))))
def zxQ : AFunc := ⟨47, [(4, none)], zxQ_c, none⟩
theorem zxQ_t0 : tableOf Try.prog 48 = some zxQ := by kernel_rfl
theorem zxQ_t : T0 48 = some zxQ := withKept_t rfl (withTrue_t rfl zxQ_t0)
theorem zxQ_runs {v0 v1 : Value} {h : Heap} {R : RP} {X : XP} (k : RunC Try.prog T0 zxQ_c ⟨[v0, v1, U, U, U, U, U, U, U, U, U, U, U, U, U, U, U, U, U, U, U, U, U, U, U, U, U, U, U, U, U, U, U, U, U, U, U, U, U, U, U, U, U, U, U, U, U], [], h, none⟩ (bodyQ Try.prog T0 [(4, none)] R X)) :
 Runs Try.prog T0 (.fn 48) [v0, v1] h R X := Runs.fn zxQ_t rfl k
abbrev fn_zyQ : FuncId := 49
def zyQ_c : ACode :=
 (.seq (.region [
 o1 2 (.box 25 (tm 0)),
 o1 3 (.box 25 (tm 1)),
 o1 4 (.mov (.const .nilFunc))]) (.seq (.region [
 o1 5 (.mkFunc (.func 80) [] [(tm 3), (tm 2)]),
 o1 4 (.mov (tm 5))]) .ret))
def zyQ : AFunc := ⟨6, [(4, none)], zyQ_c, none⟩
theorem zyQ_t0 : tableOf Try.prog 49 = some zyQ := by kernel_rfl
theorem zyQ_t : T0 49 = some zyQ := withKept_t rfl (withTrue_t rfl zyQ_t0)
theorem zyQ_runs {v0 v1 : Value} {h : Heap} {R : RP} {X : XP} (k : RunC Try.prog T0 zyQ_c ⟨[v0, v1, U, U, U, U], [], h, none⟩ (bodyQ Try.prog T0 [(4, none)] R X)) :
 Runs Try.prog T0 (.fn 49) [v0, v1] h R X := Runs.fn zyQ_t rfl k
abbrev fn_zoQ : FuncId := 50
def zoQ_l0 : ACode :=
 (.seq (.seq (.region [
 o1 6 (.mov (tm 5)),
 o1 7 (.bin .lss (so (.binOp .lss 3 (tm 6) (.const (.int .i64 4)) 3) 4) (tm 6) (.const (.int .i64 4)))]) (.cond (tm 7)
 .skip
 (.exit 0))) (.seq (.block 1 (.seq (.regionD [
 o1 10 (.mov (tm 5)),
 o1 11 (.indexArr 4 1 (tm 2) (tm 10)),
 o1 12 (.load none (tm 11)),
 o1 13 (.mov (tm 5)),
 o1 14 (.indexArr 4 1 (tm 3) (tm 13)),
 o1 15 (.load none (tm 14)),
 o2 16 (.bin .neq (so (.binOp .neq 5 (tm 12) (tm 15) 5) 4) (tm 12) (tm 15))]) (.cond (tm 16)
 (.seq (.regionD [
 o1 17 (.mov (tm 5)),
 o1 18 (.indexArr 4 1 (tm 2) (tm 17)),
 o1 19 (.load none (tm 18)),
 o1 20 (.mov (tm 5)),
 o1 21 (.indexArr 4 1 (tm 3) (tm 20)),
 o1 22 (.load none (tm 21)),
 o2 23 (.bin .lss (so (.binOp .lss 5 (tm 19) (tm 22) 5) 4) (tm 19) (tm 22)),
 o2 4 (.mov (tm 23))]) .ret)
 .skip))) (.region [
 o1 8 (.mov (tm 5)),
 o1 9 (.bin .add (so (.binOp .add 3 (tm 8) (.const (.int .i64 1)) 3) 3) (tm 8) (.const (.int .i64 1))),
 o1 5 (.mov (tm 9))])))
def zoQ_c : ACode :=
 (.seq (.region [
 o1 2 (.box 42 (tm 0)),
 o1 3 (.box 42 (tm 1)),
 o1 4 (.mov (.const (.bool false)))]) (.seq (.seq (.region [
 o1 5 (.mov k0)]) (.block 0 (.loop zoQ_l0))) (.seq (.region [
 o1 4 (.mov (.const (.bool false)))]) .ret)))
def zoQ : AFunc := ⟨24, [(4, none)], zoQ_c, none⟩
theorem zoQ_t0 : tableOf Try.prog 50 = some zoQ := by kernel_rfl
theorem zoQ_t : T0 50 = some zoQ := withKept_t rfl (withTrue_t rfl zoQ_t0)
theorem zoQ_runs {v0 v1 : Value} {h : Heap} {R : RP} {X : XP} (k : RunC Try.prog T0 zoQ_c ⟨[v0, v1, U, U, U, U, U, U, U, U, U, U, U, U, U, U, U, U, U, U, U, U, U, U], [], h, none⟩ (bodyQ Try.prog T0 [(4, none)] R X)) :
 Runs Try.prog T0 (.fn 50) [v0, v1] h R X := Runs.fn zoQ_t rfl k
def zoQ_l0_J (f0 f1 f2 f3 : Value) (ds : List Deferred) (rd : Option Nat) (I : Nat → Value → Heap → Prop) (m : Nat) (s : St) : Prop := ∃ (v5 : Value), ∃ h : Heap, ∃ (x4 x6 x7 x8 x9 x10 x11 x12 x13 x14 x15 x16 x17 x18 x19 x20 x21 x22 x23 : Value), s = ⟨[f0, f1, f2, f3, x4, v5, x6, x7, x8, x9, x10, x11, x12, x13, x14, x15, x16, x17, x18, x19, x20, x21, x22, x23], ds, h, rd⟩ ∧ I m v5 h
theorem zoQ_l0_rule {f0 f1 f2 f3 : Value} {ds : List Deferred} {rd : Option Nat} {Q : QP} (I : Nat → Value → Heap → Prop) (hb : ∀ (m : Nat) (v5 : Value) (h : Heap) (x4 x6 x7 x8 x9 x10 x11 x12 x13 x14 x15 x16 x17 x18 x19 x20 x21 x22 x23 : Value) , I m v5 h → RunC Try.prog T0 zoQ_l0 ⟨[f0, f1, f2, f3, x4, v5, x6, x7, x8, x9, x10, x11, x12, x13, x14, x15, x16, x17, x18, x19, x20, x21, x22, x23], ds, h, rd⟩ (loopQ (zoQ_l0_J f0 f1 f2 f3 ds rd I) m Q))
 (m : Nat) {v5 : Value} {h : Heap} {x4 x6 x7 x8 x9 x10 x11 x12 x13 x14 x15 x16 x17 x18 x19 x20 x21 x22 x23 : Value} (hi : I m v5 h) : RunC Try.prog T0 (.loop zoQ_l0) ⟨[f0, f1, f2, f3, x4, v5, x6, x7, x8, x9, x10, x11, x12, x13, x14, x15, x16, x17, x18, x19, x20, x21, x22, x23], ds, h, rd⟩ Q :=
 RunC.loopJ (zoQ_l0_J f0 f1 f2 f3 ds rd I) (fun m s hj => by obtain ⟨v5, h, x4, x6, x7, x8, x9, x10, x11, x12, x13, x14, x15, x16, x17, x18, x19, x20, x21, x22, x23, rfl, hi⟩ := hj; exact hb m v5 h x4 x6 x7 x8 x9 x10 x11 x12 x13 x14 x15 x16 x17 x18 x19 x20 x21 x22 x23 hi) m _ ⟨_, h, _, _, _, _, _, _, _, _, _, _, _, _, _, _, _, _, _, _, _, rfl, hi⟩
theorem zoQ_l0_again {f0 f1 f2 f3 : Value} {ds : List Deferred} {rd : Option Nat} {Q : QP} {I : Nat → Value → Heap → Prop} {m : Nat} (m' : Nat) {v5 : Value} {h : Heap} {x4 x6 x7 x8 x9 x10 x11 x12 x13 x14 x15 x16 x17 x18 x19 x20 x21 x22 x23 : Value} (hm : m' < m) (hi : I m' v5 h) : loopQ (zoQ_l0_J f0 f1 f2 f3 ds rd I) m Q .normal ⟨[f0, f1, f2, f3, x4, v5, x6, x7, x8, x9, x10, x11, x12, x13, x14, x15, x16, x17, x18, x19, x20, x21, x22, x23], ds, h, rd⟩ :=
 loopQ.again m' hm ⟨_, h, _, _, _, _, _, _, _, _, _, _, _, _, _, _, _, _, _, _, _, rfl, hi⟩
abbrev fn_zpQ : FuncId := 51
def zpQ_l0 : ACode :=
 (.seq (.seq (.region [
 o1 11 (.mov (tm 7)),
 o1 12 (.mov (tm 0)),
 o1 13 (.lenSl (tm 12)),
 o1 14 (.bin .lss (so (.binOp .lss 3 (tm 11) (tm 13) 3) 4) (tm 11) (tm 13))]) (.cond (tm 14)
 .skip
 (.exit 0))) (.seq (.block 1 (.seq (.seq (.regionD [
 o2 17 (.mov (tm 6)),
 o2 18 (.raw (so (.unOp .not 4 (tm 17)) 4)),
 o2 19 (.mov (tm 18)),
 o4 20 (.fieldAddr 0 (tm 3)) 19,
 o4 21 (.load (some 4) (tm 20)) 19,
 o4 22 (.mov (tm 0)) 19,
 o4 23 (.mov (tm 7)) 19,
 o4 24 (.indexSl 5 (tm 22) (tm 23)) 19,
 o4 25 (.fieldAddr 0 (tm 24)) 19,
 o4 26 (.load (some 4) (tm 25)) 19,
 ⟨some 27, .callV (.func 50) [(tm 21), (tm 26)], some (19, true), [], true⟩,
 o2 28 (.pick (tm 19) (tm 27) (.const (.bool false)))]) (.cond (tm 28)
 (.seq (.region [
 o1 29 (.mov (tm 5)),
 o1 30 (.load (some 5) (tm 3)),
 o1 31 (.buildSlice 54 [(.int .u8 0), (.int .u8 0), (.int .u8 0), (.int .u8 0), (.int .i64 0)] 1 [(0, 5, (tm 30))]),
 o1 32 (.append 54 5 16 [(.int .u8 0), (.int .u8 0), (.int .u8 0), (.int .u8 0), (.int .i64 0)] false (tm 29) (tm 31)),
 o1 5 (.mov (tm 32))]) (.region [
 o1 6 (.mov (.const (.bool true)))]))
 .skip)) (.seq (.regionD [
 o1 33 (.mov (tm 0)),
 o1 34 (.mov (tm 7)),
 o1 35 (.indexSl 5 (tm 33) (tm 34)),
 o1 36 (.fieldAddr 0 (tm 35)),
 o1 37 (.load (some 4) (tm 36)),
 o1 38 (.fieldAddr 0 (tm 3)),
 o1 39 (.load (some 4) (tm 38)),
 o2 40 (.bin .neq (so (.binOp .neq 42 (tm 37) (tm 39) 42) 4) (tm 37) (tm 39))]) (.cond (tm 40)
 (.region [
 o1 41 (.mov (tm 5)),
 o1 42 (.mov (tm 0)),
 o1 43 (.mov (tm 7)),
 o1 44 (.indexSl 5 (tm 42) (tm 43)),
 o1 45 (.load (some 5) (tm 44)),
 o1 46 (.buildSlice 54 [(.int .u8 0), (.int .u8 0), (.int .u8 0), (.int .u8 0), (.int .i64 0)] 1 [(0, 5, (tm 45))]),
 o1 47 (.append 54 5 16 [(.int .u8 0), (.int .u8 0), (.int .u8 0), (.int .u8 0), (.int .i64 0)] false (tm 41) (tm 46)),
 o1 5 (.mov (tm 47))])
 .skip)))) (.region [
 o1 15 (.mov (tm 7)),
 o1 16 (.bin .add (so (.binOp .add 3 (tm 15) (.const (.int .i64 1)) 3) 3) (tm 15) (.const (.int .i64 1))),
 o1 7 (.mov (tm 16))])))
def zpQ_c : ACode :=
 (.seq (.region [
 o1 3 (.box 54 (tm 1)),
 o1 4 (.mov (.const (.slice none 0 0)))]) (.seq (.region [
 o1 5 (.mov (.const (.slice none 0 0)))]) (.seq (.region [
 o1 8 (.fieldAddr 4 (tm 3)),
 o1 9 (.load none (tm 8)),
 o1 10 (.bin .eql (so (.binOp .eql 3 (tm 9) k0 3) 4) (tm 9) k0),
 o1 6 (.mov (tm 10))]) (.seq (.seq (.region [
 o1 7 (.mov k0)]) (.block 0 (.loop zpQ_l0))) (.seq (.seq (.region [
 o1 48 (.mov (tm 6)),
 o1 49 (.raw (so (.unOp .not 4 (tm 48)) 4))]) (.cond (tm 49)
 (.region [
 o1 50 (.mov (tm 5)),
 o1 51 (.load (some 5) (tm 3)),
 o1 52 (.buildSlice 54 [(.int .u8 0), (.int .u8 0), (.int .u8 0), (.int .u8 0), (.int .i64 0)] 1 [(0, 5, (tm 51))]),
 o1 53 (.append 54 5 16 [(.int .u8 0), (.int .u8 0), (.int .u8 0), (.int .u8 0), (.int .i64 0)] false (tm 50) (tm 52)),
 o1 5 (.mov (tm 53))])
 .skip)) (.seq (.region [
 o1 54 (.mov (tm 5)),
 o1 4 (.mov (tm 54))]) .ret))))))
def zpQ : AFunc := ⟨55, [(4, none)], zpQ_c, none⟩
theorem zpQ_t0 : tableOf Try.prog 51 = some zpQ := by kernel_rfl
theorem zpQ_t : T0 51 = some zpQ := withKept_t rfl (withTrue_t rfl zpQ_t0)
theorem zpQ_runs {v0 v1 : Value} {h : Heap} {R : RP} {X : XP} (k : RunC Try.prog T0 zpQ_c ⟨[v0, v1, U, U, U, U, U, U, U, U, U, U, U, U, U, U, U, U, U, U, U, U, U, U, U, U, U, U, U, U, U, U, U, U, U, U, U, U, U, U, U, U, U, U, U, U, U, U, U, U, U, U, U, U, U], [], h, none⟩ (bodyQ Try.prog T0 [(4, none)] R X)) :
 Runs Try.prog T0 (.fn 51) [v0, v1] h R X := Runs.fn zpQ_t rfl k
def zpQ_l0_J (f0 f1 f2 f3 f4 f8 f9 f10 f48 f49 f50 f51 f52 f53 f54 : Value) (ds : List Deferred) (rd : Option Nat) (I : Nat → Value → Value → Value → Heap → Prop) (m : Nat) (s : St) : Prop := ∃ (v5 v6 v7 : Value), ∃ h : Heap, ∃ (x11 x12 x13 x14 x15 x16 x17 x18 x19 x20 x21 x22 x23 x24 x25 x26 x27 x28 x29 x30 x31 x32 x33 x34 x35 x36 x37 x38 x39 x40 x41 x42 x43 x44 x45 x46 x47 : Value), s = ⟨[f0, f1, f2, f3, f4, v5, v6, v7, f8, f9, f10, x11, x12, x13, x14, x15, x16, x17, x18, x19, x20, x21, x22, x23, x24, x25, x26, x27, x28, x29, x30, x31, x32, x33, x34, x35, x36, x37, x38, x39, x40, x41, x42, x43, x44, x45, x46, x47, f48, f49, f50, f51, f52, f53, f54], ds, h, rd⟩ ∧ I m v5 v6 v7 h
theorem zpQ_l0_rule {f0 f1 f2 f3 f4 f8 f9 f10 f48 f49 f50 f51 f52 f53 f54 : Value} {ds : List Deferred} {rd : Option Nat} {Q : QP} (I : Nat → Value → Value → Value → Heap → Prop) (hb : ∀ (m : Nat) (v5 v6 v7 : Value) (h : Heap) (x11 x12 x13 x14 x15 x16 x17 x18 x19 x20 x21 x22 x23 x24 x25 x26 x27 x28 x29 x30 x31 x32 x33 x34 x35 x36 x37 x38 x39 x40 x41 x42 x43 x44 x45 x46 x47 : Value) , I m v5 v6 v7 h → RunC Try.prog T0 zpQ_l0 ⟨[f0, f1, f2, f3, f4, v5, v6, v7, f8, f9, f10, x11, x12, x13, x14, x15, x16, x17, x18, x19, x20, x21, x22, x23, x24, x25, x26, x27, x28, x29, x30, x31, x32, x33, x34, x35, x36, x37, x38, x39, x40, x41, x42, x43, x44, x45, x46, x47, f48, f49, f50, f51, f52, f53, f54], ds, h, rd⟩ (loopQ (zpQ_l0_J f0 f1 f2 f3 f4 f8 f9 f10 f48 f49 f50 f51 f52 f53 f54 ds rd I) m Q))
 (m : Nat) {v5 v6 v7 : Value} {h : Heap} {x11 x12 x13 x14 x15 x16 x17 x18 x19 x20 x21 x22 x23 x24 x25 x26 x27 x28 x29 x30 x31 x32 x33 x34 x35 x36 x37 x38 x39 x40 x41 x42 x43 x44 x45 x46 x47 : Value} (hi : I m v5 v6 v7 h) : RunC Try.prog T0 (.loop zpQ_l0) ⟨[f0, f1, f2, f3, f4, v5, v6, v7, f8, f9, f10, x11, x12, x13, x14, x15, x16, x17, x18, x19, x20, x21, x22, x23, x24, x25, x26, x27, x28, x29, x30, x31, x32, x33, x34, x35, x36, x37, x38, x39, x40, x41, x42, x43, x44, x45, x46, x47, f48, f49, f50, f51, f52, f53, f54], ds, h, rd⟩ Q :=
 RunC.loopJ (zpQ_l0_J f0 f1 f2 f3 f4 f8 f9 f10 f48 f49 f50 f51 f52 f53 f54 ds rd I) (fun m s hj => by obtain ⟨v5, v6, v7, h, x11, x12, x13, x14, x15, x16, x17, x18, x19, x20, x21, x22, x23, x24, x25, x26, x27, x28, x29, x30, x31, x32, x33, x34, x35, x36, x37, x38, x39, x40, x41, x42, x43, x44, x45, x46, x47, rfl, hi⟩ := hj; exact hb m v5 v6 v7 h x11 x12 x13 x14 x15 x16 x17 x18 x19 x20 x21 x22 x23 x24 x25 x26 x27 x28 x29 x30 x31 x32 x33 x34 x35 x36 x37 x38 x39 x40 x41 x42 x43 x44 x45 x46 x47 hi) m _ ⟨_, _, _, h, _, _, _, _, _, _, _, _, _, _, _, _, _, _, _, _, _, _, _, _, _, _, _, _, _, _, _, _, _, _, _, _, _, _, _, _, _, rfl, hi⟩
theorem zpQ_l0_again {f0 f1 f2 f3 f4 f8 f9 f10 f48 f49 f50 f51 f52 f53 f54 : Value} {ds : List Deferred} {rd : Option Nat} {Q : QP} {I : Nat → Value → Value → Value → Heap → Prop} {m : Nat} (m' : Nat) {v5 v6 v7 : Value} {h : Heap} {x11 x12 x13 x14 x15 x16 x17 x18 x19 x20 x21 x22 x23 x24 x25 x26 x27 x28 x29 x30 x31 x32 x33 x34 x35 x36 x37 x38 x39 x40 x41 x42 x43 x44 x45 x46 x47 : Value} (hm : m' < m) (hi : I m' v5 v6 v7 h) : loopQ (zpQ_l0_J f0 f1 f2 f3 f4 f8 f9 f10 f48 f49 f50 f51 f52 f53 f54 ds rd I) m Q .normal ⟨[f0, f1, f2, f3, f4, v5, v6, v7, f8, f9, f10, x11, x12, x13, x14, x15, x16, x17, x18, x19, x20, x21, x22, x23, x24, x25, x26, x27, x28, x29, x30, x31, x32, x33, x34, x35, x36, x37, x38, x39, x40, x41, x42, x43, x44, x45, x46, x47, f48, f49, f50, f51, f52, f53, f54], ds, h, rd⟩ :=
 loopQ.again m' hm ⟨_, _, _, h, _, _, _, _, _, _, _, _, _, _, _, _, _, _, _, _, _, _, _, _, _, _, _, _, _, _, _, _, _, _, _, _, _, _, _, _, _, rfl, hi⟩
abbrev fn_zqQ : FuncId := 52
def zqQ_l0 : ACode :=
 (.seq (.seq (.region [
 o1 15 (.mov (tm 9)),
 o1 16 (.mov (tm 10)),
 o1 17 (.bin .lss (so (.binOp .lss 3 (tm 15) (tm 16) 3) 4) (tm 15) (tm 16))]) (.cond (tm 17)
 .skip
 (.exit 0))) (.block 1 (.seq (.region [
 o1 18 (.mov (tm 9)),
 o1 19 (.mov (tm 10)),
 o1 20 (.bin .add (so (.binOp .add 3 (tm 18) (tm 19) 3) 3) (tm 18) (tm 19)),
 o1 21 (.conv .u64 (so (.convert 3 115 (tm 20)) 115) (tm 20)),
 o1 22 (.bin .shr (so (.binOp .shr 115 (tm 21) (.const (.int .u64 1)) 115) 115) (tm 21) (.const (.int .u64 1))),
 o1 23 (.conv .i64 (so (.convert 115 3 (tm 22)) 3) (tm 22)),
 o1 11 (.mov (tm 23))]) (.seq (.regionD [
 o1 24 (.mov (tm 2)),
 o1 25 (.mov (tm 0)),
 o1 26 (.mov (tm 11)),
 o1 27 (.indexSl 5 (tm 25) (tm 26)),
 o1 28 (.load (some 5) (tm 27)),
 o1 29 (.load (some 4) (tm 4)),
 o2 30 (.callV (tm 24) [(tm 28), (tm 29)]),
 o2 31 (.bin .lss (so (.binOp .lss 3 (tm 30) k0 3) 4) (tm 30) k0)]) (.cond (tm 31)
 (.region [
 o1 32 (.mov (tm 11)),
 o1 33 (.bin .add (so (.binOp .add 3 (tm 32) (.const (.int .i64 1)) 3) 3) (tm 32) (.const (.int .i64 1))),
 o1 9 (.mov (tm 33))])
 (.region [
 o1 34 (.mov (tm 11)),
 o1 10 (.mov (tm 34))]))))))
def zqQ_c : ACode :=
 (.seq (.region [
 o1 4 (.box 42 (tm 1)),
 o1 6 (.mov k0),
 o1 7 (.mov (.const (.bool false)))]) (.seq (.region [
 o1 12 (.mov (tm 0)),
 o1 13 (.lenSl (tm 12)),
 o1 8 (.mov (tm 13))]) (.seq (.region [
 o1 14 (.mov (tm 8)),
 o1 9 (.mov k0),
 o1 10 (.mov (tm 14))]) (.seq (.block 0 (.loop zqQ_l0)) (.seq (.regionD [
 o1 35 (.mov (tm 9)),
 o1 36 (.mov (tm 9)),
 o1 37 (.mov (tm 8)),
 o1 38 (.bin .lss (so (.binOp .lss 3 (tm 36) (tm 37) 3) 4) (tm 36) (tm 37)),
 o1 39 (.mov (tm 38)),
 o4 40 (.mov (tm 2)) 39,
 o4 41 (.mov (tm 0)) 39,
 o4 42 (.mov (tm 9)) 39,
 o4 43 (.indexSl 5 (tm 41) (tm 42)) 39,
 o4 44 (.load (some 5) (tm 43)) 39,
 o4 45 (.load (some 4) (tm 4)) 39,
 ⟨some 46, .callV (tm 40) [(tm 44), (tm 45)], some (39, true), [(some 35, .mov (tm 9), none)], false⟩,
 o4 47 (.bin .eql (so (.binOp .eql 3 (tm 46) k0 3) 4) (tm 46) k0) 39,
 o1 48 (.pick (tm 39) (tm 47) (.const (.bool false))),
 o1 6 (.mov (tm 35)),
 o2 7 (.mov (tm 48))]) .ret)))))
def zqQ : AFunc := ⟨49, [(6, none), (7, none)], zqQ_c, none⟩
theorem zqQ_t0 : tableOf Try.prog 52 = some zqQ := by kernel_rfl
theorem zqQ_t : T0 52 = some zqQ := withKept_t rfl (withTrue_t rfl zqQ_t0)
theorem zqQ_runs {v0 v1 v2 : Value} {h : Heap} {R : RP} {X : XP} (k : RunC Try.prog T0 zqQ_c ⟨[v0, v1, v2, U, U, U, U, U, U, U, U, U, U, U, U, U, U, U, U, U, U, U, U, U, U, U, U, U, U, U, U, U, U, U, U, U, U, U, U, U, U, U, U, U, U, U, U, U, U], [], h, none⟩ (bodyQ Try.prog T0 [(6, none), (7, none)] R X)) :
 Runs Try.prog T0 (.fn 52) [v0, v1, v2] h R X := Runs.fn zqQ_t rfl k
def zqQ_l0_J (f0 f1 f2 f3 f4 f5 f6 f7 f8 f12 f13 f14 f35 f36 f37 f38 f39 f40 f41 f42 f43 f44 f45 f46 f47 f48 : Value) (ds : List Deferred) (rd : Option Nat) (I : Nat → Value → Value → Heap → Prop) (m : Nat) (s : St) : Prop := ∃ (v9 v10 : Value), ∃ h : Heap, ∃ (x11 x15 x16 x17 x18 x19 x20 x21 x22 x23 x24 x25 x26 x27 x28 x29 x30 x31 x32 x33 x34 : Value), s = ⟨[f0, f1, f2, f3, f4, f5, f6, f7, f8, v9, v10, x11, f12, f13, f14, x15, x16, x17, x18, x19, x20, x21, x22, x23, x24, x25, x26, x27, x28, x29, x30, x31, x32, x33, x34, f35, f36, f37, f38, f39, f40, f41, f42, f43, f44, f45, f46, f47, f48], ds, h, rd⟩ ∧ I m v9 v10 h
theorem zqQ_l0_rule {f0 f1 f2 f3 f4 f5 f6 f7 f8 f12 f13 f14 f35 f36 f37 f38 f39 f40 f41 f42 f43 f44 f45 f46 f47 f48 : Value} {ds : List Deferred} {rd : Option Nat} {Q : QP} (I : Nat → Value → Value → Heap → Prop) (hb : ∀ (m : Nat) (v9 v10 : Value) (h : Heap) (x11 x15 x16 x17 x18 x19 x20 x21 x22 x23 x24 x25 x26 x27 x28 x29 x30 x31 x32 x33 x34 : Value) , I m v9 v10 h → RunC Try.prog T0 zqQ_l0 ⟨[f0, f1, f2, f3, f4, f5, f6, f7, f8, v9, v10, x11, f12, f13, f14, x15, x16, x17, x18, x19, x20, x21, x22, x23, x24, x25, x26, x27, x28, x29, x30, x31, x32, x33, x34, f35, f36, f37, f38, f39, f40, f41, f42, f43, f44, f45, f46, f47, f48], ds, h, rd⟩ (loopQ (zqQ_l0_J f0 f1 f2 f3 f4 f5 f6 f7 f8 f12 f13 f14 f35 f36 f37 f38 f39 f40 f41 f42 f43 f44 f45 f46 f47 f48 ds rd I) m Q))
 (m : Nat) {v9 v10 : Value} {h : Heap} {x11 x15 x16 x17 x18 x19 x20 x21 x22 x23 x24 x25 x26 x27 x28 x29 x30 x31 x32 x33 x34 : Value} (hi : I m v9 v10 h) : RunC Try.prog T0 (.loop zqQ_l0) ⟨[f0, f1, f2, f3, f4, f5, f6, f7, f8, v9, v10, x11, f12, f13, f14, x15, x16, x17, x18, x19, x20, x21, x22, x23, x24, x25, x26, x27, x28, x29, x30, x31, x32, x33, x34, f35, f36, f37, f38, f39, f40, f41, f42, f43, f44, f45, f46, f47, f48], ds, h, rd⟩ Q :=
 RunC.loopJ (zqQ_l0_J f0 f1 f2 f3 f4 f5 f6 f7 f8 f12 f13 f14 f35 f36 f37 f38 f39 f40 f41 f42 f43 f44 f45 f46 f47 f48 ds rd I) (fun m s hj => by obtain ⟨v9, v10, h, x11, x15, x16, x17, x18, x19, x20, x21, x22, x23, x24, x25, x26, x27, x28, x29, x30, x31, x32, x33, x34, rfl, hi⟩ := hj; exact hb m v9 v10 h x11 x15 x16 x17 x18 x19 x20 x21 x22 x23 x24 x25 x26 x27 x28 x29 x30 x31 x32 x33 x34 hi) m _ ⟨_, _, h, _, _, _, _, _, _, _, _, _, _, _, _, _, _, _, _, _, _, _, _, _, rfl, hi⟩
theorem zqQ_l0_again {f0 f1 f2 f3 f4 f5 f6 f7 f8 f12 f13 f14 f35 f36 f37 f38 f39 f40 f41 f42 f43 f44 f45 f46 f47 f48 : Value} {ds : List Deferred} {rd : Option Nat} {Q : QP} {I : Nat → Value → Value → Heap → Prop} {m : Nat} (m' : Nat) {v9 v10 : Value} {h : Heap} {x11 x15 x16 x17 x18 x19 x20 x21 x22 x23 x24 x25 x26 x27 x28 x29 x30 x31 x32 x33 x34 : Value} (hm : m' < m) (hi : I m' v9 v10 h) : loopQ (zqQ_l0_J f0 f1 f2 f3 f4 f5 f6 f7 f8 f12 f13 f14 f35 f36 f37 f38 f39 f40 f41 f42 f43 f44 f45 f46 f47 f48 ds rd I) m Q .normal ⟨[f0, f1, f2, f3, f4, f5, f6, f7, f8, v9, v10, x11, f12, f13, f14, x15, x16, x17, x18, x19, x20, x21, x22, x23, x24, x25, x26, x27, x28, x29, x30, x31, x32, x33, x34, f35, f36, f37, f38, f39, f40, f41, f42, f43, f44, f45, f46, f47, f48], ds, h, rd⟩ :=
 loopQ.again m' hm ⟨_, _, h, _, _, _, _, _, _, _, _, _, _, _, _, _, _, _, _, _, _, _, _, _, rfl, hi⟩
abbrev fn_zwQ : FuncId := 53
def zwQ_c : ACode :=
 (.seq (.region [
 o1 2 (.box 54 (tm 0)),
 o1 3 (.box 42 (tm 1)),
 o1 4 (.mov k0)]) (.seq (.regionD [
 o1 5 (.fieldAddr 0 (tm 2)),
 o1 6 (.sliceArr 4 1 (tm 5) none none),
 o1 7 (.sliceArr 4 1 (tm 3) none none),
 o2 8 (.callV (.func 79) [(tm 6), (tm 7)]),
 o2 4 (.mov (tm 8))]) .ret))
def zwQ : AFunc := ⟨9, [(4, none)], zwQ_c, none⟩
theorem zwQ_t0 : tableOf Try.prog 53 = some zwQ := by kernel_rfl
theorem zwQ_t : T0 53 = some zwQ := withKept_t rfl (withTrue_t rfl zwQ_t0)
theorem zwQ_runs {v0 v1 : Value} {h : Heap} {R : RP} {X : XP} (k : RunC Try.prog T0 zwQ_c ⟨[v0, v1, U, U, U, U, U, U, U], [], h, none⟩ (bodyQ Try.prog T0 [(4, none)] R X)) :
 Runs Try.prog T0 (.fn 53) [v0, v1] h R X := Runs.fn zwQ_t rfl k
abbrev fn_zrQ : FuncId := 54
def zrQ_l0 : ACode :=
 (.seq (.region [
 o1 9 (.bin .lss (so (.binOp .lss 3 (tm 8) (tm 7) 3) 0) (tm 8) (tm 7))]) (.seq (.cond (tm 9)
 .skip
 (.exit 0)) (.seq (.block 1 (.seq (.region [
 o1 10 (.mov (tm 8)),
 o1 5 (.mov (tm 10))]) (.seq (.region [
 o1 11 (.mov (tm 1)),
 o1 12 (.mov (tm 0)),
 o1 13 (.mov (tm 5)),
 o1 14 (.indexSl 5 (tm 12) (tm 13)),
 o1 15 (.load (some 5) (tm 14)),
 o1 16 (.callV (tm 11) [(tm 15)])]) (.cond (tm 16)
 (.seq (.region [
 o1 17 (.mov (tm 5)),
 o1 4 (.mov (tm 17))]) .ret)
 .skip)))) (.region [
 o1 18 (.bin .add (so (.binOp .add 3 (tm 8) (.const (.int .i64 1)) 3) 3) (tm 8) (.const (.int .i64 1))),
 o1 8 (.mov (tm 18))]))))
def zrQ_c : ACode :=
 (.seq (.region [
 o1 4 (.mov k0)]) (.seq (.seq (.region [
 o1 6 (.mov (tm 0)),
 o1 7 (.lenSl (tm 6)),
 o1 8 (.mov k0)]) (.block 0 (.loop zrQ_l0))) (.seq (.region [
 o1 4 (.mov (.const (.int .i64 (-1))))]) .ret)))
def zrQ : AFunc := ⟨19, [(4, none)], zrQ_c, none⟩
theorem zrQ_t0 : tableOf Try.prog 54 = some zrQ := by kernel_rfl
theorem zrQ_t : T0 54 = some zrQ := withKept_t rfl (withTrue_t rfl zrQ_t0)
theorem zrQ_runs {v0 v1 : Value} {h : Heap} {R : RP} {X : XP} (k : RunC Try.prog T0 zrQ_c ⟨[v0, v1, U, U, U, U, U, U, U, U, U, U, U, U, U, U, U, U, U], [], h, none⟩ (bodyQ Try.prog T0 [(4, none)] R X)) :
 Runs Try.prog T0 (.fn 54) [v0, v1] h R X := Runs.fn zrQ_t rfl k
def zrQ_l0_J (f0 f1 f2 f3 f6 f7 : Value) (ds : List Deferred) (rd : Option Nat) (I : Nat → Value → Heap → Prop) (m : Nat) (s : St) : Prop := ∃ (v8 : Value), ∃ h : Heap, ∃ (x4 x5 x9 x10 x11 x12 x13 x14 x15 x16 x17 x18 : Value), s = ⟨[f0, f1, f2, f3, x4, x5, f6, f7, v8, x9, x10, x11, x12, x13, x14, x15, x16, x17, x18], ds, h, rd⟩ ∧ I m v8 h
theorem zrQ_l0_rule {f0 f1 f2 f3 f6 f7 : Value} {ds : List Deferred} {rd : Option Nat} {Q : QP} (I : Nat → Value → Heap → Prop) (hb : ∀ (m : Nat) (v8 : Value) (h : Heap) (x4 x5 x9 x10 x11 x12 x13 x14 x15 x16 x17 x18 : Value) , I m v8 h → RunC Try.prog T0 zrQ_l0 ⟨[f0, f1, f2, f3, x4, x5, f6, f7, v8, x9, x10, x11, x12, x13, x14, x15, x16, x17, x18], ds, h, rd⟩ (loopQ (zrQ_l0_J f0 f1 f2 f3 f6 f7 ds rd I) m Q))
 (m : Nat) {v8 : Value} {h : Heap} {x4 x5 x9 x10 x11 x12 x13 x14 x15 x16 x17 x18 : Value} (hi : I m v8 h) : RunC Try.prog T0 (.loop zrQ_l0) ⟨[f0, f1, f2, f3, x4, x5, f6, f7, v8, x9, x10, x11, x12, x13, x14, x15, x16, x17, x18], ds, h, rd⟩ Q :=
 RunC.loopJ (zrQ_l0_J f0 f1 f2 f3 f6 f7 ds rd I) (fun m s hj => by obtain ⟨v8, h, x4, x5, x9, x10, x11, x12, x13, x14, x15, x16, x17, x18, rfl, hi⟩ := hj; exact hb m v8 h x4 x5 x9 x10 x11 x12 x13 x14 x15 x16 x17 x18 hi) m _ ⟨_, h, _, _, _, _, _, _, _, _, _, _, _, _, rfl, hi⟩
theorem zrQ_l0_again {f0 f1 f2 f3 f6 f7 : Value} {ds : List Deferred} {rd : Option Nat} {Q : QP} {I : Nat → Value → Heap → Prop} {m : Nat} (m' : Nat) {v8 : Value} {h : Heap} {x4 x5 x9 x10 x11 x12 x13 x14 x15 x16 x17 x18 : Value} (hm : m' < m) (hi : I m' v8 h) : loopQ (zrQ_l0_J f0 f1 f2 f3 f6 f7 ds rd I) m Q .normal ⟨[f0, f1, f2, f3, x4, x5, f6, f7, v8, x9, x10, x11, x12, x13, x14, x15, x16, x17, x18], ds, h, rd⟩ :=
 loopQ.again m' hm ⟨_, h, _, _, _, _, _, _, _, _, _, _, _, _, rfl, hi⟩
abbrev fn_zvQ : FuncId := 55
def zvQ_c : ACode :=
 (.seq (.region [
 o1 2 (.box 54 (tm 0)),
 o1 3 (.mov (.const (.bool false)))]) (.seq (.region [
 o1 4 (.fieldAddr 0 (tm 2)),
 o1 5 (.load (some 4) (tm 4)),
 o1 6 (.load (some 4) (tm 1)),
 o1 7 (.bin .eql (so (.binOp .eql 42 (tm 5) (tm 6) 42) 4) (tm 5) (tm 6)),
 o1 3 (.mov (tm 7))]) .ret))
def zvQ : AFunc := ⟨8, [(3, none)], zvQ_c, none⟩
theorem zvQ_t0 : tableOf Try.prog 55 = some zvQ := by kernel_rfl
theorem zvQ_t : T0 55 = some zvQ := withKept_t rfl (withTrue_t rfl zvQ_t0)
theorem zvQ_runs {v0 v1 : Value} {h : Heap} {R : RP} {X : XP} (k : RunC Try.prog T0 zvQ_c ⟨[v0, v1, U, U, U, U, U, U], [], h, none⟩ (bodyQ Try.prog T0 [(3, none)] R X)) :
 Runs Try.prog T0 (.fn 55) [v0, v1] h R X := Runs.fn zvQ_t rfl k
abbrev fn_zaQ : FuncId := 79
def zaQ_c : ACode :=
 (.seq (.region [
 o1 4 (.mov k0)]) (.seq (.region [
 o1 5 (.mov (tm 0)),
 o1 6 (.mov (tm 1)),
 o1 7 (.ext .compare (.func 99) [(tm 5), (tm 6)]),
 o1 4 (.mov (tm 7))]) .ret))
def zaQ : AFunc := ⟨8, [(4, none)], zaQ_c, none⟩
theorem zaQ_t0 : tableOf Try.prog 79 = some zaQ := by kernel_rfl
theorem zaQ_t : T0 79 = some zaQ := withKept_t rfl (withTrue_t rfl zaQ_t0)
theorem zaQ_runs {v0 v1 : Value} {h : Heap} {R : RP} {X : XP} (k : RunC Try.prog T0 zaQ_c ⟨[v0, v1, U, U, U, U, U, U], [], h, none⟩ (bodyQ Try.prog T0 [(4, none)] R X)) :
 Runs Try.prog T0 (.fn 79) [v0, v1] h R X := Runs.fn zaQ_t rfl k
abbrev fn_zzQ : FuncId := 80
def zzQ_l0 : ACode :=
 (.seq (.seq (.regionD [
 o2 14 (.load none (tm 2)),
 o2 15 (.lenSl (tm 14)),
 o2 16 (.bin .gtr (so (.binOp .gtr 3 (tm 15) k0 3) 4) (tm 15) k0),
 o2 17 (.mov (tm 16)),
 o4 18 (.load none (tm 2)) 17,
 o4 19 (.indexSl 5 (tm 18) k0) 17,
 o4 20 (.load (some 5) (tm 19)) 17,
 o4 21 (.fieldAddr 0 (tm 5)) 17,
 o4 22 (.load (some 4) (tm 21)) 17,
 ⟨some 23, .callV (.func 53) [(tm 20), (tm 22)], some (17, true), [], true⟩,
 ⟨some 24, .bin .lss (so (.binOp .lss 3 (tm 23) k0 3) 4) (tm 23) k0, some (17, true), [], true⟩,
 o2 25 (.pick (tm 17) (tm 24) (.const (.bool false)))]) (.cond (tm 25)
 .skip
 (.exit 2))) (.block 3 (.seq (.seq (.region [
 o1 26 (.mov (tm 0)),
 o1 27 (.load none (tm 2)),
 o1 28 (.indexSl 5 (tm 27) k0),
 o1 29 (.load (some 5) (tm 28)),
 o1 30 (.callV (tm 26) [(tm 29)]),
 o1 31 (.raw (so (.unOp .not 4 (tm 30)) 4))]) (.cond (tm 31)
 .ret
 .skip)) (.region [
 o1 32 (.load none (tm 2)),
 o1 33 (.sliceSl 5 (tm 32) (some (.const (.int .i64 1))) none none),
 o3 (.store 1 (tm 2) (tm 33))]))))
def zzQ_l1 : ACode :=
 (.seq (.region [
 o1 11 (.bin .lss (so (.binOp .lss 3 (tm 10) (tm 9) 3) 0) (tm 10) (tm 9))]) (.seq (.cond (tm 11)
 .skip
 (.exit 0)) (.seq (.block 1 (.seq (.region [
 o1 12 (.indexSl 5 (tm 8) (tm 10)),
 o1 13 (.load (some 5) (tm 12)),
 o1 5 (.alloc 54 [(.int .u8 0), (.int .u8 0), (.int .u8 0), (.int .u8 0), (.int .i64 0)]),
 o3 (.store 5 (tm 5) (tm 13))]) (.seq (.block 2 (.loop zzQ_l0)) (.seq (.seq (.regionD [
 o2 34 (.load none (tm 2)),
 o2 35 (.lenSl (tm 34)),
 o2 36 (.bin .gtr (so (.binOp .gtr 3 (tm 35) k0 3) 4) (tm 35) k0),
 o2 37 (.mov (tm 36)),
 o4 38 (.load none (tm 2)) 37,
 o4 39 (.indexSl 5 (tm 38) k0) 37,
 o4 40 (.fieldAddr 0 (tm 39)) 37,
 o4 41 (.load (some 4) (tm 40)) 37,
 o4 42 (.fieldAddr 0 (tm 5)) 37,
 o4 43 (.load (some 4) (tm 42)) 37,
 ⟨some 44, .bin .eql (so (.binOp .eql 42 (tm 41) (tm 43) 42) 4) (tm 41) (tm 43), some (37, true), [], true⟩,
 o2 45 (.pick (tm 37) (tm 44) (.const (.bool false)))]) (.cond (tm 45)
 (.region [
 o1 46 (.load none (tm 2)),
 o1 47 (.sliceSl 5 (tm 46) (some (.const (.int .i64 1))) none none),
 o3 (.store 1 (tm 2) (tm 47))])
 .skip)) (.seq (.region [
 o1 48 (.mov (tm 0)),
 o1 49 (.load (some 5) (tm 5)),
 o1 50 (.callV (tm 48) [(tm 49)]),
 o1 51 (.raw (so (.unOp .not 4 (tm 50)) 4))]) (.cond (tm 51)
 .ret
 .skip)))))) (.region [
 o1 52 (.bin .add (so (.binOp .add 3 (tm 10) (.const (.int .i64 1)) 3) 3) (tm 10) (.const (.int .i64 1))),
 o1 10 (.mov (tm 52))]))))
def zzQ_l2 : ACode :=
 (.seq (.region [
 o1 56 (.bin .lss (so (.binOp .lss 3 (tm 55) (tm 54) 3) 0) (tm 55) (tm 54))]) (.seq (.cond (tm 56)
 .skip
 (.exit 4)) (.seq (.block 5 (.seq (.region [
 o1 57 (.indexSl 5 (tm 53) (tm 55)),
 o1 58 (.load (some 5) (tm 57)),
 o1 7 (.alloc 54 [(.int .u8 0), (.int .u8 0), (.int .u8 0), (.int .u8 0), (.int .i64 0)]),
 o3 (.store 5 (tm 7) (tm 58))]) (.seq (.region [
 o1 59 (.mov (tm 0)),
 o1 60 (.load (some 5) (tm 7)),
 o1 61 (.callV (tm 59) [(tm 60)]),
 o1 62 (.raw (so (.unOp .not 4 (tm 61)) 4))]) (.cond (tm 62)
 .ret
 .skip)))) (.region [
 o1 63 (.bin .add (so (.binOp .add 3 (tm 55) (.const (.int .i64 1)) 3) 3) (tm 55) (.const (.int .i64 1))),
 o1 55 (.mov (tm 63))]))))
def zzQ_c : ACode :=
 (.seq (.seq (.region [
 o1 8 (.load none (tm 1)),
 o1 9 (.lenSl (tm 8)),
 o1 10 (.mov k0)]) (.block 0 (.loop zzQ_l1))) (.seq (.region [
 o1 53 (.load none (tm 2)),
 o1 54 (.lenSl (tm 53)),
 o1 55 (.mov k0)]) (.block 4 (.loop zzQ_l2))))
def zzQ : AFunc := ⟨64, [], zzQ_c, none⟩
theorem zzQ_t0 : tableOf Try.prog 80 = some zzQ := by kernel_rfl
theorem zzQ_t : T0 80 = some zzQ := withKept_t rfl (withTrue_t rfl zzQ_t0)
theorem zzQ_runs {v0 v1 v2 : Value} {h : Heap} {R : RP} {X : XP} (k : RunC Try.prog T0 zzQ_c ⟨[v0, v1, v2, U, U, U, U, U, U, U, U, U, U, U, U, U, U, U, U, U, U, U, U, U, U, U, U, U, U, U, U, U, U, U, U, U, U, U, U, U, U, U, U, U, U, U, U, U, U, U, U, U, U, U, U, U, U, U, U, U, U, U, U, U], [], h, none⟩ (bodyQ Try.prog T0 [] R X)) :
 Runs Try.prog T0 (.fn 80) [v0, v1, v2] h R X := Runs.fn zzQ_t rfl k
def zzQ_l0_J (f0 f1 f2 f3 f4 f5 f6 f7 f8 f9 f10 f11 f12 f13 f34 f35 f36 f37 f38 f39 f40 f41 f42 f43 f44 f45 f46 f47 f48 f49 f50 f51 f52 f53 f54 f55 f56 f57 f58 f59 f60 f61 f62 f63 : Value) (ds : List Deferred) (rd : Option Nat) (I : Nat → Heap → Prop) (m : Nat) (s : St) : Prop := ∃ h : Heap, ∃ (x14 x15 x16 x17 x18 x19 x20 x21 x22 x23 x24 x25 x26 x27 x28 x29 x30 x31 x32 x33 : Value), s = ⟨[f0, f1, f2, f3, f4, f5, f6, f7, f8, f9, f10, f11, f12, f13, x14, x15, x16, x17, x18, x19, x20, x21, x22, x23, x24, x25, x26, x27, x28, x29, x30, x31, x32, x33, f34, f35, f36, f37, f38, f39, f40, f41, f42, f43, f44, f45, f46, f47, f48, f49, f50, f51, f52, f53, f54, f55, f56, f57, f58, f59, f60, f61, f62, f63], ds, h, rd⟩ ∧ I m  h
theorem zzQ_l0_rule {f0 f1 f2 f3 f4 f5 f6 f7 f8 f9 f10 f11 f12 f13 f34 f35 f36 f37 f38 f39 f40 f41 f42 f43 f44 f45 f46 f47 f48 f49 f50 f51 f52 f53 f54 f55 f56 f57 f58 f59 f60 f61 f62 f63 : Value} {ds : List Deferred} {rd : Option Nat} {Q : QP} (I : Nat → Heap → Prop) (hb : ∀ (m : Nat) (h : Heap) (x14 x15 x16 x17 x18 x19 x20 x21 x22 x23 x24 x25 x26 x27 x28 x29 x30 x31 x32 x33 : Value) , I m  h → RunC Try.prog T0 zzQ_l0 ⟨[f0, f1, f2, f3, f4, f5, f6, f7, f8, f9, f10, f11, f12, f13, x14, x15, x16, x17, x18, x19, x20, x21, x22, x23, x24, x25, x26, x27, x28, x29, x30, x31, x32, x33, f34, f35, f36, f37, f38, f39, f40, f41, f42, f43, f44, f45, f46, f47, f48, f49, f50, f51, f52, f53, f54, f55, f56, f57, f58, f59, f60, f61, f62, f63], ds, h, rd⟩ (loopQ (zzQ_l0_J f0 f1 f2 f3 f4 f5 f6 f7 f8 f9 f10 f11 f12 f13 f34 f35 f36 f37 f38 f39 f40 f41 f42 f43 f44 f45 f46 f47 f48 f49 f50 f51 f52 f53 f54 f55 f56 f57 f58 f59 f60 f61 f62 f63 ds rd I) m Q))
 (m : Nat) {v : Value} {h : Heap} {x14 x15 x16 x17 x18 x19 x20 x21 x22 x23 x24 x25 x26 x27 x28 x29 x30 x31 x32 x33 : Value} (hi : I m  h) : RunC Try.prog T0 (.loop zzQ_l0) ⟨[f0, f1, f2, f3, f4, f5, f6, f7, f8, f9, f10, f11, f12, f13, x14, x15, x16, x17, x18, x19, x20, x21, x22, x23, x24, x25, x26, x27, x28, x29, x30, x31, x32, x33, f34, f35, f36, f37, f38, f39, f40, f41, f42, f43, f44, f45, f46, f47, f48, f49, f50, f51, f52, f53, f54, f55, f56, f57, f58, f59, f60, f61, f62, f63], ds, h, rd⟩ Q :=
 RunC.loopJ (zzQ_l0_J f0 f1 f2 f3 f4 f5 f6 f7 f8 f9 f10 f11 f12 f13 f34 f35 f36 f37 f38 f39 f40 f41 f42 f43 f44 f45 f46 f47 f48 f49 f50 f51 f52 f53 f54 f55 f56 f57 f58 f59 f60 f61 f62 f63 ds rd I) (fun m s hj => by obtain ⟨h, x14, x15, x16, x17, x18, x19, x20, x21, x22, x23, x24, x25, x26, x27, x28, x29, x30, x31, x32, x33, rfl, hi⟩ := hj; exact hb m  h x14 x15 x16 x17 x18 x19 x20 x21 x22 x23 x24 x25 x26 x27 x28 x29 x30 x31 x32 x33 hi) m _ ⟨h, _, _, _, _, _, _, _, _, _, _, _, _, _, _, _, _, _, _, _, _, rfl, hi⟩
theorem zzQ_l0_again {f0 f1 f2 f3 f4 f5 f6 f7 f8 f9 f10 f11 f12 f13 f34 f35 f36 f37 f38 f39 f40 f41 f42 f43 f44 f45 f46 f47 f48 f49 f50 f51 f52 f53 f54 f55 f56 f57 f58 f59 f60 f61 f62 f63 : Value} {ds : List Deferred} {rd : Option Nat} {Q : QP} {I : Nat → Heap → Prop} {m : Nat} (m' : Nat) {v : Value} {h : Heap} {x14 x15 x16 x17 x18 x19 x20 x21 x22 x23 x24 x25 x26 x27 x28 x29 x30 x31 x32 x33 : Value} (hm : m' < m) (hi : I m'  h) : loopQ (zzQ_l0_J f0 f1 f2 f3 f4 f5 f6 f7 f8 f9 f10 f11 f12 f13 f34 f35 f36 f37 f38 f39 f40 f41 f42 f43 f44 f45 f46 f47 f48 f49 f50 f51 f52 f53 f54 f55 f56 f57 f58 f59 f60 f61 f62 f63 ds rd I) m Q .normal ⟨[f0, f1, f2, f3, f4, f5, f6, f7, f8, f9, f10, f11, f12, f13, x14, x15, x16, x17, x18, x19, x20, x21, x22, x23, x24, x25, x26, x27, x28, x29, x30, x31, x32, x33, f34, f35, f36, f37, f38, f39, f40, f41, f42, f43, f44, f45, f46, f47, f48, f49, f50, f51, f52, f53, f54, f55, f56, f57, f58, f59, f60, f61, f62, f63], ds, h, rd⟩ :=
 loopQ.again m' hm ⟨h, _, _, _, _, _, _, _, _, _, _, _, _, _, _, _, _, _, _, _, _, rfl, hi⟩
def zzQ_l1_J (f0 f1 f2 f3 f4 f6 f7 f8 f9 f53 f54 f55 f56 f57 f58 f59 f60 f61 f62 f63 : Value) (ds : List Deferred) (rd : Option Nat) (I : Nat → Value → Heap → Prop) (m : Nat) (s : St) : Prop := ∃ (v10 : Value), ∃ h : Heap, ∃ (x5 x11 x12 x13 x14 x15 x16 x17 x18 x19 x20 x21 x22 x23 x24 x25 x26 x27 x28 x29 x30 x31 x32 x33 x34 x35 x36 x37 x38 x39 x40 x41 x42 x43 x44 x45 x46 x47 x48 x49 x50 x51 x52 : Value), s = ⟨[f0, f1, f2, f3, f4, x5, f6, f7, f8, f9, v10, x11, x12, x13, x14, x15, x16, x17, x18, x19, x20, x21, x22, x23, x24, x25, x26, x27, x28, x29, x30, x31, x32, x33, x34, x35, x36, x37, x38, x39, x40, x41, x42, x43, x44, x45, x46, x47, x48, x49, x50, x51, x52, f53, f54, f55, f56, f57, f58, f59, f60, f61, f62, f63], ds, h, rd⟩ ∧ I m v10 h
theorem zzQ_l1_rule {f0 f1 f2 f3 f4 f6 f7 f8 f9 f53 f54 f55 f56 f57 f58 f59 f60 f61 f62 f63 : Value} {ds : List Deferred} {rd : Option Nat} {Q : QP} (I : Nat → Value → Heap → Prop) (hb : ∀ (m : Nat) (v10 : Value) (h : Heap) (x5 x11 x12 x13 x14 x15 x16 x17 x18 x19 x20 x21 x22 x23 x24 x25 x26 x27 x28 x29 x30 x31 x32 x33 x34 x35 x36 x37 x38 x39 x40 x41 x42 x43 x44 x45 x46 x47 x48 x49 x50 x51 x52 : Value) , I m v10 h → RunC Try.prog T0 zzQ_l1 ⟨[f0, f1, f2, f3, f4, x5, f6, f7, f8, f9, v10, x11, x12, x13, x14, x15, x16, x17, x18, x19, x20, x21, x22, x23, x24, x25, x26, x27, x28, x29, x30, x31, x32, x33, x34, x35, x36, x37, x38, x39, x40, x41, x42, x43, x44, x45, x46, x47, x48, x49, x50, x51, x52, f53, f54, f55, f56, f57, f58, f59, f60, f61, f62, f63], ds, h, rd⟩ (loopQ (zzQ_l1_J f0 f1 f2 f3 f4 f6 f7 f8 f9 f53 f54 f55 f56 f57 f58 f59 f60 f61 f62 f63 ds rd I) m Q))
 (m : Nat) {v10 : Value} {h : Heap} {x5 x11 x12 x13 x14 x15 x16 x17 x18 x19 x20 x21 x22 x23 x24 x25 x26 x27 x28 x29 x30 x31 x32 x33 x34 x35 x36 x37 x38 x39 x40 x41 x42 x43 x44 x45 x46 x47 x48 x49 x50 x51 x52 : Value} (hi : I m v10 h) : RunC Try.prog T0 (.loop zzQ_l1) ⟨[f0, f1, f2, f3, f4, x5, f6, f7, f8, f9, v10, x11, x12, x13, x14, x15, x16, x17, x18, x19, x20, x21, x22, x23, x24, x25, x26, x27, x28, x29, x30, x31, x32, x33, x34, x35, x36, x37, x38, x39, x40, x41, x42, x43, x44, x45, x46, x47, x48, x49, x50, x51, x52, f53, f54, f55, f56, f57, f58, f59, f60, f61, f62, f63], ds, h, rd⟩ Q :=
 RunC.loopJ (zzQ_l1_J f0 f1 f2 f3 f4 f6 f7 f8 f9 f53 f54 f55 f56 f57 f58 f59 f60 f61 f62 f63 ds rd I) (fun m s hj => by obtain ⟨v10, h, x5, x11, x12, x13, x14, x15, x16, x17, x18, x19, x20, x21, x22, x23, x24, x25, x26, x27, x28, x29, x30, x31, x32, x33, x34, x35, x36, x37, x38, x39, x40, x41, x42, x43, x44, x45, x46, x47, x48, x49, x50, x51, x52, rfl, hi⟩ := hj; exact hb m v10 h x5 x11 x12 x13 x14 x15 x16 x17 x18 x19 x20 x21 x22 x23 x24 x25 x26 x27 x28 x29 x30 x31 x32 x33 x34 x35 x36 x37 x38 x39 x40 x41 x42 x43 x44 x45 x46 x47 x48 x49 x50 x51 x52 hi) m _ ⟨_, h, _, _, _, _, _, _, _, _, _, _, _, _, _, _, _, _, _, _, _, _, _, _, _, _, _, _, _, _, _, _, _, _, _, _, _, _, _, _, _, _, _, _, _, rfl, hi⟩
theorem zzQ_l1_again {f0 f1 f2 f3 f4 f6 f7 f8 f9 f53 f54 f55 f56 f57 f58 f59 f60 f61 f62 f63 : Value} {ds : List Deferred} {rd : Option Nat} {Q : QP} {I : Nat → Value → Heap → Prop} {m : Nat} (m' : Nat) {v10 : Value} {h : Heap} {x5 x11 x12 x13 x14 x15 x16 x17 x18 x19 x20 x21 x22 x23 x24 x25 x26 x27 x28 x29 x30 x31 x32 x33 x34 x35 x36 x37 x38 x39 x40 x41 x42 x43 x44 x45 x46 x47 x48 x49 x50 x51 x52 : Value} (hm : m' < m) (hi : I m' v10 h) : loopQ (zzQ_l1_J f0 f1 f2 f3 f4 f6 f7 f8 f9 f53 f54 f55 f56 f57 f58 f59 f60 f61 f62 f63 ds rd I) m Q .normal ⟨[f0, f1, f2, f3, f4, x5, f6, f7, f8, f9, v10, x11, x12, x13, x14, x15, x16, x17, x18, x19, x20, x21, x22, x23, x24, x25, x26, x27, x28, x29, x30, x31, x32, x33, x34, x35, x36, x37, x38, x39, x40, x41, x42, x43, x44, x45, x46, x47, x48, x49, x50, x51, x52, f53, f54, f55, f56, f57, f58, f59, f60, f61, f62, f63], ds, h, rd⟩ :=
 loopQ.again m' hm ⟨_, h, _, _, _, _, _, _, _, _, _, _, _, _, _, _, _, _, _, _, _, _, _, _, _, _, _, _, _, _, _, _, _, _, _, _, _, _, _, _, _, _, _, _, _, rfl, hi⟩
def zzQ_l2_J (f0 f1 f2 f3 f4 f5 f6 f8 f9 f10 f11 f12 f13 f14 f15 f16 f17 f18 f19 f20 f21 f22 f23 f24 f25 f26 f27 f28 f29 f30 f31 f32 f33 f34 f35 f36 f37 f38 f39 f40 f41 f42 f43 f44 f45 f46 f47 f48 f49 f50 f51 f52 f53 f54 : Value) (ds : List Deferred) (rd : Option Nat) (I : Nat → Value → Heap → Prop) (m : Nat) (s : St) : Prop := ∃ (v55 : Value), ∃ h : Heap, ∃ (x7 x56 x57 x58 x59 x60 x61 x62 x63 : Value), s = ⟨[f0, f1, f2, f3, f4, f5, f6, x7, f8, f9, f10, f11, f12, f13, f14, f15, f16, f17, f18, f19, f20, f21, f22, f23, f24, f25, f26, f27, f28, f29, f30, f31, f32, f33, f34, f35, f36, f37, f38, f39, f40, f41, f42, f43, f44, f45, f46, f47, f48, f49, f50, f51, f52, f53, f54, v55, x56, x57, x58, x59, x60, x61, x62, x63], ds, h, rd⟩ ∧ I m v55 h
theorem zzQ_l2_rule {f0 f1 f2 f3 f4 f5 f6 f8 f9 f10 f11 f12 f13 f14 f15 f16 f17 f18 f19 f20 f21 f22 f23 f24 f25 f26 f27 f28 f29 f30 f31 f32 f33 f34 f35 f36 f37 f38 f39 f40 f41 f42 f43 f44 f45 f46 f47 f48 f49 f50 f51 f52 f53 f54 : Value} {ds : List Deferred} {rd : Option Nat} {Q : QP} (I : Nat → Value → Heap → Prop) (hb : ∀ (m : Nat) (v55 : Value) (h : Heap) (x7 x56 x57 x58 x59 x60 x61 x62 x63 : Value) , I m v55 h → RunC Try.prog T0 zzQ_l2 ⟨[f0, f1, f2, f3, f4, f5, f6, x7, f8, f9, f10, f11, f12, f13, f14, f15, f16, f17, f18, f19, f20, f21, f22, f23, f24, f25, f26, f27, f28, f29, f30, f31, f32, f33, f34, f35, f36, f37, f38, f39, f40, f41, f42, f43, f44, f45, f46, f47, f48, f49, f50, f51, f52, f53, f54, v55, x56, x57, x58, x59, x60, x61, x62, x63], ds, h, rd⟩ (loopQ (zzQ_l2_J f0 f1 f2 f3 f4 f5 f6 f8 f9 f10 f11 f12 f13 f14 f15 f16 f17 f18 f19 f20 f21 f22 f23 f24 f25 f26 f27 f28 f29 f30 f31 f32 f33 f34 f35 f36 f37 f38 f39 f40 f41 f42 f43 f44 f45 f46 f47 f48 f49 f50 f51 f52 f53 f54 ds rd I) m Q))
 (m : Nat) {v55 : Value} {h : Heap} {x7 x56 x57 x58 x59 x60 x61 x62 x63 : Value} (hi : I m v55 h) : RunC Try.prog T0 (.loop zzQ_l2) ⟨[f0, f1, f2, f3, f4, f5, f6, x7, f8, f9, f10, f11, f12, f13, f14, f15, f16, f17, f18, f19, f20, f21, f22, f23, f24, f25, f26, f27, f28, f29, f30, f31, f32, f33, f34, f35, f36, f37, f38, f39, f40, f41, f42, f43, f44, f45, f46, f47, f48, f49, f50, f51, f52, f53, f54, v55, x56, x57, x58, x59, x60, x61, x62, x63], ds, h, rd⟩ Q :=
 RunC.loopJ (zzQ_l2_J f0 f1 f2 f3 f4 f5 f6 f8 f9 f10 f11 f12 f13 f14 f15 f16 f17 f18 f19 f20 f21 f22 f23 f24 f25 f26 f27 f28 f29 f30 f31 f32 f33 f34 f35 f36 f37 f38 f39 f40 f41 f42 f43 f44 f45 f46 f47 f48 f49 f50 f51 f52 f53 f54 ds rd I) (fun m s hj => by obtain ⟨v55, h, x7, x56, x57, x58, x59, x60, x61, x62, x63, rfl, hi⟩ := hj; exact hb m v55 h x7 x56 x57 x58 x59 x60 x61 x62 x63 hi) m _ ⟨_, h, _, _, _, _, _, _, _, _, _, rfl, hi⟩
theorem zzQ_l2_again {f0 f1 f2 f3 f4 f5 f6 f8 f9 f10 f11 f12 f13 f14 f15 f16 f17 f18 f19 f20 f21 f22 f23 f24 f25 f26 f27 f28 f29 f30 f31 f32 f33 f34 f35 f36 f37 f38 f39 f40 f41 f42 f43 f44 f45 f46 f47 f48 f49 f50 f51 f52 f53 f54 : Value} {ds : List Deferred} {rd : Option Nat} {Q : QP} {I : Nat → Value → Heap → Prop} {m : Nat} (m' : Nat) {v55 : Value} {h : Heap} {x7 x56 x57 x58 x59 x60 x61 x62 x63 : Value} (hm : m' < m) (hi : I m' v55 h) : loopQ (zzQ_l2_J f0 f1 f2 f3 f4 f5 f6 f8 f9 f10 f11 f12 f13 f14 f15 f16 f17 f18 f19 f20 f21 f22 f23 f24 f25 f26 f27 f28 f29 f30 f31 f32 f33 f34 f35 f36 f37 f38 f39 f40 f41 f42 f43 f44 f45 f46 f47 f48 f49 f50 f51 f52 f53 f54 ds rd I) m Q .normal ⟨[f0, f1, f2, f3, f4, f5, f6, x7, f8, f9, f10, f11, f12, f13, f14, f15, f16, f17, f18, f19, f20, f21, f22, f23, f24, f25, f26, f27, f28, f29, f30, f31, f32, f33, f34, f35, f36, f37, f38, f39, f40, f41, f42, f43, f44, f45, f46, f47, f48, f49, f50, f51, f52, f53, f54, v55, x56, x57, x58, x59, x60, x61, x62, x63], ds, h, rd⟩ :=
 loopQ.again m' hm ⟨_, h, _, _, _, _, _, _, _, _, _, rfl, hi⟩
end Go.Proofs.Ytmfaepkmiceoeaa.A

namespace Go.Proofs.Ytmfaepkmiceoeaa.A
open Go Go.Vm
set_option maxRecDepth 10000
set_option linter.unusedVariables false
theorem four {l : List UInt8} (h : l.length = 4) : ∃ a b c d, l = [a, b, c, d] := by
  match l, h with
  | [a, b, c, d], _ => exact ⟨a, b, c, d, rfl⟩
abbrev k4 (a b c d : UInt8) : List Value := [.int .u8 a.toNat, .int .u8 b.toNat, .int .u8 c.toNat, .int .u8 d.toNat]
end Go.Proofs.Ytmfaepkmiceoeaa.A

namespace Go.Proofs.Ytmfaepkmiceoeaa.A
open Go Go.Vm
set_option maxRecDepth 10000
set_option linter.unusedVariables false
structure Val where
  k0 : UInt8
  k1 : UInt8
  k2 : UInt8
  k3 : UInt8
  p : Int
deriving DecidableEq
abbrev Val.key (v : Val) : List UInt8 := [v.k0, v.k1, v.k2, v.k3]
abbrev Val.cells (v : Val) : List Value := [.int .u8 v.k0.toNat, .int .u8 v.k1.toNat, .int .u8 v.k2.toNat, .int .u8 v.k3.toNat, .int .i64 v.p]
abbrev zVal : Val := ⟨0, 0, 0, 0, 0⟩
def Val.of (l : List UInt8) (p : Int) : Val := ⟨l.getD 0 0, l.getD 1 0, l.getD 2 0, l.getD 3 0, p⟩
def vcells (l : List Val) : List Value := l.flatMap Val.cells
theorem vcells_nil : vcells [] = [] := rfl
theorem vcells_cons (v : Val) (l : List Val) : vcells (v :: l) = v.cells ++ vcells l := rfl
theorem vcells_append (l m : List Val) : vcells (l ++ m) = vcells l ++ vcells m := by simp [vcells]
theorem vcells_len : ∀ l : List Val, (vcells l).length = l.length * 5
  | [] => rfl
  | v :: l => by rw [vcells_cons, List.length_append, vcells_len l]; simp; omega
theorem vcells_one : ∀ l : List Val, (vcells l).all Value.oneCell' = true
  | [] => rfl
  | v :: l => by rw [vcells_cons, List.all_append, vcells_one l]; rfl
theorem vcells_at : ∀ {l : List Val} {k : Nat}, k < l.length → ((vcells l).drop (k * 5)).take 5 = (l.getD k zVal).cells
  | v :: l, 0, _ => by rw [vcells_cons]; rfl
  | v :: l, k + 1, h => by
    have := vcells_at (l := l) (k := k) (by simpa using h)
    rw [vcells_cons, show (k + 1) * 5 = v.cells.length + k * 5 from by simp; omega, ← List.drop_drop, List.drop_left]
    exact this
theorem val_cells {h : Heap} {b o n k : Nat} {l : List Val} (hc : cellsAt h b o (n * 5) = some (vcells l)) (hn : l.length = n) (hk : k < n) : Cells h b (o + k * 5) 5 (l.getD k zVal).cells := ⟨by
  rw [cellsAt_sub hc (by omega), vcells_at (by omega)]⟩
theorem val_key {h : Heap} {b o n k : Nat} {l : List Val} (hc : cellsAt h b o (n * 5) = some (vcells l)) (hn : l.length = n) (hk : k < n) : Cells h b (o + k * 5) 4 [.int .u8 (l.getD k zVal).k0.toNat, .int .u8 (l.getD k zVal).k1.toNat, .int .u8 (l.getD k zVal).k2.toNat, .int .u8 (l.getD k zVal).k3.toNat] := ⟨by
  have h5 := (val_cells hc hn hk).eq
  have := cellsAt_sub (k := 0) (m := 4) h5 (by omega)
  simpa using this⟩
theorem val_power {h : Heap} {b o n k : Nat} {l : List Val} (hc : cellsAt h b o (n * 5) = some (vcells l)) (hn : l.length = n) (hk : k < n) : Cell h b (o + k * 5 + 4) (.int .i64 (l.getD k zVal).p) := ⟨by
  have h5 := (val_cells hc hn hk).eq
  have := cellsAt_sub (k := 4) (m := 1) h5 (by omega)
  simpa using this⟩
def stepsV (least : Int) : Option Val → List Val → Int
  | _, [] => 0
  | last, v :: l => if (match last with | none => false | some x => !keyLt x.key v.key) = true then 9 else if v.p < least ∨ 4611686018427387904 < v.p then 3 else stepsV least (some v) l
def checkV (l : List Val) : Int := if l.length = 0 then 6 else if 64 < l.length then 4 else stepsV 1 none l
def lastV (l : List Val) (k : Nat) : Option Val := if k = 0 then none else some (l.getD (k - 1) zVal)
theorem drop_getD {l : List Val} {k : Nat} (hk : k < l.length) : l.drop k = l.getD k zVal :: l.drop (k + 1) := by
  rw [List.drop_eq_getElem_cons hk]
  simp [List.getD, hk]
theorem stepsV_at {least : Int} {l : List Val} {k : Nat} (hk : k < l.length) : stepsV least (lastV l k) (l.drop k) =
    if (match lastV l k with | none => false | some x => !keyLt x.key (l.getD k zVal).key) = true then 9 else if (l.getD k zVal).p < least ∨ 4611686018427387904 < (l.getD k zVal).p then 3 else stepsV least (lastV l (k + 1)) (l.drop (k + 1)) := by
  rw [drop_getD hk]
  rfl
def atS (x : Val) (begun : Bool) (least most : Int) (v : Val) : Int := if (begun && !keyLt x.key v.key) = true then 9 else if v.p < least ∨ most < v.p then 3 else 0
theorem stepsV_atS {least : Int} {l : List Val} {k : Nat} {x : Val} (hk : k < l.length) (hx : 0 < k → lastV l k = some x) :
    stepsV least (lastV l k) (l.drop k) = if atS x (decide (0 < k)) least 4611686018427387904 (l.getD k zVal) = 0 then stepsV least (lastV l (k + 1)) (l.drop (k + 1)) else atS x (decide (0 < k)) least 4611686018427387904 (l.getD k zVal) := by
  rw [stepsV_at hk]
  by_cases h0 : 0 < k
  · rw [hx h0]
    unfold atS
    simp only [decide_eq_true h0, Bool.true_and]
    split
    · rfl
    · split
      · rfl
      · rfl
  · obtain rfl : k = 0 := by omega
    unfold atS
    simp only [lastV, if_true, Nat.lt_irrefl, decide_false, Bool.false_and, Bool.false_eq_true, if_false]
    split
    · rfl
    · rfl
end Go.Proofs.Ytmfaepkmiceoeaa.A

namespace Go.Proofs.Ytmfaepkmiceoeaa.A
open Go Go.Vm
set_option maxRecDepth 10000
set_option linter.unusedVariables false
theorem Compare_ok {h : Heap} {v w : Value} {a b : List UInt8} {n m : Nat} (h1 : Rd h 1 v (bcells a) n) (h2 : Rd h 1 w (bcells b) m) :
    Runs Try.prog T0 (.fn fn_zaQ) [v, w] h (fun r h' => r = .int .i64 (cmpB a b) ∧ h' = h) (fun _ _ => False) := by
  have h1' := h1
  have h2' := h2
  obtain ⟨a0, c0, rfl, _, _⟩ := h1
  obtain ⟨a1, c1, rfl, _, _⟩ := h2
  refine zaQ_runs ?_
  refine stp ?_
  refine O.how (XOp.mkCompare h1' h2' (by kernel_rfl)) ?_
  refine stp ?_
  exact ⟨rfl, rfl⟩
abbrev lookC (x : Val) (begun : Bool) (least most : Int) : List Value := [.int .u8 x.k0.toNat, .int .u8 x.k1.toNat, .int .u8 x.k2.toNat, .int .u8 x.k3.toNat, .bool begun, .int .i64 least, .int .i64 most]
theorem at_ok {h : Heap} {q : Nat} {x v : Val} {begun : Bool} {least most : Int} (hg : h.get q = .cells (lookC x begun least most) 0) (hq : q < h.n) :
    Runs Try.prog T0 (.fn fn_zxQ) [.pointer (some ⟨q, 0, none⟩), .agg ⟨v.cells⟩] h (fun r h' => r = .int .i64 (atS x begun least most v) ∧ h'.get q = .cells (lookC v true least most) 0 ∧ Fr (fun i => i = q) h h') (fun _ _ => False) := by
  haveI : HGet h q _ := ⟨hg⟩
  haveI : BLt q h := ⟨hq⟩
  have fin : ∀ {c : List Value} {o : AObj}, c = lookC v true least most → (((h.push o).set q (.cells c 0)).get q = .cells (lookC v true least most) 0 ∧ Fr (fun i => i = q) h ((h.push o).set q (.cells c 0))) := fun hc => ⟨by rw [Heap.get_set, if_pos rfl, hc], Fr.refl.push.set fun _ => rfl⟩
  refine zxQ_runs ?_
  refine stp ?_
  cases begun with
  | true =>
    refine stp ?_
    refine D.callT (Compare_ok (a := x.key) (b := v.key) (Rd.mk (n := 4) (by simp; omega) ?_) (Rd.mk (n := 4) (by simp) ?_)) (fun _ _ _ => rfl) (fun r h1 hr => ?_)
    · rw [cellsAt_of (c := lookC x true least most) (by rw [Heap.get_push, if_neg (by omega), hg]; rfl) (by simp)]
      rfl
    · rw [cellsAt_of (c := v.cells) (by rw [Heap.get_push, if_pos rfl]; rfl) (by simp)]
      rfl
    obtain ⟨rfl, rfl⟩ := hr
    refine stp ?_
    have hk : keyLt x.key v.key = decide (cmpB x.key v.key < 0) := rfl
    unfold atS
    refine C.if (fun hge => ?_) (fun hlt => ?_)
    · refine stp ?_
      rw [if_pos (by rw [hk, decide_eq_false (by omega)]; rfl)]
      exact ⟨rfl, fin rfl⟩
    · refine stp ?_
      rw [if_neg (by rw [hk, decide_eq_true (by omega)]; simp)]
      refine D.dec (fun h1 => ?_) (fun h1 => ?_)
      · refine stp ?_
        rw [if_pos (.inl h1)]
        exact ⟨rfl, fin rfl⟩
      · refine stp ?_
        refine C.if (fun h2 => ?_) (fun h2 => ?_)
        · refine stp ?_
          rw [if_pos (.inr h2)]
          exact ⟨rfl, fin rfl⟩
        · refine stp ?_
          rw [if_neg (by omega)]
          exact ⟨rfl, fin rfl⟩
  | false =>
    refine stp ?_
    unfold atS
    rw [if_neg (by simp)]
    refine D.dec (fun h1 => ?_) (fun h1 => ?_)
    · refine stp ?_
      rw [if_pos (.inl h1)]
      exact ⟨rfl, fin rfl⟩
    · refine stp ?_
      refine C.if (fun h2 => ?_) (fun h2 => ?_)
      · refine stp ?_
        rw [if_pos (.inr h2)]
        exact ⟨rfl, fin rfl⟩
      · refine stp ?_
        rw [if_neg (by omega)]
        exact ⟨rfl, fin rfl⟩
end Go.Proofs.Ytmfaepkmiceoeaa.A

namespace Go.Proofs.Ytmfaepkmiceoeaa.A
open Go Go.Vm
set_option maxRecDepth 10000
set_option linter.unusedVariables false
theorem VCheck_ok {h : Heap} {v : Value} {l : List Val} (hv : Rd h 5 v (vcells l) l.length) :
    Runs Try.prog T0 (.fn fn_ztQ) [v] h (fun r h' => r = .int .i64 (checkV l) ∧ Fr (fun _ => False) h h') (fun _ _ => False) := by
  obtain ⟨a, cap, rfl, hlen, hc⟩ := hv
  refine ztQ_runs ?_
  refine stp ?_
  unfold checkV
  refine C.if (fun h0 => ?_) (fun h0 => ?_)
  · refine stp ?_
    rw [if_pos (by omega)]
    exact ⟨rfl, Fr.refl⟩
  rw [if_neg (by omega)]
  refine stp ?_
  refine C.if (fun h1 => ?_) (fun h1 => ?_)
  · refine stp ?_
    rw [if_pos (by omega)]
    exact ⟨rfl, Fr.refl⟩
  rw [if_neg (by omega)]
  obtain ⟨b, o, sp, rfl, hb, hcc⟩ := hc (by omega)
  refine stp ?_
  refine ztQ_l0_rule (fun m v18 h' => ∃ k : Nat, k ≤ l.length ∧ m = l.length - k ∧ v18 = .int .i64 k ∧ (∃ x : Val, h'.get h.n = .cells (lookC x (decide (0 < k)) 1 4611686018427387904) 0 ∧ (0 < k → lastV l k = some x)) ∧ h.n < h'.n ∧ Fr (fun _ => False) h h' ∧ stepsV 1 none l = stepsV 1 (lastV l k) (l.drop k)) ?_ l.length ⟨0, by omega, rfl, rfl, ⟨zVal, ?_, by omega⟩, by simp, ?_, rfl⟩
  · rintro m v18 h' x2 x5 x6 x19 x20 x21 x22 x23 x24 x25 x26 x27 ⟨k, hk, rfl, rfl, ⟨x, hg, hx⟩, hn, hf, hst⟩
    refine stp ?_
    refine C.if (fun hlt => ?_) (fun hge => ?_)
    · have hlt : k < l.length := by omega
      have hcc' : cellsAt h' b o (l.length * 5) = some (vcells l) := by rw [cellsAt_keep hf hb id]; exact hcc
      haveI := val_cells hcc' rfl hlt
      refine stp ?_
      refine O.call' (at_ok (x := x) (v := l.getD k zVal) (begun := decide (0 < k)) (by rw [Heap.get_push, if_neg (by omega), hg]) (by simp; omega)) (fun r h2 hr => ?_)
      obtain ⟨rfl, hg2, hf2⟩ := hr
      have hn2 := hf2.n
      simp only [Heap.n_push] at hn2
      have hfh : Fr (fun _ => False) h h2 := Fr.trans (S := fun _ => False) hf (Fr.trans (S := fun i => i = h.n) Fr.refl.push hf2 fun i _ hi => hi) fun i hi ho => by omega
      refine stp ?_
      refine C.ifN (fun he => ?_) (fun he => ?_)
      · refine stp ?_
        rw [hst, stepsV_atS hlt hx, if_neg he]
        exact ⟨rfl, hfh⟩
      · refine stp ?_
        refine ztQ_l0_again (l.length - (k + 1)) (by omega) ⟨k + 1, by omega, rfl, rfl, ⟨l.getD k zVal, by rw [hg2, decide_eq_true (show 0 < k + 1 by omega)], fun _ => rfl⟩, by omega, hfh, ?_⟩
        rw [hst, stepsV_atS hlt hx, if_pos he]
    · obtain rfl : k = l.length := by omega
      refine stp ?_
      rw [hst, List.drop_length]
      exact ⟨rfl, hf⟩
  · rw [Heap.get_push, if_pos rfl]
    rfl
  · exact Fr.refl.push
end Go.Proofs.Ytmfaepkmiceoeaa.A

namespace Go.Proofs.Ytmfaepkmiceoeaa.A
open Go Go.Vm
set_option maxRecDepth 10000
set_option linter.unusedVariables false
theorem u8eq {a b : UInt8} : ((a.toNat : Int) = (b.toNat : Int)) ↔ a = b := by
  rw [Int.ofNat_inj, UInt8.toNat_inj]
theorem u8lt {a b : UInt8} : ((a.toNat : Int) < (b.toNat : Int)) ↔ a < b := by
  rw [Int.ofNat_lt, UInt8.lt_iff_toNat_lt]
theorem Less_ok {h : Heap} {a0 a1 a2 a3 b0 b1 b2 b3 : UInt8} :
    Runs Try.prog T0 (.fn fn_zoQ) [.agg ⟨[.int .u8 a0.toNat, .int .u8 a1.toNat, .int .u8 a2.toNat, .int .u8 a3.toNat]⟩, .agg ⟨[.int .u8 b0.toNat, .int .u8 b1.toNat, .int .u8 b2.toNat, .int .u8 b3.toNat]⟩] h
      (fun r h' => r = .bool (keyLt [a0, a1, a2, a3] [b0, b1, b2, b3]) ∧ Fr (fun _ => False) h h') (fun _ _ => False) := by
  refine zoQ_runs ?_
  refine stpP ?_
  rw [keyLt4]
  generalize hh : (h.push (.cells [.int .u8 a0.toNat, .int .u8 a1.toNat, .int .u8 a2.toNat, .int .u8 a3.toNat] 0)).push (.cells [.int .u8 b0.toNat, .int .u8 b1.toNat, .int .u8 b2.toNat, .int .u8 b3.toNat] 0) = h0
  have hA : HGet h0 h.n (.cells [.int .u8 a0.toNat, .int .u8 a1.toNat, .int .u8 a2.toNat, .int .u8 a3.toNat] 0) := by rw [← hh]; exact HGet.push (k := BLt.new) (g := HGet.new)
  generalize hb : (h.push (.cells [.int .u8 a0.toNat, .int .u8 a1.toNat, .int .u8 a2.toNat, .int .u8 a3.toNat] 0)).n = b
  have hB : HGet h0 b (.cells [.int .u8 b0.toNat, .int .u8 b1.toNat, .int .u8 b2.toNat, .int .u8 b3.toNat] 0) := by rw [← hh, ← hb]; exact HGet.new
  have hf : Fr (fun _ => False) h h0 := by rw [← hh]; exact Fr.refl.push.push
  clear hh hb
  haveI := hA
  haveI := hB
  refine zoQ_l0_rule (fun m v5 h' => ∃ k : Nat, k ≤ 4 ∧ m = 4 - k ∧ v5 = .int .i64 k ∧ h' = h0 ∧ (0 < k → a0 = b0) ∧ (1 < k → a1 = b1) ∧ (2 < k → a2 = b2) ∧ (3 < k → a3 = b3)) ?_ 4 ⟨0, by omega, rfl, rfl, rfl, by omega, by omega, by omega, by omega⟩
  rintro m v5 h' x4 x6 x7 x8 x9 x10 x11 x12 x13 x14 x15 x16 x17 x18 x19 x20 x21 x22 x23 ⟨k, hk, rfl, rfl, rfl, e0, e1, e2, e3⟩
  rcases (show k = 0 ∨ k = 1 ∨ k = 2 ∨ k = 3 ∨ k = 4 by omega) with rfl | rfl | rfl | rfl | rfl
  · refine stpP ?_
    refine C.ifN (fun hne => ?_) (fun heq => ?_)
    · refine stpP ?_
      rw [if_pos (fun h => hne (u8eq.2 h))]
      exact ⟨by congr 1; exact decide_eq_decide.2 u8lt, hf⟩
    · refine stpP ?_
      exact zoQ_l0_again 3 (by omega) ⟨1, by omega, rfl, rfl, rfl, fun _ => u8eq.1 heq, by omega, by omega, by omega⟩
  · refine stpP ?_
    refine C.ifN (fun hne => ?_) (fun heq => ?_)
    · refine stpP ?_
      rw [if_neg (fun h => h (e0 (by omega))), if_pos (fun h => hne (u8eq.2 h))]
      exact ⟨by congr 1; exact decide_eq_decide.2 u8lt, hf⟩
    · refine stpP ?_
      exact zoQ_l0_again 2 (by omega) ⟨2, by omega, rfl, rfl, rfl, fun _ => e0 (by omega), fun _ => u8eq.1 heq, by omega, by omega⟩
  · refine stpP ?_
    refine C.ifN (fun hne => ?_) (fun heq => ?_)
    · refine stpP ?_
      rw [if_neg (fun h => h (e0 (by omega))), if_neg (fun h => h (e1 (by omega))), if_pos (fun h => hne (u8eq.2 h))]
      exact ⟨by congr 1; exact decide_eq_decide.2 u8lt, hf⟩
    · refine stpP ?_
      exact zoQ_l0_again 1 (by omega) ⟨3, by omega, rfl, rfl, rfl, fun _ => e0 (by omega), fun _ => e1 (by omega), fun _ => u8eq.1 heq, by omega⟩
  · refine stpP ?_
    refine C.ifN (fun hne => ?_) (fun heq => ?_)
    · refine stpP ?_
      rw [if_neg (fun h => h (e0 (by omega))), if_neg (fun h => h (e1 (by omega))), if_neg (fun h => h (e2 (by omega))), if_pos (fun h => hne (u8eq.2 h))]
      exact ⟨by congr 1; exact decide_eq_decide.2 u8lt, hf⟩
    · refine stpP ?_
      exact zoQ_l0_again 0 (by omega) ⟨4, by omega, rfl, rfl, rfl, fun _ => e0 (by omega), fun _ => e1 (by omega), fun _ => e2 (by omega), fun _ => u8eq.1 heq⟩
  · refine stpP ?_
    rw [if_neg (fun h => h (e0 (by omega))), if_neg (fun h => h (e1 (by omega))), if_neg (fun h => h (e2 (by omega))), if_neg (fun h => h (e3 (by omega)))]
    exact ⟨rfl, hf⟩
set_option maxHeartbeats 4000000 in
theorem RVCheck_ok {h : Heap} {v : Value} {l : List Val} (hv : Rd h 5 v (vcells l) l.length) :
    Runs Try.prog T0 (.fn fn_zmQ) [v] h (fun r h' => r = .int .i64 (checkV l) ∧ Fr (fun _ => False) h h') (fun _ _ => False) := by
  obtain ⟨a, cap, rfl, hlen, hc⟩ := hv
  refine zmQ_runs ?_
  refine stpP ?_
  unfold checkV
  refine C.if (fun h0 => ?_) (fun h0 => ?_)
  · refine stpP ?_
    rw [if_pos (by omega)]
    exact ⟨rfl, Fr.refl⟩
  rw [if_neg (by omega)]
  refine stpP ?_
  refine C.if (fun h1 => ?_) (fun h1 => ?_)
  · refine stpP ?_
    rw [if_pos (by omega)]
    exact ⟨rfl, Fr.refl⟩
  rw [if_neg (by omega)]
  obtain ⟨b, o, sp, rfl, hb, hcc⟩ := hc (by omega)
  refine stpP ?_
  refine zmQ_l0_rule (fun m v3 h' => ∃ k : Nat, k ≤ l.length ∧ m = l.length - k ∧ v3 = .int .i64 k ∧ Fr (fun _ => False) h h' ∧ stepsV 1 none l = stepsV 1 (lastV l k) (l.drop k)) ?_ l.length ⟨0, by omega, rfl, rfl, Fr.refl, rfl⟩
  rintro m v3 h' x2 x12 x13 x14 x15 x16 x17 x18 x19 x20 x21 x22 x23 x24 x25 x26 x27 x28 x29 x30 x31 x32 x33 x34 x35 x36 x37 x38 x39 x40 x41 x42 x43 x44 x45 x46 x47 x48 x49 x50 ⟨k, hk, rfl, rfl, hf, hst⟩
  refine stpP ?_
  refine C.if (fun hlt => ?_) (fun hge => ?_)
  · have hlt : k < l.length := by omega
    have hcc' : cellsAt h' b o (l.length * 5) = some (vcells l) := by rw [cellsAt_keep hf hb id]; exact hcc
    haveI := val_power hcc' rfl hlt
    haveI := val_key hcc' rfl hlt
    have hin : ∀ x : Val, (0 < k → keyLt x.key (l.getD k zVal).key = true) → atS x (decide (0 < k)) 1 4611686018427387904 (l.getD k zVal) = if (l.getD k zVal).p < 1 ∨ 4611686018427387904 < (l.getD k zVal).p then 3 else 0 := fun x hx => by
      unfold atS
      rw [if_neg]
      by_cases h0 : 0 < k
      · rw [hx h0]; simp
      · simp [h0]
    refine stpP ?_
    refine D.dec (fun h0 => ?_) (fun h0 => ?_)
    · obtain ⟨j, rfl⟩ : ∃ j, k = j + 1 := ⟨k - 1, by omega⟩
      haveI := val_key (k := j) hcc' rfl (by omega)
      refine stpP ?_
      rw [show ((j + 1 : Nat) : Int) - 1 = (j : Nat) from by omega]
      refine D.howT (XOp.mkIndexSl (by omega)) rfl ?_
      refine stpP ?_
      refine D.howT (XOp.mkIndexSl (by omega)) rfl ?_
      refine stpP ?_
      refine D.callT (Less_ok) (fun _ _ _ => rfl) (fun r h2 hr => ?_)
      obtain ⟨rfl, hf2⟩ := hr
      have hf2' := hf.trans' hf2
      have hcc2 : cellsAt h2 b o (l.length * 5) = some (vcells l) := by rw [cellsAt_keep hf2 (hf.lt hb) id]; exact hcc'
      haveI := val_power hcc2 rfl hlt
      rw [stepsV_atS (x := l.getD j zVal) hlt (fun _ => rfl)] at hst
      refine stpP ?_
      refine C.ifB (fun hb => ?_) (fun hb => ?_)
      · have hb : keyLt (l.getD j zVal).key (l.getD (j + 1) zVal).key = false := by simpa using hb
        refine stpP ?_
        rw [hst]
        unfold atS
        rw [hb]
        exact ⟨rfl, hf2'⟩
      · have hb : keyLt (l.getD j zVal).key (l.getD (j + 1) zVal).key = true := by simpa using hb
        rw [hin _ (fun _ => hb)] at hst
        refine stpP ?_
        refine O.dec (fun h1 => ?_) (fun h1 => ?_)
        · refine stpP ?_
          rw [hst, if_pos (show (l.getD (j + 1) zVal).p < 1 ∨ 4611686018427387904 < (l.getD (j + 1) zVal).p from .inl h1)]
          rw [if_neg (show ¬ ((3 : Int) = 0) by decide)]
          exact ⟨rfl, hf2'⟩
        · refine stpP ?_
          refine C.if (fun h3 => ?_) (fun h3 => ?_)
          · refine stpP ?_
            rw [hst, if_pos (show (l.getD (j + 1) zVal).p < 1 ∨ 4611686018427387904 < (l.getD (j + 1) zVal).p from .inr h3)]
            rw [if_neg (show ¬ ((3 : Int) = 0) by decide)]
            exact ⟨rfl, hf2'⟩
          · rw [if_neg (show ¬ ((l.getD (j + 1) zVal).p < 1 ∨ 4611686018427387904 < (l.getD (j + 1) zVal).p) by omega), if_pos rfl] at hst
            refine stpP ?_
            exact zmQ_l0_again (l.length - (j + 1 + 1)) (by omega) ⟨j + 1 + 1, by omega, rfl, rfl, hf2', hst⟩
    · obtain rfl : k = 0 := by omega
      rw [stepsV_atS (x := zVal) hlt (fun h => absurd h (by omega)), hin _ (fun h => absurd h (by omega))] at hst
      refine stpP ?_
      refine O.dec (fun h1 => ?_) (fun h1 => ?_)
      · refine stpP ?_
        rw [hst, if_pos (show (l.getD 0 zVal).p < 1 ∨ 4611686018427387904 < (l.getD 0 zVal).p from .inl h1)]
        rw [if_neg (show ¬ ((3 : Int) = 0) by decide)]
        exact ⟨rfl, hf⟩
      · refine stpP ?_
        refine C.if (fun h3 => ?_) (fun h3 => ?_)
        · refine stpP ?_
          rw [hst, if_pos (show (l.getD 0 zVal).p < 1 ∨ 4611686018427387904 < (l.getD 0 zVal).p from .inr h3)]
          rw [if_neg (show ¬ ((3 : Int) = 0) by decide)]
          exact ⟨rfl, hf⟩
        · rw [if_neg (show ¬ ((l.getD 0 zVal).p < 1 ∨ 4611686018427387904 < (l.getD 0 zVal).p) by omega), if_pos rfl] at hst
          refine stpP ?_
          exact zmQ_l0_again (l.length - (0 + 1)) (by omega) ⟨0 + 1, by omega, rfl, rfl, hf, hst⟩
  · obtain rfl : k = l.length := by omega
    refine stpP ?_
    rw [hst, List.drop_length]
    exact ⟨rfl, hf⟩
end Go.Proofs.Ytmfaepkmiceoeaa.A

namespace Go.Proofs.Ytmfaepkmiceoeaa.A
open Go Go.Vm
set_option maxRecDepth 10000
set_option linter.unusedVariables false
theorem appendLitV {P : Program} {T : Table} {ts : List Value} {ds : List Deferred} {h : Heap} {rd : Option Nat} {dst bytes el : Nat} {x y : Operand} {chk : List (Option Nat × AOp × Option (Nat × Bool))} {pan : Bool} {rest : List AOper} {Q : QP} {F : Value → List Value} {w : Value} {l : List Val}
    [e1 : Ev ts x (.slice (some ⟨h.n, 0, none⟩) 0 0)] [e2 : Ev ts y w] [s : LSetF ts dst F] (hv : Rd h 5 w (vcells l) l.length) (hs : l.length < 1048576) (hb : bytes < 1048576)
    (hk : ∀ v' h', Own h' 5 v' (vcells l) l.length → Fr (fun _ => False) h h' → (∀ i, ownedBy v' i → h.n ≤ i) → RunO P T rest ⟨F v', ds, h', rd⟩ Q) :
    RunO P T (⟨some dst, .append el 5 bytes [.int .u8 0, .int .u8 0, .int .u8 0, .int .u8 0, .int .i64 0] false x y, none, chk, pan⟩ :: rest) ⟨ts, ds, h.push (.cells [] 0), rd⟩ Q := by
  have f0 : Fr (fun _ => False) h (h.push (.cells [] 0)) := Fr.refl.push
  have hz : Own (h.push (.cells [] 0)) 5 (.slice (some ⟨h.n, 0, none⟩) 0 0) [] 0 := .lit (by simp) (by rw [Heap.get_push, if_pos rfl])
  refine O.append hz ((hv.keep f0 fun _ _ => id).new _) (vcells_len l) (vcells_one l) (by omega) (by omega) (by omega) (fun v' h' h1 h2 h3 => ?_)
  rw [Nat.zero_add, List.nil_append] at h1
  refine hk v' h' h1 (f0.trans (S := fun _ => False) h2 fun i hi ho => ?_) fun i hi => ?_
  · have : h.n = i := ho
    omega
  · rcases h3 i hi with h4 | h4
    · have : h.n = i := h4
      omega
    · simp at h4; omega
theorem CopyVals_ok {h : Heap} {v : Value} {l : List Val} (hr : Rd h 5 v (vcells l) l.length) (hs : l.length < 1048576) :
    Runs Try.prog T0 (.fn fn_zbQ) [v] h
      (fun r h' => Own h' 5 r (vcells l) l.length ∧ Fr (fun _ => False) h h' ∧ ∀ i, ownedBy r i → h.n ≤ i) (fun _ _ => False) := by
  have hr0 := hr
  obtain ⟨a, cap, rfl, hlen, hc⟩ := hr
  refine zbQ_runs ?_
  refine stp ?_
  refine appendLitV hr0 hs (by omega) (fun v' h' h1 h2 h3 => ?_)
  refine stp ?_
  exact ⟨h1, h2, h3⟩
end Go.Proofs.Ytmfaepkmiceoeaa.A

namespace Go.Proofs.Ytmfaepkmiceoeaa.A
open Go Go.Vm
set_option maxRecDepth 10000
set_option linter.unusedVariables false
theorem stepsV_range {least : Int} : ∀ {l : List Val} {o : Option Val}, stepsV least o l = 0 → ∀ v ∈ l, least ≤ v.p ∧ v.p ≤ 4611686018427387904
  | [], _, _, _, h => by cases h
  | v :: l, o, h, w, hw => by
    have key : ∀ b : Bool, (if b = true then (9 : Int) else if v.p < least ∨ 4611686018427387904 < v.p then 3 else stepsV least (some v) l) = 0 → least ≤ w.p ∧ w.p ≤ 4611686018427387904 := by
      intro b h
      by_cases hA : b = true
      · rw [if_pos hA] at h; cases h
      · rw [if_neg hA] at h
        by_cases hB : v.p < least ∨ 4611686018427387904 < v.p
        · rw [if_pos hB] at h; cases h
        · rw [if_neg hB] at h
          rcases List.mem_cons.1 hw with rfl | hw
          · omega
          · exact stepsV_range h w hw
    exact key _ h
theorem checkV_ok {l : List Val} (h : checkV l = 0) : 0 < l.length ∧ l.length ≤ 64 ∧ stepsV 1 none l = 0 ∧ ∀ v ∈ l, 1 ≤ v.p ∧ v.p ≤ 4611686018427387904 := by
  unfold checkV at h
  split at h
  · cases h
  · split at h
    · cases h
    · exact ⟨by omega, by omega, h, stepsV_range h⟩
end Go.Proofs.Ytmfaepkmiceoeaa.A

namespace Go.Proofs.Ytmfaepkmiceoeaa.A
open Go Go.Vm
set_option maxRecDepth 10000
set_option linter.unusedVariables false
def kn (v : Val) : Nat := v.k0.toNat * 16777216 + v.k1.toNat * 65536 + v.k2.toNat * 256 + v.k3.toNat
theorem u8ne {a b : UInt8} : a ≠ b ↔ a.toNat ≠ b.toNat := ⟨fun h e => h (UInt8.toNat_inj.1 e), fun h e => h (by rw [e])⟩
theorem u8lt' {a b : UInt8} : a < b ↔ a.toNat < b.toNat := Iff.rfl
theorem cmp_kn (v w : Val) : cmpB v.key w.key = if kn v < kn w then -1 else if kn v = kn w then 0 else 1 := by
  obtain ⟨a0, a1, a2, a3, p⟩ := v
  obtain ⟨b0, b1, b2, b3, q⟩ := w
  have e : cmpB (Val.key ⟨a0, a1, a2, a3, p⟩) (Val.key ⟨b0, b1, b2, b3, q⟩) = _ := cmp4 a0 a1 a2 a3 b0 b1 b2 b3
  rw [e]
  unfold kn
  simp only [u8ne, u8lt']
  have h0 := a0.toNat_lt; have h1 := a1.toNat_lt; have h2 := a2.toNat_lt; have h3 := a3.toNat_lt
  have g0 := b0.toNat_lt; have g1 := b1.toNat_lt; have g2 := b2.toNat_lt; have g3 := b3.toNat_lt
  generalize a0.toNat = a0 at *; generalize a1.toNat = a1 at *; generalize a2.toNat = a2 at *; generalize a3.toNat = a3 at *
  generalize b0.toNat = b0 at *; generalize b1.toNat = b1 at *; generalize b2.toNat = b2 at *; generalize b3.toNat = b3 at *
  by_cases c0 : a0 = b0
  · rw [if_neg (by omega)]
    by_cases c1 : a1 = b1
    · rw [if_neg (by omega)]
      by_cases c2 : a2 = b2
      · rw [if_neg (by omega)]
        by_cases c3 : a3 = b3
        · rw [if_neg (by omega), if_neg (by omega), if_pos (by omega)]
        · rw [if_pos (by omega)]
          by_cases l : a3 < b3
          · rw [if_pos l, if_pos (by omega)]
          · rw [if_neg l, if_neg (by omega), if_neg (by omega)]
      · rw [if_pos (by omega)]
        by_cases l : a2 < b2
        · rw [if_pos l, if_pos (by omega)]
        · rw [if_neg l, if_neg (by omega), if_neg (by omega)]
    · rw [if_pos (by omega)]
      by_cases l : a1 < b1
      · rw [if_pos l, if_pos (by omega)]
      · rw [if_neg l, if_neg (by omega), if_neg (by omega)]
  · rw [if_pos (by omega)]
    by_cases l : a0 < b0
    · rw [if_pos l, if_pos (by omega)]
    · rw [if_neg l, if_neg (by omega), if_neg (by omega)]
theorem keyLt_kn (v w : Val) : keyLt v.key w.key = decide (kn v < kn w) := by
  unfold keyLt
  rw [cmp_kn]
  by_cases h : kn v < kn w
  · rw [if_pos h]; simp [h]
  · rw [if_neg h]
    by_cases h2 : kn v = kn w
    · rw [if_pos h2]; simp [h2]
    · rw [if_neg h2]; simp [h]
theorem kn_key {v w : Val} : kn v = kn w ↔ v.key = w.key := by
  constructor
  · intro h
    obtain ⟨a0, a1, a2, a3, p⟩ := v
    obtain ⟨b0, b1, b2, b3, q⟩ := w
    unfold kn at h
    have h0 := a0.toNat_lt; have h1 := a1.toNat_lt; have h2 := a2.toNat_lt; have h3 := a3.toNat_lt
    have g0 := b0.toNat_lt; have g1 := b1.toNat_lt; have g2 := b2.toNat_lt; have g3 := b3.toNat_lt
    simp only at h
    have e0 : a0 = b0 := UInt8.toNat_inj.1 (by omega)
    have e1 : a1 = b1 := UInt8.toNat_inj.1 (by omega)
    have e2 : a2 = b2 := UInt8.toNat_inj.1 (by omega)
    have e3 : a3 = b3 := UInt8.toNat_inj.1 (by omega)
    subst e0 e1 e2 e3
    rfl
  · intro h
    unfold kn
    injection h with h0 h
    injection h with h1 h
    injection h with h2 h
    injection h with h3 _
    rw [h0, h1, h2, h3]
theorem steps_rise {least : Int} : ∀ {l : List Val} {o : Option Val}, stepsV least o l = 0 → (∀ x, o = some x → ∀ v ∈ l, kn x < kn v) ∧ l.Pairwise (fun a b => kn a < kn b)
  | [], _, _ => ⟨(fun _ _ v hv => (by cases hv)), List.Pairwise.nil⟩
  | v :: l, o, h => by
    have key : ∀ b : Bool, (if b = true then (9 : Int) else if v.p < least ∨ 4611686018427387904 < v.p then 3 else stepsV least (some v) l) = 0 → b = false ∧ stepsV least (some v) l = 0 := by
      intro b h
      by_cases hA : b = true
      · rw [if_pos hA] at h; cases h
      · rw [if_neg hA] at h
        by_cases hB : v.p < least ∨ 4611686018427387904 < v.p
        · rw [if_pos hB] at h; cases h
        · rw [if_neg hB] at h
          exact ⟨by simpa using hA, h⟩
    obtain ⟨h1, h2⟩ := key _ h
    obtain ⟨h3, h4⟩ := steps_rise h2
    have hv := h3 v rfl
    refine ⟨fun x hx w hw => ?_, .cons hv h4⟩
    subst hx
    have hxv : kn x < kn v := by
      have h1 : (!keyLt x.key v.key) = false := h1
      rw [keyLt_kn] at h1
      simpa using h1
    rcases List.mem_cons.1 hw with rfl | hw
    · exact hxv
    · have := hv w hw; omega
theorem rises {l : List Val} (h : checkV l = 0) {i j : Nat} (hij : i < j) (hj : j < l.length) : kn (l.getD i zVal) < kn (l.getD j zVal) := by
  obtain ⟨_, _, c3, _⟩ := checkV_ok h
  have hp := (steps_rise c3).2
  have := List.pairwise_iff_getElem.1 hp i j (by omega) hj hij
  simpa [List.getD, hj, show i < l.length by omega] using this
end Go.Proofs.Ytmfaepkmiceoeaa.A

namespace Go.Proofs.Ytmfaepkmiceoeaa.A
open Go Go.Vm
set_option maxRecDepth 10000
set_option linter.unusedVariables false
abbrev Val.kcells (v : Val) : List Value := [.int .u8 v.k0.toNat, .int .u8 v.k1.toNat, .int .u8 v.k2.toNat, .int .u8 v.k3.toNat]
theorem compare_ok {h : Heap} {v w : Val} : Runs Try.prog T0 (.fn fn_zwQ) [.agg ⟨v.cells⟩, .agg ⟨w.kcells⟩] h (fun r h' => r = .int .i64 (cmpB v.key w.key) ∧ Fr (fun _ => False) h h') (fun _ _ => False) := by
  refine zwQ_runs ?_
  refine stp ?_
  refine D.callX (Compare_ok (a := v.key) (b := w.key) (Rd.mk (n := 4) (by simp; omega) ?_) (Rd.mk (n := 4) (by simp) ?_)) (fun _ _ _ => rfl) (fun r h1 hr => ?_) (fun _ _ hx => hx.elim)
  · rw [cellsAt_of (c := v.cells) (by rw [Heap.get_push, if_neg (by simp), Heap.get_push, if_pos rfl]; rfl) (by simp)]
    rfl
  · rw [cellsAt_of (c := w.kcells) (by rw [Heap.get_push, if_pos rfl]; rfl) (by simp)]
    rfl
  obtain ⟨rfl, rfl⟩ := hr
  refine stp ?_
  exact ⟨rfl, Fr.refl.push.push⟩
theorem shr1 {P : Program} {ts : List Value} {h : Heap} {x y : Operand} {t t' ty : TypeId} {J : IntKind} {n : Nat} [e1 : Ev ts x (.int .u64 (n : Nat))] [e2 : Ev ts y (.int J 1)] : XOp P ts h (.bin .shr (so (.binOp .shr t x y t') ty) x y) (.int .u64 ((n / 2 : Nat) : Int)) h := by
  have := XOp.shr (P := P) (ts := ts) (h := h) (x := x) (y := y) (t := t) (t' := t') (ty := ty) (K := .u64) (J := J) (p := (n : Int)) (q := 1) (by omega)
  rw [show ((n : Int).fdiv (2 ^ (min (1 : Int).toNat IntKind.u64.bits))) = ((n / 2 : Nat) : Int) from by
    rw [show (2 : Int) ^ (min (1 : Int).toNat IntKind.u64.bits) = 2 from rfl, Int.fdiv_eq_ediv_of_nonneg _ (by omega)]
    omega] at this
  exact this
def atV (l : List Val) (w : Val) (i : Nat) : Prop := i ≤ l.length ∧ (∀ t, t < i → kn (l.getD t zVal) < kn w) ∧ ∀ t, i ≤ t → t < l.length → kn w ≤ kn (l.getD t zVal)
set_option maxHeartbeats 1000000 in
theorem Search_ok {h : Heap} {v : Value} {l : List Val} {w : Val} (hv : Rd h 5 v (vcells l) l.length) (hl : l.length < 1048576) (hup : ∀ i j, i < j → j < l.length → kn (l.getD i zVal) < kn (l.getD j zVal)) :
    Runs Try.prog T0 (.fn fn_zqQ) [v, .agg ⟨w.kcells⟩, .func (.func fn_zwQ) ⟨[]⟩ ⟨[]⟩] h
      (fun r h' => ∃ i, atV l w i ∧ r = .tuple ⟨[.int .i64 (i : Nat), .bool (decide (i < l.length ∧ kn (l.getD i zVal) = kn w))]⟩ ∧ Fr (fun _ => False) h h') (fun _ _ => False) := by
  obtain ⟨a, cap, rfl, hlen, hc⟩ := hv
  refine zqQ_runs ?_
  refine stp ?_
  refine zqQ_l0_rule (fun m v9 v10 h' => ∃ i j : Nat, i ≤ j ∧ j ≤ l.length ∧ m = j - i ∧ v9 = .int .i64 i ∧ v10 = .int .i64 j ∧ (∀ t, t < i → kn (l.getD t zVal) < kn w) ∧ (∀ t, j ≤ t → t < l.length → kn w ≤ kn (l.getD t zVal)) ∧ h'.get h.n = .cells w.kcells 0 ∧ h.n < h'.n ∧ Fr (fun _ => False) h h') ?_ l.length ⟨0, l.length, by omega, Nat.le_refl _, by omega, rfl, rfl, fun t ht => by omega, fun t h1 h2 => by omega, by rw [Heap.get_push, if_pos rfl], by simp, Fr.refl.push⟩
  rintro m v9 v10 h' x11 x15 x16 x17 x18 x19 x20 x21 x22 x23 x24 x25 x26 x27 x28 x29 x30 x31 x32 x33 x34 ⟨i, j, hij, hj, rfl, rfl, rfl, hlo, hhi, hg, hn, hf⟩
  haveI : HGet h' h.n _ := ⟨hg⟩
  haveI : BLt h.n h' := ⟨hn⟩
  refine stp ?_
  refine C.if (fun hlt => ?_) (fun hge => ?_)
  · have hlt : i < j := by omega
    refine stp ?_
    rw [show ((i : Nat) : Int) + ((j : Nat) : Int) = (((i + j : Nat)) : Int) from by omega]
    refine O.how shr1 ?_
    obtain ⟨md, hmd⟩ : ∃ md : Nat, md = (i + j) / 2 := ⟨_, rfl⟩
    rw [← hmd]
    have hm1 : i ≤ md := by omega
    have hm2 : md < j := by omega
    obtain ⟨b, o, sp, rfl, hb, hcc⟩ := hc (by omega)
    have hcc' : cellsAt h' b o (l.length * 5) = some (vcells l) := by rw [cellsAt_keep hf hb id]; exact hcc
    haveI := val_cells hcc' rfl (show md < l.length by omega)
    refine stp ?_
    refine D.callX (compare_ok (v := l.getD md zVal) (w := w)) (fun _ _ _ => rfl) (fun r h1 hr => ?_) (fun _ _ hx => hx.elim)
    obtain ⟨rfl, hf1⟩ := hr
    have n1 := hf1.n
    rw [cmp_kn]
    refine stp ?_
    refine C.if (fun hc1 => ?_) (fun hc1 => ?_)
    · have hkn : kn (l.getD md zVal) < kn w := by
        apply Classical.byContradiction
        intro hno
        rw [if_neg hno] at hc1
        split at hc1 <;> omega
      refine stp ?_
      refine zqQ_l0_again (j - (md + 1)) (by omega) ⟨md + 1, j, by omega, hj, rfl, rfl, rfl, fun t ht => ?_, hhi, by rw [hf1.get _ hn id, hg], by omega, hf.trans' hf1⟩
      rcases Nat.lt_or_ge t md with h2 | h2
      · have := hup t md h2 (by omega); omega
      · obtain rfl : t = md := by omega
        exact hkn
    · have hkn : kn w ≤ kn (l.getD md zVal) := by
        apply Classical.byContradiction
        intro hno
        rw [if_pos (by omega)] at hc1
        omega
      refine stp ?_
      refine zqQ_l0_again (md - i) (by omega) ⟨i, md, by omega, by omega, rfl, rfl, rfl, hlo, fun t h1 h2 => ?_, by rw [hf1.get _ hn id, hg], by omega, hf.trans' hf1⟩
      rcases Nat.lt_or_ge md t with h3 | h3
      · have := hup md t h3 h2; omega
      · obtain rfl : t = md := by omega
        exact hkn
  · obtain rfl : i = j := by omega
    refine stp ?_
    refine D.dec (fun hin => ?_) (fun hout => ?_)
    · have hin : i < l.length := by omega
      obtain ⟨b, o, sp, rfl, hb, hcc⟩ := hc (by omega)
      have hcc' : cellsAt h' b o (l.length * 5) = some (vcells l) := by rw [cellsAt_keep hf hb id]; exact hcc
      haveI := val_cells hcc' rfl hin
      refine stp ?_
      refine D.howT (XOp.mkIndexSl (by omega)) rfl ?_
      refine stp ?_
      refine D.callT (compare_ok (v := l.getD i zVal) (w := w)) (fun _ _ _ => ?_) (fun r h1 hr => ?_)
      · exact StabL.ok
      obtain ⟨rfl, hf1⟩ := hr
      rw [cmp_kn]
      refine stp ?_
      refine ⟨i, ⟨hj, hlo, hhi⟩, ?_, hf.trans' hf1⟩
      have hd : decide ((if kn (l.getD i zVal) < kn w then (-1 : Int) else if kn (l.getD i zVal) = kn w then 0 else 1) = 0) = decide (i < l.length ∧ kn (l.getD i zVal) = kn w) := by
        refine decide_eq_decide.2 ⟨fun h => ⟨hin, ?_⟩, fun h => ?_⟩
        · apply Classical.byContradiction
          intro hno
          rw [if_neg hno] at h
          split at h <;> omega
        · rw [if_neg (by omega), if_pos h.2]
      rw [← hd]
    · refine stp ?_
      refine D.skT ?_ ?_
      · exact StabL.ok
      refine stp ?_
      refine ⟨i, ⟨hj, hlo, hhi⟩, ?_, hf⟩
      rw [decide_eq_false (fun h => hout (by omega))]
end Go.Proofs.Ytmfaepkmiceoeaa.A

namespace Go.Proofs.Ytmfaepkmiceoeaa.A
open Go Go.Vm
set_option maxRecDepth 10000
set_option linter.unusedVariables false
theorem same_key {v w : Val} : same v.kcells w.kcells = decide (kn v = kn w) := by
  by_cases h : kn v = kn w
  · rw [decide_eq_true h]
    have hk := kn_key.1 h
    have : v.kcells = w.kcells := congrArg bcells hk
    rw [this]
    exact same_self _
  · rw [decide_eq_false h]
    refine same_ne.2 fun h2 => h (kn_key.2 ?_)
    have h2 : bcells v.key = bcells w.key := h2
    have := congrArg bytesOf h2
    rw [bytesOf_bcells, bytesOf_bcells] at this
    injection this
def findN (l : List Val) (w : Val) : Option Nat := l.findIdx? fun v => decide (kn v = kn w)
def findA (l : List Val) (w : Val) : Nat := (findN l w).getD 0
theorem findN_some {l : List Val} {w : Val} {i : Nat} (hi : i < l.length) (h : kn (l.getD i zVal) = kn w) (hf : ∀ t, t < i → kn (l.getD t zVal) ≠ kn w) : findN l w = some i := by
  unfold findN
  rw [List.findIdx?_eq_some_iff_getElem]
  refine ⟨hi, by simpa [List.getD, hi] using h, fun t ht => ?_⟩
  have := hf t ht
  simpa [List.getD, show t < l.length by omega] using this
theorem findN_none {l : List Val} {w : Val} (hf : ∀ t, t < l.length → kn (l.getD t zVal) ≠ kn w) : findN l w = none := by
  unfold findN
  rw [List.findIdx?_eq_none_iff]
  intro v hv
  obtain ⟨t, ht, rfl⟩ := List.getElem_of_mem hv
  have := hf t ht
  simpa [List.getD, ht] using this
theorem Find1_ok {h : Heap} {q : Nat} {v w : Val} (hg : h.get q = .cells w.kcells 0) (hq : q < h.n) : Runs Try.prog T0 (.fn fn_zvQ) [.agg ⟨v.cells⟩, .pointer (some ⟨q, 0, none⟩)] h (fun r h' => r = .bool (decide (kn v = kn w)) ∧ Fr (fun _ => False) h h') (fun _ _ => False) := by
  haveI : HGet h q _ := ⟨hg⟩
  haveI : BLt q h := ⟨hq⟩
  refine zvQ_runs ?_
  refine stp ?_
  rw [← same_key]
  exact ⟨rfl, Fr.refl.push⟩
theorem IndexFunc_ok {h : Heap} {q : Nat} {v : Value} {l : List Val} {w : Val} (hv : Rd h 5 v (vcells l) l.length) (hl : l.length < 1048576) (hg : h.get q = .cells w.kcells 0) (hq : q < h.n) :
    Runs Try.prog T0 (.fn fn_zrQ) [v, .func (.func fn_zvQ) ⟨[]⟩ ⟨[.pointer (some ⟨q, 0, none⟩)]⟩] h
      (fun r h' => r = .int .i64 (match findN l w with | some i => ((i : Nat) : Int) | none => -1) ∧ Fr (fun _ => False) h h') (fun _ _ => False) := by
  obtain ⟨a, cap, rfl, hlen, hc⟩ := hv
  refine zrQ_runs ?_
  refine stp ?_
  refine zrQ_l0_rule (fun m v8 h' => ∃ k : Nat, k ≤ l.length ∧ m = l.length - k ∧ v8 = .int .i64 k ∧ (∀ t, t < k → kn (l.getD t zVal) ≠ kn w) ∧ Fr (fun _ => False) h h') ?_ l.length ⟨0, by omega, rfl, rfl, fun t ht => by omega, Fr.refl⟩
  rintro m v8 h' x4 x5 x9 x10 x11 x12 x13 x14 x15 x16 x17 x18 ⟨k, hk, rfl, rfl, hno, hf⟩
  refine stp ?_
  refine C.if (fun hlt => ?_) (fun hge => ?_)
  · have hlt : k < l.length := by omega
    obtain ⟨b, o, sp, rfl, hb, hcc⟩ := hc (by omega)
    have hcc' : cellsAt h' b o (l.length * 5) = some (vcells l) := by rw [cellsAt_keep hf hb id]; exact hcc
    haveI := val_cells hcc' rfl hlt
    have n' := hf.n
    refine stp ?_
    refine O.call' (Find1_ok (v := l.getD k zVal) (w := w) (by rw [hf.get _ hq id, hg]) (by omega)) (fun r h1 hr => ?_)
    obtain ⟨rfl, hf1⟩ := hr
    refine stp ?_
    refine C.if (fun hy => ?_) (fun hn => ?_)
    · refine stp ?_
      rw [findN_some hlt hy hno]
      exact ⟨rfl, hf.trans' hf1⟩
    · refine stp ?_
      refine zrQ_l0_again (l.length - (k + 1)) (by omega) ⟨k + 1, by omega, rfl, rfl, fun t ht => ?_, hf.trans' hf1⟩
      rcases Nat.lt_or_ge t k with h2 | h2
      · exact hno t h2
      · obtain rfl : t = k := by omega
        exact hn
  · obtain rfl : k = l.length := by omega
    refine stp ?_
    rw [findN_none hno]
    exact ⟨rfl, hf⟩
theorem Find_ok {h : Heap} {v : Value} {l : List Val} {w : Val} (hv : Rd h 5 v (vcells l) l.length) (hl : l.length < 1048576) :
    Runs Try.prog T0 (.fn fn_zuQ) [v, .agg ⟨w.kcells⟩] h (fun r h' => r = .tuple ⟨[.int .i64 (findA l w : Nat), .bool (findN l w).isSome]⟩ ∧ Fr (fun _ => False) h h') (fun _ _ => False) := by
  have hv0 := hv
  obtain ⟨a, cap, rfl, hlen, _⟩ := hv
  refine zuQ_runs ?_
  refine stp ?_
  have f0 : Fr (fun _ => False) h (h.push (.cells w.kcells 0)) := Fr.refl.push
  have g0 : HGet (h.push (.cells w.kcells 0)) h.n (.cells w.kcells 0) := HGet.new
  have n0 : (h.push (.cells w.kcells 0)).n = h.n + 1 := rfl
  generalize h.push (.cells w.kcells 0) = h0 at *
  refine O.call' (VCheck_ok (hv0.keep f0 fun _ _ => id)) (fun r h1 hr => ?_)
  obtain ⟨rfl, hf1⟩ := hr
  have n1 := hf1.n
  have g1 := hf1.keep g0 (by omega) id
  have f1 := f0.trans' hf1
  haveI := g1
  refine stp ?_
  refine C.if (fun hz => ?_) (fun hz => ?_)
  · refine stp ?_
    refine O.call' (Search_ok (w := w) (hv0.keep f1 fun _ _ => id) hl (fun i j hij hj => rises hz hij hj)) (fun r h2 hr => ?_)
    obtain ⟨i, ⟨hi, hlo, hhi⟩, rfl, hf2⟩ := hr
    refine stp ?_
    by_cases hy : i < l.length ∧ kn (l.getD i zVal) = kn w
    · rw [decide_eq_true hy]
      refine stp ?_
      have hs := findN_some hy.1 hy.2 fun t ht => by have := hlo t ht; omega
      unfold findA
      rw [hs]
      exact ⟨rfl, f1.trans' hf2⟩
    · rw [decide_eq_false hy]
      refine stp ?_
      have hs : findN l w = none := findN_none fun t ht => by
        rcases Nat.lt_or_ge t i with h2 | h2
        · have := hlo t h2; omega
        · rcases Nat.lt_or_ge i t with h3 | h3
          · have h4 := rises hz h3 ht
            have h5 := hhi i (Nat.le_refl _) (by omega)
            omega
          · obtain rfl : t = i := by omega
            exact fun h => hy ⟨ht, h⟩
      unfold findA
      rw [hs]
      exact ⟨rfl, f1.trans' hf2⟩
  · refine stp ?_
    refine O.call' (IndexFunc_ok (w := w) (hv0.keep f1 fun _ _ => id) hl g1.eq (by omega)) (fun r h2 hr => ?_)
    obtain ⟨rfl, hf2⟩ := hr
    unfold findA
    cases hs : findN l w with
    | none =>
      refine stp ?_
      exact ⟨rfl, f1.trans' hf2⟩
    | some i =>
      refine stp ?_
      refine ⟨?_, f1.trans' hf2⟩
      have e1 : (if (0 : Int) > ((i : Nat) : Int) then (0 : Int) else ((i : Nat) : Int)) = ((i : Nat) : Int) := if_neg (by omega)
      have e2 : decide ((0 : Int) ≤ ((i : Nat) : Int)) = true := decide_eq_true (by omega)
      show Value.tuple ⟨[.int .i64 (if (0 : Int) > ((i : Nat) : Int) then (0 : Int) else ((i : Nat) : Int)), .bool (decide ((0 : Int) ≤ ((i : Nat) : Int)))]⟩ = _
      rw [e1, e2]
      rfl
end Go.Proofs.Ytmfaepkmiceoeaa.A

namespace Go.Proofs.Ytmfaepkmiceoeaa.A
open Go Go.Vm
set_option maxRecDepth 10000
set_option linter.unusedVariables false
theorem RFind_ok {h : Heap} {v : Value} {l : List Val} {w : Val} (hv : Rd h 5 v (vcells l) l.length) (hl : l.length < 1048576) :
    Runs Try.prog T0 (.fn fn_znQ) [v, .agg ⟨w.kcells⟩] h (fun r h' => r = .tuple ⟨[.int .i64 (findA l w : Nat), .bool (findN l w).isSome]⟩ ∧ Fr (fun _ => False) h h') (fun _ _ => False) := by
  obtain ⟨a, cap, rfl, hlen, hc⟩ := hv
  refine znQ_runs ?_
  refine stp ?_
  refine znQ_l0_rule (fun m v6 h' => ∃ k : Nat, k ≤ l.length ∧ m = l.length - k ∧ v6 = .int .i64 k ∧ (∀ t, t < k → kn (l.getD t zVal) ≠ kn w) ∧ h'.get h.n = .cells w.kcells 0 ∧ h.n < h'.n ∧ Fr (fun _ => False) h h') ?_ l.length ⟨0, by omega, rfl, rfl, fun t ht => by omega, by rw [Heap.get_push, if_pos rfl], by simp, Fr.refl.push⟩
  rintro m v6 h' x4 x5 x7 x8 x9 x10 x11 x12 x13 x14 x15 x16 x17 x18 x19 x20 ⟨k, hk, rfl, rfl, hno, hg, hn, hf⟩
  haveI : HGet h' h.n _ := ⟨hg⟩
  haveI : BLt h.n h' := ⟨hn⟩
  refine stp ?_
  unfold findA
  refine C.if (fun hlt => ?_) (fun hge => ?_)
  · have hlt : k < l.length := by omega
    obtain ⟨b, o, sp, rfl, hb, hcc⟩ := hc (by omega)
    have hcc' : cellsAt h' b o (l.length * 5) = some (vcells l) := by rw [cellsAt_keep hf hb id]; exact hcc
    haveI := val_key hcc' rfl hlt
    refine stp ?_
    have hs : same [.int .u8 (l.getD k zVal).k0.toNat, .int .u8 (l.getD k zVal).k1.toNat, .int .u8 (l.getD k zVal).k2.toNat, .int .u8 (l.getD k zVal).k3.toNat] w.kcells = decide (kn (l.getD k zVal) = kn w) := same_key
    rw [hs]
    refine C.if (fun hy => ?_) (fun hn2 => ?_)
    · refine stp ?_
      rw [findN_some hlt hy hno]
      exact ⟨rfl, hf⟩
    · refine stp ?_
      refine znQ_l0_again (l.length - (k + 1)) (by omega) ⟨k + 1, by omega, rfl, rfl, fun t ht => ?_, hg, hn, hf⟩
      rcases Nat.lt_or_ge t k with h2 | h2
      · exact hno t h2
      · obtain rfl : t = k := by omega
        exact hn2
  · obtain rfl : k = l.length := by omega
    refine stp ?_
    rw [findN_none hno]
    exact ⟨rfl, hf⟩
end Go.Proofs.Ytmfaepkmiceoeaa.A

namespace Go.Proofs.Ytmfaepkmiceoeaa.A
open Go Go.Vm
set_option maxRecDepth 10000
set_option linter.unusedVariables false
theorem mkStoreN {P : Program} {ts : List Value} {h : Heap} {a x : Operand} {v : Value} {o r n es : Nat} {sp : Option Nat} {xs c : List Value} (ho : o + xs.length ≤ c.length) (h1 : xs.all Value.oneCell' = true) (hn : n = xs.length) [e : Ev ts a (.pointer (some ⟨r, o, sp⟩))] [f : Ev ts x v] [k : CellsOf v xs] [g : HGet h r (.cells c es)] :
    xop P (eval ts) h (.store n a x) = .ok undef (h.set r (.cells (over c o xs) es)) := by
  have hp : putAt h r o xs = some (h.set r (.cells (over c o xs) es)) := by
    unfold putAt
    rw [g.eq]
    show (if o + xs.length ≤ c.length ∧ xs.all Value.oneCell' = true then some (h.set r (.cells (over c o xs) es)) else none) = _
    rw [if_pos ⟨ho, h1⟩]
  subst hn
  simp only [xop, e.eq, f.eq, k.eq, k.len, hp, if_true]
theorem SameVals_same {h : Heap} {v w : Value} {l : List Val} (hv : Rd h 5 v (vcells l) l.length) (hw : Rd h 5 w (vcells l) l.length) (hs : l.length < 1048576) :
    Runs Try.prog T0 (.fn fn_zeQ) [v, w] h (fun r h' => r = .bool true ∧ h' = h) (fun _ _ => False) := by
  obtain ⟨a, cap, rfl, hlen, hc⟩ := hv
  obtain ⟨a', cap', rfl, hlen', hc'⟩ := hw
  refine zeQ_runs ?_
  refine stpP ?_
  refine zeQ_l0_rule (fun m v5 v6 h' => ∃ k : Nat, k ≤ l.length ∧ m = l.length - k ∧ v6 = .int .i64 k ∧ v5 = .bool true ∧ h' = h) ?_ l.length ⟨0, by omega, rfl, rfl, by simp, rfl⟩
  rintro m v5 v6 h' x12 x13 x14 x15 x16 x17 x18 x19 x20 x21 x22 x23 x24 x25 x26 x27 x28 x29 ⟨k, hk, rfl, rfl, rfl, rfl⟩
  refine stpP ?_
  refine C.if (fun hlt => ?_) (fun hge => ?_)
  · have hlt : k < l.length := by omega
    obtain ⟨b, o, sp, rfl, hb, hcc⟩ := hc (by omega)
    obtain ⟨b', o', sp', rfl, hb', hcc'⟩ := hc' (by omega)
    haveI := val_cells hcc rfl hlt
    haveI := val_cells hcc' rfl hlt
    refine stpP ?_
    rw [same_self]
    exact zeQ_l0_again (l.length - (k + 1)) (by omega) ⟨k + 1, by omega, rfl, rfl, rfl, rfl⟩
  · refine stpP ?_
    exact ⟨rfl, rfl⟩
theorem Rd.block_lt {h : Heap} {size n : Nat} {v : Value} {c : List Value} (hv : Rd h size v c n) {i : Nat} (hi : blockOf v i) : i < h.n := by
  obtain ⟨a, cap, rfl, _, hc⟩ := hv
  cases a with
  | none => exact hi.elim
  | some a =>
    obtain ⟨h1, h2⟩ := hi
    obtain ⟨b, o, sp, e, hb, _⟩ := hc h2
    cases e
    subst h1
    exact hb
theorem OverVals_ok {h : Heap} {v : Value} {c : List Value} {n : Nat} (ho : Own h 5 v c n) (hs : n < 1048576) :
    Runs Try.prog T0 (.fn fn_zcQ) [v] h (fun r h' => Fr (ownedBy v) h h') (fun _ _ => False) := by
  refine zcQ_runs ?_
  cases ho with
  | none =>
    refine stpP ?_
    refine zcQ_l0_rule (fun m v2 h' => v2 = .int .i64 0 ∧ h' = h) ?_ 0 ⟨rfl, rfl⟩
    rintro m v2 h' x3 x4 x5 x6 x7 x8 x9 x10 x11 x12 ⟨rfl, rfl⟩
    refine stpP ?_
    exact Fr.refl
  | lit hq hg =>
    refine stpP ?_
    refine zcQ_l0_rule (fun m v2 h' => v2 = .int .i64 0 ∧ h' = h) ?_ 0 ⟨rfl, rfl⟩
    rintro m v2 h' x3 x4 x5 x6 x7 x8 x9 x10 x11 x12 ⟨rfl, rfl⟩
    refine stpP ?_
    exact Fr.refl
  | grown hq hn hle hl hl2 hg =>
    rename_i q kk cap j
    refine stpP ?_
    refine zcQ_l0_rule (fun m v2 h' => ∃ k : Nat, k ≤ n ∧ m = n - k ∧ v2 = .int .i64 k ∧ (∃ cs, h'.get q = .cells cs 5 ∧ cs.length = cap * 5) ∧ Fr (ownedBy (.slice (some ⟨q, 0, some kk⟩) n cap)) h h') ?_ n ⟨0, by omega, rfl, rfl, ⟨_, hg, hl2⟩, Fr.refl⟩
    rintro m v2 h' x3 x4 x5 x6 x7 x8 x9 x10 x11 x12 ⟨k, hk, rfl, rfl, ⟨cs, hg', hcs⟩, hf⟩
    haveI : HGet h' q _ := ⟨hg'⟩
    refine stpP ?_
    refine C.if (fun hlt => ?_) (fun hge => ?_)
    · refine stpP ?_
      refine O.by0 (mkStoreN (xs := [.int .u8 0, .int .u8 0, .int .u8 0, .int .u8 0, .int .i64 (-7)]) (c := cs) (r := q) (es := 5) (by simp; omega) rfl rfl) rfl ?_
      refine stpP ?_
      refine zcQ_l0_again (n - (k + 1)) (by omega) ⟨k + 1, by omega, rfl, rfl, ⟨_, by rw [Heap.get_set, if_pos rfl], ?_⟩, Fr.set hf fun _ => rfl⟩
      rw [over_length _ _ _ (by simp; omega), hcs]
    · refine stpP ?_
      exact hf
end Go.Proofs.Ytmfaepkmiceoeaa.A

namespace Go.Proofs.Ytmfaepkmiceoeaa.A
open Go Go.Vm
set_option maxRecDepth 10000
set_option linter.unusedVariables false
theorem one_val {h : Heap} {c : List Value} {es : Nat} (hc : c.length = 5) : newCells (h.push (.cells c es)) 5 [.int .u8 0, .int .u8 0, .int .u8 0, .int .u8 0, .int .i64 0] false (.slice (some ⟨h.n, 0, none⟩) 1 1) = some (1, c) :=
  (Rd.mk (size := 5) (n := 1) (cap := 1) (sp := none) (o := 0) (b := h.n) (c := c) (by simp) (by rw [cellsAt_of (c := c) (by rw [Heap.get_push, if_pos rfl]; rfl) (by omega), List.drop_zero, List.take_of_length_le (by omega)])).new _
end Go.Proofs.Ytmfaepkmiceoeaa.A

namespace Go.Proofs.Ytmfaepkmiceoeaa.A
open Go Go.Vm
set_option maxRecDepth 10000
set_option linter.unusedVariables false
def chgS (c : Val) : Bool → List Val → List Val
  | put, [] => if put then [] else [c]
  | put, v :: l => (if !put && decide (kn c < kn v) then [c] else []) ++ ((if kn v = kn c then [] else [v]) ++ chgS c (put || decide (kn c < kn v)) l)
theorem chgS_end (c : Val) (put : Bool) {l : List Val} : chgS c put (l.drop l.length) = if put then [] else [c] := by
  rw [List.drop_eq_nil_of_le (Nat.le_refl _)]; rfl
theorem chgS_at (c : Val) (put : Bool) {l : List Val} {k : Nat} (hk : k < l.length) : chgS c put (l.drop k) = (if !put && decide (kn c < kn (l.getD k zVal)) then [c] else []) ++ ((if kn (l.getD k zVal) = kn c then [] else [l.getD k zVal]) ++ chgS c (put || decide (kn c < kn (l.getD k zVal))) (l.drop (k + 1))) := by
  rw [drop_getD hk]; rfl
def keepS (c v : Val) : List Val := if kn v = kn c then [] else [v]
theorem chgS_T (c : Val) {l : List Val} {k : Nat} (hk : k < l.length) : chgS c true (l.drop k) = keepS c (l.getD k zVal) ++ chgS c true (l.drop (k + 1)) := by
  rw [chgS_at c true hk]
  unfold keepS
  generalize (if kn (l.getD k zVal) = kn c then [] else [l.getD k zVal]) = Y
  generalize decide (kn c < kn (l.getD k zVal)) = d
  rw [Bool.not_true, Bool.false_and, Bool.true_or, if_neg Bool.false_ne_true, List.nil_append]
theorem chgS_F1 (c : Val) {l : List Val} {k : Nat} (hk : k < l.length) (h : kn c < kn (l.getD k zVal)) : chgS c false (l.drop k) = [c] ++ (keepS c (l.getD k zVal) ++ chgS c true (l.drop (k + 1))) := by
  rw [chgS_at c false hk, decide_eq_true h]
  unfold keepS
  generalize (if kn (l.getD k zVal) = kn c then [] else [l.getD k zVal]) = Y
  rw [Bool.not_false, Bool.true_and, Bool.or_true, if_pos rfl]
theorem chgS_F2 (c : Val) {l : List Val} {k : Nat} (hk : k < l.length) (h : ¬ kn c < kn (l.getD k zVal)) : chgS c false (l.drop k) = keepS c (l.getD k zVal) ++ chgS c false (l.drop (k + 1)) := by
  rw [chgS_at c false hk, decide_eq_false h]
  unfold keepS
  generalize (if kn (l.getD k zVal) = kn c then [] else [l.getD k zVal]) = Y
  rw [Bool.and_false, Bool.or_false, if_neg Bool.false_ne_true, List.nil_append]
theorem keepS_same {c v : Val} (h : kn v = kn c) : keepS c v = [] := if_pos h
theorem keepS_other {c v : Val} (h : ¬ kn v = kn c) : keepS c v = [v] := if_neg h
theorem same_keyL (v c : Val) : same [.int .u8 v.k0.toNat, .int .u8 v.k1.toNat, .int .u8 v.k2.toNat, .int .u8 v.k3.toNat] [.int .u8 c.k0.toNat, .int .u8 c.k1.toNat, .int .u8 c.k2.toNat, .int .u8 c.k3.toNat] = decide (kn v = kn c) := same_key
theorem keyLt_L (c v : Val) : keyLt [c.k0, c.k1, c.k2, c.k3] [v.k0, v.k1, v.k2, v.k3] = decide (kn c < kn v) := keyLt_kn c v
set_option maxHeartbeats 4000000 in
theorem RChanged_ok {h : Heap} {v : Value} {l : List Val} {c : Val} (hv : Rd h 5 v (vcells l) l.length) (hl : l.length < 500000) :
    Runs Try.prog T0 (.fn fn_zpQ) [v, .agg ⟨c.cells⟩] h
      (fun r h' => Own h' 5 r (vcells (chgS c (decide (c.p = 0)) l)) (chgS c (decide (c.p = 0)) l).length ∧ (∀ i, ownedBy r i → h.n ≤ i) ∧ Fr (fun _ => False) h h') (fun _ _ => False) := by
  obtain ⟨a, cap, rfl, hlen, hcl⟩ := hv
  refine zpQ_runs ?_
  refine stp ?_
  have f0 : Fr (fun _ => False) h (h.push (.cells c.cells 0)) := Fr.refl.push
  have gC : HGet (h.push (.cells c.cells 0)) h.n (.cells c.cells 0) := HGet.new
  have n0 : (h.push (.cells c.cells 0)).n = h.n + 1 := rfl
  refine zpQ_l0_rule (fun m v5 v6 v7 h' => ∃ (k : Nat) (out : List Val) (put : Bool), k ≤ l.length ∧ m = l.length - k ∧ v7 = .int .i64 k ∧ v6 = .bool put ∧ Own h' 5 v5 (vcells out) out.length ∧ (∀ i, ownedBy v5 i → h.n < i) ∧ out ++ chgS c put (l.drop k) = chgS c (decide (c.p = 0)) l ∧ out.length ≤ 2 * k ∧ HGet h' h.n (.cells c.cells 0) ∧ h.n < h'.n ∧ Fr (fun _ => False) h h') ?_ l.length ⟨0, [], _, by omega, rfl, rfl, rfl, .none, fun i hi => hi.elim, rfl, by simp, gC, by omega, f0⟩
  rintro m v5 v6 v7 h' x11 x12 x13 x14 x15 x16 x17 x18 x19 x20 x21 x22 x23 x24 x25 x26 x27 x28 x29 x30 x31 x32 x33 x34 x35 x36 x37 x38 x39 x40 x41 x42 x43 x44 x45 x46 x47 ⟨k, out, put, hk, rfl, rfl, rfl, ho, hnew, heq, hol, gk, hn, hf⟩
  haveI := gk
  haveI : BLt h.n h' := ⟨hn⟩
  refine stp ?_
  refine C.if (fun hlt => ?_) (fun hge => ?_)
  · have hlt : k < l.length := by omega
    obtain ⟨b, o, sp, rfl, hb, hcc⟩ := hcl (by omega)
    have hcl' := hcc
    have hcc' : cellsAt h' b o (l.length * 5) = some (vcells l) := by rw [cellsAt_keep hf hb id]; exact hcc
    haveI := val_key hcc' rfl hlt
    haveI := val_cells hcc' rfl hlt
    obtain ⟨Y, hY⟩ : ∃ Y, keepS c (l.getD k zVal) = Y := ⟨_, rfl⟩
    have hs := same_keyL (l.getD k zVal) c
    cases put
    case' true =>
      have ho1 := ho
      have hnew1 := hnew
      have f1 := hf
      have g1 := gk
      have hn1 := hn
      have hol1 : out.length ≤ 2 * k + 1 := by omega
      have heq1 : out ++ (Y ++ chgS c true (l.drop (k + 1))) = chgS c (decide (c.p = 0)) l := by
        rw [chgS_T c hlt, hY] at heq
        exact heq
      generalize hout : out = out1 at ho1 hol1 heq1
      refine stp ?_
    case' false =>
      refine stp ?_
      refine D.howT (XOp.mkIndexSl (by omega)) rfl ?_
      refine stp ?_
      refine D.callT (Less_ok) (fun _ _ _ => rfl) (fun r h1 hr => ?_)
      obtain ⟨rfl, hf1⟩ := hr
      have n1 := hf1.n
      rw [keyLt_L c (l.getD k zVal)]
      have gk1 := hf1.keep gk hn id
      have ho0 := ho.keep hf1 fun _ _ => id
      haveI := gk1
      haveI : BLt h.n h1 := ⟨by omega⟩
      refine stp ?_
      refine C.if (fun hc1 => ?_) (fun hc1 => ?_)
    case' false.refine_1 =>
      refine stp ?_
      refine O.append (ho0.keep (S := fun _ => False) Fr.refl.push fun _ _ => id) (one_val (c := c.cells) rfl) rfl rfl (by omega) (by omega) (by omega) (fun v2 h2 ho2 hf2 hn2 => ?_)
      have n2 := hf2.n
      simp only [Heap.n_push] at n2
      have ho1 : Own h2 5 v2 (vcells (out ++ [c])) (out ++ [c]).length := by
        rw [vcells_append, List.length_append]; exact ho2
      have hnew1 : ∀ i, ownedBy v2 i → h.n < i := fun i hi => by
        rcases hn2 i hi with e | e
        · exact hnew i e
        · simp at e; omega
      have f1 : Fr (fun _ => False) h h2 := Fr.trans (S := fun _ => False) ((hf.trans' hf1).push) hf2 fun i hi e => by have := hnew i e; omega
      have g1 : HGet h2 h.n (.cells c.cells 0) := hf2.keep (b := h.n) (HGet.push (k := ⟨by omega⟩)) (by simp; omega) fun e => by have := hnew _ e; omega
      have hn1 : h.n < h2.n := by omega
      have hol1 : (out ++ [c]).length ≤ 2 * k + 1 := by simp; omega
      have heq1 : (out ++ [c]) ++ (Y ++ chgS c true (l.drop (k + 1))) = chgS c (decide (c.p = 0)) l := by
        rw [chgS_F1 c hlt hc1, hY] at heq
        rw [List.append_assoc]
        exact heq
      have hcc2 : cellsAt h2 b o (l.length * 5) = some (vcells l) := by rw [cellsAt_keep f1 hb id]; exact hcl'
      haveI := val_key hcc2 rfl hlt
      haveI := val_cells hcc2 rfl hlt
      haveI := g1
      haveI : BLt h.n h2 := ⟨hn1⟩
      generalize hout : out ++ [c] = out1 at ho1 hol1 heq1
      refine stp ?_
    case' false.refine_2 =>
      have ho1 := ho0
      have hnew1 := hnew
      have f1 := hf.trans' hf1
      have g1 := gk1
      have hn1 : h.n < h1.n := by omega
      have hol1 : out.length ≤ 2 * k + 1 := by omega
      have heq1 : out ++ (Y ++ chgS c false (l.drop (k + 1))) = chgS c (decide (c.p = 0)) l := by
        rw [chgS_F2 c hlt hc1, hY] at heq
        exact heq
      have hcc2 : cellsAt h1 b o (l.length * 5) = some (vcells l) := by rw [cellsAt_keep f1 hb id]; exact hcl'
      haveI := val_key hcc2 rfl hlt
      haveI := val_cells hcc2 rfl hlt
      generalize hout : out = out1 at ho1 hol1 heq1
      refine stp ?_
    all_goals
      rw [hs]
      refine C.ifN (fun hy => ?_) (fun hy => ?_)
    any_goals
      rw [keepS_same hy] at hY
      rw [← hY, List.nil_append] at heq1
      refine stp ?_
      exact zpQ_l0_again (l.length - (k + 1)) (by omega) ⟨k + 1, out1, _, by omega, rfl, rfl, rfl, ho1, hnew1, heq1, by omega, g1, hn1, f1⟩
    all_goals
      rw [keepS_other hy] at hY
      rw [← hY] at heq1
      refine stp ?_
      refine O.append (ho1.keep (S := fun _ => False) Fr.refl.push fun _ _ => id) (one_val (c := (l.getD k zVal).cells) rfl) rfl rfl (by omega) (by omega) (by omega) (fun v3 h3 ho3 hf3 hn3 => ?_)
      have n3 := hf3.n
      simp only [Heap.n_push] at n3
      refine stp ?_
      refine zpQ_l0_again (l.length - (k + 1)) (by omega) ⟨k + 1, out1 ++ [l.getD k zVal], _, by omega, rfl, rfl, rfl, ?_, fun i hi => ?_, ?_, ?_, hf3.keep (b := h.n) (HGet.push (k := ⟨by omega⟩)) (by simp; omega) fun e => ?_, by omega, Fr.trans (S := fun _ => False) f1.push hf3 fun i hi e => ?_⟩
      · rw [vcells_append, List.length_append]; exact ho3
      · rcases hn3 i hi with e | e
        · exact hnew1 i e
        · simp at e; omega
      · rw [List.append_assoc]; exact heq1
      · rw [List.length_append, List.length_singleton]; omega
      · have := hnew1 _ e; omega
      · have := hnew1 i e; omega
  · obtain rfl : k = l.length := by omega
    rw [chgS_end] at heq
    refine stp ?_
    cases put
    · refine stp ?_
      refine O.append (ho.keep (S := fun _ => False) Fr.refl.push fun _ _ => id) (one_val (c := c.cells) rfl) rfl rfl (by omega) (by omega) (by omega) (fun v3 h3 ho3 hf3 hn3 => ?_)
      refine stp ?_
      have heq : out ++ [c] = chgS c (decide (c.p = 0)) l := heq
      rw [← heq]
      refine ⟨?_, fun i hi => ?_, Fr.trans (S := fun _ => False) hf.push hf3 fun i hi e => ?_⟩
      · rw [vcells_append, List.length_append]; exact ho3
      · rcases hn3 i hi with e | e
        · have := hnew i e; omega
        · simp at e; omega
      · have := hnew i e; omega
    · refine stp ?_
      have heq : out ++ [] = chgS c (decide (c.p = 0)) l := heq
      rw [List.append_nil] at heq
      rw [← heq]
      exact ⟨ho, fun i hi => by have := hnew i hi; omega, hf⟩
end Go.Proofs.Ytmfaepkmiceoeaa.A

namespace Go.Proofs.Ytmfaepkmiceoeaa.A
open Go Go.Vm
set_option maxRecDepth 10000
set_option linter.unusedVariables false
theorem chgS_cons (c v : Val) (put : Bool) (l : List Val) : chgS c put (v :: l) = (if !put && decide (kn c < kn v) then [c] else []) ++ (keepS c v ++ chgS c (put || decide (kn c < kn v)) l) := by
  unfold keepS
  rw [chgS]
theorem chgS_low {c : Val} {put : Bool} : ∀ {A l : List Val}, (∀ v ∈ A, kn v < kn c) → chgS c put (A ++ l) = A ++ chgS c put l
  | [], l, _ => by rw [List.nil_append, List.nil_append]
  | v :: A, l, h => by
    have hv := h v (by simp)
    rw [List.cons_append, chgS_cons, keepS_other (by omega), decide_eq_false (by omega), Bool.and_false, Bool.or_false, if_neg Bool.false_ne_true, List.nil_append, chgS_low (A := A) fun w hw => h w (by simp [hw]), List.singleton_append, List.cons_append]
theorem chgS_up {c : Val} : ∀ {l : List Val}, (∀ v ∈ l, kn c < kn v) → chgS c true l = l
  | [], _ => rfl
  | v :: l, h => by
    have hv := h v (by simp)
    rw [chgS_cons, keepS_other (by omega), Bool.not_true, Bool.false_and, Bool.true_or, if_neg Bool.false_ne_true, List.nil_append, chgS_up fun w hw => h w (by simp [hw]), List.singleton_append]
theorem chgS_high {c : Val} {put : Bool} : ∀ {l : List Val}, (∀ v ∈ l, kn c < kn v) → chgS c put l = (if put then [] else [c]) ++ l
  | [], _ => by rw [chgS, List.append_nil]
  | v :: l, h => by
    have hv := h v (by simp)
    have hl : ∀ w ∈ l, kn c < kn w := fun w hw => h w (by simp [hw])
    rw [chgS_cons, keepS_other (by omega), decide_eq_true hv, Bool.or_true, chgS_up hl, List.singleton_append]
    cases put
    · rw [Bool.not_false, Bool.true_and, if_pos rfl, if_neg Bool.false_ne_true]
    · rw [Bool.not_true, Bool.false_and, if_neg Bool.false_ne_true, if_pos rfl]
theorem chgS_head {c v : Val} {put : Bool} {l : List Val} (hv : kn v = kn c) (h : ∀ w ∈ l, kn c < kn w) : chgS c put (v :: l) = (if put then [] else [c]) ++ l := by
  rw [chgS_cons, keepS_same hv, decide_eq_false (by omega), Bool.and_false, Bool.or_false, if_neg Bool.false_ne_true, List.nil_append, List.nil_append, chgS_high h]
def allS (l cs : List Val) : List Val := cs.foldl (fun o c => chgS c (decide (c.p = 0)) o) l
theorem allS_low : ∀ {cs A l : List Val}, (∀ c ∈ cs, ∀ v ∈ A, kn v < kn c) → allS (A ++ l) cs = A ++ allS l cs
  | [], A, l, _ => rfl
  | c :: cs, A, l, h => by
    show allS (chgS c (decide (c.p = 0)) (A ++ l)) cs = A ++ allS (chgS c (decide (c.p = 0)) l) cs
    rw [chgS_low (h c (by simp)), allS_low fun d hd => h d (by simp [hd])]
end Go.Proofs.Ytmfaepkmiceoeaa.A

namespace Go.Proofs.Ytmfaepkmiceoeaa.A
open Go Go.Vm
set_option maxRecDepth 10000
set_option linter.unusedVariables false
def skipS (c : Val) : List Val → List Val
  | [] => []
  | v :: l => if kn v = kn c then l else v :: l
def belowS (c v : Val) : Bool := decide (kn v < kn c)
def mergeS : List Val → List Val → List Val
  | l, [] => l
  | l, c :: cs => l.takeWhile (belowS c) ++ c :: mergeS (skipS c (l.dropWhile (belowS c))) cs
def powS (v : Val) : Bool := decide (0 < v.p)
theorem take_below {c : Val} : ∀ {l : List Val}, ∀ v ∈ l.takeWhile (belowS c), kn v < kn c
  | [], v, h => by simp at h
  | w :: l, v, h => by
    rw [List.takeWhile_cons] at h
    by_cases hw : belowS c w = true
    · rw [if_pos hw] at h
      rcases List.mem_cons.1 h with rfl | h
      · exact of_decide_eq_true hw
      · exact take_below v h
    · rw [if_neg hw] at h
      simp at h
theorem drop_above {c : Val} : ∀ {l : List Val}, l.Pairwise (fun a b => kn a < kn b) → ∀ v ∈ l.dropWhile (belowS c), ¬ kn v < kn c
  | [], _, v, h => by simp at h
  | w :: l, hp, v, h => by
    rw [List.dropWhile_cons] at h
    by_cases hw : belowS c w = true
    · rw [if_pos hw] at h
      exact drop_above hp.of_cons v h
    · rw [if_neg hw] at h
      have hw : ¬ kn w < kn c := fun h2 => hw (decide_eq_true h2)
      rcases List.mem_cons.1 h with rfl | h
      · exact hw
      · have := (List.pairwise_cons.1 hp).1 v h
        omega
theorem chgS_from {c : Val} {put : Bool} {l : List Val} (hp : l.Pairwise (fun a b => kn a < kn b)) (h : ∀ v ∈ l, ¬ kn v < kn c) : chgS c put l = (if put then [] else [c]) ++ skipS c l := by
  cases l with
  | nil => rw [chgS, skipS, List.append_nil]
  | cons v l =>
    have hv := h v (by simp)
    have ht := (List.pairwise_cons.1 hp).1
    by_cases he : kn v = kn c
    · rw [chgS_head he fun w hw => by have := ht w hw; omega, skipS, if_pos he]
    · rw [chgS_high fun w hw => ?_, skipS, if_neg he]
      rcases List.mem_cons.1 hw with rfl | hw
      · omega
      · have := ht w hw; omega
theorem skipS_sub (c : Val) (l : List Val) : (skipS c l).Sublist l := by
  cases l with
  | nil => exact List.Sublist.refl _
  | cons v l =>
    rw [skipS]
    split
    · exact List.sublist_cons_self _ _
    · exact List.Sublist.refl _
theorem allS_merge : ∀ {cs l : List Val}, l.Pairwise (fun a b => kn a < kn b) → cs.Pairwise (fun a b => kn a < kn b) → (∀ v ∈ l, 1 ≤ v.p) → (∀ c ∈ cs, 0 ≤ c.p) → allS l cs = (mergeS l cs).filter powS
  | [], l, _, _, h1, _ => by
    show l = l.filter powS
    rw [List.filter_eq_self.2]
    intro v hv
    have := h1 v hv
    exact decide_eq_true (by omega)
  | c :: cs, l, hl, hc, h1, h2 => by
    have hA : ∀ v ∈ l.takeWhile (belowS c), kn v < kn c := take_below
    have hcs := (List.pairwise_cons.1 hc).1
    have hsub := (skipS_sub c (l.dropWhile (belowS c))).trans (List.dropWhile_sublist (belowS c))
    have hc0 := h2 c (by simp)
    have ih := allS_merge (cs := cs) (l := skipS c (l.dropWhile (belowS c))) (hl.sublist hsub) hc.of_cons (fun v hv => h1 v (hsub.subset hv)) (fun d hd => h2 d (by simp [hd]))
    rw [mergeS, List.filter_append, List.filter_cons, ← ih]
    have hpow : ∀ v ∈ l.takeWhile (belowS c), powS v = true := fun v hv => by
      have := h1 v ((List.takeWhile_sublist _).subset hv)
      exact decide_eq_true (by omega)
    rw [List.filter_eq_self.2 hpow]
    show allS (chgS c (decide (c.p = 0)) l) cs = _
    conv => lhs; rw [← List.takeWhile_append_dropWhile (p := belowS c) (l := l)]
    rw [chgS_low hA, allS_low fun d hd v hv => by have := hcs d hd; have := hA v hv; omega]
    rw [chgS_from (hl.sublist (List.dropWhile_sublist _)) (drop_above hl)]
    congr 1
    by_cases h0 : c.p = 0
    · rw [decide_eq_true h0, if_pos rfl, List.nil_append, if_neg (by unfold powS; rw [decide_eq_false (by omega)]; exact Bool.false_ne_true)]
    · rw [decide_eq_false h0, if_neg Bool.false_ne_true, if_pos (by unfold powS; exact decide_eq_true (by omega))]
      exact allS_low fun d hd v hv => by
        obtain rfl := List.mem_singleton.1 hv
        exact hcs d hd
end Go.Proofs.Ytmfaepkmiceoeaa.A

namespace Go.Proofs.Ytmfaepkmiceoeaa.A
open Go Go.Vm
set_option maxRecDepth 10000
set_option linter.unusedVariables false
def chkC (l : List Val) : Option Val → List Val → Int
  | _, [] => 0
  | last, c :: cs => if (match last with | none => false | some x => !keyLt x.key c.key) = true then 9 else if c.p < 0 ∨ 4611686018427387904 < c.p then 3 else if c.p = 0 ∧ (findN l c).isSome = false then 10 else chkC l (some c) cs
theorem chkC_at {l cs : List Val} {k : Nat} (hk : k < cs.length) : chkC l (lastV cs k) (cs.drop k) =
    if (match lastV cs k with | none => false | some x => !keyLt x.key (cs.getD k zVal).key) = true then 9 else if (cs.getD k zVal).p < 0 ∨ 4611686018427387904 < (cs.getD k zVal).p then 3 else if (cs.getD k zVal).p = 0 ∧ (findN l (cs.getD k zVal)).isSome = false then 10 else chkC l (lastV cs (k + 1)) (cs.drop (k + 1)) := by
  rw [drop_getD hk]
  rfl
theorem chkC_atS {l cs : List Val} {k : Nat} {x : Val} (hk : k < cs.length) (hx : 0 < k → lastV cs k = some x) :
    chkC l (lastV cs k) (cs.drop k) = if atS x (decide (0 < k)) 0 4611686018427387904 (cs.getD k zVal) = 0 then (if (cs.getD k zVal).p = 0 ∧ (findN l (cs.getD k zVal)).isSome = false then 10 else chkC l (lastV cs (k + 1)) (cs.drop (k + 1))) else atS x (decide (0 < k)) 0 4611686018427387904 (cs.getD k zVal) := by
  rw [chkC_at hk]
  by_cases h0 : 0 < k
  · rw [hx h0]
    unfold atS
    simp only [decide_eq_true h0, Bool.true_and]
    split
    · rfl
    · split
      · rfl
      · rfl
  · obtain rfl : k = 0 := by omega
    unfold atS
    simp only [lastV, if_true, Nat.lt_irrefl, decide_false, Bool.false_and, Bool.false_eq_true, if_false]
    split
    · rfl
    · rfl
def changeS (l cs : List Val) : Int × List Val :=
  if checkV l ≠ 0 then (checkV l, []) else if chkC l none cs ≠ 0 then (chkC l none cs, []) else if (allS l cs).length = 0 then (6, []) else if 64 < (allS l cs).length then (7, []) else (0, allS l cs)
theorem chgS_len (c : Val) : ∀ (put : Bool) (l : List Val), (chgS c put l).length ≤ l.length + (if put then 0 else 1)
  | true, [] => by simp [chgS]
  | false, [] => by simp [chgS]
  | put, v :: l => by
    have ih := chgS_len c (put || decide (kn c < kn v)) l
    rw [chgS_cons]
    simp only [List.length_append, List.length_cons]
    have hk : (keepS c v).length ≤ 1 := by
      unfold keepS; split <;> simp
    cases put with
    | true => simp at ih ⊢; omega
    | false =>
      by_cases h : kn c < kn v
      · simp [h] at ih ⊢; omega
      · simp [h] at ih ⊢; omega
theorem allS_snoc (l cs : List Val) (c : Val) : allS l (cs ++ [c]) = chgS c (decide (c.p = 0)) (allS l cs) := by
  unfold allS
  rw [List.foldl_append]
  rfl
theorem allS_take {l cs : List Val} {k : Nat} (hk : k < cs.length) : allS l (cs.take (k + 1)) = chgS (cs.getD k zVal) (decide ((cs.getD k zVal).p = 0)) (allS l (cs.take k)) := by
  have : cs.take (k + 1) = cs.take k ++ [cs.getD k zVal] := by
    rw [List.take_succ_eq_append_getElem hk]
    simp [List.getD, hk]
  rw [this, allS_snoc]
theorem allS_len : ∀ (cs l : List Val), (allS l cs).length ≤ l.length + cs.length
  | [], l => by simp [allS]
  | c :: cs, l => by
    have h1 := allS_len cs (chgS c (decide (c.p = 0)) l)
    have h2 := chgS_len c (decide (c.p = 0)) l
    have h3 : allS l (c :: cs) = allS (chgS c (decide (c.p = 0)) l) cs := rfl
    rw [h3, List.length_cons]
    split at h2 <;> omega
end Go.Proofs.Ytmfaepkmiceoeaa.A
