/- Contracts of functions, over the machine. -/
import Derived.Test.YtbmpalbdbcjieaaGreatQBlockDecodes2
import Derived.Test.YtbmpalbdbcjieaaGreatRows
import Derived.Test.YtbmpalbdbcjieaaGreatVJ
noncomputable section
set_option maxRecDepth 100000
set_option linter.unusedVariables false
namespace Go.Proofs.YtbmpalbdbcjieaaGreat.A
open Go Go.Vm
abbrev ty_internal_abi_BoundsErrorCode : TypeId := 6
abbrev ty_runtime_boundsError : TypeId := 8
abbrev ty_runtime_errorString : TypeId := 10
abbrev ty_runtime_plainError : TypeId := 11
abbrev ty_runtime_errorAddressString : TypeId := 14
abbrev ty_internal_runtime_maps_unhashableTypeError : TypeId := 19
abbrev ty_api_Hash : TypeId := 23
abbrev ty_api_Header : TypeId := 25
abbrev ty_api_Commit : TypeId := 31
abbrev ty_api_Block : TypeId := 33
abbrev ty_api_Errno : TypeId := 34
abbrev ty_api_Fault : TypeId := 44
abbrev ty_api_Key : TypeId := 64
abbrev ty_api_Validator : TypeId := 66
abbrev ty_lr04_Reader : TypeId := 83
abbrev ty_iter_Seq_api_Errno_ : TypeId := 91
abbrev ty_api_Vote : TypeId := 109
abbrev ty_wire_Reader : TypeId := 115
abbrev ty_wire_Writer : TypeId := 137
abbrev ty_vals_look : TypeId := 143
abbrev ty_lr04_Writer : TypeId := 147
abbrev ty_header_rule : TypeId := 168
abbrev ty_blake_words : TypeId := 189
abbrev ty_blake_counter : TypeId := 193
abbrev ty_blake_State : TypeId := 195
abbrev ty_wire_wrong : TypeId := 203
abbrev ty_blake_four : TypeId := 211
abbrev ty_runtime_TypeAssertionError : TypeId := 222
abbrev ty_runtime_PanicNilError : TypeId := 225
abbrev ty_internal_abi_TFlag : TypeId := 226
abbrev ty_internal_abi_Kind : TypeId := 227
abbrev ty_internal_abi_NameOff : TypeId := 230
abbrev ty_internal_abi_TypeOff : TypeId := 231
abbrev ty_internal_abi_Type : TypeId := 233
instance : IsIface Tryz.prog 20 := ⟨by kernel_rfl⟩
abbrev prims : List FuncId := [7]
abbrev kepts : List FuncId := [17]
def T0 : Table := withKept (withTrue Tryz.prog prims) kepts
theorem zqbQ_known {h : Heap} : Runs Tryz.prog T0 (.fn 7) [] h (fun r h' => r = .bool true ∧ h' = h) (fun _ _ => False) := known_runs rfl
instance : IsBoolT Tryz.prog 4 := ⟨by kernel_rfl⟩
instance : TLeaves Tryz.prog 7 (.i .i64 :: (.i .i64 :: (.b :: (.i .u8 :: [])))) := ⟨by kernel_rfl, by kernel_rfl, by kernel_rfl⟩
instance : TLeaves Tryz.prog 8 (.i .i64 :: (.i .i64 :: (.b :: (.i .u8 :: [])))) := ⟨by kernel_rfl, by kernel_rfl, by kernel_rfl⟩
instance : TLeaves Tryz.prog 22 (u8s 32) := ⟨by kernel_rfl, by kernel_rfl, by kernel_rfl⟩
instance : TLeaves Tryz.prog 23 (u8s 32) := ⟨by kernel_rfl, by kernel_rfl, by kernel_rfl⟩
instance : TLeaves Tryz.prog 24 (.s :: (.i .i64 :: (.i .i64 :: (u8s 32 ++ (u8s 32 ++ (u8s 32 ++ (u8s 32))))))) := ⟨by kernel_rfl, by kernel_rfl, by kernel_rfl⟩
instance : TLeaves Tryz.prog 25 (.s :: (.i .i64 :: (.i .i64 :: (u8s 32 ++ (u8s 32 ++ (u8s 32 ++ (u8s 32))))))) := ⟨by kernel_rfl, by kernel_rfl, by kernel_rfl⟩
instance : TLeaves Tryz.prog 43 (.i .i64 :: (.i .i64 :: [])) := ⟨by kernel_rfl, by kernel_rfl, by kernel_rfl⟩
instance : TLeaves Tryz.prog 44 (.i .i64 :: (.i .i64 :: [])) := ⟨by kernel_rfl, by kernel_rfl, by kernel_rfl⟩
instance : TLeaves Tryz.prog 63 (u8s 4) := ⟨by kernel_rfl, by kernel_rfl, by kernel_rfl⟩
instance : TLeaves Tryz.prog 64 (u8s 4) := ⟨by kernel_rfl, by kernel_rfl, by kernel_rfl⟩
instance : TLeaves Tryz.prog 65 (u8s 4 ++ (.i .i64 :: [])) := ⟨by kernel_rfl, by kernel_rfl, by kernel_rfl⟩
instance : TLeaves Tryz.prog 66 (u8s 4 ++ (.i .i64 :: [])) := ⟨by kernel_rfl, by kernel_rfl, by kernel_rfl⟩
instance : TLeaves Tryz.prog 108 (.i .i64 :: (.i .u64 :: [])) := ⟨by kernel_rfl, by kernel_rfl, by kernel_rfl⟩
instance : TLeaves Tryz.prog 109 (.i .i64 :: (.i .u64 :: [])) := ⟨by kernel_rfl, by kernel_rfl, by kernel_rfl⟩
instance : TLeaves Tryz.prog 142 (u8s 4 ++ (.b :: (.i .i64 :: (.i .i64 :: [])))) := ⟨by kernel_rfl, by kernel_rfl, by kernel_rfl⟩
instance : TLeaves Tryz.prog 143 (u8s 4 ++ (.b :: (.i .i64 :: (.i .i64 :: [])))) := ⟨by kernel_rfl, by kernel_rfl, by kernel_rfl⟩
instance : TLeaves Tryz.prog 152 (.i .u32 :: (.i .u32 :: (.i .u32 :: (.i .u32 :: (.i .u32 :: (.i .u32 :: (.i .u32 :: (.i .u32 :: [])))))))) := ⟨by kernel_rfl, by kernel_rfl, by kernel_rfl⟩
instance : TLeaves Tryz.prog 181 (u8s 4 ++ (u8s 4)) := ⟨by kernel_rfl, by kernel_rfl, by kernel_rfl⟩
instance : TLeaves Tryz.prog 185 (u8s 4 ++ (u8s 4 ++ (.i .u8 :: []))) := ⟨by kernel_rfl, by kernel_rfl, by kernel_rfl⟩
instance : TLeaves Tryz.prog 189 (.i .u32 :: (.i .u32 :: (.i .u32 :: (.i .u32 :: (.i .u32 :: (.i .u32 :: (.i .u32 :: (.i .u32 :: [])))))))) := ⟨by kernel_rfl, by kernel_rfl, by kernel_rfl⟩
instance : TLeaves Tryz.prog 192 (.i .i64 :: []) := ⟨by kernel_rfl, by kernel_rfl, by kernel_rfl⟩
instance : TLeaves Tryz.prog 193 (.i .i64 :: []) := ⟨by kernel_rfl, by kernel_rfl, by kernel_rfl⟩
instance : TLeaves Tryz.prog 198 (.i .u32 :: (.i .u32 :: (.i .u32 :: (.i .u32 :: (.i .u32 :: (.i .u32 :: (.i .u32 :: (.i .u32 :: (.i .u32 :: (.i .u32 :: (.i .u32 :: (.i .u32 :: (.i .u32 :: (.i .u32 :: (.i .u32 :: (.i .u32 :: [])))))))))))))))) := ⟨by kernel_rfl, by kernel_rfl, by kernel_rfl⟩
instance : TLeaves Tryz.prog 199 (.i .i64 :: (.i .i64 :: (.i .i64 :: (.i .i64 :: (.i .i64 :: (.i .i64 :: (.i .i64 :: (.i .i64 :: (.i .i64 :: (.i .i64 :: (.i .i64 :: (.i .i64 :: (.i .i64 :: (.i .i64 :: (.i .i64 :: (.i .i64 :: [])))))))))))))))) := ⟨by kernel_rfl, by kernel_rfl, by kernel_rfl⟩
instance : TLeaves Tryz.prog 202 (.i .i64 :: (.i .i64 :: [])) := ⟨by kernel_rfl, by kernel_rfl, by kernel_rfl⟩
instance : TLeaves Tryz.prog 203 (.i .i64 :: (.i .i64 :: [])) := ⟨by kernel_rfl, by kernel_rfl, by kernel_rfl⟩
instance : TLeaves Tryz.prog 212 (.i .i64 :: (.i .i64 :: (.i .i64 :: (.i .i64 :: (.i .i64 :: (.i .i64 :: (.i .i64 :: (.i .i64 :: (.i .i64 :: (.i .i64 :: (.i .i64 :: (.i .i64 :: (.i .i64 :: (.i .i64 :: (.i .i64 :: (.i .i64 :: (.i .i64 :: (.i .i64 :: (.i .i64 :: (.i .i64 :: (.i .i64 :: (.i .i64 :: (.i .i64 :: (.i .i64 :: (.i .i64 :: (.i .i64 :: (.i .i64 :: (.i .i64 :: (.i .i64 :: (.i .i64 :: (.i .i64 :: (.i .i64 :: (.i .i64 :: (.i .i64 :: (.i .i64 :: (.i .i64 :: (.i .i64 :: (.i .i64 :: (.i .i64 :: (.i .i64 :: (.i .i64 :: (.i .i64 :: (.i .i64 :: (.i .i64 :: (.i .i64 :: (.i .i64 :: (.i .i64 :: (.i .i64 :: (.i .i64 :: (.i .i64 :: (.i .i64 :: (.i .i64 :: (.i .i64 :: (.i .i64 :: (.i .i64 :: (.i .i64 :: (.i .i64 :: (.i .i64 :: (.i .i64 :: (.i .i64 :: (.i .i64 :: (.i .i64 :: (.i .i64 :: (.i .i64 :: (.i .i64 :: (.i .i64 :: (.i .i64 :: (.i .i64 :: (.i .i64 :: (.i .i64 :: (.i .i64 :: (.i .i64 :: (.i .i64 :: (.i .i64 :: (.i .i64 :: (.i .i64 :: (.i .i64 :: (.i .i64 :: (.i .i64 :: (.i .i64 :: (.i .i64 :: (.i .i64 :: (.i .i64 :: (.i .i64 :: (.i .i64 :: (.i .i64 :: (.i .i64 :: (.i .i64 :: (.i .i64 :: (.i .i64 :: (.i .i64 :: (.i .i64 :: (.i .i64 :: (.i .i64 :: (.i .i64 :: (.i .i64 :: (.i .i64 :: (.i .i64 :: (.i .i64 :: (.i .i64 :: (.i .i64 :: (.i .i64 :: (.i .i64 :: (.i .i64 :: (.i .i64 :: (.i .i64 :: (.i .i64 :: (.i .i64 :: (.i .i64 :: (.i .i64 :: (.i .i64 :: (.i .i64 :: (.i .i64 :: (.i .i64 :: (.i .i64 :: (.i .i64 :: (.i .i64 :: (.i .i64 :: (.i .i64 :: (.i .i64 :: (.i .i64 :: (.i .i64 :: (.i .i64 :: (.i .i64 :: (.i .i64 :: (.i .i64 :: (.i .i64 :: (.i .i64 :: (.i .i64 :: (.i .i64 :: (.i .i64 :: (.i .i64 :: (.i .i64 :: (.i .i64 :: (.i .i64 :: (.i .i64 :: (.i .i64 :: (.i .i64 :: (.i .i64 :: (.i .i64 :: (.i .i64 :: (.i .i64 :: (.i .i64 :: (.i .i64 :: (.i .i64 :: (.i .i64 :: (.i .i64 :: (.i .i64 :: (.i .i64 :: (.i .i64 :: (.i .i64 :: (.i .i64 :: (.i .i64 :: (.i .i64 :: (.i .i64 :: (.i .i64 :: (.i .i64 :: (.i .i64 :: (.i .i64 :: (.i .i64 :: [])))))))))))))))))))))))))))))))))))))))))))))))))))))))))))))))))))))))))))))))))))))))))))))))))))))))))))))))))))))))))))))))))))))))))))))))))))))))))))))))) := ⟨by kernel_rfl, by kernel_rfl, by kernel_rfl⟩
abbrev fn_zpbQ : FuncId := 4
def zpbQ_c : ACode :=
 (.seq (.region [
 o1 2 (.mov (.const (.bool false)))]) (.seq (.seq (.region [
 o1 9 (.mov (tm 0)),
 o1 10 (.lenSl (tm 9)),
 o1 11 (.bin .gtr (so (.binOp .gtr 3 (tm 10) (.const (.int .i64 2500)) 3) 4) (tm 10) (.const (.int .i64 2500)))]) (.cond (tm 11)
 (.seq (.region [
 o1 12 (.callV (.func 7) []),
 o1 2 (.mov (tm 12))]) .ret)
 .skip)) (.seq (.region [
 o1 13 (.mov (tm 0)),
 o1 14 (.callV (.func 14) [(tm 13)]),
 o1 3 (.mov (tm 14))]) (.seq (.region [
 o1 16 (.mov (tm 3)),
 o1 17 (.callV (.func 15) [(tm 16)]),
 o1 15 (.mov (tm 17)),
 o1 18 (.extract 0 (tm 15)),
 o1 19 (.extract 1 (tm 15)),
 o1 4 (.alloc 33 ((.string ⟨⟨[]⟩⟩) :: ((.int .i64 0) :: ((.int .i64 0) :: (z32 ++ (z32 ++ (z32 ++ (z32 ++ ((.int .i64 0) :: (z32 ++ [(.slice none 0 0), (.slice none 0 0)])))))))))),
 o1 5 (.alloc 44 [(.int .i64 0), (.int .i64 0)]),
 o3 (.store 166 (tm 4) (tm 18)),
 o3 (.store 2 (tm 5) (tm 19))]) (.seq (.region [
 o1 21 (.mov (tm 0)),
 o1 22 (.callV (.func 16) [(tm 21)]),
 o1 20 (.mov (tm 22)),
 o1 23 (.extract 0 (tm 20)),
 o1 24 (.extract 1 (tm 20)),
 o1 6 (.alloc 33 ((.string ⟨⟨[]⟩⟩) :: ((.int .i64 0) :: ((.int .i64 0) :: (z32 ++ (z32 ++ (z32 ++ (z32 ++ ((.int .i64 0) :: (z32 ++ [(.slice none 0 0), (.slice none 0 0)])))))))))),
 o1 7 (.alloc 44 [(.int .i64 0), (.int .i64 0)]),
 o3 (.store 166 (tm 6) (tm 23)),
 o3 (.store 2 (tm 7) (tm 24))]) (.seq (.region [
 o1 25 (.load (some 166) (tm 4)),
 o1 26 (.load (some 166) (tm 6)),
 o1 27 (.callV (.func 11) [(tm 25), (tm 26)]),
 o1 28 (.mov (tm 27)),
 o4 29 (.load (some 2) (tm 5)) 28,
 o4 30 (.load (some 2) (tm 7)) 28,
 o4 31 (.bin .eql (so (.binOp .eql 44 (tm 29) (tm 30) 44) 4) (tm 29) (tm 30)) 28,
 o1 32 (.pick (tm 28) (tm 31) (.const (.bool false))),
 o1 8 (.mov (tm 32))]) (.seq (.region [
 o1 33 (.load (some 166) (tm 4)),
 o1 34 (.callV (.func 12) [(tm 33)])]) (.seq (.region [
 o1 35 (.mov (tm 8)),
 o1 36 (.mov (tm 35)),
 o4 37 (.mov (tm 3)) 36,
 o4 38 (.mov (tm 0)) 36,
 o4 39 (.callV (.func 17) [(tm 37), (tm 38)]) 36,
 o1 40 (.pick (tm 36) (tm 39) (.const (.bool false))),
 o1 41 (.mov (tm 40)),
 o4 42 (.callV (.func 7) []) 41,
 o1 43 (.pick (tm 41) (tm 42) (.const (.bool false))),
 o1 2 (.mov (tm 43))]) .ret))))))))
def zpbQ : AFunc := ⟨44, [(2, none)], zpbQ_c, none⟩
theorem zpbQ_t0 : tableOf Tryz.prog 4 = some zpbQ := by kernel_rfl
theorem zpbQ_t : T0 4 = some zpbQ := withKept_t rfl (withTrue_t rfl zpbQ_t0)
theorem zpbQ_runs {v0 : Value} {h : Heap} {R : RP} {X : XP} (k : RunC Tryz.prog T0 zpbQ_c ⟨[v0, U, U, U, U, U, U, U, U, U, U, U, U, U, U, U, U, U, U, U, U, U, U, U, U, U, U, U, U, U, U, U, U, U, U, U, U, U, U, U, U, U, U, U], [], h, none⟩ (bodyQ Tryz.prog T0 [(2, none)] R X)) :
 Runs Tryz.prog T0 (.fn 4) [v0] h R X := Runs.fn zpbQ_t rfl k
abbrev fn_zlbQ : FuncId := 11
def zlbQ_c : ACode :=
 (.seq (.region [
 o1 2 (.box 33 (tm 0)),
 o1 3 (.box 33 (tm 1)),
 o1 4 (.mov (.const (.bool false)))]) (.seq (.region [
 o1 5 (.fieldAddr 0 (tm 2)),
 o1 6 (.load (some 131) (tm 5)),
 o1 7 (.fieldAddr 0 (tm 3)),
 o1 8 (.load (some 131) (tm 7)),
 o1 9 (.bin .eql (so (.binOp .eql 25 (tm 6) (tm 8) 25) 4) (tm 6) (tm 8)),
 o1 10 (.mov (tm 9)),
 o4 11 (.fieldAddr 131 (tm 2)) 10,
 o4 12 (.load (some 34) (tm 11)) 10,
 o4 13 (.fieldAddr 131 (tm 3)) 10,
 o4 14 (.load (some 34) (tm 13)) 10,
 o4 15 (.callV (.func 38) [(tm 12), (tm 14)]) 10,
 o1 16 (.pick (tm 10) (tm 15) (.const (.bool false))),
 o1 17 (.mov (tm 16)),
 o4 18 (.fieldAddr 165 (tm 2)) 17,
 o4 19 (.load none (tm 18)) 17,
 o4 20 (.fieldAddr 165 (tm 3)) 17,
 o4 21 (.load none (tm 20)) 17,
 o4 22 (.callV (.func 13) [(tm 19), (tm 21)]) 17,
 o1 23 (.pick (tm 17) (tm 22) (.const (.bool false))),
 o1 4 (.mov (tm 23))]) .ret))
def zlbQ : AFunc := ⟨24, [(4, none)], zlbQ_c, none⟩
theorem zlbQ_t0 : tableOf Tryz.prog 11 = some zlbQ := by kernel_rfl
theorem zlbQ_t : T0 11 = some zlbQ := withKept_t rfl (withTrue_t rfl zlbQ_t0)
theorem zlbQ_runs {v0 v1 : Value} {h : Heap} {R : RP} {X : XP} (k : RunC Tryz.prog T0 zlbQ_c ⟨[v0, v1, U, U, U, U, U, U, U, U, U, U, U, U, U, U, U, U, U, U, U, U, U, U], [], h, none⟩ (bodyQ Tryz.prog T0 [(4, none)] R X)) :
 Runs Tryz.prog T0 (.fn 11) [v0, v1] h R X := Runs.fn zlbQ_t rfl k
abbrev fn_zibQ : FuncId := 12
def zibQ_c : ACode :=
 (.seq (.region [
 o1 1 (.box 33 (tm 0))]) (.seq (.region [
 o1 2 (.fieldAddr 165 (tm 1)),
 o1 3 (.load none (tm 2)),
 o1 4 (.callV (.func 39) [(tm 3)])]) (.region [
 o1 5 (.fieldAddr 131 (tm 1)),
 o1 6 (.load (some 34) (tm 5)),
 o1 7 (.callV (.func 40) [(tm 6)])])))
def zibQ : AFunc := ⟨8, [], zibQ_c, none⟩
theorem zibQ_t0 : tableOf Tryz.prog 12 = some zibQ := by kernel_rfl
theorem zibQ_t : T0 12 = some zibQ := withKept_t rfl (withTrue_t rfl zibQ_t0)
theorem zibQ_runs {v0 : Value} {h : Heap} {R : RP} {X : XP} (k : RunC Tryz.prog T0 zibQ_c ⟨[v0, U, U, U, U, U, U, U], [], h, none⟩ (bodyQ Tryz.prog T0 [] R X)) :
 Runs Tryz.prog T0 (.fn 12) [v0] h R X := Runs.fn zibQ_t rfl k
abbrev fn_znbQ : FuncId := 13
def znbQ_l0 : ACode :=
 (.seq (.seq (.region [
 o1 12 (.mov (tm 5)),
 o1 13 (.mov (tm 12)),
 o4 14 (.mov (tm 6)) 13,
 o4 15 (.mov (tm 0)) 13,
 o4 16 (.lenSl (tm 15)) 13,
 o4 17 (.bin .lss (so (.binOp .lss 3 (tm 14) (tm 16) 3) 4) (tm 14) (tm 16)) 13,
 o1 18 (.pick (tm 13) (tm 17) (.const (.bool false)))]) (.cond (tm 18)
 .skip
 (.exit 0))) (.seq (.block 1 (.regionD [
 o1 21 (.mov (tm 0)),
 o1 22 (.mov (tm 6)),
 o1 23 (.indexSl 5 (tm 21) (tm 22)),
 o1 24 (.load (some 5) (tm 23)),
 o1 25 (.mov (tm 1)),
 o1 26 (.mov (tm 6)),
 o1 27 (.indexSl 5 (tm 25) (tm 26)),
 o1 28 (.load (some 5) (tm 27)),
 o2 29 (.bin .eql (so (.binOp .eql 66 (tm 24) (tm 28) 66) 4) (tm 24) (tm 28)),
 o2 5 (.mov (tm 29))])) (.region [
 o1 19 (.mov (tm 6)),
 o1 20 (.bin .add (so (.binOp .add 3 (tm 19) (.const (.int .i64 1)) 3) 3) (tm 19) (.const (.int .i64 1))),
 o1 6 (.mov (tm 20))])))
def znbQ_c : ACode :=
 (.seq (.region [
 o1 4 (.mov (.const (.bool false)))]) (.seq (.region [
 o1 7 (.mov (tm 0)),
 o1 8 (.lenSl (tm 7)),
 o1 9 (.mov (tm 1)),
 o1 10 (.lenSl (tm 9)),
 o1 11 (.bin .eql (so (.binOp .eql 3 (tm 8) (tm 10) 3) 4) (tm 8) (tm 10)),
 o1 5 (.mov (tm 11))]) (.seq (.seq (.region [
 o1 6 (.mov k0)]) (.block 0 (.loop znbQ_l0))) (.seq (.region [
 o1 30 (.mov (tm 5)),
 o1 4 (.mov (tm 30))]) .ret))))
def znbQ : AFunc := ⟨31, [(4, none)], znbQ_c, none⟩
theorem znbQ_t0 : tableOf Tryz.prog 13 = some znbQ := by kernel_rfl
theorem znbQ_t : T0 13 = some znbQ := withKept_t rfl (withTrue_t rfl znbQ_t0)
theorem znbQ_runs {v0 v1 : Value} {h : Heap} {R : RP} {X : XP} (k : RunC Tryz.prog T0 znbQ_c ⟨[v0, v1, U, U, U, U, U, U, U, U, U, U, U, U, U, U, U, U, U, U, U, U, U, U, U, U, U, U, U, U, U], [], h, none⟩ (bodyQ Tryz.prog T0 [(4, none)] R X)) :
 Runs Tryz.prog T0 (.fn 13) [v0, v1] h R X := Runs.fn znbQ_t rfl k
def znbQ_l0_J (f0 f1 f2 f3 f4 f7 f8 f9 f10 f11 f30 : Value) (ds : List Deferred) (rd : Option Nat) (I : Nat → Value → Value → Heap → Prop) (m : Nat) (s : St) : Prop := ∃ (v5 v6 : Value), ∃ h : Heap, ∃ (x12 x13 x14 x15 x16 x17 x18 x19 x20 x21 x22 x23 x24 x25 x26 x27 x28 x29 : Value), s = ⟨[f0, f1, f2, f3, f4, v5, v6, f7, f8, f9, f10, f11, x12, x13, x14, x15, x16, x17, x18, x19, x20, x21, x22, x23, x24, x25, x26, x27, x28, x29, f30], ds, h, rd⟩ ∧ I m v5 v6 h
theorem znbQ_l0_rule {f0 f1 f2 f3 f4 f7 f8 f9 f10 f11 f30 : Value} {ds : List Deferred} {rd : Option Nat} {Q : QP} (I : Nat → Value → Value → Heap → Prop) (hb : ∀ (m : Nat) (v5 v6 : Value) (h : Heap) (x12 x13 x14 x15 x16 x17 x18 x19 x20 x21 x22 x23 x24 x25 x26 x27 x28 x29 : Value) , I m v5 v6 h → RunC Tryz.prog T0 znbQ_l0 ⟨[f0, f1, f2, f3, f4, v5, v6, f7, f8, f9, f10, f11, x12, x13, x14, x15, x16, x17, x18, x19, x20, x21, x22, x23, x24, x25, x26, x27, x28, x29, f30], ds, h, rd⟩ (loopQ (znbQ_l0_J f0 f1 f2 f3 f4 f7 f8 f9 f10 f11 f30 ds rd I) m Q))
 (m : Nat) {v5 v6 : Value} {h : Heap} {x12 x13 x14 x15 x16 x17 x18 x19 x20 x21 x22 x23 x24 x25 x26 x27 x28 x29 : Value} (hi : I m v5 v6 h) : RunC Tryz.prog T0 (.loop znbQ_l0) ⟨[f0, f1, f2, f3, f4, v5, v6, f7, f8, f9, f10, f11, x12, x13, x14, x15, x16, x17, x18, x19, x20, x21, x22, x23, x24, x25, x26, x27, x28, x29, f30], ds, h, rd⟩ Q :=
 RunC.loopJ (znbQ_l0_J f0 f1 f2 f3 f4 f7 f8 f9 f10 f11 f30 ds rd I) (fun m s hj => by obtain ⟨v5, v6, h, x12, x13, x14, x15, x16, x17, x18, x19, x20, x21, x22, x23, x24, x25, x26, x27, x28, x29, rfl, hi⟩ := hj; exact hb m v5 v6 h x12 x13 x14 x15 x16 x17 x18 x19 x20 x21 x22 x23 x24 x25 x26 x27 x28 x29 hi) m _ ⟨_, _, h, _, _, _, _, _, _, _, _, _, _, _, _, _, _, _, _, _, _, rfl, hi⟩
theorem znbQ_l0_again {f0 f1 f2 f3 f4 f7 f8 f9 f10 f11 f30 : Value} {ds : List Deferred} {rd : Option Nat} {Q : QP} {I : Nat → Value → Value → Heap → Prop} {m : Nat} (m' : Nat) {v5 v6 : Value} {h : Heap} {x12 x13 x14 x15 x16 x17 x18 x19 x20 x21 x22 x23 x24 x25 x26 x27 x28 x29 : Value} (hm : m' < m) (hi : I m' v5 v6 h) : loopQ (znbQ_l0_J f0 f1 f2 f3 f4 f7 f8 f9 f10 f11 f30 ds rd I) m Q .normal ⟨[f0, f1, f2, f3, f4, v5, v6, f7, f8, f9, f10, f11, x12, x13, x14, x15, x16, x17, x18, x19, x20, x21, x22, x23, x24, x25, x26, x27, x28, x29, f30], ds, h, rd⟩ :=
 loopQ.again m' hm ⟨_, _, h, _, _, _, _, _, _, _, _, _, _, _, _, _, _, _, _, _, _, rfl, hi⟩
abbrev fn_zhbQ : FuncId := 14
def zhbQ_c : ACode :=
 (.seq (.region [
 o1 2 (.mov (.const (.slice none 0 0)))]) (.seq (.region [
 o1 4 (.buildSlice 5 [] 0 []),
 o1 5 (.mov (tm 0)),
 o1 6 (.append 5 1 1 [(.int .u8 0)] false (tm 4) (tm 5)),
 o1 7 (.buildSlice 5 [(.int .u8 0), (.int .u8 0), (.int .u8 0), (.int .u8 0)] 4 [(0, 1, (.const (.int .u8 201))), (1, 1, (.const (.int .u8 202))), (2, 1, (.const (.int .u8 203))), (3, 1, (.const (.int .u8 204)))]),
 o1 8 (.append 5 1 1 [(.int .u8 0)] false (tm 6) (tm 7)),
 o1 3 (.mov (tm 8))]) (.seq (.region [
 o1 9 (.mov (tm 3)),
 o1 10 (.mov (tm 0)),
 o1 11 (.lenSl (tm 10)),
 o1 12 (.sliceSl 1 (tm 9) none (some (tm 11)) none),
 o1 2 (.mov (tm 12))]) .ret)))
def zhbQ : AFunc := ⟨13, [(2, none)], zhbQ_c, none⟩
theorem zhbQ_t0 : tableOf Tryz.prog 14 = some zhbQ := by kernel_rfl
theorem zhbQ_t : T0 14 = some zhbQ := withKept_t rfl (withTrue_t rfl zhbQ_t0)
theorem zhbQ_runs {v0 : Value} {h : Heap} {R : RP} {X : XP} (k : RunC Tryz.prog T0 zhbQ_c ⟨[v0, U, U, U, U, U, U, U, U, U, U, U, U], [], h, none⟩ (bodyQ Tryz.prog T0 [(2, none)] R X)) :
 Runs Tryz.prog T0 (.fn 14) [v0] h R X := Runs.fn zhbQ_t rfl k
abbrev fn_zlQ : FuncId := 15
def zlQ_c : ACode :=
 (.seq (.region [
 o1 2 (.alloc 33 ((.string ⟨⟨[]⟩⟩) :: ((.int .i64 0) :: ((.int .i64 0) :: (z32 ++ (z32 ++ (z32 ++ (z32 ++ ((.int .i64 0) :: (z32 ++ [(.slice none 0 0), (.slice none 0 0)])))))))))),
 o1 3 (.alloc 44 [(.int .i64 0), (.int .i64 0)])]) (.seq (.region [
 o1 7 (.mov (tm 0)),
 o1 8 (.callV (.func 41) [(tm 7)]),
 o1 4 (.mov (tm 8))]) (.seq (.region [
 o1 5 (.alloc 44 [(.int .i64 0), (.int .i64 0)])]) (.seq (.region [
 o1 9 (.mov (tm 4)),
 o1 10 (.mov (tm 0)),
 o1 11 (.lenSl (tm 10)),
 o1 12 (.callV (.func 42) [(tm 9), (tm 11), (tm 5), (.func 43)]),
 o1 13 (.build ((.string ⟨⟨[]⟩⟩) :: ((.int .i64 0) :: ((.int .i64 0) :: (z32 ++ (z32 ++ (z32 ++ (z32 ++ ((.int .i64 0) :: (z32 ++ [(.slice none 0 0), (.slice none 0 0)]))))))))) [(0, 131, (tm 12))]),
 o1 6 (.alloc 33 ((.string ⟨⟨[]⟩⟩) :: ((.int .i64 0) :: ((.int .i64 0) :: (z32 ++ (z32 ++ (z32 ++ (z32 ++ ((.int .i64 0) :: (z32 ++ [(.slice none 0 0), (.slice none 0 0)])))))))))),
 o3 (.store 166 (tm 6) (tm 13))]) (.seq (.region [
 o1 14 (.mov (tm 4)),
 o1 15 (.mov (tm 0)),
 o1 16 (.lenSl (tm 15)),
 o1 17 (.callV (.func 44) [(tm 14), (tm 16), (tm 5), (.func 45)]),
 o1 18 (.fieldAddr 131 (tm 6)),
 o3 (.store 34 (tm 18) (tm 17))]) (.seq (.region [
 o1 19 (.mov (tm 4)),
 o1 20 (.mov (tm 0)),
 o1 21 (.lenSl (tm 20)),
 o1 22 (.callV (.func 46) [(tm 19), (tm 21), (tm 5), (.func 47)]),
 o1 23 (.fieldAddr 165 (tm 6)),
 o3 (.store 1 (tm 23) (tm 22))]) (.seq (.seq (.region [
 o1 24 (.load (some 2) (tm 5)),
 o1 25 (.build [(.int .i64 0), (.int .i64 0)] []),
 o1 26 (.bin .eql (so (.binOp .eql 44 (tm 24) (tm 25) 44) 4) (tm 24) (tm 25))]) (.cond (tm 26)
 (.region [
 o1 27 (.mov (tm 4)),
 o1 28 (.callV (.func 48) [(tm 27)]),
 o3 (.store 2 (tm 5) (tm 28))])
 .skip)) (.seq (.seq (.region [
 o1 29 (.load (some 2) (tm 5)),
 o1 30 (.build [(.int .i64 0), (.int .i64 0)] []),
 o1 31 (.bin .neq (so (.binOp .neq 44 (tm 29) (tm 30) 44) 4) (tm 29) (tm 30))]) (.cond (tm 31)
 (.seq (.regionD [
 o1 32 (.build ((.string ⟨⟨[]⟩⟩) :: ((.int .i64 0) :: ((.int .i64 0) :: (z32 ++ (z32 ++ (z32 ++ (z32 ++ ((.int .i64 0) :: (z32 ++ [(.slice none 0 0), (.slice none 0 0)]))))))))) []),
 o1 33 (.load (some 2) (tm 5)),
 ⟨none, .store 166 (tm 2) (tm 32), none, [(some 33, .load (some 2) (tm 5), none)], false⟩,
 ⟨none, .store 2 (tm 3) (tm 33), none, [], true⟩]) .ret)
 .skip)) (.seq (.regionD [
 o1 34 (.load (some 166) (tm 6)),
 o1 35 (.load (some 2) (tm 5)),
 ⟨none, .store 166 (tm 2) (tm 34), none, [(some 35, .load (some 2) (tm 5), none)], false⟩,
 ⟨none, .store 2 (tm 3) (tm 35), none, [], true⟩]) .ret)))))))))
def zlQ : AFunc := ⟨36, [(2, some (some 166)), (3, some (some 2))], zlQ_c, none⟩
theorem zlQ_t0 : tableOf Tryz.prog 15 = some zlQ := by kernel_rfl
theorem zlQ_t : T0 15 = some zlQ := withKept_t rfl (withTrue_t rfl zlQ_t0)
theorem zlQ_runs {v0 : Value} {h : Heap} {R : RP} {X : XP} (k : RunC Tryz.prog T0 zlQ_c ⟨[v0, U, U, U, U, U, U, U, U, U, U, U, U, U, U, U, U, U, U, U, U, U, U, U, U, U, U, U, U, U, U, U, U, U, U, U], [], h, none⟩ (bodyQ Tryz.prog T0 [(2, some (some 166)), (3, some (some 2))] R X)) :
 Runs Tryz.prog T0 (.fn 15) [v0] h R X := Runs.fn zlQ_t rfl k
abbrev fn_zlcQ : FuncId := 16
def zlcQ_l0 : ACode :=
 (.seq (.seq (.region [
 o1 19 (.mov (tm 6)),
 o1 20 (.bin .lss (so (.binOp .lss 3 (tm 19) (.const (.int .i64 3)) 3) 4) (tm 19) (.const (.int .i64 3)))]) (.cond (tm 20)
 .skip
 (.exit 0))) (.seq (.block 1 (.seq (.region [
 o1 23 (.mov (tm 4)),
 o1 24 (.nilCheck (tm 23)),
 o1 25 (.fieldAddr 1 (tm 24)),
 o1 26 (.load none (tm 25)),
 o1 7 (.mov (tm 26))]) (.seq (.region [
 o1 27 (.mov (tm 4)),
 o1 28 (.callV (.func 50) [(tm 27), (.const (.int .i64 65536))]),
 o1 8 (.mov (tm 28))]) (.seq (.seq (.region [
 o1 29 (.mov (tm 4)),
 o1 30 (.nilCheck (tm 29)),
 o1 31 (.fieldAddr 2 (tm 30)),
 o1 32 (.fieldAddr 0 (tm 31)),
 o1 33 (.load none (tm 32)),
 o1 34 (.bin .neq (so (.binOp .neq 34 (tm 33) k0 34) 4) (tm 33) k0)]) (.cond (tm 34)
 (.seq (.regionD [
 o1 35 (.build ((.string ⟨⟨[]⟩⟩) :: ((.int .i64 0) :: ((.int .i64 0) :: (z32 ++ (z32 ++ (z32 ++ (z32 ++ ((.int .i64 0) :: (z32 ++ [(.slice none 0 0), (.slice none 0 0)]))))))))) []),
 o1 36 (.mov (tm 4)),
 o1 37 (.nilCheck (tm 36)),
 o1 38 (.fieldAddr 2 (tm 37)),
 o1 39 (.load (some 2) (tm 38)),
 ⟨none, .store 166 (tm 2) (tm 35), none, [(some 39, .load (some 2) (tm 38), none), (some 38, .fieldAddr 2 (tm 37), none), (some 37, .nilCheck (tm 36), none), (some 36, .mov (tm 4), none)], false⟩,
 ⟨none, .store 2 (tm 3) (tm 39), none, [], true⟩]) .ret)
 .skip)) (.seq (.region [
 o1 9 (.alloc 44 [(.int .i64 0), (.int .i64 0)])]) (.seq (.seq (.region [
 o1 40 (.mov (tm 6))]) (.block 2 (.seq (.region [
 o1 50 (.bin .eql (so (.binOp .eql 3 (tm 40) k0 3) 4) (tm 40) k0),
 o1 49 (.mov (tm 50))]) (.cond (tm 49)
 (.seq (.region [
 o1 52 (.mov (tm 8)),
 o1 53 (.callV (.func 51) [(tm 52)]),
 o1 51 (.mov (tm 53)),
 o1 54 (.extract 0 (tm 51)),
 o1 55 (.extract 1 (tm 51)),
 o1 10 (.alloc 25 ((.string ⟨⟨[]⟩⟩) :: ((.int .i64 0) :: ((.int .i64 0) :: (z32 ++ (z32 ++ (z32 ++ z32))))))),
 o1 11 (.alloc 44 [(.int .i64 0), (.int .i64 0)]),
 o3 (.store 131 (tm 10) (tm 54)),
 o3 (.store 2 (tm 11) (tm 55))]) (.seq (.region [
 o1 56 (.load (some 131) (tm 10)),
 o1 57 (.fieldAddr 0 (tm 5)),
 o3 (.store 131 (tm 57) (tm 56))]) (.region [
 o1 58 (.load (some 2) (tm 11)),
 o3 (.store 2 (tm 9) (tm 58))])))
 (.seq (.region [
 o1 60 (.bin .eql (so (.binOp .eql 3 (tm 40) (.const (.int .i64 1)) 3) 4) (tm 40) (.const (.int .i64 1))),
 o1 59 (.mov (tm 60))]) (.cond (tm 59)
 (.seq (.region [
 o1 62 (.mov (tm 8)),
 o1 63 (.callV (.func 52) [(tm 62)]),
 o1 61 (.mov (tm 63)),
 o1 64 (.extract 0 (tm 61)),
 o1 65 (.extract 1 (tm 61)),
 o1 12 (.alloc 31 ((.int .i64 0) :: (z32 ++ [(.slice none 0 0)]))),
 o1 13 (.alloc 44 [(.int .i64 0), (.int .i64 0)]),
 o3 (.store 34 (tm 12) (tm 64)),
 o3 (.store 2 (tm 13) (tm 65))]) (.seq (.region [
 o1 66 (.load (some 34) (tm 12)),
 o1 67 (.fieldAddr 131 (tm 5)),
 o3 (.store 34 (tm 67) (tm 66))]) (.region [
 o1 68 (.load (some 2) (tm 13)),
 o3 (.store 2 (tm 9) (tm 68))])))
 (.seq (.region [
 o1 42 (.mov (tm 8)),
 o1 43 (.callV (.func 53) [(tm 42)]),
 o1 41 (.mov (tm 43)),
 o1 44 (.extract 0 (tm 41)),
 o1 45 (.extract 1 (tm 41)),
 o1 15 (.alloc 44 [(.int .i64 0), (.int .i64 0)]),
 o1 14 (.mov (tm 44)),
 o3 (.store 2 (tm 15) (tm 45))]) (.seq (.region [
 o1 46 (.mov (tm 14)),
 o1 47 (.fieldAddr 165 (tm 5)),
 o3 (.store 1 (tm 47) (tm 46))]) (.region [
 o1 48 (.load (some 2) (tm 15)),
 o3 (.store 2 (tm 9) (tm 48))]))))))))) (.seq (.region [
 o1 69 (.fieldAddr 0 (tm 9)),
 o1 70 (.load none (tm 69)),
 o1 71 (.bin .neq (so (.binOp .neq 34 (tm 70) k0 34) 4) (tm 70) k0)]) (.cond (tm 71)
 (.seq (.region [
 o1 72 (.build ((.string ⟨⟨[]⟩⟩) :: ((.int .i64 0) :: ((.int .i64 0) :: (z32 ++ (z32 ++ (z32 ++ (z32 ++ ((.int .i64 0) :: (z32 ++ [(.slice none 0 0), (.slice none 0 0)]))))))))) []),
 o1 73 (.mov (tm 7)),
 o1 74 (.build [(.int .i64 0), (.int .i64 0)] [(0, 1, (.const (.int .i64 5))), (1, 1, (tm 73))]),
 o3 (.store 166 (tm 2) (tm 72)),
 o3 (.store 2 (tm 3) (tm 74))]) .ret)
 .skip)))))))) (.region [
 o1 21 (.mov (tm 6)),
 o1 22 (.bin .add (so (.binOp .add 3 (tm 21) (.const (.int .i64 1)) 3) 3) (tm 21) (.const (.int .i64 1))),
 o1 6 (.mov (tm 22))])))
def zlcQ_c : ACode :=
 (.seq (.region [
 o1 2 (.alloc 33 ((.string ⟨⟨[]⟩⟩) :: ((.int .i64 0) :: ((.int .i64 0) :: (z32 ++ (z32 ++ (z32 ++ (z32 ++ ((.int .i64 0) :: (z32 ++ [(.slice none 0 0), (.slice none 0 0)])))))))))),
 o1 3 (.alloc 44 [(.int .i64 0), (.int .i64 0)])]) (.seq (.region [
 o1 17 (.mov (tm 0)),
 o1 18 (.callV (.func 49) [(tm 17)]),
 o1 4 (.mov (tm 18))]) (.seq (.region [
 o1 5 (.alloc 33 ((.string ⟨⟨[]⟩⟩) :: ((.int .i64 0) :: ((.int .i64 0) :: (z32 ++ (z32 ++ (z32 ++ (z32 ++ ((.int .i64 0) :: (z32 ++ [(.slice none 0 0), (.slice none 0 0)]))))))))))]) (.seq (.seq (.region [
 o1 6 (.mov k0)]) (.block 0 (.loop zlcQ_l0))) (.seq (.region [
 o1 75 (.mov (tm 4)),
 o1 76 (.callV (.func 54) [(tm 75)]),
 o1 16 (.alloc 44 [(.int .i64 0), (.int .i64 0)]),
 o3 (.store 2 (tm 16) (tm 76))]) (.seq (.seq (.region [
 o1 77 (.fieldAddr 0 (tm 16)),
 o1 78 (.load none (tm 77)),
 o1 79 (.bin .neq (so (.binOp .neq 34 (tm 78) k0 34) 4) (tm 78) k0)]) (.cond (tm 79)
 (.seq (.regionD [
 o1 80 (.build ((.string ⟨⟨[]⟩⟩) :: ((.int .i64 0) :: ((.int .i64 0) :: (z32 ++ (z32 ++ (z32 ++ (z32 ++ ((.int .i64 0) :: (z32 ++ [(.slice none 0 0), (.slice none 0 0)]))))))))) []),
 o1 81 (.load (some 2) (tm 16)),
 ⟨none, .store 166 (tm 2) (tm 80), none, [(some 81, .load (some 2) (tm 16), none)], false⟩,
 ⟨none, .store 2 (tm 3) (tm 81), none, [], true⟩]) .ret)
 .skip)) (.seq (.regionD [
 o1 82 (.load (some 166) (tm 5)),
 o1 83 (.load (some 2) (tm 16)),
 ⟨none, .store 166 (tm 2) (tm 82), none, [(some 83, .load (some 2) (tm 16), none)], false⟩,
 ⟨none, .store 2 (tm 3) (tm 83), none, [], true⟩]) .ret)))))))
def zlcQ : AFunc := ⟨84, [(2, some (some 166)), (3, some (some 2))], zlcQ_c, none⟩
theorem zlcQ_t0 : tableOf Tryz.prog 16 = some zlcQ := by kernel_rfl
theorem zlcQ_t : T0 16 = some zlcQ := withKept_t rfl (withTrue_t rfl zlcQ_t0)
theorem zlcQ_runs {v0 : Value} {h : Heap} {R : RP} {X : XP} (k : RunC Tryz.prog T0 zlcQ_c ⟨[v0, U, U, U, U, U, U, U, U, U, U, U, U, U, U, U, U, U, U, U, U, U, U, U, U, U, U, U, U, U, U, U, U, U, U, U, U, U, U, U, U, U, U, U, U, U, U, U, U, U, U, U, U, U, U, U, U, U, U, U, U, U, U, U, U, U, U, U, U, U, U, U, U, U, U, U, U, U, U, U, U, U, U, U], [], h, none⟩ (bodyQ Tryz.prog T0 [(2, some (some 166)), (3, some (some 2))] R X)) :
 Runs Tryz.prog T0 (.fn 16) [v0] h R X := Runs.fn zlcQ_t rfl k
def zlcQ_l0_J (f0 f1 f2 f3 f4 f5 f16 f17 f18 f75 f76 f77 f78 f79 f80 f81 f82 f83 : Value) (ds : List Deferred) (rd : Option Nat) (I : Nat → Value → Heap → Prop) (m : Nat) (s : St) : Prop := ∃ (v6 : Value), ∃ h : Heap, ∃ (x7 x8 x9 x10 x11 x12 x13 x14 x15 x19 x20 x21 x22 x23 x24 x25 x26 x27 x28 x29 x30 x31 x32 x33 x34 x35 x36 x37 x38 x39 x40 x41 x42 x43 x44 x45 x46 x47 x48 x49 x50 x51 x52 x53 x54 x55 x56 x57 x58 x59 x60 x61 x62 x63 x64 x65 x66 x67 x68 x69 x70 x71 x72 x73 x74 : Value), s = ⟨[f0, f1, f2, f3, f4, f5, v6, x7, x8, x9, x10, x11, x12, x13, x14, x15, f16, f17, f18, x19, x20, x21, x22, x23, x24, x25, x26, x27, x28, x29, x30, x31, x32, x33, x34, x35, x36, x37, x38, x39, x40, x41, x42, x43, x44, x45, x46, x47, x48, x49, x50, x51, x52, x53, x54, x55, x56, x57, x58, x59, x60, x61, x62, x63, x64, x65, x66, x67, x68, x69, x70, x71, x72, x73, x74, f75, f76, f77, f78, f79, f80, f81, f82, f83], ds, h, rd⟩ ∧ I m v6 h
theorem zlcQ_l0_rule {f0 f1 f2 f3 f4 f5 f16 f17 f18 f75 f76 f77 f78 f79 f80 f81 f82 f83 : Value} {ds : List Deferred} {rd : Option Nat} {Q : QP} (I : Nat → Value → Heap → Prop) (hb : ∀ (m : Nat) (v6 : Value) (h : Heap) (x7 x8 x9 x10 x11 x12 x13 x14 x15 x19 x20 x21 x22 x23 x24 x25 x26 x27 x28 x29 x30 x31 x32 x33 x34 x35 x36 x37 x38 x39 x40 x41 x42 x43 x44 x45 x46 x47 x48 x49 x50 x51 x52 x53 x54 x55 x56 x57 x58 x59 x60 x61 x62 x63 x64 x65 x66 x67 x68 x69 x70 x71 x72 x73 x74 : Value) , I m v6 h → RunC Tryz.prog T0 zlcQ_l0 ⟨[f0, f1, f2, f3, f4, f5, v6, x7, x8, x9, x10, x11, x12, x13, x14, x15, f16, f17, f18, x19, x20, x21, x22, x23, x24, x25, x26, x27, x28, x29, x30, x31, x32, x33, x34, x35, x36, x37, x38, x39, x40, x41, x42, x43, x44, x45, x46, x47, x48, x49, x50, x51, x52, x53, x54, x55, x56, x57, x58, x59, x60, x61, x62, x63, x64, x65, x66, x67, x68, x69, x70, x71, x72, x73, x74, f75, f76, f77, f78, f79, f80, f81, f82, f83], ds, h, rd⟩ (loopQ (zlcQ_l0_J f0 f1 f2 f3 f4 f5 f16 f17 f18 f75 f76 f77 f78 f79 f80 f81 f82 f83 ds rd I) m Q))
 (m : Nat) {v6 : Value} {h : Heap} {x7 x8 x9 x10 x11 x12 x13 x14 x15 x19 x20 x21 x22 x23 x24 x25 x26 x27 x28 x29 x30 x31 x32 x33 x34 x35 x36 x37 x38 x39 x40 x41 x42 x43 x44 x45 x46 x47 x48 x49 x50 x51 x52 x53 x54 x55 x56 x57 x58 x59 x60 x61 x62 x63 x64 x65 x66 x67 x68 x69 x70 x71 x72 x73 x74 : Value} (hi : I m v6 h) : RunC Tryz.prog T0 (.loop zlcQ_l0) ⟨[f0, f1, f2, f3, f4, f5, v6, x7, x8, x9, x10, x11, x12, x13, x14, x15, f16, f17, f18, x19, x20, x21, x22, x23, x24, x25, x26, x27, x28, x29, x30, x31, x32, x33, x34, x35, x36, x37, x38, x39, x40, x41, x42, x43, x44, x45, x46, x47, x48, x49, x50, x51, x52, x53, x54, x55, x56, x57, x58, x59, x60, x61, x62, x63, x64, x65, x66, x67, x68, x69, x70, x71, x72, x73, x74, f75, f76, f77, f78, f79, f80, f81, f82, f83], ds, h, rd⟩ Q :=
 RunC.loopJ (zlcQ_l0_J f0 f1 f2 f3 f4 f5 f16 f17 f18 f75 f76 f77 f78 f79 f80 f81 f82 f83 ds rd I) (fun m s hj => by obtain ⟨v6, h, x7, x8, x9, x10, x11, x12, x13, x14, x15, x19, x20, x21, x22, x23, x24, x25, x26, x27, x28, x29, x30, x31, x32, x33, x34, x35, x36, x37, x38, x39, x40, x41, x42, x43, x44, x45, x46, x47, x48, x49, x50, x51, x52, x53, x54, x55, x56, x57, x58, x59, x60, x61, x62, x63, x64, x65, x66, x67, x68, x69, x70, x71, x72, x73, x74, rfl, hi⟩ := hj; exact hb m v6 h x7 x8 x9 x10 x11 x12 x13 x14 x15 x19 x20 x21 x22 x23 x24 x25 x26 x27 x28 x29 x30 x31 x32 x33 x34 x35 x36 x37 x38 x39 x40 x41 x42 x43 x44 x45 x46 x47 x48 x49 x50 x51 x52 x53 x54 x55 x56 x57 x58 x59 x60 x61 x62 x63 x64 x65 x66 x67 x68 x69 x70 x71 x72 x73 x74 hi) m _ ⟨_, h, _, _, _, _, _, _, _, _, _, _, _, _, _, _, _, _, _, _, _, _, _, _, _, _, _, _, _, _, _, _, _, _, _, _, _, _, _, _, _, _, _, _, _, _, _, _, _, _, _, _, _, _, _, _, _, _, _, _, _, _, _, _, _, _, _, rfl, hi⟩
theorem zlcQ_l0_again {f0 f1 f2 f3 f4 f5 f16 f17 f18 f75 f76 f77 f78 f79 f80 f81 f82 f83 : Value} {ds : List Deferred} {rd : Option Nat} {Q : QP} {I : Nat → Value → Heap → Prop} {m : Nat} (m' : Nat) {v6 : Value} {h : Heap} {x7 x8 x9 x10 x11 x12 x13 x14 x15 x19 x20 x21 x22 x23 x24 x25 x26 x27 x28 x29 x30 x31 x32 x33 x34 x35 x36 x37 x38 x39 x40 x41 x42 x43 x44 x45 x46 x47 x48 x49 x50 x51 x52 x53 x54 x55 x56 x57 x58 x59 x60 x61 x62 x63 x64 x65 x66 x67 x68 x69 x70 x71 x72 x73 x74 : Value} (hm : m' < m) (hi : I m' v6 h) : loopQ (zlcQ_l0_J f0 f1 f2 f3 f4 f5 f16 f17 f18 f75 f76 f77 f78 f79 f80 f81 f82 f83 ds rd I) m Q .normal ⟨[f0, f1, f2, f3, f4, f5, v6, x7, x8, x9, x10, x11, x12, x13, x14, x15, f16, f17, f18, x19, x20, x21, x22, x23, x24, x25, x26, x27, x28, x29, x30, x31, x32, x33, x34, x35, x36, x37, x38, x39, x40, x41, x42, x43, x44, x45, x46, x47, x48, x49, x50, x51, x52, x53, x54, x55, x56, x57, x58, x59, x60, x61, x62, x63, x64, x65, x66, x67, x68, x69, x70, x71, x72, x73, x74, f75, f76, f77, f78, f79, f80, f81, f82, f83], ds, h, rd⟩ :=
 loopQ.again m' hm ⟨_, h, _, _, _, _, _, _, _, _, _, _, _, _, _, _, _, _, _, _, _, _, _, _, _, _, _, _, _, _, _, _, _, _, _, _, _, _, _, _, _, _, _, _, _, _, _, _, _, _, _, _, _, _, _, _, _, _, _, _, _, _, _, _, _, _, _, rfl, hi⟩
abbrev fn_zgbQ : FuncId := 17
def zgbQ_c : ACode :=
 (.seq (.region [
 o1 4 (.mov (.const (.bool false)))]) (.seq (.region [
 o1 6 (.mov (tm 0)),
 o1 7 (.mov (tm 0)),
 o1 8 (.cap (tm 7)),
 o1 9 (.sliceSl 1 (tm 6) none (some (tm 8)) none),
 o1 5 (.mov (tm 9))]) (.seq (.regionD [
 o1 10 (.mov (tm 0)),
 o1 11 (.lenSl (tm 10)),
 o1 12 (.mov (tm 1)),
 o1 13 (.lenSl (tm 12)),
 o2 14 (.bin .eql (so (.binOp .eql 3 (tm 11) (tm 13) 3) 4) (tm 11) (tm 13)),
 o2 15 (.mov (tm 14)),
 o4 16 (.mov (tm 0)) 15,
 o4 17 (.bytesToStr (tm 16)) 15,
 o4 18 (.mov (tm 1)) 15,
 o4 19 (.bytesToStr (tm 18)) 15,
 ⟨some 20, .bin .eql (so (.binOp .eql 9 (tm 17) (tm 19) 9) 4) (tm 17) (tm 19), some (15, true), [], true⟩,
 o2 21 (.pick (tm 15) (tm 20) (.const (.bool false))),
 o2 22 (.mov (tm 21)),
 o4 23 (.mov (tm 5)) 22,
 o4 24 (.lenSl (tm 23)) 22,
 o4 25 (.mov (tm 1)) 22,
 o4 26 (.lenSl (tm 25)) 22,
 o4 27 (.bin .add (so (.binOp .add 3 (tm 26) (.const (.int .i64 4)) 3) 3) (tm 26) (.const (.int .i64 4))) 22,
 ⟨some 28, .bin .geq (so (.binOp .geq 3 (tm 24) (tm 27) 3) 4) (tm 24) (tm 27), some (22, true), [], true⟩,
 o2 29 (.pick (tm 22) (tm 28) (.const (.bool false))),
 o2 30 (.mov (tm 29)),
 o4 31 (.mov (tm 5)) 30,
 o4 32 (.mov (tm 1)) 30,
 o4 33 (.lenSl (tm 32)) 30,
 o4 34 (.mov (tm 1)) 30,
 o4 35 (.lenSl (tm 34)) 30,
 o4 36 (.bin .add (so (.binOp .add 3 (tm 35) (.const (.int .i64 4)) 3) 3) (tm 35) (.const (.int .i64 4))) 30,
 o4 37 (.sliceSl 1 (tm 31) (some (tm 33)) (some (tm 36)) none) 30,
 o4 38 (.bytesToStr (tm 37)) 30,
 ⟨some 39, .buildSlice 5 [(.int .u8 0), (.int .u8 0), (.int .u8 0), (.int .u8 0)] 4 [(0, 1, (.const (.int .u8 201))), (1, 1, (.const (.int .u8 202))), (2, 1, (.const (.int .u8 203))), (3, 1, (.const (.int .u8 204)))], some (30, true), [(some 38, .bytesToStr (tm 37), some (30, true)), (some 37, .sliceSl 1 (tm 31) (some (tm 33)) (some (tm 36)) none, some (30, true)), (some 36, .bin .add (so (.binOp .add 3 (tm 35) (.const (.int .i64 4)) 3) 3) (tm 35) (.const (.int .i64 4)), some (30, true)), (some 35, .lenSl (tm 34), some (30, true)), (some 34, .mov (tm 1), some (30, true)), (some 33, .lenSl (tm 32), some (30, true)), (some 32, .mov (tm 1), some (30, true)), (some 31, .mov (tm 5), some (30, true))], false⟩,
 o4 40 (.bytesToStr (tm 39)) 30,
 ⟨some 41, .bin .eql (so (.binOp .eql 9 (tm 38) (tm 40) 9) 4) (tm 38) (tm 40), some (30, true), [], true⟩,
 o2 42 (.pick (tm 30) (tm 41) (.const (.bool false))),
 o2 4 (.mov (tm 42))]) .ret)))
def zgbQ : AFunc := ⟨43, [(4, none)], zgbQ_c, none⟩
theorem zgbQ_t0 : tableOf Tryz.prog 17 = some zgbQ := by kernel_rfl
theorem zgbQ_kept {h : Heap} {args : List Value} (hp : KeptPre args h) : Runs Tryz.prog T0 (.fn 17) args h (fun r h' => r = .bool true ∧ h' = h) (fun _ _ => False) := kept_runs rfl hp
theorem zgbQ_runs {v0 v1 : Value} {h : Heap} {R : RP} {X : XP} (k : RunC Tryz.prog (tableOf Tryz.prog) zgbQ_c ⟨[v0, v1, U, U, U, U, U, U, U, U, U, U, U, U, U, U, U, U, U, U, U, U, U, U, U, U, U, U, U, U, U, U, U, U, U, U, U, U, U, U, U, U, U], [], h, none⟩ (bodyQ Tryz.prog (tableOf Tryz.prog) [(4, none)] R X)) :
 Runs Tryz.prog (tableOf Tryz.prog) (.fn 17) [v0, v1] h R X := Runs.fn zgbQ_t0 rfl k
abbrev fn_zmbQ : FuncId := 38
def zmbQ_c : ACode :=
 (.seq (.region [
 o1 2 (.box 31 (tm 0)),
 o1 3 (.box 31 (tm 1)),
 o1 4 (.mov (.const (.bool false)))]) (.seq (.region [
 o1 5 (.fieldAddr 0 (tm 2)),
 o1 6 (.load none (tm 5)),
 o1 7 (.fieldAddr 0 (tm 3)),
 o1 8 (.load none (tm 7)),
 o1 9 (.bin .eql (so (.binOp .eql 3 (tm 6) (tm 8) 3) 4) (tm 6) (tm 8)),
 o1 10 (.mov (tm 9)),
 o4 11 (.fieldAddr 1 (tm 2)) 10,
 o4 12 (.load (some 32) (tm 11)) 10,
 o4 13 (.fieldAddr 1 (tm 3)) 10,
 o4 14 (.load (some 32) (tm 13)) 10,
 o4 15 (.bin .eql (so (.binOp .eql 23 (tm 12) (tm 14) 23) 4) (tm 12) (tm 14)) 10,
 o1 16 (.pick (tm 10) (tm 15) (.const (.bool false))),
 o1 17 (.mov (tm 16)),
 o4 18 (.fieldAddr 33 (tm 2)) 17,
 o4 19 (.load none (tm 18)) 17,
 o4 20 (.fieldAddr 33 (tm 3)) 17,
 o4 21 (.load none (tm 20)) 17,
 o4 22 (.callV (.func 79) [(tm 19), (tm 21)]) 17,
 o1 23 (.pick (tm 17) (tm 22) (.const (.bool false))),
 o1 4 (.mov (tm 23))]) .ret))
def zmbQ : AFunc := ⟨24, [(4, none)], zmbQ_c, none⟩
theorem zmbQ_t0 : tableOf Tryz.prog 38 = some zmbQ := by kernel_rfl
theorem zmbQ_t : T0 38 = some zmbQ := withKept_t rfl (withTrue_t rfl zmbQ_t0)
theorem zmbQ_runs {v0 v1 : Value} {h : Heap} {R : RP} {X : XP} (k : RunC Tryz.prog T0 zmbQ_c ⟨[v0, v1, U, U, U, U, U, U, U, U, U, U, U, U, U, U, U, U, U, U, U, U, U, U], [], h, none⟩ (bodyQ Tryz.prog T0 [(4, none)] R X)) :
 Runs Tryz.prog T0 (.fn 38) [v0, v1] h R X := Runs.fn zmbQ_t rfl k
abbrev fn_zkbQ : FuncId := 39
def zkbQ_l0 : ACode :=
 (.seq (.seq (.region [
 o1 3 (.mov (tm 2)),
 o1 4 (.mov (tm 0)),
 o1 5 (.lenSl (tm 4)),
 o1 6 (.bin .lss (so (.binOp .lss 3 (tm 3) (tm 5) 3) 4) (tm 3) (tm 5))]) (.cond (tm 6)
 .skip
 (.exit 0))) (.seq (.block 1 (.region [
 o1 9 (.mov (tm 0)),
 o1 10 (.mov (tm 2)),
 o1 11 (.build [(.int .u8 0), (.int .u8 0), (.int .u8 0), (.int .u8 0), (.int .i64 0)] [(4, 1, (.const (.int .i64 (-7))))]),
 o1 12 (.indexSl 5 (tm 9) (tm 10)),
 o3 (.store 5 (tm 12) (tm 11))])) (.region [
 o1 7 (.mov (tm 2)),
 o1 8 (.bin .add (so (.binOp .add 3 (tm 7) (.const (.int .i64 1)) 3) 3) (tm 7) (.const (.int .i64 1))),
 o1 2 (.mov (tm 8))])))
def zkbQ_c : ACode :=
 (.seq (.region [
 o1 2 (.mov k0)]) (.block 0 (.loop zkbQ_l0)))
def zkbQ : AFunc := ⟨13, [], zkbQ_c, none⟩
theorem zkbQ_t0 : tableOf Tryz.prog 39 = some zkbQ := by kernel_rfl
theorem zkbQ_t : T0 39 = some zkbQ := withKept_t rfl (withTrue_t rfl zkbQ_t0)
theorem zkbQ_runs {v0 : Value} {h : Heap} {R : RP} {X : XP} (k : RunC Tryz.prog T0 zkbQ_c ⟨[v0, U, U, U, U, U, U, U, U, U, U, U, U], [], h, none⟩ (bodyQ Tryz.prog T0 [] R X)) :
 Runs Tryz.prog T0 (.fn 39) [v0] h R X := Runs.fn zkbQ_t rfl k
def zkbQ_l0_J (f0 f1 : Value) (ds : List Deferred) (rd : Option Nat) (I : Nat → Value → Heap → Prop) (m : Nat) (s : St) : Prop := ∃ (v2 : Value), ∃ h : Heap, ∃ (x3 x4 x5 x6 x7 x8 x9 x10 x11 x12 : Value), s = ⟨[f0, f1, v2, x3, x4, x5, x6, x7, x8, x9, x10, x11, x12], ds, h, rd⟩ ∧ I m v2 h
theorem zkbQ_l0_rule {f0 f1 : Value} {ds : List Deferred} {rd : Option Nat} {Q : QP} (I : Nat → Value → Heap → Prop) (hb : ∀ (m : Nat) (v2 : Value) (h : Heap) (x3 x4 x5 x6 x7 x8 x9 x10 x11 x12 : Value) , I m v2 h → RunC Tryz.prog T0 zkbQ_l0 ⟨[f0, f1, v2, x3, x4, x5, x6, x7, x8, x9, x10, x11, x12], ds, h, rd⟩ (loopQ (zkbQ_l0_J f0 f1 ds rd I) m Q))
 (m : Nat) {v2 : Value} {h : Heap} {x3 x4 x5 x6 x7 x8 x9 x10 x11 x12 : Value} (hi : I m v2 h) : RunC Tryz.prog T0 (.loop zkbQ_l0) ⟨[f0, f1, v2, x3, x4, x5, x6, x7, x8, x9, x10, x11, x12], ds, h, rd⟩ Q :=
 RunC.loopJ (zkbQ_l0_J f0 f1 ds rd I) (fun m s hj => by obtain ⟨v2, h, x3, x4, x5, x6, x7, x8, x9, x10, x11, x12, rfl, hi⟩ := hj; exact hb m v2 h x3 x4 x5 x6 x7 x8 x9 x10 x11 x12 hi) m _ ⟨_, h, _, _, _, _, _, _, _, _, _, _, rfl, hi⟩
theorem zkbQ_l0_again {f0 f1 : Value} {ds : List Deferred} {rd : Option Nat} {Q : QP} {I : Nat → Value → Heap → Prop} {m : Nat} (m' : Nat) {v2 : Value} {h : Heap} {x3 x4 x5 x6 x7 x8 x9 x10 x11 x12 : Value} (hm : m' < m) (hi : I m' v2 h) : loopQ (zkbQ_l0_J f0 f1 ds rd I) m Q .normal ⟨[f0, f1, v2, x3, x4, x5, x6, x7, x8, x9, x10, x11, x12], ds, h, rd⟩ :=
 loopQ.again m' hm ⟨_, h, _, _, _, _, _, _, _, _, _, _, rfl, hi⟩
abbrev fn_zjbQ : FuncId := 40
def zjbQ_l0 : ACode :=
 (.seq (.seq (.region [
 o1 3 (.mov (tm 2)),
 o1 4 (.fieldAddr 33 (tm 1)),
 o1 5 (.load none (tm 4)),
 o1 6 (.lenSl (tm 5)),
 o1 7 (.bin .lss (so (.binOp .lss 3 (tm 3) (tm 6) 3) 4) (tm 3) (tm 6))]) (.cond (tm 7)
 .skip
 (.exit 0))) (.seq (.block 1 (.region [
 o1 10 (.fieldAddr 33 (tm 1)),
 o1 11 (.load none (tm 10)),
 o1 12 (.mov (tm 2)),
 o1 13 (.build [(.int .i64 0), (.int .u64 0)] [(0, 1, (.const (.int .i64 (-7))))]),
 o1 14 (.indexSl 2 (tm 11) (tm 12)),
 o3 (.store 2 (tm 14) (tm 13))])) (.region [
 o1 8 (.mov (tm 2)),
 o1 9 (.bin .add (so (.binOp .add 3 (tm 8) (.const (.int .i64 1)) 3) 3) (tm 8) (.const (.int .i64 1))),
 o1 2 (.mov (tm 9))])))
def zjbQ_c : ACode :=
 (.seq (.region [
 o1 1 (.box 31 (tm 0))]) (.seq (.region [
 o1 2 (.mov k0)]) (.block 0 (.loop zjbQ_l0))))
def zjbQ : AFunc := ⟨15, [], zjbQ_c, none⟩
theorem zjbQ_t0 : tableOf Tryz.prog 40 = some zjbQ := by kernel_rfl
theorem zjbQ_t : T0 40 = some zjbQ := withKept_t rfl (withTrue_t rfl zjbQ_t0)
theorem zjbQ_runs {v0 : Value} {h : Heap} {R : RP} {X : XP} (k : RunC Tryz.prog T0 zjbQ_c ⟨[v0, U, U, U, U, U, U, U, U, U, U, U, U, U, U], [], h, none⟩ (bodyQ Tryz.prog T0 [] R X)) :
 Runs Tryz.prog T0 (.fn 40) [v0] h R X := Runs.fn zjbQ_t rfl k
def zjbQ_l0_J (f0 f1 : Value) (ds : List Deferred) (rd : Option Nat) (I : Nat → Value → Heap → Prop) (m : Nat) (s : St) : Prop := ∃ (v2 : Value), ∃ h : Heap, ∃ (x3 x4 x5 x6 x7 x8 x9 x10 x11 x12 x13 x14 : Value), s = ⟨[f0, f1, v2, x3, x4, x5, x6, x7, x8, x9, x10, x11, x12, x13, x14], ds, h, rd⟩ ∧ I m v2 h
theorem zjbQ_l0_rule {f0 f1 : Value} {ds : List Deferred} {rd : Option Nat} {Q : QP} (I : Nat → Value → Heap → Prop) (hb : ∀ (m : Nat) (v2 : Value) (h : Heap) (x3 x4 x5 x6 x7 x8 x9 x10 x11 x12 x13 x14 : Value) , I m v2 h → RunC Tryz.prog T0 zjbQ_l0 ⟨[f0, f1, v2, x3, x4, x5, x6, x7, x8, x9, x10, x11, x12, x13, x14], ds, h, rd⟩ (loopQ (zjbQ_l0_J f0 f1 ds rd I) m Q))
 (m : Nat) {v2 : Value} {h : Heap} {x3 x4 x5 x6 x7 x8 x9 x10 x11 x12 x13 x14 : Value} (hi : I m v2 h) : RunC Tryz.prog T0 (.loop zjbQ_l0) ⟨[f0, f1, v2, x3, x4, x5, x6, x7, x8, x9, x10, x11, x12, x13, x14], ds, h, rd⟩ Q :=
 RunC.loopJ (zjbQ_l0_J f0 f1 ds rd I) (fun m s hj => by obtain ⟨v2, h, x3, x4, x5, x6, x7, x8, x9, x10, x11, x12, x13, x14, rfl, hi⟩ := hj; exact hb m v2 h x3 x4 x5 x6 x7 x8 x9 x10 x11 x12 x13 x14 hi) m _ ⟨_, h, _, _, _, _, _, _, _, _, _, _, _, _, rfl, hi⟩
theorem zjbQ_l0_again {f0 f1 : Value} {ds : List Deferred} {rd : Option Nat} {Q : QP} {I : Nat → Value → Heap → Prop} {m : Nat} (m' : Nat) {v2 : Value} {h : Heap} {x3 x4 x5 x6 x7 x8 x9 x10 x11 x12 x13 x14 : Value} (hm : m' < m) (hi : I m' v2 h) : loopQ (zjbQ_l0_J f0 f1 ds rd I) m Q .normal ⟨[f0, f1, v2, x3, x4, x5, x6, x7, x8, x9, x10, x11, x12, x13, x14], ds, h, rd⟩ :=
 loopQ.again m' hm ⟨_, h, _, _, _, _, _, _, _, _, _, _, _, _, rfl, hi⟩
abbrev fn_zucQ : FuncId := 41
def zucQ_c : ACode :=
 (.seq (.region [
 o1 2 (.mov (.const (.pointer none)))]) (.seq (.region [
 o1 3 (.mov (tm 0)),
 o1 4 (.callV (.func 80) [(tm 3)]),
 o1 5 (.build [(.slice none 0 0), (.int .i64 0), (.int .i64 0), (.int .i64 0), (.bool false)] [(0, 1, (tm 4)), (4, 1, (.const (.bool true)))]),
 o1 6 (.box 115 (tm 5)),
 o1 2 (.mov (tm 6))]) .ret))
def zucQ : AFunc := ⟨7, [(2, none)], zucQ_c, none⟩
theorem zucQ_t0 : tableOf Tryz.prog 41 = some zucQ := by kernel_rfl
theorem zucQ_t : T0 41 = some zucQ := withKept_t rfl (withTrue_t rfl zucQ_t0)
theorem zucQ_runs {v0 : Value} {h : Heap} {R : RP} {X : XP} (k : RunC Tryz.prog T0 zucQ_c ⟨[v0, U, U, U, U, U, U], [], h, none⟩ (bodyQ Tryz.prog T0 [(2, none)] R X)) :
 Runs Tryz.prog T0 (.fn 41) [v0] h R X := Runs.fn zucQ_t rfl k
abbrev fn_zoQ : FuncId := 42
def zoQ_c : ACode :=
 (.seq (.region [
 o1 8 (.alloc 25 ((.string ⟨⟨[]⟩⟩) :: ((.int .i64 0) :: ((.int .i64 0) :: (z32 ++ (z32 ++ (z32 ++ z32)))))))]) (.seq (.seq (.region [
 o1 13 (.mov (tm 2)),
 o1 14 (.nilCheck (tm 13)),
 o1 15 (.load (some 2) (tm 14)),
 o1 16 (.build [(.int .i64 0), (.int .i64 0)] []),
 o1 17 (.bin .neq (so (.binOp .neq 44 (tm 15) (tm 16) 44) 4) (tm 15) (tm 16))]) (.cond (tm 17)
 (.seq (.region [
 o1 18 (.load (some 131) (tm 8)),
 o3 (.store 131 (tm 8) (tm 18))]) .ret)
 .skip)) (.seq (.region [
 o1 19 (.mov (tm 1)),
 o1 20 (.mov (tm 0)),
 o1 21 (.callV (.func 81) [(tm 20)]),
 o1 22 (.bin .sub (so (.binOp .sub 3 (tm 19) (tm 21) 3) 3) (tm 19) (tm 21)),
 o1 9 (.mov (tm 22))]) (.seq (.region [
 o1 23 (.mov (tm 0)),
 o1 24 (.callV (.func 82) [(tm 23), (.const (.int .i64 65536))]),
 o1 10 (.mov (tm 24))]) (.seq (.seq (.region [
 o1 25 (.mov (tm 0)),
 o1 26 (.callV (.func 81) [(tm 25)]),
 o1 27 (.bin .eql (so (.binOp .eql 3 (tm 26) k0 3) 4) (tm 26) k0),
 o1 28 (.mov (tm 27)),
 o4 29 (.mov (tm 0)) 28,
 o4 30 (.callV (.func 48) [(tm 29)]) 28,
 o4 31 (.build [(.int .i64 0), (.int .i64 0)] []) 28,
 o4 32 (.bin .neq (so (.binOp .neq 44 (tm 30) (tm 31) 44) 4) (tm 30) (tm 31)) 28,
 o1 33 (.pick (tm 28) (tm 32) (.const (.bool false)))]) (.cond (tm 33)
 (.seq (.region [
 o1 34 (.mov (tm 2)),
 o1 35 (.mov (tm 0)),
 o1 36 (.callV (.func 48) [(tm 35)]),
 o1 37 (.nilCheck (tm 34)),
 o3 (.store 2 (tm 37) (tm 36))]) (.seq (.region [
 o1 38 (.load (some 131) (tm 8)),
 o3 (.store 131 (tm 8) (tm 38))]) .ret))
 .skip)) (.seq (.region [
 o1 40 (.mov (tm 3)),
 o1 41 (.mov (tm 10)),
 o1 42 (.callV (tm 40) [(tm 41)]),
 o1 39 (.mov (tm 42)),
 o1 43 (.extract 0 (tm 39)),
 o1 44 (.extract 1 (tm 39)),
 o1 11 (.alloc 25 ((.string ⟨⟨[]⟩⟩) :: ((.int .i64 0) :: ((.int .i64 0) :: (z32 ++ (z32 ++ (z32 ++ z32))))))),
 o1 12 (.alloc 44 [(.int .i64 0), (.int .i64 0)]),
 o3 (.store 131 (tm 11) (tm 43)),
 o3 (.store 2 (tm 12) (tm 44))]) (.seq (.seq (.region [
 o1 45 (.load (some 2) (tm 12)),
 o1 46 (.build [(.int .i64 0), (.int .i64 0)] []),
 o1 47 (.bin .neq (so (.binOp .neq 44 (tm 45) (tm 46) 44) 4) (tm 45) (tm 46))]) (.cond (tm 47)
 (.seq (.region [
 o1 48 (.mov (tm 2)),
 o1 49 (.mov (tm 9)),
 o1 50 (.build [(.int .i64 0), (.int .i64 0)] [(0, 1, (.const (.int .i64 5))), (1, 1, (tm 49))]),
 o1 51 (.nilCheck (tm 48)),
 o3 (.store 2 (tm 51) (tm 50))]) (.seq (.region [
 o1 52 (.load (some 131) (tm 8)),
 o3 (.store 131 (tm 8) (tm 52))]) .ret))
 .skip)) (.seq (.region [
 o1 53 (.load (some 131) (tm 11)),
 o3 (.store 131 (tm 8) (tm 53))]) .ret))))))))
def zoQ : AFunc := ⟨54, [(8, some (some 131))], zoQ_c, none⟩
theorem zoQ_t0 : tableOf Tryz.prog 42 = some zoQ := by kernel_rfl
theorem zoQ_t : T0 42 = some zoQ := withKept_t rfl (withTrue_t rfl zoQ_t0)
theorem zoQ_runs {v0 v1 v2 v3 : Value} {h : Heap} {R : RP} {X : XP} (k : RunC Tryz.prog T0 zoQ_c ⟨[v0, v1, v2, v3, U, U, U, U, U, U, U, U, U, U, U, U, U, U, U, U, U, U, U, U, U, U, U, U, U, U, U, U, U, U, U, U, U, U, U, U, U, U, U, U, U, U, U, U, U, U, U, U, U, U], [], h, none⟩ (bodyQ Tryz.prog T0 [(8, some (some 131))] R X)) :
 Runs Tryz.prog T0 (.fn 42) [v0, v1, v2, v3] h R X := Runs.fn zoQ_t rfl k
abbrev fn_zvQ : FuncId := 43
def zvQ_l0 : ACode :=
 (.seq (.region [
 o1 20 (.bin .lss (so (.binOp .lss 3 (tm 19) (.const (.int .i64 4)) 3) 0) (tm 19) (.const (.int .i64 4)))]) (.seq (.cond (tm 20)
 .skip
 (.exit 0)) (.seq (.block 1 (.seq (.region [
 o1 21 (.index 4 1 none (tm 18) (tm 19)),
 o1 7 (.mov (tm 21))]) (.region [
 o1 22 (.mov (tm 7)),
 o1 23 (.mov (tm 4)),
 o1 24 (.callV (.func 86) [(tm 23)]),
 o1 25 (.nilCheck (tm 22)),
 o3 (.store 32 (tm 25) (tm 24))]))) (.region [
 o1 26 (.bin .add (so (.binOp .add 3 (tm 19) (.const (.int .i64 1)) 3) 3) (tm 19) (.const (.int .i64 1))),
 o1 19 (.mov (tm 26))]))))
def zvQ_c : ACode :=
 (.seq (.region [
 o1 2 (.alloc 25 ((.string ⟨⟨[]⟩⟩) :: ((.int .i64 0) :: ((.int .i64 0) :: (z32 ++ (z32 ++ (z32 ++ z32))))))),
 o1 3 (.alloc 44 [(.int .i64 0), (.int .i64 0)])]) (.seq (.region [
 o1 9 (.mov (tm 0)),
 o1 10 (.callV (.func 41) [(tm 9)]),
 o1 4 (.mov (tm 10))]) (.seq (.region [
 o1 11 (.mov (tm 4)),
 o1 12 (.callV (.func 83) [(tm 11), (.const (.int .i64 32))]),
 o1 13 (.mov (tm 4)),
 o1 14 (.callV (.func 84) [(tm 13)]),
 o1 15 (.mov (tm 4)),
 o1 16 (.callV (.func 84) [(tm 15)]),
 o1 17 (.build ((.string ⟨⟨[]⟩⟩) :: ((.int .i64 0) :: ((.int .i64 0) :: (z32 ++ (z32 ++ (z32 ++ z32)))))) [(0, 1, (tm 12)), (1, 1, (tm 14)), (2, 1, (tm 16))]),
 o1 5 (.alloc 25 ((.string ⟨⟨[]⟩⟩) :: ((.int .i64 0) :: ((.int .i64 0) :: (z32 ++ (z32 ++ (z32 ++ z32))))))),
 o3 (.store 131 (tm 5) (tm 17))]) (.seq (.seq (.region [
 o1 18 (.callV (.func 85) [(tm 5)]),
 o1 19 (.mov k0)]) (.block 0 (.loop zvQ_l0))) (.seq (.region [
 o1 27 (.mov (tm 4)),
 o1 28 (.callV (.func 48) [(tm 27)]),
 o1 8 (.alloc 44 [(.int .i64 0), (.int .i64 0)]),
 o3 (.store 2 (tm 8) (tm 28))]) (.seq (.seq (.region [
 o1 29 (.load (some 2) (tm 8)),
 o1 30 (.build [(.int .i64 0), (.int .i64 0)] []),
 o1 31 (.bin .eql (so (.binOp .eql 44 (tm 29) (tm 30) 44) 4) (tm 29) (tm 30))]) (.cond (tm 31)
 (.region [
 o1 32 (.load (some 131) (tm 5)),
 o1 33 (.callV (.func 87) [(tm 32)]),
 o1 34 (.fieldAddr 0 (tm 8)),
 o3 (.store 1 (tm 34) (tm 33))])
 .skip)) (.seq (.seq (.region [
 o1 35 (.load (some 2) (tm 8)),
 o1 36 (.build [(.int .i64 0), (.int .i64 0)] []),
 o1 37 (.bin .neq (so (.binOp .neq 44 (tm 35) (tm 36) 44) 4) (tm 35) (tm 36))]) (.cond (tm 37)
 (.seq (.regionD [
 o1 38 (.build ((.string ⟨⟨[]⟩⟩) :: ((.int .i64 0) :: ((.int .i64 0) :: (z32 ++ (z32 ++ (z32 ++ z32)))))) []),
 o1 39 (.load (some 2) (tm 8)),
 ⟨none, .store 131 (tm 2) (tm 38), none, [(some 39, .load (some 2) (tm 8), none)], false⟩,
 ⟨none, .store 2 (tm 3) (tm 39), none, [], true⟩]) .ret)
 .skip)) (.seq (.regionD [
 o1 40 (.load (some 131) (tm 5)),
 o1 41 (.load (some 2) (tm 8)),
 ⟨none, .store 131 (tm 2) (tm 40), none, [(some 41, .load (some 2) (tm 8), none)], false⟩,
 ⟨none, .store 2 (tm 3) (tm 41), none, [], true⟩]) .ret))))))))
def zvQ : AFunc := ⟨42, [(2, some (some 131)), (3, some (some 2))], zvQ_c, none⟩
theorem zvQ_t0 : tableOf Tryz.prog 43 = some zvQ := by kernel_rfl
theorem zvQ_t : T0 43 = some zvQ := withKept_t rfl (withTrue_t rfl zvQ_t0)
theorem zvQ_runs {v0 : Value} {h : Heap} {R : RP} {X : XP} (k : RunC Tryz.prog T0 zvQ_c ⟨[v0, U, U, U, U, U, U, U, U, U, U, U, U, U, U, U, U, U, U, U, U, U, U, U, U, U, U, U, U, U, U, U, U, U, U, U, U, U, U, U, U, U], [], h, none⟩ (bodyQ Tryz.prog T0 [(2, some (some 131)), (3, some (some 2))] R X)) :
 Runs Tryz.prog T0 (.fn 43) [v0] h R X := Runs.fn zvQ_t rfl k
def zvQ_l0_J (f0 f1 f2 f3 f4 f5 f6 f8 f9 f10 f11 f12 f13 f14 f15 f16 f17 f18 f27 f28 f29 f30 f31 f32 f33 f34 f35 f36 f37 f38 f39 f40 f41 : Value) (ds : List Deferred) (rd : Option Nat) (I : Nat → Value → Heap → Prop) (m : Nat) (s : St) : Prop := ∃ (v19 : Value), ∃ h : Heap, ∃ (x7 x20 x21 x22 x23 x24 x25 x26 : Value), s = ⟨[f0, f1, f2, f3, f4, f5, f6, x7, f8, f9, f10, f11, f12, f13, f14, f15, f16, f17, f18, v19, x20, x21, x22, x23, x24, x25, x26, f27, f28, f29, f30, f31, f32, f33, f34, f35, f36, f37, f38, f39, f40, f41], ds, h, rd⟩ ∧ I m v19 h
theorem zvQ_l0_rule {f0 f1 f2 f3 f4 f5 f6 f8 f9 f10 f11 f12 f13 f14 f15 f16 f17 f18 f27 f28 f29 f30 f31 f32 f33 f34 f35 f36 f37 f38 f39 f40 f41 : Value} {ds : List Deferred} {rd : Option Nat} {Q : QP} (I : Nat → Value → Heap → Prop) (hb : ∀ (m : Nat) (v19 : Value) (h : Heap) (x7 x20 x21 x22 x23 x24 x25 x26 : Value) , I m v19 h → RunC Tryz.prog T0 zvQ_l0 ⟨[f0, f1, f2, f3, f4, f5, f6, x7, f8, f9, f10, f11, f12, f13, f14, f15, f16, f17, f18, v19, x20, x21, x22, x23, x24, x25, x26, f27, f28, f29, f30, f31, f32, f33, f34, f35, f36, f37, f38, f39, f40, f41], ds, h, rd⟩ (loopQ (zvQ_l0_J f0 f1 f2 f3 f4 f5 f6 f8 f9 f10 f11 f12 f13 f14 f15 f16 f17 f18 f27 f28 f29 f30 f31 f32 f33 f34 f35 f36 f37 f38 f39 f40 f41 ds rd I) m Q))
 (m : Nat) {v19 : Value} {h : Heap} {x7 x20 x21 x22 x23 x24 x25 x26 : Value} (hi : I m v19 h) : RunC Tryz.prog T0 (.loop zvQ_l0) ⟨[f0, f1, f2, f3, f4, f5, f6, x7, f8, f9, f10, f11, f12, f13, f14, f15, f16, f17, f18, v19, x20, x21, x22, x23, x24, x25, x26, f27, f28, f29, f30, f31, f32, f33, f34, f35, f36, f37, f38, f39, f40, f41], ds, h, rd⟩ Q :=
 RunC.loopJ (zvQ_l0_J f0 f1 f2 f3 f4 f5 f6 f8 f9 f10 f11 f12 f13 f14 f15 f16 f17 f18 f27 f28 f29 f30 f31 f32 f33 f34 f35 f36 f37 f38 f39 f40 f41 ds rd I) (fun m s hj => by obtain ⟨v19, h, x7, x20, x21, x22, x23, x24, x25, x26, rfl, hi⟩ := hj; exact hb m v19 h x7 x20 x21 x22 x23 x24 x25 x26 hi) m _ ⟨_, h, _, _, _, _, _, _, _, _, rfl, hi⟩
theorem zvQ_l0_again {f0 f1 f2 f3 f4 f5 f6 f8 f9 f10 f11 f12 f13 f14 f15 f16 f17 f18 f27 f28 f29 f30 f31 f32 f33 f34 f35 f36 f37 f38 f39 f40 f41 : Value} {ds : List Deferred} {rd : Option Nat} {Q : QP} {I : Nat → Value → Heap → Prop} {m : Nat} (m' : Nat) {v19 : Value} {h : Heap} {x7 x20 x21 x22 x23 x24 x25 x26 : Value} (hm : m' < m) (hi : I m' v19 h) : loopQ (zvQ_l0_J f0 f1 f2 f3 f4 f5 f6 f8 f9 f10 f11 f12 f13 f14 f15 f16 f17 f18 f27 f28 f29 f30 f31 f32 f33 f34 f35 f36 f37 f38 f39 f40 f41 ds rd I) m Q .normal ⟨[f0, f1, f2, f3, f4, f5, f6, x7, f8, f9, f10, f11, f12, f13, f14, f15, f16, f17, f18, v19, x20, x21, x22, x23, x24, x25, x26, f27, f28, f29, f30, f31, f32, f33, f34, f35, f36, f37, f38, f39, f40, f41], ds, h, rd⟩ :=
 loopQ.again m' hm ⟨_, h, _, _, _, _, _, _, _, _, rfl, hi⟩
abbrev fn_znQ : FuncId := 44
def znQ_c : ACode :=
 (.seq (.region [
 o1 8 (.alloc 31 ((.int .i64 0) :: (z32 ++ [(.slice none 0 0)])))]) (.seq (.seq (.region [
 o1 13 (.mov (tm 2)),
 o1 14 (.nilCheck (tm 13)),
 o1 15 (.load (some 2) (tm 14)),
 o1 16 (.build [(.int .i64 0), (.int .i64 0)] []),
 o1 17 (.bin .neq (so (.binOp .neq 44 (tm 15) (tm 16) 44) 4) (tm 15) (tm 16))]) (.cond (tm 17)
 (.seq (.region [
 o1 18 (.load (some 34) (tm 8)),
 o3 (.store 34 (tm 8) (tm 18))]) .ret)
 .skip)) (.seq (.region [
 o1 19 (.mov (tm 1)),
 o1 20 (.mov (tm 0)),
 o1 21 (.callV (.func 81) [(tm 20)]),
 o1 22 (.bin .sub (so (.binOp .sub 3 (tm 19) (tm 21) 3) 3) (tm 19) (tm 21)),
 o1 9 (.mov (tm 22))]) (.seq (.region [
 o1 23 (.mov (tm 0)),
 o1 24 (.callV (.func 82) [(tm 23), (.const (.int .i64 65536))]),
 o1 10 (.mov (tm 24))]) (.seq (.seq (.region [
 o1 25 (.mov (tm 0)),
 o1 26 (.callV (.func 81) [(tm 25)]),
 o1 27 (.bin .eql (so (.binOp .eql 3 (tm 26) k0 3) 4) (tm 26) k0),
 o1 28 (.mov (tm 27)),
 o4 29 (.mov (tm 0)) 28,
 o4 30 (.callV (.func 48) [(tm 29)]) 28,
 o4 31 (.build [(.int .i64 0), (.int .i64 0)] []) 28,
 o4 32 (.bin .neq (so (.binOp .neq 44 (tm 30) (tm 31) 44) 4) (tm 30) (tm 31)) 28,
 o1 33 (.pick (tm 28) (tm 32) (.const (.bool false)))]) (.cond (tm 33)
 (.seq (.region [
 o1 34 (.mov (tm 2)),
 o1 35 (.mov (tm 0)),
 o1 36 (.callV (.func 48) [(tm 35)]),
 o1 37 (.nilCheck (tm 34)),
 o3 (.store 2 (tm 37) (tm 36))]) (.seq (.region [
 o1 38 (.load (some 34) (tm 8)),
 o3 (.store 34 (tm 8) (tm 38))]) .ret))
 .skip)) (.seq (.region [
 o1 40 (.mov (tm 3)),
 o1 41 (.mov (tm 10)),
 o1 42 (.callV (tm 40) [(tm 41)]),
 o1 39 (.mov (tm 42)),
 o1 43 (.extract 0 (tm 39)),
 o1 44 (.extract 1 (tm 39)),
 o1 11 (.alloc 31 ((.int .i64 0) :: (z32 ++ [(.slice none 0 0)]))),
 o1 12 (.alloc 44 [(.int .i64 0), (.int .i64 0)]),
 o3 (.store 34 (tm 11) (tm 43)),
 o3 (.store 2 (tm 12) (tm 44))]) (.seq (.seq (.region [
 o1 45 (.load (some 2) (tm 12)),
 o1 46 (.build [(.int .i64 0), (.int .i64 0)] []),
 o1 47 (.bin .neq (so (.binOp .neq 44 (tm 45) (tm 46) 44) 4) (tm 45) (tm 46))]) (.cond (tm 47)
 (.seq (.region [
 o1 48 (.mov (tm 2)),
 o1 49 (.mov (tm 9)),
 o1 50 (.build [(.int .i64 0), (.int .i64 0)] [(0, 1, (.const (.int .i64 5))), (1, 1, (tm 49))]),
 o1 51 (.nilCheck (tm 48)),
 o3 (.store 2 (tm 51) (tm 50))]) (.seq (.region [
 o1 52 (.load (some 34) (tm 8)),
 o3 (.store 34 (tm 8) (tm 52))]) .ret))
 .skip)) (.seq (.region [
 o1 53 (.load (some 34) (tm 11)),
 o3 (.store 34 (tm 8) (tm 53))]) .ret))))))))
def znQ : AFunc := ⟨54, [(8, some (some 34))], znQ_c, none⟩
theorem znQ_t0 : tableOf Tryz.prog 44 = some znQ := by kernel_rfl
theorem znQ_t : T0 44 = some znQ := withKept_t rfl (withTrue_t rfl znQ_t0)
theorem znQ_runs {v0 v1 v2 v3 : Value} {h : Heap} {R : RP} {X : XP} (k : RunC Tryz.prog T0 znQ_c ⟨[v0, v1, v2, v3, U, U, U, U, U, U, U, U, U, U, U, U, U, U, U, U, U, U, U, U, U, U, U, U, U, U, U, U, U, U, U, U, U, U, U, U, U, U, U, U, U, U, U, U, U, U, U, U, U, U], [], h, none⟩ (bodyQ Tryz.prog T0 [(8, some (some 34))] R X)) :
 Runs Tryz.prog T0 (.fn 44) [v0, v1, v2, v3] h R X := Runs.fn znQ_t rfl k
abbrev fn_zrQ : FuncId := 45
def zrQ_l0 : ACode :=
 (.seq (.region [
 o1 30 (.bin .lss (so (.binOp .lss 3 (tm 29) (tm 28) 3) 4) (tm 29) (tm 28))]) (.seq (.cond (tm 30)
 .skip
 (.exit 0)) (.seq (.block 1 (.seq (.region [
 o1 31 (.mov (tm 4)),
 o1 32 (.callV (.func 84) [(tm 31)]),
 o1 33 (.build [(.int .i64 0), (.int .u64 0)] [(0, 1, (tm 32))]),
 o1 7 (.alloc 109 [(.int .i64 0), (.int .u64 0)]),
 o3 (.store 2 (tm 7) (tm 33))]) (.seq (.region [
 o1 34 (.mov (tm 4)),
 o1 35 (.callV (.func 88) [(tm 34)]),
 o1 36 (.fieldAddr 1 (tm 7)),
 o3 (.store 1 (tm 36) (tm 35))]) (.region [
 o1 37 (.fieldAddr 33 (tm 2)),
 o1 38 (.load none (tm 37)),
 o1 39 (.load (some 2) (tm 7)),
 o1 40 (.buildSlice 109 [(.int .i64 0), (.int .u64 0)] 1 [(0, 2, (tm 39))]),
 o1 41 (.append 109 2 16 [(.int .i64 0), (.int .u64 0)] false (tm 38) (tm 40)),
 o1 42 (.fieldAddr 33 (tm 2)),
 o3 (.store 1 (tm 42) (tm 41))])))) (.region [
 o1 43 (.bin .add (so (.binOp .add 3 (tm 29) (.const (.int .i64 1)) 3) 3) (tm 29) (.const (.int .i64 1))),
 o1 29 (.mov (tm 43))]))))
def zrQ_c : ACode :=
 (.seq (.region [
 o1 2 (.alloc 31 ((.int .i64 0) :: (z32 ++ [(.slice none 0 0)]))),
 o1 3 (.alloc 44 [(.int .i64 0), (.int .i64 0)])]) (.seq (.region [
 o1 8 (.mov (tm 0)),
 o1 9 (.callV (.func 41) [(tm 8)]),
 o1 4 (.mov (tm 9))]) (.seq (.region [
 o1 10 (.mov (tm 4)),
 o1 11 (.callV (.func 84) [(tm 10)]),
 o1 12 (.fieldAddr 0 (tm 2)),
 o3 (.store 1 (tm 12) (tm 11))]) (.seq (.region [
 o1 13 (.mov (tm 4)),
 o1 14 (.callV (.func 86) [(tm 13)]),
 o1 15 (.fieldAddr 1 (tm 2)),
 o3 (.store 32 (tm 15) (tm 14))]) (.seq (.region [
 o1 16 (.mov (tm 0)),
 o1 17 (.lenSl (tm 16)),
 o1 18 (.mov (tm 4)),
 o1 19 (.callV (.func 81) [(tm 18)]),
 o1 20 (.bin .sub (so (.binOp .sub 3 (tm 17) (tm 19) 3) 3) (tm 17) (tm 19)),
 o1 5 (.mov (tm 20))]) (.seq (.region [
 o1 21 (.mov (tm 4)),
 o1 22 (.callV (.func 84) [(tm 21)]),
 o1 6 (.mov (tm 22))]) (.seq (.seq (.region [
 o1 23 (.mov (tm 6)),
 o1 24 (.bin .gtr (so (.binOp .gtr 3 (tm 23) (.const (.int .i64 64)) 3) 4) (tm 23) (.const (.int .i64 64)))]) (.cond (tm 24)
 (.seq (.region [
 o1 25 (.build ((.int .i64 0) :: (z32 ++ [(.slice none 0 0)])) []),
 o1 26 (.mov (tm 5)),
 o1 27 (.build [(.int .i64 0), (.int .i64 0)] [(0, 1, (.const (.int .i64 4))), (1, 1, (tm 26))]),
 o3 (.store 34 (tm 2) (tm 25)),
 o3 (.store 2 (tm 3) (tm 27))]) .ret)
 .skip)) (.seq (.seq (.region [
 o1 28 (.mov (tm 6)),
 o1 29 (.mov k0)]) (.block 0 (.loop zrQ_l0))) (.seq (.seq (.region [
 o1 44 (.mov (tm 4)),
 o1 45 (.callV (.func 48) [(tm 44)]),
 o3 (.store 2 (tm 3) (tm 45))]) (.seq (.region [
 o1 46 (.load (some 2) (tm 3)),
 o1 47 (.build [(.int .i64 0), (.int .i64 0)] []),
 o1 48 (.bin .eql (so (.binOp .eql 44 (tm 46) (tm 47) 44) 4) (tm 46) (tm 47))]) (.cond (tm 48)
 (.region [
 o1 49 (.load (some 34) (tm 2)),
 o1 50 (.callV (.func 89) [(tm 49)]),
 o1 51 (.fieldAddr 0 (tm 3)),
 o3 (.store 1 (tm 51) (tm 50))])
 .skip))) (.seq (.seq (.region [
 o1 52 (.load (some 2) (tm 3)),
 o1 53 (.build [(.int .i64 0), (.int .i64 0)] []),
 o1 54 (.bin .neq (so (.binOp .neq 44 (tm 52) (tm 53) 44) 4) (tm 52) (tm 53))]) (.cond (tm 54)
 (.seq (.regionD [
 o1 55 (.build ((.int .i64 0) :: (z32 ++ [(.slice none 0 0)])) []),
 o1 56 (.load (some 2) (tm 3)),
 ⟨none, .store 34 (tm 2) (tm 55), none, [(some 56, .load (some 2) (tm 3), none)], false⟩,
 ⟨none, .store 2 (tm 3) (tm 56), none, [], true⟩]) .ret)
 .skip)) (.seq (.regionD [
 o1 57 (.load (some 34) (tm 2)),
 o1 58 (.load (some 2) (tm 3)),
 ⟨none, .store 34 (tm 2) (tm 57), none, [(some 58, .load (some 2) (tm 3), none)], false⟩,
 ⟨none, .store 2 (tm 3) (tm 58), none, [], true⟩]) .ret)))))))))))
def zrQ : AFunc := ⟨59, [(2, some (some 34)), (3, some (some 2))], zrQ_c, none⟩
theorem zrQ_t0 : tableOf Tryz.prog 45 = some zrQ := by kernel_rfl
theorem zrQ_t : T0 45 = some zrQ := withKept_t rfl (withTrue_t rfl zrQ_t0)
theorem zrQ_runs {v0 : Value} {h : Heap} {R : RP} {X : XP} (k : RunC Tryz.prog T0 zrQ_c ⟨[v0, U, U, U, U, U, U, U, U, U, U, U, U, U, U, U, U, U, U, U, U, U, U, U, U, U, U, U, U, U, U, U, U, U, U, U, U, U, U, U, U, U, U, U, U, U, U, U, U, U, U, U, U, U, U, U, U, U, U], [], h, none⟩ (bodyQ Tryz.prog T0 [(2, some (some 34)), (3, some (some 2))] R X)) :
 Runs Tryz.prog T0 (.fn 45) [v0] h R X := Runs.fn zrQ_t rfl k
def zrQ_l0_J (f0 f1 f2 f3 f4 f5 f6 f8 f9 f10 f11 f12 f13 f14 f15 f16 f17 f18 f19 f20 f21 f22 f23 f24 f25 f26 f27 f28 f44 f45 f46 f47 f48 f49 f50 f51 f52 f53 f54 f55 f56 f57 f58 : Value) (ds : List Deferred) (rd : Option Nat) (I : Nat → Value → Heap → Prop) (m : Nat) (s : St) : Prop := ∃ (v29 : Value), ∃ h : Heap, ∃ (x7 x30 x31 x32 x33 x34 x35 x36 x37 x38 x39 x40 x41 x42 x43 : Value), s = ⟨[f0, f1, f2, f3, f4, f5, f6, x7, f8, f9, f10, f11, f12, f13, f14, f15, f16, f17, f18, f19, f20, f21, f22, f23, f24, f25, f26, f27, f28, v29, x30, x31, x32, x33, x34, x35, x36, x37, x38, x39, x40, x41, x42, x43, f44, f45, f46, f47, f48, f49, f50, f51, f52, f53, f54, f55, f56, f57, f58], ds, h, rd⟩ ∧ I m v29 h
theorem zrQ_l0_rule {f0 f1 f2 f3 f4 f5 f6 f8 f9 f10 f11 f12 f13 f14 f15 f16 f17 f18 f19 f20 f21 f22 f23 f24 f25 f26 f27 f28 f44 f45 f46 f47 f48 f49 f50 f51 f52 f53 f54 f55 f56 f57 f58 : Value} {ds : List Deferred} {rd : Option Nat} {Q : QP} (I : Nat → Value → Heap → Prop) (hb : ∀ (m : Nat) (v29 : Value) (h : Heap) (x7 x30 x31 x32 x33 x34 x35 x36 x37 x38 x39 x40 x41 x42 x43 : Value) , I m v29 h → RunC Tryz.prog T0 zrQ_l0 ⟨[f0, f1, f2, f3, f4, f5, f6, x7, f8, f9, f10, f11, f12, f13, f14, f15, f16, f17, f18, f19, f20, f21, f22, f23, f24, f25, f26, f27, f28, v29, x30, x31, x32, x33, x34, x35, x36, x37, x38, x39, x40, x41, x42, x43, f44, f45, f46, f47, f48, f49, f50, f51, f52, f53, f54, f55, f56, f57, f58], ds, h, rd⟩ (loopQ (zrQ_l0_J f0 f1 f2 f3 f4 f5 f6 f8 f9 f10 f11 f12 f13 f14 f15 f16 f17 f18 f19 f20 f21 f22 f23 f24 f25 f26 f27 f28 f44 f45 f46 f47 f48 f49 f50 f51 f52 f53 f54 f55 f56 f57 f58 ds rd I) m Q))
 (m : Nat) {v29 : Value} {h : Heap} {x7 x30 x31 x32 x33 x34 x35 x36 x37 x38 x39 x40 x41 x42 x43 : Value} (hi : I m v29 h) : RunC Tryz.prog T0 (.loop zrQ_l0) ⟨[f0, f1, f2, f3, f4, f5, f6, x7, f8, f9, f10, f11, f12, f13, f14, f15, f16, f17, f18, f19, f20, f21, f22, f23, f24, f25, f26, f27, f28, v29, x30, x31, x32, x33, x34, x35, x36, x37, x38, x39, x40, x41, x42, x43, f44, f45, f46, f47, f48, f49, f50, f51, f52, f53, f54, f55, f56, f57, f58], ds, h, rd⟩ Q :=
 RunC.loopJ (zrQ_l0_J f0 f1 f2 f3 f4 f5 f6 f8 f9 f10 f11 f12 f13 f14 f15 f16 f17 f18 f19 f20 f21 f22 f23 f24 f25 f26 f27 f28 f44 f45 f46 f47 f48 f49 f50 f51 f52 f53 f54 f55 f56 f57 f58 ds rd I) (fun m s hj => by obtain ⟨v29, h, x7, x30, x31, x32, x33, x34, x35, x36, x37, x38, x39, x40, x41, x42, x43, rfl, hi⟩ := hj; exact hb m v29 h x7 x30 x31 x32 x33 x34 x35 x36 x37 x38 x39 x40 x41 x42 x43 hi) m _ ⟨_, h, _, _, _, _, _, _, _, _, _, _, _, _, _, _, _, rfl, hi⟩
theorem zrQ_l0_again {f0 f1 f2 f3 f4 f5 f6 f8 f9 f10 f11 f12 f13 f14 f15 f16 f17 f18 f19 f20 f21 f22 f23 f24 f25 f26 f27 f28 f44 f45 f46 f47 f48 f49 f50 f51 f52 f53 f54 f55 f56 f57 f58 : Value} {ds : List Deferred} {rd : Option Nat} {Q : QP} {I : Nat → Value → Heap → Prop} {m : Nat} (m' : Nat) {v29 : Value} {h : Heap} {x7 x30 x31 x32 x33 x34 x35 x36 x37 x38 x39 x40 x41 x42 x43 : Value} (hm : m' < m) (hi : I m' v29 h) : loopQ (zrQ_l0_J f0 f1 f2 f3 f4 f5 f6 f8 f9 f10 f11 f12 f13 f14 f15 f16 f17 f18 f19 f20 f21 f22 f23 f24 f25 f26 f27 f28 f44 f45 f46 f47 f48 f49 f50 f51 f52 f53 f54 f55 f56 f57 f58 ds rd I) m Q .normal ⟨[f0, f1, f2, f3, f4, f5, f6, x7, f8, f9, f10, f11, f12, f13, f14, f15, f16, f17, f18, f19, f20, f21, f22, f23, f24, f25, f26, f27, f28, v29, x30, x31, x32, x33, x34, x35, x36, x37, x38, x39, x40, x41, x42, x43, f44, f45, f46, f47, f48, f49, f50, f51, f52, f53, f54, f55, f56, f57, f58], ds, h, rd⟩ :=
 loopQ.again m' hm ⟨_, h, _, _, _, _, _, _, _, _, _, _, _, _, _, _, _, rfl, hi⟩
abbrev fn_zmQ : FuncId := 46
def zmQ_c : ACode :=
 (.seq (.region [
 o1 8 (.mov (.const (.slice none 0 0)))]) (.seq (.seq (.region [
 o1 13 (.mov (tm 2)),
 o1 14 (.nilCheck (tm 13)),
 o1 15 (.load (some 2) (tm 14)),
 o1 16 (.build [(.int .i64 0), (.int .i64 0)] []),
 o1 17 (.bin .neq (so (.binOp .neq 44 (tm 15) (tm 16) 44) 4) (tm 15) (tm 16))]) (.cond (tm 17)
 (.seq (.region [
 o1 18 (.mov (tm 8)),
 o1 8 (.mov (tm 18))]) .ret)
 .skip)) (.seq (.region [
 o1 19 (.mov (tm 1)),
 o1 20 (.mov (tm 0)),
 o1 21 (.callV (.func 81) [(tm 20)]),
 o1 22 (.bin .sub (so (.binOp .sub 3 (tm 19) (tm 21) 3) 3) (tm 19) (tm 21)),
 o1 9 (.mov (tm 22))]) (.seq (.region [
 o1 23 (.mov (tm 0)),
 o1 24 (.callV (.func 82) [(tm 23), (.const (.int .i64 65536))]),
 o1 10 (.mov (tm 24))]) (.seq (.seq (.region [
 o1 25 (.mov (tm 0)),
 o1 26 (.callV (.func 81) [(tm 25)]),
 o1 27 (.bin .eql (so (.binOp .eql 3 (tm 26) k0 3) 4) (tm 26) k0),
 o1 28 (.mov (tm 27)),
 o4 29 (.mov (tm 0)) 28,
 o4 30 (.callV (.func 48) [(tm 29)]) 28,
 o4 31 (.build [(.int .i64 0), (.int .i64 0)] []) 28,
 o4 32 (.bin .neq (so (.binOp .neq 44 (tm 30) (tm 31) 44) 4) (tm 30) (tm 31)) 28,
 o1 33 (.pick (tm 28) (tm 32) (.const (.bool false)))]) (.cond (tm 33)
 (.seq (.region [
 o1 34 (.mov (tm 2)),
 o1 35 (.mov (tm 0)),
 o1 36 (.callV (.func 48) [(tm 35)]),
 o1 37 (.nilCheck (tm 34)),
 o3 (.store 2 (tm 37) (tm 36))]) (.seq (.region [
 o1 38 (.mov (tm 8)),
 o1 8 (.mov (tm 38))]) .ret))
 .skip)) (.seq (.region [
 o1 40 (.mov (tm 3)),
 o1 41 (.mov (tm 10)),
 o1 42 (.callV (tm 40) [(tm 41)]),
 o1 39 (.mov (tm 42)),
 o1 43 (.extract 0 (tm 39)),
 o1 44 (.extract 1 (tm 39)),
 o1 12 (.alloc 44 [(.int .i64 0), (.int .i64 0)]),
 o1 11 (.mov (tm 43)),
 o3 (.store 2 (tm 12) (tm 44))]) (.seq (.seq (.region [
 o1 45 (.load (some 2) (tm 12)),
 o1 46 (.build [(.int .i64 0), (.int .i64 0)] []),
 o1 47 (.bin .neq (so (.binOp .neq 44 (tm 45) (tm 46) 44) 4) (tm 45) (tm 46))]) (.cond (tm 47)
 (.seq (.region [
 o1 48 (.mov (tm 2)),
 o1 49 (.mov (tm 9)),
 o1 50 (.build [(.int .i64 0), (.int .i64 0)] [(0, 1, (.const (.int .i64 5))), (1, 1, (tm 49))]),
 o1 51 (.nilCheck (tm 48)),
 o3 (.store 2 (tm 51) (tm 50))]) (.seq (.region [
 o1 52 (.mov (tm 8)),
 o1 8 (.mov (tm 52))]) .ret))
 .skip)) (.seq (.region [
 o1 53 (.mov (tm 11)),
 o1 8 (.mov (tm 53))]) .ret))))))))
def zmQ : AFunc := ⟨54, [(8, none)], zmQ_c, none⟩
theorem zmQ_t0 : tableOf Tryz.prog 46 = some zmQ := by kernel_rfl
theorem zmQ_t : T0 46 = some zmQ := withKept_t rfl (withTrue_t rfl zmQ_t0)
theorem zmQ_runs {v0 v1 v2 v3 : Value} {h : Heap} {R : RP} {X : XP} (k : RunC Tryz.prog T0 zmQ_c ⟨[v0, v1, v2, v3, U, U, U, U, U, U, U, U, U, U, U, U, U, U, U, U, U, U, U, U, U, U, U, U, U, U, U, U, U, U, U, U, U, U, U, U, U, U, U, U, U, U, U, U, U, U, U, U, U, U], [], h, none⟩ (bodyQ Tryz.prog T0 [(8, none)] R X)) :
 Runs Tryz.prog T0 (.fn 46) [v0, v1, v2, v3] h R X := Runs.fn zmQ_t rfl k
abbrev fn_zscQ : FuncId := 47
def zscQ_l0 : ACode :=
 (.seq (.region [
 o1 16 (.bin .lss (so (.binOp .lss 3 (tm 15) (tm 14) 3) 4) (tm 15) (tm 14))]) (.seq (.cond (tm 16)
 .skip
 (.exit 0)) (.seq (.block 1 (.seq (.region [
 o1 17 (.mov (tm 4)),
 o1 18 (.callV (.func 90) [(tm 17)]),
 o1 19 (.build [(.int .u8 0), (.int .u8 0), (.int .u8 0), (.int .u8 0), (.int .i64 0)] [(0, 4, (tm 18))]),
 o1 6 (.alloc 66 [(.int .u8 0), (.int .u8 0), (.int .u8 0), (.int .u8 0), (.int .i64 0)]),
 o3 (.store 5 (tm 6) (tm 19))]) (.seq (.region [
 o1 20 (.mov (tm 4)),
 o1 21 (.callV (.func 84) [(tm 20)]),
 o1 22 (.fieldAddr 4 (tm 6)),
 o3 (.store 1 (tm 22) (tm 21))]) (.region [
 o1 23 (.mov (tm 2)),
 o1 24 (.load (some 5) (tm 6)),
 o1 25 (.buildSlice 66 [(.int .u8 0), (.int .u8 0), (.int .u8 0), (.int .u8 0), (.int .i64 0)] 1 [(0, 5, (tm 24))]),
 o1 26 (.append 66 5 16 [(.int .u8 0), (.int .u8 0), (.int .u8 0), (.int .u8 0), (.int .i64 0)] false (tm 23) (tm 25)),
 o1 2 (.mov (tm 26))])))) (.region [
 o1 27 (.bin .add (so (.binOp .add 3 (tm 15) (.const (.int .i64 1)) 3) 3) (tm 15) (.const (.int .i64 1))),
 o1 15 (.mov (tm 27))]))))
def zscQ_c : ACode :=
 (.seq (.region [
 o1 2 (.mov (.const (.slice none 0 0))),
 o1 3 (.alloc 44 [(.int .i64 0), (.int .i64 0)])]) (.seq (.region [
 o1 7 (.mov (tm 0)),
 o1 8 (.callV (.func 41) [(tm 7)]),
 o1 4 (.mov (tm 8))]) (.seq (.region [
 o1 9 (.mov (tm 4)),
 o1 10 (.callV (.func 84) [(tm 9)]),
 o1 5 (.mov (tm 10))]) (.seq (.seq (.region [
 o1 11 (.mov (tm 5)),
 o1 12 (.bin .gtr (so (.binOp .gtr 3 (tm 11) (.const (.int .i64 64)) 3) 4) (tm 11) (.const (.int .i64 64)))]) (.cond (tm 12)
 (.seq (.region [
 o1 13 (.build [(.int .i64 0), (.int .i64 0)] [(0, 1, (.const (.int .i64 4)))]),
 o1 2 (.mov (.const (.slice none 0 0))),
 o3 (.store 2 (tm 3) (tm 13))]) .ret)
 .skip)) (.seq (.seq (.region [
 o1 14 (.mov (tm 5)),
 o1 15 (.mov k0)]) (.block 0 (.loop zscQ_l0))) (.seq (.seq (.region [
 o1 28 (.mov (tm 4)),
 o1 29 (.callV (.func 48) [(tm 28)]),
 o3 (.store 2 (tm 3) (tm 29))]) (.seq (.region [
 o1 30 (.load (some 2) (tm 3)),
 o1 31 (.build [(.int .i64 0), (.int .i64 0)] []),
 o1 32 (.bin .eql (so (.binOp .eql 44 (tm 30) (tm 31) 44) 4) (tm 30) (tm 31))]) (.cond (tm 32)
 (.region [
 o1 33 (.mov (tm 2)),
 o1 34 (.callV (.func 65) [(tm 33)]),
 o1 35 (.fieldAddr 0 (tm 3)),
 o3 (.store 1 (tm 35) (tm 34))])
 .skip))) (.seq (.seq (.region [
 o1 36 (.load (some 2) (tm 3)),
 o1 37 (.build [(.int .i64 0), (.int .i64 0)] []),
 o1 38 (.bin .neq (so (.binOp .neq 44 (tm 36) (tm 37) 44) 4) (tm 36) (tm 37))]) (.cond (tm 38)
 (.seq (.regionD [
 o1 39 (.load (some 2) (tm 3)),
 o1 2 (.mov (.const (.slice none 0 0))),
 ⟨none, .store 2 (tm 3) (tm 39), none, [], true⟩]) .ret)
 .skip)) (.seq (.regionD [
 o1 40 (.mov (tm 2)),
 o1 41 (.load (some 2) (tm 3)),
 ⟨some 2, .mov (tm 40), none, [(some 41, .load (some 2) (tm 3), none)], false⟩,
 ⟨none, .store 2 (tm 3) (tm 41), none, [], true⟩]) .ret))))))))
def zscQ : AFunc := ⟨42, [(2, none), (3, some (some 2))], zscQ_c, none⟩
theorem zscQ_t0 : tableOf Tryz.prog 47 = some zscQ := by kernel_rfl
theorem zscQ_t : T0 47 = some zscQ := withKept_t rfl (withTrue_t rfl zscQ_t0)
theorem zscQ_runs {v0 : Value} {h : Heap} {R : RP} {X : XP} (k : RunC Tryz.prog T0 zscQ_c ⟨[v0, U, U, U, U, U, U, U, U, U, U, U, U, U, U, U, U, U, U, U, U, U, U, U, U, U, U, U, U, U, U, U, U, U, U, U, U, U, U, U, U, U], [], h, none⟩ (bodyQ Tryz.prog T0 [(2, none), (3, some (some 2))] R X)) :
 Runs Tryz.prog T0 (.fn 47) [v0] h R X := Runs.fn zscQ_t rfl k
def zscQ_l0_J (f0 f1 f3 f4 f5 f7 f8 f9 f10 f11 f12 f13 f14 f28 f29 f30 f31 f32 f33 f34 f35 f36 f37 f38 f39 f40 f41 : Value) (ds : List Deferred) (rd : Option Nat) (I : Nat → Value → Value → Heap → Prop) (m : Nat) (s : St) : Prop := ∃ (v2 v15 : Value), ∃ h : Heap, ∃ (x6 x16 x17 x18 x19 x20 x21 x22 x23 x24 x25 x26 x27 : Value), s = ⟨[f0, f1, v2, f3, f4, f5, x6, f7, f8, f9, f10, f11, f12, f13, f14, v15, x16, x17, x18, x19, x20, x21, x22, x23, x24, x25, x26, x27, f28, f29, f30, f31, f32, f33, f34, f35, f36, f37, f38, f39, f40, f41], ds, h, rd⟩ ∧ I m v2 v15 h
theorem zscQ_l0_rule {f0 f1 f3 f4 f5 f7 f8 f9 f10 f11 f12 f13 f14 f28 f29 f30 f31 f32 f33 f34 f35 f36 f37 f38 f39 f40 f41 : Value} {ds : List Deferred} {rd : Option Nat} {Q : QP} (I : Nat → Value → Value → Heap → Prop) (hb : ∀ (m : Nat) (v2 v15 : Value) (h : Heap) (x6 x16 x17 x18 x19 x20 x21 x22 x23 x24 x25 x26 x27 : Value) , I m v2 v15 h → RunC Tryz.prog T0 zscQ_l0 ⟨[f0, f1, v2, f3, f4, f5, x6, f7, f8, f9, f10, f11, f12, f13, f14, v15, x16, x17, x18, x19, x20, x21, x22, x23, x24, x25, x26, x27, f28, f29, f30, f31, f32, f33, f34, f35, f36, f37, f38, f39, f40, f41], ds, h, rd⟩ (loopQ (zscQ_l0_J f0 f1 f3 f4 f5 f7 f8 f9 f10 f11 f12 f13 f14 f28 f29 f30 f31 f32 f33 f34 f35 f36 f37 f38 f39 f40 f41 ds rd I) m Q))
 (m : Nat) {v2 v15 : Value} {h : Heap} {x6 x16 x17 x18 x19 x20 x21 x22 x23 x24 x25 x26 x27 : Value} (hi : I m v2 v15 h) : RunC Tryz.prog T0 (.loop zscQ_l0) ⟨[f0, f1, v2, f3, f4, f5, x6, f7, f8, f9, f10, f11, f12, f13, f14, v15, x16, x17, x18, x19, x20, x21, x22, x23, x24, x25, x26, x27, f28, f29, f30, f31, f32, f33, f34, f35, f36, f37, f38, f39, f40, f41], ds, h, rd⟩ Q :=
 RunC.loopJ (zscQ_l0_J f0 f1 f3 f4 f5 f7 f8 f9 f10 f11 f12 f13 f14 f28 f29 f30 f31 f32 f33 f34 f35 f36 f37 f38 f39 f40 f41 ds rd I) (fun m s hj => by obtain ⟨v2, v15, h, x6, x16, x17, x18, x19, x20, x21, x22, x23, x24, x25, x26, x27, rfl, hi⟩ := hj; exact hb m v2 v15 h x6 x16 x17 x18 x19 x20 x21 x22 x23 x24 x25 x26 x27 hi) m _ ⟨_, _, h, _, _, _, _, _, _, _, _, _, _, _, _, _, rfl, hi⟩
theorem zscQ_l0_again {f0 f1 f3 f4 f5 f7 f8 f9 f10 f11 f12 f13 f14 f28 f29 f30 f31 f32 f33 f34 f35 f36 f37 f38 f39 f40 f41 : Value} {ds : List Deferred} {rd : Option Nat} {Q : QP} {I : Nat → Value → Value → Heap → Prop} {m : Nat} (m' : Nat) {v2 v15 : Value} {h : Heap} {x6 x16 x17 x18 x19 x20 x21 x22 x23 x24 x25 x26 x27 : Value} (hm : m' < m) (hi : I m' v2 v15 h) : loopQ (zscQ_l0_J f0 f1 f3 f4 f5 f7 f8 f9 f10 f11 f12 f13 f14 f28 f29 f30 f31 f32 f33 f34 f35 f36 f37 f38 f39 f40 f41 ds rd I) m Q .normal ⟨[f0, f1, v2, f3, f4, f5, x6, f7, f8, f9, f10, f11, f12, f13, f14, v15, x16, x17, x18, x19, x20, x21, x22, x23, x24, x25, x26, x27, f28, f29, f30, f31, f32, f33, f34, f35, f36, f37, f38, f39, f40, f41], ds, h, rd⟩ :=
 loopQ.again m' hm ⟨_, _, h, _, _, _, _, _, _, _, _, _, _, _, _, _, rfl, hi⟩
abbrev fn_zxcQ : FuncId := 48
def zxcQ_c : ACode :=
 (.seq (.region [
 o1 2 (.alloc 44 [(.int .i64 0), (.int .i64 0)])]) (.seq (.block 0 (.seq (.region [
 o1 4 (.mov (tm 0)),
 o1 5 (.eq .ptr false (so (.binOp .eql 70 (tm 4) (.const (.pointer none)) 70) 4) (tm 4) (.const (.pointer none))),
 o1 6 (.mov (tm 5)),
 o5 7 (.mov (tm 0)) 6,
 o5 8 (.nilCheck (tm 7)) 6,
 o5 9 (.fieldAddr 4 (tm 8)) 6,
 o5 10 (.load none (tm 9)) 6,
 o5 11 (.raw (so (.unOp .not 4 (tm 10)) 4)) 6,
 o1 12 (.pick (tm 6) (.const (.bool true)) (tm 11)),
 o1 3 (.mov (tm 12))]) (.cond (tm 3)
 (.seq (.region [
 o1 13 (.build [(.int .i64 0), (.int .i64 0)] [(0, 1, (.const (.int .i64 1)))]),
 o3 (.store 2 (tm 2) (tm 13))]) .ret)
 (.seq (.regionD [
 o2 15 (.mov (tm 0)),
 o2 16 (.nilCheck (tm 15)),
 o2 17 (.fieldAddr 2 (tm 16)),
 o2 18 (.fieldAddr 0 (tm 17)),
 o2 19 (.load none (tm 18)),
 o2 20 (.bin .eql (so (.binOp .eql 34 (tm 19) k0 34) 4) (tm 19) k0),
 o2 21 (.mov (tm 20)),
 o4 22 (.mov (tm 0)) 21,
 o4 23 (.nilCheck (tm 22)) 21,
 o4 24 (.fieldAddr 1 (tm 23)) 21,
 o4 25 (.load none (tm 24)) 21,
 o4 26 (.mov (tm 0)) 21,
 o4 27 (.nilCheck (tm 26)) 21,
 o4 28 (.fieldAddr 0 (tm 27)) 21,
 o4 29 (.load none (tm 28)) 21,
 o4 30 (.lenSl (tm 29)) 21,
 ⟨some 31, .bin .lss (so (.binOp .lss 3 (tm 25) (tm 30) 3) 4) (tm 25) (tm 30), some (21, true), [], true⟩,
 o2 32 (.pick (tm 21) (tm 31) (.const (.bool false))),
 o2 14 (.mov (tm 32))]) (.cond (tm 14)
 (.seq (.region [
 o1 33 (.mov (tm 0)),
 o1 34 (.nilCheck (tm 33)),
 o1 35 (.fieldAddr 1 (tm 34)),
 o1 36 (.load none (tm 35)),
 o1 37 (.build [(.int .i64 0), (.int .i64 0)] [(0, 1, (.const (.int .i64 4))), (1, 1, (tm 36))]),
 o3 (.store 2 (tm 2) (tm 37))]) .ret)
 .skip))))) (.seq (.region [
 o1 38 (.mov (tm 0)),
 o1 39 (.nilCheck (tm 38)),
 o1 40 (.fieldAddr 2 (tm 39)),
 o1 41 (.load (some 2) (tm 40)),
 o3 (.store 2 (tm 2) (tm 41))]) .ret)))
def zxcQ : AFunc := ⟨42, [(2, some (some 2))], zxcQ_c, none⟩
theorem zxcQ_t0 : tableOf Tryz.prog 48 = some zxcQ := by kernel_rfl
theorem zxcQ_t : T0 48 = some zxcQ := withKept_t rfl (withTrue_t rfl zxcQ_t0)
theorem zxcQ_runs {v0 : Value} {h : Heap} {R : RP} {X : XP} (k : RunC Tryz.prog T0 zxcQ_c ⟨[v0, U, U, U, U, U, U, U, U, U, U, U, U, U, U, U, U, U, U, U, U, U, U, U, U, U, U, U, U, U, U, U, U, U, U, U, U, U, U, U, U, U], [], h, none⟩ (bodyQ Tryz.prog T0 [(2, some (some 2))] R X)) :
 Runs Tryz.prog T0 (.fn 48) [v0] h R X := Runs.fn zxcQ_t rfl k
abbrev fn_zrbQ : FuncId := 49
def zrbQ_c : ACode :=
 (.seq (.region [
 o1 2 (.mov (.const (.pointer none)))]) (.seq (.region [
 o1 3 (.buildSlice 5 [] 0 []),
 o1 4 (.mov (tm 0)),
 o1 5 (.append 5 1 1 [(.int .u8 0)] false (tm 3) (tm 4)),
 o1 6 (.build [(.slice none 0 0), (.int .i64 0), (.int .i64 0), (.int .i64 0)] [(0, 1, (tm 5))]),
 o1 7 (.box 83 (tm 6)),
 o1 2 (.mov (tm 7))]) .ret))
def zrbQ : AFunc := ⟨8, [(2, none)], zrbQ_c, none⟩
theorem zrbQ_t0 : tableOf Tryz.prog 49 = some zrbQ := by kernel_rfl
theorem zrbQ_t : T0 49 = some zrbQ := withKept_t rfl (withTrue_t rfl zrbQ_t0)
theorem zrbQ_runs {v0 : Value} {h : Heap} {R : RP} {X : XP} (k : RunC Tryz.prog T0 zrbQ_c ⟨[v0, U, U, U, U, U, U, U], [], h, none⟩ (bodyQ Tryz.prog T0 [(2, none)] R X)) :
 Runs Tryz.prog T0 (.fn 49) [v0] h R X := Runs.fn zrbQ_t rfl k
abbrev fn_zsbQ : FuncId := 50
def zsbQ_c : ACode :=
 (.seq (.region [
 o1 4 (.mov (.const (.slice none 0 0)))]) (.seq (.region [
 o1 7 (.mov (tm 0)),
 o1 8 (.nilCheck (tm 7)),
 o1 9 (.fieldAddr 1 (tm 8)),
 o1 10 (.load none (tm 9)),
 o1 5 (.mov (tm 10))]) (.seq (.region [
 o1 11 (.mov (tm 0)),
 o1 12 (.callV (.func 91) [(tm 11)]),
 o1 6 (.mov (tm 12))]) (.seq (.seq (.region [
 o1 13 (.mov (tm 6)),
 o1 14 (.mov (tm 1)),
 o1 15 (.raw (so (.call ⟨.builtin .max, #[(tm 14), k0], #[3, 3]⟩) 3)),
 o1 16 (.bin .gtr (so (.binOp .gtr 3 (tm 13) (tm 15) 3) 4) (tm 13) (tm 15))]) (.cond (tm 16)
 (.region [
 o1 17 (.mov (tm 0)),
 o1 18 (.mov (tm 5)),
 o1 19 (.callV (.func 92) [(tm 17), (.const (.int .i64 4)), (tm 18)])])
 .skip)) (.seq (.region [
 o1 20 (.mov (tm 0)),
 o1 21 (.mov (tm 6)),
 o1 22 (.mov (tm 5)),
 o1 23 (.callV (.func 93) [(tm 20), (tm 21), (tm 22)]),
 o1 4 (.mov (tm 23))]) .ret)))))
def zsbQ : AFunc := ⟨24, [(4, none)], zsbQ_c, none⟩
theorem zsbQ_t0 : tableOf Tryz.prog 50 = some zsbQ := by kernel_rfl
theorem zsbQ_t : T0 50 = some zsbQ := withKept_t rfl (withTrue_t rfl zsbQ_t0)
theorem zsbQ_runs {v0 v1 : Value} {h : Heap} {R : RP} {X : XP} (k : RunC Tryz.prog T0 zsbQ_c ⟨[v0, v1, U, U, U, U, U, U, U, U, U, U, U, U, U, U, U, U, U, U, U, U, U, U], [], h, none⟩ (bodyQ Tryz.prog T0 [(4, none)] R X)) :
 Runs Tryz.prog T0 (.fn 50) [v0, v1] h R X := Runs.fn zsbQ_t rfl k
abbrev fn_zgcQ : FuncId := 51
def zgcQ_c : ACode :=
 (.seq (.region [
 o1 2 (.alloc 25 ((.string ⟨⟨[]⟩⟩) :: ((.int .i64 0) :: ((.int .i64 0) :: (z32 ++ (z32 ++ (z32 ++ z32))))))),
 o1 3 (.alloc 44 [(.int .i64 0), (.int .i64 0)])]) (.seq (.region [
 o1 7 (.mov (tm 0)),
 o1 8 (.callV (.func 49) [(tm 7)]),
 o1 4 (.mov (tm 8))]) (.seq (.region [
 o1 9 (.mov (tm 4)),
 o1 10 (.callV (.func 94) [(tm 9)]),
 o1 5 (.alloc 25 ((.string ⟨⟨[]⟩⟩) :: ((.int .i64 0) :: ((.int .i64 0) :: (z32 ++ (z32 ++ (z32 ++ z32))))))),
 o3 (.store 131 (tm 5) (tm 10))]) (.seq (.region [
 o1 11 (.mov (tm 4)),
 o1 12 (.callV (.func 54) [(tm 11)]),
 o1 6 (.alloc 44 [(.int .i64 0), (.int .i64 0)]),
 o3 (.store 2 (tm 6) (tm 12))]) (.seq (.seq (.region [
 o1 13 (.fieldAddr 0 (tm 6)),
 o1 14 (.load none (tm 13)),
 o1 15 (.bin .eql (so (.binOp .eql 34 (tm 14) k0 34) 4) (tm 14) k0)]) (.cond (tm 15)
 (.region [
 o1 16 (.load (some 131) (tm 5)),
 o1 17 (.callV (.func 95) [(tm 16)]),
 o1 18 (.fieldAddr 0 (tm 6)),
 o3 (.store 1 (tm 18) (tm 17))])
 .skip)) (.seq (.seq (.region [
 o1 19 (.fieldAddr 0 (tm 6)),
 o1 20 (.load none (tm 19)),
 o1 21 (.bin .neq (so (.binOp .neq 34 (tm 20) k0 34) 4) (tm 20) k0)]) (.cond (tm 21)
 (.seq (.regionD [
 o1 22 (.build ((.string ⟨⟨[]⟩⟩) :: ((.int .i64 0) :: ((.int .i64 0) :: (z32 ++ (z32 ++ (z32 ++ z32)))))) []),
 o1 23 (.load (some 2) (tm 6)),
 ⟨none, .store 131 (tm 2) (tm 22), none, [(some 23, .load (some 2) (tm 6), none)], false⟩,
 ⟨none, .store 2 (tm 3) (tm 23), none, [], true⟩]) .ret)
 .skip)) (.seq (.regionD [
 o1 24 (.load (some 131) (tm 5)),
 o1 25 (.load (some 2) (tm 6)),
 ⟨none, .store 131 (tm 2) (tm 24), none, [(some 25, .load (some 2) (tm 6), none)], false⟩,
 ⟨none, .store 2 (tm 3) (tm 25), none, [], true⟩]) .ret)))))))
def zgcQ : AFunc := ⟨26, [(2, some (some 131)), (3, some (some 2))], zgcQ_c, none⟩
theorem zgcQ_t0 : tableOf Tryz.prog 51 = some zgcQ := by kernel_rfl
theorem zgcQ_t : T0 51 = some zgcQ := withKept_t rfl (withTrue_t rfl zgcQ_t0)
theorem zgcQ_runs {v0 : Value} {h : Heap} {R : RP} {X : XP} (k : RunC Tryz.prog T0 zgcQ_c ⟨[v0, U, U, U, U, U, U, U, U, U, U, U, U, U, U, U, U, U, U, U, U, U, U, U, U, U], [], h, none⟩ (bodyQ Tryz.prog T0 [(2, some (some 131)), (3, some (some 2))] R X)) :
 Runs Tryz.prog T0 (.fn 51) [v0] h R X := Runs.fn zgcQ_t rfl k
abbrev fn_zkcQ : FuncId := 52
def zkcQ_l0 : ACode :=
 (.seq (.seq (.region [
 o1 31 (.mov (tm 8)),
 o1 32 (.mov (tm 7)),
 o1 33 (.bin .lss (so (.binOp .lss 3 (tm 31) (tm 32) 3) 4) (tm 31) (tm 32))]) (.cond (tm 33)
 .skip
 (.exit 0))) (.seq (.block 1 (.seq (.region [
 o1 36 (.mov (tm 4)),
 o1 37 (.callV (.func 91) [(tm 36)]),
 o1 38 (.build [(.int .i64 0), (.int .u64 0)] [(0, 1, (tm 37))]),
 o1 9 (.alloc 109 [(.int .i64 0), (.int .u64 0)]),
 o3 (.store 2 (tm 9) (tm 38))]) (.seq (.region [
 o1 39 (.mov (tm 4)),
 o1 40 (.callV (.func 98) [(tm 39)]),
 o1 41 (.fieldAddr 1 (tm 9)),
 o3 (.store 1 (tm 41) (tm 40))]) (.region [
 o1 42 (.fieldAddr 33 (tm 5)),
 o1 43 (.load none (tm 42)),
 o1 44 (.load (some 2) (tm 9)),
 o1 45 (.buildSlice 109 [(.int .i64 0), (.int .u64 0)] 1 [(0, 2, (tm 44))]),
 o1 46 (.append 109 2 16 [(.int .i64 0), (.int .u64 0)] false (tm 43) (tm 45)),
 o1 47 (.fieldAddr 33 (tm 5)),
 o3 (.store 1 (tm 47) (tm 46))])))) (.region [
 o1 34 (.mov (tm 8)),
 o1 35 (.bin .add (so (.binOp .add 3 (tm 34) (.const (.int .i64 1)) 3) 3) (tm 34) (.const (.int .i64 1))),
 o1 8 (.mov (tm 35))])))
def zkcQ_c : ACode :=
 (.seq (.region [
 o1 2 (.alloc 31 ((.int .i64 0) :: (z32 ++ [(.slice none 0 0)]))),
 o1 3 (.alloc 44 [(.int .i64 0), (.int .i64 0)])]) (.seq (.region [
 o1 11 (.mov (tm 0)),
 o1 12 (.callV (.func 49) [(tm 11)]),
 o1 4 (.mov (tm 12))]) (.seq (.region [
 o1 5 (.alloc 31 ((.int .i64 0) :: (z32 ++ [(.slice none 0 0)])))]) (.seq (.region [
 o1 13 (.mov (tm 4)),
 o1 14 (.callV (.func 91) [(tm 13)]),
 o1 15 (.fieldAddr 0 (tm 5)),
 o3 (.store 1 (tm 15) (tm 14))]) (.seq (.region [
 o1 16 (.mov (tm 4)),
 o1 17 (.callV (.func 96) [(tm 16)]),
 o1 18 (.fieldAddr 1 (tm 5)),
 o3 (.store 32 (tm 18) (tm 17))]) (.seq (.region [
 o1 19 (.mov (tm 0)),
 o1 20 (.lenSl (tm 19)),
 o1 21 (.mov (tm 4)),
 o1 22 (.callV (.func 97) [(tm 21)]),
 o1 23 (.bin .sub (so (.binOp .sub 3 (tm 20) (tm 22) 3) 3) (tm 20) (tm 22)),
 o1 6 (.mov (tm 23))]) (.seq (.region [
 o1 24 (.mov (tm 4)),
 o1 25 (.callV (.func 91) [(tm 24)]),
 o1 7 (.mov (tm 25))]) (.seq (.seq (.region [
 o1 26 (.mov (tm 7)),
 o1 27 (.bin .gtr (so (.binOp .gtr 3 (tm 26) (.const (.int .i64 64)) 3) 4) (tm 26) (.const (.int .i64 64)))]) (.cond (tm 27)
 (.seq (.region [
 o1 28 (.build ((.int .i64 0) :: (z32 ++ [(.slice none 0 0)])) []),
 o1 29 (.mov (tm 6)),
 o1 30 (.build [(.int .i64 0), (.int .i64 0)] [(0, 1, (.const (.int .i64 4))), (1, 1, (tm 29))]),
 o3 (.store 34 (tm 2) (tm 28)),
 o3 (.store 2 (tm 3) (tm 30))]) .ret)
 .skip)) (.seq (.seq (.region [
 o1 8 (.mov k0)]) (.block 0 (.loop zkcQ_l0))) (.seq (.region [
 o1 48 (.mov (tm 4)),
 o1 49 (.callV (.func 54) [(tm 48)]),
 o1 10 (.alloc 44 [(.int .i64 0), (.int .i64 0)]),
 o3 (.store 2 (tm 10) (tm 49))]) (.seq (.seq (.region [
 o1 50 (.fieldAddr 0 (tm 10)),
 o1 51 (.load none (tm 50)),
 o1 52 (.bin .eql (so (.binOp .eql 34 (tm 51) k0 34) 4) (tm 51) k0)]) (.cond (tm 52)
 (.region [
 o1 53 (.load (some 34) (tm 5)),
 o1 54 (.callV (.func 99) [(tm 53)]),
 o1 55 (.fieldAddr 0 (tm 10)),
 o3 (.store 1 (tm 55) (tm 54))])
 .skip)) (.seq (.seq (.region [
 o1 56 (.fieldAddr 0 (tm 10)),
 o1 57 (.load none (tm 56)),
 o1 58 (.bin .neq (so (.binOp .neq 34 (tm 57) k0 34) 4) (tm 57) k0)]) (.cond (tm 58)
 (.seq (.regionD [
 o1 59 (.build ((.int .i64 0) :: (z32 ++ [(.slice none 0 0)])) []),
 o1 60 (.load (some 2) (tm 10)),
 ⟨none, .store 34 (tm 2) (tm 59), none, [(some 60, .load (some 2) (tm 10), none)], false⟩,
 ⟨none, .store 2 (tm 3) (tm 60), none, [], true⟩]) .ret)
 .skip)) (.seq (.regionD [
 o1 61 (.load (some 34) (tm 5)),
 o1 62 (.load (some 2) (tm 10)),
 ⟨none, .store 34 (tm 2) (tm 61), none, [(some 62, .load (some 2) (tm 10), none)], false⟩,
 ⟨none, .store 2 (tm 3) (tm 62), none, [], true⟩]) .ret)))))))))))))
def zkcQ : AFunc := ⟨63, [(2, some (some 34)), (3, some (some 2))], zkcQ_c, none⟩
theorem zkcQ_t0 : tableOf Tryz.prog 52 = some zkcQ := by kernel_rfl
theorem zkcQ_t : T0 52 = some zkcQ := withKept_t rfl (withTrue_t rfl zkcQ_t0)
theorem zkcQ_runs {v0 : Value} {h : Heap} {R : RP} {X : XP} (k : RunC Tryz.prog T0 zkcQ_c ⟨[v0, U, U, U, U, U, U, U, U, U, U, U, U, U, U, U, U, U, U, U, U, U, U, U, U, U, U, U, U, U, U, U, U, U, U, U, U, U, U, U, U, U, U, U, U, U, U, U, U, U, U, U, U, U, U, U, U, U, U, U, U, U, U], [], h, none⟩ (bodyQ Tryz.prog T0 [(2, some (some 34)), (3, some (some 2))] R X)) :
 Runs Tryz.prog T0 (.fn 52) [v0] h R X := Runs.fn zkcQ_t rfl k
def zkcQ_l0_J (f0 f1 f2 f3 f4 f5 f6 f7 f10 f11 f12 f13 f14 f15 f16 f17 f18 f19 f20 f21 f22 f23 f24 f25 f26 f27 f28 f29 f30 f48 f49 f50 f51 f52 f53 f54 f55 f56 f57 f58 f59 f60 f61 f62 : Value) (ds : List Deferred) (rd : Option Nat) (I : Nat → Value → Heap → Prop) (m : Nat) (s : St) : Prop := ∃ (v8 : Value), ∃ h : Heap, ∃ (x9 x31 x32 x33 x34 x35 x36 x37 x38 x39 x40 x41 x42 x43 x44 x45 x46 x47 : Value), s = ⟨[f0, f1, f2, f3, f4, f5, f6, f7, v8, x9, f10, f11, f12, f13, f14, f15, f16, f17, f18, f19, f20, f21, f22, f23, f24, f25, f26, f27, f28, f29, f30, x31, x32, x33, x34, x35, x36, x37, x38, x39, x40, x41, x42, x43, x44, x45, x46, x47, f48, f49, f50, f51, f52, f53, f54, f55, f56, f57, f58, f59, f60, f61, f62], ds, h, rd⟩ ∧ I m v8 h
theorem zkcQ_l0_rule {f0 f1 f2 f3 f4 f5 f6 f7 f10 f11 f12 f13 f14 f15 f16 f17 f18 f19 f20 f21 f22 f23 f24 f25 f26 f27 f28 f29 f30 f48 f49 f50 f51 f52 f53 f54 f55 f56 f57 f58 f59 f60 f61 f62 : Value} {ds : List Deferred} {rd : Option Nat} {Q : QP} (I : Nat → Value → Heap → Prop) (hb : ∀ (m : Nat) (v8 : Value) (h : Heap) (x9 x31 x32 x33 x34 x35 x36 x37 x38 x39 x40 x41 x42 x43 x44 x45 x46 x47 : Value) , I m v8 h → RunC Tryz.prog T0 zkcQ_l0 ⟨[f0, f1, f2, f3, f4, f5, f6, f7, v8, x9, f10, f11, f12, f13, f14, f15, f16, f17, f18, f19, f20, f21, f22, f23, f24, f25, f26, f27, f28, f29, f30, x31, x32, x33, x34, x35, x36, x37, x38, x39, x40, x41, x42, x43, x44, x45, x46, x47, f48, f49, f50, f51, f52, f53, f54, f55, f56, f57, f58, f59, f60, f61, f62], ds, h, rd⟩ (loopQ (zkcQ_l0_J f0 f1 f2 f3 f4 f5 f6 f7 f10 f11 f12 f13 f14 f15 f16 f17 f18 f19 f20 f21 f22 f23 f24 f25 f26 f27 f28 f29 f30 f48 f49 f50 f51 f52 f53 f54 f55 f56 f57 f58 f59 f60 f61 f62 ds rd I) m Q))
 (m : Nat) {v8 : Value} {h : Heap} {x9 x31 x32 x33 x34 x35 x36 x37 x38 x39 x40 x41 x42 x43 x44 x45 x46 x47 : Value} (hi : I m v8 h) : RunC Tryz.prog T0 (.loop zkcQ_l0) ⟨[f0, f1, f2, f3, f4, f5, f6, f7, v8, x9, f10, f11, f12, f13, f14, f15, f16, f17, f18, f19, f20, f21, f22, f23, f24, f25, f26, f27, f28, f29, f30, x31, x32, x33, x34, x35, x36, x37, x38, x39, x40, x41, x42, x43, x44, x45, x46, x47, f48, f49, f50, f51, f52, f53, f54, f55, f56, f57, f58, f59, f60, f61, f62], ds, h, rd⟩ Q :=
 RunC.loopJ (zkcQ_l0_J f0 f1 f2 f3 f4 f5 f6 f7 f10 f11 f12 f13 f14 f15 f16 f17 f18 f19 f20 f21 f22 f23 f24 f25 f26 f27 f28 f29 f30 f48 f49 f50 f51 f52 f53 f54 f55 f56 f57 f58 f59 f60 f61 f62 ds rd I) (fun m s hj => by obtain ⟨v8, h, x9, x31, x32, x33, x34, x35, x36, x37, x38, x39, x40, x41, x42, x43, x44, x45, x46, x47, rfl, hi⟩ := hj; exact hb m v8 h x9 x31 x32 x33 x34 x35 x36 x37 x38 x39 x40 x41 x42 x43 x44 x45 x46 x47 hi) m _ ⟨_, h, _, _, _, _, _, _, _, _, _, _, _, _, _, _, _, _, _, _, rfl, hi⟩
theorem zkcQ_l0_again {f0 f1 f2 f3 f4 f5 f6 f7 f10 f11 f12 f13 f14 f15 f16 f17 f18 f19 f20 f21 f22 f23 f24 f25 f26 f27 f28 f29 f30 f48 f49 f50 f51 f52 f53 f54 f55 f56 f57 f58 f59 f60 f61 f62 : Value} {ds : List Deferred} {rd : Option Nat} {Q : QP} {I : Nat → Value → Heap → Prop} {m : Nat} (m' : Nat) {v8 : Value} {h : Heap} {x9 x31 x32 x33 x34 x35 x36 x37 x38 x39 x40 x41 x42 x43 x44 x45 x46 x47 : Value} (hm : m' < m) (hi : I m' v8 h) : loopQ (zkcQ_l0_J f0 f1 f2 f3 f4 f5 f6 f7 f10 f11 f12 f13 f14 f15 f16 f17 f18 f19 f20 f21 f22 f23 f24 f25 f26 f27 f28 f29 f30 f48 f49 f50 f51 f52 f53 f54 f55 f56 f57 f58 f59 f60 f61 f62 ds rd I) m Q .normal ⟨[f0, f1, f2, f3, f4, f5, f6, f7, v8, x9, f10, f11, f12, f13, f14, f15, f16, f17, f18, f19, f20, f21, f22, f23, f24, f25, f26, f27, f28, f29, f30, x31, x32, x33, x34, x35, x36, x37, x38, x39, x40, x41, x42, x43, x44, x45, x46, x47, f48, f49, f50, f51, f52, f53, f54, f55, f56, f57, f58, f59, f60, f61, f62], ds, h, rd⟩ :=
 loopQ.again m' hm ⟨_, h, _, _, _, _, _, _, _, _, _, _, _, _, _, _, _, _, _, _, rfl, hi⟩
abbrev fn_zdcQ : FuncId := 53
def zdcQ_l0 : ACode :=
 (.seq (.seq (.region [
 o1 17 (.mov (tm 7)),
 o1 18 (.mov (tm 5)),
 o1 19 (.bin .lss (so (.binOp .lss 3 (tm 17) (tm 18) 3) 4) (tm 17) (tm 18))]) (.cond (tm 19)
 .skip
 (.exit 0))) (.seq (.block 1 (.seq (.region [
 o1 22 (.mov (tm 4)),
 o1 23 (.callV (.func 100) [(tm 22)]),
 o1 8 (.alloc 64 [(.int .u8 0), (.int .u8 0), (.int .u8 0), (.int .u8 0)]),
 o3 (.store 4 (tm 8) (tm 23))]) (.regionD [
 o1 24 (.mov (tm 6)),
 o1 25 (.load (some 4) (tm 8)),
 o1 26 (.mov (tm 4)),
 ⟨some 27, .callV (.func 91) [(tm 26)], none, [(some 25, .load (some 4) (tm 8), none), (some 24, .mov (tm 6), none)], false⟩,
 o1 28 (.build [(.int .u8 0), (.int .u8 0), (.int .u8 0), (.int .u8 0), (.int .i64 0)] [(0, 4, (tm 25)), (4, 1, (tm 27))]),
 ⟨some 29, .buildSlice 66 [(.int .u8 0), (.int .u8 0), (.int .u8 0), (.int .u8 0), (.int .i64 0)] 1 [(0, 5, (tm 28))], none, [(some 24, .mov (tm 6), none)], false⟩,
 o2 30 (.append 66 5 16 [(.int .u8 0), (.int .u8 0), (.int .u8 0), (.int .u8 0), (.int .i64 0)] false (tm 24) (tm 29)),
 o2 6 (.mov (tm 30))]))) (.region [
 o1 20 (.mov (tm 7)),
 o1 21 (.bin .add (so (.binOp .add 3 (tm 20) (.const (.int .i64 1)) 3) 3) (tm 20) (.const (.int .i64 1))),
 o1 7 (.mov (tm 21))])))
def zdcQ_c : ACode :=
 (.seq (.region [
 o1 2 (.mov (.const (.slice none 0 0))),
 o1 3 (.alloc 44 [(.int .i64 0), (.int .i64 0)])]) (.seq (.region [
 o1 10 (.mov (tm 0)),
 o1 11 (.callV (.func 49) [(tm 10)]),
 o1 4 (.mov (tm 11))]) (.seq (.region [
 o1 12 (.mov (tm 4)),
 o1 13 (.callV (.func 91) [(tm 12)]),
 o1 5 (.mov (tm 13))]) (.seq (.seq (.region [
 o1 14 (.mov (tm 5)),
 o1 15 (.bin .gtr (so (.binOp .gtr 3 (tm 14) (.const (.int .i64 64)) 3) 4) (tm 14) (.const (.int .i64 64)))]) (.cond (tm 15)
 (.seq (.region [
 o1 16 (.build [(.int .i64 0), (.int .i64 0)] [(0, 1, (.const (.int .i64 4)))]),
 o1 2 (.mov (.const (.slice none 0 0))),
 o3 (.store 2 (tm 3) (tm 16))]) .ret)
 .skip)) (.seq (.region [
 o1 6 (.mov (.const (.slice none 0 0)))]) (.seq (.seq (.region [
 o1 7 (.mov k0)]) (.block 0 (.loop zdcQ_l0))) (.seq (.region [
 o1 31 (.mov (tm 4)),
 o1 32 (.callV (.func 54) [(tm 31)]),
 o1 9 (.alloc 44 [(.int .i64 0), (.int .i64 0)]),
 o3 (.store 2 (tm 9) (tm 32))]) (.seq (.seq (.region [
 o1 33 (.fieldAddr 0 (tm 9)),
 o1 34 (.load none (tm 33)),
 o1 35 (.bin .eql (so (.binOp .eql 34 (tm 34) k0 34) 4) (tm 34) k0)]) (.cond (tm 35)
 (.region [
 o1 36 (.mov (tm 6)),
 o1 37 (.callV (.func 101) [(tm 36)]),
 o1 38 (.fieldAddr 0 (tm 9)),
 o3 (.store 1 (tm 38) (tm 37))])
 .skip)) (.seq (.seq (.region [
 o1 39 (.fieldAddr 0 (tm 9)),
 o1 40 (.load none (tm 39)),
 o1 41 (.bin .neq (so (.binOp .neq 34 (tm 40) k0 34) 4) (tm 40) k0)]) (.cond (tm 41)
 (.seq (.regionD [
 o1 42 (.load (some 2) (tm 9)),
 o1 2 (.mov (.const (.slice none 0 0))),
 ⟨none, .store 2 (tm 3) (tm 42), none, [], true⟩]) .ret)
 .skip)) (.seq (.regionD [
 o1 43 (.mov (tm 6)),
 o1 44 (.load (some 2) (tm 9)),
 o1 2 (.mov (tm 43)),
 ⟨none, .store 2 (tm 3) (tm 44), none, [], true⟩]) .ret))))))))))
def zdcQ : AFunc := ⟨45, [(2, none), (3, some (some 2))], zdcQ_c, none⟩
theorem zdcQ_t0 : tableOf Tryz.prog 53 = some zdcQ := by kernel_rfl
theorem zdcQ_t : T0 53 = some zdcQ := withKept_t rfl (withTrue_t rfl zdcQ_t0)
theorem zdcQ_runs {v0 : Value} {h : Heap} {R : RP} {X : XP} (k : RunC Tryz.prog T0 zdcQ_c ⟨[v0, U, U, U, U, U, U, U, U, U, U, U, U, U, U, U, U, U, U, U, U, U, U, U, U, U, U, U, U, U, U, U, U, U, U, U, U, U, U, U, U, U, U, U, U], [], h, none⟩ (bodyQ Tryz.prog T0 [(2, none), (3, some (some 2))] R X)) :
 Runs Tryz.prog T0 (.fn 53) [v0] h R X := Runs.fn zdcQ_t rfl k
def zdcQ_l0_J (f0 f1 f2 f3 f4 f5 f9 f10 f11 f12 f13 f14 f15 f16 f31 f32 f33 f34 f35 f36 f37 f38 f39 f40 f41 f42 f43 f44 : Value) (ds : List Deferred) (rd : Option Nat) (I : Nat → Value → Value → Heap → Prop) (m : Nat) (s : St) : Prop := ∃ (v6 v7 : Value), ∃ h : Heap, ∃ (x8 x17 x18 x19 x20 x21 x22 x23 x24 x25 x26 x27 x28 x29 x30 : Value), s = ⟨[f0, f1, f2, f3, f4, f5, v6, v7, x8, f9, f10, f11, f12, f13, f14, f15, f16, x17, x18, x19, x20, x21, x22, x23, x24, x25, x26, x27, x28, x29, x30, f31, f32, f33, f34, f35, f36, f37, f38, f39, f40, f41, f42, f43, f44], ds, h, rd⟩ ∧ I m v6 v7 h
theorem zdcQ_l0_rule {f0 f1 f2 f3 f4 f5 f9 f10 f11 f12 f13 f14 f15 f16 f31 f32 f33 f34 f35 f36 f37 f38 f39 f40 f41 f42 f43 f44 : Value} {ds : List Deferred} {rd : Option Nat} {Q : QP} (I : Nat → Value → Value → Heap → Prop) (hb : ∀ (m : Nat) (v6 v7 : Value) (h : Heap) (x8 x17 x18 x19 x20 x21 x22 x23 x24 x25 x26 x27 x28 x29 x30 : Value) , I m v6 v7 h → RunC Tryz.prog T0 zdcQ_l0 ⟨[f0, f1, f2, f3, f4, f5, v6, v7, x8, f9, f10, f11, f12, f13, f14, f15, f16, x17, x18, x19, x20, x21, x22, x23, x24, x25, x26, x27, x28, x29, x30, f31, f32, f33, f34, f35, f36, f37, f38, f39, f40, f41, f42, f43, f44], ds, h, rd⟩ (loopQ (zdcQ_l0_J f0 f1 f2 f3 f4 f5 f9 f10 f11 f12 f13 f14 f15 f16 f31 f32 f33 f34 f35 f36 f37 f38 f39 f40 f41 f42 f43 f44 ds rd I) m Q))
 (m : Nat) {v6 v7 : Value} {h : Heap} {x8 x17 x18 x19 x20 x21 x22 x23 x24 x25 x26 x27 x28 x29 x30 : Value} (hi : I m v6 v7 h) : RunC Tryz.prog T0 (.loop zdcQ_l0) ⟨[f0, f1, f2, f3, f4, f5, v6, v7, x8, f9, f10, f11, f12, f13, f14, f15, f16, x17, x18, x19, x20, x21, x22, x23, x24, x25, x26, x27, x28, x29, x30, f31, f32, f33, f34, f35, f36, f37, f38, f39, f40, f41, f42, f43, f44], ds, h, rd⟩ Q :=
 RunC.loopJ (zdcQ_l0_J f0 f1 f2 f3 f4 f5 f9 f10 f11 f12 f13 f14 f15 f16 f31 f32 f33 f34 f35 f36 f37 f38 f39 f40 f41 f42 f43 f44 ds rd I) (fun m s hj => by obtain ⟨v6, v7, h, x8, x17, x18, x19, x20, x21, x22, x23, x24, x25, x26, x27, x28, x29, x30, rfl, hi⟩ := hj; exact hb m v6 v7 h x8 x17 x18 x19 x20 x21 x22 x23 x24 x25 x26 x27 x28 x29 x30 hi) m _ ⟨_, _, h, _, _, _, _, _, _, _, _, _, _, _, _, _, _, _, rfl, hi⟩
theorem zdcQ_l0_again {f0 f1 f2 f3 f4 f5 f9 f10 f11 f12 f13 f14 f15 f16 f31 f32 f33 f34 f35 f36 f37 f38 f39 f40 f41 f42 f43 f44 : Value} {ds : List Deferred} {rd : Option Nat} {Q : QP} {I : Nat → Value → Value → Heap → Prop} {m : Nat} (m' : Nat) {v6 v7 : Value} {h : Heap} {x8 x17 x18 x19 x20 x21 x22 x23 x24 x25 x26 x27 x28 x29 x30 : Value} (hm : m' < m) (hi : I m' v6 v7 h) : loopQ (zdcQ_l0_J f0 f1 f2 f3 f4 f5 f9 f10 f11 f12 f13 f14 f15 f16 f31 f32 f33 f34 f35 f36 f37 f38 f39 f40 f41 f42 f43 f44 ds rd I) m Q .normal ⟨[f0, f1, f2, f3, f4, f5, v6, v7, x8, f9, f10, f11, f12, f13, f14, f15, f16, x17, x18, x19, x20, x21, x22, x23, x24, x25, x26, x27, x28, x29, x30, f31, f32, f33, f34, f35, f36, f37, f38, f39, f40, f41, f42, f43, f44], ds, h, rd⟩ :=
 loopQ.again m' hm ⟨_, _, h, _, _, _, _, _, _, _, _, _, _, _, _, _, _, _, rfl, hi⟩
abbrev fn_ztbQ : FuncId := 54
def ztbQ_c : ACode :=
 (.seq (.region [
 o1 2 (.alloc 44 [(.int .i64 0), (.int .i64 0)])]) (.seq (.seq (.regionD [
 o2 3 (.mov (tm 0)),
 o2 4 (.nilCheck (tm 3)),
 o2 5 (.fieldAddr 2 (tm 4)),
 o2 6 (.fieldAddr 0 (tm 5)),
 o2 7 (.load none (tm 6)),
 o2 8 (.bin .eql (so (.binOp .eql 34 (tm 7) k0 34) 4) (tm 7) k0),
 o2 9 (.mov (tm 8)),
 o4 10 (.mov (tm 0)) 9,
 o4 11 (.nilCheck (tm 10)) 9,
 o4 12 (.fieldAddr 1 (tm 11)) 9,
 o4 13 (.load none (tm 12)) 9,
 o4 14 (.mov (tm 0)) 9,
 o4 15 (.nilCheck (tm 14)) 9,
 o4 16 (.fieldAddr 0 (tm 15)) 9,
 o4 17 (.load none (tm 16)) 9,
 o4 18 (.lenSl (tm 17)) 9,
 ⟨some 19, .bin .lss (so (.binOp .lss 3 (tm 13) (tm 18) 3) 4) (tm 13) (tm 18), some (9, true), [], true⟩,
 o2 20 (.pick (tm 9) (tm 19) (.const (.bool false)))]) (.cond (tm 20)
 (.seq (.region [
 o1 21 (.mov (tm 0)),
 o1 22 (.nilCheck (tm 21)),
 o1 23 (.fieldAddr 1 (tm 22)),
 o1 24 (.load none (tm 23)),
 o1 25 (.build [(.int .i64 0), (.int .i64 0)] [(0, 1, (.const (.int .i64 4))), (1, 1, (tm 24))]),
 o3 (.store 2 (tm 2) (tm 25))]) .ret)
 .skip)) (.seq (.region [
 o1 26 (.mov (tm 0)),
 o1 27 (.nilCheck (tm 26)),
 o1 28 (.fieldAddr 2 (tm 27)),
 o1 29 (.load (some 2) (tm 28)),
 o3 (.store 2 (tm 2) (tm 29))]) .ret)))
def ztbQ : AFunc := ⟨30, [(2, some (some 2))], ztbQ_c, none⟩
theorem ztbQ_t0 : tableOf Tryz.prog 54 = some ztbQ := by kernel_rfl
theorem ztbQ_t : T0 54 = some ztbQ := withKept_t rfl (withTrue_t rfl ztbQ_t0)
theorem ztbQ_runs {v0 : Value} {h : Heap} {R : RP} {X : XP} (k : RunC Tryz.prog T0 ztbQ_c ⟨[v0, U, U, U, U, U, U, U, U, U, U, U, U, U, U, U, U, U, U, U, U, U, U, U, U, U, U, U, U, U], [], h, none⟩ (bodyQ Tryz.prog T0 [(2, some (some 2))] R X)) :
 Runs Tryz.prog T0 (.fn 54) [v0] h R X := Runs.fn ztbQ_t rfl k
abbrev fn_zrcQ : FuncId := 65
def zrcQ_l0 : ACode :=
 (.seq (.region [
 o1 19 (.bin .lss (so (.binOp .lss 3 (tm 18) (tm 17) 3) 0) (tm 18) (tm 17))]) (.seq (.cond (tm 19)
 .skip
 (.exit 1)) (.seq (.block 2 (.seq (.region [
 o1 20 (.indexSl 5 (tm 16) (tm 18)),
 o1 21 (.load (some 5) (tm 20)),
 o1 5 (.alloc 66 [(.int .u8 0), (.int .u8 0), (.int .u8 0), (.int .u8 0), (.int .i64 0)]),
 o3 (.store 5 (tm 5) (tm 21))]) (.seq (.region [
 o1 22 (.load (some 5) (tm 5)),
 o1 23 (.callV (.func 116) [(tm 3), (tm 22)]),
 o1 6 (.mov (tm 23))]) (.seq (.region [
 o1 24 (.mov (tm 6)),
 o1 25 (.bin .neq (so (.binOp .neq 34 (tm 24) k0 34) 4) (tm 24) k0)]) (.cond (tm 25)
 (.seq (.region [
 o1 26 (.mov (tm 6)),
 o1 2 (.mov (tm 26))]) .ret)
 .skip))))) (.region [
 o1 27 (.bin .add (so (.binOp .add 3 (tm 18) (.const (.int .i64 1)) 3) 3) (tm 18) (.const (.int .i64 1))),
 o1 18 (.mov (tm 27))]))))
def zrcQ_c : ACode :=
 (.seq (.region [
 o1 2 (.mov k0)]) (.seq (.block 0 (.seq (.region [
 o1 8 (.mov (tm 0)),
 o1 9 (.lenSl (tm 8)),
 o1 10 (.bin .eql (so (.binOp .eql 3 (tm 9) k0 3) 4) (tm 9) k0),
 o1 7 (.mov (tm 10))]) (.cond (tm 7)
 (.seq (.region [
 o1 2 (.mov (.const (.int .i64 6)))]) .ret)
 (.seq (.region [
 o1 12 (.mov (tm 0)),
 o1 13 (.lenSl (tm 12)),
 o1 14 (.bin .gtr (so (.binOp .gtr 3 (tm 13) (.const (.int .i64 64)) 3) 4) (tm 13) (.const (.int .i64 64))),
 o1 11 (.mov (tm 14))]) (.cond (tm 11)
 (.seq (.region [
 o1 2 (.mov (.const (.int .i64 4)))]) .ret)
 .skip))))) (.seq (.region [
 o1 15 (.build [(.int .u8 0), (.int .u8 0), (.int .u8 0), (.int .u8 0), (.bool false), (.int .i64 0), (.int .i64 0)] [(5, 1, (.const (.int .i64 1))), (6, 1, (.const (.int .i64 4611686018427387904)))]),
 o1 3 (.alloc 143 [(.int .u8 0), (.int .u8 0), (.int .u8 0), (.int .u8 0), (.bool false), (.int .i64 0), (.int .i64 0)]),
 o3 (.store 7 (tm 3) (tm 15))]) (.seq (.seq (.region [
 o1 16 (.mov (tm 0)),
 o1 17 (.lenSl (tm 16)),
 o1 18 (.mov k0)]) (.block 1 (.loop zrcQ_l0))) (.seq (.region [
 o1 2 (.mov k0)]) .ret)))))
def zrcQ : AFunc := ⟨28, [(2, none)], zrcQ_c, none⟩
theorem zrcQ_t0 : tableOf Tryz.prog 65 = some zrcQ := by kernel_rfl
theorem zrcQ_t : T0 65 = some zrcQ := withKept_t rfl (withTrue_t rfl zrcQ_t0)
theorem zrcQ_runs {v0 : Value} {h : Heap} {R : RP} {X : XP} (k : RunC Tryz.prog T0 zrcQ_c ⟨[v0, U, U, U, U, U, U, U, U, U, U, U, U, U, U, U, U, U, U, U, U, U, U, U, U, U, U, U], [], h, none⟩ (bodyQ Tryz.prog T0 [(2, none)] R X)) :
 Runs Tryz.prog T0 (.fn 65) [v0] h R X := Runs.fn zrcQ_t rfl k
def zrcQ_l0_J (f0 f1 f3 f4 f7 f8 f9 f10 f11 f12 f13 f14 f15 f16 f17 : Value) (ds : List Deferred) (rd : Option Nat) (I : Nat → Value → Heap → Prop) (m : Nat) (s : St) : Prop := ∃ (v18 : Value), ∃ h : Heap, ∃ (x2 x5 x6 x19 x20 x21 x22 x23 x24 x25 x26 x27 : Value), s = ⟨[f0, f1, x2, f3, f4, x5, x6, f7, f8, f9, f10, f11, f12, f13, f14, f15, f16, f17, v18, x19, x20, x21, x22, x23, x24, x25, x26, x27], ds, h, rd⟩ ∧ I m v18 h
theorem zrcQ_l0_rule {f0 f1 f3 f4 f7 f8 f9 f10 f11 f12 f13 f14 f15 f16 f17 : Value} {ds : List Deferred} {rd : Option Nat} {Q : QP} (I : Nat → Value → Heap → Prop) (hb : ∀ (m : Nat) (v18 : Value) (h : Heap) (x2 x5 x6 x19 x20 x21 x22 x23 x24 x25 x26 x27 : Value) , I m v18 h → RunC Tryz.prog T0 zrcQ_l0 ⟨[f0, f1, x2, f3, f4, x5, x6, f7, f8, f9, f10, f11, f12, f13, f14, f15, f16, f17, v18, x19, x20, x21, x22, x23, x24, x25, x26, x27], ds, h, rd⟩ (loopQ (zrcQ_l0_J f0 f1 f3 f4 f7 f8 f9 f10 f11 f12 f13 f14 f15 f16 f17 ds rd I) m Q))
 (m : Nat) {v18 : Value} {h : Heap} {x2 x5 x6 x19 x20 x21 x22 x23 x24 x25 x26 x27 : Value} (hi : I m v18 h) : RunC Tryz.prog T0 (.loop zrcQ_l0) ⟨[f0, f1, x2, f3, f4, x5, x6, f7, f8, f9, f10, f11, f12, f13, f14, f15, f16, f17, v18, x19, x20, x21, x22, x23, x24, x25, x26, x27], ds, h, rd⟩ Q :=
 RunC.loopJ (zrcQ_l0_J f0 f1 f3 f4 f7 f8 f9 f10 f11 f12 f13 f14 f15 f16 f17 ds rd I) (fun m s hj => by obtain ⟨v18, h, x2, x5, x6, x19, x20, x21, x22, x23, x24, x25, x26, x27, rfl, hi⟩ := hj; exact hb m v18 h x2 x5 x6 x19 x20 x21 x22 x23 x24 x25 x26 x27 hi) m _ ⟨_, h, _, _, _, _, _, _, _, _, _, _, _, _, rfl, hi⟩
theorem zrcQ_l0_again {f0 f1 f3 f4 f7 f8 f9 f10 f11 f12 f13 f14 f15 f16 f17 : Value} {ds : List Deferred} {rd : Option Nat} {Q : QP} {I : Nat → Value → Heap → Prop} {m : Nat} (m' : Nat) {v18 : Value} {h : Heap} {x2 x5 x6 x19 x20 x21 x22 x23 x24 x25 x26 x27 : Value} (hm : m' < m) (hi : I m' v18 h) : loopQ (zrcQ_l0_J f0 f1 f3 f4 f7 f8 f9 f10 f11 f12 f13 f14 f15 f16 f17 ds rd I) m Q .normal ⟨[f0, f1, x2, f3, f4, x5, x6, f7, f8, f9, f10, f11, f12, f13, f14, f15, f16, f17, v18, x19, x20, x21, x22, x23, x24, x25, x26, x27], ds, h, rd⟩ :=
 loopQ.again m' hm ⟨_, h, _, _, _, _, _, _, _, _, _, _, _, _, rfl, hi⟩
abbrev fn_zobQ : FuncId := 79
def zobQ_l0 : ACode :=
 (.seq (.seq (.region [
 o1 12 (.mov (tm 5)),
 o1 13 (.mov (tm 12)),
 o4 14 (.mov (tm 6)) 13,
 o4 15 (.mov (tm 0)) 13,
 o4 16 (.lenSl (tm 15)) 13,
 o4 17 (.bin .lss (so (.binOp .lss 3 (tm 14) (tm 16) 3) 4) (tm 14) (tm 16)) 13,
 o1 18 (.pick (tm 13) (tm 17) (.const (.bool false)))]) (.cond (tm 18)
 .skip
 (.exit 0))) (.seq (.block 1 (.regionD [
 o1 21 (.mov (tm 0)),
 o1 22 (.mov (tm 6)),
 o1 23 (.indexSl 2 (tm 21) (tm 22)),
 o1 24 (.load (some 2) (tm 23)),
 o1 25 (.mov (tm 1)),
 o1 26 (.mov (tm 6)),
 o1 27 (.indexSl 2 (tm 25) (tm 26)),
 o1 28 (.load (some 2) (tm 27)),
 o2 29 (.bin .eql (so (.binOp .eql 109 (tm 24) (tm 28) 109) 4) (tm 24) (tm 28)),
 o2 5 (.mov (tm 29))])) (.region [
 o1 19 (.mov (tm 6)),
 o1 20 (.bin .add (so (.binOp .add 3 (tm 19) (.const (.int .i64 1)) 3) 3) (tm 19) (.const (.int .i64 1))),
 o1 6 (.mov (tm 20))])))
def zobQ_c : ACode :=
 (.seq (.region [
 o1 4 (.mov (.const (.bool false)))]) (.seq (.region [
 o1 7 (.mov (tm 0)),
 o1 8 (.lenSl (tm 7)),
 o1 9 (.mov (tm 1)),
 o1 10 (.lenSl (tm 9)),
 o1 11 (.bin .eql (so (.binOp .eql 3 (tm 8) (tm 10) 3) 4) (tm 8) (tm 10)),
 o1 5 (.mov (tm 11))]) (.seq (.seq (.region [
 o1 6 (.mov k0)]) (.block 0 (.loop zobQ_l0))) (.seq (.region [
 o1 30 (.mov (tm 5)),
 o1 4 (.mov (tm 30))]) .ret))))
def zobQ : AFunc := ⟨31, [(4, none)], zobQ_c, none⟩
theorem zobQ_t0 : tableOf Tryz.prog 79 = some zobQ := by kernel_rfl
theorem zobQ_t : T0 79 = some zobQ := withKept_t rfl (withTrue_t rfl zobQ_t0)
theorem zobQ_runs {v0 v1 : Value} {h : Heap} {R : RP} {X : XP} (k : RunC Tryz.prog T0 zobQ_c ⟨[v0, v1, U, U, U, U, U, U, U, U, U, U, U, U, U, U, U, U, U, U, U, U, U, U, U, U, U, U, U, U, U], [], h, none⟩ (bodyQ Tryz.prog T0 [(4, none)] R X)) :
 Runs Tryz.prog T0 (.fn 79) [v0, v1] h R X := Runs.fn zobQ_t rfl k
def zobQ_l0_J (f0 f1 f2 f3 f4 f7 f8 f9 f10 f11 f30 : Value) (ds : List Deferred) (rd : Option Nat) (I : Nat → Value → Value → Heap → Prop) (m : Nat) (s : St) : Prop := ∃ (v5 v6 : Value), ∃ h : Heap, ∃ (x12 x13 x14 x15 x16 x17 x18 x19 x20 x21 x22 x23 x24 x25 x26 x27 x28 x29 : Value), s = ⟨[f0, f1, f2, f3, f4, v5, v6, f7, f8, f9, f10, f11, x12, x13, x14, x15, x16, x17, x18, x19, x20, x21, x22, x23, x24, x25, x26, x27, x28, x29, f30], ds, h, rd⟩ ∧ I m v5 v6 h
theorem zobQ_l0_rule {f0 f1 f2 f3 f4 f7 f8 f9 f10 f11 f30 : Value} {ds : List Deferred} {rd : Option Nat} {Q : QP} (I : Nat → Value → Value → Heap → Prop) (hb : ∀ (m : Nat) (v5 v6 : Value) (h : Heap) (x12 x13 x14 x15 x16 x17 x18 x19 x20 x21 x22 x23 x24 x25 x26 x27 x28 x29 : Value) , I m v5 v6 h → RunC Tryz.prog T0 zobQ_l0 ⟨[f0, f1, f2, f3, f4, v5, v6, f7, f8, f9, f10, f11, x12, x13, x14, x15, x16, x17, x18, x19, x20, x21, x22, x23, x24, x25, x26, x27, x28, x29, f30], ds, h, rd⟩ (loopQ (zobQ_l0_J f0 f1 f2 f3 f4 f7 f8 f9 f10 f11 f30 ds rd I) m Q))
 (m : Nat) {v5 v6 : Value} {h : Heap} {x12 x13 x14 x15 x16 x17 x18 x19 x20 x21 x22 x23 x24 x25 x26 x27 x28 x29 : Value} (hi : I m v5 v6 h) : RunC Tryz.prog T0 (.loop zobQ_l0) ⟨[f0, f1, f2, f3, f4, v5, v6, f7, f8, f9, f10, f11, x12, x13, x14, x15, x16, x17, x18, x19, x20, x21, x22, x23, x24, x25, x26, x27, x28, x29, f30], ds, h, rd⟩ Q :=
 RunC.loopJ (zobQ_l0_J f0 f1 f2 f3 f4 f7 f8 f9 f10 f11 f30 ds rd I) (fun m s hj => by obtain ⟨v5, v6, h, x12, x13, x14, x15, x16, x17, x18, x19, x20, x21, x22, x23, x24, x25, x26, x27, x28, x29, rfl, hi⟩ := hj; exact hb m v5 v6 h x12 x13 x14 x15 x16 x17 x18 x19 x20 x21 x22 x23 x24 x25 x26 x27 x28 x29 hi) m _ ⟨_, _, h, _, _, _, _, _, _, _, _, _, _, _, _, _, _, _, _, _, _, rfl, hi⟩
theorem zobQ_l0_again {f0 f1 f2 f3 f4 f7 f8 f9 f10 f11 f30 : Value} {ds : List Deferred} {rd : Option Nat} {Q : QP} {I : Nat → Value → Value → Heap → Prop} {m : Nat} (m' : Nat) {v5 v6 : Value} {h : Heap} {x12 x13 x14 x15 x16 x17 x18 x19 x20 x21 x22 x23 x24 x25 x26 x27 x28 x29 : Value} (hm : m' < m) (hi : I m' v5 v6 h) : loopQ (zobQ_l0_J f0 f1 f2 f3 f4 f7 f8 f9 f10 f11 f30 ds rd I) m Q .normal ⟨[f0, f1, f2, f3, f4, v5, v6, f7, f8, f9, f10, f11, x12, x13, x14, x15, x16, x17, x18, x19, x20, x21, x22, x23, x24, x25, x26, x27, x28, x29, f30], ds, h, rd⟩ :=
 loopQ.again m' hm ⟨_, _, h, _, _, _, _, _, _, _, _, _, _, _, _, _, _, _, _, _, _, rfl, hi⟩
abbrev fn_zncQ : FuncId := 80
def zncQ_c : ACode :=
 (.seq (.region [
 o1 2 (.mov (.const (.slice none 0 0)))]) (.seq (.seq (.region [
 o1 3 (.mov (tm 0)),
 o1 4 (.eq .slice false (so (.binOp .eql 41 (tm 3) (.const (.slice none 0 0)) 41) 4) (tm 3) (.const (.slice none 0 0)))]) (.cond (tm 4)
 (.seq (.region [
 o1 2 (.mov (.const (.slice none 0 0)))]) .ret)
 .skip)) (.seq (.region [
 o1 5 (.buildSlice 5 [] 0 []),
 o1 6 (.mov (tm 0)),
 o1 7 (.append 5 1 1 [(.int .u8 0)] false (tm 5) (tm 6)),
 o1 2 (.mov (tm 7))]) .ret)))
def zncQ : AFunc := ⟨8, [(2, none)], zncQ_c, none⟩
theorem zncQ_t0 : tableOf Tryz.prog 80 = some zncQ := by kernel_rfl
theorem zncQ_t : T0 80 = some zncQ := withKept_t rfl (withTrue_t rfl zncQ_t0)
theorem zncQ_runs {v0 : Value} {h : Heap} {R : RP} {X : XP} (k : RunC Tryz.prog T0 zncQ_c ⟨[v0, U, U, U, U, U, U, U], [], h, none⟩ (bodyQ Tryz.prog T0 [(2, none)] R X)) :
 Runs Tryz.prog T0 (.fn 80) [v0] h R X := Runs.fn zncQ_t rfl k
abbrev fn_zfdQ : FuncId := 81
def zfdQ_c : ACode :=
 (.seq (.region [
 o1 2 (.mov k0)]) (.seq (.seq (.region [
 o1 3 (.mov (tm 0)),
 o1 4 (.eq .ptr false (so (.binOp .eql 70 (tm 3) (.const (.pointer none)) 70) 4) (tm 3) (.const (.pointer none))),
 o1 5 (.mov (tm 4)),
 o5 6 (.mov (tm 0)) 5,
 o5 7 (.nilCheck (tm 6)) 5,
 o5 8 (.fieldAddr 4 (tm 7)) 5,
 o5 9 (.load none (tm 8)) 5,
 o5 10 (.raw (so (.unOp .not 4 (tm 9)) 4)) 5,
 o1 11 (.pick (tm 5) (.const (.bool true)) (tm 10)),
 o1 12 (.mov (tm 11)),
 o5 13 (.mov (tm 0)) 12,
 o5 14 (.nilCheck (tm 13)) 12,
 o5 15 (.fieldAddr 2 (tm 14)) 12,
 o5 16 (.fieldAddr 0 (tm 15)) 12,
 o5 17 (.load none (tm 16)) 12,
 o5 18 (.bin .neq (so (.binOp .neq 34 (tm 17) k0 34) 4) (tm 17) k0) 12,
 o1 19 (.pick (tm 12) (.const (.bool true)) (tm 18))]) (.cond (tm 19)
 (.seq (.region [
 o1 2 (.mov k0)]) .ret)
 .skip)) (.seq (.regionD [
 o1 20 (.mov (tm 0)),
 o1 21 (.nilCheck (tm 20)),
 o1 22 (.fieldAddr 0 (tm 21)),
 o1 23 (.load none (tm 22)),
 o1 24 (.lenSl (tm 23)),
 o1 25 (.mov (tm 0)),
 o1 26 (.nilCheck (tm 25)),
 o1 27 (.fieldAddr 1 (tm 26)),
 o1 28 (.load none (tm 27)),
 o2 29 (.bin .sub (so (.binOp .sub 3 (tm 24) (tm 28) 3) 3) (tm 24) (tm 28)),
 o2 2 (.mov (tm 29))]) .ret)))
def zfdQ : AFunc := ⟨30, [(2, none)], zfdQ_c, none⟩
theorem zfdQ_t0 : tableOf Tryz.prog 81 = some zfdQ := by kernel_rfl
theorem zfdQ_t : T0 81 = some zfdQ := withKept_t rfl (withTrue_t rfl zfdQ_t0)
theorem zfdQ_runs {v0 : Value} {h : Heap} {R : RP} {X : XP} (k : RunC Tryz.prog T0 zfdQ_c ⟨[v0, U, U, U, U, U, U, U, U, U, U, U, U, U, U, U, U, U, U, U, U, U, U, U, U, U, U, U, U, U], [], h, none⟩ (bodyQ Tryz.prog T0 [(2, none)] R X)) :
 Runs Tryz.prog T0 (.fn 81) [v0] h R X := Runs.fn zfdQ_t rfl k
abbrev fn_zvcQ : FuncId := 82
def zvcQ_c : ACode :=
 (.seq (.region [
 o1 2 (.box 70 (tm 0)),
 o1 3 (.box 3 (tm 1)),
 o1 4 (.mov (.const (.slice none 0 0)))]) (.seq (.region [
 o1 5 (.load none (tm 2)),
 o1 6 (.mkFunc (.func 130) [] [(tm 2), (tm 3)]),
 o1 7 (.callV (.func 129) [(tm 5), (tm 6)]),
 o1 4 (.mov (tm 7))]) .ret))
def zvcQ : AFunc := ⟨8, [(4, none)], zvcQ_c, none⟩
theorem zvcQ_t0 : tableOf Tryz.prog 82 = some zvcQ := by kernel_rfl
theorem zvcQ_t : T0 82 = some zvcQ := withKept_t rfl (withTrue_t rfl zvcQ_t0)
theorem zvcQ_runs {v0 v1 : Value} {h : Heap} {R : RP} {X : XP} (k : RunC Tryz.prog T0 zvcQ_c ⟨[v0, v1, U, U, U, U, U, U], [], h, none⟩ (bodyQ Tryz.prog T0 [(4, none)] R X)) :
 Runs Tryz.prog T0 (.fn 82) [v0, v1] h R X := Runs.fn zvcQ_t rfl k
abbrev fn_zgdQ : FuncId := 83
def zgdQ_c : ACode :=
 (.seq (.region [
 o1 4 (.mov (.const (.string ⟨⟨[]⟩⟩)))]) (.seq (.region [
 o1 5 (.mov (tm 0)),
 o1 6 (.mov (tm 1)),
 o1 7 (.callV (.func 82) [(tm 5), (tm 6)]),
 o1 8 (.bytesToStr (tm 7)),
 o1 4 (.mov (tm 8))]) .ret))
def zgdQ : AFunc := ⟨9, [(4, none)], zgdQ_c, none⟩
theorem zgdQ_t0 : tableOf Tryz.prog 83 = some zgdQ := by kernel_rfl
theorem zgdQ_t : T0 83 = some zgdQ := withKept_t rfl (withTrue_t rfl zgdQ_t0)
theorem zgdQ_runs {v0 v1 : Value} {h : Heap} {R : RP} {X : XP} (k : RunC Tryz.prog T0 zgdQ_c ⟨[v0, v1, U, U, U, U, U, U, U], [], h, none⟩ (bodyQ Tryz.prog T0 [(4, none)] R X)) :
 Runs Tryz.prog T0 (.fn 83) [v0, v1] h R X := Runs.fn zgdQ_t rfl k
abbrev fn_zedQ : FuncId := 84
def zedQ_c : ACode :=
 (.seq (.region [
 o1 2 (.mov k0)]) (.seq (.region [
 o1 3 (.mov (tm 0)),
 o1 4 (.mov (tm 0)),
 o1 5 (.mkFunc (.func 131) [(tm 4)] []),
 o1 6 (.callV (.func 134) [(tm 3), (tm 5)]),
 o1 2 (.mov (tm 6))]) .ret))
def zedQ : AFunc := ⟨7, [(2, none)], zedQ_c, none⟩
theorem zedQ_t0 : tableOf Tryz.prog 84 = some zedQ := by kernel_rfl
theorem zedQ_t : T0 84 = some zedQ := withKept_t rfl (withTrue_t rfl zedQ_t0)
theorem zedQ_runs {v0 : Value} {h : Heap} {R : RP} {X : XP} (k : RunC Tryz.prog T0 zedQ_c ⟨[v0, U, U, U, U, U, U], [], h, none⟩ (bodyQ Tryz.prog T0 [(2, none)] R X)) :
 Runs Tryz.prog T0 (.fn 84) [v0] h R X := Runs.fn zedQ_t rfl k
abbrev fn_zyQ : FuncId := 85
def zyQ_c : ACode :=
 (.seq (.region [
 o1 2 (.alloc 119 [(.pointer none), (.pointer none), (.pointer none), (.pointer none)])]) (.seq (.regionD [
 o1 3 (.mov (tm 0)),
 o1 4 (.nilCheck (tm 3)),
 o1 5 (.fieldAddr 3 (tm 4)),
 o1 6 (.mov (tm 0)),
 o1 7 (.nilCheck (tm 6)),
 o1 8 (.fieldAddr 35 (tm 7)),
 o1 9 (.mov (tm 0)),
 o1 10 (.nilCheck (tm 9)),
 o1 11 (.fieldAddr 67 (tm 10)),
 o1 12 (.mov (tm 0)),
 o1 13 (.nilCheck (tm 12)),
 o1 14 (.fieldAddr 99 (tm 13)),
 o2 15 (.build [(.pointer none), (.pointer none), (.pointer none), (.pointer none)] [(0, 1, (tm 5)), (1, 1, (tm 8)), (2, 1, (tm 11)), (3, 1, (tm 14))]),
 ⟨none, .store 4 (tm 2) (tm 15), none, [], true⟩]) .ret))
def zyQ : AFunc := ⟨16, [(2, some (some 4))], zyQ_c, none⟩
theorem zyQ_t0 : tableOf Tryz.prog 85 = some zyQ := by kernel_rfl
theorem zyQ_t : T0 85 = some zyQ := withKept_t rfl (withTrue_t rfl zyQ_t0)
theorem zyQ_runs {v0 : Value} {h : Heap} {R : RP} {X : XP} (k : RunC Tryz.prog T0 zyQ_c ⟨[v0, U, U, U, U, U, U, U, U, U, U, U, U, U, U, U], [], h, none⟩ (bodyQ Tryz.prog T0 [(2, some (some 4))] R X)) :
 Runs Tryz.prog T0 (.fn 85) [v0] h R X := Runs.fn zyQ_t rfl k
abbrev fn_zycQ : FuncId := 86
def zycQ_c : ACode :=
 (.seq (.region [
 o1 1 (.box 70 (tm 0)),
 o1 2 (.alloc 23 z32)]) (.seq (.region [
 o1 3 (.load none (tm 1)),
 o1 4 (.mkFunc (.func 136) [] [(tm 1)]),
 o1 5 (.callV (.func 135) [(tm 3), (tm 4)]),
 o3 (.store 32 (tm 2) (tm 5))]) .ret))
def zycQ : AFunc := ⟨6, [(2, some (some 32))], zycQ_c, none⟩
theorem zycQ_t0 : tableOf Tryz.prog 86 = some zycQ := by kernel_rfl
theorem zycQ_t : T0 86 = some zycQ := withKept_t rfl (withTrue_t rfl zycQ_t0)
theorem zycQ_runs {v0 : Value} {h : Heap} {R : RP} {X : XP} (k : RunC Tryz.prog T0 zycQ_c ⟨[v0, U, U, U, U, U], [], h, none⟩ (bodyQ Tryz.prog T0 [(2, some (some 32))] R X)) :
 Runs Tryz.prog T0 (.fn 86) [v0] h R X := Runs.fn zycQ_t rfl k
abbrev fn_zuQ : FuncId := 87
def zuQ_l0 : ACode :=
 (.seq (.region [
 o1 8 (.bin .lss (so (.binOp .lss 3 (tm 7) (tm 6) 3) 0) (tm 7) (tm 6))]) (.seq (.cond (tm 8)
 .skip
 (.exit 0)) (.seq (.block 1 (.seq (.region [
 o1 9 (.indexSl 2 (tm 5) (tm 7)),
 o1 10 (.load (some 2) (tm 9)),
 o1 4 (.alloc 168 [.nilFunc, (.int .i64 0)]),
 o3 (.store 2 (tm 4) (tm 10))]) (.seq (.region [
 o1 11 (.fieldAddr 0 (tm 4)),
 o1 12 (.load none (tm 11)),
 o1 13 (.load (some 131) (tm 1)),
 o1 14 (.callV (tm 12) [(tm 13)]),
 o1 15 (.raw (so (.unOp .not 4 (tm 14)) 4))]) (.cond (tm 15)
 (.seq (.region [
 o1 16 (.fieldAddr 1 (tm 4)),
 o1 17 (.load none (tm 16)),
 o1 2 (.mov (tm 17))]) .ret)
 .skip)))) (.region [
 o1 18 (.bin .add (so (.binOp .add 3 (tm 7) (.const (.int .i64 1)) 3) 3) (tm 7) (.const (.int .i64 1))),
 o1 7 (.mov (tm 18))]))))
def zuQ_c : ACode :=
 (.seq (.region [
 o1 1 (.box 25 (tm 0)),
 o1 2 (.mov k0)]) (.seq (.seq (.region [
 o1 5 (.callV (.func 139) []),
 o1 6 (.lenSl (tm 5)),
 o1 7 (.mov k0)]) (.block 0 (.loop zuQ_l0))) (.seq (.region [
 o1 2 (.mov k0)]) .ret)))
def zuQ : AFunc := ⟨19, [(2, none)], zuQ_c, none⟩
theorem zuQ_t0 : tableOf Tryz.prog 87 = some zuQ := by kernel_rfl
theorem zuQ_t : T0 87 = some zuQ := withKept_t rfl (withTrue_t rfl zuQ_t0)
theorem zuQ_runs {v0 : Value} {h : Heap} {R : RP} {X : XP} (k : RunC Tryz.prog T0 zuQ_c ⟨[v0, U, U, U, U, U, U, U, U, U, U, U, U, U, U, U, U, U, U], [], h, none⟩ (bodyQ Tryz.prog T0 [(2, none)] R X)) :
 Runs Tryz.prog T0 (.fn 87) [v0] h R X := Runs.fn zuQ_t rfl k
def zuQ_l0_J (f0 f1 f3 f5 f6 : Value) (ds : List Deferred) (rd : Option Nat) (I : Nat → Value → Heap → Prop) (m : Nat) (s : St) : Prop := ∃ (v7 : Value), ∃ h : Heap, ∃ (x2 x4 x8 x9 x10 x11 x12 x13 x14 x15 x16 x17 x18 : Value), s = ⟨[f0, f1, x2, f3, x4, f5, f6, v7, x8, x9, x10, x11, x12, x13, x14, x15, x16, x17, x18], ds, h, rd⟩ ∧ I m v7 h
theorem zuQ_l0_rule {f0 f1 f3 f5 f6 : Value} {ds : List Deferred} {rd : Option Nat} {Q : QP} (I : Nat → Value → Heap → Prop) (hb : ∀ (m : Nat) (v7 : Value) (h : Heap) (x2 x4 x8 x9 x10 x11 x12 x13 x14 x15 x16 x17 x18 : Value) , I m v7 h → RunC Tryz.prog T0 zuQ_l0 ⟨[f0, f1, x2, f3, x4, f5, f6, v7, x8, x9, x10, x11, x12, x13, x14, x15, x16, x17, x18], ds, h, rd⟩ (loopQ (zuQ_l0_J f0 f1 f3 f5 f6 ds rd I) m Q))
 (m : Nat) {v7 : Value} {h : Heap} {x2 x4 x8 x9 x10 x11 x12 x13 x14 x15 x16 x17 x18 : Value} (hi : I m v7 h) : RunC Tryz.prog T0 (.loop zuQ_l0) ⟨[f0, f1, x2, f3, x4, f5, f6, v7, x8, x9, x10, x11, x12, x13, x14, x15, x16, x17, x18], ds, h, rd⟩ Q :=
 RunC.loopJ (zuQ_l0_J f0 f1 f3 f5 f6 ds rd I) (fun m s hj => by obtain ⟨v7, h, x2, x4, x8, x9, x10, x11, x12, x13, x14, x15, x16, x17, x18, rfl, hi⟩ := hj; exact hb m v7 h x2 x4 x8 x9 x10 x11 x12 x13 x14 x15 x16 x17 x18 hi) m _ ⟨_, h, _, _, _, _, _, _, _, _, _, _, _, _, _, rfl, hi⟩
theorem zuQ_l0_again {f0 f1 f3 f5 f6 : Value} {ds : List Deferred} {rd : Option Nat} {Q : QP} {I : Nat → Value → Heap → Prop} {m : Nat} (m' : Nat) {v7 : Value} {h : Heap} {x2 x4 x8 x9 x10 x11 x12 x13 x14 x15 x16 x17 x18 : Value} (hm : m' < m) (hi : I m' v7 h) : loopQ (zuQ_l0_J f0 f1 f3 f5 f6 ds rd I) m Q .normal ⟨[f0, f1, x2, f3, x4, f5, f6, v7, x8, x9, x10, x11, x12, x13, x14, x15, x16, x17, x18], ds, h, rd⟩ :=
 loopQ.again m' hm ⟨_, h, _, _, _, _, _, _, _, _, _, _, _, _, _, rfl, hi⟩
abbrev fn_zhdQ : FuncId := 88
def zhdQ_c : ACode :=
 (.seq (.region [
 o1 1 (.box 70 (tm 0)),
 o1 2 (.mov (.const (.int .u64 0)))]) (.seq (.region [
 o1 3 (.load none (tm 1)),
 o1 4 (.mkFunc (.func 141) [] [(tm 1)]),
 o1 5 (.callV (.func 140) [(tm 3), (tm 4)]),
 o1 2 (.mov (tm 5))]) .ret))
def zhdQ : AFunc := ⟨6, [(2, none)], zhdQ_c, none⟩
theorem zhdQ_t0 : tableOf Tryz.prog 88 = some zhdQ := by kernel_rfl
theorem zhdQ_t : T0 88 = some zhdQ := withKept_t rfl (withTrue_t rfl zhdQ_t0)
theorem zhdQ_runs {v0 : Value} {h : Heap} {R : RP} {X : XP} (k : RunC Tryz.prog T0 zhdQ_c ⟨[v0, U, U, U, U, U], [], h, none⟩ (bodyQ Tryz.prog T0 [(2, none)] R X)) :
 Runs Tryz.prog T0 (.fn 88) [v0] h R X := Runs.fn zhdQ_t rfl k
abbrev fn_zqQ : FuncId := 89
def zqQ_l0 : ACode :=
 (.seq (.region [
 o1 26 (.bin .lss (so (.binOp .lss 3 (tm 25) (tm 24) 3) 0) (tm 25) (tm 24))]) (.seq (.cond (tm 26)
 .skip
 (.exit 1)) (.seq (.block 2 (.seq (.region [
 o1 27 (.indexSl 2 (tm 23) (tm 25)),
 o1 28 (.load (some 2) (tm 27)),
 o1 5 (.alloc 109 [(.int .i64 0), (.int .u64 0)]),
 o3 (.store 2 (tm 5) (tm 28))]) (.seq (.region [
 o1 29 (.mov (tm 3)),
 o1 30 (.load (some 2) (tm 5)),
 o1 31 (.callV (tm 29) [(tm 30)]),
 o1 6 (.mov (tm 31))]) (.seq (.region [
 o1 32 (.mov (tm 6)),
 o1 33 (.bin .neq (so (.binOp .neq 34 (tm 32) k0 34) 4) (tm 32) k0)]) (.cond (tm 33)
 (.seq (.region [
 o1 34 (.mov (tm 6)),
 o1 2 (.mov (tm 34))]) .ret)
 .skip))))) (.region [
 o1 35 (.bin .add (so (.binOp .add 3 (tm 25) (.const (.int .i64 1)) 3) 3) (tm 25) (.const (.int .i64 1))),
 o1 25 (.mov (tm 35))]))))
def zqQ_c : ACode :=
 (.seq (.region [
 o1 1 (.box 31 (tm 0)),
 o1 2 (.mov k0)]) (.seq (.block 0 (.seq (.region [
 o1 8 (.fieldAddr 0 (tm 1)),
 o1 9 (.load none (tm 8)),
 o1 10 (.bin .lss (so (.binOp .lss 3 (tm 9) (.const (.int .i64 1)) 3) 4) (tm 9) (.const (.int .i64 1))),
 o1 11 (.mov (tm 10)),
 o5 12 (.fieldAddr 0 (tm 1)) 11,
 o5 13 (.load none (tm 12)) 11,
 o5 14 (.bin .gtr (so (.binOp .gtr 3 (tm 13) (.const (.int .i64 1073741824)) 3) 4) (tm 13) (.const (.int .i64 1073741824))) 11,
 o1 15 (.pick (tm 11) (.const (.bool true)) (tm 14)),
 o1 7 (.mov (tm 15))]) (.cond (tm 7)
 (.seq (.region [
 o1 2 (.mov (.const (.int .i64 3)))]) .ret)
 (.seq (.region [
 o1 17 (.fieldAddr 33 (tm 1)),
 o1 18 (.load none (tm 17)),
 o1 19 (.lenSl (tm 18)),
 o1 20 (.bin .gtr (so (.binOp .gtr 3 (tm 19) (.const (.int .i64 64)) 3) 4) (tm 19) (.const (.int .i64 64))),
 o1 16 (.mov (tm 20))]) (.cond (tm 16)
 (.seq (.region [
 o1 2 (.mov (.const (.int .i64 4)))]) .ret)
 .skip))))) (.seq (.region [
 o1 21 (.callV (.func 144) []),
 o1 3 (.mov (tm 21))]) (.seq (.seq (.region [
 o1 22 (.fieldAddr 33 (tm 1)),
 o1 23 (.load none (tm 22)),
 o1 24 (.lenSl (tm 23)),
 o1 25 (.mov k0)]) (.block 1 (.loop zqQ_l0))) (.seq (.region [
 o1 2 (.mov k0)]) .ret)))))
def zqQ : AFunc := ⟨36, [(2, none)], zqQ_c, none⟩
theorem zqQ_t0 : tableOf Tryz.prog 89 = some zqQ := by kernel_rfl
theorem zqQ_t : T0 89 = some zqQ := withKept_t rfl (withTrue_t rfl zqQ_t0)
theorem zqQ_runs {v0 : Value} {h : Heap} {R : RP} {X : XP} (k : RunC Tryz.prog T0 zqQ_c ⟨[v0, U, U, U, U, U, U, U, U, U, U, U, U, U, U, U, U, U, U, U, U, U, U, U, U, U, U, U, U, U, U, U, U, U, U, U], [], h, none⟩ (bodyQ Tryz.prog T0 [(2, none)] R X)) :
 Runs Tryz.prog T0 (.fn 89) [v0] h R X := Runs.fn zqQ_t rfl k
def zqQ_l0_J (f0 f1 f3 f4 f7 f8 f9 f10 f11 f12 f13 f14 f15 f16 f17 f18 f19 f20 f21 f22 f23 f24 : Value) (ds : List Deferred) (rd : Option Nat) (I : Nat → Value → Heap → Prop) (m : Nat) (s : St) : Prop := ∃ (v25 : Value), ∃ h : Heap, ∃ (x2 x5 x6 x26 x27 x28 x29 x30 x31 x32 x33 x34 x35 : Value), s = ⟨[f0, f1, x2, f3, f4, x5, x6, f7, f8, f9, f10, f11, f12, f13, f14, f15, f16, f17, f18, f19, f20, f21, f22, f23, f24, v25, x26, x27, x28, x29, x30, x31, x32, x33, x34, x35], ds, h, rd⟩ ∧ I m v25 h
theorem zqQ_l0_rule {f0 f1 f3 f4 f7 f8 f9 f10 f11 f12 f13 f14 f15 f16 f17 f18 f19 f20 f21 f22 f23 f24 : Value} {ds : List Deferred} {rd : Option Nat} {Q : QP} (I : Nat → Value → Heap → Prop) (hb : ∀ (m : Nat) (v25 : Value) (h : Heap) (x2 x5 x6 x26 x27 x28 x29 x30 x31 x32 x33 x34 x35 : Value) , I m v25 h → RunC Tryz.prog T0 zqQ_l0 ⟨[f0, f1, x2, f3, f4, x5, x6, f7, f8, f9, f10, f11, f12, f13, f14, f15, f16, f17, f18, f19, f20, f21, f22, f23, f24, v25, x26, x27, x28, x29, x30, x31, x32, x33, x34, x35], ds, h, rd⟩ (loopQ (zqQ_l0_J f0 f1 f3 f4 f7 f8 f9 f10 f11 f12 f13 f14 f15 f16 f17 f18 f19 f20 f21 f22 f23 f24 ds rd I) m Q))
 (m : Nat) {v25 : Value} {h : Heap} {x2 x5 x6 x26 x27 x28 x29 x30 x31 x32 x33 x34 x35 : Value} (hi : I m v25 h) : RunC Tryz.prog T0 (.loop zqQ_l0) ⟨[f0, f1, x2, f3, f4, x5, x6, f7, f8, f9, f10, f11, f12, f13, f14, f15, f16, f17, f18, f19, f20, f21, f22, f23, f24, v25, x26, x27, x28, x29, x30, x31, x32, x33, x34, x35], ds, h, rd⟩ Q :=
 RunC.loopJ (zqQ_l0_J f0 f1 f3 f4 f7 f8 f9 f10 f11 f12 f13 f14 f15 f16 f17 f18 f19 f20 f21 f22 f23 f24 ds rd I) (fun m s hj => by obtain ⟨v25, h, x2, x5, x6, x26, x27, x28, x29, x30, x31, x32, x33, x34, x35, rfl, hi⟩ := hj; exact hb m v25 h x2 x5 x6 x26 x27 x28 x29 x30 x31 x32 x33 x34 x35 hi) m _ ⟨_, h, _, _, _, _, _, _, _, _, _, _, _, _, _, rfl, hi⟩
theorem zqQ_l0_again {f0 f1 f3 f4 f7 f8 f9 f10 f11 f12 f13 f14 f15 f16 f17 f18 f19 f20 f21 f22 f23 f24 : Value} {ds : List Deferred} {rd : Option Nat} {Q : QP} {I : Nat → Value → Heap → Prop} {m : Nat} (m' : Nat) {v25 : Value} {h : Heap} {x2 x5 x6 x26 x27 x28 x29 x30 x31 x32 x33 x34 x35 : Value} (hm : m' < m) (hi : I m' v25 h) : loopQ (zqQ_l0_J f0 f1 f3 f4 f7 f8 f9 f10 f11 f12 f13 f14 f15 f16 f17 f18 f19 f20 f21 f22 f23 f24 ds rd I) m Q .normal ⟨[f0, f1, x2, f3, f4, x5, x6, f7, f8, f9, f10, f11, f12, f13, f14, f15, f16, f17, f18, f19, f20, f21, f22, f23, f24, v25, x26, x27, x28, x29, x30, x31, x32, x33, x34, x35], ds, h, rd⟩ :=
 loopQ.again m' hm ⟨_, h, _, _, _, _, _, _, _, _, _, _, _, _, _, rfl, hi⟩
abbrev fn_zbdQ : FuncId := 90
def zbdQ_c : ACode :=
 (.seq (.region [
 o1 1 (.box 70 (tm 0)),
 o1 2 (.alloc 64 [(.int .u8 0), (.int .u8 0), (.int .u8 0), (.int .u8 0)])]) (.seq (.region [
 o1 3 (.load none (tm 1)),
 o1 4 (.mkFunc (.func 146) [] [(tm 1)]),
 o1 5 (.callV (.func 145) [(tm 3), (tm 4)]),
 o3 (.store 4 (tm 2) (tm 5))]) .ret))
def zbdQ : AFunc := ⟨6, [(2, some (some 4))], zbdQ_c, none⟩
theorem zbdQ_t0 : tableOf Tryz.prog 90 = some zbdQ := by kernel_rfl
theorem zbdQ_t : T0 90 = some zbdQ := withKept_t rfl (withTrue_t rfl zbdQ_t0)
theorem zbdQ_runs {v0 : Value} {h : Heap} {R : RP} {X : XP} (k : RunC Tryz.prog T0 zbdQ_c ⟨[v0, U, U, U, U, U], [], h, none⟩ (bodyQ Tryz.prog T0 [(2, some (some 4))] R X)) :
 Runs Tryz.prog T0 (.fn 90) [v0] h R X := Runs.fn zbdQ_t rfl k
abbrev fn_zxbQ : FuncId := 91
def zxbQ_l0 : ACode :=
 (.seq (.seq (.region [
 o1 40 (.mov (tm 7)),
 o1 41 (.mov (tm 5)),
 o1 42 (.lenSl (tm 41)),
 o1 43 (.bin .lss (so (.binOp .lss 3 (tm 40) (tm 42) 3) 4) (tm 40) (tm 42))]) (.cond (tm 43)
 .skip
 (.exit 0))) (.seq (.block 1 (.region [
 o1 46 (.mov (tm 6)),
 o1 47 (.bin .shl (so (.binOp .shl 107 (tm 46) (.const (.int .u64 8)) 155) 107) (tm 46) (.const (.int .u64 8))),
 o1 48 (.mov (tm 5)),
 o1 49 (.mov (tm 7)),
 o1 50 (.indexSl 1 (tm 48) (tm 49)),
 o1 51 (.load none (tm 50)),
 o1 52 (.conv .u64 (so (.convert 5 107 (tm 51)) 107) (tm 51)),
 o1 53 (.bin .or (so (.binOp .or 107 (tm 47) (tm 52) 107) 107) (tm 47) (tm 52)),
 o1 6 (.mov (tm 53))])) (.region [
 o1 44 (.mov (tm 7)),
 o1 45 (.bin .add (so (.binOp .add 3 (tm 44) (.const (.int .i64 1)) 3) 3) (tm 44) (.const (.int .i64 1))),
 o1 7 (.mov (tm 45))])))
def zxbQ_c : ACode :=
 (.seq (.region [
 o1 2 (.mov k0)]) (.seq (.region [
 o1 8 (.mov (tm 0)),
 o1 9 (.nilCheck (tm 8)),
 o1 10 (.fieldAddr 1 (tm 9)),
 o1 11 (.load none (tm 10)),
 o1 3 (.mov (tm 11))]) (.seq (.region [
 o1 12 (.mov (tm 0)),
 o1 13 (.mov (tm 3)),
 o1 14 (.callV (.func 93) [(tm 12), (.const (.int .i64 1)), (tm 13)]),
 o1 4 (.mov (tm 14))]) (.seq (.seq (.region [
 o1 15 (.mov (tm 4)),
 o1 16 (.lenSl (tm 15)),
 o1 17 (.bin .eql (so (.binOp .eql 3 (tm 16) (.const (.int .i64 1)) 3) 4) (tm 16) (.const (.int .i64 1))),
 o1 18 (.mov (tm 17)),
 o4 19 (.mov (tm 4)) 18,
 o4 20 (.indexSl 1 (tm 19) k0) 18,
 o4 21 (.load none (tm 20)) 18,
 o4 22 (.bin .gtr (so (.binOp .gtr 5 (tm 21) (.const (.int .u8 8)) 5) 4) (tm 21) (.const (.int .u8 8))) 18,
 o1 23 (.pick (tm 18) (tm 22) (.const (.bool false)))]) (.cond (tm 23)
 (.region [
 o1 24 (.mov (tm 0)),
 o1 25 (.mov (tm 3)),
 o1 26 (.callV (.func 92) [(tm 24), (.const (.int .i64 5)), (tm 25)])])
 .skip)) (.seq (.seq (.region [
 o1 27 (.mov (tm 0)),
 o1 28 (.nilCheck (tm 27)),
 o1 29 (.fieldAddr 2 (tm 28)),
 o1 30 (.fieldAddr 0 (tm 29)),
 o1 31 (.load none (tm 30)),
 o1 32 (.bin .neq (so (.binOp .neq 34 (tm 31) k0 34) 4) (tm 31) k0)]) (.cond (tm 32)
 (.seq (.region [
 o1 2 (.mov k0)]) .ret)
 .skip)) (.seq (.region [
 o1 33 (.mov (tm 0)),
 o1 34 (.mov (tm 4)),
 o1 35 (.indexSl 1 (tm 34) k0),
 o1 36 (.load none (tm 35)),
 o1 37 (.conv .i64 (so (.convert 5 3 (tm 36)) 3) (tm 36)),
 o1 38 (.mov (tm 3)),
 o1 39 (.callV (.func 93) [(tm 33), (tm 37), (tm 38)]),
 o1 5 (.mov (tm 39))]) (.seq (.region [
 o1 6 (.mov (.const (.int .u64 0)))]) (.seq (.seq (.region [
 o1 7 (.mov k0)]) (.block 0 (.loop zxbQ_l0))) (.seq (.seq (.region [
 o1 54 (.mov (tm 5)),
 o1 55 (.lenSl (tm 54)),
 o1 56 (.bin .gtr (so (.binOp .gtr 3 (tm 55) k0 3) 4) (tm 55) k0),
 o1 57 (.mov (tm 56)),
 o4 58 (.mov (tm 5)) 57,
 o4 59 (.indexSl 1 (tm 58) k0) 57,
 o4 60 (.load none (tm 59)) 57,
 o4 61 (.bin .eql (so (.binOp .eql 5 (tm 60) (.const (.int .u8 0)) 5) 4) (tm 60) (.const (.int .u8 0))) 57,
 o1 62 (.pick (tm 57) (tm 61) (.const (.bool false))),
 o1 63 (.mov (tm 62)),
 o5 64 (.mov (tm 6)) 63,
 o5 65 (.bin .shr (so (.binOp .shr 107 (tm 64) (.const (.int .u64 63)) 155) 107) (tm 64) (.const (.int .u64 63))) 63,
 o5 66 (.bin .eql (so (.binOp .eql 107 (tm 65) (.const (.int .u64 1)) 107) 4) (tm 65) (.const (.int .u64 1))) 63,
 o1 67 (.pick (tm 63) (.const (.bool true)) (tm 66))]) (.cond (tm 67)
 (.region [
 o1 68 (.mov (tm 0)),
 o1 69 (.mov (tm 3)),
 o1 70 (.callV (.func 92) [(tm 68), (.const (.int .i64 5)), (tm 69)])])
 .skip)) (.seq (.seq (.region [
 o1 71 (.mov (tm 0)),
 o1 72 (.nilCheck (tm 71)),
 o1 73 (.fieldAddr 2 (tm 72)),
 o1 74 (.fieldAddr 0 (tm 73)),
 o1 75 (.load none (tm 74)),
 o1 76 (.bin .neq (so (.binOp .neq 34 (tm 75) k0 34) 4) (tm 75) k0)]) (.cond (tm 76)
 (.seq (.region [
 o1 2 (.mov k0)]) .ret)
 .skip)) (.seq (.region [
 o1 77 (.mov (tm 6)),
 o1 78 (.conv .i64 (so (.convert 107 3 (tm 77)) 3) (tm 77)),
 o1 2 (.mov (tm 78))]) .ret)))))))))))
def zxbQ : AFunc := ⟨79, [(2, none)], zxbQ_c, none⟩
theorem zxbQ_t0 : tableOf Tryz.prog 91 = some zxbQ := by kernel_rfl
theorem zxbQ_t : T0 91 = some zxbQ := withKept_t rfl (withTrue_t rfl zxbQ_t0)
theorem zxbQ_runs {v0 : Value} {h : Heap} {R : RP} {X : XP} (k : RunC Tryz.prog T0 zxbQ_c ⟨[v0, U, U, U, U, U, U, U, U, U, U, U, U, U, U, U, U, U, U, U, U, U, U, U, U, U, U, U, U, U, U, U, U, U, U, U, U, U, U, U, U, U, U, U, U, U, U, U, U, U, U, U, U, U, U, U, U, U, U, U, U, U, U, U, U, U, U, U, U, U, U, U, U, U, U, U, U, U, U], [], h, none⟩ (bodyQ Tryz.prog T0 [(2, none)] R X)) :
 Runs Tryz.prog T0 (.fn 91) [v0] h R X := Runs.fn zxbQ_t rfl k
def zxbQ_l0_J (f0 f1 f2 f3 f4 f5 f8 f9 f10 f11 f12 f13 f14 f15 f16 f17 f18 f19 f20 f21 f22 f23 f24 f25 f26 f27 f28 f29 f30 f31 f32 f33 f34 f35 f36 f37 f38 f39 f54 f55 f56 f57 f58 f59 f60 f61 f62 f63 f64 f65 f66 f67 f68 f69 f70 f71 f72 f73 f74 f75 f76 f77 f78 : Value) (ds : List Deferred) (rd : Option Nat) (I : Nat → Value → Value → Heap → Prop) (m : Nat) (s : St) : Prop := ∃ (v6 v7 : Value), ∃ h : Heap, ∃ (x40 x41 x42 x43 x44 x45 x46 x47 x48 x49 x50 x51 x52 x53 : Value), s = ⟨[f0, f1, f2, f3, f4, f5, v6, v7, f8, f9, f10, f11, f12, f13, f14, f15, f16, f17, f18, f19, f20, f21, f22, f23, f24, f25, f26, f27, f28, f29, f30, f31, f32, f33, f34, f35, f36, f37, f38, f39, x40, x41, x42, x43, x44, x45, x46, x47, x48, x49, x50, x51, x52, x53, f54, f55, f56, f57, f58, f59, f60, f61, f62, f63, f64, f65, f66, f67, f68, f69, f70, f71, f72, f73, f74, f75, f76, f77, f78], ds, h, rd⟩ ∧ I m v6 v7 h
theorem zxbQ_l0_rule {f0 f1 f2 f3 f4 f5 f8 f9 f10 f11 f12 f13 f14 f15 f16 f17 f18 f19 f20 f21 f22 f23 f24 f25 f26 f27 f28 f29 f30 f31 f32 f33 f34 f35 f36 f37 f38 f39 f54 f55 f56 f57 f58 f59 f60 f61 f62 f63 f64 f65 f66 f67 f68 f69 f70 f71 f72 f73 f74 f75 f76 f77 f78 : Value} {ds : List Deferred} {rd : Option Nat} {Q : QP} (I : Nat → Value → Value → Heap → Prop) (hb : ∀ (m : Nat) (v6 v7 : Value) (h : Heap) (x40 x41 x42 x43 x44 x45 x46 x47 x48 x49 x50 x51 x52 x53 : Value) , I m v6 v7 h → RunC Tryz.prog T0 zxbQ_l0 ⟨[f0, f1, f2, f3, f4, f5, v6, v7, f8, f9, f10, f11, f12, f13, f14, f15, f16, f17, f18, f19, f20, f21, f22, f23, f24, f25, f26, f27, f28, f29, f30, f31, f32, f33, f34, f35, f36, f37, f38, f39, x40, x41, x42, x43, x44, x45, x46, x47, x48, x49, x50, x51, x52, x53, f54, f55, f56, f57, f58, f59, f60, f61, f62, f63, f64, f65, f66, f67, f68, f69, f70, f71, f72, f73, f74, f75, f76, f77, f78], ds, h, rd⟩ (loopQ (zxbQ_l0_J f0 f1 f2 f3 f4 f5 f8 f9 f10 f11 f12 f13 f14 f15 f16 f17 f18 f19 f20 f21 f22 f23 f24 f25 f26 f27 f28 f29 f30 f31 f32 f33 f34 f35 f36 f37 f38 f39 f54 f55 f56 f57 f58 f59 f60 f61 f62 f63 f64 f65 f66 f67 f68 f69 f70 f71 f72 f73 f74 f75 f76 f77 f78 ds rd I) m Q))
 (m : Nat) {v6 v7 : Value} {h : Heap} {x40 x41 x42 x43 x44 x45 x46 x47 x48 x49 x50 x51 x52 x53 : Value} (hi : I m v6 v7 h) : RunC Tryz.prog T0 (.loop zxbQ_l0) ⟨[f0, f1, f2, f3, f4, f5, v6, v7, f8, f9, f10, f11, f12, f13, f14, f15, f16, f17, f18, f19, f20, f21, f22, f23, f24, f25, f26, f27, f28, f29, f30, f31, f32, f33, f34, f35, f36, f37, f38, f39, x40, x41, x42, x43, x44, x45, x46, x47, x48, x49, x50, x51, x52, x53, f54, f55, f56, f57, f58, f59, f60, f61, f62, f63, f64, f65, f66, f67, f68, f69, f70, f71, f72, f73, f74, f75, f76, f77, f78], ds, h, rd⟩ Q :=
 RunC.loopJ (zxbQ_l0_J f0 f1 f2 f3 f4 f5 f8 f9 f10 f11 f12 f13 f14 f15 f16 f17 f18 f19 f20 f21 f22 f23 f24 f25 f26 f27 f28 f29 f30 f31 f32 f33 f34 f35 f36 f37 f38 f39 f54 f55 f56 f57 f58 f59 f60 f61 f62 f63 f64 f65 f66 f67 f68 f69 f70 f71 f72 f73 f74 f75 f76 f77 f78 ds rd I) (fun m s hj => by obtain ⟨v6, v7, h, x40, x41, x42, x43, x44, x45, x46, x47, x48, x49, x50, x51, x52, x53, rfl, hi⟩ := hj; exact hb m v6 v7 h x40 x41 x42 x43 x44 x45 x46 x47 x48 x49 x50 x51 x52 x53 hi) m _ ⟨_, _, h, _, _, _, _, _, _, _, _, _, _, _, _, _, _, rfl, hi⟩
theorem zxbQ_l0_again {f0 f1 f2 f3 f4 f5 f8 f9 f10 f11 f12 f13 f14 f15 f16 f17 f18 f19 f20 f21 f22 f23 f24 f25 f26 f27 f28 f29 f30 f31 f32 f33 f34 f35 f36 f37 f38 f39 f54 f55 f56 f57 f58 f59 f60 f61 f62 f63 f64 f65 f66 f67 f68 f69 f70 f71 f72 f73 f74 f75 f76 f77 f78 : Value} {ds : List Deferred} {rd : Option Nat} {Q : QP} {I : Nat → Value → Value → Heap → Prop} {m : Nat} (m' : Nat) {v6 v7 : Value} {h : Heap} {x40 x41 x42 x43 x44 x45 x46 x47 x48 x49 x50 x51 x52 x53 : Value} (hm : m' < m) (hi : I m' v6 v7 h) : loopQ (zxbQ_l0_J f0 f1 f2 f3 f4 f5 f8 f9 f10 f11 f12 f13 f14 f15 f16 f17 f18 f19 f20 f21 f22 f23 f24 f25 f26 f27 f28 f29 f30 f31 f32 f33 f34 f35 f36 f37 f38 f39 f54 f55 f56 f57 f58 f59 f60 f61 f62 f63 f64 f65 f66 f67 f68 f69 f70 f71 f72 f73 f74 f75 f76 f77 f78 ds rd I) m Q .normal ⟨[f0, f1, f2, f3, f4, f5, v6, v7, f8, f9, f10, f11, f12, f13, f14, f15, f16, f17, f18, f19, f20, f21, f22, f23, f24, f25, f26, f27, f28, f29, f30, f31, f32, f33, f34, f35, f36, f37, f38, f39, x40, x41, x42, x43, x44, x45, x46, x47, x48, x49, x50, x51, x52, x53, f54, f55, f56, f57, f58, f59, f60, f61, f62, f63, f64, f65, f66, f67, f68, f69, f70, f71, f72, f73, f74, f75, f76, f77, f78], ds, h, rd⟩ :=
 loopQ.again m' hm ⟨_, _, h, _, _, _, _, _, _, _, _, _, _, _, _, _, _, rfl, hi⟩
abbrev fn_zubQ : FuncId := 92
def zubQ_c : ACode :=
 (.seq (.region [
 o1 6 (.mov (tm 0)),
 o1 7 (.nilCheck (tm 6)),
 o1 8 (.fieldAddr 2 (tm 7)),
 o1 9 (.fieldAddr 0 (tm 8)),
 o1 10 (.load none (tm 9)),
 o1 11 (.bin .eql (so (.binOp .eql 34 (tm 10) k0 34) 4) (tm 10) k0)]) (.cond (tm 11)
 (.region [
 o1 12 (.mov (tm 0)),
 o1 13 (.mov (tm 1)),
 o1 14 (.mov (tm 2)),
 o1 15 (.build [(.int .i64 0), (.int .i64 0)] [(0, 1, (tm 13)), (1, 1, (tm 14))]),
 o1 16 (.nilCheck (tm 12)),
 o1 17 (.fieldAddr 2 (tm 16)),
 o3 (.store 2 (tm 17) (tm 15))])
 .skip))
def zubQ : AFunc := ⟨18, [], zubQ_c, none⟩
theorem zubQ_t0 : tableOf Tryz.prog 92 = some zubQ := by kernel_rfl
theorem zubQ_t : T0 92 = some zubQ := withKept_t rfl (withTrue_t rfl zubQ_t0)
theorem zubQ_runs {v0 v1 v2 : Value} {h : Heap} {R : RP} {X : XP} (k : RunC Tryz.prog T0 zubQ_c ⟨[v0, v1, v2, U, U, U, U, U, U, U, U, U, U, U, U, U, U, U], [], h, none⟩ (bodyQ Tryz.prog T0 [] R X)) :
 Runs Tryz.prog T0 (.fn 92) [v0, v1, v2] h R X := Runs.fn zubQ_t rfl k
abbrev fn_zbcQ : FuncId := 93
def zbcQ_c : ACode :=
 (.seq (.region [
 o1 6 (.mov (.const (.slice none 0 0)))]) (.seq (.seq (.region [
 o1 8 (.mov (tm 0)),
 o1 9 (.nilCheck (tm 8)),
 o1 10 (.fieldAddr 2 (tm 9)),
 o1 11 (.fieldAddr 0 (tm 10)),
 o1 12 (.load none (tm 11)),
 o1 13 (.bin .neq (so (.binOp .neq 34 (tm 12) k0 34) 4) (tm 12) k0)]) (.cond (tm 13)
 (.seq (.region [
 o1 6 (.mov (.const (.slice none 0 0)))]) .ret)
 .skip)) (.seq (.seq (.regionD [
 o1 14 (.mov (tm 1)),
 o1 15 (.mov (tm 0)),
 o1 16 (.nilCheck (tm 15)),
 o1 17 (.fieldAddr 0 (tm 16)),
 o1 18 (.load none (tm 17)),
 o1 19 (.lenSl (tm 18)),
 o1 20 (.mov (tm 0)),
 o1 21 (.nilCheck (tm 20)),
 o1 22 (.fieldAddr 1 (tm 21)),
 o1 23 (.load none (tm 22)),
 o1 24 (.bin .sub (so (.binOp .sub 3 (tm 19) (tm 23) 3) 3) (tm 19) (tm 23)),
 o2 25 (.bin .gtr (so (.binOp .gtr 3 (tm 14) (tm 24) 3) 4) (tm 14) (tm 24))]) (.cond (tm 25)
 (.seq (.region [
 o1 26 (.mov (tm 0)),
 o1 27 (.mov (tm 2)),
 o1 28 (.callV (.func 92) [(tm 26), (.const (.int .i64 6)), (tm 27)])]) (.seq (.region [
 o1 6 (.mov (.const (.slice none 0 0)))]) .ret))
 .skip)) (.seq (.regionD [
 o1 30 (.mov (tm 0)),
 o1 31 (.nilCheck (tm 30)),
 o1 32 (.fieldAddr 0 (tm 31)),
 o1 33 (.load none (tm 32)),
 o1 34 (.mov (tm 0)),
 o1 35 (.nilCheck (tm 34)),
 o1 36 (.fieldAddr 1 (tm 35)),
 o1 37 (.load none (tm 36)),
 o1 38 (.mov (tm 0)),
 o1 39 (.nilCheck (tm 38)),
 o1 40 (.fieldAddr 1 (tm 39)),
 o1 41 (.load none (tm 40)),
 o1 42 (.mov (tm 1)),
 o1 43 (.bin .add (so (.binOp .add 3 (tm 41) (tm 42) 3) 3) (tm 41) (tm 42)),
 o1 44 (.sliceSl 1 (tm 33) (some (tm 37)) (some (tm 43)) none),
 ⟨some 29, .buildSlice 5 [] 0 [], none, [(some 44, .sliceSl 1 (tm 33) (some (tm 37)) (some (tm 43)) none, none), (some 43, .bin .add (so (.binOp .add 3 (tm 41) (tm 42) 3) 3) (tm 41) (tm 42), none), (some 42, .mov (tm 1), none), (some 41, .load none (tm 40), none), (some 40, .fieldAddr 1 (tm 39), none), (some 39, .nilCheck (tm 38), none), (some 38, .mov (tm 0), none), (some 37, .load none (tm 36), none), (some 36, .fieldAddr 1 (tm 35), none), (some 35, .nilCheck (tm 34), none), (some 34, .mov (tm 0), none), (some 33, .load none (tm 32), none), (some 32, .fieldAddr 0 (tm 31), none), (some 31, .nilCheck (tm 30), none), (some 30, .mov (tm 0), none)], false⟩,
 o2 45 (.append 5 1 1 [(.int .u8 0)] false (tm 29) (tm 44)),
 o2 7 (.mov (tm 45))]) (.seq (.region [
 o1 46 (.mov (tm 0)),
 o1 47 (.mov (tm 0)),
 o1 48 (.nilCheck (tm 47)),
 o1 49 (.fieldAddr 1 (tm 48)),
 o1 50 (.load none (tm 49)),
 o1 51 (.mov (tm 1)),
 o1 52 (.bin .add (so (.binOp .add 3 (tm 50) (tm 51) 3) 3) (tm 50) (tm 51)),
 o1 53 (.nilCheck (tm 46)),
 o1 54 (.fieldAddr 1 (tm 53)),
 o3 (.store 1 (tm 54) (tm 52))]) (.seq (.region [
 o1 55 (.mov (tm 7)),
 o1 6 (.mov (tm 55))]) .ret))))))
def zbcQ : AFunc := ⟨56, [(6, none)], zbcQ_c, none⟩
theorem zbcQ_t0 : tableOf Tryz.prog 93 = some zbcQ := by kernel_rfl
theorem zbcQ_t : T0 93 = some zbcQ := withKept_t rfl (withTrue_t rfl zbcQ_t0)
theorem zbcQ_runs {v0 v1 v2 : Value} {h : Heap} {R : RP} {X : XP} (k : RunC Tryz.prog T0 zbcQ_c ⟨[v0, v1, v2, U, U, U, U, U, U, U, U, U, U, U, U, U, U, U, U, U, U, U, U, U, U, U, U, U, U, U, U, U, U, U, U, U, U, U, U, U, U, U, U, U, U, U, U, U, U, U, U, U, U, U, U, U], [], h, none⟩ (bodyQ Tryz.prog T0 [(6, none)] R X)) :
 Runs Tryz.prog T0 (.fn 93) [v0, v1, v2] h R X := Runs.fn zbcQ_t rfl k
abbrev fn_zhcQ : FuncId := 94
def zhcQ_c : ACode :=
 (.seq (.region [
 o1 2 (.alloc 25 ((.string ⟨⟨[]⟩⟩) :: ((.int .i64 0) :: ((.int .i64 0) :: (z32 ++ (z32 ++ (z32 ++ z32)))))))]) (.seq (.region [
 o1 3 (.alloc 25 ((.string ⟨⟨[]⟩⟩) :: ((.int .i64 0) :: ((.int .i64 0) :: (z32 ++ (z32 ++ (z32 ++ z32)))))))]) (.seq (.region [
 o1 4 (.mov (tm 0)),
 o1 5 (.callV (.func 149) [(tm 4), (.const (.int .i64 32))]),
 o1 6 (.fieldAddr 0 (tm 3)),
 o3 (.store 1 (tm 6) (tm 5))]) (.seq (.region [
 o1 7 (.mov (tm 0)),
 o1 8 (.callV (.func 91) [(tm 7)]),
 o1 9 (.fieldAddr 1 (tm 3)),
 o3 (.store 1 (tm 9) (tm 8))]) (.seq (.region [
 o1 10 (.mov (tm 0)),
 o1 11 (.callV (.func 91) [(tm 10)]),
 o1 12 (.fieldAddr 2 (tm 3)),
 o3 (.store 1 (tm 12) (tm 11))]) (.seq (.region [
 o1 13 (.mov (tm 0)),
 o1 14 (.callV (.func 96) [(tm 13)]),
 o1 15 (.fieldAddr 3 (tm 3)),
 o3 (.store 32 (tm 15) (tm 14))]) (.seq (.region [
 o1 16 (.mov (tm 0)),
 o1 17 (.callV (.func 96) [(tm 16)]),
 o1 18 (.fieldAddr 35 (tm 3)),
 o3 (.store 32 (tm 18) (tm 17))]) (.seq (.region [
 o1 19 (.mov (tm 0)),
 o1 20 (.callV (.func 96) [(tm 19)]),
 o1 21 (.fieldAddr 67 (tm 3)),
 o3 (.store 32 (tm 21) (tm 20))]) (.seq (.region [
 o1 22 (.mov (tm 0)),
 o1 23 (.callV (.func 96) [(tm 22)]),
 o1 24 (.fieldAddr 99 (tm 3)),
 o3 (.store 32 (tm 24) (tm 23))]) (.seq (.region [
 o1 25 (.load (some 131) (tm 3)),
 o3 (.store 131 (tm 2) (tm 25))]) .ret))))))))))
def zhcQ : AFunc := ⟨26, [(2, some (some 131))], zhcQ_c, none⟩
theorem zhcQ_t0 : tableOf Tryz.prog 94 = some zhcQ := by kernel_rfl
theorem zhcQ_t : T0 94 = some zhcQ := withKept_t rfl (withTrue_t rfl zhcQ_t0)
theorem zhcQ_runs {v0 : Value} {h : Heap} {R : RP} {X : XP} (k : RunC Tryz.prog T0 zhcQ_c ⟨[v0, U, U, U, U, U, U, U, U, U, U, U, U, U, U, U, U, U, U, U, U, U, U, U, U, U], [], h, none⟩ (bodyQ Tryz.prog T0 [(2, some (some 131))] R X)) :
 Runs Tryz.prog T0 (.fn 94) [v0] h R X := Runs.fn zhcQ_t rfl k
abbrev fn_zfcQ : FuncId := 95
def zfcQ_c : ACode :=
 (.seq (.region [
 o1 1 (.box 25 (tm 0)),
 o1 2 (.mov k0)]) (.seq (.block 0 (.seq (.region [
 o1 4 (.fieldAddr 0 (tm 1)),
 o1 5 (.load none (tm 4)),
 o1 6 (.callV (.func 150) [(tm 5)]),
 o1 7 (.raw (so (.unOp .not 4 (tm 6)) 4)),
 o1 3 (.mov (tm 7))]) (.cond (tm 3)
 (.seq (.region [
 o1 2 (.mov (.const (.int .i64 5)))]) .ret)
 (.seq (.region [
 o1 9 (.fieldAddr 1 (tm 1)),
 o1 10 (.load none (tm 9)),
 o1 11 (.bin .lss (so (.binOp .lss 3 (tm 10) (.const (.int .i64 1)) 3) 4) (tm 10) (.const (.int .i64 1))),
 o1 12 (.mov (tm 11)),
 o5 13 (.fieldAddr 1 (tm 1)) 12,
 o5 14 (.load none (tm 13)) 12,
 o5 15 (.bin .gtr (so (.binOp .gtr 3 (tm 14) (.const (.int .i64 1073741824)) 3) 4) (tm 14) (.const (.int .i64 1073741824))) 12,
 o1 16 (.pick (tm 12) (.const (.bool true)) (tm 15)),
 o1 17 (.mov (tm 16)),
 o5 18 (.fieldAddr 2 (tm 1)) 17,
 o5 19 (.load none (tm 18)) 17,
 o5 20 (.bin .lss (so (.binOp .lss 3 (tm 19) k0 3) 4) (tm 19) k0) 17,
 o1 21 (.pick (tm 17) (.const (.bool true)) (tm 20)),
 o1 22 (.mov (tm 21)),
 o5 23 (.fieldAddr 2 (tm 1)) 22,
 o5 24 (.load none (tm 23)) 22,
 o5 25 (.bin .gtr (so (.binOp .gtr 3 (tm 24) (.const (.int .i64 1099511627776)) 3) 4) (tm 24) (.const (.int .i64 1099511627776))) 22,
 o1 26 (.pick (tm 22) (.const (.bool true)) (tm 25)),
 o1 8 (.mov (tm 26))]) (.cond (tm 8)
 (.seq (.region [
 o1 2 (.mov (.const (.int .i64 3)))]) .ret)
 .skip))))) (.seq (.region [
 o1 2 (.mov k0)]) .ret)))
def zfcQ : AFunc := ⟨27, [(2, none)], zfcQ_c, none⟩
theorem zfcQ_t0 : tableOf Tryz.prog 95 = some zfcQ := by kernel_rfl
theorem zfcQ_t : T0 95 = some zfcQ := withKept_t rfl (withTrue_t rfl zfcQ_t0)
theorem zfcQ_runs {v0 : Value} {h : Heap} {R : RP} {X : XP} (k : RunC Tryz.prog T0 zfcQ_c ⟨[v0, U, U, U, U, U, U, U, U, U, U, U, U, U, U, U, U, U, U, U, U, U, U, U, U, U, U], [], h, none⟩ (bodyQ Tryz.prog T0 [(2, none)] R X)) :
 Runs Tryz.prog T0 (.fn 95) [v0] h R X := Runs.fn zfcQ_t rfl k
abbrev fn_zvbQ : FuncId := 96
def zvbQ_l0 : ACode :=
 (.seq (.seq (.region [
 o1 12 (.mov (tm 5)),
 o1 13 (.mov (tm 4)),
 o1 14 (.lenSl (tm 13)),
 o1 15 (.bin .lss (so (.binOp .lss 3 (tm 12) (tm 14) 3) 4) (tm 12) (tm 14))]) (.cond (tm 15)
 .skip
 (.exit 0))) (.seq (.block 1 (.region [
 o1 18 (.mov (tm 5)),
 o1 19 (.mov (tm 4)),
 o1 20 (.mov (tm 5)),
 o1 21 (.indexSl 1 (tm 19) (tm 20)),
 o1 22 (.load none (tm 21)),
 o1 23 (.indexArr 32 1 (tm 3) (tm 18)),
 o3 (.store 1 (tm 23) (tm 22))])) (.region [
 o1 16 (.mov (tm 5)),
 o1 17 (.bin .add (so (.binOp .add 3 (tm 16) (.const (.int .i64 1)) 3) 3) (tm 16) (.const (.int .i64 1))),
 o1 5 (.mov (tm 17))])))
def zvbQ_c : ACode :=
 (.seq (.region [
 o1 2 (.alloc 23 z32)]) (.seq (.region [
 o1 3 (.alloc 23 z32)]) (.seq (.region [
 o1 6 (.mov (tm 0)),
 o1 7 (.mov (tm 0)),
 o1 8 (.nilCheck (tm 7)),
 o1 9 (.fieldAddr 1 (tm 8)),
 o1 10 (.load none (tm 9)),
 o1 11 (.callV (.func 93) [(tm 6), (.const (.int .i64 32)), (tm 10)]),
 o1 4 (.mov (tm 11))]) (.seq (.seq (.region [
 o1 5 (.mov k0)]) (.block 0 (.loop zvbQ_l0))) (.seq (.region [
 o1 24 (.load (some 32) (tm 3)),
 o3 (.store 32 (tm 2) (tm 24))]) .ret)))))
def zvbQ : AFunc := ⟨25, [(2, some (some 32))], zvbQ_c, none⟩
theorem zvbQ_t0 : tableOf Tryz.prog 96 = some zvbQ := by kernel_rfl
theorem zvbQ_t : T0 96 = some zvbQ := withKept_t rfl (withTrue_t rfl zvbQ_t0)
theorem zvbQ_runs {v0 : Value} {h : Heap} {R : RP} {X : XP} (k : RunC Tryz.prog T0 zvbQ_c ⟨[v0, U, U, U, U, U, U, U, U, U, U, U, U, U, U, U, U, U, U, U, U, U, U, U, U], [], h, none⟩ (bodyQ Tryz.prog T0 [(2, some (some 32))] R X)) :
 Runs Tryz.prog T0 (.fn 96) [v0] h R X := Runs.fn zvbQ_t rfl k
def zvbQ_l0_J (f0 f1 f2 f3 f4 f6 f7 f8 f9 f10 f11 f24 : Value) (ds : List Deferred) (rd : Option Nat) (I : Nat → Value → Heap → Prop) (m : Nat) (s : St) : Prop := ∃ (v5 : Value), ∃ h : Heap, ∃ (x12 x13 x14 x15 x16 x17 x18 x19 x20 x21 x22 x23 : Value), s = ⟨[f0, f1, f2, f3, f4, v5, f6, f7, f8, f9, f10, f11, x12, x13, x14, x15, x16, x17, x18, x19, x20, x21, x22, x23, f24], ds, h, rd⟩ ∧ I m v5 h
theorem zvbQ_l0_rule {f0 f1 f2 f3 f4 f6 f7 f8 f9 f10 f11 f24 : Value} {ds : List Deferred} {rd : Option Nat} {Q : QP} (I : Nat → Value → Heap → Prop) (hb : ∀ (m : Nat) (v5 : Value) (h : Heap) (x12 x13 x14 x15 x16 x17 x18 x19 x20 x21 x22 x23 : Value) , I m v5 h → RunC Tryz.prog T0 zvbQ_l0 ⟨[f0, f1, f2, f3, f4, v5, f6, f7, f8, f9, f10, f11, x12, x13, x14, x15, x16, x17, x18, x19, x20, x21, x22, x23, f24], ds, h, rd⟩ (loopQ (zvbQ_l0_J f0 f1 f2 f3 f4 f6 f7 f8 f9 f10 f11 f24 ds rd I) m Q))
 (m : Nat) {v5 : Value} {h : Heap} {x12 x13 x14 x15 x16 x17 x18 x19 x20 x21 x22 x23 : Value} (hi : I m v5 h) : RunC Tryz.prog T0 (.loop zvbQ_l0) ⟨[f0, f1, f2, f3, f4, v5, f6, f7, f8, f9, f10, f11, x12, x13, x14, x15, x16, x17, x18, x19, x20, x21, x22, x23, f24], ds, h, rd⟩ Q :=
 RunC.loopJ (zvbQ_l0_J f0 f1 f2 f3 f4 f6 f7 f8 f9 f10 f11 f24 ds rd I) (fun m s hj => by obtain ⟨v5, h, x12, x13, x14, x15, x16, x17, x18, x19, x20, x21, x22, x23, rfl, hi⟩ := hj; exact hb m v5 h x12 x13 x14 x15 x16 x17 x18 x19 x20 x21 x22 x23 hi) m _ ⟨_, h, _, _, _, _, _, _, _, _, _, _, _, _, rfl, hi⟩
theorem zvbQ_l0_again {f0 f1 f2 f3 f4 f6 f7 f8 f9 f10 f11 f24 : Value} {ds : List Deferred} {rd : Option Nat} {Q : QP} {I : Nat → Value → Heap → Prop} {m : Nat} (m' : Nat) {v5 : Value} {h : Heap} {x12 x13 x14 x15 x16 x17 x18 x19 x20 x21 x22 x23 : Value} (hm : m' < m) (hi : I m' v5 h) : loopQ (zvbQ_l0_J f0 f1 f2 f3 f4 f6 f7 f8 f9 f10 f11 f24 ds rd I) m Q .normal ⟨[f0, f1, f2, f3, f4, v5, f6, f7, f8, f9, f10, f11, x12, x13, x14, x15, x16, x17, x18, x19, x20, x21, x22, x23, f24], ds, h, rd⟩ :=
 loopQ.again m' hm ⟨_, h, _, _, _, _, _, _, _, _, _, _, _, _, rfl, hi⟩
abbrev fn_zybQ : FuncId := 97
def zybQ_c : ACode :=
 (.seq (.region [
 o1 2 (.mov k0)]) (.seq (.seq (.region [
 o1 3 (.mov (tm 0)),
 o1 4 (.nilCheck (tm 3)),
 o1 5 (.fieldAddr 2 (tm 4)),
 o1 6 (.fieldAddr 0 (tm 5)),
 o1 7 (.load none (tm 6)),
 o1 8 (.bin .neq (so (.binOp .neq 34 (tm 7) k0 34) 4) (tm 7) k0)]) (.cond (tm 8)
 (.seq (.region [
 o1 2 (.mov k0)]) .ret)
 .skip)) (.seq (.regionD [
 o1 9 (.mov (tm 0)),
 o1 10 (.nilCheck (tm 9)),
 o1 11 (.fieldAddr 0 (tm 10)),
 o1 12 (.load none (tm 11)),
 o1 13 (.lenSl (tm 12)),
 o1 14 (.mov (tm 0)),
 o1 15 (.nilCheck (tm 14)),
 o1 16 (.fieldAddr 1 (tm 15)),
 o1 17 (.load none (tm 16)),
 o2 18 (.bin .sub (so (.binOp .sub 3 (tm 13) (tm 17) 3) 3) (tm 13) (tm 17)),
 o2 2 (.mov (tm 18))]) .ret)))
def zybQ : AFunc := ⟨19, [(2, none)], zybQ_c, none⟩
theorem zybQ_t0 : tableOf Tryz.prog 97 = some zybQ := by kernel_rfl
theorem zybQ_t : T0 97 = some zybQ := withKept_t rfl (withTrue_t rfl zybQ_t0)
theorem zybQ_runs {v0 : Value} {h : Heap} {R : RP} {X : XP} (k : RunC Tryz.prog T0 zybQ_c ⟨[v0, U, U, U, U, U, U, U, U, U, U, U, U, U, U, U, U, U, U], [], h, none⟩ (bodyQ Tryz.prog T0 [(2, none)] R X)) :
 Runs Tryz.prog T0 (.fn 97) [v0] h R X := Runs.fn zybQ_t rfl k
abbrev fn_zacQ : FuncId := 98
def zacQ_l0 : ACode :=
 (.seq (.seq (.region [
 o1 12 (.mov (tm 5)),
 o1 13 (.mov (tm 4)),
 o1 14 (.lenSl (tm 13)),
 o1 15 (.bin .lss (so (.binOp .lss 3 (tm 12) (tm 14) 3) 4) (tm 12) (tm 14))]) (.cond (tm 15)
 .skip
 (.exit 0))) (.seq (.block 1 (.region [
 o1 18 (.mov (tm 3)),
 o1 19 (.bin .shl (so (.binOp .shl 107 (tm 18) (.const (.int .u64 8)) 155) 107) (tm 18) (.const (.int .u64 8))),
 o1 20 (.mov (tm 4)),
 o1 21 (.mov (tm 5)),
 o1 22 (.indexSl 1 (tm 20) (tm 21)),
 o1 23 (.load none (tm 22)),
 o1 24 (.conv .u64 (so (.convert 5 107 (tm 23)) 107) (tm 23)),
 o1 25 (.bin .or (so (.binOp .or 107 (tm 19) (tm 24) 107) 107) (tm 19) (tm 24)),
 o1 3 (.mov (tm 25))])) (.region [
 o1 16 (.mov (tm 5)),
 o1 17 (.bin .add (so (.binOp .add 3 (tm 16) (.const (.int .i64 1)) 3) 3) (tm 16) (.const (.int .i64 1))),
 o1 5 (.mov (tm 17))])))
def zacQ_c : ACode :=
 (.seq (.region [
 o1 2 (.mov (.const (.int .u64 0)))]) (.seq (.region [
 o1 3 (.mov (.const (.int .u64 0)))]) (.seq (.region [
 o1 6 (.mov (tm 0)),
 o1 7 (.mov (tm 0)),
 o1 8 (.nilCheck (tm 7)),
 o1 9 (.fieldAddr 1 (tm 8)),
 o1 10 (.load none (tm 9)),
 o1 11 (.callV (.func 93) [(tm 6), (.const (.int .i64 8)), (tm 10)]),
 o1 4 (.mov (tm 11))]) (.seq (.seq (.region [
 o1 5 (.mov k0)]) (.block 0 (.loop zacQ_l0))) (.seq (.region [
 o1 26 (.mov (tm 3)),
 o1 2 (.mov (tm 26))]) .ret)))))
def zacQ : AFunc := ⟨27, [(2, none)], zacQ_c, none⟩
theorem zacQ_t0 : tableOf Tryz.prog 98 = some zacQ := by kernel_rfl
theorem zacQ_t : T0 98 = some zacQ := withKept_t rfl (withTrue_t rfl zacQ_t0)
theorem zacQ_runs {v0 : Value} {h : Heap} {R : RP} {X : XP} (k : RunC Tryz.prog T0 zacQ_c ⟨[v0, U, U, U, U, U, U, U, U, U, U, U, U, U, U, U, U, U, U, U, U, U, U, U, U, U, U], [], h, none⟩ (bodyQ Tryz.prog T0 [(2, none)] R X)) :
 Runs Tryz.prog T0 (.fn 98) [v0] h R X := Runs.fn zacQ_t rfl k
def zacQ_l0_J (f0 f1 f2 f4 f6 f7 f8 f9 f10 f11 f26 : Value) (ds : List Deferred) (rd : Option Nat) (I : Nat → Value → Value → Heap → Prop) (m : Nat) (s : St) : Prop := ∃ (v3 v5 : Value), ∃ h : Heap, ∃ (x12 x13 x14 x15 x16 x17 x18 x19 x20 x21 x22 x23 x24 x25 : Value), s = ⟨[f0, f1, f2, v3, f4, v5, f6, f7, f8, f9, f10, f11, x12, x13, x14, x15, x16, x17, x18, x19, x20, x21, x22, x23, x24, x25, f26], ds, h, rd⟩ ∧ I m v3 v5 h
theorem zacQ_l0_rule {f0 f1 f2 f4 f6 f7 f8 f9 f10 f11 f26 : Value} {ds : List Deferred} {rd : Option Nat} {Q : QP} (I : Nat → Value → Value → Heap → Prop) (hb : ∀ (m : Nat) (v3 v5 : Value) (h : Heap) (x12 x13 x14 x15 x16 x17 x18 x19 x20 x21 x22 x23 x24 x25 : Value) , I m v3 v5 h → RunC Tryz.prog T0 zacQ_l0 ⟨[f0, f1, f2, v3, f4, v5, f6, f7, f8, f9, f10, f11, x12, x13, x14, x15, x16, x17, x18, x19, x20, x21, x22, x23, x24, x25, f26], ds, h, rd⟩ (loopQ (zacQ_l0_J f0 f1 f2 f4 f6 f7 f8 f9 f10 f11 f26 ds rd I) m Q))
 (m : Nat) {v3 v5 : Value} {h : Heap} {x12 x13 x14 x15 x16 x17 x18 x19 x20 x21 x22 x23 x24 x25 : Value} (hi : I m v3 v5 h) : RunC Tryz.prog T0 (.loop zacQ_l0) ⟨[f0, f1, f2, v3, f4, v5, f6, f7, f8, f9, f10, f11, x12, x13, x14, x15, x16, x17, x18, x19, x20, x21, x22, x23, x24, x25, f26], ds, h, rd⟩ Q :=
 RunC.loopJ (zacQ_l0_J f0 f1 f2 f4 f6 f7 f8 f9 f10 f11 f26 ds rd I) (fun m s hj => by obtain ⟨v3, v5, h, x12, x13, x14, x15, x16, x17, x18, x19, x20, x21, x22, x23, x24, x25, rfl, hi⟩ := hj; exact hb m v3 v5 h x12 x13 x14 x15 x16 x17 x18 x19 x20 x21 x22 x23 x24 x25 hi) m _ ⟨_, _, h, _, _, _, _, _, _, _, _, _, _, _, _, _, _, rfl, hi⟩
theorem zacQ_l0_again {f0 f1 f2 f4 f6 f7 f8 f9 f10 f11 f26 : Value} {ds : List Deferred} {rd : Option Nat} {Q : QP} {I : Nat → Value → Value → Heap → Prop} {m : Nat} (m' : Nat) {v3 v5 : Value} {h : Heap} {x12 x13 x14 x15 x16 x17 x18 x19 x20 x21 x22 x23 x24 x25 : Value} (hm : m' < m) (hi : I m' v3 v5 h) : loopQ (zacQ_l0_J f0 f1 f2 f4 f6 f7 f8 f9 f10 f11 f26 ds rd I) m Q .normal ⟨[f0, f1, f2, v3, f4, v5, f6, f7, f8, f9, f10, f11, x12, x13, x14, x15, x16, x17, x18, x19, x20, x21, x22, x23, x24, x25, f26], ds, h, rd⟩ :=
 loopQ.again m' hm ⟨_, _, h, _, _, _, _, _, _, _, _, _, _, _, _, _, _, rfl, hi⟩
abbrev fn_zjcQ : FuncId := 99
def zjcQ_l0 : ACode :=
 (.seq (.seq (.region [
 o1 18 (.mov (tm 3)),
 o1 19 (.fieldAddr 33 (tm 1)),
 o1 20 (.load none (tm 19)),
 o1 21 (.lenSl (tm 20)),
 o1 22 (.bin .lss (so (.binOp .lss 3 (tm 18) (tm 21) 3) 4) (tm 18) (tm 21))]) (.cond (tm 22)
 .skip
 (.exit 1))) (.seq (.block 2 (.block 3 (.seq (.region [
 o1 26 (.fieldAddr 33 (tm 1)),
 o1 27 (.load none (tm 26)),
 o1 28 (.mov (tm 3)),
 o1 29 (.indexSl 2 (tm 27) (tm 28)),
 o1 30 (.fieldAddr 0 (tm 29)),
 o1 31 (.load none (tm 30)),
 o1 32 (.bin .lss (so (.binOp .lss 3 (tm 31) k0 3) 4) (tm 31) k0),
 o1 33 (.mov (tm 32)),
 o5 34 (.fieldAddr 33 (tm 1)) 33,
 o5 35 (.load none (tm 34)) 33,
 o5 36 (.mov (tm 3)) 33,
 o5 37 (.indexSl 2 (tm 35) (tm 36)) 33,
 o5 38 (.fieldAddr 0 (tm 37)) 33,
 o5 39 (.load none (tm 38)) 33,
 o5 40 (.bin .geq (so (.binOp .geq 3 (tm 39) (.const (.int .i64 64)) 3) 4) (tm 39) (.const (.int .i64 64))) 33,
 o1 41 (.pick (tm 33) (.const (.bool true)) (tm 40)),
 o1 25 (.mov (tm 41))]) (.cond (tm 25)
 (.seq (.region [
 o1 2 (.mov (.const (.int .i64 3)))]) .ret)
 (.seq (.regionD [
 o2 43 (.mov (tm 3)),
 o2 44 (.bin .gtr (so (.binOp .gtr 3 (tm 43) k0 3) 4) (tm 43) k0),
 o2 45 (.mov (tm 44)),
 o4 46 (.fieldAddr 33 (tm 1)) 45,
 o4 47 (.load none (tm 46)) 45,
 o4 48 (.mov (tm 3)) 45,
 o4 49 (.indexSl 2 (tm 47) (tm 48)) 45,
 o4 50 (.fieldAddr 0 (tm 49)) 45,
 o4 51 (.load none (tm 50)) 45,
 o4 52 (.fieldAddr 33 (tm 1)) 45,
 o4 53 (.load none (tm 52)) 45,
 o4 54 (.mov (tm 3)) 45,
 o4 55 (.bin .sub (so (.binOp .sub 3 (tm 54) (.const (.int .i64 1)) 3) 3) (tm 54) (.const (.int .i64 1))) 45,
 o4 56 (.indexSl 2 (tm 53) (tm 55)) 45,
 o4 57 (.fieldAddr 0 (tm 56)) 45,
 o4 58 (.load none (tm 57)) 45,
 ⟨some 59, .bin .leq (so (.binOp .leq 3 (tm 51) (tm 58) 3) 4) (tm 51) (tm 58), some (45, true), [], true⟩,
 o2 60 (.pick (tm 45) (tm 59) (.const (.bool false))),
 o2 42 (.mov (tm 60))]) (.cond (tm 42)
 (.seq (.region [
 o1 2 (.mov (.const (.int .i64 9)))]) .ret)
 .skip)))))) (.region [
 o1 23 (.mov (tm 3)),
 o1 24 (.bin .add (so (.binOp .add 3 (tm 23) (.const (.int .i64 1)) 3) 3) (tm 23) (.const (.int .i64 1))),
 o1 3 (.mov (tm 24))])))
def zjcQ_c : ACode :=
 (.seq (.region [
 o1 1 (.box 31 (tm 0)),
 o1 2 (.mov k0)]) (.seq (.block 0 (.seq (.region [
 o1 5 (.fieldAddr 0 (tm 1)),
 o1 6 (.load none (tm 5)),
 o1 7 (.bin .lss (so (.binOp .lss 3 (tm 6) (.const (.int .i64 1)) 3) 4) (tm 6) (.const (.int .i64 1))),
 o1 8 (.mov (tm 7)),
 o5 9 (.fieldAddr 0 (tm 1)) 8,
 o5 10 (.load none (tm 9)) 8,
 o5 11 (.bin .gtr (so (.binOp .gtr 3 (tm 10) (.const (.int .i64 1073741824)) 3) 4) (tm 10) (.const (.int .i64 1073741824))) 8,
 o1 12 (.pick (tm 8) (.const (.bool true)) (tm 11)),
 o1 4 (.mov (tm 12))]) (.cond (tm 4)
 (.seq (.region [
 o1 2 (.mov (.const (.int .i64 3)))]) .ret)
 (.seq (.region [
 o1 14 (.fieldAddr 33 (tm 1)),
 o1 15 (.load none (tm 14)),
 o1 16 (.lenSl (tm 15)),
 o1 17 (.bin .gtr (so (.binOp .gtr 3 (tm 16) (.const (.int .i64 64)) 3) 4) (tm 16) (.const (.int .i64 64))),
 o1 13 (.mov (tm 17))]) (.cond (tm 13)
 (.seq (.region [
 o1 2 (.mov (.const (.int .i64 4)))]) .ret)
 .skip))))) (.seq (.seq (.region [
 o1 3 (.mov k0)]) (.block 1 (.loop zjcQ_l0))) (.seq (.region [
 o1 2 (.mov k0)]) .ret))))
def zjcQ : AFunc := ⟨61, [(2, none)], zjcQ_c, none⟩
theorem zjcQ_t0 : tableOf Tryz.prog 99 = some zjcQ := by kernel_rfl
theorem zjcQ_t : T0 99 = some zjcQ := withKept_t rfl (withTrue_t rfl zjcQ_t0)
theorem zjcQ_runs {v0 : Value} {h : Heap} {R : RP} {X : XP} (k : RunC Tryz.prog T0 zjcQ_c ⟨[v0, U, U, U, U, U, U, U, U, U, U, U, U, U, U, U, U, U, U, U, U, U, U, U, U, U, U, U, U, U, U, U, U, U, U, U, U, U, U, U, U, U, U, U, U, U, U, U, U, U, U, U, U, U, U, U, U, U, U, U, U], [], h, none⟩ (bodyQ Tryz.prog T0 [(2, none)] R X)) :
 Runs Tryz.prog T0 (.fn 99) [v0] h R X := Runs.fn zjcQ_t rfl k
def zjcQ_l0_J (f0 f1 f4 f5 f6 f7 f8 f9 f10 f11 f12 f13 f14 f15 f16 f17 : Value) (ds : List Deferred) (rd : Option Nat) (I : Nat → Value → Heap → Prop) (m : Nat) (s : St) : Prop := ∃ (v3 : Value), ∃ h : Heap, ∃ (x2 x18 x19 x20 x21 x22 x23 x24 x25 x26 x27 x28 x29 x30 x31 x32 x33 x34 x35 x36 x37 x38 x39 x40 x41 x42 x43 x44 x45 x46 x47 x48 x49 x50 x51 x52 x53 x54 x55 x56 x57 x58 x59 x60 : Value), s = ⟨[f0, f1, x2, v3, f4, f5, f6, f7, f8, f9, f10, f11, f12, f13, f14, f15, f16, f17, x18, x19, x20, x21, x22, x23, x24, x25, x26, x27, x28, x29, x30, x31, x32, x33, x34, x35, x36, x37, x38, x39, x40, x41, x42, x43, x44, x45, x46, x47, x48, x49, x50, x51, x52, x53, x54, x55, x56, x57, x58, x59, x60], ds, h, rd⟩ ∧ I m v3 h
theorem zjcQ_l0_rule {f0 f1 f4 f5 f6 f7 f8 f9 f10 f11 f12 f13 f14 f15 f16 f17 : Value} {ds : List Deferred} {rd : Option Nat} {Q : QP} (I : Nat → Value → Heap → Prop) (hb : ∀ (m : Nat) (v3 : Value) (h : Heap) (x2 x18 x19 x20 x21 x22 x23 x24 x25 x26 x27 x28 x29 x30 x31 x32 x33 x34 x35 x36 x37 x38 x39 x40 x41 x42 x43 x44 x45 x46 x47 x48 x49 x50 x51 x52 x53 x54 x55 x56 x57 x58 x59 x60 : Value) , I m v3 h → RunC Tryz.prog T0 zjcQ_l0 ⟨[f0, f1, x2, v3, f4, f5, f6, f7, f8, f9, f10, f11, f12, f13, f14, f15, f16, f17, x18, x19, x20, x21, x22, x23, x24, x25, x26, x27, x28, x29, x30, x31, x32, x33, x34, x35, x36, x37, x38, x39, x40, x41, x42, x43, x44, x45, x46, x47, x48, x49, x50, x51, x52, x53, x54, x55, x56, x57, x58, x59, x60], ds, h, rd⟩ (loopQ (zjcQ_l0_J f0 f1 f4 f5 f6 f7 f8 f9 f10 f11 f12 f13 f14 f15 f16 f17 ds rd I) m Q))
 (m : Nat) {v3 : Value} {h : Heap} {x2 x18 x19 x20 x21 x22 x23 x24 x25 x26 x27 x28 x29 x30 x31 x32 x33 x34 x35 x36 x37 x38 x39 x40 x41 x42 x43 x44 x45 x46 x47 x48 x49 x50 x51 x52 x53 x54 x55 x56 x57 x58 x59 x60 : Value} (hi : I m v3 h) : RunC Tryz.prog T0 (.loop zjcQ_l0) ⟨[f0, f1, x2, v3, f4, f5, f6, f7, f8, f9, f10, f11, f12, f13, f14, f15, f16, f17, x18, x19, x20, x21, x22, x23, x24, x25, x26, x27, x28, x29, x30, x31, x32, x33, x34, x35, x36, x37, x38, x39, x40, x41, x42, x43, x44, x45, x46, x47, x48, x49, x50, x51, x52, x53, x54, x55, x56, x57, x58, x59, x60], ds, h, rd⟩ Q :=
 RunC.loopJ (zjcQ_l0_J f0 f1 f4 f5 f6 f7 f8 f9 f10 f11 f12 f13 f14 f15 f16 f17 ds rd I) (fun m s hj => by obtain ⟨v3, h, x2, x18, x19, x20, x21, x22, x23, x24, x25, x26, x27, x28, x29, x30, x31, x32, x33, x34, x35, x36, x37, x38, x39, x40, x41, x42, x43, x44, x45, x46, x47, x48, x49, x50, x51, x52, x53, x54, x55, x56, x57, x58, x59, x60, rfl, hi⟩ := hj; exact hb m v3 h x2 x18 x19 x20 x21 x22 x23 x24 x25 x26 x27 x28 x29 x30 x31 x32 x33 x34 x35 x36 x37 x38 x39 x40 x41 x42 x43 x44 x45 x46 x47 x48 x49 x50 x51 x52 x53 x54 x55 x56 x57 x58 x59 x60 hi) m _ ⟨_, h, _, _, _, _, _, _, _, _, _, _, _, _, _, _, _, _, _, _, _, _, _, _, _, _, _, _, _, _, _, _, _, _, _, _, _, _, _, _, _, _, _, _, _, _, rfl, hi⟩
theorem zjcQ_l0_again {f0 f1 f4 f5 f6 f7 f8 f9 f10 f11 f12 f13 f14 f15 f16 f17 : Value} {ds : List Deferred} {rd : Option Nat} {Q : QP} {I : Nat → Value → Heap → Prop} {m : Nat} (m' : Nat) {v3 : Value} {h : Heap} {x2 x18 x19 x20 x21 x22 x23 x24 x25 x26 x27 x28 x29 x30 x31 x32 x33 x34 x35 x36 x37 x38 x39 x40 x41 x42 x43 x44 x45 x46 x47 x48 x49 x50 x51 x52 x53 x54 x55 x56 x57 x58 x59 x60 : Value} (hm : m' < m) (hi : I m' v3 h) : loopQ (zjcQ_l0_J f0 f1 f4 f5 f6 f7 f8 f9 f10 f11 f12 f13 f14 f15 f16 f17 ds rd I) m Q .normal ⟨[f0, f1, x2, v3, f4, f5, f6, f7, f8, f9, f10, f11, f12, f13, f14, f15, f16, f17, x18, x19, x20, x21, x22, x23, x24, x25, x26, x27, x28, x29, x30, x31, x32, x33, x34, x35, x36, x37, x38, x39, x40, x41, x42, x43, x44, x45, x46, x47, x48, x49, x50, x51, x52, x53, x54, x55, x56, x57, x58, x59, x60], ds, h, rd⟩ :=
 loopQ.again m' hm ⟨_, h, _, _, _, _, _, _, _, _, _, _, _, _, _, _, _, _, _, _, _, _, _, _, _, _, _, _, _, _, _, _, _, _, _, _, _, _, _, _, _, _, _, _, _, _, rfl, hi⟩
end Go.Proofs.YtbmpalbdbcjieaaGreat.A
