/- Contracts of functions, over the machine. -/
import Derived.Test.YtbmpalbdbcjieaaGreatQBlockMakes2
import Derived.Test.YtbmpalbdbcjieaaGreatRows
import Derived.Test.YtbmpalbdbcjieaaGreatVJ
noncomputable section
set_option maxRecDepth 100000
set_option linter.unusedVariables false
namespace Go.Proofs.YtbmpalbdbcjieaaGreat.A
open Go Go.Vm
abbrev ty_internal_abi_BoundsErrorCode : TypeId := 6
abbrev ty_runtime_boundsError : TypeId := 8
abbrev ty_runtime_errorString : TypeId := 10
abbrev ty_runtime_plainError : TypeId := 11
abbrev ty_runtime_errorAddressString : TypeId := 14
abbrev ty_internal_runtime_maps_unhashableTypeError : TypeId := 19
abbrev ty_api_Hash : TypeId := 23
abbrev ty_api_Header : TypeId := 25
abbrev ty_api_Commit : TypeId := 31
abbrev ty_api_Block : TypeId := 33
abbrev ty_api_Errno : TypeId := 34
abbrev ty_api_Fault : TypeId := 44
abbrev ty_api_Key : TypeId := 64
abbrev ty_api_Validator : TypeId := 66
abbrev ty_lr04_Reader : TypeId := 83
abbrev ty_iter_Seq_api_Errno_ : TypeId := 91
abbrev ty_api_Vote : TypeId := 109
abbrev ty_wire_Reader : TypeId := 115
abbrev ty_wire_Writer : TypeId := 137
abbrev ty_vals_look : TypeId := 143
abbrev ty_lr04_Writer : TypeId := 147
abbrev ty_header_rule : TypeId := 168
abbrev ty_blake_words : TypeId := 189
abbrev ty_blake_counter : TypeId := 193
abbrev ty_blake_State : TypeId := 195
abbrev ty_wire_wrong : TypeId := 203
abbrev ty_blake_four : TypeId := 211
abbrev ty_runtime_TypeAssertionError : TypeId := 222
abbrev ty_runtime_PanicNilError : TypeId := 225
abbrev ty_internal_abi_TFlag : TypeId := 226
abbrev ty_internal_abi_Kind : TypeId := 227
abbrev ty_internal_abi_NameOff : TypeId := 230
abbrev ty_internal_abi_TypeOff : TypeId := 231
abbrev ty_internal_abi_Type : TypeId := 233
instance : IsIface Tryz.prog 20 := ⟨by kernel_rfl⟩
abbrev prims : List FuncId := [7]
abbrev kepts : List FuncId := []
def T0 : Table := withKept (withTrue Tryz.prog prims) kepts
theorem zjbQ_known {h : Heap} : Runs Tryz.prog T0 (.fn 7) [] h (fun r h' => r = .bool true ∧ h' = h) (fun _ _ => False) := known_runs rfl
instance : IsBoolT Tryz.prog 4 := ⟨by kernel_rfl⟩
instance : TLeaves Tryz.prog 7 (.i .i64 :: (.i .i64 :: (.b :: (.i .u8 :: [])))) := ⟨by kernel_rfl, by kernel_rfl, by kernel_rfl⟩
instance : TLeaves Tryz.prog 8 (.i .i64 :: (.i .i64 :: (.b :: (.i .u8 :: [])))) := ⟨by kernel_rfl, by kernel_rfl, by kernel_rfl⟩
instance : TLeaves Tryz.prog 22 (u8s 32) := ⟨by kernel_rfl, by kernel_rfl, by kernel_rfl⟩
instance : TLeaves Tryz.prog 23 (u8s 32) := ⟨by kernel_rfl, by kernel_rfl, by kernel_rfl⟩
instance : TLeaves Tryz.prog 24 (.s :: (.i .i64 :: (.i .i64 :: (u8s 32 ++ (u8s 32 ++ (u8s 32 ++ (u8s 32))))))) := ⟨by kernel_rfl, by kernel_rfl, by kernel_rfl⟩
instance : TLeaves Tryz.prog 25 (.s :: (.i .i64 :: (.i .i64 :: (u8s 32 ++ (u8s 32 ++ (u8s 32 ++ (u8s 32))))))) := ⟨by kernel_rfl, by kernel_rfl, by kernel_rfl⟩
instance : TLeaves Tryz.prog 43 (.i .i64 :: (.i .i64 :: [])) := ⟨by kernel_rfl, by kernel_rfl, by kernel_rfl⟩
instance : TLeaves Tryz.prog 44 (.i .i64 :: (.i .i64 :: [])) := ⟨by kernel_rfl, by kernel_rfl, by kernel_rfl⟩
instance : TLeaves Tryz.prog 63 (u8s 4) := ⟨by kernel_rfl, by kernel_rfl, by kernel_rfl⟩
instance : TLeaves Tryz.prog 64 (u8s 4) := ⟨by kernel_rfl, by kernel_rfl, by kernel_rfl⟩
instance : TLeaves Tryz.prog 65 (u8s 4 ++ (.i .i64 :: [])) := ⟨by kernel_rfl, by kernel_rfl, by kernel_rfl⟩
instance : TLeaves Tryz.prog 66 (u8s 4 ++ (.i .i64 :: [])) := ⟨by kernel_rfl, by kernel_rfl, by kernel_rfl⟩
instance : TLeaves Tryz.prog 108 (.i .i64 :: (.i .u64 :: [])) := ⟨by kernel_rfl, by kernel_rfl, by kernel_rfl⟩
instance : TLeaves Tryz.prog 109 (.i .i64 :: (.i .u64 :: [])) := ⟨by kernel_rfl, by kernel_rfl, by kernel_rfl⟩
instance : TLeaves Tryz.prog 142 (u8s 4 ++ (.b :: (.i .i64 :: (.i .i64 :: [])))) := ⟨by kernel_rfl, by kernel_rfl, by kernel_rfl⟩
instance : TLeaves Tryz.prog 143 (u8s 4 ++ (.b :: (.i .i64 :: (.i .i64 :: [])))) := ⟨by kernel_rfl, by kernel_rfl, by kernel_rfl⟩
instance : TLeaves Tryz.prog 152 (.i .u32 :: (.i .u32 :: (.i .u32 :: (.i .u32 :: (.i .u32 :: (.i .u32 :: (.i .u32 :: (.i .u32 :: [])))))))) := ⟨by kernel_rfl, by kernel_rfl, by kernel_rfl⟩
instance : TLeaves Tryz.prog 181 (u8s 4 ++ (u8s 4)) := ⟨by kernel_rfl, by kernel_rfl, by kernel_rfl⟩
instance : TLeaves Tryz.prog 185 (u8s 4 ++ (u8s 4 ++ (.i .u8 :: []))) := ⟨by kernel_rfl, by kernel_rfl, by kernel_rfl⟩
instance : TLeaves Tryz.prog 189 (.i .u32 :: (.i .u32 :: (.i .u32 :: (.i .u32 :: (.i .u32 :: (.i .u32 :: (.i .u32 :: (.i .u32 :: [])))))))) := ⟨by kernel_rfl, by kernel_rfl, by kernel_rfl⟩
instance : TLeaves Tryz.prog 192 (.i .i64 :: []) := ⟨by kernel_rfl, by kernel_rfl, by kernel_rfl⟩
instance : TLeaves Tryz.prog 193 (.i .i64 :: []) := ⟨by kernel_rfl, by kernel_rfl, by kernel_rfl⟩
instance : TLeaves Tryz.prog 198 (.i .u32 :: (.i .u32 :: (.i .u32 :: (.i .u32 :: (.i .u32 :: (.i .u32 :: (.i .u32 :: (.i .u32 :: (.i .u32 :: (.i .u32 :: (.i .u32 :: (.i .u32 :: (.i .u32 :: (.i .u32 :: (.i .u32 :: (.i .u32 :: [])))))))))))))))) := ⟨by kernel_rfl, by kernel_rfl, by kernel_rfl⟩
instance : TLeaves Tryz.prog 199 (.i .i64 :: (.i .i64 :: (.i .i64 :: (.i .i64 :: (.i .i64 :: (.i .i64 :: (.i .i64 :: (.i .i64 :: (.i .i64 :: (.i .i64 :: (.i .i64 :: (.i .i64 :: (.i .i64 :: (.i .i64 :: (.i .i64 :: (.i .i64 :: [])))))))))))))))) := ⟨by kernel_rfl, by kernel_rfl, by kernel_rfl⟩
instance : TLeaves Tryz.prog 202 (.i .i64 :: (.i .i64 :: [])) := ⟨by kernel_rfl, by kernel_rfl, by kernel_rfl⟩
instance : TLeaves Tryz.prog 203 (.i .i64 :: (.i .i64 :: [])) := ⟨by kernel_rfl, by kernel_rfl, by kernel_rfl⟩
instance : TLeaves Tryz.prog 212 (.i .i64 :: (.i .i64 :: (.i .i64 :: (.i .i64 :: (.i .i64 :: (.i .i64 :: (.i .i64 :: (.i .i64 :: (.i .i64 :: (.i .i64 :: (.i .i64 :: (.i .i64 :: (.i .i64 :: (.i .i64 :: (.i .i64 :: (.i .i64 :: (.i .i64 :: (.i .i64 :: (.i .i64 :: (.i .i64 :: (.i .i64 :: (.i .i64 :: (.i .i64 :: (.i .i64 :: (.i .i64 :: (.i .i64 :: (.i .i64 :: (.i .i64 :: (.i .i64 :: (.i .i64 :: (.i .i64 :: (.i .i64 :: (.i .i64 :: (.i .i64 :: (.i .i64 :: (.i .i64 :: (.i .i64 :: (.i .i64 :: (.i .i64 :: (.i .i64 :: (.i .i64 :: (.i .i64 :: (.i .i64 :: (.i .i64 :: (.i .i64 :: (.i .i64 :: (.i .i64 :: (.i .i64 :: (.i .i64 :: (.i .i64 :: (.i .i64 :: (.i .i64 :: (.i .i64 :: (.i .i64 :: (.i .i64 :: (.i .i64 :: (.i .i64 :: (.i .i64 :: (.i .i64 :: (.i .i64 :: (.i .i64 :: (.i .i64 :: (.i .i64 :: (.i .i64 :: (.i .i64 :: (.i .i64 :: (.i .i64 :: (.i .i64 :: (.i .i64 :: (.i .i64 :: (.i .i64 :: (.i .i64 :: (.i .i64 :: (.i .i64 :: (.i .i64 :: (.i .i64 :: (.i .i64 :: (.i .i64 :: (.i .i64 :: (.i .i64 :: (.i .i64 :: (.i .i64 :: (.i .i64 :: (.i .i64 :: (.i .i64 :: (.i .i64 :: (.i .i64 :: (.i .i64 :: (.i .i64 :: (.i .i64 :: (.i .i64 :: (.i .i64 :: (.i .i64 :: (.i .i64 :: (.i .i64 :: (.i .i64 :: (.i .i64 :: (.i .i64 :: (.i .i64 :: (.i .i64 :: (.i .i64 :: (.i .i64 :: (.i .i64 :: (.i .i64 :: (.i .i64 :: (.i .i64 :: (.i .i64 :: (.i .i64 :: (.i .i64 :: (.i .i64 :: (.i .i64 :: (.i .i64 :: (.i .i64 :: (.i .i64 :: (.i .i64 :: (.i .i64 :: (.i .i64 :: (.i .i64 :: (.i .i64 :: (.i .i64 :: (.i .i64 :: (.i .i64 :: (.i .i64 :: (.i .i64 :: (.i .i64 :: (.i .i64 :: (.i .i64 :: (.i .i64 :: (.i .i64 :: (.i .i64 :: (.i .i64 :: (.i .i64 :: (.i .i64 :: (.i .i64 :: (.i .i64 :: (.i .i64 :: (.i .i64 :: (.i .i64 :: (.i .i64 :: (.i .i64 :: (.i .i64 :: (.i .i64 :: (.i .i64 :: (.i .i64 :: (.i .i64 :: (.i .i64 :: (.i .i64 :: (.i .i64 :: (.i .i64 :: (.i .i64 :: (.i .i64 :: (.i .i64 :: (.i .i64 :: (.i .i64 :: (.i .i64 :: (.i .i64 :: (.i .i64 :: (.i .i64 :: (.i .i64 :: (.i .i64 :: [])))))))))))))))))))))))))))))))))))))))))))))))))))))))))))))))))))))))))))))))))))))))))))))))))))))))))))))))))))))))))))))))))))))))))))))))))))))))))))))))) := ⟨by kernel_rfl, by kernel_rfl, by kernel_rfl⟩
abbrev fn_zibQ : FuncId := 3
def zibQ_c : ACode :=
 (.seq (.region [
 o1 2 (.box 25 (tm 0)),
 o1 4 (.mov (.const (.bool false)))]) (.seq (.seq (.region [
 o1 11 (.fieldAddr 0 (tm 2)),
 o1 12 (.load none (tm 11)),
 o1 13 (.lenStr (tm 12)),
 o1 14 (.bin .gtr (so (.binOp .gtr 3 (tm 13) (.const (.int .i64 60)) 3) 4) (tm 13) (.const (.int .i64 60))),
 o1 15 (.mov (tm 14)),
 o5 16 (.mov (tm 1)) 15,
 o5 17 (.lenSl (tm 16)) 15,
 o5 18 (.bin .gtr (so (.binOp .gtr 3 (tm 17) (.const (.int .i64 70)) 3) 4) (tm 17) (.const (.int .i64 70))) 15,
 o1 19 (.pick (tm 15) (.const (.bool true)) (tm 18))]) (.cond (tm 19)
 (.seq (.region [
 o1 20 (.callV (.func 7) []),
 o1 4 (.mov (tm 20))]) .ret)
 .skip)) (.seq (.region [
 o1 21 (.mov (tm 1)),
 o1 22 (.callV (.func 8) [(tm 21)]),
 o1 5 (.mov (tm 22))]) (.seq (.region [
 o1 24 (.load (some 131) (tm 2)),
 o1 25 (.mov (tm 5)),
 o1 26 (.callV (.func 9) [(tm 24), (tm 25)]),
 o1 23 (.mov (tm 26)),
 o1 27 (.extract 0 (tm 23)),
 o1 28 (.extract 1 (tm 23)),
 o1 6 (.alloc 33 ((.string ⟨⟨[]⟩⟩) :: ((.int .i64 0) :: ((.int .i64 0) :: (z32 ++ (z32 ++ (z32 ++ (z32 ++ ((.int .i64 0) :: (z32 ++ [(.slice none 0 0), (.slice none 0 0)])))))))))),
 o3 (.store 166 (tm 6) (tm 27)),
 o1 7 (.mov (tm 28))]) (.seq (.region [
 o1 30 (.load (some 131) (tm 2)),
 o1 31 (.mov (tm 1)),
 o1 32 (.callV (.func 10) [(tm 30), (tm 31)]),
 o1 29 (.mov (tm 32)),
 o1 33 (.extract 0 (tm 29)),
 o1 34 (.extract 1 (tm 29)),
 o1 8 (.alloc 33 ((.string ⟨⟨[]⟩⟩) :: ((.int .i64 0) :: ((.int .i64 0) :: (z32 ++ (z32 ++ (z32 ++ (z32 ++ ((.int .i64 0) :: (z32 ++ [(.slice none 0 0), (.slice none 0 0)])))))))))),
 o3 (.store 166 (tm 8) (tm 33)),
 o1 9 (.mov (tm 34))]) (.seq (.region [
 o1 35 (.load (some 166) (tm 6)),
 o1 36 (.load (some 166) (tm 8)),
 o1 37 (.callV (.func 11) [(tm 35), (tm 36)]),
 o1 38 (.mov (tm 37)),
 o4 39 (.mov (tm 7)) 38,
 o4 40 (.mov (tm 9)) 38,
 o4 41 (.bin .eql (so (.binOp .eql 34 (tm 39) (tm 40) 34) 4) (tm 39) (tm 40)) 38,
 o1 42 (.pick (tm 38) (tm 41) (.const (.bool false))),
 o1 10 (.mov (tm 42))]) (.seq (.region [
 o1 43 (.load (some 166) (tm 6)),
 o1 44 (.callV (.func 12) [(tm 43)])]) (.seq (.region [
 o1 45 (.mov (tm 10)),
 o1 46 (.mov (tm 45)),
 o4 47 (.mov (tm 5)) 46,
 o4 48 (.mov (tm 1)) 46,
 o4 49 (.callV (.func 13) [(tm 47), (tm 48)]) 46,
 o1 50 (.pick (tm 46) (tm 49) (.const (.bool false))),
 o1 51 (.mov (tm 50)),
 o4 52 (.callV (.func 7) []) 51,
 o1 53 (.pick (tm 51) (tm 52) (.const (.bool false))),
 o1 4 (.mov (tm 53))]) .ret))))))))
def zibQ : AFunc := ⟨54, [(4, none)], zibQ_c, none⟩
theorem zibQ_t0 : tableOf Tryz.prog 3 = some zibQ := by kernel_rfl
theorem zibQ_t : T0 3 = some zibQ := withKept_t rfl (withTrue_t rfl zibQ_t0)
theorem zibQ_runs {v0 v1 : Value} {h : Heap} {R : RP} {X : XP} (k : RunC Tryz.prog T0 zibQ_c ⟨[v0, v1, U, U, U, U, U, U, U, U, U, U, U, U, U, U, U, U, U, U, U, U, U, U, U, U, U, U, U, U, U, U, U, U, U, U, U, U, U, U, U, U, U, U, U, U, U, U, U, U, U, U, U, U], [], h, none⟩ (bodyQ Tryz.prog T0 [(4, none)] R X)) :
 Runs Tryz.prog T0 (.fn 3) [v0, v1] h R X := Runs.fn zibQ_t rfl k
abbrev fn_zabQ : FuncId := 8
def zabQ_c : ACode :=
 (.seq (.region [
 o1 2 (.mov (.const (.slice none 0 0)))]) (.seq (.region [
 o1 3 (.buildSlice 66 [] 0 []),
 o1 4 (.mov (tm 0)),
 o1 5 (.append 66 5 16 [(.int .u8 0), (.int .u8 0), (.int .u8 0), (.int .u8 0), (.int .i64 0)] false (tm 3) (tm 4)),
 o1 2 (.mov (tm 5))]) .ret))
def zabQ : AFunc := ⟨6, [(2, none)], zabQ_c, none⟩
theorem zabQ_t0 : tableOf Tryz.prog 8 = some zabQ := by kernel_rfl
theorem zabQ_t : T0 8 = some zabQ := withKept_t rfl (withTrue_t rfl zabQ_t0)
theorem zabQ_runs {v0 : Value} {h : Heap} {R : RP} {X : XP} (k : RunC Tryz.prog T0 zabQ_c ⟨[v0, U, U, U, U, U], [], h, none⟩ (bodyQ Tryz.prog T0 [(2, none)] R X)) :
 Runs Tryz.prog T0 (.fn 8) [v0] h R X := Runs.fn zabQ_t rfl k
abbrev fn_zlQ : FuncId := 9
def zlQ_c : ACode :=
 (.seq (.region [
 o1 2 (.box 25 (tm 0)),
 o1 4 (.alloc 33 ((.string ⟨⟨[]⟩⟩) :: ((.int .i64 0) :: ((.int .i64 0) :: (z32 ++ (z32 ++ (z32 ++ (z32 ++ ((.int .i64 0) :: (z32 ++ [(.slice none 0 0), (.slice none 0 0)])))))))))),
 o1 5 (.mov k0)]) (.seq (.region [
 o1 10 (.mov (tm 1)),
 o1 11 (.callV (.func 33) [(tm 10)]),
 o1 9 (.mov (tm 11)),
 o1 12 (.extract 0 (tm 9)),
 o1 13 (.extract 1 (tm 9)),
 o1 6 (.alloc 23 z32),
 o3 (.store 32 (tm 6) (tm 12)),
 o1 7 (.mov (tm 13))]) (.seq (.seq (.region [
 o1 14 (.mov (tm 7)),
 o1 15 (.bin .neq (so (.binOp .neq 34 (tm 14) k0 34) 4) (tm 14) k0)]) (.cond (tm 15)
 (.seq (.region [
 o1 16 (.build ((.string ⟨⟨[]⟩⟩) :: ((.int .i64 0) :: ((.int .i64 0) :: (z32 ++ (z32 ++ (z32 ++ (z32 ++ ((.int .i64 0) :: (z32 ++ [(.slice none 0 0), (.slice none 0 0)]))))))))) []),
 o1 17 (.mov (tm 7)),
 o3 (.store 166 (tm 4) (tm 16)),
 o1 5 (.mov (tm 17))]) .ret)
 .skip)) (.seq (.region [
 o1 18 (.load (some 32) (tm 6)),
 o1 19 (.fieldAddr 35 (tm 2)),
 o3 (.store 32 (tm 19) (tm 18))]) (.seq (.region [
 o1 21 (.load (some 131) (tm 2)),
 o1 22 (.callV (.func 34) [(tm 21)]),
 o1 20 (.mov (tm 22)),
 o1 23 (.extract 0 (tm 20)),
 o1 24 (.extract 1 (tm 20)),
 o1 8 (.alloc 23 z32),
 o3 (.store 32 (tm 8) (tm 23)),
 o1 7 (.mov (tm 24))]) (.seq (.seq (.region [
 o1 25 (.mov (tm 7)),
 o1 26 (.bin .neq (so (.binOp .neq 34 (tm 25) k0 34) 4) (tm 25) k0)]) (.cond (tm 26)
 (.seq (.region [
 o1 27 (.build ((.string ⟨⟨[]⟩⟩) :: ((.int .i64 0) :: ((.int .i64 0) :: (z32 ++ (z32 ++ (z32 ++ (z32 ++ ((.int .i64 0) :: (z32 ++ [(.slice none 0 0), (.slice none 0 0)]))))))))) []),
 o1 28 (.mov (tm 7)),
 o3 (.store 166 (tm 4) (tm 27)),
 o1 5 (.mov (tm 28))]) .ret)
 .skip)) (.seq (.regionD [
 o1 29 (.load (some 131) (tm 2)),
 o1 30 (.mov (tm 1)),
 o1 32 (.fieldAddr 1 (tm 2)),
 o1 33 (.load none (tm 32)),
 o1 34 (.load (some 32) (tm 8)),
 o1 35 (.build ((.int .i64 0) :: (z32 ++ [(.slice none 0 0)])) [(0, 1, (tm 33)), (1, 32, (tm 34))]),
 ⟨some 31, .callV (.func 35) [(tm 30)], none, [(some 35, .build ((.int .i64 0) :: (z32 ++ [(.slice none 0 0)])) [(0, 1, (tm 33)), (1, 32, (tm 34))], none), (some 34, .load (some 32) (tm 8), none), (some 33, .load none (tm 32), none), (some 32, .fieldAddr 1 (tm 2), none), (some 29, .load (some 131) (tm 2), none)], false⟩,
 o2 36 (.build ((.string ⟨⟨[]⟩⟩) :: ((.int .i64 0) :: ((.int .i64 0) :: (z32 ++ (z32 ++ (z32 ++ (z32 ++ ((.int .i64 0) :: (z32 ++ [(.slice none 0 0), (.slice none 0 0)]))))))))) [(0, 131, (tm 29)), (165, 1, (tm 31)), (131, 34, (tm 35))]),
 ⟨none, .store 166 (tm 4) (tm 36), none, [], true⟩,
 o2 5 (.mov k0)]) .ret)))))))
def zlQ : AFunc := ⟨37, [(4, some (some 166)), (5, none)], zlQ_c, none⟩
theorem zlQ_t0 : tableOf Tryz.prog 9 = some zlQ := by kernel_rfl
theorem zlQ_t : T0 9 = some zlQ := withKept_t rfl (withTrue_t rfl zlQ_t0)
theorem zlQ_runs {v0 v1 : Value} {h : Heap} {R : RP} {X : XP} (k : RunC Tryz.prog T0 zlQ_c ⟨[v0, v1, U, U, U, U, U, U, U, U, U, U, U, U, U, U, U, U, U, U, U, U, U, U, U, U, U, U, U, U, U, U, U, U, U, U, U], [], h, none⟩ (bodyQ Tryz.prog T0 [(4, some (some 166)), (5, none)] R X)) :
 Runs Tryz.prog T0 (.fn 9) [v0, v1] h R X := Runs.fn zlQ_t rfl k
abbrev fn_zicQ : FuncId := 10
def zicQ_c : ACode :=
 (.seq (.region [
 o1 2 (.box 25 (tm 0)),
 o1 4 (.alloc 33 ((.string ⟨⟨[]⟩⟩) :: ((.int .i64 0) :: ((.int .i64 0) :: (z32 ++ (z32 ++ (z32 ++ (z32 ++ ((.int .i64 0) :: (z32 ++ [(.slice none 0 0), (.slice none 0 0)])))))))))),
 o1 5 (.mov k0)]) (.seq (.region [
 o1 11 (.mov (tm 1)),
 o1 12 (.callV (.func 36) [(tm 11)]),
 o1 10 (.mov (tm 12)),
 o1 13 (.extract 0 (tm 10)),
 o1 14 (.extract 1 (tm 10)),
 o1 6 (.alloc 23 z32),
 o3 (.store 32 (tm 6) (tm 13)),
 o1 7 (.mov (tm 14))]) (.seq (.seq (.region [
 o1 15 (.mov (tm 7)),
 o1 16 (.bin .neq (so (.binOp .neq 34 (tm 15) k0 34) 4) (tm 15) k0)]) (.cond (tm 16)
 (.seq (.region [
 o1 17 (.build ((.string ⟨⟨[]⟩⟩) :: ((.int .i64 0) :: ((.int .i64 0) :: (z32 ++ (z32 ++ (z32 ++ (z32 ++ ((.int .i64 0) :: (z32 ++ [(.slice none 0 0), (.slice none 0 0)]))))))))) []),
 o1 18 (.mov (tm 7)),
 o3 (.store 166 (tm 4) (tm 17)),
 o1 5 (.mov (tm 18))]) .ret)
 .skip)) (.seq (.region [
 o1 19 (.load (some 32) (tm 6)),
 o1 20 (.fieldAddr 35 (tm 2)),
 o3 (.store 32 (tm 20) (tm 19))]) (.seq (.region [
 o1 22 (.load (some 131) (tm 2)),
 o1 23 (.callV (.func 37) [(tm 22)]),
 o1 21 (.mov (tm 23)),
 o1 24 (.extract 0 (tm 21)),
 o1 25 (.extract 1 (tm 21)),
 o1 8 (.alloc 23 z32),
 o3 (.store 32 (tm 8) (tm 24)),
 o1 9 (.mov (tm 25))]) (.seq (.seq (.region [
 o1 26 (.mov (tm 9)),
 o1 27 (.bin .neq (so (.binOp .neq 34 (tm 26) k0 34) 4) (tm 26) k0)]) (.cond (tm 27)
 (.seq (.region [
 o1 28 (.build ((.string ⟨⟨[]⟩⟩) :: ((.int .i64 0) :: ((.int .i64 0) :: (z32 ++ (z32 ++ (z32 ++ (z32 ++ ((.int .i64 0) :: (z32 ++ [(.slice none 0 0), (.slice none 0 0)]))))))))) []),
 o1 29 (.mov (tm 9)),
 o3 (.store 166 (tm 4) (tm 28)),
 o1 5 (.mov (tm 29))]) .ret)
 .skip)) (.seq (.regionD [
 o1 30 (.load (some 131) (tm 2)),
 o1 31 (.mov (tm 1)),
 o1 33 (.fieldAddr 1 (tm 2)),
 o1 34 (.load none (tm 33)),
 o1 35 (.load (some 32) (tm 8)),
 o1 36 (.build ((.int .i64 0) :: (z32 ++ [(.slice none 0 0)])) [(0, 1, (tm 34)), (1, 32, (tm 35))]),
 ⟨some 32, .callV (.func 8) [(tm 31)], none, [(some 36, .build ((.int .i64 0) :: (z32 ++ [(.slice none 0 0)])) [(0, 1, (tm 34)), (1, 32, (tm 35))], none), (some 35, .load (some 32) (tm 8), none), (some 34, .load none (tm 33), none), (some 33, .fieldAddr 1 (tm 2), none), (some 30, .load (some 131) (tm 2), none)], false⟩,
 o2 37 (.build ((.string ⟨⟨[]⟩⟩) :: ((.int .i64 0) :: ((.int .i64 0) :: (z32 ++ (z32 ++ (z32 ++ (z32 ++ ((.int .i64 0) :: (z32 ++ [(.slice none 0 0), (.slice none 0 0)]))))))))) [(0, 131, (tm 30)), (165, 1, (tm 32)), (131, 34, (tm 36))]),
 ⟨none, .store 166 (tm 4) (tm 37), none, [], true⟩,
 o2 5 (.mov k0)]) .ret)))))))
def zicQ : AFunc := ⟨38, [(4, some (some 166)), (5, none)], zicQ_c, none⟩
theorem zicQ_t0 : tableOf Tryz.prog 10 = some zicQ := by kernel_rfl
theorem zicQ_t : T0 10 = some zicQ := withKept_t rfl (withTrue_t rfl zicQ_t0)
theorem zicQ_runs {v0 v1 : Value} {h : Heap} {R : RP} {X : XP} (k : RunC Tryz.prog T0 zicQ_c ⟨[v0, v1, U, U, U, U, U, U, U, U, U, U, U, U, U, U, U, U, U, U, U, U, U, U, U, U, U, U, U, U, U, U, U, U, U, U, U, U], [], h, none⟩ (bodyQ Tryz.prog T0 [(4, some (some 166)), (5, none)] R X)) :
 Runs Tryz.prog T0 (.fn 10) [v0, v1] h R X := Runs.fn zicQ_t rfl k
abbrev fn_zebQ : FuncId := 11
def zebQ_c : ACode :=
 (.seq (.region [
 o1 2 (.box 33 (tm 0)),
 o1 3 (.box 33 (tm 1)),
 o1 4 (.mov (.const (.bool false)))]) (.seq (.region [
 o1 5 (.fieldAddr 0 (tm 2)),
 o1 6 (.load (some 131) (tm 5)),
 o1 7 (.fieldAddr 0 (tm 3)),
 o1 8 (.load (some 131) (tm 7)),
 o1 9 (.bin .eql (so (.binOp .eql 25 (tm 6) (tm 8) 25) 4) (tm 6) (tm 8)),
 o1 10 (.mov (tm 9)),
 o4 11 (.fieldAddr 131 (tm 2)) 10,
 o4 12 (.load (some 34) (tm 11)) 10,
 o4 13 (.fieldAddr 131 (tm 3)) 10,
 o4 14 (.load (some 34) (tm 13)) 10,
 o4 15 (.callV (.func 38) [(tm 12), (tm 14)]) 10,
 o1 16 (.pick (tm 10) (tm 15) (.const (.bool false))),
 o1 17 (.mov (tm 16)),
 o4 18 (.fieldAddr 165 (tm 2)) 17,
 o4 19 (.load none (tm 18)) 17,
 o4 20 (.fieldAddr 165 (tm 3)) 17,
 o4 21 (.load none (tm 20)) 17,
 o4 22 (.callV (.func 13) [(tm 19), (tm 21)]) 17,
 o1 23 (.pick (tm 17) (tm 22) (.const (.bool false))),
 o1 4 (.mov (tm 23))]) .ret))
def zebQ : AFunc := ⟨24, [(4, none)], zebQ_c, none⟩
theorem zebQ_t0 : tableOf Tryz.prog 11 = some zebQ := by kernel_rfl
theorem zebQ_t : T0 11 = some zebQ := withKept_t rfl (withTrue_t rfl zebQ_t0)
theorem zebQ_runs {v0 v1 : Value} {h : Heap} {R : RP} {X : XP} (k : RunC Tryz.prog T0 zebQ_c ⟨[v0, v1, U, U, U, U, U, U, U, U, U, U, U, U, U, U, U, U, U, U, U, U, U, U], [], h, none⟩ (bodyQ Tryz.prog T0 [(4, none)] R X)) :
 Runs Tryz.prog T0 (.fn 11) [v0, v1] h R X := Runs.fn zebQ_t rfl k
abbrev fn_zbbQ : FuncId := 12
def zbbQ_c : ACode :=
 (.seq (.region [
 o1 1 (.box 33 (tm 0))]) (.seq (.region [
 o1 2 (.fieldAddr 165 (tm 1)),
 o1 3 (.load none (tm 2)),
 o1 4 (.callV (.func 39) [(tm 3)])]) (.region [
 o1 5 (.fieldAddr 131 (tm 1)),
 o1 6 (.load (some 34) (tm 5)),
 o1 7 (.callV (.func 40) [(tm 6)])])))
def zbbQ : AFunc := ⟨8, [], zbbQ_c, none⟩
theorem zbbQ_t0 : tableOf Tryz.prog 12 = some zbbQ := by kernel_rfl
theorem zbbQ_t : T0 12 = some zbbQ := withKept_t rfl (withTrue_t rfl zbbQ_t0)
theorem zbbQ_runs {v0 : Value} {h : Heap} {R : RP} {X : XP} (k : RunC Tryz.prog T0 zbbQ_c ⟨[v0, U, U, U, U, U, U, U], [], h, none⟩ (bodyQ Tryz.prog T0 [] R X)) :
 Runs Tryz.prog T0 (.fn 12) [v0] h R X := Runs.fn zbbQ_t rfl k
abbrev fn_zgbQ : FuncId := 13
def zgbQ_l0 : ACode :=
 (.seq (.seq (.region [
 o1 12 (.mov (tm 5)),
 o1 13 (.mov (tm 12)),
 o4 14 (.mov (tm 6)) 13,
 o4 15 (.mov (tm 0)) 13,
 o4 16 (.lenSl (tm 15)) 13,
 o4 17 (.bin .lss (so (.binOp .lss 3 (tm 14) (tm 16) 3) 4) (tm 14) (tm 16)) 13,
 o1 18 (.pick (tm 13) (tm 17) (.const (.bool false)))]) (.cond (tm 18)
 .skip
 (.exit 0))) (.seq (.block 1 (.regionD [
 o1 21 (.mov (tm 0)),
 o1 22 (.mov (tm 6)),
 o1 23 (.indexSl 5 (tm 21) (tm 22)),
 o1 24 (.load (some 5) (tm 23)),
 o1 25 (.mov (tm 1)),
 o1 26 (.mov (tm 6)),
 o1 27 (.indexSl 5 (tm 25) (tm 26)),
 o1 28 (.load (some 5) (tm 27)),
 o2 29 (.bin .eql (so (.binOp .eql 66 (tm 24) (tm 28) 66) 4) (tm 24) (tm 28)),
 o2 5 (.mov (tm 29))])) (.region [
 o1 19 (.mov (tm 6)),
 o1 20 (.bin .add (so (.binOp .add 3 (tm 19) (.const (.int .i64 1)) 3) 3) (tm 19) (.const (.int .i64 1))),
 o1 6 (.mov (tm 20))])))
def zgbQ_c : ACode :=
 (.seq (.region [
 o1 4 (.mov (.const (.bool false)))]) (.seq (.region [
 o1 7 (.mov (tm 0)),
 o1 8 (.lenSl (tm 7)),
 o1 9 (.mov (tm 1)),
 o1 10 (.lenSl (tm 9)),
 o1 11 (.bin .eql (so (.binOp .eql 3 (tm 8) (tm 10) 3) 4) (tm 8) (tm 10)),
 o1 5 (.mov (tm 11))]) (.seq (.seq (.region [
 o1 6 (.mov k0)]) (.block 0 (.loop zgbQ_l0))) (.seq (.region [
 o1 30 (.mov (tm 5)),
 o1 4 (.mov (tm 30))]) .ret))))
def zgbQ : AFunc := ⟨31, [(4, none)], zgbQ_c, none⟩
theorem zgbQ_t0 : tableOf Tryz.prog 13 = some zgbQ := by kernel_rfl
theorem zgbQ_t : T0 13 = some zgbQ := withKept_t rfl (withTrue_t rfl zgbQ_t0)
theorem zgbQ_runs {v0 v1 : Value} {h : Heap} {R : RP} {X : XP} (k : RunC Tryz.prog T0 zgbQ_c ⟨[v0, v1, U, U, U, U, U, U, U, U, U, U, U, U, U, U, U, U, U, U, U, U, U, U, U, U, U, U, U, U, U], [], h, none⟩ (bodyQ Tryz.prog T0 [(4, none)] R X)) :
 Runs Tryz.prog T0 (.fn 13) [v0, v1] h R X := Runs.fn zgbQ_t rfl k
def zgbQ_l0_J (f0 f1 f2 f3 f4 f7 f8 f9 f10 f11 f30 : Value) (ds : List Deferred) (rd : Option Nat) (I : Nat → Value → Value → Heap → Prop) (m : Nat) (s : St) : Prop := ∃ (v5 v6 : Value), ∃ h : Heap, ∃ (x12 x13 x14 x15 x16 x17 x18 x19 x20 x21 x22 x23 x24 x25 x26 x27 x28 x29 : Value), s = ⟨[f0, f1, f2, f3, f4, v5, v6, f7, f8, f9, f10, f11, x12, x13, x14, x15, x16, x17, x18, x19, x20, x21, x22, x23, x24, x25, x26, x27, x28, x29, f30], ds, h, rd⟩ ∧ I m v5 v6 h
theorem zgbQ_l0_rule {f0 f1 f2 f3 f4 f7 f8 f9 f10 f11 f30 : Value} {ds : List Deferred} {rd : Option Nat} {Q : QP} (I : Nat → Value → Value → Heap → Prop) (hb : ∀ (m : Nat) (v5 v6 : Value) (h : Heap) (x12 x13 x14 x15 x16 x17 x18 x19 x20 x21 x22 x23 x24 x25 x26 x27 x28 x29 : Value) , I m v5 v6 h → RunC Tryz.prog T0 zgbQ_l0 ⟨[f0, f1, f2, f3, f4, v5, v6, f7, f8, f9, f10, f11, x12, x13, x14, x15, x16, x17, x18, x19, x20, x21, x22, x23, x24, x25, x26, x27, x28, x29, f30], ds, h, rd⟩ (loopQ (zgbQ_l0_J f0 f1 f2 f3 f4 f7 f8 f9 f10 f11 f30 ds rd I) m Q))
 (m : Nat) {v5 v6 : Value} {h : Heap} {x12 x13 x14 x15 x16 x17 x18 x19 x20 x21 x22 x23 x24 x25 x26 x27 x28 x29 : Value} (hi : I m v5 v6 h) : RunC Tryz.prog T0 (.loop zgbQ_l0) ⟨[f0, f1, f2, f3, f4, v5, v6, f7, f8, f9, f10, f11, x12, x13, x14, x15, x16, x17, x18, x19, x20, x21, x22, x23, x24, x25, x26, x27, x28, x29, f30], ds, h, rd⟩ Q :=
 RunC.loopJ (zgbQ_l0_J f0 f1 f2 f3 f4 f7 f8 f9 f10 f11 f30 ds rd I) (fun m s hj => by obtain ⟨v5, v6, h, x12, x13, x14, x15, x16, x17, x18, x19, x20, x21, x22, x23, x24, x25, x26, x27, x28, x29, rfl, hi⟩ := hj; exact hb m v5 v6 h x12 x13 x14 x15 x16 x17 x18 x19 x20 x21 x22 x23 x24 x25 x26 x27 x28 x29 hi) m _ ⟨_, _, h, _, _, _, _, _, _, _, _, _, _, _, _, _, _, _, _, _, _, rfl, hi⟩
theorem zgbQ_l0_again {f0 f1 f2 f3 f4 f7 f8 f9 f10 f11 f30 : Value} {ds : List Deferred} {rd : Option Nat} {Q : QP} {I : Nat → Value → Value → Heap → Prop} {m : Nat} (m' : Nat) {v5 v6 : Value} {h : Heap} {x12 x13 x14 x15 x16 x17 x18 x19 x20 x21 x22 x23 x24 x25 x26 x27 x28 x29 : Value} (hm : m' < m) (hi : I m' v5 v6 h) : loopQ (zgbQ_l0_J f0 f1 f2 f3 f4 f7 f8 f9 f10 f11 f30 ds rd I) m Q .normal ⟨[f0, f1, f2, f3, f4, v5, v6, f7, f8, f9, f10, f11, x12, x13, x14, x15, x16, x17, x18, x19, x20, x21, x22, x23, x24, x25, x26, x27, x28, x29, f30], ds, h, rd⟩ :=
 loopQ.again m' hm ⟨_, _, h, _, _, _, _, _, _, _, _, _, _, _, _, _, _, _, _, _, _, rfl, hi⟩
abbrev fn_zscQ : FuncId := 23
def zscQ_l0 : ACode :=
 (.seq (.region [
 o1 25 (.bin .lss (so (.binOp .lss 3 (tm 24) (tm 23) 3) 0) (tm 24) (tm 23))]) (.seq (.cond (tm 25)
 .skip
 (.exit 0)) (.seq (.block 1 (.seq (.region [
 o1 26 (.indexSl 5 (tm 22) (tm 24)),
 o1 27 (.load (some 5) (tm 26)),
 o1 8 (.alloc 66 [(.int .u8 0), (.int .u8 0), (.int .u8 0), (.int .u8 0), (.int .i64 0)]),
 o3 (.store 5 (tm 8) (tm 27))]) (.seq (.region [
 o1 28 (.mov (tm 5)),
 o1 29 (.fieldAddr 0 (tm 8)),
 o1 30 (.load (some 4) (tm 29)),
 o1 31 (.callV (.func 67) [(tm 28), (tm 30)])]) (.region [
 o1 32 (.mov (tm 5)),
 o1 33 (.fieldAddr 4 (tm 8)),
 o1 34 (.load none (tm 33)),
 o1 35 (.callV (.func 66) [(tm 32), (tm 34)])])))) (.region [
 o1 36 (.bin .add (so (.binOp .add 3 (tm 24) (.const (.int .i64 1)) 3) 3) (tm 24) (.const (.int .i64 1))),
 o1 24 (.mov (tm 36))]))))
def zscQ_c : ACode :=
 (.seq (.region [
 o1 2 (.mov (.const (.slice none 0 0))),
 o1 3 (.mov k0)]) (.seq (.seq (.region [
 o1 9 (.mov (tm 0)),
 o1 10 (.callV (.func 65) [(tm 9)]),
 o1 4 (.mov (tm 10))]) (.seq (.region [
 o1 11 (.mov (tm 4)),
 o1 12 (.bin .neq (so (.binOp .neq 34 (tm 11) k0 34) 4) (tm 11) k0)]) (.cond (tm 12)
 (.seq (.region [
 o1 13 (.mov (tm 4)),
 o1 2 (.mov (.const (.slice none 0 0))),
 o1 3 (.mov (tm 13))]) .ret)
 .skip))) (.seq (.region [
 o1 15 (.callV (.func 60) [(.const (.int .i64 1048576))]),
 o1 14 (.mov (tm 15)),
 o1 16 (.extract 0 (tm 14)),
 o1 17 (.extract 1 (tm 14)),
 o1 5 (.mov (tm 16)),
 o1 6 (.mov (tm 17))]) (.seq (.region [
 o1 18 (.mov (tm 5)),
 o1 19 (.mov (tm 0)),
 o1 20 (.lenSl (tm 19)),
 o1 21 (.callV (.func 66) [(tm 18), (tm 20)])]) (.seq (.seq (.region [
 o1 22 (.mov (tm 0)),
 o1 23 (.lenSl (tm 22)),
 o1 24 (.mov k0)]) (.block 0 (.loop zscQ_l0))) (.seq (.region [
 o1 37 (.mov (tm 5)),
 o1 38 (.callV (.func 64) [(tm 37)]),
 o1 39 (.extract 0 (tm 38)),
 o1 40 (.extract 1 (tm 38)),
 o1 2 (.mov (tm 39)),
 o1 3 (.mov (tm 40))]) .ret))))))
def zscQ : AFunc := ⟨41, [(2, none), (3, none)], zscQ_c, none⟩
theorem zscQ_t0 : tableOf Tryz.prog 23 = some zscQ := by kernel_rfl
theorem zscQ_t : T0 23 = some zscQ := withKept_t rfl (withTrue_t rfl zscQ_t0)
theorem zscQ_runs {v0 : Value} {h : Heap} {R : RP} {X : XP} (k : RunC Tryz.prog T0 zscQ_c ⟨[v0, U, U, U, U, U, U, U, U, U, U, U, U, U, U, U, U, U, U, U, U, U, U, U, U, U, U, U, U, U, U, U, U, U, U, U, U, U, U, U, U], [], h, none⟩ (bodyQ Tryz.prog T0 [(2, none), (3, none)] R X)) :
 Runs Tryz.prog T0 (.fn 23) [v0] h R X := Runs.fn zscQ_t rfl k
def zscQ_l0_J (f0 f1 f2 f3 f4 f5 f6 f7 f9 f10 f11 f12 f13 f14 f15 f16 f17 f18 f19 f20 f21 f22 f23 f37 f38 f39 f40 : Value) (ds : List Deferred) (rd : Option Nat) (I : Nat → Value → Heap → Prop) (m : Nat) (s : St) : Prop := ∃ (v24 : Value), ∃ h : Heap, ∃ (x8 x25 x26 x27 x28 x29 x30 x31 x32 x33 x34 x35 x36 : Value), s = ⟨[f0, f1, f2, f3, f4, f5, f6, f7, x8, f9, f10, f11, f12, f13, f14, f15, f16, f17, f18, f19, f20, f21, f22, f23, v24, x25, x26, x27, x28, x29, x30, x31, x32, x33, x34, x35, x36, f37, f38, f39, f40], ds, h, rd⟩ ∧ I m v24 h
theorem zscQ_l0_rule {f0 f1 f2 f3 f4 f5 f6 f7 f9 f10 f11 f12 f13 f14 f15 f16 f17 f18 f19 f20 f21 f22 f23 f37 f38 f39 f40 : Value} {ds : List Deferred} {rd : Option Nat} {Q : QP} (I : Nat → Value → Heap → Prop) (hb : ∀ (m : Nat) (v24 : Value) (h : Heap) (x8 x25 x26 x27 x28 x29 x30 x31 x32 x33 x34 x35 x36 : Value) , I m v24 h → RunC Tryz.prog T0 zscQ_l0 ⟨[f0, f1, f2, f3, f4, f5, f6, f7, x8, f9, f10, f11, f12, f13, f14, f15, f16, f17, f18, f19, f20, f21, f22, f23, v24, x25, x26, x27, x28, x29, x30, x31, x32, x33, x34, x35, x36, f37, f38, f39, f40], ds, h, rd⟩ (loopQ (zscQ_l0_J f0 f1 f2 f3 f4 f5 f6 f7 f9 f10 f11 f12 f13 f14 f15 f16 f17 f18 f19 f20 f21 f22 f23 f37 f38 f39 f40 ds rd I) m Q))
 (m : Nat) {v24 : Value} {h : Heap} {x8 x25 x26 x27 x28 x29 x30 x31 x32 x33 x34 x35 x36 : Value} (hi : I m v24 h) : RunC Tryz.prog T0 (.loop zscQ_l0) ⟨[f0, f1, f2, f3, f4, f5, f6, f7, x8, f9, f10, f11, f12, f13, f14, f15, f16, f17, f18, f19, f20, f21, f22, f23, v24, x25, x26, x27, x28, x29, x30, x31, x32, x33, x34, x35, x36, f37, f38, f39, f40], ds, h, rd⟩ Q :=
 RunC.loopJ (zscQ_l0_J f0 f1 f2 f3 f4 f5 f6 f7 f9 f10 f11 f12 f13 f14 f15 f16 f17 f18 f19 f20 f21 f22 f23 f37 f38 f39 f40 ds rd I) (fun m s hj => by obtain ⟨v24, h, x8, x25, x26, x27, x28, x29, x30, x31, x32, x33, x34, x35, x36, rfl, hi⟩ := hj; exact hb m v24 h x8 x25 x26 x27 x28 x29 x30 x31 x32 x33 x34 x35 x36 hi) m _ ⟨_, h, _, _, _, _, _, _, _, _, _, _, _, _, _, rfl, hi⟩
theorem zscQ_l0_again {f0 f1 f2 f3 f4 f5 f6 f7 f9 f10 f11 f12 f13 f14 f15 f16 f17 f18 f19 f20 f21 f22 f23 f37 f38 f39 f40 : Value} {ds : List Deferred} {rd : Option Nat} {Q : QP} {I : Nat → Value → Heap → Prop} {m : Nat} (m' : Nat) {v24 : Value} {h : Heap} {x8 x25 x26 x27 x28 x29 x30 x31 x32 x33 x34 x35 x36 : Value} (hm : m' < m) (hi : I m' v24 h) : loopQ (zscQ_l0_J f0 f1 f2 f3 f4 f5 f6 f7 f9 f10 f11 f12 f13 f14 f15 f16 f17 f18 f19 f20 f21 f22 f23 f37 f38 f39 f40 ds rd I) m Q .normal ⟨[f0, f1, f2, f3, f4, f5, f6, f7, x8, f9, f10, f11, f12, f13, f14, f15, f16, f17, f18, f19, f20, f21, f22, f23, v24, x25, x26, x27, x28, x29, x30, x31, x32, x33, x34, x35, x36, f37, f38, f39, f40], ds, h, rd⟩ :=
 loopQ.again m' hm ⟨_, h, _, _, _, _, _, _, _, _, _, _, _, _, _, rfl, hi⟩
abbrev fn_ztcQ : FuncId := 33
def ztcQ_c : ACode :=
 (.seq (.region [
 o1 2 (.alloc 23 z32),
 o1 3 (.mov k0)]) (.seq (.region [
 o1 7 (.mov (tm 0)),
 o1 8 (.callV (.func 23) [(tm 7)]),
 o1 6 (.mov (tm 8)),
 o1 9 (.extract 0 (tm 6)),
 o1 10 (.extract 1 (tm 6)),
 o1 4 (.mov (tm 9)),
 o1 5 (.mov (tm 10))]) (.seq (.seq (.region [
 o1 11 (.mov (tm 5)),
 o1 12 (.bin .neq (so (.binOp .neq 34 (tm 11) k0 34) 4) (tm 11) k0)]) (.cond (tm 12)
 (.seq (.region [
 o1 13 (.build z32 []),
 o1 14 (.mov (tm 5)),
 o3 (.store 32 (tm 2) (tm 13)),
 o1 3 (.mov (tm 14))]) .ret)
 .skip)) (.seq (.region [
 o1 15 (.mov (tm 4)),
 o1 16 (.callV (.func 77) [(tm 15)]),
 o3 (.store 32 (tm 2) (tm 16)),
 o1 3 (.mov k0)]) .ret))))
def ztcQ : AFunc := ⟨17, [(2, some (some 32)), (3, none)], ztcQ_c, none⟩
theorem ztcQ_t0 : tableOf Tryz.prog 33 = some ztcQ := by kernel_rfl
theorem ztcQ_t : T0 33 = some ztcQ := withKept_t rfl (withTrue_t rfl ztcQ_t0)
theorem ztcQ_runs {v0 : Value} {h : Heap} {R : RP} {X : XP} (k : RunC Tryz.prog T0 ztcQ_c ⟨[v0, U, U, U, U, U, U, U, U, U, U, U, U, U, U, U, U], [], h, none⟩ (bodyQ Tryz.prog T0 [(2, some (some 32)), (3, none)] R X)) :
 Runs Tryz.prog T0 (.fn 33) [v0] h R X := Runs.fn ztcQ_t rfl k
abbrev fn_zpQ : FuncId := 34
def zpQ_c : ACode :=
 (.seq (.region [
 o1 1 (.box 25 (tm 0)),
 o1 2 (.alloc 23 z32),
 o1 3 (.mov k0)]) (.seq (.region [
 o1 7 (.load (some 131) (tm 1)),
 o1 8 (.callV (.func 61) [(tm 7)]),
 o1 6 (.mov (tm 8)),
 o1 9 (.extract 0 (tm 6)),
 o1 10 (.extract 1 (tm 6)),
 o1 4 (.mov (tm 9)),
 o1 5 (.mov (tm 10))]) (.seq (.seq (.region [
 o1 11 (.mov (tm 5)),
 o1 12 (.bin .neq (so (.binOp .neq 34 (tm 11) k0 34) 4) (tm 11) k0)]) (.cond (tm 12)
 (.seq (.region [
 o1 13 (.build z32 []),
 o1 14 (.mov (tm 5)),
 o3 (.store 32 (tm 2) (tm 13)),
 o1 3 (.mov (tm 14))]) .ret)
 .skip)) (.seq (.region [
 o1 15 (.buildSlice 5 [(.int .u8 0)] 1 [(0, 1, (.const (.int .u8 72)))]),
 o1 16 (.mov (tm 4)),
 o1 17 (.append 5 1 1 [(.int .u8 0)] false (tm 15) (tm 16)),
 o1 18 (.callV (.func 77) [(tm 17)]),
 o3 (.store 32 (tm 2) (tm 18)),
 o1 3 (.mov k0)]) .ret))))
def zpQ : AFunc := ⟨19, [(2, some (some 32)), (3, none)], zpQ_c, none⟩
theorem zpQ_t0 : tableOf Tryz.prog 34 = some zpQ := by kernel_rfl
theorem zpQ_t : T0 34 = some zpQ := withKept_t rfl (withTrue_t rfl zpQ_t0)
theorem zpQ_runs {v0 : Value} {h : Heap} {R : RP} {X : XP} (k : RunC Tryz.prog T0 zpQ_c ⟨[v0, U, U, U, U, U, U, U, U, U, U, U, U, U, U, U, U, U, U], [], h, none⟩ (bodyQ Tryz.prog T0 [(2, some (some 32)), (3, none)] R X)) :
 Runs Tryz.prog T0 (.fn 34) [v0] h R X := Runs.fn zpQ_t rfl k
abbrev fn_zkcQ : FuncId := 35
def zkcQ_c : ACode :=
 (.seq (.region [
 o1 2 (.mov (.const (.slice none 0 0)))]) (.seq (.seq (.region [
 o1 3 (.mov (tm 0)),
 o1 4 (.eq .slice false (so (.binOp .eql 26 (tm 3) (.const (.slice none 0 0)) 26) 4) (tm 3) (.const (.slice none 0 0)))]) (.cond (tm 4)
 (.seq (.region [
 o1 2 (.mov (.const (.slice none 0 0)))]) .ret)
 .skip)) (.seq (.region [
 o1 5 (.buildSlice 66 [] 0 []),
 o1 6 (.mov (tm 0)),
 o1 7 (.append 66 5 16 [(.int .u8 0), (.int .u8 0), (.int .u8 0), (.int .u8 0), (.int .i64 0)] false (tm 5) (tm 6)),
 o1 2 (.mov (tm 7))]) .ret)))
def zkcQ : AFunc := ⟨8, [(2, none)], zkcQ_c, none⟩
theorem zkcQ_t0 : tableOf Tryz.prog 35 = some zkcQ := by kernel_rfl
theorem zkcQ_t : T0 35 = some zkcQ := withKept_t rfl (withTrue_t rfl zkcQ_t0)
theorem zkcQ_runs {v0 : Value} {h : Heap} {R : RP} {X : XP} (k : RunC Tryz.prog T0 zkcQ_c ⟨[v0, U, U, U, U, U, U, U], [], h, none⟩ (bodyQ Tryz.prog T0 [(2, none)] R X)) :
 Runs Tryz.prog T0 (.fn 35) [v0] h R X := Runs.fn zkcQ_t rfl k
abbrev fn_zbcQ : FuncId := 36
def zbcQ_c : ACode :=
 (.seq (.region [
 o1 2 (.alloc 23 z32),
 o1 3 (.mov k0)]) (.seq (.region [
 o1 7 (.mov (tm 0)),
 o1 8 (.callV (.func 73) [(tm 7)]),
 o1 6 (.mov (tm 8)),
 o1 9 (.extract 0 (tm 6)),
 o1 10 (.extract 1 (tm 6)),
 o1 4 (.mov (tm 9)),
 o1 5 (.mov (tm 10))]) (.seq (.seq (.region [
 o1 11 (.mov (tm 5)),
 o1 12 (.bin .neq (so (.binOp .neq 34 (tm 11) k0 34) 4) (tm 11) k0)]) (.cond (tm 12)
 (.seq (.region [
 o1 13 (.build z32 []),
 o1 14 (.mov (tm 5)),
 o3 (.store 32 (tm 2) (tm 13)),
 o1 3 (.mov (tm 14))]) .ret)
 .skip)) (.seq (.region [
 o1 15 (.mov (tm 4)),
 o1 16 (.callV (.func 78) [(tm 15)]),
 o3 (.store 32 (tm 2) (tm 16)),
 o1 3 (.mov k0)]) .ret))))
def zbcQ : AFunc := ⟨17, [(2, some (some 32)), (3, none)], zbcQ_c, none⟩
theorem zbcQ_t0 : tableOf Tryz.prog 36 = some zbcQ := by kernel_rfl
theorem zbcQ_t : T0 36 = some zbcQ := withKept_t rfl (withTrue_t rfl zbcQ_t0)
theorem zbcQ_runs {v0 : Value} {h : Heap} {R : RP} {X : XP} (k : RunC Tryz.prog T0 zbcQ_c ⟨[v0, U, U, U, U, U, U, U, U, U, U, U, U, U, U, U, U], [], h, none⟩ (bodyQ Tryz.prog T0 [(2, some (some 32)), (3, none)] R X)) :
 Runs Tryz.prog T0 (.fn 36) [v0] h R X := Runs.fn zbcQ_t rfl k
abbrev fn_zfcQ : FuncId := 37
def zfcQ_c : ACode :=
 (.seq (.region [
 o1 1 (.box 25 (tm 0)),
 o1 2 (.alloc 23 z32),
 o1 3 (.mov k0)]) (.seq (.region [
 o1 7 (.load (some 131) (tm 1)),
 o1 8 (.callV (.func 71) [(tm 7)]),
 o1 6 (.mov (tm 8)),
 o1 9 (.extract 0 (tm 6)),
 o1 10 (.extract 1 (tm 6)),
 o1 4 (.mov (tm 9)),
 o1 5 (.mov (tm 10))]) (.seq (.seq (.region [
 o1 11 (.mov (tm 5)),
 o1 12 (.bin .neq (so (.binOp .neq 34 (tm 11) k0 34) 4) (tm 11) k0)]) (.cond (tm 12)
 (.seq (.region [
 o1 13 (.build z32 []),
 o1 14 (.mov (tm 5)),
 o3 (.store 32 (tm 2) (tm 13)),
 o1 3 (.mov (tm 14))]) .ret)
 .skip)) (.seq (.region [
 o1 15 (.buildSlice 5 [(.int .u8 0)] 1 [(0, 1, (.const (.int .u8 72)))]),
 o1 16 (.mov (tm 4)),
 o1 17 (.append 5 1 1 [(.int .u8 0)] false (tm 15) (tm 16)),
 o1 18 (.callV (.func 78) [(tm 17)]),
 o3 (.store 32 (tm 2) (tm 18)),
 o1 3 (.mov k0)]) .ret))))
def zfcQ : AFunc := ⟨19, [(2, some (some 32)), (3, none)], zfcQ_c, none⟩
theorem zfcQ_t0 : tableOf Tryz.prog 37 = some zfcQ := by kernel_rfl
theorem zfcQ_t : T0 37 = some zfcQ := withKept_t rfl (withTrue_t rfl zfcQ_t0)
theorem zfcQ_runs {v0 : Value} {h : Heap} {R : RP} {X : XP} (k : RunC Tryz.prog T0 zfcQ_c ⟨[v0, U, U, U, U, U, U, U, U, U, U, U, U, U, U, U, U, U, U], [], h, none⟩ (bodyQ Tryz.prog T0 [(2, some (some 32)), (3, none)] R X)) :
 Runs Tryz.prog T0 (.fn 37) [v0] h R X := Runs.fn zfcQ_t rfl k
abbrev fn_zfbQ : FuncId := 38
def zfbQ_c : ACode :=
 (.seq (.region [
 o1 2 (.box 31 (tm 0)),
 o1 3 (.box 31 (tm 1)),
 o1 4 (.mov (.const (.bool false)))]) (.seq (.region [
 o1 5 (.fieldAddr 0 (tm 2)),
 o1 6 (.load none (tm 5)),
 o1 7 (.fieldAddr 0 (tm 3)),
 o1 8 (.load none (tm 7)),
 o1 9 (.bin .eql (so (.binOp .eql 3 (tm 6) (tm 8) 3) 4) (tm 6) (tm 8)),
 o1 10 (.mov (tm 9)),
 o4 11 (.fieldAddr 1 (tm 2)) 10,
 o4 12 (.load (some 32) (tm 11)) 10,
 o4 13 (.fieldAddr 1 (tm 3)) 10,
 o4 14 (.load (some 32) (tm 13)) 10,
 o4 15 (.bin .eql (so (.binOp .eql 23 (tm 12) (tm 14) 23) 4) (tm 12) (tm 14)) 10,
 o1 16 (.pick (tm 10) (tm 15) (.const (.bool false))),
 o1 17 (.mov (tm 16)),
 o4 18 (.fieldAddr 33 (tm 2)) 17,
 o4 19 (.load none (tm 18)) 17,
 o4 20 (.fieldAddr 33 (tm 3)) 17,
 o4 21 (.load none (tm 20)) 17,
 o4 22 (.callV (.func 79) [(tm 19), (tm 21)]) 17,
 o1 23 (.pick (tm 17) (tm 22) (.const (.bool false))),
 o1 4 (.mov (tm 23))]) .ret))
def zfbQ : AFunc := ⟨24, [(4, none)], zfbQ_c, none⟩
theorem zfbQ_t0 : tableOf Tryz.prog 38 = some zfbQ := by kernel_rfl
theorem zfbQ_t : T0 38 = some zfbQ := withKept_t rfl (withTrue_t rfl zfbQ_t0)
theorem zfbQ_runs {v0 v1 : Value} {h : Heap} {R : RP} {X : XP} (k : RunC Tryz.prog T0 zfbQ_c ⟨[v0, v1, U, U, U, U, U, U, U, U, U, U, U, U, U, U, U, U, U, U, U, U, U, U], [], h, none⟩ (bodyQ Tryz.prog T0 [(4, none)] R X)) :
 Runs Tryz.prog T0 (.fn 38) [v0, v1] h R X := Runs.fn zfbQ_t rfl k
abbrev fn_zdbQ : FuncId := 39
def zdbQ_l0 : ACode :=
 (.seq (.seq (.region [
 o1 3 (.mov (tm 2)),
 o1 4 (.mov (tm 0)),
 o1 5 (.lenSl (tm 4)),
 o1 6 (.bin .lss (so (.binOp .lss 3 (tm 3) (tm 5) 3) 4) (tm 3) (tm 5))]) (.cond (tm 6)
 .skip
 (.exit 0))) (.seq (.block 1 (.region [
 o1 9 (.mov (tm 0)),
 o1 10 (.mov (tm 2)),
 o1 11 (.build [(.int .u8 0), (.int .u8 0), (.int .u8 0), (.int .u8 0), (.int .i64 0)] [(4, 1, (.const (.int .i64 (-7))))]),
 o1 12 (.indexSl 5 (tm 9) (tm 10)),
 o3 (.store 5 (tm 12) (tm 11))])) (.region [
 o1 7 (.mov (tm 2)),
 o1 8 (.bin .add (so (.binOp .add 3 (tm 7) (.const (.int .i64 1)) 3) 3) (tm 7) (.const (.int .i64 1))),
 o1 2 (.mov (tm 8))])))
def zdbQ_c : ACode :=
 (.seq (.region [
 o1 2 (.mov k0)]) (.block 0 (.loop zdbQ_l0)))
def zdbQ : AFunc := ⟨13, [], zdbQ_c, none⟩
theorem zdbQ_t0 : tableOf Tryz.prog 39 = some zdbQ := by kernel_rfl
theorem zdbQ_t : T0 39 = some zdbQ := withKept_t rfl (withTrue_t rfl zdbQ_t0)
theorem zdbQ_runs {v0 : Value} {h : Heap} {R : RP} {X : XP} (k : RunC Tryz.prog T0 zdbQ_c ⟨[v0, U, U, U, U, U, U, U, U, U, U, U, U], [], h, none⟩ (bodyQ Tryz.prog T0 [] R X)) :
 Runs Tryz.prog T0 (.fn 39) [v0] h R X := Runs.fn zdbQ_t rfl k
def zdbQ_l0_J (f0 f1 : Value) (ds : List Deferred) (rd : Option Nat) (I : Nat → Value → Heap → Prop) (m : Nat) (s : St) : Prop := ∃ (v2 : Value), ∃ h : Heap, ∃ (x3 x4 x5 x6 x7 x8 x9 x10 x11 x12 : Value), s = ⟨[f0, f1, v2, x3, x4, x5, x6, x7, x8, x9, x10, x11, x12], ds, h, rd⟩ ∧ I m v2 h
theorem zdbQ_l0_rule {f0 f1 : Value} {ds : List Deferred} {rd : Option Nat} {Q : QP} (I : Nat → Value → Heap → Prop) (hb : ∀ (m : Nat) (v2 : Value) (h : Heap) (x3 x4 x5 x6 x7 x8 x9 x10 x11 x12 : Value) , I m v2 h → RunC Tryz.prog T0 zdbQ_l0 ⟨[f0, f1, v2, x3, x4, x5, x6, x7, x8, x9, x10, x11, x12], ds, h, rd⟩ (loopQ (zdbQ_l0_J f0 f1 ds rd I) m Q))
 (m : Nat) {v2 : Value} {h : Heap} {x3 x4 x5 x6 x7 x8 x9 x10 x11 x12 : Value} (hi : I m v2 h) : RunC Tryz.prog T0 (.loop zdbQ_l0) ⟨[f0, f1, v2, x3, x4, x5, x6, x7, x8, x9, x10, x11, x12], ds, h, rd⟩ Q :=
 RunC.loopJ (zdbQ_l0_J f0 f1 ds rd I) (fun m s hj => by obtain ⟨v2, h, x3, x4, x5, x6, x7, x8, x9, x10, x11, x12, rfl, hi⟩ := hj; exact hb m v2 h x3 x4 x5 x6 x7 x8 x9 x10 x11 x12 hi) m _ ⟨_, h, _, _, _, _, _, _, _, _, _, _, rfl, hi⟩
theorem zdbQ_l0_again {f0 f1 : Value} {ds : List Deferred} {rd : Option Nat} {Q : QP} {I : Nat → Value → Heap → Prop} {m : Nat} (m' : Nat) {v2 : Value} {h : Heap} {x3 x4 x5 x6 x7 x8 x9 x10 x11 x12 : Value} (hm : m' < m) (hi : I m' v2 h) : loopQ (zdbQ_l0_J f0 f1 ds rd I) m Q .normal ⟨[f0, f1, v2, x3, x4, x5, x6, x7, x8, x9, x10, x11, x12], ds, h, rd⟩ :=
 loopQ.again m' hm ⟨_, h, _, _, _, _, _, _, _, _, _, _, rfl, hi⟩
abbrev fn_zcbQ : FuncId := 40
def zcbQ_l0 : ACode :=
 (.seq (.seq (.region [
 o1 3 (.mov (tm 2)),
 o1 4 (.fieldAddr 33 (tm 1)),
 o1 5 (.load none (tm 4)),
 o1 6 (.lenSl (tm 5)),
 o1 7 (.bin .lss (so (.binOp .lss 3 (tm 3) (tm 6) 3) 4) (tm 3) (tm 6))]) (.cond (tm 7)
 .skip
 (.exit 0))) (.seq (.block 1 (.region [
 o1 10 (.fieldAddr 33 (tm 1)),
 o1 11 (.load none (tm 10)),
 o1 12 (.mov (tm 2)),
 o1 13 (.build [(.int .i64 0), (.int .u64 0)] [(0, 1, (.const (.int .i64 (-7))))]),
 o1 14 (.indexSl 2 (tm 11) (tm 12)),
 o3 (.store 2 (tm 14) (tm 13))])) (.region [
 o1 8 (.mov (tm 2)),
 o1 9 (.bin .add (so (.binOp .add 3 (tm 8) (.const (.int .i64 1)) 3) 3) (tm 8) (.const (.int .i64 1))),
 o1 2 (.mov (tm 9))])))
def zcbQ_c : ACode :=
 (.seq (.region [
 o1 1 (.box 31 (tm 0))]) (.seq (.region [
 o1 2 (.mov k0)]) (.block 0 (.loop zcbQ_l0))))
def zcbQ : AFunc := ⟨15, [], zcbQ_c, none⟩
theorem zcbQ_t0 : tableOf Tryz.prog 40 = some zcbQ := by kernel_rfl
theorem zcbQ_t : T0 40 = some zcbQ := withKept_t rfl (withTrue_t rfl zcbQ_t0)
theorem zcbQ_runs {v0 : Value} {h : Heap} {R : RP} {X : XP} (k : RunC Tryz.prog T0 zcbQ_c ⟨[v0, U, U, U, U, U, U, U, U, U, U, U, U, U, U], [], h, none⟩ (bodyQ Tryz.prog T0 [] R X)) :
 Runs Tryz.prog T0 (.fn 40) [v0] h R X := Runs.fn zcbQ_t rfl k
def zcbQ_l0_J (f0 f1 : Value) (ds : List Deferred) (rd : Option Nat) (I : Nat → Value → Heap → Prop) (m : Nat) (s : St) : Prop := ∃ (v2 : Value), ∃ h : Heap, ∃ (x3 x4 x5 x6 x7 x8 x9 x10 x11 x12 x13 x14 : Value), s = ⟨[f0, f1, v2, x3, x4, x5, x6, x7, x8, x9, x10, x11, x12, x13, x14], ds, h, rd⟩ ∧ I m v2 h
theorem zcbQ_l0_rule {f0 f1 : Value} {ds : List Deferred} {rd : Option Nat} {Q : QP} (I : Nat → Value → Heap → Prop) (hb : ∀ (m : Nat) (v2 : Value) (h : Heap) (x3 x4 x5 x6 x7 x8 x9 x10 x11 x12 x13 x14 : Value) , I m v2 h → RunC Tryz.prog T0 zcbQ_l0 ⟨[f0, f1, v2, x3, x4, x5, x6, x7, x8, x9, x10, x11, x12, x13, x14], ds, h, rd⟩ (loopQ (zcbQ_l0_J f0 f1 ds rd I) m Q))
 (m : Nat) {v2 : Value} {h : Heap} {x3 x4 x5 x6 x7 x8 x9 x10 x11 x12 x13 x14 : Value} (hi : I m v2 h) : RunC Tryz.prog T0 (.loop zcbQ_l0) ⟨[f0, f1, v2, x3, x4, x5, x6, x7, x8, x9, x10, x11, x12, x13, x14], ds, h, rd⟩ Q :=
 RunC.loopJ (zcbQ_l0_J f0 f1 ds rd I) (fun m s hj => by obtain ⟨v2, h, x3, x4, x5, x6, x7, x8, x9, x10, x11, x12, x13, x14, rfl, hi⟩ := hj; exact hb m v2 h x3 x4 x5 x6 x7 x8 x9 x10 x11 x12 x13 x14 hi) m _ ⟨_, h, _, _, _, _, _, _, _, _, _, _, _, _, rfl, hi⟩
theorem zcbQ_l0_again {f0 f1 : Value} {ds : List Deferred} {rd : Option Nat} {Q : QP} {I : Nat → Value → Heap → Prop} {m : Nat} (m' : Nat) {v2 : Value} {h : Heap} {x3 x4 x5 x6 x7 x8 x9 x10 x11 x12 x13 x14 : Value} (hm : m' < m) (hi : I m' v2 h) : loopQ (zcbQ_l0_J f0 f1 ds rd I) m Q .normal ⟨[f0, f1, v2, x3, x4, x5, x6, x7, x8, x9, x10, x11, x12, x13, x14], ds, h, rd⟩ :=
 loopQ.again m' hm ⟨_, h, _, _, _, _, _, _, _, _, _, _, _, _, rfl, hi⟩
abbrev fn_zvcQ : FuncId := 60
def zvcQ_c : ACode :=
 (.seq (.region [
 o1 2 (.mov (.const (.pointer none))),
 o1 3 (.mov k0)]) (.seq (.seq (.region [
 o1 4 (.mov (tm 0)),
 o1 5 (.bin .lss (so (.binOp .lss 3 (tm 4) k0 3) 4) (tm 4) k0),
 o1 6 (.mov (tm 5)),
 o5 7 (.mov (tm 0)) 6,
 o5 8 (.bin .gtr (so (.binOp .gtr 3 (tm 7) (.const (.int .i64 1048576)) 3) 4) (tm 7) (.const (.int .i64 1048576))) 6,
 o1 9 (.pick (tm 6) (.const (.bool true)) (tm 8))]) (.cond (tm 9)
 (.seq (.region [
 o1 2 (.mov (.const (.pointer none))),
 o1 3 (.mov (.const (.int .i64 3)))]) .ret)
 .skip)) (.seq (.region [
 o1 10 (.mov (tm 0)),
 o1 11 (.build [(.int .i64 0), (.slice none 0 0), (.int .i64 0), (.bool false)] [(0, 1, (tm 10)), (3, 1, (.const (.bool true)))]),
 o1 12 (.box 137 (tm 11)),
 o1 2 (.mov (tm 12)),
 o1 3 (.mov k0)]) .ret)))
def zvcQ : AFunc := ⟨13, [(2, none), (3, none)], zvcQ_c, none⟩
theorem zvcQ_t0 : tableOf Tryz.prog 60 = some zvcQ := by kernel_rfl
theorem zvcQ_t : T0 60 = some zvcQ := withKept_t rfl (withTrue_t rfl zvcQ_t0)
theorem zvcQ_runs {v0 : Value} {h : Heap} {R : RP} {X : XP} (k : RunC Tryz.prog T0 zvcQ_c ⟨[v0, U, U, U, U, U, U, U, U, U, U, U, U], [], h, none⟩ (bodyQ Tryz.prog T0 [(2, none), (3, none)] R X)) :
 Runs Tryz.prog T0 (.fn 60) [v0] h R X := Runs.fn zvcQ_t rfl k
abbrev fn_zoQ : FuncId := 61
def zoQ_l0 : ACode :=
 (.seq (.region [
 o1 32 (.bin .lss (so (.binOp .lss 3 (tm 31) (.const (.int .i64 4)) 3) 0) (tm 31) (.const (.int .i64 4)))]) (.seq (.cond (tm 32)
 .skip
 (.exit 0)) (.seq (.block 1 (.seq (.region [
 o1 33 (.index 4 1 none (tm 30) (tm 31)),
 o1 8 (.mov (tm 33))]) (.region [
 o1 34 (.mov (tm 5)),
 o1 35 (.mov (tm 8)),
 o1 36 (.nilCheck (tm 35)),
 o1 37 (.load (some 32) (tm 36)),
 o1 38 (.callV (.func 112) [(tm 34), (tm 37)])]))) (.region [
 o1 39 (.bin .add (so (.binOp .add 3 (tm 31) (.const (.int .i64 1)) 3) 3) (tm 31) (.const (.int .i64 1))),
 o1 31 (.mov (tm 39))]))))
def zoQ_c : ACode :=
 (.seq (.region [
 o1 1 (.box 25 (tm 0)),
 o1 2 (.mov (.const (.slice none 0 0))),
 o1 3 (.mov k0)]) (.seq (.seq (.region [
 o1 9 (.load (some 131) (tm 1)),
 o1 10 (.callV (.func 87) [(tm 9)]),
 o1 4 (.mov (tm 10))]) (.seq (.region [
 o1 11 (.mov (tm 4)),
 o1 12 (.bin .neq (so (.binOp .neq 34 (tm 11) k0 34) 4) (tm 11) k0)]) (.cond (tm 12)
 (.seq (.region [
 o1 13 (.mov (tm 4)),
 o1 2 (.mov (.const (.slice none 0 0))),
 o1 3 (.mov (tm 13))]) .ret)
 .skip))) (.seq (.region [
 o1 15 (.callV (.func 60) [(.const (.int .i64 65536))]),
 o1 14 (.mov (tm 15)),
 o1 16 (.extract 0 (tm 14)),
 o1 17 (.extract 1 (tm 14)),
 o1 5 (.mov (tm 16)),
 o1 6 (.mov (tm 17))]) (.seq (.region [
 o1 18 (.mov (tm 5)),
 o1 19 (.fieldAddr 0 (tm 1)),
 o1 20 (.load none (tm 19)),
 o1 21 (.callV (.func 111) [(tm 18), (tm 20)])]) (.seq (.region [
 o1 22 (.mov (tm 5)),
 o1 23 (.fieldAddr 1 (tm 1)),
 o1 24 (.load none (tm 23)),
 o1 25 (.callV (.func 66) [(tm 22), (tm 24)])]) (.seq (.region [
 o1 26 (.mov (tm 5)),
 o1 27 (.fieldAddr 2 (tm 1)),
 o1 28 (.load none (tm 27)),
 o1 29 (.callV (.func 66) [(tm 26), (tm 28)])]) (.seq (.seq (.region [
 o1 30 (.callV (.func 85) [(tm 1)]),
 o1 31 (.mov k0)]) (.block 0 (.loop zoQ_l0))) (.seq (.region [
 o1 40 (.mov (tm 5)),
 o1 41 (.callV (.func 64) [(tm 40)]),
 o1 42 (.extract 0 (tm 41)),
 o1 43 (.extract 1 (tm 41)),
 o1 2 (.mov (tm 42)),
 o1 3 (.mov (tm 43))]) .ret))))))))
def zoQ : AFunc := ⟨44, [(2, none), (3, none)], zoQ_c, none⟩
theorem zoQ_t0 : tableOf Tryz.prog 61 = some zoQ := by kernel_rfl
theorem zoQ_t : T0 61 = some zoQ := withKept_t rfl (withTrue_t rfl zoQ_t0)
theorem zoQ_runs {v0 : Value} {h : Heap} {R : RP} {X : XP} (k : RunC Tryz.prog T0 zoQ_c ⟨[v0, U, U, U, U, U, U, U, U, U, U, U, U, U, U, U, U, U, U, U, U, U, U, U, U, U, U, U, U, U, U, U, U, U, U, U, U, U, U, U, U, U, U, U], [], h, none⟩ (bodyQ Tryz.prog T0 [(2, none), (3, none)] R X)) :
 Runs Tryz.prog T0 (.fn 61) [v0] h R X := Runs.fn zoQ_t rfl k
def zoQ_l0_J (f0 f1 f2 f3 f4 f5 f6 f7 f9 f10 f11 f12 f13 f14 f15 f16 f17 f18 f19 f20 f21 f22 f23 f24 f25 f26 f27 f28 f29 f30 f40 f41 f42 f43 : Value) (ds : List Deferred) (rd : Option Nat) (I : Nat → Value → Heap → Prop) (m : Nat) (s : St) : Prop := ∃ (v31 : Value), ∃ h : Heap, ∃ (x8 x32 x33 x34 x35 x36 x37 x38 x39 : Value), s = ⟨[f0, f1, f2, f3, f4, f5, f6, f7, x8, f9, f10, f11, f12, f13, f14, f15, f16, f17, f18, f19, f20, f21, f22, f23, f24, f25, f26, f27, f28, f29, f30, v31, x32, x33, x34, x35, x36, x37, x38, x39, f40, f41, f42, f43], ds, h, rd⟩ ∧ I m v31 h
theorem zoQ_l0_rule {f0 f1 f2 f3 f4 f5 f6 f7 f9 f10 f11 f12 f13 f14 f15 f16 f17 f18 f19 f20 f21 f22 f23 f24 f25 f26 f27 f28 f29 f30 f40 f41 f42 f43 : Value} {ds : List Deferred} {rd : Option Nat} {Q : QP} (I : Nat → Value → Heap → Prop) (hb : ∀ (m : Nat) (v31 : Value) (h : Heap) (x8 x32 x33 x34 x35 x36 x37 x38 x39 : Value) , I m v31 h → RunC Tryz.prog T0 zoQ_l0 ⟨[f0, f1, f2, f3, f4, f5, f6, f7, x8, f9, f10, f11, f12, f13, f14, f15, f16, f17, f18, f19, f20, f21, f22, f23, f24, f25, f26, f27, f28, f29, f30, v31, x32, x33, x34, x35, x36, x37, x38, x39, f40, f41, f42, f43], ds, h, rd⟩ (loopQ (zoQ_l0_J f0 f1 f2 f3 f4 f5 f6 f7 f9 f10 f11 f12 f13 f14 f15 f16 f17 f18 f19 f20 f21 f22 f23 f24 f25 f26 f27 f28 f29 f30 f40 f41 f42 f43 ds rd I) m Q))
 (m : Nat) {v31 : Value} {h : Heap} {x8 x32 x33 x34 x35 x36 x37 x38 x39 : Value} (hi : I m v31 h) : RunC Tryz.prog T0 (.loop zoQ_l0) ⟨[f0, f1, f2, f3, f4, f5, f6, f7, x8, f9, f10, f11, f12, f13, f14, f15, f16, f17, f18, f19, f20, f21, f22, f23, f24, f25, f26, f27, f28, f29, f30, v31, x32, x33, x34, x35, x36, x37, x38, x39, f40, f41, f42, f43], ds, h, rd⟩ Q :=
 RunC.loopJ (zoQ_l0_J f0 f1 f2 f3 f4 f5 f6 f7 f9 f10 f11 f12 f13 f14 f15 f16 f17 f18 f19 f20 f21 f22 f23 f24 f25 f26 f27 f28 f29 f30 f40 f41 f42 f43 ds rd I) (fun m s hj => by obtain ⟨v31, h, x8, x32, x33, x34, x35, x36, x37, x38, x39, rfl, hi⟩ := hj; exact hb m v31 h x8 x32 x33 x34 x35 x36 x37 x38 x39 hi) m _ ⟨_, h, _, _, _, _, _, _, _, _, _, rfl, hi⟩
theorem zoQ_l0_again {f0 f1 f2 f3 f4 f5 f6 f7 f9 f10 f11 f12 f13 f14 f15 f16 f17 f18 f19 f20 f21 f22 f23 f24 f25 f26 f27 f28 f29 f30 f40 f41 f42 f43 : Value} {ds : List Deferred} {rd : Option Nat} {Q : QP} {I : Nat → Value → Heap → Prop} {m : Nat} (m' : Nat) {v31 : Value} {h : Heap} {x8 x32 x33 x34 x35 x36 x37 x38 x39 : Value} (hm : m' < m) (hi : I m' v31 h) : loopQ (zoQ_l0_J f0 f1 f2 f3 f4 f5 f6 f7 f9 f10 f11 f12 f13 f14 f15 f16 f17 f18 f19 f20 f21 f22 f23 f24 f25 f26 f27 f28 f29 f30 f40 f41 f42 f43 ds rd I) m Q .normal ⟨[f0, f1, f2, f3, f4, f5, f6, f7, x8, f9, f10, f11, f12, f13, f14, f15, f16, f17, f18, f19, f20, f21, f22, f23, f24, f25, f26, f27, f28, f29, f30, v31, x32, x33, x34, x35, x36, x37, x38, x39, f40, f41, f42, f43], ds, h, rd⟩ :=
 loopQ.again m' hm ⟨_, h, _, _, _, _, _, _, _, _, _, rfl, hi⟩
abbrev fn_zwcQ : FuncId := 63
def zwcQ_c : ACode :=
 (.seq (.region [
 o1 4 (.mov k0)]) (.seq (.region [
 o1 5 (.mov (tm 0)),
 o1 6 (.mov (tm 1)),
 o1 7 (.lenSl (tm 6)),
 o1 8 (.callV (.func 115) [(tm 7)]),
 o1 9 (.mov (tm 1)),
 o1 10 (.buildSlice 41 [(.slice none 0 0), (.slice none 0 0)] 2 [(0, 1, (tm 8)), (1, 1, (tm 9))]),
 o1 11 (.callV (.func 114) [(tm 5), (.const (.bool true)), (tm 10)]),
 o1 4 (.mov (tm 11))]) .ret))
def zwcQ : AFunc := ⟨12, [(4, none)], zwcQ_c, none⟩
theorem zwcQ_t0 : tableOf Tryz.prog 63 = some zwcQ := by kernel_rfl
theorem zwcQ_t : T0 63 = some zwcQ := withKept_t rfl (withTrue_t rfl zwcQ_t0)
theorem zwcQ_runs {v0 v1 : Value} {h : Heap} {R : RP} {X : XP} (k : RunC Tryz.prog T0 zwcQ_c ⟨[v0, v1, U, U, U, U, U, U, U, U, U, U], [], h, none⟩ (bodyQ Tryz.prog T0 [(4, none)] R X)) :
 Runs Tryz.prog T0 (.fn 63) [v0, v1] h R X := Runs.fn zwcQ_t rfl k
abbrev fn_zxcQ : FuncId := 64
def zxcQ_c : ACode :=
 (.seq (.region [
 o1 2 (.mov (.const (.slice none 0 0))),
 o1 3 (.mov k0)]) (.seq (.block 0 (.seq (.region [
 o1 5 (.mov (tm 0)),
 o1 6 (.eq .ptr false (so (.binOp .eql 95 (tm 5) (.const (.pointer none)) 95) 4) (tm 5) (.const (.pointer none))),
 o1 7 (.mov (tm 6)),
 o5 8 (.mov (tm 0)) 7,
 o5 9 (.nilCheck (tm 8)) 7,
 o5 10 (.fieldAddr 3 (tm 9)) 7,
 o5 11 (.load none (tm 10)) 7,
 o5 12 (.raw (so (.unOp .not 4 (tm 11)) 4)) 7,
 o1 13 (.pick (tm 7) (.const (.bool true)) (tm 12)),
 o1 4 (.mov (tm 13))]) (.cond (tm 4)
 (.seq (.region [
 o1 2 (.mov (.const (.slice none 0 0))),
 o1 3 (.mov (.const (.int .i64 1)))]) .ret)
 (.seq (.region [
 o1 15 (.mov (tm 0)),
 o1 16 (.nilCheck (tm 15)),
 o1 17 (.fieldAddr 2 (tm 16)),
 o1 18 (.load none (tm 17)),
 o1 19 (.bin .neq (so (.binOp .neq 34 (tm 18) k0 34) 4) (tm 18) k0),
 o1 14 (.mov (tm 19))]) (.cond (tm 14)
 (.seq (.regionD [
 o1 20 (.mov (tm 0)),
 o1 21 (.nilCheck (tm 20)),
 o1 22 (.fieldAddr 2 (tm 21)),
 o1 23 (.load none (tm 22)),
 o1 2 (.mov (.const (.slice none 0 0))),
 o2 3 (.mov (tm 23))]) .ret)
 .skip))))) (.seq (.region [
 o1 24 (.mov (tm 0)),
 o1 25 (.nilCheck (tm 24)),
 o1 26 (.fieldAddr 1 (tm 25)),
 o1 27 (.load none (tm 26)),
 o1 28 (.callV (.func 80) [(tm 27)]),
 o1 2 (.mov (tm 28)),
 o1 3 (.mov k0)]) .ret)))
def zxcQ : AFunc := ⟨29, [(2, none), (3, none)], zxcQ_c, none⟩
theorem zxcQ_t0 : tableOf Tryz.prog 64 = some zxcQ := by kernel_rfl
theorem zxcQ_t : T0 64 = some zxcQ := withKept_t rfl (withTrue_t rfl zxcQ_t0)
theorem zxcQ_runs {v0 : Value} {h : Heap} {R : RP} {X : XP} (k : RunC Tryz.prog T0 zxcQ_c ⟨[v0, U, U, U, U, U, U, U, U, U, U, U, U, U, U, U, U, U, U, U, U, U, U, U, U, U, U, U, U], [], h, none⟩ (bodyQ Tryz.prog T0 [(2, none), (3, none)] R X)) :
 Runs Tryz.prog T0 (.fn 64) [v0] h R X := Runs.fn zxcQ_t rfl k
abbrev fn_zrcQ : FuncId := 65
def zrcQ_l0 : ACode :=
 (.seq (.region [
 o1 19 (.bin .lss (so (.binOp .lss 3 (tm 18) (tm 17) 3) 0) (tm 18) (tm 17))]) (.seq (.cond (tm 19)
 .skip
 (.exit 1)) (.seq (.block 2 (.seq (.region [
 o1 20 (.indexSl 5 (tm 16) (tm 18)),
 o1 21 (.load (some 5) (tm 20)),
 o1 5 (.alloc 66 [(.int .u8 0), (.int .u8 0), (.int .u8 0), (.int .u8 0), (.int .i64 0)]),
 o3 (.store 5 (tm 5) (tm 21))]) (.seq (.region [
 o1 22 (.load (some 5) (tm 5)),
 o1 23 (.callV (.func 116) [(tm 3), (tm 22)]),
 o1 6 (.mov (tm 23))]) (.seq (.region [
 o1 24 (.mov (tm 6)),
 o1 25 (.bin .neq (so (.binOp .neq 34 (tm 24) k0 34) 4) (tm 24) k0)]) (.cond (tm 25)
 (.seq (.region [
 o1 26 (.mov (tm 6)),
 o1 2 (.mov (tm 26))]) .ret)
 .skip))))) (.region [
 o1 27 (.bin .add (so (.binOp .add 3 (tm 18) (.const (.int .i64 1)) 3) 3) (tm 18) (.const (.int .i64 1))),
 o1 18 (.mov (tm 27))]))))
def zrcQ_c : ACode :=
 (.seq (.region [
 o1 2 (.mov k0)]) (.seq (.block 0 (.seq (.region [
 o1 8 (.mov (tm 0)),
 o1 9 (.lenSl (tm 8)),
 o1 10 (.bin .eql (so (.binOp .eql 3 (tm 9) k0 3) 4) (tm 9) k0),
 o1 7 (.mov (tm 10))]) (.cond (tm 7)
 (.seq (.region [
 o1 2 (.mov (.const (.int .i64 6)))]) .ret)
 (.seq (.region [
 o1 12 (.mov (tm 0)),
 o1 13 (.lenSl (tm 12)),
 o1 14 (.bin .gtr (so (.binOp .gtr 3 (tm 13) (.const (.int .i64 64)) 3) 4) (tm 13) (.const (.int .i64 64))),
 o1 11 (.mov (tm 14))]) (.cond (tm 11)
 (.seq (.region [
 o1 2 (.mov (.const (.int .i64 4)))]) .ret)
 .skip))))) (.seq (.region [
 o1 15 (.build [(.int .u8 0), (.int .u8 0), (.int .u8 0), (.int .u8 0), (.bool false), (.int .i64 0), (.int .i64 0)] [(5, 1, (.const (.int .i64 1))), (6, 1, (.const (.int .i64 4611686018427387904)))]),
 o1 3 (.alloc 143 [(.int .u8 0), (.int .u8 0), (.int .u8 0), (.int .u8 0), (.bool false), (.int .i64 0), (.int .i64 0)]),
 o3 (.store 7 (tm 3) (tm 15))]) (.seq (.seq (.region [
 o1 16 (.mov (tm 0)),
 o1 17 (.lenSl (tm 16)),
 o1 18 (.mov k0)]) (.block 1 (.loop zrcQ_l0))) (.seq (.region [
 o1 2 (.mov k0)]) .ret)))))
def zrcQ : AFunc := ⟨28, [(2, none)], zrcQ_c, none⟩
theorem zrcQ_t0 : tableOf Tryz.prog 65 = some zrcQ := by kernel_rfl
theorem zrcQ_t : T0 65 = some zrcQ := withKept_t rfl (withTrue_t rfl zrcQ_t0)
theorem zrcQ_runs {v0 : Value} {h : Heap} {R : RP} {X : XP} (k : RunC Tryz.prog T0 zrcQ_c ⟨[v0, U, U, U, U, U, U, U, U, U, U, U, U, U, U, U, U, U, U, U, U, U, U, U, U, U, U, U], [], h, none⟩ (bodyQ Tryz.prog T0 [(2, none)] R X)) :
 Runs Tryz.prog T0 (.fn 65) [v0] h R X := Runs.fn zrcQ_t rfl k
def zrcQ_l0_J (f0 f1 f3 f4 f7 f8 f9 f10 f11 f12 f13 f14 f15 f16 f17 : Value) (ds : List Deferred) (rd : Option Nat) (I : Nat → Value → Heap → Prop) (m : Nat) (s : St) : Prop := ∃ (v18 : Value), ∃ h : Heap, ∃ (x2 x5 x6 x19 x20 x21 x22 x23 x24 x25 x26 x27 : Value), s = ⟨[f0, f1, x2, f3, f4, x5, x6, f7, f8, f9, f10, f11, f12, f13, f14, f15, f16, f17, v18, x19, x20, x21, x22, x23, x24, x25, x26, x27], ds, h, rd⟩ ∧ I m v18 h
theorem zrcQ_l0_rule {f0 f1 f3 f4 f7 f8 f9 f10 f11 f12 f13 f14 f15 f16 f17 : Value} {ds : List Deferred} {rd : Option Nat} {Q : QP} (I : Nat → Value → Heap → Prop) (hb : ∀ (m : Nat) (v18 : Value) (h : Heap) (x2 x5 x6 x19 x20 x21 x22 x23 x24 x25 x26 x27 : Value) , I m v18 h → RunC Tryz.prog T0 zrcQ_l0 ⟨[f0, f1, x2, f3, f4, x5, x6, f7, f8, f9, f10, f11, f12, f13, f14, f15, f16, f17, v18, x19, x20, x21, x22, x23, x24, x25, x26, x27], ds, h, rd⟩ (loopQ (zrcQ_l0_J f0 f1 f3 f4 f7 f8 f9 f10 f11 f12 f13 f14 f15 f16 f17 ds rd I) m Q))
 (m : Nat) {v18 : Value} {h : Heap} {x2 x5 x6 x19 x20 x21 x22 x23 x24 x25 x26 x27 : Value} (hi : I m v18 h) : RunC Tryz.prog T0 (.loop zrcQ_l0) ⟨[f0, f1, x2, f3, f4, x5, x6, f7, f8, f9, f10, f11, f12, f13, f14, f15, f16, f17, v18, x19, x20, x21, x22, x23, x24, x25, x26, x27], ds, h, rd⟩ Q :=
 RunC.loopJ (zrcQ_l0_J f0 f1 f3 f4 f7 f8 f9 f10 f11 f12 f13 f14 f15 f16 f17 ds rd I) (fun m s hj => by obtain ⟨v18, h, x2, x5, x6, x19, x20, x21, x22, x23, x24, x25, x26, x27, rfl, hi⟩ := hj; exact hb m v18 h x2 x5 x6 x19 x20 x21 x22 x23 x24 x25 x26 x27 hi) m _ ⟨_, h, _, _, _, _, _, _, _, _, _, _, _, _, rfl, hi⟩
theorem zrcQ_l0_again {f0 f1 f3 f4 f7 f8 f9 f10 f11 f12 f13 f14 f15 f16 f17 : Value} {ds : List Deferred} {rd : Option Nat} {Q : QP} {I : Nat → Value → Heap → Prop} {m : Nat} (m' : Nat) {v18 : Value} {h : Heap} {x2 x5 x6 x19 x20 x21 x22 x23 x24 x25 x26 x27 : Value} (hm : m' < m) (hi : I m' v18 h) : loopQ (zrcQ_l0_J f0 f1 f3 f4 f7 f8 f9 f10 f11 f12 f13 f14 f15 f16 f17 ds rd I) m Q .normal ⟨[f0, f1, x2, f3, f4, x5, x6, f7, f8, f9, f10, f11, f12, f13, f14, f15, f16, f17, v18, x19, x20, x21, x22, x23, x24, x25, x26, x27], ds, h, rd⟩ :=
 loopQ.again m' hm ⟨_, h, _, _, _, _, _, _, _, _, _, _, _, _, rfl, hi⟩
abbrev fn_zadQ : FuncId := 66
def zadQ_c : ACode :=
 (.seq (.region [
 o1 4 (.mov k0)]) (.seq (.region [
 o1 5 (.mov (tm 0)),
 o1 6 (.mov (tm 1)),
 o1 7 (.bin .geq (so (.binOp .geq 3 (tm 6) k0 3) 4) (tm 6) k0),
 o1 8 (.mov (tm 1)),
 o1 9 (.raw (so (.call ⟨.builtin .max, #[(tm 8), k0], #[3, 3]⟩) 3)),
 o1 10 (.callV (.func 115) [(tm 9)]),
 o1 11 (.buildSlice 41 [(.slice none 0 0)] 1 [(0, 1, (tm 10))]),
 o1 12 (.callV (.func 114) [(tm 5), (tm 7), (tm 11)]),
 o1 4 (.mov (tm 12))]) .ret))
def zadQ : AFunc := ⟨13, [(4, none)], zadQ_c, none⟩
theorem zadQ_t0 : tableOf Tryz.prog 66 = some zadQ := by kernel_rfl
theorem zadQ_t : T0 66 = some zadQ := withKept_t rfl (withTrue_t rfl zadQ_t0)
theorem zadQ_runs {v0 v1 : Value} {h : Heap} {R : RP} {X : XP} (k : RunC Tryz.prog T0 zadQ_c ⟨[v0, v1, U, U, U, U, U, U, U, U, U, U, U], [], h, none⟩ (bodyQ Tryz.prog T0 [(4, none)] R X)) :
 Runs Tryz.prog T0 (.fn 66) [v0, v1] h R X := Runs.fn zadQ_t rfl k
abbrev fn_zzcQ : FuncId := 67
def zzcQ_c : ACode :=
 (.seq (.region [
 o1 3 (.box 64 (tm 1)),
 o1 4 (.mov k0)]) (.seq (.region [
 o1 5 (.mov (tm 0)),
 o1 6 (.sliceArr 4 1 (tm 3) none none),
 o1 7 (.buildSlice 41 [(.slice none 0 0)] 1 [(0, 1, (tm 6))]),
 o1 8 (.callV (.func 114) [(tm 5), (.const (.bool true)), (tm 7)]),
 o1 4 (.mov (tm 8))]) .ret))
def zzcQ : AFunc := ⟨9, [(4, none)], zzcQ_c, none⟩
theorem zzcQ_t0 : tableOf Tryz.prog 67 = some zzcQ := by kernel_rfl
theorem zzcQ_t : T0 67 = some zzcQ := withKept_t rfl (withTrue_t rfl zzcQ_t0)
theorem zzcQ_runs {v0 v1 : Value} {h : Heap} {R : RP} {X : XP} (k : RunC Tryz.prog T0 zzcQ_c ⟨[v0, v1, U, U, U, U, U, U, U], [], h, none⟩ (bodyQ Tryz.prog T0 [(4, none)] R X)) :
 Runs Tryz.prog T0 (.fn 67) [v0, v1] h R X := Runs.fn zzcQ_t rfl k
abbrev fn_zecQ : FuncId := 71
def zecQ_c : ACode :=
 (.seq (.region [
 o1 1 (.box 25 (tm 0)),
 o1 2 (.mov (.const (.slice none 0 0))),
 o1 3 (.mov k0)]) (.seq (.region [
 o1 7 (.load (some 131) (tm 1)),
 o1 8 (.callV (.func 95) [(tm 7)]),
 o1 4 (.mov (tm 8))]) (.seq (.seq (.region [
 o1 9 (.mov (tm 4)),
 o1 10 (.bin .neq (so (.binOp .neq 34 (tm 9) k0 34) 4) (tm 9) k0)]) (.cond (tm 10)
 (.seq (.region [
 o1 11 (.mov (tm 4)),
 o1 2 (.mov (.const (.slice none 0 0))),
 o1 3 (.mov (tm 11))]) .ret)
 .skip)) (.seq (.region [
 o1 13 (.callV (.func 74) [(.const (.int .i64 1048576))]),
 o1 12 (.mov (tm 13)),
 o1 14 (.extract 0 (tm 12)),
 o1 15 (.extract 1 (tm 12)),
 o1 5 (.mov (tm 14)),
 o1 6 (.mov (tm 15))]) (.seq (.region [
 o1 16 (.mov (tm 5)),
 o1 17 (.load (some 131) (tm 1)),
 o1 18 (.callV (.func 117) [(tm 16), (tm 17)])]) (.seq (.region [
 o1 19 (.mov (tm 5)),
 o1 20 (.callV (.func 76) [(tm 19)]),
 o1 21 (.extract 0 (tm 20)),
 o1 22 (.extract 1 (tm 20)),
 o1 2 (.mov (tm 21)),
 o1 3 (.mov (tm 22))]) .ret))))))
def zecQ : AFunc := ⟨23, [(2, none), (3, none)], zecQ_c, none⟩
theorem zecQ_t0 : tableOf Tryz.prog 71 = some zecQ := by kernel_rfl
theorem zecQ_t : T0 71 = some zecQ := withKept_t rfl (withTrue_t rfl zecQ_t0)
theorem zecQ_runs {v0 : Value} {h : Heap} {R : RP} {X : XP} (k : RunC Tryz.prog T0 zecQ_c ⟨[v0, U, U, U, U, U, U, U, U, U, U, U, U, U, U, U, U, U, U, U, U, U, U], [], h, none⟩ (bodyQ Tryz.prog T0 [(2, none), (3, none)] R X)) :
 Runs Tryz.prog T0 (.fn 71) [v0] h R X := Runs.fn zecQ_t rfl k
abbrev fn_zacQ : FuncId := 73
def zacQ_l0 : ACode :=
 (.seq (.seq (.region [
 o1 21 (.mov (tm 7)),
 o1 22 (.mov (tm 0)),
 o1 23 (.lenSl (tm 22)),
 o1 24 (.bin .lss (so (.binOp .lss 3 (tm 21) (tm 23) 3) 4) (tm 21) (tm 23))]) (.cond (tm 24)
 .skip
 (.exit 0))) (.seq (.block 1 (.seq (.region [
 o1 27 (.mov (tm 5)),
 o1 28 (.mov (tm 0)),
 o1 29 (.mov (tm 7)),
 o1 30 (.indexSl 5 (tm 28) (tm 29)),
 o1 31 (.fieldAddr 0 (tm 30)),
 o1 32 (.load (some 4) (tm 31)),
 o1 33 (.callV (.func 121) [(tm 27), (tm 32)])]) (.region [
 o1 34 (.mov (tm 5)),
 o1 35 (.mov (tm 0)),
 o1 36 (.mov (tm 7)),
 o1 37 (.indexSl 5 (tm 35) (tm 36)),
 o1 38 (.fieldAddr 4 (tm 37)),
 o1 39 (.load none (tm 38)),
 o1 40 (.callV (.func 118) [(tm 34), (tm 39)])]))) (.region [
 o1 25 (.mov (tm 7)),
 o1 26 (.bin .add (so (.binOp .add 3 (tm 25) (.const (.int .i64 1)) 3) 3) (tm 25) (.const (.int .i64 1))),
 o1 7 (.mov (tm 26))])))
def zacQ_c : ACode :=
 (.seq (.region [
 o1 2 (.mov (.const (.slice none 0 0))),
 o1 3 (.mov k0)]) (.seq (.region [
 o1 8 (.mov (tm 0)),
 o1 9 (.callV (.func 101) [(tm 8)]),
 o1 4 (.mov (tm 9))]) (.seq (.seq (.region [
 o1 10 (.mov (tm 4)),
 o1 11 (.bin .neq (so (.binOp .neq 34 (tm 10) k0 34) 4) (tm 10) k0)]) (.cond (tm 11)
 (.seq (.region [
 o1 12 (.mov (tm 4)),
 o1 2 (.mov (.const (.slice none 0 0))),
 o1 3 (.mov (tm 12))]) .ret)
 .skip)) (.seq (.region [
 o1 14 (.callV (.func 74) [(.const (.int .i64 65536))]),
 o1 13 (.mov (tm 14)),
 o1 15 (.extract 0 (tm 13)),
 o1 16 (.extract 1 (tm 13)),
 o1 5 (.mov (tm 15)),
 o1 6 (.mov (tm 16))]) (.seq (.region [
 o1 17 (.mov (tm 5)),
 o1 18 (.mov (tm 0)),
 o1 19 (.lenSl (tm 18)),
 o1 20 (.callV (.func 118) [(tm 17), (tm 19)])]) (.seq (.seq (.region [
 o1 7 (.mov k0)]) (.block 0 (.loop zacQ_l0))) (.seq (.region [
 o1 41 (.mov (tm 5)),
 o1 42 (.callV (.func 76) [(tm 41)]),
 o1 43 (.extract 0 (tm 42)),
 o1 44 (.extract 1 (tm 42)),
 o1 2 (.mov (tm 43)),
 o1 3 (.mov (tm 44))]) .ret)))))))
def zacQ : AFunc := ⟨45, [(2, none), (3, none)], zacQ_c, none⟩
theorem zacQ_t0 : tableOf Tryz.prog 73 = some zacQ := by kernel_rfl
theorem zacQ_t : T0 73 = some zacQ := withKept_t rfl (withTrue_t rfl zacQ_t0)
theorem zacQ_runs {v0 : Value} {h : Heap} {R : RP} {X : XP} (k : RunC Tryz.prog T0 zacQ_c ⟨[v0, U, U, U, U, U, U, U, U, U, U, U, U, U, U, U, U, U, U, U, U, U, U, U, U, U, U, U, U, U, U, U, U, U, U, U, U, U, U, U, U, U, U, U, U], [], h, none⟩ (bodyQ Tryz.prog T0 [(2, none), (3, none)] R X)) :
 Runs Tryz.prog T0 (.fn 73) [v0] h R X := Runs.fn zacQ_t rfl k
def zacQ_l0_J (f0 f1 f2 f3 f4 f5 f6 f8 f9 f10 f11 f12 f13 f14 f15 f16 f17 f18 f19 f20 f41 f42 f43 f44 : Value) (ds : List Deferred) (rd : Option Nat) (I : Nat → Value → Heap → Prop) (m : Nat) (s : St) : Prop := ∃ (v7 : Value), ∃ h : Heap, ∃ (x21 x22 x23 x24 x25 x26 x27 x28 x29 x30 x31 x32 x33 x34 x35 x36 x37 x38 x39 x40 : Value), s = ⟨[f0, f1, f2, f3, f4, f5, f6, v7, f8, f9, f10, f11, f12, f13, f14, f15, f16, f17, f18, f19, f20, x21, x22, x23, x24, x25, x26, x27, x28, x29, x30, x31, x32, x33, x34, x35, x36, x37, x38, x39, x40, f41, f42, f43, f44], ds, h, rd⟩ ∧ I m v7 h
theorem zacQ_l0_rule {f0 f1 f2 f3 f4 f5 f6 f8 f9 f10 f11 f12 f13 f14 f15 f16 f17 f18 f19 f20 f41 f42 f43 f44 : Value} {ds : List Deferred} {rd : Option Nat} {Q : QP} (I : Nat → Value → Heap → Prop) (hb : ∀ (m : Nat) (v7 : Value) (h : Heap) (x21 x22 x23 x24 x25 x26 x27 x28 x29 x30 x31 x32 x33 x34 x35 x36 x37 x38 x39 x40 : Value) , I m v7 h → RunC Tryz.prog T0 zacQ_l0 ⟨[f0, f1, f2, f3, f4, f5, f6, v7, f8, f9, f10, f11, f12, f13, f14, f15, f16, f17, f18, f19, f20, x21, x22, x23, x24, x25, x26, x27, x28, x29, x30, x31, x32, x33, x34, x35, x36, x37, x38, x39, x40, f41, f42, f43, f44], ds, h, rd⟩ (loopQ (zacQ_l0_J f0 f1 f2 f3 f4 f5 f6 f8 f9 f10 f11 f12 f13 f14 f15 f16 f17 f18 f19 f20 f41 f42 f43 f44 ds rd I) m Q))
 (m : Nat) {v7 : Value} {h : Heap} {x21 x22 x23 x24 x25 x26 x27 x28 x29 x30 x31 x32 x33 x34 x35 x36 x37 x38 x39 x40 : Value} (hi : I m v7 h) : RunC Tryz.prog T0 (.loop zacQ_l0) ⟨[f0, f1, f2, f3, f4, f5, f6, v7, f8, f9, f10, f11, f12, f13, f14, f15, f16, f17, f18, f19, f20, x21, x22, x23, x24, x25, x26, x27, x28, x29, x30, x31, x32, x33, x34, x35, x36, x37, x38, x39, x40, f41, f42, f43, f44], ds, h, rd⟩ Q :=
 RunC.loopJ (zacQ_l0_J f0 f1 f2 f3 f4 f5 f6 f8 f9 f10 f11 f12 f13 f14 f15 f16 f17 f18 f19 f20 f41 f42 f43 f44 ds rd I) (fun m s hj => by obtain ⟨v7, h, x21, x22, x23, x24, x25, x26, x27, x28, x29, x30, x31, x32, x33, x34, x35, x36, x37, x38, x39, x40, rfl, hi⟩ := hj; exact hb m v7 h x21 x22 x23 x24 x25 x26 x27 x28 x29 x30 x31 x32 x33 x34 x35 x36 x37 x38 x39 x40 hi) m _ ⟨_, h, _, _, _, _, _, _, _, _, _, _, _, _, _, _, _, _, _, _, _, _, rfl, hi⟩
theorem zacQ_l0_again {f0 f1 f2 f3 f4 f5 f6 f8 f9 f10 f11 f12 f13 f14 f15 f16 f17 f18 f19 f20 f41 f42 f43 f44 : Value} {ds : List Deferred} {rd : Option Nat} {Q : QP} {I : Nat → Value → Heap → Prop} {m : Nat} (m' : Nat) {v7 : Value} {h : Heap} {x21 x22 x23 x24 x25 x26 x27 x28 x29 x30 x31 x32 x33 x34 x35 x36 x37 x38 x39 x40 : Value} (hm : m' < m) (hi : I m' v7 h) : loopQ (zacQ_l0_J f0 f1 f2 f3 f4 f5 f6 f8 f9 f10 f11 f12 f13 f14 f15 f16 f17 f18 f19 f20 f41 f42 f43 f44 ds rd I) m Q .normal ⟨[f0, f1, f2, f3, f4, f5, f6, v7, f8, f9, f10, f11, f12, f13, f14, f15, f16, f17, f18, f19, f20, x21, x22, x23, x24, x25, x26, x27, x28, x29, x30, x31, x32, x33, x34, x35, x36, x37, x38, x39, x40, f41, f42, f43, f44], ds, h, rd⟩ :=
 loopQ.again m' hm ⟨_, h, _, _, _, _, _, _, _, _, _, _, _, _, _, _, _, _, _, _, _, _, rfl, hi⟩
abbrev fn_zrbQ : FuncId := 74
def zrbQ_c : ACode :=
 (.seq (.region [
 o1 2 (.mov (.const (.pointer none))),
 o1 3 (.mov k0)]) (.seq (.seq (.region [
 o1 4 (.mov (tm 0)),
 o1 5 (.bin .lss (so (.binOp .lss 3 (tm 4) k0 3) 4) (tm 4) k0),
 o1 6 (.mov (tm 5)),
 o5 7 (.mov (tm 0)) 6,
 o5 8 (.bin .gtr (so (.binOp .gtr 3 (tm 7) (.const (.int .i64 1048576)) 3) 4) (tm 7) (.const (.int .i64 1048576))) 6,
 o1 9 (.pick (tm 6) (.const (.bool true)) (tm 8))]) (.cond (tm 9)
 (.seq (.region [
 o1 2 (.mov (.const (.pointer none))),
 o1 3 (.mov (.const (.int .i64 3)))]) .ret)
 .skip)) (.seq (.region [
 o1 10 (.mov (tm 0)),
 o1 11 (.build [(.int .i64 0), (.slice none 0 0), (.int .i64 0)] [(0, 1, (tm 10))]),
 o1 12 (.box 147 (tm 11)),
 o1 2 (.mov (tm 12)),
 o1 3 (.mov k0)]) .ret)))
def zrbQ : AFunc := ⟨13, [(2, none), (3, none)], zrbQ_c, none⟩
theorem zrbQ_t0 : tableOf Tryz.prog 74 = some zrbQ := by kernel_rfl
theorem zrbQ_t : T0 74 = some zrbQ := withKept_t rfl (withTrue_t rfl zrbQ_t0)
theorem zrbQ_runs {v0 : Value} {h : Heap} {R : RP} {X : XP} (k : RunC Tryz.prog T0 zrbQ_c ⟨[v0, U, U, U, U, U, U, U, U, U, U, U, U], [], h, none⟩ (bodyQ Tryz.prog T0 [(2, none), (3, none)] R X)) :
 Runs Tryz.prog T0 (.fn 74) [v0] h R X := Runs.fn zrbQ_t rfl k
abbrev fn_ztbQ : FuncId := 76
def ztbQ_c : ACode :=
 (.seq (.region [
 o1 2 (.mov (.const (.slice none 0 0))),
 o1 3 (.mov k0)]) (.seq (.seq (.region [
 o1 4 (.mov (tm 0)),
 o1 5 (.nilCheck (tm 4)),
 o1 6 (.fieldAddr 2 (tm 5)),
 o1 7 (.load none (tm 6)),
 o1 8 (.bin .neq (so (.binOp .neq 34 (tm 7) k0 34) 4) (tm 7) k0)]) (.cond (tm 8)
 (.seq (.regionD [
 o1 9 (.mov (tm 0)),
 o1 10 (.nilCheck (tm 9)),
 o1 11 (.fieldAddr 2 (tm 10)),
 o1 12 (.load none (tm 11)),
 o1 2 (.mov (.const (.slice none 0 0))),
 o2 3 (.mov (tm 12))]) .ret)
 .skip)) (.seq (.region [
 o1 13 (.buildSlice 5 [] 0 []),
 o1 14 (.mov (tm 0)),
 o1 15 (.nilCheck (tm 14)),
 o1 16 (.fieldAddr 1 (tm 15)),
 o1 17 (.load none (tm 16)),
 o1 18 (.append 5 1 1 [(.int .u8 0)] false (tm 13) (tm 17)),
 o1 2 (.mov (tm 18)),
 o1 3 (.mov k0)]) .ret)))
def ztbQ : AFunc := ⟨19, [(2, none), (3, none)], ztbQ_c, none⟩
theorem ztbQ_t0 : tableOf Tryz.prog 76 = some ztbQ := by kernel_rfl
theorem ztbQ_t : T0 76 = some ztbQ := withKept_t rfl (withTrue_t rfl ztbQ_t0)
theorem ztbQ_runs {v0 : Value} {h : Heap} {R : RP} {X : XP} (k : RunC Tryz.prog T0 ztbQ_c ⟨[v0, U, U, U, U, U, U, U, U, U, U, U, U, U, U, U, U, U, U], [], h, none⟩ (bodyQ Tryz.prog T0 [(2, none), (3, none)] R X)) :
 Runs Tryz.prog T0 (.fn 76) [v0] h R X := Runs.fn ztbQ_t rfl k
abbrev fn_zkbQ : FuncId := 78
def zkbQ_l0 : ACode :=
 (.seq (.seq (.region [
 o1 11 (.mov (tm 3)),
 o1 12 (.lenSl (tm 11)),
 o1 13 (.bin .eql (so (.binOp .eql 3 (tm 12) k0 3) 4) (tm 12) k0),
 o1 14 (.mov (tm 13)),
 o5 15 (.mov (tm 3)) 14,
 o5 16 (.lenSl (tm 15)) 14,
 o5 17 (.bin .rem (so (.binOp .rem 3 (tm 16) (.const (.int .i64 64)) 3) 3) (tm 16) (.const (.int .i64 64))) 14,
 o5 18 (.bin .neq (so (.binOp .neq 3 (tm 17) k0 3) 4) (tm 17) k0) 14,
 o1 19 (.pick (tm 14) (.const (.bool true)) (tm 18))]) (.cond (tm 19)
 .skip
 (.exit 0))) (.block 1 (.region [
 o1 20 (.mov (tm 3)),
 o1 21 (.buildSlice 5 [(.int .u8 0)] 1 [(0, 1, (.const (.int .u8 0)))]),
 o1 22 (.append 5 1 1 [(.int .u8 0)] false (tm 20) (tm 21)),
 o1 3 (.mov (tm 22))])))
def zkbQ_l1 : ACode :=
 (.seq (.seq (.region [
 o1 28 (.mov (tm 5)),
 o1 29 (.mov (tm 3)),
 o1 30 (.lenSl (tm 29)),
 o1 31 (.bin .lss (so (.binOp .lss 3 (tm 28) (tm 30) 3) 4) (tm 28) (tm 30))]) (.cond (tm 31)
 .skip
 (.exit 2))) (.seq (.block 3 (.regionD [
 o1 34 (.load (some 8) (tm 4)),
 o1 35 (.mov (tm 3)),
 o1 36 (.mov (tm 5)),
 o1 37 (.mov (tm 5)),
 o1 38 (.bin .add (so (.binOp .add 3 (tm 37) (.const (.int .i64 64)) 3) 3) (tm 37) (.const (.int .i64 64))),
 o1 39 (.sliceSl 1 (tm 35) (some (tm 36)) (some (tm 38)) none),
 o1 40 (.mov (tm 0)),
 o1 41 (.lenSl (tm 40)),
 o1 42 (.mov (tm 5)),
 o1 43 (.bin .add (so (.binOp .add 3 (tm 42) (.const (.int .i64 64)) 3) 3) (tm 42) (.const (.int .i64 64))),
 o1 44 (.raw (so (.call ⟨.builtin .min, #[(tm 41), (tm 43)], #[3, 3]⟩) 3)),
 o1 45 (.mov (tm 5)),
 o1 46 (.bin .add (so (.binOp .add 3 (tm 45) (.const (.int .i64 64)) 3) 3) (tm 45) (.const (.int .i64 64))),
 o1 47 (.mov (tm 3)),
 o1 48 (.lenSl (tm 47)),
 o1 49 (.bin .eql (so (.binOp .eql 3 (tm 46) (tm 48) 3) 4) (tm 46) (tm 48)),
 o2 50 (.callV (.func 128) [(tm 34), (tm 39), (tm 44), (tm 49)]),
 ⟨none, .store 8 (tm 4) (tm 50), none, [], true⟩])) (.region [
 o1 32 (.mov (tm 5)),
 o1 33 (.bin .add (so (.binOp .add 3 (tm 32) (.const (.int .i64 64)) 3) 3) (tm 32) (.const (.int .i64 64))),
 o1 5 (.mov (tm 33))])))
def zkbQ_l2 : ACode :=
 (.seq (.seq (.region [
 o1 51 (.mov (tm 7)),
 o1 52 (.bin .lss (so (.binOp .lss 3 (tm 51) (.const (.int .i64 32)) 3) 4) (tm 51) (.const (.int .i64 32)))]) (.cond (tm 52)
 .skip
 (.exit 4))) (.seq (.block 5 (.region [
 o1 55 (.mov (tm 7)),
 o1 56 (.mov (tm 7)),
 o1 57 (.bin .quo (so (.binOp .quo 3 (tm 56) (.const (.int .i64 4)) 3) 3) (tm 56) (.const (.int .i64 4))),
 o1 58 (.indexArr 8 1 (tm 4) (tm 57)),
 o1 59 (.load none (tm 58)),
 o1 60 (.mov (tm 7)),
 o1 61 (.bin .rem (so (.binOp .rem 3 (tm 60) (.const (.int .i64 4)) 3) 3) (tm 60) (.const (.int .i64 4))),
 o1 62 (.bin .mul (so (.binOp .mul 3 (.const (.int .i64 8)) (tm 61) 3) 3) (.const (.int .i64 8)) (tm 61)),
 o1 63 (.conv .u64 (so (.convert 3 155 (tm 62)) 155) (tm 62)),
 o1 64 (.bin .shr (so (.binOp .shr 151 (tm 59) (tm 63) 155) 151) (tm 59) (tm 63)),
 o1 65 (.conv .u8 (so (.convert 151 5 (tm 64)) 5) (tm 64)),
 o1 66 (.indexArr 32 1 (tm 6) (tm 55)),
 o3 (.store 1 (tm 66) (tm 65))])) (.region [
 o1 53 (.mov (tm 7)),
 o1 54 (.bin .add (so (.binOp .add 3 (tm 53) (.const (.int .i64 1)) 3) 3) (tm 53) (.const (.int .i64 1))),
 o1 7 (.mov (tm 54))])))
def zkbQ_c : ACode :=
 (.seq (.region [
 o1 2 (.alloc 23 z32)]) (.seq (.region [
 o1 8 (.buildSlice 5 [] 0 []),
 o1 9 (.mov (tm 0)),
 o1 10 (.append 5 1 1 [(.int .u8 0)] false (tm 8) (tm 9)),
 o1 3 (.mov (tm 10))]) (.seq (.block 0 (.loop zkbQ_l0)) (.seq (.region [
 o1 23 (.callV (.func 127) []),
 o1 4 (.alloc 152 [(.int .u32 0), (.int .u32 0), (.int .u32 0), (.int .u32 0), (.int .u32 0), (.int .u32 0), (.int .u32 0), (.int .u32 0)]),
 o3 (.store 8 (tm 4) (tm 23))]) (.seq (.region [
 o1 24 (.indexArr 8 1 (tm 4) k0),
 o1 25 (.load none (tm 24)),
 o1 26 (.bin .xor (so (.binOp .xor 151 (tm 25) (.const (.int .u32 16842784)) 151) 151) (tm 25) (.const (.int .u32 16842784))),
 o1 27 (.indexArr 8 1 (tm 4) k0),
 o3 (.store 1 (tm 27) (tm 26))]) (.seq (.seq (.region [
 o1 5 (.mov k0)]) (.block 2 (.loop zkbQ_l1))) (.seq (.region [
 o1 6 (.alloc 23 z32)]) (.seq (.seq (.region [
 o1 7 (.mov k0)]) (.block 4 (.loop zkbQ_l2))) (.seq (.region [
 o1 67 (.load (some 32) (tm 6)),
 o3 (.store 32 (tm 2) (tm 67))]) .ret)))))))))
def zkbQ : AFunc := ⟨68, [(2, some (some 32))], zkbQ_c, none⟩
theorem zkbQ_t0 : tableOf Tryz.prog 78 = some zkbQ := by kernel_rfl
theorem zkbQ_t : T0 78 = some zkbQ := withKept_t rfl (withTrue_t rfl zkbQ_t0)
theorem zkbQ_runs {v0 : Value} {h : Heap} {R : RP} {X : XP} (k : RunC Tryz.prog T0 zkbQ_c ⟨[v0, U, U, U, U, U, U, U, U, U, U, U, U, U, U, U, U, U, U, U, U, U, U, U, U, U, U, U, U, U, U, U, U, U, U, U, U, U, U, U, U, U, U, U, U, U, U, U, U, U, U, U, U, U, U, U, U, U, U, U, U, U, U, U, U, U, U, U], [], h, none⟩ (bodyQ Tryz.prog T0 [(2, some (some 32))] R X)) :
 Runs Tryz.prog T0 (.fn 78) [v0] h R X := Runs.fn zkbQ_t rfl k
def zkbQ_l0_J (f0 f1 f2 f4 f5 f6 f7 f8 f9 f10 f23 f24 f25 f26 f27 f28 f29 f30 f31 f32 f33 f34 f35 f36 f37 f38 f39 f40 f41 f42 f43 f44 f45 f46 f47 f48 f49 f50 f51 f52 f53 f54 f55 f56 f57 f58 f59 f60 f61 f62 f63 f64 f65 f66 f67 : Value) (ds : List Deferred) (rd : Option Nat) (I : Nat → Value → Heap → Prop) (m : Nat) (s : St) : Prop := ∃ (v3 : Value), ∃ h : Heap, ∃ (x11 x12 x13 x14 x15 x16 x17 x18 x19 x20 x21 x22 : Value), s = ⟨[f0, f1, f2, v3, f4, f5, f6, f7, f8, f9, f10, x11, x12, x13, x14, x15, x16, x17, x18, x19, x20, x21, x22, f23, f24, f25, f26, f27, f28, f29, f30, f31, f32, f33, f34, f35, f36, f37, f38, f39, f40, f41, f42, f43, f44, f45, f46, f47, f48, f49, f50, f51, f52, f53, f54, f55, f56, f57, f58, f59, f60, f61, f62, f63, f64, f65, f66, f67], ds, h, rd⟩ ∧ I m v3 h
theorem zkbQ_l0_rule {f0 f1 f2 f4 f5 f6 f7 f8 f9 f10 f23 f24 f25 f26 f27 f28 f29 f30 f31 f32 f33 f34 f35 f36 f37 f38 f39 f40 f41 f42 f43 f44 f45 f46 f47 f48 f49 f50 f51 f52 f53 f54 f55 f56 f57 f58 f59 f60 f61 f62 f63 f64 f65 f66 f67 : Value} {ds : List Deferred} {rd : Option Nat} {Q : QP} (I : Nat → Value → Heap → Prop) (hb : ∀ (m : Nat) (v3 : Value) (h : Heap) (x11 x12 x13 x14 x15 x16 x17 x18 x19 x20 x21 x22 : Value) , I m v3 h → RunC Tryz.prog T0 zkbQ_l0 ⟨[f0, f1, f2, v3, f4, f5, f6, f7, f8, f9, f10, x11, x12, x13, x14, x15, x16, x17, x18, x19, x20, x21, x22, f23, f24, f25, f26, f27, f28, f29, f30, f31, f32, f33, f34, f35, f36, f37, f38, f39, f40, f41, f42, f43, f44, f45, f46, f47, f48, f49, f50, f51, f52, f53, f54, f55, f56, f57, f58, f59, f60, f61, f62, f63, f64, f65, f66, f67], ds, h, rd⟩ (loopQ (zkbQ_l0_J f0 f1 f2 f4 f5 f6 f7 f8 f9 f10 f23 f24 f25 f26 f27 f28 f29 f30 f31 f32 f33 f34 f35 f36 f37 f38 f39 f40 f41 f42 f43 f44 f45 f46 f47 f48 f49 f50 f51 f52 f53 f54 f55 f56 f57 f58 f59 f60 f61 f62 f63 f64 f65 f66 f67 ds rd I) m Q))
 (m : Nat) {v3 : Value} {h : Heap} {x11 x12 x13 x14 x15 x16 x17 x18 x19 x20 x21 x22 : Value} (hi : I m v3 h) : RunC Tryz.prog T0 (.loop zkbQ_l0) ⟨[f0, f1, f2, v3, f4, f5, f6, f7, f8, f9, f10, x11, x12, x13, x14, x15, x16, x17, x18, x19, x20, x21, x22, f23, f24, f25, f26, f27, f28, f29, f30, f31, f32, f33, f34, f35, f36, f37, f38, f39, f40, f41, f42, f43, f44, f45, f46, f47, f48, f49, f50, f51, f52, f53, f54, f55, f56, f57, f58, f59, f60, f61, f62, f63, f64, f65, f66, f67], ds, h, rd⟩ Q :=
 RunC.loopJ (zkbQ_l0_J f0 f1 f2 f4 f5 f6 f7 f8 f9 f10 f23 f24 f25 f26 f27 f28 f29 f30 f31 f32 f33 f34 f35 f36 f37 f38 f39 f40 f41 f42 f43 f44 f45 f46 f47 f48 f49 f50 f51 f52 f53 f54 f55 f56 f57 f58 f59 f60 f61 f62 f63 f64 f65 f66 f67 ds rd I) (fun m s hj => by obtain ⟨v3, h, x11, x12, x13, x14, x15, x16, x17, x18, x19, x20, x21, x22, rfl, hi⟩ := hj; exact hb m v3 h x11 x12 x13 x14 x15 x16 x17 x18 x19 x20 x21 x22 hi) m _ ⟨_, h, _, _, _, _, _, _, _, _, _, _, _, _, rfl, hi⟩
theorem zkbQ_l0_again {f0 f1 f2 f4 f5 f6 f7 f8 f9 f10 f23 f24 f25 f26 f27 f28 f29 f30 f31 f32 f33 f34 f35 f36 f37 f38 f39 f40 f41 f42 f43 f44 f45 f46 f47 f48 f49 f50 f51 f52 f53 f54 f55 f56 f57 f58 f59 f60 f61 f62 f63 f64 f65 f66 f67 : Value} {ds : List Deferred} {rd : Option Nat} {Q : QP} {I : Nat → Value → Heap → Prop} {m : Nat} (m' : Nat) {v3 : Value} {h : Heap} {x11 x12 x13 x14 x15 x16 x17 x18 x19 x20 x21 x22 : Value} (hm : m' < m) (hi : I m' v3 h) : loopQ (zkbQ_l0_J f0 f1 f2 f4 f5 f6 f7 f8 f9 f10 f23 f24 f25 f26 f27 f28 f29 f30 f31 f32 f33 f34 f35 f36 f37 f38 f39 f40 f41 f42 f43 f44 f45 f46 f47 f48 f49 f50 f51 f52 f53 f54 f55 f56 f57 f58 f59 f60 f61 f62 f63 f64 f65 f66 f67 ds rd I) m Q .normal ⟨[f0, f1, f2, v3, f4, f5, f6, f7, f8, f9, f10, x11, x12, x13, x14, x15, x16, x17, x18, x19, x20, x21, x22, f23, f24, f25, f26, f27, f28, f29, f30, f31, f32, f33, f34, f35, f36, f37, f38, f39, f40, f41, f42, f43, f44, f45, f46, f47, f48, f49, f50, f51, f52, f53, f54, f55, f56, f57, f58, f59, f60, f61, f62, f63, f64, f65, f66, f67], ds, h, rd⟩ :=
 loopQ.again m' hm ⟨_, h, _, _, _, _, _, _, _, _, _, _, _, _, rfl, hi⟩
def zkbQ_l1_J (f0 f1 f2 f3 f4 f6 f7 f8 f9 f10 f11 f12 f13 f14 f15 f16 f17 f18 f19 f20 f21 f22 f23 f24 f25 f26 f27 f51 f52 f53 f54 f55 f56 f57 f58 f59 f60 f61 f62 f63 f64 f65 f66 f67 : Value) (ds : List Deferred) (rd : Option Nat) (I : Nat → Value → Heap → Prop) (m : Nat) (s : St) : Prop := ∃ (v5 : Value), ∃ h : Heap, ∃ (x28 x29 x30 x31 x32 x33 x34 x35 x36 x37 x38 x39 x40 x41 x42 x43 x44 x45 x46 x47 x48 x49 x50 : Value), s = ⟨[f0, f1, f2, f3, f4, v5, f6, f7, f8, f9, f10, f11, f12, f13, f14, f15, f16, f17, f18, f19, f20, f21, f22, f23, f24, f25, f26, f27, x28, x29, x30, x31, x32, x33, x34, x35, x36, x37, x38, x39, x40, x41, x42, x43, x44, x45, x46, x47, x48, x49, x50, f51, f52, f53, f54, f55, f56, f57, f58, f59, f60, f61, f62, f63, f64, f65, f66, f67], ds, h, rd⟩ ∧ I m v5 h
theorem zkbQ_l1_rule {f0 f1 f2 f3 f4 f6 f7 f8 f9 f10 f11 f12 f13 f14 f15 f16 f17 f18 f19 f20 f21 f22 f23 f24 f25 f26 f27 f51 f52 f53 f54 f55 f56 f57 f58 f59 f60 f61 f62 f63 f64 f65 f66 f67 : Value} {ds : List Deferred} {rd : Option Nat} {Q : QP} (I : Nat → Value → Heap → Prop) (hb : ∀ (m : Nat) (v5 : Value) (h : Heap) (x28 x29 x30 x31 x32 x33 x34 x35 x36 x37 x38 x39 x40 x41 x42 x43 x44 x45 x46 x47 x48 x49 x50 : Value) , I m v5 h → RunC Tryz.prog T0 zkbQ_l1 ⟨[f0, f1, f2, f3, f4, v5, f6, f7, f8, f9, f10, f11, f12, f13, f14, f15, f16, f17, f18, f19, f20, f21, f22, f23, f24, f25, f26, f27, x28, x29, x30, x31, x32, x33, x34, x35, x36, x37, x38, x39, x40, x41, x42, x43, x44, x45, x46, x47, x48, x49, x50, f51, f52, f53, f54, f55, f56, f57, f58, f59, f60, f61, f62, f63, f64, f65, f66, f67], ds, h, rd⟩ (loopQ (zkbQ_l1_J f0 f1 f2 f3 f4 f6 f7 f8 f9 f10 f11 f12 f13 f14 f15 f16 f17 f18 f19 f20 f21 f22 f23 f24 f25 f26 f27 f51 f52 f53 f54 f55 f56 f57 f58 f59 f60 f61 f62 f63 f64 f65 f66 f67 ds rd I) m Q))
 (m : Nat) {v5 : Value} {h : Heap} {x28 x29 x30 x31 x32 x33 x34 x35 x36 x37 x38 x39 x40 x41 x42 x43 x44 x45 x46 x47 x48 x49 x50 : Value} (hi : I m v5 h) : RunC Tryz.prog T0 (.loop zkbQ_l1) ⟨[f0, f1, f2, f3, f4, v5, f6, f7, f8, f9, f10, f11, f12, f13, f14, f15, f16, f17, f18, f19, f20, f21, f22, f23, f24, f25, f26, f27, x28, x29, x30, x31, x32, x33, x34, x35, x36, x37, x38, x39, x40, x41, x42, x43, x44, x45, x46, x47, x48, x49, x50, f51, f52, f53, f54, f55, f56, f57, f58, f59, f60, f61, f62, f63, f64, f65, f66, f67], ds, h, rd⟩ Q :=
 RunC.loopJ (zkbQ_l1_J f0 f1 f2 f3 f4 f6 f7 f8 f9 f10 f11 f12 f13 f14 f15 f16 f17 f18 f19 f20 f21 f22 f23 f24 f25 f26 f27 f51 f52 f53 f54 f55 f56 f57 f58 f59 f60 f61 f62 f63 f64 f65 f66 f67 ds rd I) (fun m s hj => by obtain ⟨v5, h, x28, x29, x30, x31, x32, x33, x34, x35, x36, x37, x38, x39, x40, x41, x42, x43, x44, x45, x46, x47, x48, x49, x50, rfl, hi⟩ := hj; exact hb m v5 h x28 x29 x30 x31 x32 x33 x34 x35 x36 x37 x38 x39 x40 x41 x42 x43 x44 x45 x46 x47 x48 x49 x50 hi) m _ ⟨_, h, _, _, _, _, _, _, _, _, _, _, _, _, _, _, _, _, _, _, _, _, _, _, _, rfl, hi⟩
theorem zkbQ_l1_again {f0 f1 f2 f3 f4 f6 f7 f8 f9 f10 f11 f12 f13 f14 f15 f16 f17 f18 f19 f20 f21 f22 f23 f24 f25 f26 f27 f51 f52 f53 f54 f55 f56 f57 f58 f59 f60 f61 f62 f63 f64 f65 f66 f67 : Value} {ds : List Deferred} {rd : Option Nat} {Q : QP} {I : Nat → Value → Heap → Prop} {m : Nat} (m' : Nat) {v5 : Value} {h : Heap} {x28 x29 x30 x31 x32 x33 x34 x35 x36 x37 x38 x39 x40 x41 x42 x43 x44 x45 x46 x47 x48 x49 x50 : Value} (hm : m' < m) (hi : I m' v5 h) : loopQ (zkbQ_l1_J f0 f1 f2 f3 f4 f6 f7 f8 f9 f10 f11 f12 f13 f14 f15 f16 f17 f18 f19 f20 f21 f22 f23 f24 f25 f26 f27 f51 f52 f53 f54 f55 f56 f57 f58 f59 f60 f61 f62 f63 f64 f65 f66 f67 ds rd I) m Q .normal ⟨[f0, f1, f2, f3, f4, v5, f6, f7, f8, f9, f10, f11, f12, f13, f14, f15, f16, f17, f18, f19, f20, f21, f22, f23, f24, f25, f26, f27, x28, x29, x30, x31, x32, x33, x34, x35, x36, x37, x38, x39, x40, x41, x42, x43, x44, x45, x46, x47, x48, x49, x50, f51, f52, f53, f54, f55, f56, f57, f58, f59, f60, f61, f62, f63, f64, f65, f66, f67], ds, h, rd⟩ :=
 loopQ.again m' hm ⟨_, h, _, _, _, _, _, _, _, _, _, _, _, _, _, _, _, _, _, _, _, _, _, _, _, rfl, hi⟩
def zkbQ_l2_J (f0 f1 f2 f3 f4 f5 f6 f8 f9 f10 f11 f12 f13 f14 f15 f16 f17 f18 f19 f20 f21 f22 f23 f24 f25 f26 f27 f28 f29 f30 f31 f32 f33 f34 f35 f36 f37 f38 f39 f40 f41 f42 f43 f44 f45 f46 f47 f48 f49 f50 f67 : Value) (ds : List Deferred) (rd : Option Nat) (I : Nat → Value → Heap → Prop) (m : Nat) (s : St) : Prop := ∃ (v7 : Value), ∃ h : Heap, ∃ (x51 x52 x53 x54 x55 x56 x57 x58 x59 x60 x61 x62 x63 x64 x65 x66 : Value), s = ⟨[f0, f1, f2, f3, f4, f5, f6, v7, f8, f9, f10, f11, f12, f13, f14, f15, f16, f17, f18, f19, f20, f21, f22, f23, f24, f25, f26, f27, f28, f29, f30, f31, f32, f33, f34, f35, f36, f37, f38, f39, f40, f41, f42, f43, f44, f45, f46, f47, f48, f49, f50, x51, x52, x53, x54, x55, x56, x57, x58, x59, x60, x61, x62, x63, x64, x65, x66, f67], ds, h, rd⟩ ∧ I m v7 h
theorem zkbQ_l2_rule {f0 f1 f2 f3 f4 f5 f6 f8 f9 f10 f11 f12 f13 f14 f15 f16 f17 f18 f19 f20 f21 f22 f23 f24 f25 f26 f27 f28 f29 f30 f31 f32 f33 f34 f35 f36 f37 f38 f39 f40 f41 f42 f43 f44 f45 f46 f47 f48 f49 f50 f67 : Value} {ds : List Deferred} {rd : Option Nat} {Q : QP} (I : Nat → Value → Heap → Prop) (hb : ∀ (m : Nat) (v7 : Value) (h : Heap) (x51 x52 x53 x54 x55 x56 x57 x58 x59 x60 x61 x62 x63 x64 x65 x66 : Value) , I m v7 h → RunC Tryz.prog T0 zkbQ_l2 ⟨[f0, f1, f2, f3, f4, f5, f6, v7, f8, f9, f10, f11, f12, f13, f14, f15, f16, f17, f18, f19, f20, f21, f22, f23, f24, f25, f26, f27, f28, f29, f30, f31, f32, f33, f34, f35, f36, f37, f38, f39, f40, f41, f42, f43, f44, f45, f46, f47, f48, f49, f50, x51, x52, x53, x54, x55, x56, x57, x58, x59, x60, x61, x62, x63, x64, x65, x66, f67], ds, h, rd⟩ (loopQ (zkbQ_l2_J f0 f1 f2 f3 f4 f5 f6 f8 f9 f10 f11 f12 f13 f14 f15 f16 f17 f18 f19 f20 f21 f22 f23 f24 f25 f26 f27 f28 f29 f30 f31 f32 f33 f34 f35 f36 f37 f38 f39 f40 f41 f42 f43 f44 f45 f46 f47 f48 f49 f50 f67 ds rd I) m Q))
 (m : Nat) {v7 : Value} {h : Heap} {x51 x52 x53 x54 x55 x56 x57 x58 x59 x60 x61 x62 x63 x64 x65 x66 : Value} (hi : I m v7 h) : RunC Tryz.prog T0 (.loop zkbQ_l2) ⟨[f0, f1, f2, f3, f4, f5, f6, v7, f8, f9, f10, f11, f12, f13, f14, f15, f16, f17, f18, f19, f20, f21, f22, f23, f24, f25, f26, f27, f28, f29, f30, f31, f32, f33, f34, f35, f36, f37, f38, f39, f40, f41, f42, f43, f44, f45, f46, f47, f48, f49, f50, x51, x52, x53, x54, x55, x56, x57, x58, x59, x60, x61, x62, x63, x64, x65, x66, f67], ds, h, rd⟩ Q :=
 RunC.loopJ (zkbQ_l2_J f0 f1 f2 f3 f4 f5 f6 f8 f9 f10 f11 f12 f13 f14 f15 f16 f17 f18 f19 f20 f21 f22 f23 f24 f25 f26 f27 f28 f29 f30 f31 f32 f33 f34 f35 f36 f37 f38 f39 f40 f41 f42 f43 f44 f45 f46 f47 f48 f49 f50 f67 ds rd I) (fun m s hj => by obtain ⟨v7, h, x51, x52, x53, x54, x55, x56, x57, x58, x59, x60, x61, x62, x63, x64, x65, x66, rfl, hi⟩ := hj; exact hb m v7 h x51 x52 x53 x54 x55 x56 x57 x58 x59 x60 x61 x62 x63 x64 x65 x66 hi) m _ ⟨_, h, _, _, _, _, _, _, _, _, _, _, _, _, _, _, _, _, rfl, hi⟩
theorem zkbQ_l2_again {f0 f1 f2 f3 f4 f5 f6 f8 f9 f10 f11 f12 f13 f14 f15 f16 f17 f18 f19 f20 f21 f22 f23 f24 f25 f26 f27 f28 f29 f30 f31 f32 f33 f34 f35 f36 f37 f38 f39 f40 f41 f42 f43 f44 f45 f46 f47 f48 f49 f50 f67 : Value} {ds : List Deferred} {rd : Option Nat} {Q : QP} {I : Nat → Value → Heap → Prop} {m : Nat} (m' : Nat) {v7 : Value} {h : Heap} {x51 x52 x53 x54 x55 x56 x57 x58 x59 x60 x61 x62 x63 x64 x65 x66 : Value} (hm : m' < m) (hi : I m' v7 h) : loopQ (zkbQ_l2_J f0 f1 f2 f3 f4 f5 f6 f8 f9 f10 f11 f12 f13 f14 f15 f16 f17 f18 f19 f20 f21 f22 f23 f24 f25 f26 f27 f28 f29 f30 f31 f32 f33 f34 f35 f36 f37 f38 f39 f40 f41 f42 f43 f44 f45 f46 f47 f48 f49 f50 f67 ds rd I) m Q .normal ⟨[f0, f1, f2, f3, f4, f5, f6, v7, f8, f9, f10, f11, f12, f13, f14, f15, f16, f17, f18, f19, f20, f21, f22, f23, f24, f25, f26, f27, f28, f29, f30, f31, f32, f33, f34, f35, f36, f37, f38, f39, f40, f41, f42, f43, f44, f45, f46, f47, f48, f49, f50, x51, x52, x53, x54, x55, x56, x57, x58, x59, x60, x61, x62, x63, x64, x65, x66, f67], ds, h, rd⟩ :=
 loopQ.again m' hm ⟨_, h, _, _, _, _, _, _, _, _, _, _, _, _, _, _, _, _, rfl, hi⟩
abbrev fn_zhbQ : FuncId := 79
def zhbQ_l0 : ACode :=
 (.seq (.seq (.region [
 o1 12 (.mov (tm 5)),
 o1 13 (.mov (tm 12)),
 o4 14 (.mov (tm 6)) 13,
 o4 15 (.mov (tm 0)) 13,
 o4 16 (.lenSl (tm 15)) 13,
 o4 17 (.bin .lss (so (.binOp .lss 3 (tm 14) (tm 16) 3) 4) (tm 14) (tm 16)) 13,
 o1 18 (.pick (tm 13) (tm 17) (.const (.bool false)))]) (.cond (tm 18)
 .skip
 (.exit 0))) (.seq (.block 1 (.regionD [
 o1 21 (.mov (tm 0)),
 o1 22 (.mov (tm 6)),
 o1 23 (.indexSl 2 (tm 21) (tm 22)),
 o1 24 (.load (some 2) (tm 23)),
 o1 25 (.mov (tm 1)),
 o1 26 (.mov (tm 6)),
 o1 27 (.indexSl 2 (tm 25) (tm 26)),
 o1 28 (.load (some 2) (tm 27)),
 o2 29 (.bin .eql (so (.binOp .eql 109 (tm 24) (tm 28) 109) 4) (tm 24) (tm 28)),
 o2 5 (.mov (tm 29))])) (.region [
 o1 19 (.mov (tm 6)),
 o1 20 (.bin .add (so (.binOp .add 3 (tm 19) (.const (.int .i64 1)) 3) 3) (tm 19) (.const (.int .i64 1))),
 o1 6 (.mov (tm 20))])))
def zhbQ_c : ACode :=
 (.seq (.region [
 o1 4 (.mov (.const (.bool false)))]) (.seq (.region [
 o1 7 (.mov (tm 0)),
 o1 8 (.lenSl (tm 7)),
 o1 9 (.mov (tm 1)),
 o1 10 (.lenSl (tm 9)),
 o1 11 (.bin .eql (so (.binOp .eql 3 (tm 8) (tm 10) 3) 4) (tm 8) (tm 10)),
 o1 5 (.mov (tm 11))]) (.seq (.seq (.region [
 o1 6 (.mov k0)]) (.block 0 (.loop zhbQ_l0))) (.seq (.region [
 o1 30 (.mov (tm 5)),
 o1 4 (.mov (tm 30))]) .ret))))
def zhbQ : AFunc := ⟨31, [(4, none)], zhbQ_c, none⟩
theorem zhbQ_t0 : tableOf Tryz.prog 79 = some zhbQ := by kernel_rfl
theorem zhbQ_t : T0 79 = some zhbQ := withKept_t rfl (withTrue_t rfl zhbQ_t0)
theorem zhbQ_runs {v0 v1 : Value} {h : Heap} {R : RP} {X : XP} (k : RunC Tryz.prog T0 zhbQ_c ⟨[v0, v1, U, U, U, U, U, U, U, U, U, U, U, U, U, U, U, U, U, U, U, U, U, U, U, U, U, U, U, U, U], [], h, none⟩ (bodyQ Tryz.prog T0 [(4, none)] R X)) :
 Runs Tryz.prog T0 (.fn 79) [v0, v1] h R X := Runs.fn zhbQ_t rfl k
def zhbQ_l0_J (f0 f1 f2 f3 f4 f7 f8 f9 f10 f11 f30 : Value) (ds : List Deferred) (rd : Option Nat) (I : Nat → Value → Value → Heap → Prop) (m : Nat) (s : St) : Prop := ∃ (v5 v6 : Value), ∃ h : Heap, ∃ (x12 x13 x14 x15 x16 x17 x18 x19 x20 x21 x22 x23 x24 x25 x26 x27 x28 x29 : Value), s = ⟨[f0, f1, f2, f3, f4, v5, v6, f7, f8, f9, f10, f11, x12, x13, x14, x15, x16, x17, x18, x19, x20, x21, x22, x23, x24, x25, x26, x27, x28, x29, f30], ds, h, rd⟩ ∧ I m v5 v6 h
theorem zhbQ_l0_rule {f0 f1 f2 f3 f4 f7 f8 f9 f10 f11 f30 : Value} {ds : List Deferred} {rd : Option Nat} {Q : QP} (I : Nat → Value → Value → Heap → Prop) (hb : ∀ (m : Nat) (v5 v6 : Value) (h : Heap) (x12 x13 x14 x15 x16 x17 x18 x19 x20 x21 x22 x23 x24 x25 x26 x27 x28 x29 : Value) , I m v5 v6 h → RunC Tryz.prog T0 zhbQ_l0 ⟨[f0, f1, f2, f3, f4, v5, v6, f7, f8, f9, f10, f11, x12, x13, x14, x15, x16, x17, x18, x19, x20, x21, x22, x23, x24, x25, x26, x27, x28, x29, f30], ds, h, rd⟩ (loopQ (zhbQ_l0_J f0 f1 f2 f3 f4 f7 f8 f9 f10 f11 f30 ds rd I) m Q))
 (m : Nat) {v5 v6 : Value} {h : Heap} {x12 x13 x14 x15 x16 x17 x18 x19 x20 x21 x22 x23 x24 x25 x26 x27 x28 x29 : Value} (hi : I m v5 v6 h) : RunC Tryz.prog T0 (.loop zhbQ_l0) ⟨[f0, f1, f2, f3, f4, v5, v6, f7, f8, f9, f10, f11, x12, x13, x14, x15, x16, x17, x18, x19, x20, x21, x22, x23, x24, x25, x26, x27, x28, x29, f30], ds, h, rd⟩ Q :=
 RunC.loopJ (zhbQ_l0_J f0 f1 f2 f3 f4 f7 f8 f9 f10 f11 f30 ds rd I) (fun m s hj => by obtain ⟨v5, v6, h, x12, x13, x14, x15, x16, x17, x18, x19, x20, x21, x22, x23, x24, x25, x26, x27, x28, x29, rfl, hi⟩ := hj; exact hb m v5 v6 h x12 x13 x14 x15 x16 x17 x18 x19 x20 x21 x22 x23 x24 x25 x26 x27 x28 x29 hi) m _ ⟨_, _, h, _, _, _, _, _, _, _, _, _, _, _, _, _, _, _, _, _, _, rfl, hi⟩
theorem zhbQ_l0_again {f0 f1 f2 f3 f4 f7 f8 f9 f10 f11 f30 : Value} {ds : List Deferred} {rd : Option Nat} {Q : QP} {I : Nat → Value → Value → Heap → Prop} {m : Nat} (m' : Nat) {v5 v6 : Value} {h : Heap} {x12 x13 x14 x15 x16 x17 x18 x19 x20 x21 x22 x23 x24 x25 x26 x27 x28 x29 : Value} (hm : m' < m) (hi : I m' v5 v6 h) : loopQ (zhbQ_l0_J f0 f1 f2 f3 f4 f7 f8 f9 f10 f11 f30 ds rd I) m Q .normal ⟨[f0, f1, f2, f3, f4, v5, v6, f7, f8, f9, f10, f11, x12, x13, x14, x15, x16, x17, x18, x19, x20, x21, x22, x23, x24, x25, x26, x27, x28, x29, f30], ds, h, rd⟩ :=
 loopQ.again m' hm ⟨_, _, h, _, _, _, _, _, _, _, _, _, _, _, _, _, _, _, _, _, _, rfl, hi⟩
abbrev fn_zlcQ : FuncId := 80
def zlcQ_c : ACode :=
 (.seq (.region [
 o1 2 (.mov (.const (.slice none 0 0)))]) (.seq (.seq (.region [
 o1 3 (.mov (tm 0)),
 o1 4 (.eq .slice false (so (.binOp .eql 41 (tm 3) (.const (.slice none 0 0)) 41) 4) (tm 3) (.const (.slice none 0 0)))]) (.cond (tm 4)
 (.seq (.region [
 o1 2 (.mov (.const (.slice none 0 0)))]) .ret)
 .skip)) (.seq (.region [
 o1 5 (.buildSlice 5 [] 0 []),
 o1 6 (.mov (tm 0)),
 o1 7 (.append 5 1 1 [(.int .u8 0)] false (tm 5) (tm 6)),
 o1 2 (.mov (tm 7))]) .ret)))
def zlcQ : AFunc := ⟨8, [(2, none)], zlcQ_c, none⟩
theorem zlcQ_t0 : tableOf Tryz.prog 80 = some zlcQ := by kernel_rfl
theorem zlcQ_t : T0 80 = some zlcQ := withKept_t rfl (withTrue_t rfl zlcQ_t0)
theorem zlcQ_runs {v0 : Value} {h : Heap} {R : RP} {X : XP} (k : RunC Tryz.prog T0 zlcQ_c ⟨[v0, U, U, U, U, U, U, U], [], h, none⟩ (bodyQ Tryz.prog T0 [(2, none)] R X)) :
 Runs Tryz.prog T0 (.fn 80) [v0] h R X := Runs.fn zlcQ_t rfl k
abbrev fn_zsQ : FuncId := 85
def zsQ_c : ACode :=
 (.seq (.region [
 o1 2 (.alloc 119 [(.pointer none), (.pointer none), (.pointer none), (.pointer none)])]) (.seq (.regionD [
 o1 3 (.mov (tm 0)),
 o1 4 (.nilCheck (tm 3)),
 o1 5 (.fieldAddr 3 (tm 4)),
 o1 6 (.mov (tm 0)),
 o1 7 (.nilCheck (tm 6)),
 o1 8 (.fieldAddr 35 (tm 7)),
 o1 9 (.mov (tm 0)),
 o1 10 (.nilCheck (tm 9)),
 o1 11 (.fieldAddr 67 (tm 10)),
 o1 12 (.mov (tm 0)),
 o1 13 (.nilCheck (tm 12)),
 o1 14 (.fieldAddr 99 (tm 13)),
 o2 15 (.build [(.pointer none), (.pointer none), (.pointer none), (.pointer none)] [(0, 1, (tm 5)), (1, 1, (tm 8)), (2, 1, (tm 11)), (3, 1, (tm 14))]),
 ⟨none, .store 4 (tm 2) (tm 15), none, [], true⟩]) .ret))
def zsQ : AFunc := ⟨16, [(2, some (some 4))], zsQ_c, none⟩
theorem zsQ_t0 : tableOf Tryz.prog 85 = some zsQ := by kernel_rfl
theorem zsQ_t : T0 85 = some zsQ := withKept_t rfl (withTrue_t rfl zsQ_t0)
theorem zsQ_runs {v0 : Value} {h : Heap} {R : RP} {X : XP} (k : RunC Tryz.prog T0 zsQ_c ⟨[v0, U, U, U, U, U, U, U, U, U, U, U, U, U, U, U], [], h, none⟩ (bodyQ Tryz.prog T0 [(2, some (some 4))] R X)) :
 Runs Tryz.prog T0 (.fn 85) [v0] h R X := Runs.fn zsQ_t rfl k
abbrev fn_znQ : FuncId := 87
def znQ_l0 : ACode :=
 (.seq (.region [
 o1 8 (.bin .lss (so (.binOp .lss 3 (tm 7) (tm 6) 3) 0) (tm 7) (tm 6))]) (.seq (.cond (tm 8)
 .skip
 (.exit 0)) (.seq (.block 1 (.seq (.region [
 o1 9 (.indexSl 2 (tm 5) (tm 7)),
 o1 10 (.load (some 2) (tm 9)),
 o1 4 (.alloc 168 [.nilFunc, (.int .i64 0)]),
 o3 (.store 2 (tm 4) (tm 10))]) (.seq (.region [
 o1 11 (.fieldAddr 0 (tm 4)),
 o1 12 (.load none (tm 11)),
 o1 13 (.load (some 131) (tm 1)),
 o1 14 (.callV (tm 12) [(tm 13)]),
 o1 15 (.raw (so (.unOp .not 4 (tm 14)) 4))]) (.cond (tm 15)
 (.seq (.region [
 o1 16 (.fieldAddr 1 (tm 4)),
 o1 17 (.load none (tm 16)),
 o1 2 (.mov (tm 17))]) .ret)
 .skip)))) (.region [
 o1 18 (.bin .add (so (.binOp .add 3 (tm 7) (.const (.int .i64 1)) 3) 3) (tm 7) (.const (.int .i64 1))),
 o1 7 (.mov (tm 18))]))))
def znQ_c : ACode :=
 (.seq (.region [
 o1 1 (.box 25 (tm 0)),
 o1 2 (.mov k0)]) (.seq (.seq (.region [
 o1 5 (.callV (.func 139) []),
 o1 6 (.lenSl (tm 5)),
 o1 7 (.mov k0)]) (.block 0 (.loop znQ_l0))) (.seq (.region [
 o1 2 (.mov k0)]) .ret)))
def znQ : AFunc := ⟨19, [(2, none)], znQ_c, none⟩
theorem znQ_t0 : tableOf Tryz.prog 87 = some znQ := by kernel_rfl
theorem znQ_t : T0 87 = some znQ := withKept_t rfl (withTrue_t rfl znQ_t0)
theorem znQ_runs {v0 : Value} {h : Heap} {R : RP} {X : XP} (k : RunC Tryz.prog T0 znQ_c ⟨[v0, U, U, U, U, U, U, U, U, U, U, U, U, U, U, U, U, U, U], [], h, none⟩ (bodyQ Tryz.prog T0 [(2, none)] R X)) :
 Runs Tryz.prog T0 (.fn 87) [v0] h R X := Runs.fn znQ_t rfl k
def znQ_l0_J (f0 f1 f3 f5 f6 : Value) (ds : List Deferred) (rd : Option Nat) (I : Nat → Value → Heap → Prop) (m : Nat) (s : St) : Prop := ∃ (v7 : Value), ∃ h : Heap, ∃ (x2 x4 x8 x9 x10 x11 x12 x13 x14 x15 x16 x17 x18 : Value), s = ⟨[f0, f1, x2, f3, x4, f5, f6, v7, x8, x9, x10, x11, x12, x13, x14, x15, x16, x17, x18], ds, h, rd⟩ ∧ I m v7 h
theorem znQ_l0_rule {f0 f1 f3 f5 f6 : Value} {ds : List Deferred} {rd : Option Nat} {Q : QP} (I : Nat → Value → Heap → Prop) (hb : ∀ (m : Nat) (v7 : Value) (h : Heap) (x2 x4 x8 x9 x10 x11 x12 x13 x14 x15 x16 x17 x18 : Value) , I m v7 h → RunC Tryz.prog T0 znQ_l0 ⟨[f0, f1, x2, f3, x4, f5, f6, v7, x8, x9, x10, x11, x12, x13, x14, x15, x16, x17, x18], ds, h, rd⟩ (loopQ (znQ_l0_J f0 f1 f3 f5 f6 ds rd I) m Q))
 (m : Nat) {v7 : Value} {h : Heap} {x2 x4 x8 x9 x10 x11 x12 x13 x14 x15 x16 x17 x18 : Value} (hi : I m v7 h) : RunC Tryz.prog T0 (.loop znQ_l0) ⟨[f0, f1, x2, f3, x4, f5, f6, v7, x8, x9, x10, x11, x12, x13, x14, x15, x16, x17, x18], ds, h, rd⟩ Q :=
 RunC.loopJ (znQ_l0_J f0 f1 f3 f5 f6 ds rd I) (fun m s hj => by obtain ⟨v7, h, x2, x4, x8, x9, x10, x11, x12, x13, x14, x15, x16, x17, x18, rfl, hi⟩ := hj; exact hb m v7 h x2 x4 x8 x9 x10 x11 x12 x13 x14 x15 x16 x17 x18 hi) m _ ⟨_, h, _, _, _, _, _, _, _, _, _, _, _, _, _, rfl, hi⟩
theorem znQ_l0_again {f0 f1 f3 f5 f6 : Value} {ds : List Deferred} {rd : Option Nat} {Q : QP} {I : Nat → Value → Heap → Prop} {m : Nat} (m' : Nat) {v7 : Value} {h : Heap} {x2 x4 x8 x9 x10 x11 x12 x13 x14 x15 x16 x17 x18 : Value} (hm : m' < m) (hi : I m' v7 h) : loopQ (znQ_l0_J f0 f1 f3 f5 f6 ds rd I) m Q .normal ⟨[f0, f1, x2, f3, x4, f5, f6, v7, x8, x9, x10, x11, x12, x13, x14, x15, x16, x17, x18], ds, h, rd⟩ :=
 loopQ.again m' hm ⟨_, h, _, _, _, _, _, _, _, _, _, _, _, _, _, rfl, hi⟩
abbrev fn_zdcQ : FuncId := 95
def zdcQ_c : ACode :=
 (.seq (.region [
 o1 1 (.box 25 (tm 0)),
 o1 2 (.mov k0)]) (.seq (.block 0 (.seq (.region [
 o1 4 (.fieldAddr 0 (tm 1)),
 o1 5 (.load none (tm 4)),
 o1 6 (.callV (.func 150) [(tm 5)]),
 o1 7 (.raw (so (.unOp .not 4 (tm 6)) 4)),
 o1 3 (.mov (tm 7))]) (.cond (tm 3)
 (.seq (.region [
 o1 2 (.mov (.const (.int .i64 5)))]) .ret)
 (.seq (.region [
 o1 9 (.fieldAddr 1 (tm 1)),
 o1 10 (.load none (tm 9)),
 o1 11 (.bin .lss (so (.binOp .lss 3 (tm 10) (.const (.int .i64 1)) 3) 4) (tm 10) (.const (.int .i64 1))),
 o1 12 (.mov (tm 11)),
 o5 13 (.fieldAddr 1 (tm 1)) 12,
 o5 14 (.load none (tm 13)) 12,
 o5 15 (.bin .gtr (so (.binOp .gtr 3 (tm 14) (.const (.int .i64 1073741824)) 3) 4) (tm 14) (.const (.int .i64 1073741824))) 12,
 o1 16 (.pick (tm 12) (.const (.bool true)) (tm 15)),
 o1 17 (.mov (tm 16)),
 o5 18 (.fieldAddr 2 (tm 1)) 17,
 o5 19 (.load none (tm 18)) 17,
 o5 20 (.bin .lss (so (.binOp .lss 3 (tm 19) k0 3) 4) (tm 19) k0) 17,
 o1 21 (.pick (tm 17) (.const (.bool true)) (tm 20)),
 o1 22 (.mov (tm 21)),
 o5 23 (.fieldAddr 2 (tm 1)) 22,
 o5 24 (.load none (tm 23)) 22,
 o5 25 (.bin .gtr (so (.binOp .gtr 3 (tm 24) (.const (.int .i64 1099511627776)) 3) 4) (tm 24) (.const (.int .i64 1099511627776))) 22,
 o1 26 (.pick (tm 22) (.const (.bool true)) (tm 25)),
 o1 8 (.mov (tm 26))]) (.cond (tm 8)
 (.seq (.region [
 o1 2 (.mov (.const (.int .i64 3)))]) .ret)
 .skip))))) (.seq (.region [
 o1 2 (.mov k0)]) .ret)))
def zdcQ : AFunc := ⟨27, [(2, none)], zdcQ_c, none⟩
theorem zdcQ_t0 : tableOf Tryz.prog 95 = some zdcQ := by kernel_rfl
theorem zdcQ_t : T0 95 = some zdcQ := withKept_t rfl (withTrue_t rfl zdcQ_t0)
theorem zdcQ_runs {v0 : Value} {h : Heap} {R : RP} {X : XP} (k : RunC Tryz.prog T0 zdcQ_c ⟨[v0, U, U, U, U, U, U, U, U, U, U, U, U, U, U, U, U, U, U, U, U, U, U, U, U, U, U], [], h, none⟩ (bodyQ Tryz.prog T0 [(2, none)] R X)) :
 Runs Tryz.prog T0 (.fn 95) [v0] h R X := Runs.fn zdcQ_t rfl k
abbrev fn_zzbQ : FuncId := 101
def zzbQ_l0 : ACode :=
 (.seq (.seq (.region [
 o1 12 (.mov (tm 3)),
 o1 13 (.mov (tm 0)),
 o1 14 (.lenSl (tm 13)),
 o1 15 (.bin .lss (so (.binOp .lss 3 (tm 12) (tm 14) 3) 4) (tm 12) (tm 14))]) (.cond (tm 15)
 .skip
 (.exit 1))) (.seq (.block 2 (.block 3 (.seq (.regionD [
 o2 19 (.mov (tm 3)),
 o2 20 (.bin .gtr (so (.binOp .gtr 3 (tm 19) k0 3) 4) (tm 19) k0),
 o2 21 (.mov (tm 20)),
 o4 22 (.mov (tm 0)) 21,
 o4 23 (.mov (tm 3)) 21,
 o4 24 (.bin .sub (so (.binOp .sub 3 (tm 23) (.const (.int .i64 1)) 3) 3) (tm 23) (.const (.int .i64 1))) 21,
 o4 25 (.indexSl 5 (tm 22) (tm 24)) 21,
 o4 26 (.fieldAddr 0 (tm 25)) 21,
 o4 27 (.load (some 4) (tm 26)) 21,
 o4 28 (.mov (tm 0)) 21,
 o4 29 (.mov (tm 3)) 21,
 o4 30 (.indexSl 5 (tm 28) (tm 29)) 21,
 o4 31 (.fieldAddr 0 (tm 30)) 21,
 o4 32 (.load (some 4) (tm 31)) 21,
 ⟨some 33, .callV (.func 151) [(tm 27), (tm 32)], some (21, true), [], true⟩,
 ⟨some 34, .raw (so (.unOp .not 4 (tm 33)) 4), some (21, true), [], true⟩,
 o2 35 (.pick (tm 21) (tm 34) (.const (.bool false))),
 o2 18 (.mov (tm 35))]) (.cond (tm 18)
 (.seq (.region [
 o1 2 (.mov (.const (.int .i64 9)))]) .ret)
 (.seq (.region [
 o1 37 (.mov (tm 0)),
 o1 38 (.mov (tm 3)),
 o1 39 (.indexSl 5 (tm 37) (tm 38)),
 o1 40 (.fieldAddr 4 (tm 39)),
 o1 41 (.load none (tm 40)),
 o1 42 (.bin .lss (so (.binOp .lss 3 (tm 41) (.const (.int .i64 1)) 3) 4) (tm 41) (.const (.int .i64 1))),
 o1 43 (.mov (tm 42)),
 o5 44 (.mov (tm 0)) 43,
 o5 45 (.mov (tm 3)) 43,
 o5 46 (.indexSl 5 (tm 44) (tm 45)) 43,
 o5 47 (.fieldAddr 4 (tm 46)) 43,
 o5 48 (.load none (tm 47)) 43,
 o5 49 (.bin .gtr (so (.binOp .gtr 3 (tm 48) (.const (.int .i64 4611686018427387904)) 3) 4) (tm 48) (.const (.int .i64 4611686018427387904))) 43,
 o1 50 (.pick (tm 43) (.const (.bool true)) (tm 49)),
 o1 36 (.mov (tm 50))]) (.cond (tm 36)
 (.seq (.region [
 o1 2 (.mov (.const (.int .i64 3)))]) .ret)
 .skip)))))) (.region [
 o1 16 (.mov (tm 3)),
 o1 17 (.bin .add (so (.binOp .add 3 (tm 16) (.const (.int .i64 1)) 3) 3) (tm 16) (.const (.int .i64 1))),
 o1 3 (.mov (tm 17))])))
def zzbQ_c : ACode :=
 (.seq (.region [
 o1 2 (.mov k0)]) (.seq (.block 0 (.seq (.region [
 o1 5 (.mov (tm 0)),
 o1 6 (.lenSl (tm 5)),
 o1 7 (.bin .eql (so (.binOp .eql 3 (tm 6) k0 3) 4) (tm 6) k0),
 o1 4 (.mov (tm 7))]) (.cond (tm 4)
 (.seq (.region [
 o1 2 (.mov (.const (.int .i64 6)))]) .ret)
 (.seq (.region [
 o1 9 (.mov (tm 0)),
 o1 10 (.lenSl (tm 9)),
 o1 11 (.bin .gtr (so (.binOp .gtr 3 (tm 10) (.const (.int .i64 64)) 3) 4) (tm 10) (.const (.int .i64 64))),
 o1 8 (.mov (tm 11))]) (.cond (tm 8)
 (.seq (.region [
 o1 2 (.mov (.const (.int .i64 4)))]) .ret)
 .skip))))) (.seq (.seq (.region [
 o1 3 (.mov k0)]) (.block 1 (.loop zzbQ_l0))) (.seq (.region [
 o1 2 (.mov k0)]) .ret))))
def zzbQ : AFunc := ⟨51, [(2, none)], zzbQ_c, none⟩
theorem zzbQ_t0 : tableOf Tryz.prog 101 = some zzbQ := by kernel_rfl
theorem zzbQ_t : T0 101 = some zzbQ := withKept_t rfl (withTrue_t rfl zzbQ_t0)
theorem zzbQ_runs {v0 : Value} {h : Heap} {R : RP} {X : XP} (k : RunC Tryz.prog T0 zzbQ_c ⟨[v0, U, U, U, U, U, U, U, U, U, U, U, U, U, U, U, U, U, U, U, U, U, U, U, U, U, U, U, U, U, U, U, U, U, U, U, U, U, U, U, U, U, U, U, U, U, U, U, U, U, U], [], h, none⟩ (bodyQ Tryz.prog T0 [(2, none)] R X)) :
 Runs Tryz.prog T0 (.fn 101) [v0] h R X := Runs.fn zzbQ_t rfl k
def zzbQ_l0_J (f0 f1 f4 f5 f6 f7 f8 f9 f10 f11 : Value) (ds : List Deferred) (rd : Option Nat) (I : Nat → Value → Heap → Prop) (m : Nat) (s : St) : Prop := ∃ (v3 : Value), ∃ h : Heap, ∃ (x2 x12 x13 x14 x15 x16 x17 x18 x19 x20 x21 x22 x23 x24 x25 x26 x27 x28 x29 x30 x31 x32 x33 x34 x35 x36 x37 x38 x39 x40 x41 x42 x43 x44 x45 x46 x47 x48 x49 x50 : Value), s = ⟨[f0, f1, x2, v3, f4, f5, f6, f7, f8, f9, f10, f11, x12, x13, x14, x15, x16, x17, x18, x19, x20, x21, x22, x23, x24, x25, x26, x27, x28, x29, x30, x31, x32, x33, x34, x35, x36, x37, x38, x39, x40, x41, x42, x43, x44, x45, x46, x47, x48, x49, x50], ds, h, rd⟩ ∧ I m v3 h
theorem zzbQ_l0_rule {f0 f1 f4 f5 f6 f7 f8 f9 f10 f11 : Value} {ds : List Deferred} {rd : Option Nat} {Q : QP} (I : Nat → Value → Heap → Prop) (hb : ∀ (m : Nat) (v3 : Value) (h : Heap) (x2 x12 x13 x14 x15 x16 x17 x18 x19 x20 x21 x22 x23 x24 x25 x26 x27 x28 x29 x30 x31 x32 x33 x34 x35 x36 x37 x38 x39 x40 x41 x42 x43 x44 x45 x46 x47 x48 x49 x50 : Value) , I m v3 h → RunC Tryz.prog T0 zzbQ_l0 ⟨[f0, f1, x2, v3, f4, f5, f6, f7, f8, f9, f10, f11, x12, x13, x14, x15, x16, x17, x18, x19, x20, x21, x22, x23, x24, x25, x26, x27, x28, x29, x30, x31, x32, x33, x34, x35, x36, x37, x38, x39, x40, x41, x42, x43, x44, x45, x46, x47, x48, x49, x50], ds, h, rd⟩ (loopQ (zzbQ_l0_J f0 f1 f4 f5 f6 f7 f8 f9 f10 f11 ds rd I) m Q))
 (m : Nat) {v3 : Value} {h : Heap} {x2 x12 x13 x14 x15 x16 x17 x18 x19 x20 x21 x22 x23 x24 x25 x26 x27 x28 x29 x30 x31 x32 x33 x34 x35 x36 x37 x38 x39 x40 x41 x42 x43 x44 x45 x46 x47 x48 x49 x50 : Value} (hi : I m v3 h) : RunC Tryz.prog T0 (.loop zzbQ_l0) ⟨[f0, f1, x2, v3, f4, f5, f6, f7, f8, f9, f10, f11, x12, x13, x14, x15, x16, x17, x18, x19, x20, x21, x22, x23, x24, x25, x26, x27, x28, x29, x30, x31, x32, x33, x34, x35, x36, x37, x38, x39, x40, x41, x42, x43, x44, x45, x46, x47, x48, x49, x50], ds, h, rd⟩ Q :=
 RunC.loopJ (zzbQ_l0_J f0 f1 f4 f5 f6 f7 f8 f9 f10 f11 ds rd I) (fun m s hj => by obtain ⟨v3, h, x2, x12, x13, x14, x15, x16, x17, x18, x19, x20, x21, x22, x23, x24, x25, x26, x27, x28, x29, x30, x31, x32, x33, x34, x35, x36, x37, x38, x39, x40, x41, x42, x43, x44, x45, x46, x47, x48, x49, x50, rfl, hi⟩ := hj; exact hb m v3 h x2 x12 x13 x14 x15 x16 x17 x18 x19 x20 x21 x22 x23 x24 x25 x26 x27 x28 x29 x30 x31 x32 x33 x34 x35 x36 x37 x38 x39 x40 x41 x42 x43 x44 x45 x46 x47 x48 x49 x50 hi) m _ ⟨_, h, _, _, _, _, _, _, _, _, _, _, _, _, _, _, _, _, _, _, _, _, _, _, _, _, _, _, _, _, _, _, _, _, _, _, _, _, _, _, _, _, rfl, hi⟩
theorem zzbQ_l0_again {f0 f1 f4 f5 f6 f7 f8 f9 f10 f11 : Value} {ds : List Deferred} {rd : Option Nat} {Q : QP} {I : Nat → Value → Heap → Prop} {m : Nat} (m' : Nat) {v3 : Value} {h : Heap} {x2 x12 x13 x14 x15 x16 x17 x18 x19 x20 x21 x22 x23 x24 x25 x26 x27 x28 x29 x30 x31 x32 x33 x34 x35 x36 x37 x38 x39 x40 x41 x42 x43 x44 x45 x46 x47 x48 x49 x50 : Value} (hm : m' < m) (hi : I m' v3 h) : loopQ (zzbQ_l0_J f0 f1 f4 f5 f6 f7 f8 f9 f10 f11 ds rd I) m Q .normal ⟨[f0, f1, x2, v3, f4, f5, f6, f7, f8, f9, f10, f11, x12, x13, x14, x15, x16, x17, x18, x19, x20, x21, x22, x23, x24, x25, x26, x27, x28, x29, x30, x31, x32, x33, x34, x35, x36, x37, x38, x39, x40, x41, x42, x43, x44, x45, x46, x47, x48, x49, x50], ds, h, rd⟩ :=
 loopQ.again m' hm ⟨_, h, _, _, _, _, _, _, _, _, _, _, _, _, _, _, _, _, _, _, _, _, _, _, _, _, _, _, _, _, _, _, _, _, _, _, _, _, _, _, _, _, rfl, hi⟩
abbrev fn_zbdQ : FuncId := 111
def zbdQ_c : ACode :=
 (.seq (.region [
 o1 4 (.mov k0)]) (.seq (.region [
 o1 5 (.mov (tm 0)),
 o1 6 (.mov (tm 1)),
 o1 7 (.strToBytes 5 (tm 6)),
 o1 8 (.callV (.func 63) [(tm 5), (tm 7)]),
 o1 4 (.mov (tm 8))]) .ret))
def zbdQ : AFunc := ⟨9, [(4, none)], zbdQ_c, none⟩
theorem zbdQ_t0 : tableOf Tryz.prog 111 = some zbdQ := by kernel_rfl
theorem zbdQ_t : T0 111 = some zbdQ := withKept_t rfl (withTrue_t rfl zbdQ_t0)
theorem zbdQ_runs {v0 v1 : Value} {h : Heap} {R : RP} {X : XP} (k : RunC Tryz.prog T0 zbdQ_c ⟨[v0, v1, U, U, U, U, U, U, U], [], h, none⟩ (bodyQ Tryz.prog T0 [(4, none)] R X)) :
 Runs Tryz.prog T0 (.fn 111) [v0, v1] h R X := Runs.fn zbdQ_t rfl k
abbrev fn_zycQ : FuncId := 112
def zycQ_c : ACode :=
 (.seq (.region [
 o1 3 (.box 23 (tm 1)),
 o1 4 (.mov k0)]) (.seq (.region [
 o1 5 (.mov (tm 0)),
 o1 6 (.sliceArr 32 1 (tm 3) none none),
 o1 7 (.buildSlice 41 [(.slice none 0 0)] 1 [(0, 1, (tm 6))]),
 o1 8 (.callV (.func 114) [(tm 5), (.const (.bool true)), (tm 7)]),
 o1 4 (.mov (tm 8))]) .ret))
def zycQ : AFunc := ⟨9, [(4, none)], zycQ_c, none⟩
theorem zycQ_t0 : tableOf Tryz.prog 112 = some zycQ := by kernel_rfl
theorem zycQ_t : T0 112 = some zycQ := withKept_t rfl (withTrue_t rfl zycQ_t0)
theorem zycQ_runs {v0 v1 : Value} {h : Heap} {R : RP} {X : XP} (k : RunC Tryz.prog T0 zycQ_c ⟨[v0, v1, U, U, U, U, U, U, U], [], h, none⟩ (bodyQ Tryz.prog T0 [(4, none)] R X)) :
 Runs Tryz.prog T0 (.fn 112) [v0, v1] h R X := Runs.fn zycQ_t rfl k
abbrev fn_zcdQ : FuncId := 114
def zcdQ_c : ACode :=
 (.seq (.region [
 o1 6 (.mov k0)]) (.seq (.seq (.region [
 o1 8 (.mov (tm 0)),
 o1 9 (.eq .ptr false (so (.binOp .eql 95 (tm 8) (.const (.pointer none)) 95) 4) (tm 8) (.const (.pointer none))),
 o1 10 (.mov (tm 9)),
 o5 11 (.mov (tm 0)) 10,
 o5 12 (.nilCheck (tm 11)) 10,
 o5 13 (.fieldAddr 3 (tm 12)) 10,
 o5 14 (.load none (tm 13)) 10,
 o5 15 (.raw (so (.unOp .not 4 (tm 14)) 4)) 10,
 o1 16 (.pick (tm 10) (.const (.bool true)) (tm 15))]) (.cond (tm 16)
 (.seq (.region [
 o1 6 (.mov (.const (.int .i64 1)))]) .ret)
 .skip)) (.seq (.region [
 o1 17 (.mov (tm 2)),
 o1 18 (.callV (.func 153) [(tm 17)]),
 o1 7 (.mov (tm 18))]) (.seq (.block 0 (.seq (.region [
 o1 29 (.mov (tm 0)),
 o1 30 (.nilCheck (tm 29)),
 o1 31 (.fieldAddr 2 (tm 30)),
 o1 32 (.load none (tm 31)),
 o1 33 (.bin .neq (so (.binOp .neq 34 (tm 32) k0 34) 4) (tm 32) k0),
 o1 28 (.mov (tm 33))]) (.cond (tm 28)
 .skip
 (.seq (.region [
 o1 35 (.mov (tm 1)),
 o1 36 (.raw (so (.unOp .not 4 (tm 35)) 4)),
 o1 34 (.mov (tm 36))]) (.cond (tm 34)
 (.region [
 o1 37 (.mov (tm 0)),
 o1 38 (.nilCheck (tm 37)),
 o1 39 (.fieldAddr 2 (tm 38)),
 o3 (.store 1 (tm 39) (.const (.int .i64 3)))])
 (.seq (.regionD [
 o1 41 (.mov (tm 0)),
 o1 42 (.nilCheck (tm 41)),
 o1 43 (.fieldAddr 1 (tm 42)),
 o1 44 (.load none (tm 43)),
 o1 45 (.lenSl (tm 44)),
 o1 46 (.mov (tm 7)),
 o1 47 (.lenSl (tm 46)),
 o1 48 (.bin .add (so (.binOp .add 3 (tm 45) (tm 47) 3) 3) (tm 45) (tm 47)),
 o1 49 (.mov (tm 0)),
 o1 50 (.nilCheck (tm 49)),
 o1 51 (.fieldAddr 0 (tm 50)),
 o1 52 (.load none (tm 51)),
 o2 53 (.bin .gtr (so (.binOp .gtr 3 (tm 48) (tm 52) 3) 4) (tm 48) (tm 52)),
 o2 40 (.mov (tm 53))]) (.cond (tm 40)
 (.region [
 o1 54 (.mov (tm 0)),
 o1 55 (.nilCheck (tm 54)),
 o1 56 (.fieldAddr 2 (tm 55)),
 o3 (.store 1 (tm 56) (.const (.int .i64 4)))])
 (.region [
 o1 19 (.mov (tm 0)),
 o1 20 (.mov (tm 0)),
 o1 21 (.nilCheck (tm 20)),
 o1 22 (.fieldAddr 1 (tm 21)),
 o1 23 (.load none (tm 22)),
 o1 24 (.mov (tm 7)),
 o1 25 (.append 5 1 1 [(.int .u8 0)] false (tm 23) (tm 24)),
 o1 26 (.nilCheck (tm 19)),
 o1 27 (.fieldAddr 1 (tm 26)),
 o3 (.store 1 (tm 27) (tm 25))])))))))) (.seq (.region [
 o1 57 (.mov (tm 0)),
 o1 58 (.nilCheck (tm 57)),
 o1 59 (.fieldAddr 2 (tm 58)),
 o1 60 (.load none (tm 59)),
 o1 6 (.mov (tm 60))]) .ret)))))
def zcdQ : AFunc := ⟨61, [(6, none)], zcdQ_c, none⟩
theorem zcdQ_t0 : tableOf Tryz.prog 114 = some zcdQ := by kernel_rfl
theorem zcdQ_t : T0 114 = some zcdQ := withKept_t rfl (withTrue_t rfl zcdQ_t0)
theorem zcdQ_runs {v0 v1 v2 : Value} {h : Heap} {R : RP} {X : XP} (k : RunC Tryz.prog T0 zcdQ_c ⟨[v0, v1, v2, U, U, U, U, U, U, U, U, U, U, U, U, U, U, U, U, U, U, U, U, U, U, U, U, U, U, U, U, U, U, U, U, U, U, U, U, U, U, U, U, U, U, U, U, U, U, U, U, U, U, U, U, U, U, U, U, U, U], [], h, none⟩ (bodyQ Tryz.prog T0 [(6, none)] R X)) :
 Runs Tryz.prog T0 (.fn 114) [v0, v1, v2] h R X := Runs.fn zcdQ_t rfl k
abbrev fn_zddQ : FuncId := 115
def zddQ_l0 : ACode :=
 (.seq (.seq (.region [
 o1 5 (.mov (tm 0)),
 o1 6 (.bin .gtr (so (.binOp .gtr 3 (tm 5) k0 3) 4) (tm 5) k0)]) (.cond (tm 6)
 .skip
 (.exit 0))) (.seq (.block 1 (.seq (.region [
 o1 9 (.mov (tm 4)),
 o1 10 (.bin .sub (so (.binOp .sub 3 (.const (.int .i64 8)) (tm 9) 3) 3) (.const (.int .i64 8)) (tm 9)),
 o1 11 (.mov (tm 0)),
 o1 12 (.conv .u8 (so (.convert 3 5 (tm 11)) 5) (tm 11)),
 o1 13 (.indexArr 9 1 (tm 3) (tm 10)),
 o3 (.store 1 (tm 13) (tm 12))]) (.region [
 o1 14 (.mov (tm 4)),
 o1 15 (.bin .add (so (.binOp .add 3 (tm 14) (.const (.int .i64 1)) 3) 3) (tm 14) (.const (.int .i64 1))),
 o1 4 (.mov (tm 15))]))) (.region [
 o1 7 (.mov (tm 0)),
 o1 8 (.bin .shr (so (.binOp .shr 3 (tm 7) (.const (.int .u64 8)) 155) 3) (tm 7) (.const (.int .u64 8))),
 o1 0 (.mov (tm 8))])))
def zddQ_c : ACode :=
 (.seq (.region [
 o1 2 (.mov (.const (.slice none 0 0)))]) (.seq (.region [
 o1 3 (.alloc 185 [(.int .u8 0), (.int .u8 0), (.int .u8 0), (.int .u8 0), (.int .u8 0), (.int .u8 0), (.int .u8 0), (.int .u8 0), (.int .u8 0)])]) (.seq (.region [
 o1 4 (.mov k0)]) (.seq (.block 0 (.loop zddQ_l0)) (.seq (.region [
 o1 16 (.mov (tm 4)),
 o1 17 (.bin .sub (so (.binOp .sub 3 (.const (.int .i64 8)) (tm 16) 3) 3) (.const (.int .i64 8)) (tm 16)),
 o1 18 (.mov (tm 4)),
 o1 19 (.conv .u8 (so (.convert 3 5 (tm 18)) 5) (tm 18)),
 o1 20 (.indexArr 9 1 (tm 3) (tm 17)),
 o3 (.store 1 (tm 20) (tm 19))]) (.seq (.region [
 o1 21 (.mov (tm 4)),
 o1 22 (.bin .sub (so (.binOp .sub 3 (.const (.int .i64 8)) (tm 21) 3) 3) (.const (.int .i64 8)) (tm 21)),
 o1 23 (.sliceArr 9 1 (tm 3) (some (tm 22)) none),
 o1 2 (.mov (tm 23))]) .ret))))))
def zddQ : AFunc := ⟨24, [(2, none)], zddQ_c, none⟩
theorem zddQ_t0 : tableOf Tryz.prog 115 = some zddQ := by kernel_rfl
theorem zddQ_t : T0 115 = some zddQ := withKept_t rfl (withTrue_t rfl zddQ_t0)
theorem zddQ_runs {v0 : Value} {h : Heap} {R : RP} {X : XP} (k : RunC Tryz.prog T0 zddQ_c ⟨[v0, U, U, U, U, U, U, U, U, U, U, U, U, U, U, U, U, U, U, U, U, U, U, U], [], h, none⟩ (bodyQ Tryz.prog T0 [(2, none)] R X)) :
 Runs Tryz.prog T0 (.fn 115) [v0] h R X := Runs.fn zddQ_t rfl k
def zddQ_l0_J (f1 f2 f3 f16 f17 f18 f19 f20 f21 f22 f23 : Value) (ds : List Deferred) (rd : Option Nat) (I : Nat → Value → Value → Heap → Prop) (m : Nat) (s : St) : Prop := ∃ (v0 v4 : Value), ∃ h : Heap, ∃ (x5 x6 x7 x8 x9 x10 x11 x12 x13 x14 x15 : Value), s = ⟨[v0, f1, f2, f3, v4, x5, x6, x7, x8, x9, x10, x11, x12, x13, x14, x15, f16, f17, f18, f19, f20, f21, f22, f23], ds, h, rd⟩ ∧ I m v0 v4 h
theorem zddQ_l0_rule {f1 f2 f3 f16 f17 f18 f19 f20 f21 f22 f23 : Value} {ds : List Deferred} {rd : Option Nat} {Q : QP} (I : Nat → Value → Value → Heap → Prop) (hb : ∀ (m : Nat) (v0 v4 : Value) (h : Heap) (x5 x6 x7 x8 x9 x10 x11 x12 x13 x14 x15 : Value) , I m v0 v4 h → RunC Tryz.prog T0 zddQ_l0 ⟨[v0, f1, f2, f3, v4, x5, x6, x7, x8, x9, x10, x11, x12, x13, x14, x15, f16, f17, f18, f19, f20, f21, f22, f23], ds, h, rd⟩ (loopQ (zddQ_l0_J f1 f2 f3 f16 f17 f18 f19 f20 f21 f22 f23 ds rd I) m Q))
 (m : Nat) {v0 v4 : Value} {h : Heap} {x5 x6 x7 x8 x9 x10 x11 x12 x13 x14 x15 : Value} (hi : I m v0 v4 h) : RunC Tryz.prog T0 (.loop zddQ_l0) ⟨[v0, f1, f2, f3, v4, x5, x6, x7, x8, x9, x10, x11, x12, x13, x14, x15, f16, f17, f18, f19, f20, f21, f22, f23], ds, h, rd⟩ Q :=
 RunC.loopJ (zddQ_l0_J f1 f2 f3 f16 f17 f18 f19 f20 f21 f22 f23 ds rd I) (fun m s hj => by obtain ⟨v0, v4, h, x5, x6, x7, x8, x9, x10, x11, x12, x13, x14, x15, rfl, hi⟩ := hj; exact hb m v0 v4 h x5 x6 x7 x8 x9 x10 x11 x12 x13 x14 x15 hi) m _ ⟨_, _, h, _, _, _, _, _, _, _, _, _, _, _, rfl, hi⟩
theorem zddQ_l0_again {f1 f2 f3 f16 f17 f18 f19 f20 f21 f22 f23 : Value} {ds : List Deferred} {rd : Option Nat} {Q : QP} {I : Nat → Value → Value → Heap → Prop} {m : Nat} (m' : Nat) {v0 v4 : Value} {h : Heap} {x5 x6 x7 x8 x9 x10 x11 x12 x13 x14 x15 : Value} (hm : m' < m) (hi : I m' v0 v4 h) : loopQ (zddQ_l0_J f1 f2 f3 f16 f17 f18 f19 f20 f21 f22 f23 ds rd I) m Q .normal ⟨[v0, f1, f2, f3, v4, x5, x6, x7, x8, x9, x10, x11, x12, x13, x14, x15, f16, f17, f18, f19, f20, f21, f22, f23], ds, h, rd⟩ :=
 loopQ.again m' hm ⟨_, _, h, _, _, _, _, _, _, _, _, _, _, _, rfl, hi⟩
abbrev fn_zucQ : FuncId := 116
def zucQ_c : ACode :=
 (.seq (.region [
 o1 3 (.box 66 (tm 1)),
 o1 4 (.mov k0)]) (.seq (.regionD [
 o2 6 (.mov (tm 0)),
 o2 7 (.nilCheck (tm 6)),
 o2 8 (.fieldAddr 4 (tm 7)),
 o2 9 (.load none (tm 8)),
 o2 10 (.mov (tm 9)),
 o4 11 (.mov (tm 0)) 10,
 o4 12 (.nilCheck (tm 11)) 10,
 o4 13 (.fieldAddr 0 (tm 12)) 10,
 o4 14 (.sliceArr 4 1 (tm 13) none none) 10,
 o4 15 (.fieldAddr 0 (tm 3)) 10,
 o4 16 (.sliceArr 4 1 (tm 15) none none) 10,
 ⟨some 17, .callV (.func 154) [(tm 14), (tm 16)], some (10, true), [], true⟩,
 ⟨some 18, .bin .geq (so (.binOp .geq 3 (tm 17) k0 3) 4) (tm 17) k0, some (10, true), [], true⟩,
 o2 19 (.pick (tm 10) (tm 18) (.const (.bool false))),
 o2 5 (.mov (tm 19))]) (.seq (.region [
 o1 20 (.mov (tm 0)),
 o1 21 (.mov (tm 0)),
 o1 22 (.fieldAddr 0 (tm 3)),
 o1 23 (.load (some 4) (tm 22)),
 o1 24 (.nilCheck (tm 20)),
 o1 25 (.fieldAddr 0 (tm 24)),
 o3 (.store 4 (tm 25) (tm 23)),
 o1 26 (.nilCheck (tm 21)),
 o1 27 (.fieldAddr 4 (tm 26)),
 o3 (.store 1 (tm 27) (.const (.bool true)))]) (.seq (.block 0 (.seq (.region [
 o1 29 (.mov (tm 5)),
 o1 28 (.mov (tm 29))]) (.cond (tm 28)
 (.seq (.region [
 o1 4 (.mov (.const (.int .i64 9)))]) .ret)
 (.seq (.regionD [
 o1 31 (.fieldAddr 4 (tm 3)),
 o1 32 (.load none (tm 31)),
 o1 33 (.mov (tm 0)),
 o1 34 (.nilCheck (tm 33)),
 o1 35 (.fieldAddr 5 (tm 34)),
 o1 36 (.load none (tm 35)),
 o2 37 (.bin .lss (so (.binOp .lss 3 (tm 32) (tm 36) 3) 4) (tm 32) (tm 36)),
 o2 38 (.mov (tm 37)),
 o5 39 (.fieldAddr 4 (tm 3)) 38,
 o5 40 (.load none (tm 39)) 38,
 o5 41 (.mov (tm 0)) 38,
 o5 42 (.nilCheck (tm 41)) 38,
 o5 43 (.fieldAddr 6 (tm 42)) 38,
 o5 44 (.load none (tm 43)) 38,
 ⟨some 45, .bin .gtr (so (.binOp .gtr 3 (tm 40) (tm 44) 3) 4) (tm 40) (tm 44), some (38, false), [], true⟩,
 o2 46 (.pick (tm 38) (.const (.bool true)) (tm 45)),
 o2 30 (.mov (tm 46))]) (.cond (tm 30)
 (.seq (.region [
 o1 4 (.mov (.const (.int .i64 3)))]) .ret)
 .skip))))) (.seq (.region [
 o1 4 (.mov k0)]) .ret)))))
def zucQ : AFunc := ⟨47, [(4, none)], zucQ_c, none⟩
theorem zucQ_t0 : tableOf Tryz.prog 116 = some zucQ := by kernel_rfl
theorem zucQ_t : T0 116 = some zucQ := withKept_t rfl (withTrue_t rfl zucQ_t0)
theorem zucQ_runs {v0 v1 : Value} {h : Heap} {R : RP} {X : XP} (k : RunC Tryz.prog T0 zucQ_c ⟨[v0, v1, U, U, U, U, U, U, U, U, U, U, U, U, U, U, U, U, U, U, U, U, U, U, U, U, U, U, U, U, U, U, U, U, U, U, U, U, U, U, U, U, U, U, U, U, U], [], h, none⟩ (bodyQ Tryz.prog T0 [(4, none)] R X)) :
 Runs Tryz.prog T0 (.fn 116) [v0, v1] h R X := Runs.fn zucQ_t rfl k
abbrev fn_zhcQ : FuncId := 117
def zhcQ_c : ACode :=
 (.seq (.region [
 o1 3 (.box 25 (tm 1))]) (.seq (.region [
 o1 4 (.mov (tm 0)),
 o1 5 (.fieldAddr 0 (tm 3)),
 o1 6 (.load none (tm 5)),
 o1 7 (.callV (.func 155) [(tm 4), (tm 6)])]) (.seq (.region [
 o1 8 (.mov (tm 0)),
 o1 9 (.fieldAddr 1 (tm 3)),
 o1 10 (.load none (tm 9)),
 o1 11 (.callV (.func 118) [(tm 8), (tm 10)])]) (.seq (.region [
 o1 12 (.mov (tm 0)),
 o1 13 (.fieldAddr 2 (tm 3)),
 o1 14 (.load none (tm 13)),
 o1 15 (.callV (.func 118) [(tm 12), (tm 14)])]) (.seq (.region [
 o1 16 (.mov (tm 0)),
 o1 17 (.fieldAddr 3 (tm 3)),
 o1 18 (.load (some 32) (tm 17)),
 o1 19 (.callV (.func 119) [(tm 16), (tm 18)])]) (.seq (.region [
 o1 20 (.mov (tm 0)),
 o1 21 (.fieldAddr 35 (tm 3)),
 o1 22 (.load (some 32) (tm 21)),
 o1 23 (.callV (.func 119) [(tm 20), (tm 22)])]) (.seq (.region [
 o1 24 (.mov (tm 0)),
 o1 25 (.fieldAddr 67 (tm 3)),
 o1 26 (.load (some 32) (tm 25)),
 o1 27 (.callV (.func 119) [(tm 24), (tm 26)])]) (.region [
 o1 28 (.mov (tm 0)),
 o1 29 (.fieldAddr 99 (tm 3)),
 o1 30 (.load (some 32) (tm 29)),
 o1 31 (.callV (.func 119) [(tm 28), (tm 30)])]))))))))
def zhcQ : AFunc := ⟨32, [], zhcQ_c, none⟩
theorem zhcQ_t0 : tableOf Tryz.prog 117 = some zhcQ := by kernel_rfl
theorem zhcQ_t : T0 117 = some zhcQ := withKept_t rfl (withTrue_t rfl zhcQ_t0)
theorem zhcQ_runs {v0 v1 : Value} {h : Heap} {R : RP} {X : XP} (k : RunC Tryz.prog T0 zhcQ_c ⟨[v0, v1, U, U, U, U, U, U, U, U, U, U, U, U, U, U, U, U, U, U, U, U, U, U, U, U, U, U, U, U, U, U], [], h, none⟩ (bodyQ Tryz.prog T0 [] R X)) :
 Runs Tryz.prog T0 (.fn 117) [v0, v1] h R X := Runs.fn zhcQ_t rfl k
abbrev fn_zwbQ : FuncId := 118
def zwbQ_c : ACode :=
 (.seq (.region [
 o1 4 (.mov k0)]) (.seq (.seq (.region [
 o1 5 (.mov (tm 1)),
 o1 6 (.bin .lss (so (.binOp .lss 3 (tm 5) k0 3) 4) (tm 5) k0),
 o1 7 (.mov (tm 6)),
 o4 8 (.mov (tm 0)) 7,
 o4 9 (.nilCheck (tm 8)) 7,
 o4 10 (.fieldAddr 2 (tm 9)) 7,
 o4 11 (.load none (tm 10)) 7,
 o4 12 (.bin .eql (so (.binOp .eql 34 (tm 11) k0 34) 4) (tm 11) k0) 7,
 o1 13 (.pick (tm 7) (tm 12) (.const (.bool false)))]) (.cond (tm 13)
 (.region [
 o1 14 (.mov (tm 0)),
 o1 15 (.nilCheck (tm 14)),
 o1 16 (.fieldAddr 2 (tm 15)),
 o3 (.store 1 (tm 16) (.const (.int .i64 3)))])
 .skip)) (.seq (.seq (.region [
 o1 17 (.mov (tm 0)),
 o1 18 (.nilCheck (tm 17)),
 o1 19 (.fieldAddr 2 (tm 18)),
 o1 20 (.load none (tm 19)),
 o1 21 (.bin .neq (so (.binOp .neq 34 (tm 20) k0 34) 4) (tm 20) k0)]) (.cond (tm 21)
 (.seq (.region [
 o1 22 (.mov (tm 0)),
 o1 23 (.nilCheck (tm 22)),
 o1 24 (.fieldAddr 2 (tm 23)),
 o1 25 (.load none (tm 24)),
 o1 4 (.mov (tm 25))]) .ret)
 .skip)) (.seq (.region [
 o1 26 (.mov (tm 0)),
 o1 27 (.mov (tm 1)),
 o1 28 (.callV (.func 156) [(tm 27)]),
 o1 29 (.callV (.func 122) [(tm 26), (tm 28)]),
 o1 4 (.mov (tm 29))]) .ret))))
def zwbQ : AFunc := ⟨30, [(4, none)], zwbQ_c, none⟩
theorem zwbQ_t0 : tableOf Tryz.prog 118 = some zwbQ := by kernel_rfl
theorem zwbQ_t : T0 118 = some zwbQ := withKept_t rfl (withTrue_t rfl zwbQ_t0)
theorem zwbQ_runs {v0 v1 : Value} {h : Heap} {R : RP} {X : XP} (k : RunC Tryz.prog T0 zwbQ_c ⟨[v0, v1, U, U, U, U, U, U, U, U, U, U, U, U, U, U, U, U, U, U, U, U, U, U, U, U, U, U, U, U], [], h, none⟩ (bodyQ Tryz.prog T0 [(4, none)] R X)) :
 Runs Tryz.prog T0 (.fn 118) [v0, v1] h R X := Runs.fn zwbQ_t rfl k
abbrev fn_zubQ : FuncId := 119
def zubQ_c : ACode :=
 (.seq (.region [
 o1 3 (.box 23 (tm 1)),
 o1 4 (.mov k0)]) (.seq (.region [
 o1 5 (.mov (tm 0)),
 o1 6 (.buildSlice 5 [] 0 []),
 o1 7 (.sliceArr 32 1 (tm 3) none none),
 o1 8 (.append 5 1 1 [(.int .u8 0)] false (tm 6) (tm 7)),
 o1 9 (.callV (.func 122) [(tm 5), (tm 8)]),
 o1 4 (.mov (tm 9))]) .ret))
def zubQ : AFunc := ⟨10, [(4, none)], zubQ_c, none⟩
theorem zubQ_t0 : tableOf Tryz.prog 119 = some zubQ := by kernel_rfl
theorem zubQ_t : T0 119 = some zubQ := withKept_t rfl (withTrue_t rfl zubQ_t0)
theorem zubQ_runs {v0 v1 : Value} {h : Heap} {R : RP} {X : XP} (k : RunC Tryz.prog T0 zubQ_c ⟨[v0, v1, U, U, U, U, U, U, U, U], [], h, none⟩ (bodyQ Tryz.prog T0 [(4, none)] R X)) :
 Runs Tryz.prog T0 (.fn 119) [v0, v1] h R X := Runs.fn zubQ_t rfl k
abbrev fn_zvbQ : FuncId := 121
def zvbQ_c : ACode :=
 (.seq (.region [
 o1 3 (.box 64 (tm 1)),
 o1 4 (.mov k0)]) (.seq (.region [
 o1 5 (.mov (tm 0)),
 o1 6 (.buildSlice 5 [] 0 []),
 o1 7 (.sliceArr 4 1 (tm 3) none none),
 o1 8 (.append 5 1 1 [(.int .u8 0)] false (tm 6) (tm 7)),
 o1 9 (.callV (.func 122) [(tm 5), (tm 8)]),
 o1 4 (.mov (tm 9))]) .ret))
def zvbQ : AFunc := ⟨10, [(4, none)], zvbQ_c, none⟩
theorem zvbQ_t0 : tableOf Tryz.prog 121 = some zvbQ := by kernel_rfl
theorem zvbQ_t : T0 121 = some zvbQ := withKept_t rfl (withTrue_t rfl zvbQ_t0)
theorem zvbQ_runs {v0 v1 : Value} {h : Heap} {R : RP} {X : XP} (k : RunC Tryz.prog T0 zvbQ_c ⟨[v0, v1, U, U, U, U, U, U, U, U], [], h, none⟩ (bodyQ Tryz.prog T0 [(4, none)] R X)) :
 Runs Tryz.prog T0 (.fn 121) [v0, v1] h R X := Runs.fn zvbQ_t rfl k
abbrev fn_zxbQ : FuncId := 122
def zxbQ_c : ACode :=
 (.seq (.region [
 o1 4 (.mov k0)]) (.seq (.seq (.regionD [
 o2 5 (.mov (tm 0)),
 o2 6 (.nilCheck (tm 5)),
 o2 7 (.fieldAddr 2 (tm 6)),
 o2 8 (.load none (tm 7)),
 o2 9 (.bin .eql (so (.binOp .eql 34 (tm 8) k0 34) 4) (tm 8) k0),
 o2 10 (.mov (tm 9)),
 o4 11 (.mov (tm 0)) 10,
 o4 12 (.nilCheck (tm 11)) 10,
 o4 13 (.fieldAddr 1 (tm 12)) 10,
 o4 14 (.load none (tm 13)) 10,
 o4 15 (.lenSl (tm 14)) 10,
 o4 16 (.mov (tm 1)) 10,
 o4 17 (.lenSl (tm 16)) 10,
 o4 18 (.bin .add (so (.binOp .add 3 (tm 15) (tm 17) 3) 3) (tm 15) (tm 17)) 10,
 o4 19 (.mov (tm 0)) 10,
 o4 20 (.nilCheck (tm 19)) 10,
 o4 21 (.fieldAddr 0 (tm 20)) 10,
 o4 22 (.load none (tm 21)) 10,
 ⟨some 23, .bin .gtr (so (.binOp .gtr 3 (tm 18) (tm 22) 3) 4) (tm 18) (tm 22), some (10, true), [], true⟩,
 o2 24 (.pick (tm 10) (tm 23) (.const (.bool false)))]) (.cond (tm 24)
 (.region [
 o1 25 (.mov (tm 0)),
 o1 26 (.nilCheck (tm 25)),
 o1 27 (.fieldAddr 2 (tm 26)),
 o3 (.store 1 (tm 27) (.const (.int .i64 4)))])
 .skip)) (.seq (.seq (.region [
 o1 28 (.mov (tm 0)),
 o1 29 (.nilCheck (tm 28)),
 o1 30 (.fieldAddr 2 (tm 29)),
 o1 31 (.load none (tm 30)),
 o1 32 (.bin .eql (so (.binOp .eql 34 (tm 31) k0 34) 4) (tm 31) k0)]) (.cond (tm 32)
 (.region [
 o1 33 (.mov (tm 0)),
 o1 34 (.buildSlice 5 [] 0 []),
 o1 35 (.mov (tm 0)),
 o1 36 (.nilCheck (tm 35)),
 o1 37 (.fieldAddr 1 (tm 36)),
 o1 38 (.load none (tm 37)),
 o1 39 (.append 5 1 1 [(.int .u8 0)] false (tm 34) (tm 38)),
 o1 40 (.mov (tm 1)),
 o1 41 (.append 5 1 1 [(.int .u8 0)] false (tm 39) (tm 40)),
 o1 42 (.nilCheck (tm 33)),
 o1 43 (.fieldAddr 1 (tm 42)),
 o3 (.store 1 (tm 43) (tm 41))])
 .skip)) (.seq (.region [
 o1 44 (.mov (tm 0)),
 o1 45 (.nilCheck (tm 44)),
 o1 46 (.fieldAddr 2 (tm 45)),
 o1 47 (.load none (tm 46)),
 o1 4 (.mov (tm 47))]) .ret))))
def zxbQ : AFunc := ⟨48, [(4, none)], zxbQ_c, none⟩
theorem zxbQ_t0 : tableOf Tryz.prog 122 = some zxbQ := by kernel_rfl
theorem zxbQ_t : T0 122 = some zxbQ := withKept_t rfl (withTrue_t rfl zxbQ_t0)
theorem zxbQ_runs {v0 v1 : Value} {h : Heap} {R : RP} {X : XP} (k : RunC Tryz.prog T0 zxbQ_c ⟨[v0, v1, U, U, U, U, U, U, U, U, U, U, U, U, U, U, U, U, U, U, U, U, U, U, U, U, U, U, U, U, U, U, U, U, U, U, U, U, U, U, U, U, U, U, U, U, U, U], [], h, none⟩ (bodyQ Tryz.prog T0 [(4, none)] R X)) :
 Runs Tryz.prog T0 (.fn 122) [v0, v1] h R X := Runs.fn zxbQ_t rfl k
abbrev fn_zqbQ : FuncId := 123
def zqbQ_c : ACode :=
 (.seq (.region [
 o1 2 (.mov (.const (.slice none 0 0)))]) (.seq (.region [
 o1 3 (.mov (tm 0)),
 o1 4 (.lenSl (tm 3)),
 o1 5 (.callV (.func 156) [(tm 4)]),
 o1 6 (.mov (tm 0)),
 o1 7 (.append 5 1 1 [(.int .u8 0)] false (tm 5) (tm 6)),
 o1 2 (.mov (tm 7))]) .ret))
def zqbQ : AFunc := ⟨8, [(2, none)], zqbQ_c, none⟩
theorem zqbQ_t0 : tableOf Tryz.prog 123 = some zqbQ := by kernel_rfl
theorem zqbQ_t : T0 123 = some zqbQ := withKept_t rfl (withTrue_t rfl zqbQ_t0)
theorem zqbQ_runs {v0 : Value} {h : Heap} {R : RP} {X : XP} (k : RunC Tryz.prog T0 zqbQ_c ⟨[v0, U, U, U, U, U, U, U], [], h, none⟩ (bodyQ Tryz.prog T0 [(2, none)] R X)) :
 Runs Tryz.prog T0 (.fn 123) [v0] h R X := Runs.fn zqbQ_t rfl k
abbrev fn_zlbQ : FuncId := 127
def zlbQ_c : ACode :=
 (.seq (.region [
 o1 0 (.alloc 152 [(.int .u32 0), (.int .u32 0), (.int .u32 0), (.int .u32 0), (.int .u32 0), (.int .u32 0), (.int .u32 0), (.int .u32 0)])]) (.seq (.region [
 o1 1 (.build [(.int .u32 0), (.int .u32 0), (.int .u32 0), (.int .u32 0), (.int .u32 0), (.int .u32 0), (.int .u32 0), (.int .u32 0)] [(0, 1, (.const (.int .u32 1779033703))), (1, 1, (.const (.int .u32 3144134277))), (2, 1, (.const (.int .u32 1013904242))), (3, 1, (.const (.int .u32 2773480762))), (4, 1, (.const (.int .u32 1359893119))), (5, 1, (.const (.int .u32 2600822924))), (6, 1, (.const (.int .u32 528734635))), (7, 1, (.const (.int .u32 1541459225)))]),
 o3 (.store 8 (tm 0) (tm 1))]) .ret))
def zlbQ : AFunc := ⟨2, [(0, some (some 8))], zlbQ_c, none⟩
theorem zlbQ_t0 : tableOf Tryz.prog 127 = some zlbQ := by kernel_rfl
theorem zlbQ_t : T0 127 = some zlbQ := withKept_t rfl (withTrue_t rfl zlbQ_t0)
theorem zlbQ_runs {v : Value} {h : Heap} {R : RP} {X : XP} (k : RunC Tryz.prog T0 zlbQ_c ⟨[undef, U], [], h, none⟩ (bodyQ Tryz.prog T0 [(0, some (some 8))] R X)) :
 Runs Tryz.prog T0 (.fn 127) [] h R X := Runs.fn zlbQ_t rfl k
abbrev fn_zmbQ : FuncId := 128
def zmbQ_l0 : ACode :=
 (.seq (.seq (.region [
 o1 18 (.mov (tm 10)),
 o1 19 (.bin .lss (so (.binOp .lss 3 (tm 18) (.const (.int .i64 16)) 3) 4) (tm 18) (.const (.int .i64 16)))]) (.cond (tm 19)
 .skip
 (.exit 0))) (.seq (.block 1 (.regionD [
 o1 22 (.mov (tm 10)),
 o1 23 (.mov (tm 1)),
 o1 24 (.mov (tm 10)),
 o1 25 (.bin .mul (so (.binOp .mul 3 (.const (.int .i64 4)) (tm 24) 3) 3) (.const (.int .i64 4)) (tm 24)),
 o1 26 (.indexSl 1 (tm 23) (tm 25)),
 o1 27 (.load none (tm 26)),
 o1 28 (.conv .u32 (so (.convert 5 151 (tm 27)) 151) (tm 27)),
 o1 29 (.mov (tm 1)),
 o1 30 (.mov (tm 10)),
 o1 31 (.bin .mul (so (.binOp .mul 3 (.const (.int .i64 4)) (tm 30) 3) 3) (.const (.int .i64 4)) (tm 30)),
 o1 32 (.bin .add (so (.binOp .add 3 (tm 31) (.const (.int .i64 1)) 3) 3) (tm 31) (.const (.int .i64 1))),
 o1 33 (.indexSl 1 (tm 29) (tm 32)),
 o1 34 (.load none (tm 33)),
 o1 35 (.conv .u32 (so (.convert 5 151 (tm 34)) 151) (tm 34)),
 o1 36 (.bin .shl (so (.binOp .shl 151 (tm 35) (.const (.int .u64 8)) 155) 151) (tm 35) (.const (.int .u64 8))),
 o1 37 (.bin .or (so (.binOp .or 151 (tm 28) (tm 36) 151) 151) (tm 28) (tm 36)),
 o1 38 (.mov (tm 1)),
 o1 39 (.mov (tm 10)),
 o1 40 (.bin .mul (so (.binOp .mul 3 (.const (.int .i64 4)) (tm 39) 3) 3) (.const (.int .i64 4)) (tm 39)),
 o1 41 (.bin .add (so (.binOp .add 3 (tm 40) (.const (.int .i64 2)) 3) 3) (tm 40) (.const (.int .i64 2))),
 o1 42 (.indexSl 1 (tm 38) (tm 41)),
 o1 43 (.load none (tm 42)),
 o1 44 (.conv .u32 (so (.convert 5 151 (tm 43)) 151) (tm 43)),
 o1 45 (.bin .shl (so (.binOp .shl 151 (tm 44) (.const (.int .u64 16)) 155) 151) (tm 44) (.const (.int .u64 16))),
 o1 46 (.bin .or (so (.binOp .or 151 (tm 37) (tm 45) 151) 151) (tm 37) (tm 45)),
 o1 47 (.mov (tm 1)),
 o1 48 (.mov (tm 10)),
 o1 49 (.bin .mul (so (.binOp .mul 3 (.const (.int .i64 4)) (tm 48) 3) 3) (.const (.int .i64 4)) (tm 48)),
 o1 50 (.bin .add (so (.binOp .add 3 (tm 49) (.const (.int .i64 3)) 3) 3) (tm 49) (.const (.int .i64 3))),
 o1 51 (.indexSl 1 (tm 47) (tm 50)),
 o1 52 (.load none (tm 51)),
 o1 53 (.conv .u32 (so (.convert 5 151 (tm 52)) 151) (tm 52)),
 o1 54 (.bin .shl (so (.binOp .shl 151 (tm 53) (.const (.int .u64 24)) 155) 151) (tm 53) (.const (.int .u64 24))),
 o1 55 (.bin .or (so (.binOp .or 151 (tm 46) (tm 54) 151) 151) (tm 46) (tm 54)),
 o2 56 (.indexArr 16 1 (tm 9) (tm 22)),
 ⟨none, .store 1 (tm 56) (tm 55), none, [], true⟩])) (.region [
 o1 20 (.mov (tm 10)),
 o1 21 (.bin .add (so (.binOp .add 3 (tm 20) (.const (.int .i64 1)) 3) 3) (tm 20) (.const (.int .i64 1))),
 o1 10 (.mov (tm 21))])))
def zmbQ_l1 : ACode :=
 (.seq (.seq (.region [
 o1 57 (.mov (tm 12)),
 o1 58 (.bin .lss (so (.binOp .lss 3 (tm 57) (.const (.int .i64 8)) 3) 4) (tm 57) (.const (.int .i64 8)))]) (.cond (tm 58)
 .skip
 (.exit 2))) (.seq (.block 3 (.seq (.region [
 o1 61 (.mov (tm 12)),
 o1 62 (.mov (tm 12)),
 o1 63 (.indexArr 8 1 (tm 4) (tm 62)),
 o1 64 (.load none (tm 63)),
 o1 65 (.indexArr 16 1 (tm 11) (tm 61)),
 o3 (.store 1 (tm 65) (tm 64))]) (.region [
 o1 66 (.mov (tm 12)),
 o1 67 (.bin .add (so (.binOp .add 3 (tm 66) (.const (.int .i64 8)) 3) 3) (tm 66) (.const (.int .i64 8))),
 o1 68 (.callV (.func 127) []),
 o1 69 (.mov (tm 12)),
 o1 70 (.index 8 1 none (tm 68) (tm 69)),
 o1 71 (.indexArr 16 1 (tm 11) (tm 67)),
 o3 (.store 1 (tm 71) (tm 70))]))) (.region [
 o1 59 (.mov (tm 12)),
 o1 60 (.bin .add (so (.binOp .add 3 (tm 59) (.const (.int .i64 1)) 3) 3) (tm 59) (.const (.int .i64 1))),
 o1 12 (.mov (tm 60))])))
def zmbQ_l2 : ACode :=
 (.seq (.seq (.region [
 o1 98 (.mov (tm 15)),
 o1 99 (.bin .lss (so (.binOp .lss 3 (tm 98) (.const (.int .i64 4)) 3) 4) (tm 98) (.const (.int .i64 4)))]) (.cond (tm 99)
 .skip
 (.exit 6))) (.seq (.block 7 (.regionD [
 o1 102 (.load (some 16) (tm 11)),
 o1 103 (.mov (tm 15)),
 o1 104 (.mov (tm 15)),
 o1 105 (.bin .add (so (.binOp .add 3 (tm 104) (.const (.int .i64 4)) 3) 3) (tm 104) (.const (.int .i64 4))),
 o1 106 (.mov (tm 15)),
 o1 107 (.bin .add (so (.binOp .add 3 (tm 106) (.const (.int .i64 8)) 3) 3) (tm 106) (.const (.int .i64 8))),
 o1 108 (.mov (tm 15)),
 o1 109 (.bin .add (so (.binOp .add 3 (tm 108) (.const (.int .i64 12)) 3) 3) (tm 108) (.const (.int .i64 12))),
 o1 110 (.mov (tm 15)),
 o1 111 (.bin .mul (so (.binOp .mul 3 (.const (.int .i64 2)) (tm 110) 3) 3) (.const (.int .i64 2)) (tm 110)),
 o1 112 (.indexArr 16 1 (tm 14) (tm 111)),
 o1 113 (.load none (tm 112)),
 o1 114 (.indexArr 16 1 (tm 9) (tm 113)),
 o1 115 (.load none (tm 114)),
 o1 116 (.mov (tm 15)),
 o1 117 (.bin .mul (so (.binOp .mul 3 (.const (.int .i64 2)) (tm 116) 3) 3) (.const (.int .i64 2)) (tm 116)),
 o1 118 (.bin .add (so (.binOp .add 3 (tm 117) (.const (.int .i64 1)) 3) 3) (tm 117) (.const (.int .i64 1))),
 o1 119 (.indexArr 16 1 (tm 14) (tm 118)),
 o1 120 (.load none (tm 119)),
 o1 121 (.indexArr 16 1 (tm 9) (tm 120)),
 o1 122 (.load none (tm 121)),
 o2 123 (.callV (.func 164) [(tm 102), (tm 103), (tm 105), (tm 107), (tm 109), (tm 115), (tm 122)]),
 ⟨none, .store 16 (tm 11) (tm 123), none, [], true⟩])) (.region [
 o1 100 (.mov (tm 15)),
 o1 101 (.bin .add (so (.binOp .add 3 (tm 100) (.const (.int .i64 1)) 3) 3) (tm 100) (.const (.int .i64 1))),
 o1 15 (.mov (tm 101))])))
def zmbQ_l3 : ACode :=
 (.seq (.seq (.region [
 o1 124 (.mov (tm 16)),
 o1 125 (.bin .lss (so (.binOp .lss 3 (tm 124) (.const (.int .i64 4)) 3) 4) (tm 124) (.const (.int .i64 4)))]) (.cond (tm 125)
 .skip
 (.exit 8))) (.seq (.block 9 (.regionD [
 o1 128 (.load (some 16) (tm 11)),
 o1 129 (.mov (tm 16)),
 o1 130 (.mov (tm 16)),
 o1 131 (.bin .add (so (.binOp .add 3 (tm 130) (.const (.int .i64 1)) 3) 3) (tm 130) (.const (.int .i64 1))),
 o1 132 (.bin .rem (so (.binOp .rem 3 (tm 131) (.const (.int .i64 4)) 3) 3) (tm 131) (.const (.int .i64 4))),
 o1 133 (.bin .add (so (.binOp .add 3 (.const (.int .i64 4)) (tm 132) 3) 3) (.const (.int .i64 4)) (tm 132)),
 o1 134 (.mov (tm 16)),
 o1 135 (.bin .add (so (.binOp .add 3 (tm 134) (.const (.int .i64 2)) 3) 3) (tm 134) (.const (.int .i64 2))),
 o1 136 (.bin .rem (so (.binOp .rem 3 (tm 135) (.const (.int .i64 4)) 3) 3) (tm 135) (.const (.int .i64 4))),
 o1 137 (.bin .add (so (.binOp .add 3 (.const (.int .i64 8)) (tm 136) 3) 3) (.const (.int .i64 8)) (tm 136)),
 o1 138 (.mov (tm 16)),
 o1 139 (.bin .add (so (.binOp .add 3 (tm 138) (.const (.int .i64 3)) 3) 3) (tm 138) (.const (.int .i64 3))),
 o1 140 (.bin .rem (so (.binOp .rem 3 (tm 139) (.const (.int .i64 4)) 3) 3) (tm 139) (.const (.int .i64 4))),
 o1 141 (.bin .add (so (.binOp .add 3 (.const (.int .i64 12)) (tm 140) 3) 3) (.const (.int .i64 12)) (tm 140)),
 o1 142 (.mov (tm 16)),
 o1 143 (.bin .mul (so (.binOp .mul 3 (.const (.int .i64 2)) (tm 142) 3) 3) (.const (.int .i64 2)) (tm 142)),
 o1 144 (.bin .add (so (.binOp .add 3 (.const (.int .i64 8)) (tm 143) 3) 3) (.const (.int .i64 8)) (tm 143)),
 o1 145 (.indexArr 16 1 (tm 14) (tm 144)),
 o1 146 (.load none (tm 145)),
 o1 147 (.indexArr 16 1 (tm 9) (tm 146)),
 o1 148 (.load none (tm 147)),
 o1 149 (.mov (tm 16)),
 o1 150 (.bin .mul (so (.binOp .mul 3 (.const (.int .i64 2)) (tm 149) 3) 3) (.const (.int .i64 2)) (tm 149)),
 o1 151 (.bin .add (so (.binOp .add 3 (.const (.int .i64 9)) (tm 150) 3) 3) (.const (.int .i64 9)) (tm 150)),
 o1 152 (.indexArr 16 1 (tm 14) (tm 151)),
 o1 153 (.load none (tm 152)),
 o1 154 (.indexArr 16 1 (tm 9) (tm 153)),
 o1 155 (.load none (tm 154)),
 o2 156 (.callV (.func 164) [(tm 128), (tm 129), (tm 133), (tm 137), (tm 141), (tm 148), (tm 155)]),
 ⟨none, .store 16 (tm 11) (tm 156), none, [], true⟩])) (.region [
 o1 126 (.mov (tm 16)),
 o1 127 (.bin .add (so (.binOp .add 3 (tm 126) (.const (.int .i64 1)) 3) 3) (tm 126) (.const (.int .i64 1))),
 o1 16 (.mov (tm 127))])))
def zmbQ_l4 : ACode :=
 (.seq (.seq (.region [
 o1 92 (.mov (tm 13)),
 o1 93 (.bin .lss (so (.binOp .lss 3 (tm 92) (.const (.int .i64 10)) 3) 4) (tm 92) (.const (.int .i64 10)))]) (.cond (tm 93)
 .skip
 (.exit 4))) (.seq (.block 5 (.seq (.region [
 o1 96 (.mov (tm 13)),
 o1 97 (.callV (.func 163) [(tm 96)]),
 o1 14 (.alloc 199 [(.int .i64 0), (.int .i64 0), (.int .i64 0), (.int .i64 0), (.int .i64 0), (.int .i64 0), (.int .i64 0), (.int .i64 0), (.int .i64 0), (.int .i64 0), (.int .i64 0), (.int .i64 0), (.int .i64 0), (.int .i64 0), (.int .i64 0), (.int .i64 0)]),
 o3 (.store 16 (tm 14) (tm 97))]) (.seq (.seq (.region [
 o1 15 (.mov k0)]) (.block 6 (.loop zmbQ_l2))) (.seq (.region [
 o1 16 (.mov k0)]) (.block 8 (.loop zmbQ_l3)))))) (.region [
 o1 94 (.mov (tm 13)),
 o1 95 (.bin .add (so (.binOp .add 3 (tm 94) (.const (.int .i64 1)) 3) 3) (tm 94) (.const (.int .i64 1))),
 o1 13 (.mov (tm 95))])))
def zmbQ_l5 : ACode :=
 (.seq (.seq (.region [
 o1 157 (.mov (tm 17)),
 o1 158 (.bin .lss (so (.binOp .lss 3 (tm 157) (.const (.int .i64 8)) 3) 4) (tm 157) (.const (.int .i64 8)))]) (.cond (tm 158)
 .skip
 (.exit 10))) (.seq (.block 11 (.regionD [
 o1 161 (.mov (tm 17)),
 o1 162 (.mov (tm 17)),
 o1 163 (.indexArr 8 1 (tm 4) (tm 162)),
 o1 164 (.load none (tm 163)),
 o1 165 (.mov (tm 17)),
 o1 166 (.indexArr 16 1 (tm 11) (tm 165)),
 o1 167 (.load none (tm 166)),
 o1 168 (.bin .xor (so (.binOp .xor 151 (tm 164) (tm 167) 151) 151) (tm 164) (tm 167)),
 o1 169 (.mov (tm 17)),
 o1 170 (.bin .add (so (.binOp .add 3 (tm 169) (.const (.int .i64 8)) 3) 3) (tm 169) (.const (.int .i64 8))),
 o1 171 (.indexArr 16 1 (tm 11) (tm 170)),
 o1 172 (.load none (tm 171)),
 o1 173 (.bin .xor (so (.binOp .xor 151 (tm 168) (tm 172) 151) 151) (tm 168) (tm 172)),
 o2 174 (.indexArr 8 1 (tm 4) (tm 161)),
 ⟨none, .store 1 (tm 174) (tm 173), none, [], true⟩])) (.region [
 o1 159 (.mov (tm 17)),
 o1 160 (.bin .add (so (.binOp .add 3 (tm 159) (.const (.int .i64 1)) 3) 3) (tm 159) (.const (.int .i64 1))),
 o1 17 (.mov (tm 160))])))
def zmbQ_c : ACode :=
 (.seq (.region [
 o1 4 (.box 152 (tm 0)),
 o1 8 (.alloc 152 [(.int .u32 0), (.int .u32 0), (.int .u32 0), (.int .u32 0), (.int .u32 0), (.int .u32 0), (.int .u32 0), (.int .u32 0)])]) (.seq (.region [
 o1 9 (.alloc 198 [(.int .u32 0), (.int .u32 0), (.int .u32 0), (.int .u32 0), (.int .u32 0), (.int .u32 0), (.int .u32 0), (.int .u32 0), (.int .u32 0), (.int .u32 0), (.int .u32 0), (.int .u32 0), (.int .u32 0), (.int .u32 0), (.int .u32 0), (.int .u32 0)])]) (.seq (.seq (.region [
 o1 10 (.mov k0)]) (.block 0 (.loop zmbQ_l0))) (.seq (.region [
 o1 11 (.alloc 198 [(.int .u32 0), (.int .u32 0), (.int .u32 0), (.int .u32 0), (.int .u32 0), (.int .u32 0), (.int .u32 0), (.int .u32 0), (.int .u32 0), (.int .u32 0), (.int .u32 0), (.int .u32 0), (.int .u32 0), (.int .u32 0), (.int .u32 0), (.int .u32 0)])]) (.seq (.seq (.region [
 o1 12 (.mov k0)]) (.block 2 (.loop zmbQ_l1))) (.seq (.region [
 o1 72 (.indexArr 16 1 (tm 11) (.const (.int .i64 12))),
 o1 73 (.load none (tm 72)),
 o1 74 (.mov (tm 2)),
 o1 75 (.conv .u64 (so (.convert 3 107 (tm 74)) 107) (tm 74)),
 o1 76 (.conv .u32 (so (.convert 107 151 (tm 75)) 151) (tm 75)),
 o1 77 (.bin .xor (so (.binOp .xor 151 (tm 73) (tm 76) 151) 151) (tm 73) (tm 76)),
 o1 78 (.indexArr 16 1 (tm 11) (.const (.int .i64 12))),
 o3 (.store 1 (tm 78) (tm 77))]) (.seq (.region [
 o1 79 (.indexArr 16 1 (tm 11) (.const (.int .i64 13))),
 o1 80 (.load none (tm 79)),
 o1 81 (.mov (tm 2)),
 o1 82 (.conv .u64 (so (.convert 3 107 (tm 81)) 107) (tm 81)),
 o1 83 (.bin .shr (so (.binOp .shr 107 (tm 82) (.const (.int .u64 32)) 155) 107) (tm 82) (.const (.int .u64 32))),
 o1 84 (.conv .u32 (so (.convert 107 151 (tm 83)) 151) (tm 83)),
 o1 85 (.bin .xor (so (.binOp .xor 151 (tm 80) (tm 84) 151) 151) (tm 80) (tm 84)),
 o1 86 (.indexArr 16 1 (tm 11) (.const (.int .i64 13))),
 o3 (.store 1 (tm 86) (tm 85))]) (.seq (.seq (.region [
 o1 87 (.mov (tm 3))]) (.cond (tm 87)
 (.region [
 o1 88 (.indexArr 16 1 (tm 11) (.const (.int .i64 14))),
 o1 89 (.load none (tm 88)),
 o1 90 (.raw (so (.unOp .xor 151 (tm 89)) 151)),
 o1 91 (.indexArr 16 1 (tm 11) (.const (.int .i64 14))),
 o3 (.store 1 (tm 91) (tm 90))])
 .skip)) (.seq (.seq (.region [
 o1 13 (.mov k0)]) (.block 4 (.loop zmbQ_l4))) (.seq (.seq (.region [
 o1 17 (.mov k0)]) (.block 10 (.loop zmbQ_l5))) (.seq (.region [
 o1 175 (.load (some 8) (tm 4)),
 o3 (.store 8 (tm 8) (tm 175))]) .ret)))))))))))
def zmbQ : AFunc := ⟨176, [(8, some (some 8))], zmbQ_c, none⟩
theorem zmbQ_t0 : tableOf Tryz.prog 128 = some zmbQ := by kernel_rfl
theorem zmbQ_t : T0 128 = some zmbQ := withKept_t rfl (withTrue_t rfl zmbQ_t0)
theorem zmbQ_runs {v0 v1 v2 v3 : Value} {h : Heap} {R : RP} {X : XP} (k : RunC Tryz.prog T0 zmbQ_c ⟨[v0, v1, v2, v3, U, U, U, U, U, U, U, U, U, U, U, U, U, U, U, U, U, U, U, U, U, U, U, U, U, U, U, U, U, U, U, U, U, U, U, U, U, U, U, U, U, U, U, U, U, U, U, U, U, U, U, U, U, U, U, U, U, U, U, U, U, U, U, U, U, U, U, U, U, U, U, U, U, U, U, U, U, U, U, U, U, U, U, U, U, U, U, U, U, U, U, U, U, U, U, U, U, U, U, U, U, U, U, U, U, U, U, U, U, U, U, U, U, U, U, U, U, U, U, U, U, U, U, U, U, U, U, U, U, U, U, U, U, U, U, U, U, U, U, U, U, U, U, U, U, U, U, U, U, U, U, U, U, U, U, U, U, U, U, U, U, U, U, U, U, U, U, U, U, U, U, U], [], h, none⟩ (bodyQ Tryz.prog T0 [(8, some (some 8))] R X)) :
 Runs Tryz.prog T0 (.fn 128) [v0, v1, v2, v3] h R X := Runs.fn zmbQ_t rfl k
def zmbQ_l0_J (f0 f1 f2 f3 f4 f5 f6 f7 f8 f9 f11 f12 f13 f14 f15 f16 f17 f57 f58 f59 f60 f61 f62 f63 f64 f65 f66 f67 f68 f69 f70 f71 f72 f73 f74 f75 f76 f77 f78 f79 f80 f81 f82 f83 f84 f85 f86 f87 f88 f89 f90 f91 f92 f93 f94 f95 f96 f97 f98 f99 f100 f101 f102 f103 f104 f105 f106 f107 f108 f109 f110 f111 f112 f113 f114 f115 f116 f117 f118 f119 f120 f121 f122 f123 f124 f125 f126 f127 f128 f129 f130 f131 f132 f133 f134 f135 f136 f137 f138 f139 f140 f141 f142 f143 f144 f145 f146 f147 f148 f149 f150 f151 f152 f153 f154 f155 f156 f157 f158 f159 f160 f161 f162 f163 f164 f165 f166 f167 f168 f169 f170 f171 f172 f173 f174 f175 : Value) (ds : List Deferred) (rd : Option Nat) (I : Nat → Value → Heap → Prop) (m : Nat) (s : St) : Prop := ∃ (v10 : Value), ∃ h : Heap, ∃ (x18 x19 x20 x21 x22 x23 x24 x25 x26 x27 x28 x29 x30 x31 x32 x33 x34 x35 x36 x37 x38 x39 x40 x41 x42 x43 x44 x45 x46 x47 x48 x49 x50 x51 x52 x53 x54 x55 x56 : Value), s = ⟨[f0, f1, f2, f3, f4, f5, f6, f7, f8, f9, v10, f11, f12, f13, f14, f15, f16, f17, x18, x19, x20, x21, x22, x23, x24, x25, x26, x27, x28, x29, x30, x31, x32, x33, x34, x35, x36, x37, x38, x39, x40, x41, x42, x43, x44, x45, x46, x47, x48, x49, x50, x51, x52, x53, x54, x55, x56, f57, f58, f59, f60, f61, f62, f63, f64, f65, f66, f67, f68, f69, f70, f71, f72, f73, f74, f75, f76, f77, f78, f79, f80, f81, f82, f83, f84, f85, f86, f87, f88, f89, f90, f91, f92, f93, f94, f95, f96, f97, f98, f99, f100, f101, f102, f103, f104, f105, f106, f107, f108, f109, f110, f111, f112, f113, f114, f115, f116, f117, f118, f119, f120, f121, f122, f123, f124, f125, f126, f127, f128, f129, f130, f131, f132, f133, f134, f135, f136, f137, f138, f139, f140, f141, f142, f143, f144, f145, f146, f147, f148, f149, f150, f151, f152, f153, f154, f155, f156, f157, f158, f159, f160, f161, f162, f163, f164, f165, f166, f167, f168, f169, f170, f171, f172, f173, f174, f175], ds, h, rd⟩ ∧ I m v10 h
theorem zmbQ_l0_rule {f0 f1 f2 f3 f4 f5 f6 f7 f8 f9 f11 f12 f13 f14 f15 f16 f17 f57 f58 f59 f60 f61 f62 f63 f64 f65 f66 f67 f68 f69 f70 f71 f72 f73 f74 f75 f76 f77 f78 f79 f80 f81 f82 f83 f84 f85 f86 f87 f88 f89 f90 f91 f92 f93 f94 f95 f96 f97 f98 f99 f100 f101 f102 f103 f104 f105 f106 f107 f108 f109 f110 f111 f112 f113 f114 f115 f116 f117 f118 f119 f120 f121 f122 f123 f124 f125 f126 f127 f128 f129 f130 f131 f132 f133 f134 f135 f136 f137 f138 f139 f140 f141 f142 f143 f144 f145 f146 f147 f148 f149 f150 f151 f152 f153 f154 f155 f156 f157 f158 f159 f160 f161 f162 f163 f164 f165 f166 f167 f168 f169 f170 f171 f172 f173 f174 f175 : Value} {ds : List Deferred} {rd : Option Nat} {Q : QP} (I : Nat → Value → Heap → Prop) (hb : ∀ (m : Nat) (v10 : Value) (h : Heap) (x18 x19 x20 x21 x22 x23 x24 x25 x26 x27 x28 x29 x30 x31 x32 x33 x34 x35 x36 x37 x38 x39 x40 x41 x42 x43 x44 x45 x46 x47 x48 x49 x50 x51 x52 x53 x54 x55 x56 : Value) , I m v10 h → RunC Tryz.prog T0 zmbQ_l0 ⟨[f0, f1, f2, f3, f4, f5, f6, f7, f8, f9, v10, f11, f12, f13, f14, f15, f16, f17, x18, x19, x20, x21, x22, x23, x24, x25, x26, x27, x28, x29, x30, x31, x32, x33, x34, x35, x36, x37, x38, x39, x40, x41, x42, x43, x44, x45, x46, x47, x48, x49, x50, x51, x52, x53, x54, x55, x56, f57, f58, f59, f60, f61, f62, f63, f64, f65, f66, f67, f68, f69, f70, f71, f72, f73, f74, f75, f76, f77, f78, f79, f80, f81, f82, f83, f84, f85, f86, f87, f88, f89, f90, f91, f92, f93, f94, f95, f96, f97, f98, f99, f100, f101, f102, f103, f104, f105, f106, f107, f108, f109, f110, f111, f112, f113, f114, f115, f116, f117, f118, f119, f120, f121, f122, f123, f124, f125, f126, f127, f128, f129, f130, f131, f132, f133, f134, f135, f136, f137, f138, f139, f140, f141, f142, f143, f144, f145, f146, f147, f148, f149, f150, f151, f152, f153, f154, f155, f156, f157, f158, f159, f160, f161, f162, f163, f164, f165, f166, f167, f168, f169, f170, f171, f172, f173, f174, f175], ds, h, rd⟩ (loopQ (zmbQ_l0_J f0 f1 f2 f3 f4 f5 f6 f7 f8 f9 f11 f12 f13 f14 f15 f16 f17 f57 f58 f59 f60 f61 f62 f63 f64 f65 f66 f67 f68 f69 f70 f71 f72 f73 f74 f75 f76 f77 f78 f79 f80 f81 f82 f83 f84 f85 f86 f87 f88 f89 f90 f91 f92 f93 f94 f95 f96 f97 f98 f99 f100 f101 f102 f103 f104 f105 f106 f107 f108 f109 f110 f111 f112 f113 f114 f115 f116 f117 f118 f119 f120 f121 f122 f123 f124 f125 f126 f127 f128 f129 f130 f131 f132 f133 f134 f135 f136 f137 f138 f139 f140 f141 f142 f143 f144 f145 f146 f147 f148 f149 f150 f151 f152 f153 f154 f155 f156 f157 f158 f159 f160 f161 f162 f163 f164 f165 f166 f167 f168 f169 f170 f171 f172 f173 f174 f175 ds rd I) m Q))
 (m : Nat) {v10 : Value} {h : Heap} {x18 x19 x20 x21 x22 x23 x24 x25 x26 x27 x28 x29 x30 x31 x32 x33 x34 x35 x36 x37 x38 x39 x40 x41 x42 x43 x44 x45 x46 x47 x48 x49 x50 x51 x52 x53 x54 x55 x56 : Value} (hi : I m v10 h) : RunC Tryz.prog T0 (.loop zmbQ_l0) ⟨[f0, f1, f2, f3, f4, f5, f6, f7, f8, f9, v10, f11, f12, f13, f14, f15, f16, f17, x18, x19, x20, x21, x22, x23, x24, x25, x26, x27, x28, x29, x30, x31, x32, x33, x34, x35, x36, x37, x38, x39, x40, x41, x42, x43, x44, x45, x46, x47, x48, x49, x50, x51, x52, x53, x54, x55, x56, f57, f58, f59, f60, f61, f62, f63, f64, f65, f66, f67, f68, f69, f70, f71, f72, f73, f74, f75, f76, f77, f78, f79, f80, f81, f82, f83, f84, f85, f86, f87, f88, f89, f90, f91, f92, f93, f94, f95, f96, f97, f98, f99, f100, f101, f102, f103, f104, f105, f106, f107, f108, f109, f110, f111, f112, f113, f114, f115, f116, f117, f118, f119, f120, f121, f122, f123, f124, f125, f126, f127, f128, f129, f130, f131, f132, f133, f134, f135, f136, f137, f138, f139, f140, f141, f142, f143, f144, f145, f146, f147, f148, f149, f150, f151, f152, f153, f154, f155, f156, f157, f158, f159, f160, f161, f162, f163, f164, f165, f166, f167, f168, f169, f170, f171, f172, f173, f174, f175], ds, h, rd⟩ Q :=
 RunC.loopJ (zmbQ_l0_J f0 f1 f2 f3 f4 f5 f6 f7 f8 f9 f11 f12 f13 f14 f15 f16 f17 f57 f58 f59 f60 f61 f62 f63 f64 f65 f66 f67 f68 f69 f70 f71 f72 f73 f74 f75 f76 f77 f78 f79 f80 f81 f82 f83 f84 f85 f86 f87 f88 f89 f90 f91 f92 f93 f94 f95 f96 f97 f98 f99 f100 f101 f102 f103 f104 f105 f106 f107 f108 f109 f110 f111 f112 f113 f114 f115 f116 f117 f118 f119 f120 f121 f122 f123 f124 f125 f126 f127 f128 f129 f130 f131 f132 f133 f134 f135 f136 f137 f138 f139 f140 f141 f142 f143 f144 f145 f146 f147 f148 f149 f150 f151 f152 f153 f154 f155 f156 f157 f158 f159 f160 f161 f162 f163 f164 f165 f166 f167 f168 f169 f170 f171 f172 f173 f174 f175 ds rd I) (fun m s hj => by obtain ⟨v10, h, x18, x19, x20, x21, x22, x23, x24, x25, x26, x27, x28, x29, x30, x31, x32, x33, x34, x35, x36, x37, x38, x39, x40, x41, x42, x43, x44, x45, x46, x47, x48, x49, x50, x51, x52, x53, x54, x55, x56, rfl, hi⟩ := hj; exact hb m v10 h x18 x19 x20 x21 x22 x23 x24 x25 x26 x27 x28 x29 x30 x31 x32 x33 x34 x35 x36 x37 x38 x39 x40 x41 x42 x43 x44 x45 x46 x47 x48 x49 x50 x51 x52 x53 x54 x55 x56 hi) m _ ⟨_, h, _, _, _, _, _, _, _, _, _, _, _, _, _, _, _, _, _, _, _, _, _, _, _, _, _, _, _, _, _, _, _, _, _, _, _, _, _, _, _, rfl, hi⟩
theorem zmbQ_l0_again {f0 f1 f2 f3 f4 f5 f6 f7 f8 f9 f11 f12 f13 f14 f15 f16 f17 f57 f58 f59 f60 f61 f62 f63 f64 f65 f66 f67 f68 f69 f70 f71 f72 f73 f74 f75 f76 f77 f78 f79 f80 f81 f82 f83 f84 f85 f86 f87 f88 f89 f90 f91 f92 f93 f94 f95 f96 f97 f98 f99 f100 f101 f102 f103 f104 f105 f106 f107 f108 f109 f110 f111 f112 f113 f114 f115 f116 f117 f118 f119 f120 f121 f122 f123 f124 f125 f126 f127 f128 f129 f130 f131 f132 f133 f134 f135 f136 f137 f138 f139 f140 f141 f142 f143 f144 f145 f146 f147 f148 f149 f150 f151 f152 f153 f154 f155 f156 f157 f158 f159 f160 f161 f162 f163 f164 f165 f166 f167 f168 f169 f170 f171 f172 f173 f174 f175 : Value} {ds : List Deferred} {rd : Option Nat} {Q : QP} {I : Nat → Value → Heap → Prop} {m : Nat} (m' : Nat) {v10 : Value} {h : Heap} {x18 x19 x20 x21 x22 x23 x24 x25 x26 x27 x28 x29 x30 x31 x32 x33 x34 x35 x36 x37 x38 x39 x40 x41 x42 x43 x44 x45 x46 x47 x48 x49 x50 x51 x52 x53 x54 x55 x56 : Value} (hm : m' < m) (hi : I m' v10 h) : loopQ (zmbQ_l0_J f0 f1 f2 f3 f4 f5 f6 f7 f8 f9 f11 f12 f13 f14 f15 f16 f17 f57 f58 f59 f60 f61 f62 f63 f64 f65 f66 f67 f68 f69 f70 f71 f72 f73 f74 f75 f76 f77 f78 f79 f80 f81 f82 f83 f84 f85 f86 f87 f88 f89 f90 f91 f92 f93 f94 f95 f96 f97 f98 f99 f100 f101 f102 f103 f104 f105 f106 f107 f108 f109 f110 f111 f112 f113 f114 f115 f116 f117 f118 f119 f120 f121 f122 f123 f124 f125 f126 f127 f128 f129 f130 f131 f132 f133 f134 f135 f136 f137 f138 f139 f140 f141 f142 f143 f144 f145 f146 f147 f148 f149 f150 f151 f152 f153 f154 f155 f156 f157 f158 f159 f160 f161 f162 f163 f164 f165 f166 f167 f168 f169 f170 f171 f172 f173 f174 f175 ds rd I) m Q .normal ⟨[f0, f1, f2, f3, f4, f5, f6, f7, f8, f9, v10, f11, f12, f13, f14, f15, f16, f17, x18, x19, x20, x21, x22, x23, x24, x25, x26, x27, x28, x29, x30, x31, x32, x33, x34, x35, x36, x37, x38, x39, x40, x41, x42, x43, x44, x45, x46, x47, x48, x49, x50, x51, x52, x53, x54, x55, x56, f57, f58, f59, f60, f61, f62, f63, f64, f65, f66, f67, f68, f69, f70, f71, f72, f73, f74, f75, f76, f77, f78, f79, f80, f81, f82, f83, f84, f85, f86, f87, f88, f89, f90, f91, f92, f93, f94, f95, f96, f97, f98, f99, f100, f101, f102, f103, f104, f105, f106, f107, f108, f109, f110, f111, f112, f113, f114, f115, f116, f117, f118, f119, f120, f121, f122, f123, f124, f125, f126, f127, f128, f129, f130, f131, f132, f133, f134, f135, f136, f137, f138, f139, f140, f141, f142, f143, f144, f145, f146, f147, f148, f149, f150, f151, f152, f153, f154, f155, f156, f157, f158, f159, f160, f161, f162, f163, f164, f165, f166, f167, f168, f169, f170, f171, f172, f173, f174, f175], ds, h, rd⟩ :=
 loopQ.again m' hm ⟨_, h, _, _, _, _, _, _, _, _, _, _, _, _, _, _, _, _, _, _, _, _, _, _, _, _, _, _, _, _, _, _, _, _, _, _, _, _, _, _, _, rfl, hi⟩
def zmbQ_l1_J (f0 f1 f2 f3 f4 f5 f6 f7 f8 f9 f10 f11 f13 f14 f15 f16 f17 f18 f19 f20 f21 f22 f23 f24 f25 f26 f27 f28 f29 f30 f31 f32 f33 f34 f35 f36 f37 f38 f39 f40 f41 f42 f43 f44 f45 f46 f47 f48 f49 f50 f51 f52 f53 f54 f55 f56 f72 f73 f74 f75 f76 f77 f78 f79 f80 f81 f82 f83 f84 f85 f86 f87 f88 f89 f90 f91 f92 f93 f94 f95 f96 f97 f98 f99 f100 f101 f102 f103 f104 f105 f106 f107 f108 f109 f110 f111 f112 f113 f114 f115 f116 f117 f118 f119 f120 f121 f122 f123 f124 f125 f126 f127 f128 f129 f130 f131 f132 f133 f134 f135 f136 f137 f138 f139 f140 f141 f142 f143 f144 f145 f146 f147 f148 f149 f150 f151 f152 f153 f154 f155 f156 f157 f158 f159 f160 f161 f162 f163 f164 f165 f166 f167 f168 f169 f170 f171 f172 f173 f174 f175 : Value) (ds : List Deferred) (rd : Option Nat) (I : Nat → Value → Heap → Prop) (m : Nat) (s : St) : Prop := ∃ (v12 : Value), ∃ h : Heap, ∃ (x57 x58 x59 x60 x61 x62 x63 x64 x65 x66 x67 x68 x69 x70 x71 : Value), s = ⟨[f0, f1, f2, f3, f4, f5, f6, f7, f8, f9, f10, f11, v12, f13, f14, f15, f16, f17, f18, f19, f20, f21, f22, f23, f24, f25, f26, f27, f28, f29, f30, f31, f32, f33, f34, f35, f36, f37, f38, f39, f40, f41, f42, f43, f44, f45, f46, f47, f48, f49, f50, f51, f52, f53, f54, f55, f56, x57, x58, x59, x60, x61, x62, x63, x64, x65, x66, x67, x68, x69, x70, x71, f72, f73, f74, f75, f76, f77, f78, f79, f80, f81, f82, f83, f84, f85, f86, f87, f88, f89, f90, f91, f92, f93, f94, f95, f96, f97, f98, f99, f100, f101, f102, f103, f104, f105, f106, f107, f108, f109, f110, f111, f112, f113, f114, f115, f116, f117, f118, f119, f120, f121, f122, f123, f124, f125, f126, f127, f128, f129, f130, f131, f132, f133, f134, f135, f136, f137, f138, f139, f140, f141, f142, f143, f144, f145, f146, f147, f148, f149, f150, f151, f152, f153, f154, f155, f156, f157, f158, f159, f160, f161, f162, f163, f164, f165, f166, f167, f168, f169, f170, f171, f172, f173, f174, f175], ds, h, rd⟩ ∧ I m v12 h
theorem zmbQ_l1_rule {f0 f1 f2 f3 f4 f5 f6 f7 f8 f9 f10 f11 f13 f14 f15 f16 f17 f18 f19 f20 f21 f22 f23 f24 f25 f26 f27 f28 f29 f30 f31 f32 f33 f34 f35 f36 f37 f38 f39 f40 f41 f42 f43 f44 f45 f46 f47 f48 f49 f50 f51 f52 f53 f54 f55 f56 f72 f73 f74 f75 f76 f77 f78 f79 f80 f81 f82 f83 f84 f85 f86 f87 f88 f89 f90 f91 f92 f93 f94 f95 f96 f97 f98 f99 f100 f101 f102 f103 f104 f105 f106 f107 f108 f109 f110 f111 f112 f113 f114 f115 f116 f117 f118 f119 f120 f121 f122 f123 f124 f125 f126 f127 f128 f129 f130 f131 f132 f133 f134 f135 f136 f137 f138 f139 f140 f141 f142 f143 f144 f145 f146 f147 f148 f149 f150 f151 f152 f153 f154 f155 f156 f157 f158 f159 f160 f161 f162 f163 f164 f165 f166 f167 f168 f169 f170 f171 f172 f173 f174 f175 : Value} {ds : List Deferred} {rd : Option Nat} {Q : QP} (I : Nat → Value → Heap → Prop) (hb : ∀ (m : Nat) (v12 : Value) (h : Heap) (x57 x58 x59 x60 x61 x62 x63 x64 x65 x66 x67 x68 x69 x70 x71 : Value) , I m v12 h → RunC Tryz.prog T0 zmbQ_l1 ⟨[f0, f1, f2, f3, f4, f5, f6, f7, f8, f9, f10, f11, v12, f13, f14, f15, f16, f17, f18, f19, f20, f21, f22, f23, f24, f25, f26, f27, f28, f29, f30, f31, f32, f33, f34, f35, f36, f37, f38, f39, f40, f41, f42, f43, f44, f45, f46, f47, f48, f49, f50, f51, f52, f53, f54, f55, f56, x57, x58, x59, x60, x61, x62, x63, x64, x65, x66, x67, x68, x69, x70, x71, f72, f73, f74, f75, f76, f77, f78, f79, f80, f81, f82, f83, f84, f85, f86, f87, f88, f89, f90, f91, f92, f93, f94, f95, f96, f97, f98, f99, f100, f101, f102, f103, f104, f105, f106, f107, f108, f109, f110, f111, f112, f113, f114, f115, f116, f117, f118, f119, f120, f121, f122, f123, f124, f125, f126, f127, f128, f129, f130, f131, f132, f133, f134, f135, f136, f137, f138, f139, f140, f141, f142, f143, f144, f145, f146, f147, f148, f149, f150, f151, f152, f153, f154, f155, f156, f157, f158, f159, f160, f161, f162, f163, f164, f165, f166, f167, f168, f169, f170, f171, f172, f173, f174, f175], ds, h, rd⟩ (loopQ (zmbQ_l1_J f0 f1 f2 f3 f4 f5 f6 f7 f8 f9 f10 f11 f13 f14 f15 f16 f17 f18 f19 f20 f21 f22 f23 f24 f25 f26 f27 f28 f29 f30 f31 f32 f33 f34 f35 f36 f37 f38 f39 f40 f41 f42 f43 f44 f45 f46 f47 f48 f49 f50 f51 f52 f53 f54 f55 f56 f72 f73 f74 f75 f76 f77 f78 f79 f80 f81 f82 f83 f84 f85 f86 f87 f88 f89 f90 f91 f92 f93 f94 f95 f96 f97 f98 f99 f100 f101 f102 f103 f104 f105 f106 f107 f108 f109 f110 f111 f112 f113 f114 f115 f116 f117 f118 f119 f120 f121 f122 f123 f124 f125 f126 f127 f128 f129 f130 f131 f132 f133 f134 f135 f136 f137 f138 f139 f140 f141 f142 f143 f144 f145 f146 f147 f148 f149 f150 f151 f152 f153 f154 f155 f156 f157 f158 f159 f160 f161 f162 f163 f164 f165 f166 f167 f168 f169 f170 f171 f172 f173 f174 f175 ds rd I) m Q))
 (m : Nat) {v12 : Value} {h : Heap} {x57 x58 x59 x60 x61 x62 x63 x64 x65 x66 x67 x68 x69 x70 x71 : Value} (hi : I m v12 h) : RunC Tryz.prog T0 (.loop zmbQ_l1) ⟨[f0, f1, f2, f3, f4, f5, f6, f7, f8, f9, f10, f11, v12, f13, f14, f15, f16, f17, f18, f19, f20, f21, f22, f23, f24, f25, f26, f27, f28, f29, f30, f31, f32, f33, f34, f35, f36, f37, f38, f39, f40, f41, f42, f43, f44, f45, f46, f47, f48, f49, f50, f51, f52, f53, f54, f55, f56, x57, x58, x59, x60, x61, x62, x63, x64, x65, x66, x67, x68, x69, x70, x71, f72, f73, f74, f75, f76, f77, f78, f79, f80, f81, f82, f83, f84, f85, f86, f87, f88, f89, f90, f91, f92, f93, f94, f95, f96, f97, f98, f99, f100, f101, f102, f103, f104, f105, f106, f107, f108, f109, f110, f111, f112, f113, f114, f115, f116, f117, f118, f119, f120, f121, f122, f123, f124, f125, f126, f127, f128, f129, f130, f131, f132, f133, f134, f135, f136, f137, f138, f139, f140, f141, f142, f143, f144, f145, f146, f147, f148, f149, f150, f151, f152, f153, f154, f155, f156, f157, f158, f159, f160, f161, f162, f163, f164, f165, f166, f167, f168, f169, f170, f171, f172, f173, f174, f175], ds, h, rd⟩ Q :=
 RunC.loopJ (zmbQ_l1_J f0 f1 f2 f3 f4 f5 f6 f7 f8 f9 f10 f11 f13 f14 f15 f16 f17 f18 f19 f20 f21 f22 f23 f24 f25 f26 f27 f28 f29 f30 f31 f32 f33 f34 f35 f36 f37 f38 f39 f40 f41 f42 f43 f44 f45 f46 f47 f48 f49 f50 f51 f52 f53 f54 f55 f56 f72 f73 f74 f75 f76 f77 f78 f79 f80 f81 f82 f83 f84 f85 f86 f87 f88 f89 f90 f91 f92 f93 f94 f95 f96 f97 f98 f99 f100 f101 f102 f103 f104 f105 f106 f107 f108 f109 f110 f111 f112 f113 f114 f115 f116 f117 f118 f119 f120 f121 f122 f123 f124 f125 f126 f127 f128 f129 f130 f131 f132 f133 f134 f135 f136 f137 f138 f139 f140 f141 f142 f143 f144 f145 f146 f147 f148 f149 f150 f151 f152 f153 f154 f155 f156 f157 f158 f159 f160 f161 f162 f163 f164 f165 f166 f167 f168 f169 f170 f171 f172 f173 f174 f175 ds rd I) (fun m s hj => by obtain ⟨v12, h, x57, x58, x59, x60, x61, x62, x63, x64, x65, x66, x67, x68, x69, x70, x71, rfl, hi⟩ := hj; exact hb m v12 h x57 x58 x59 x60 x61 x62 x63 x64 x65 x66 x67 x68 x69 x70 x71 hi) m _ ⟨_, h, _, _, _, _, _, _, _, _, _, _, _, _, _, _, _, rfl, hi⟩
theorem zmbQ_l1_again {f0 f1 f2 f3 f4 f5 f6 f7 f8 f9 f10 f11 f13 f14 f15 f16 f17 f18 f19 f20 f21 f22 f23 f24 f25 f26 f27 f28 f29 f30 f31 f32 f33 f34 f35 f36 f37 f38 f39 f40 f41 f42 f43 f44 f45 f46 f47 f48 f49 f50 f51 f52 f53 f54 f55 f56 f72 f73 f74 f75 f76 f77 f78 f79 f80 f81 f82 f83 f84 f85 f86 f87 f88 f89 f90 f91 f92 f93 f94 f95 f96 f97 f98 f99 f100 f101 f102 f103 f104 f105 f106 f107 f108 f109 f110 f111 f112 f113 f114 f115 f116 f117 f118 f119 f120 f121 f122 f123 f124 f125 f126 f127 f128 f129 f130 f131 f132 f133 f134 f135 f136 f137 f138 f139 f140 f141 f142 f143 f144 f145 f146 f147 f148 f149 f150 f151 f152 f153 f154 f155 f156 f157 f158 f159 f160 f161 f162 f163 f164 f165 f166 f167 f168 f169 f170 f171 f172 f173 f174 f175 : Value} {ds : List Deferred} {rd : Option Nat} {Q : QP} {I : Nat → Value → Heap → Prop} {m : Nat} (m' : Nat) {v12 : Value} {h : Heap} {x57 x58 x59 x60 x61 x62 x63 x64 x65 x66 x67 x68 x69 x70 x71 : Value} (hm : m' < m) (hi : I m' v12 h) : loopQ (zmbQ_l1_J f0 f1 f2 f3 f4 f5 f6 f7 f8 f9 f10 f11 f13 f14 f15 f16 f17 f18 f19 f20 f21 f22 f23 f24 f25 f26 f27 f28 f29 f30 f31 f32 f33 f34 f35 f36 f37 f38 f39 f40 f41 f42 f43 f44 f45 f46 f47 f48 f49 f50 f51 f52 f53 f54 f55 f56 f72 f73 f74 f75 f76 f77 f78 f79 f80 f81 f82 f83 f84 f85 f86 f87 f88 f89 f90 f91 f92 f93 f94 f95 f96 f97 f98 f99 f100 f101 f102 f103 f104 f105 f106 f107 f108 f109 f110 f111 f112 f113 f114 f115 f116 f117 f118 f119 f120 f121 f122 f123 f124 f125 f126 f127 f128 f129 f130 f131 f132 f133 f134 f135 f136 f137 f138 f139 f140 f141 f142 f143 f144 f145 f146 f147 f148 f149 f150 f151 f152 f153 f154 f155 f156 f157 f158 f159 f160 f161 f162 f163 f164 f165 f166 f167 f168 f169 f170 f171 f172 f173 f174 f175 ds rd I) m Q .normal ⟨[f0, f1, f2, f3, f4, f5, f6, f7, f8, f9, f10, f11, v12, f13, f14, f15, f16, f17, f18, f19, f20, f21, f22, f23, f24, f25, f26, f27, f28, f29, f30, f31, f32, f33, f34, f35, f36, f37, f38, f39, f40, f41, f42, f43, f44, f45, f46, f47, f48, f49, f50, f51, f52, f53, f54, f55, f56, x57, x58, x59, x60, x61, x62, x63, x64, x65, x66, x67, x68, x69, x70, x71, f72, f73, f74, f75, f76, f77, f78, f79, f80, f81, f82, f83, f84, f85, f86, f87, f88, f89, f90, f91, f92, f93, f94, f95, f96, f97, f98, f99, f100, f101, f102, f103, f104, f105, f106, f107, f108, f109, f110, f111, f112, f113, f114, f115, f116, f117, f118, f119, f120, f121, f122, f123, f124, f125, f126, f127, f128, f129, f130, f131, f132, f133, f134, f135, f136, f137, f138, f139, f140, f141, f142, f143, f144, f145, f146, f147, f148, f149, f150, f151, f152, f153, f154, f155, f156, f157, f158, f159, f160, f161, f162, f163, f164, f165, f166, f167, f168, f169, f170, f171, f172, f173, f174, f175], ds, h, rd⟩ :=
 loopQ.again m' hm ⟨_, h, _, _, _, _, _, _, _, _, _, _, _, _, _, _, _, rfl, hi⟩
def zmbQ_l2_J (f0 f1 f2 f3 f4 f5 f6 f7 f8 f9 f10 f11 f12 f13 f14 f16 f17 f18 f19 f20 f21 f22 f23 f24 f25 f26 f27 f28 f29 f30 f31 f32 f33 f34 f35 f36 f37 f38 f39 f40 f41 f42 f43 f44 f45 f46 f47 f48 f49 f50 f51 f52 f53 f54 f55 f56 f57 f58 f59 f60 f61 f62 f63 f64 f65 f66 f67 f68 f69 f70 f71 f72 f73 f74 f75 f76 f77 f78 f79 f80 f81 f82 f83 f84 f85 f86 f87 f88 f89 f90 f91 f92 f93 f94 f95 f96 f97 f124 f125 f126 f127 f128 f129 f130 f131 f132 f133 f134 f135 f136 f137 f138 f139 f140 f141 f142 f143 f144 f145 f146 f147 f148 f149 f150 f151 f152 f153 f154 f155 f156 f157 f158 f159 f160 f161 f162 f163 f164 f165 f166 f167 f168 f169 f170 f171 f172 f173 f174 f175 : Value) (ds : List Deferred) (rd : Option Nat) (I : Nat → Value → Heap → Prop) (m : Nat) (s : St) : Prop := ∃ (v15 : Value), ∃ h : Heap, ∃ (x98 x99 x100 x101 x102 x103 x104 x105 x106 x107 x108 x109 x110 x111 x112 x113 x114 x115 x116 x117 x118 x119 x120 x121 x122 x123 : Value), s = ⟨[f0, f1, f2, f3, f4, f5, f6, f7, f8, f9, f10, f11, f12, f13, f14, v15, f16, f17, f18, f19, f20, f21, f22, f23, f24, f25, f26, f27, f28, f29, f30, f31, f32, f33, f34, f35, f36, f37, f38, f39, f40, f41, f42, f43, f44, f45, f46, f47, f48, f49, f50, f51, f52, f53, f54, f55, f56, f57, f58, f59, f60, f61, f62, f63, f64, f65, f66, f67, f68, f69, f70, f71, f72, f73, f74, f75, f76, f77, f78, f79, f80, f81, f82, f83, f84, f85, f86, f87, f88, f89, f90, f91, f92, f93, f94, f95, f96, f97, x98, x99, x100, x101, x102, x103, x104, x105, x106, x107, x108, x109, x110, x111, x112, x113, x114, x115, x116, x117, x118, x119, x120, x121, x122, x123, f124, f125, f126, f127, f128, f129, f130, f131, f132, f133, f134, f135, f136, f137, f138, f139, f140, f141, f142, f143, f144, f145, f146, f147, f148, f149, f150, f151, f152, f153, f154, f155, f156, f157, f158, f159, f160, f161, f162, f163, f164, f165, f166, f167, f168, f169, f170, f171, f172, f173, f174, f175], ds, h, rd⟩ ∧ I m v15 h
theorem zmbQ_l2_rule {f0 f1 f2 f3 f4 f5 f6 f7 f8 f9 f10 f11 f12 f13 f14 f16 f17 f18 f19 f20 f21 f22 f23 f24 f25 f26 f27 f28 f29 f30 f31 f32 f33 f34 f35 f36 f37 f38 f39 f40 f41 f42 f43 f44 f45 f46 f47 f48 f49 f50 f51 f52 f53 f54 f55 f56 f57 f58 f59 f60 f61 f62 f63 f64 f65 f66 f67 f68 f69 f70 f71 f72 f73 f74 f75 f76 f77 f78 f79 f80 f81 f82 f83 f84 f85 f86 f87 f88 f89 f90 f91 f92 f93 f94 f95 f96 f97 f124 f125 f126 f127 f128 f129 f130 f131 f132 f133 f134 f135 f136 f137 f138 f139 f140 f141 f142 f143 f144 f145 f146 f147 f148 f149 f150 f151 f152 f153 f154 f155 f156 f157 f158 f159 f160 f161 f162 f163 f164 f165 f166 f167 f168 f169 f170 f171 f172 f173 f174 f175 : Value} {ds : List Deferred} {rd : Option Nat} {Q : QP} (I : Nat → Value → Heap → Prop) (hb : ∀ (m : Nat) (v15 : Value) (h : Heap) (x98 x99 x100 x101 x102 x103 x104 x105 x106 x107 x108 x109 x110 x111 x112 x113 x114 x115 x116 x117 x118 x119 x120 x121 x122 x123 : Value) , I m v15 h → RunC Tryz.prog T0 zmbQ_l2 ⟨[f0, f1, f2, f3, f4, f5, f6, f7, f8, f9, f10, f11, f12, f13, f14, v15, f16, f17, f18, f19, f20, f21, f22, f23, f24, f25, f26, f27, f28, f29, f30, f31, f32, f33, f34, f35, f36, f37, f38, f39, f40, f41, f42, f43, f44, f45, f46, f47, f48, f49, f50, f51, f52, f53, f54, f55, f56, f57, f58, f59, f60, f61, f62, f63, f64, f65, f66, f67, f68, f69, f70, f71, f72, f73, f74, f75, f76, f77, f78, f79, f80, f81, f82, f83, f84, f85, f86, f87, f88, f89, f90, f91, f92, f93, f94, f95, f96, f97, x98, x99, x100, x101, x102, x103, x104, x105, x106, x107, x108, x109, x110, x111, x112, x113, x114, x115, x116, x117, x118, x119, x120, x121, x122, x123, f124, f125, f126, f127, f128, f129, f130, f131, f132, f133, f134, f135, f136, f137, f138, f139, f140, f141, f142, f143, f144, f145, f146, f147, f148, f149, f150, f151, f152, f153, f154, f155, f156, f157, f158, f159, f160, f161, f162, f163, f164, f165, f166, f167, f168, f169, f170, f171, f172, f173, f174, f175], ds, h, rd⟩ (loopQ (zmbQ_l2_J f0 f1 f2 f3 f4 f5 f6 f7 f8 f9 f10 f11 f12 f13 f14 f16 f17 f18 f19 f20 f21 f22 f23 f24 f25 f26 f27 f28 f29 f30 f31 f32 f33 f34 f35 f36 f37 f38 f39 f40 f41 f42 f43 f44 f45 f46 f47 f48 f49 f50 f51 f52 f53 f54 f55 f56 f57 f58 f59 f60 f61 f62 f63 f64 f65 f66 f67 f68 f69 f70 f71 f72 f73 f74 f75 f76 f77 f78 f79 f80 f81 f82 f83 f84 f85 f86 f87 f88 f89 f90 f91 f92 f93 f94 f95 f96 f97 f124 f125 f126 f127 f128 f129 f130 f131 f132 f133 f134 f135 f136 f137 f138 f139 f140 f141 f142 f143 f144 f145 f146 f147 f148 f149 f150 f151 f152 f153 f154 f155 f156 f157 f158 f159 f160 f161 f162 f163 f164 f165 f166 f167 f168 f169 f170 f171 f172 f173 f174 f175 ds rd I) m Q))
 (m : Nat) {v15 : Value} {h : Heap} {x98 x99 x100 x101 x102 x103 x104 x105 x106 x107 x108 x109 x110 x111 x112 x113 x114 x115 x116 x117 x118 x119 x120 x121 x122 x123 : Value} (hi : I m v15 h) : RunC Tryz.prog T0 (.loop zmbQ_l2) ⟨[f0, f1, f2, f3, f4, f5, f6, f7, f8, f9, f10, f11, f12, f13, f14, v15, f16, f17, f18, f19, f20, f21, f22, f23, f24, f25, f26, f27, f28, f29, f30, f31, f32, f33, f34, f35, f36, f37, f38, f39, f40, f41, f42, f43, f44, f45, f46, f47, f48, f49, f50, f51, f52, f53, f54, f55, f56, f57, f58, f59, f60, f61, f62, f63, f64, f65, f66, f67, f68, f69, f70, f71, f72, f73, f74, f75, f76, f77, f78, f79, f80, f81, f82, f83, f84, f85, f86, f87, f88, f89, f90, f91, f92, f93, f94, f95, f96, f97, x98, x99, x100, x101, x102, x103, x104, x105, x106, x107, x108, x109, x110, x111, x112, x113, x114, x115, x116, x117, x118, x119, x120, x121, x122, x123, f124, f125, f126, f127, f128, f129, f130, f131, f132, f133, f134, f135, f136, f137, f138, f139, f140, f141, f142, f143, f144, f145, f146, f147, f148, f149, f150, f151, f152, f153, f154, f155, f156, f157, f158, f159, f160, f161, f162, f163, f164, f165, f166, f167, f168, f169, f170, f171, f172, f173, f174, f175], ds, h, rd⟩ Q :=
 RunC.loopJ (zmbQ_l2_J f0 f1 f2 f3 f4 f5 f6 f7 f8 f9 f10 f11 f12 f13 f14 f16 f17 f18 f19 f20 f21 f22 f23 f24 f25 f26 f27 f28 f29 f30 f31 f32 f33 f34 f35 f36 f37 f38 f39 f40 f41 f42 f43 f44 f45 f46 f47 f48 f49 f50 f51 f52 f53 f54 f55 f56 f57 f58 f59 f60 f61 f62 f63 f64 f65 f66 f67 f68 f69 f70 f71 f72 f73 f74 f75 f76 f77 f78 f79 f80 f81 f82 f83 f84 f85 f86 f87 f88 f89 f90 f91 f92 f93 f94 f95 f96 f97 f124 f125 f126 f127 f128 f129 f130 f131 f132 f133 f134 f135 f136 f137 f138 f139 f140 f141 f142 f143 f144 f145 f146 f147 f148 f149 f150 f151 f152 f153 f154 f155 f156 f157 f158 f159 f160 f161 f162 f163 f164 f165 f166 f167 f168 f169 f170 f171 f172 f173 f174 f175 ds rd I) (fun m s hj => by obtain ⟨v15, h, x98, x99, x100, x101, x102, x103, x104, x105, x106, x107, x108, x109, x110, x111, x112, x113, x114, x115, x116, x117, x118, x119, x120, x121, x122, x123, rfl, hi⟩ := hj; exact hb m v15 h x98 x99 x100 x101 x102 x103 x104 x105 x106 x107 x108 x109 x110 x111 x112 x113 x114 x115 x116 x117 x118 x119 x120 x121 x122 x123 hi) m _ ⟨_, h, _, _, _, _, _, _, _, _, _, _, _, _, _, _, _, _, _, _, _, _, _, _, _, _, _, _, rfl, hi⟩
theorem zmbQ_l2_again {f0 f1 f2 f3 f4 f5 f6 f7 f8 f9 f10 f11 f12 f13 f14 f16 f17 f18 f19 f20 f21 f22 f23 f24 f25 f26 f27 f28 f29 f30 f31 f32 f33 f34 f35 f36 f37 f38 f39 f40 f41 f42 f43 f44 f45 f46 f47 f48 f49 f50 f51 f52 f53 f54 f55 f56 f57 f58 f59 f60 f61 f62 f63 f64 f65 f66 f67 f68 f69 f70 f71 f72 f73 f74 f75 f76 f77 f78 f79 f80 f81 f82 f83 f84 f85 f86 f87 f88 f89 f90 f91 f92 f93 f94 f95 f96 f97 f124 f125 f126 f127 f128 f129 f130 f131 f132 f133 f134 f135 f136 f137 f138 f139 f140 f141 f142 f143 f144 f145 f146 f147 f148 f149 f150 f151 f152 f153 f154 f155 f156 f157 f158 f159 f160 f161 f162 f163 f164 f165 f166 f167 f168 f169 f170 f171 f172 f173 f174 f175 : Value} {ds : List Deferred} {rd : Option Nat} {Q : QP} {I : Nat → Value → Heap → Prop} {m : Nat} (m' : Nat) {v15 : Value} {h : Heap} {x98 x99 x100 x101 x102 x103 x104 x105 x106 x107 x108 x109 x110 x111 x112 x113 x114 x115 x116 x117 x118 x119 x120 x121 x122 x123 : Value} (hm : m' < m) (hi : I m' v15 h) : loopQ (zmbQ_l2_J f0 f1 f2 f3 f4 f5 f6 f7 f8 f9 f10 f11 f12 f13 f14 f16 f17 f18 f19 f20 f21 f22 f23 f24 f25 f26 f27 f28 f29 f30 f31 f32 f33 f34 f35 f36 f37 f38 f39 f40 f41 f42 f43 f44 f45 f46 f47 f48 f49 f50 f51 f52 f53 f54 f55 f56 f57 f58 f59 f60 f61 f62 f63 f64 f65 f66 f67 f68 f69 f70 f71 f72 f73 f74 f75 f76 f77 f78 f79 f80 f81 f82 f83 f84 f85 f86 f87 f88 f89 f90 f91 f92 f93 f94 f95 f96 f97 f124 f125 f126 f127 f128 f129 f130 f131 f132 f133 f134 f135 f136 f137 f138 f139 f140 f141 f142 f143 f144 f145 f146 f147 f148 f149 f150 f151 f152 f153 f154 f155 f156 f157 f158 f159 f160 f161 f162 f163 f164 f165 f166 f167 f168 f169 f170 f171 f172 f173 f174 f175 ds rd I) m Q .normal ⟨[f0, f1, f2, f3, f4, f5, f6, f7, f8, f9, f10, f11, f12, f13, f14, v15, f16, f17, f18, f19, f20, f21, f22, f23, f24, f25, f26, f27, f28, f29, f30, f31, f32, f33, f34, f35, f36, f37, f38, f39, f40, f41, f42, f43, f44, f45, f46, f47, f48, f49, f50, f51, f52, f53, f54, f55, f56, f57, f58, f59, f60, f61, f62, f63, f64, f65, f66, f67, f68, f69, f70, f71, f72, f73, f74, f75, f76, f77, f78, f79, f80, f81, f82, f83, f84, f85, f86, f87, f88, f89, f90, f91, f92, f93, f94, f95, f96, f97, x98, x99, x100, x101, x102, x103, x104, x105, x106, x107, x108, x109, x110, x111, x112, x113, x114, x115, x116, x117, x118, x119, x120, x121, x122, x123, f124, f125, f126, f127, f128, f129, f130, f131, f132, f133, f134, f135, f136, f137, f138, f139, f140, f141, f142, f143, f144, f145, f146, f147, f148, f149, f150, f151, f152, f153, f154, f155, f156, f157, f158, f159, f160, f161, f162, f163, f164, f165, f166, f167, f168, f169, f170, f171, f172, f173, f174, f175], ds, h, rd⟩ :=
 loopQ.again m' hm ⟨_, h, _, _, _, _, _, _, _, _, _, _, _, _, _, _, _, _, _, _, _, _, _, _, _, _, _, _, rfl, hi⟩
def zmbQ_l3_J (f0 f1 f2 f3 f4 f5 f6 f7 f8 f9 f10 f11 f12 f13 f14 f15 f17 f18 f19 f20 f21 f22 f23 f24 f25 f26 f27 f28 f29 f30 f31 f32 f33 f34 f35 f36 f37 f38 f39 f40 f41 f42 f43 f44 f45 f46 f47 f48 f49 f50 f51 f52 f53 f54 f55 f56 f57 f58 f59 f60 f61 f62 f63 f64 f65 f66 f67 f68 f69 f70 f71 f72 f73 f74 f75 f76 f77 f78 f79 f80 f81 f82 f83 f84 f85 f86 f87 f88 f89 f90 f91 f92 f93 f94 f95 f96 f97 f98 f99 f100 f101 f102 f103 f104 f105 f106 f107 f108 f109 f110 f111 f112 f113 f114 f115 f116 f117 f118 f119 f120 f121 f122 f123 f157 f158 f159 f160 f161 f162 f163 f164 f165 f166 f167 f168 f169 f170 f171 f172 f173 f174 f175 : Value) (ds : List Deferred) (rd : Option Nat) (I : Nat → Value → Heap → Prop) (m : Nat) (s : St) : Prop := ∃ (v16 : Value), ∃ h : Heap, ∃ (x124 x125 x126 x127 x128 x129 x130 x131 x132 x133 x134 x135 x136 x137 x138 x139 x140 x141 x142 x143 x144 x145 x146 x147 x148 x149 x150 x151 x152 x153 x154 x155 x156 : Value), s = ⟨[f0, f1, f2, f3, f4, f5, f6, f7, f8, f9, f10, f11, f12, f13, f14, f15, v16, f17, f18, f19, f20, f21, f22, f23, f24, f25, f26, f27, f28, f29, f30, f31, f32, f33, f34, f35, f36, f37, f38, f39, f40, f41, f42, f43, f44, f45, f46, f47, f48, f49, f50, f51, f52, f53, f54, f55, f56, f57, f58, f59, f60, f61, f62, f63, f64, f65, f66, f67, f68, f69, f70, f71, f72, f73, f74, f75, f76, f77, f78, f79, f80, f81, f82, f83, f84, f85, f86, f87, f88, f89, f90, f91, f92, f93, f94, f95, f96, f97, f98, f99, f100, f101, f102, f103, f104, f105, f106, f107, f108, f109, f110, f111, f112, f113, f114, f115, f116, f117, f118, f119, f120, f121, f122, f123, x124, x125, x126, x127, x128, x129, x130, x131, x132, x133, x134, x135, x136, x137, x138, x139, x140, x141, x142, x143, x144, x145, x146, x147, x148, x149, x150, x151, x152, x153, x154, x155, x156, f157, f158, f159, f160, f161, f162, f163, f164, f165, f166, f167, f168, f169, f170, f171, f172, f173, f174, f175], ds, h, rd⟩ ∧ I m v16 h
theorem zmbQ_l3_rule {f0 f1 f2 f3 f4 f5 f6 f7 f8 f9 f10 f11 f12 f13 f14 f15 f17 f18 f19 f20 f21 f22 f23 f24 f25 f26 f27 f28 f29 f30 f31 f32 f33 f34 f35 f36 f37 f38 f39 f40 f41 f42 f43 f44 f45 f46 f47 f48 f49 f50 f51 f52 f53 f54 f55 f56 f57 f58 f59 f60 f61 f62 f63 f64 f65 f66 f67 f68 f69 f70 f71 f72 f73 f74 f75 f76 f77 f78 f79 f80 f81 f82 f83 f84 f85 f86 f87 f88 f89 f90 f91 f92 f93 f94 f95 f96 f97 f98 f99 f100 f101 f102 f103 f104 f105 f106 f107 f108 f109 f110 f111 f112 f113 f114 f115 f116 f117 f118 f119 f120 f121 f122 f123 f157 f158 f159 f160 f161 f162 f163 f164 f165 f166 f167 f168 f169 f170 f171 f172 f173 f174 f175 : Value} {ds : List Deferred} {rd : Option Nat} {Q : QP} (I : Nat → Value → Heap → Prop) (hb : ∀ (m : Nat) (v16 : Value) (h : Heap) (x124 x125 x126 x127 x128 x129 x130 x131 x132 x133 x134 x135 x136 x137 x138 x139 x140 x141 x142 x143 x144 x145 x146 x147 x148 x149 x150 x151 x152 x153 x154 x155 x156 : Value) , I m v16 h → RunC Tryz.prog T0 zmbQ_l3 ⟨[f0, f1, f2, f3, f4, f5, f6, f7, f8, f9, f10, f11, f12, f13, f14, f15, v16, f17, f18, f19, f20, f21, f22, f23, f24, f25, f26, f27, f28, f29, f30, f31, f32, f33, f34, f35, f36, f37, f38, f39, f40, f41, f42, f43, f44, f45, f46, f47, f48, f49, f50, f51, f52, f53, f54, f55, f56, f57, f58, f59, f60, f61, f62, f63, f64, f65, f66, f67, f68, f69, f70, f71, f72, f73, f74, f75, f76, f77, f78, f79, f80, f81, f82, f83, f84, f85, f86, f87, f88, f89, f90, f91, f92, f93, f94, f95, f96, f97, f98, f99, f100, f101, f102, f103, f104, f105, f106, f107, f108, f109, f110, f111, f112, f113, f114, f115, f116, f117, f118, f119, f120, f121, f122, f123, x124, x125, x126, x127, x128, x129, x130, x131, x132, x133, x134, x135, x136, x137, x138, x139, x140, x141, x142, x143, x144, x145, x146, x147, x148, x149, x150, x151, x152, x153, x154, x155, x156, f157, f158, f159, f160, f161, f162, f163, f164, f165, f166, f167, f168, f169, f170, f171, f172, f173, f174, f175], ds, h, rd⟩ (loopQ (zmbQ_l3_J f0 f1 f2 f3 f4 f5 f6 f7 f8 f9 f10 f11 f12 f13 f14 f15 f17 f18 f19 f20 f21 f22 f23 f24 f25 f26 f27 f28 f29 f30 f31 f32 f33 f34 f35 f36 f37 f38 f39 f40 f41 f42 f43 f44 f45 f46 f47 f48 f49 f50 f51 f52 f53 f54 f55 f56 f57 f58 f59 f60 f61 f62 f63 f64 f65 f66 f67 f68 f69 f70 f71 f72 f73 f74 f75 f76 f77 f78 f79 f80 f81 f82 f83 f84 f85 f86 f87 f88 f89 f90 f91 f92 f93 f94 f95 f96 f97 f98 f99 f100 f101 f102 f103 f104 f105 f106 f107 f108 f109 f110 f111 f112 f113 f114 f115 f116 f117 f118 f119 f120 f121 f122 f123 f157 f158 f159 f160 f161 f162 f163 f164 f165 f166 f167 f168 f169 f170 f171 f172 f173 f174 f175 ds rd I) m Q))
 (m : Nat) {v16 : Value} {h : Heap} {x124 x125 x126 x127 x128 x129 x130 x131 x132 x133 x134 x135 x136 x137 x138 x139 x140 x141 x142 x143 x144 x145 x146 x147 x148 x149 x150 x151 x152 x153 x154 x155 x156 : Value} (hi : I m v16 h) : RunC Tryz.prog T0 (.loop zmbQ_l3) ⟨[f0, f1, f2, f3, f4, f5, f6, f7, f8, f9, f10, f11, f12, f13, f14, f15, v16, f17, f18, f19, f20, f21, f22, f23, f24, f25, f26, f27, f28, f29, f30, f31, f32, f33, f34, f35, f36, f37, f38, f39, f40, f41, f42, f43, f44, f45, f46, f47, f48, f49, f50, f51, f52, f53, f54, f55, f56, f57, f58, f59, f60, f61, f62, f63, f64, f65, f66, f67, f68, f69, f70, f71, f72, f73, f74, f75, f76, f77, f78, f79, f80, f81, f82, f83, f84, f85, f86, f87, f88, f89, f90, f91, f92, f93, f94, f95, f96, f97, f98, f99, f100, f101, f102, f103, f104, f105, f106, f107, f108, f109, f110, f111, f112, f113, f114, f115, f116, f117, f118, f119, f120, f121, f122, f123, x124, x125, x126, x127, x128, x129, x130, x131, x132, x133, x134, x135, x136, x137, x138, x139, x140, x141, x142, x143, x144, x145, x146, x147, x148, x149, x150, x151, x152, x153, x154, x155, x156, f157, f158, f159, f160, f161, f162, f163, f164, f165, f166, f167, f168, f169, f170, f171, f172, f173, f174, f175], ds, h, rd⟩ Q :=
 RunC.loopJ (zmbQ_l3_J f0 f1 f2 f3 f4 f5 f6 f7 f8 f9 f10 f11 f12 f13 f14 f15 f17 f18 f19 f20 f21 f22 f23 f24 f25 f26 f27 f28 f29 f30 f31 f32 f33 f34 f35 f36 f37 f38 f39 f40 f41 f42 f43 f44 f45 f46 f47 f48 f49 f50 f51 f52 f53 f54 f55 f56 f57 f58 f59 f60 f61 f62 f63 f64 f65 f66 f67 f68 f69 f70 f71 f72 f73 f74 f75 f76 f77 f78 f79 f80 f81 f82 f83 f84 f85 f86 f87 f88 f89 f90 f91 f92 f93 f94 f95 f96 f97 f98 f99 f100 f101 f102 f103 f104 f105 f106 f107 f108 f109 f110 f111 f112 f113 f114 f115 f116 f117 f118 f119 f120 f121 f122 f123 f157 f158 f159 f160 f161 f162 f163 f164 f165 f166 f167 f168 f169 f170 f171 f172 f173 f174 f175 ds rd I) (fun m s hj => by obtain ⟨v16, h, x124, x125, x126, x127, x128, x129, x130, x131, x132, x133, x134, x135, x136, x137, x138, x139, x140, x141, x142, x143, x144, x145, x146, x147, x148, x149, x150, x151, x152, x153, x154, x155, x156, rfl, hi⟩ := hj; exact hb m v16 h x124 x125 x126 x127 x128 x129 x130 x131 x132 x133 x134 x135 x136 x137 x138 x139 x140 x141 x142 x143 x144 x145 x146 x147 x148 x149 x150 x151 x152 x153 x154 x155 x156 hi) m _ ⟨_, h, _, _, _, _, _, _, _, _, _, _, _, _, _, _, _, _, _, _, _, _, _, _, _, _, _, _, _, _, _, _, _, _, _, rfl, hi⟩
theorem zmbQ_l3_again {f0 f1 f2 f3 f4 f5 f6 f7 f8 f9 f10 f11 f12 f13 f14 f15 f17 f18 f19 f20 f21 f22 f23 f24 f25 f26 f27 f28 f29 f30 f31 f32 f33 f34 f35 f36 f37 f38 f39 f40 f41 f42 f43 f44 f45 f46 f47 f48 f49 f50 f51 f52 f53 f54 f55 f56 f57 f58 f59 f60 f61 f62 f63 f64 f65 f66 f67 f68 f69 f70 f71 f72 f73 f74 f75 f76 f77 f78 f79 f80 f81 f82 f83 f84 f85 f86 f87 f88 f89 f90 f91 f92 f93 f94 f95 f96 f97 f98 f99 f100 f101 f102 f103 f104 f105 f106 f107 f108 f109 f110 f111 f112 f113 f114 f115 f116 f117 f118 f119 f120 f121 f122 f123 f157 f158 f159 f160 f161 f162 f163 f164 f165 f166 f167 f168 f169 f170 f171 f172 f173 f174 f175 : Value} {ds : List Deferred} {rd : Option Nat} {Q : QP} {I : Nat → Value → Heap → Prop} {m : Nat} (m' : Nat) {v16 : Value} {h : Heap} {x124 x125 x126 x127 x128 x129 x130 x131 x132 x133 x134 x135 x136 x137 x138 x139 x140 x141 x142 x143 x144 x145 x146 x147 x148 x149 x150 x151 x152 x153 x154 x155 x156 : Value} (hm : m' < m) (hi : I m' v16 h) : loopQ (zmbQ_l3_J f0 f1 f2 f3 f4 f5 f6 f7 f8 f9 f10 f11 f12 f13 f14 f15 f17 f18 f19 f20 f21 f22 f23 f24 f25 f26 f27 f28 f29 f30 f31 f32 f33 f34 f35 f36 f37 f38 f39 f40 f41 f42 f43 f44 f45 f46 f47 f48 f49 f50 f51 f52 f53 f54 f55 f56 f57 f58 f59 f60 f61 f62 f63 f64 f65 f66 f67 f68 f69 f70 f71 f72 f73 f74 f75 f76 f77 f78 f79 f80 f81 f82 f83 f84 f85 f86 f87 f88 f89 f90 f91 f92 f93 f94 f95 f96 f97 f98 f99 f100 f101 f102 f103 f104 f105 f106 f107 f108 f109 f110 f111 f112 f113 f114 f115 f116 f117 f118 f119 f120 f121 f122 f123 f157 f158 f159 f160 f161 f162 f163 f164 f165 f166 f167 f168 f169 f170 f171 f172 f173 f174 f175 ds rd I) m Q .normal ⟨[f0, f1, f2, f3, f4, f5, f6, f7, f8, f9, f10, f11, f12, f13, f14, f15, v16, f17, f18, f19, f20, f21, f22, f23, f24, f25, f26, f27, f28, f29, f30, f31, f32, f33, f34, f35, f36, f37, f38, f39, f40, f41, f42, f43, f44, f45, f46, f47, f48, f49, f50, f51, f52, f53, f54, f55, f56, f57, f58, f59, f60, f61, f62, f63, f64, f65, f66, f67, f68, f69, f70, f71, f72, f73, f74, f75, f76, f77, f78, f79, f80, f81, f82, f83, f84, f85, f86, f87, f88, f89, f90, f91, f92, f93, f94, f95, f96, f97, f98, f99, f100, f101, f102, f103, f104, f105, f106, f107, f108, f109, f110, f111, f112, f113, f114, f115, f116, f117, f118, f119, f120, f121, f122, f123, x124, x125, x126, x127, x128, x129, x130, x131, x132, x133, x134, x135, x136, x137, x138, x139, x140, x141, x142, x143, x144, x145, x146, x147, x148, x149, x150, x151, x152, x153, x154, x155, x156, f157, f158, f159, f160, f161, f162, f163, f164, f165, f166, f167, f168, f169, f170, f171, f172, f173, f174, f175], ds, h, rd⟩ :=
 loopQ.again m' hm ⟨_, h, _, _, _, _, _, _, _, _, _, _, _, _, _, _, _, _, _, _, _, _, _, _, _, _, _, _, _, _, _, _, _, _, _, rfl, hi⟩
def zmbQ_l4_J (f0 f1 f2 f3 f4 f5 f6 f7 f8 f9 f10 f11 f12 f17 f18 f19 f20 f21 f22 f23 f24 f25 f26 f27 f28 f29 f30 f31 f32 f33 f34 f35 f36 f37 f38 f39 f40 f41 f42 f43 f44 f45 f46 f47 f48 f49 f50 f51 f52 f53 f54 f55 f56 f57 f58 f59 f60 f61 f62 f63 f64 f65 f66 f67 f68 f69 f70 f71 f72 f73 f74 f75 f76 f77 f78 f79 f80 f81 f82 f83 f84 f85 f86 f87 f88 f89 f90 f91 f157 f158 f159 f160 f161 f162 f163 f164 f165 f166 f167 f168 f169 f170 f171 f172 f173 f174 f175 : Value) (ds : List Deferred) (rd : Option Nat) (I : Nat → Value → Heap → Prop) (m : Nat) (s : St) : Prop := ∃ (v13 : Value), ∃ h : Heap, ∃ (x14 x15 x16 x92 x93 x94 x95 x96 x97 x98 x99 x100 x101 x102 x103 x104 x105 x106 x107 x108 x109 x110 x111 x112 x113 x114 x115 x116 x117 x118 x119 x120 x121 x122 x123 x124 x125 x126 x127 x128 x129 x130 x131 x132 x133 x134 x135 x136 x137 x138 x139 x140 x141 x142 x143 x144 x145 x146 x147 x148 x149 x150 x151 x152 x153 x154 x155 x156 : Value), s = ⟨[f0, f1, f2, f3, f4, f5, f6, f7, f8, f9, f10, f11, f12, v13, x14, x15, x16, f17, f18, f19, f20, f21, f22, f23, f24, f25, f26, f27, f28, f29, f30, f31, f32, f33, f34, f35, f36, f37, f38, f39, f40, f41, f42, f43, f44, f45, f46, f47, f48, f49, f50, f51, f52, f53, f54, f55, f56, f57, f58, f59, f60, f61, f62, f63, f64, f65, f66, f67, f68, f69, f70, f71, f72, f73, f74, f75, f76, f77, f78, f79, f80, f81, f82, f83, f84, f85, f86, f87, f88, f89, f90, f91, x92, x93, x94, x95, x96, x97, x98, x99, x100, x101, x102, x103, x104, x105, x106, x107, x108, x109, x110, x111, x112, x113, x114, x115, x116, x117, x118, x119, x120, x121, x122, x123, x124, x125, x126, x127, x128, x129, x130, x131, x132, x133, x134, x135, x136, x137, x138, x139, x140, x141, x142, x143, x144, x145, x146, x147, x148, x149, x150, x151, x152, x153, x154, x155, x156, f157, f158, f159, f160, f161, f162, f163, f164, f165, f166, f167, f168, f169, f170, f171, f172, f173, f174, f175], ds, h, rd⟩ ∧ I m v13 h
theorem zmbQ_l4_rule {f0 f1 f2 f3 f4 f5 f6 f7 f8 f9 f10 f11 f12 f17 f18 f19 f20 f21 f22 f23 f24 f25 f26 f27 f28 f29 f30 f31 f32 f33 f34 f35 f36 f37 f38 f39 f40 f41 f42 f43 f44 f45 f46 f47 f48 f49 f50 f51 f52 f53 f54 f55 f56 f57 f58 f59 f60 f61 f62 f63 f64 f65 f66 f67 f68 f69 f70 f71 f72 f73 f74 f75 f76 f77 f78 f79 f80 f81 f82 f83 f84 f85 f86 f87 f88 f89 f90 f91 f157 f158 f159 f160 f161 f162 f163 f164 f165 f166 f167 f168 f169 f170 f171 f172 f173 f174 f175 : Value} {ds : List Deferred} {rd : Option Nat} {Q : QP} (I : Nat → Value → Heap → Prop) (hb : ∀ (m : Nat) (v13 : Value) (h : Heap) (x14 x15 x16 x92 x93 x94 x95 x96 x97 x98 x99 x100 x101 x102 x103 x104 x105 x106 x107 x108 x109 x110 x111 x112 x113 x114 x115 x116 x117 x118 x119 x120 x121 x122 x123 x124 x125 x126 x127 x128 x129 x130 x131 x132 x133 x134 x135 x136 x137 x138 x139 x140 x141 x142 x143 x144 x145 x146 x147 x148 x149 x150 x151 x152 x153 x154 x155 x156 : Value) , I m v13 h → RunC Tryz.prog T0 zmbQ_l4 ⟨[f0, f1, f2, f3, f4, f5, f6, f7, f8, f9, f10, f11, f12, v13, x14, x15, x16, f17, f18, f19, f20, f21, f22, f23, f24, f25, f26, f27, f28, f29, f30, f31, f32, f33, f34, f35, f36, f37, f38, f39, f40, f41, f42, f43, f44, f45, f46, f47, f48, f49, f50, f51, f52, f53, f54, f55, f56, f57, f58, f59, f60, f61, f62, f63, f64, f65, f66, f67, f68, f69, f70, f71, f72, f73, f74, f75, f76, f77, f78, f79, f80, f81, f82, f83, f84, f85, f86, f87, f88, f89, f90, f91, x92, x93, x94, x95, x96, x97, x98, x99, x100, x101, x102, x103, x104, x105, x106, x107, x108, x109, x110, x111, x112, x113, x114, x115, x116, x117, x118, x119, x120, x121, x122, x123, x124, x125, x126, x127, x128, x129, x130, x131, x132, x133, x134, x135, x136, x137, x138, x139, x140, x141, x142, x143, x144, x145, x146, x147, x148, x149, x150, x151, x152, x153, x154, x155, x156, f157, f158, f159, f160, f161, f162, f163, f164, f165, f166, f167, f168, f169, f170, f171, f172, f173, f174, f175], ds, h, rd⟩ (loopQ (zmbQ_l4_J f0 f1 f2 f3 f4 f5 f6 f7 f8 f9 f10 f11 f12 f17 f18 f19 f20 f21 f22 f23 f24 f25 f26 f27 f28 f29 f30 f31 f32 f33 f34 f35 f36 f37 f38 f39 f40 f41 f42 f43 f44 f45 f46 f47 f48 f49 f50 f51 f52 f53 f54 f55 f56 f57 f58 f59 f60 f61 f62 f63 f64 f65 f66 f67 f68 f69 f70 f71 f72 f73 f74 f75 f76 f77 f78 f79 f80 f81 f82 f83 f84 f85 f86 f87 f88 f89 f90 f91 f157 f158 f159 f160 f161 f162 f163 f164 f165 f166 f167 f168 f169 f170 f171 f172 f173 f174 f175 ds rd I) m Q))
 (m : Nat) {v13 : Value} {h : Heap} {x14 x15 x16 x92 x93 x94 x95 x96 x97 x98 x99 x100 x101 x102 x103 x104 x105 x106 x107 x108 x109 x110 x111 x112 x113 x114 x115 x116 x117 x118 x119 x120 x121 x122 x123 x124 x125 x126 x127 x128 x129 x130 x131 x132 x133 x134 x135 x136 x137 x138 x139 x140 x141 x142 x143 x144 x145 x146 x147 x148 x149 x150 x151 x152 x153 x154 x155 x156 : Value} (hi : I m v13 h) : RunC Tryz.prog T0 (.loop zmbQ_l4) ⟨[f0, f1, f2, f3, f4, f5, f6, f7, f8, f9, f10, f11, f12, v13, x14, x15, x16, f17, f18, f19, f20, f21, f22, f23, f24, f25, f26, f27, f28, f29, f30, f31, f32, f33, f34, f35, f36, f37, f38, f39, f40, f41, f42, f43, f44, f45, f46, f47, f48, f49, f50, f51, f52, f53, f54, f55, f56, f57, f58, f59, f60, f61, f62, f63, f64, f65, f66, f67, f68, f69, f70, f71, f72, f73, f74, f75, f76, f77, f78, f79, f80, f81, f82, f83, f84, f85, f86, f87, f88, f89, f90, f91, x92, x93, x94, x95, x96, x97, x98, x99, x100, x101, x102, x103, x104, x105, x106, x107, x108, x109, x110, x111, x112, x113, x114, x115, x116, x117, x118, x119, x120, x121, x122, x123, x124, x125, x126, x127, x128, x129, x130, x131, x132, x133, x134, x135, x136, x137, x138, x139, x140, x141, x142, x143, x144, x145, x146, x147, x148, x149, x150, x151, x152, x153, x154, x155, x156, f157, f158, f159, f160, f161, f162, f163, f164, f165, f166, f167, f168, f169, f170, f171, f172, f173, f174, f175], ds, h, rd⟩ Q :=
 RunC.loopJ (zmbQ_l4_J f0 f1 f2 f3 f4 f5 f6 f7 f8 f9 f10 f11 f12 f17 f18 f19 f20 f21 f22 f23 f24 f25 f26 f27 f28 f29 f30 f31 f32 f33 f34 f35 f36 f37 f38 f39 f40 f41 f42 f43 f44 f45 f46 f47 f48 f49 f50 f51 f52 f53 f54 f55 f56 f57 f58 f59 f60 f61 f62 f63 f64 f65 f66 f67 f68 f69 f70 f71 f72 f73 f74 f75 f76 f77 f78 f79 f80 f81 f82 f83 f84 f85 f86 f87 f88 f89 f90 f91 f157 f158 f159 f160 f161 f162 f163 f164 f165 f166 f167 f168 f169 f170 f171 f172 f173 f174 f175 ds rd I) (fun m s hj => by obtain ⟨v13, h, x14, x15, x16, x92, x93, x94, x95, x96, x97, x98, x99, x100, x101, x102, x103, x104, x105, x106, x107, x108, x109, x110, x111, x112, x113, x114, x115, x116, x117, x118, x119, x120, x121, x122, x123, x124, x125, x126, x127, x128, x129, x130, x131, x132, x133, x134, x135, x136, x137, x138, x139, x140, x141, x142, x143, x144, x145, x146, x147, x148, x149, x150, x151, x152, x153, x154, x155, x156, rfl, hi⟩ := hj; exact hb m v13 h x14 x15 x16 x92 x93 x94 x95 x96 x97 x98 x99 x100 x101 x102 x103 x104 x105 x106 x107 x108 x109 x110 x111 x112 x113 x114 x115 x116 x117 x118 x119 x120 x121 x122 x123 x124 x125 x126 x127 x128 x129 x130 x131 x132 x133 x134 x135 x136 x137 x138 x139 x140 x141 x142 x143 x144 x145 x146 x147 x148 x149 x150 x151 x152 x153 x154 x155 x156 hi) m _ ⟨_, h, _, _, _, _, _, _, _, _, _, _, _, _, _, _, _, _, _, _, _, _, _, _, _, _, _, _, _, _, _, _, _, _, _, _, _, _, _, _, _, _, _, _, _, _, _, _, _, _, _, _, _, _, _, _, _, _, _, _, _, _, _, _, _, _, _, _, _, _, rfl, hi⟩
theorem zmbQ_l4_again {f0 f1 f2 f3 f4 f5 f6 f7 f8 f9 f10 f11 f12 f17 f18 f19 f20 f21 f22 f23 f24 f25 f26 f27 f28 f29 f30 f31 f32 f33 f34 f35 f36 f37 f38 f39 f40 f41 f42 f43 f44 f45 f46 f47 f48 f49 f50 f51 f52 f53 f54 f55 f56 f57 f58 f59 f60 f61 f62 f63 f64 f65 f66 f67 f68 f69 f70 f71 f72 f73 f74 f75 f76 f77 f78 f79 f80 f81 f82 f83 f84 f85 f86 f87 f88 f89 f90 f91 f157 f158 f159 f160 f161 f162 f163 f164 f165 f166 f167 f168 f169 f170 f171 f172 f173 f174 f175 : Value} {ds : List Deferred} {rd : Option Nat} {Q : QP} {I : Nat → Value → Heap → Prop} {m : Nat} (m' : Nat) {v13 : Value} {h : Heap} {x14 x15 x16 x92 x93 x94 x95 x96 x97 x98 x99 x100 x101 x102 x103 x104 x105 x106 x107 x108 x109 x110 x111 x112 x113 x114 x115 x116 x117 x118 x119 x120 x121 x122 x123 x124 x125 x126 x127 x128 x129 x130 x131 x132 x133 x134 x135 x136 x137 x138 x139 x140 x141 x142 x143 x144 x145 x146 x147 x148 x149 x150 x151 x152 x153 x154 x155 x156 : Value} (hm : m' < m) (hi : I m' v13 h) : loopQ (zmbQ_l4_J f0 f1 f2 f3 f4 f5 f6 f7 f8 f9 f10 f11 f12 f17 f18 f19 f20 f21 f22 f23 f24 f25 f26 f27 f28 f29 f30 f31 f32 f33 f34 f35 f36 f37 f38 f39 f40 f41 f42 f43 f44 f45 f46 f47 f48 f49 f50 f51 f52 f53 f54 f55 f56 f57 f58 f59 f60 f61 f62 f63 f64 f65 f66 f67 f68 f69 f70 f71 f72 f73 f74 f75 f76 f77 f78 f79 f80 f81 f82 f83 f84 f85 f86 f87 f88 f89 f90 f91 f157 f158 f159 f160 f161 f162 f163 f164 f165 f166 f167 f168 f169 f170 f171 f172 f173 f174 f175 ds rd I) m Q .normal ⟨[f0, f1, f2, f3, f4, f5, f6, f7, f8, f9, f10, f11, f12, v13, x14, x15, x16, f17, f18, f19, f20, f21, f22, f23, f24, f25, f26, f27, f28, f29, f30, f31, f32, f33, f34, f35, f36, f37, f38, f39, f40, f41, f42, f43, f44, f45, f46, f47, f48, f49, f50, f51, f52, f53, f54, f55, f56, f57, f58, f59, f60, f61, f62, f63, f64, f65, f66, f67, f68, f69, f70, f71, f72, f73, f74, f75, f76, f77, f78, f79, f80, f81, f82, f83, f84, f85, f86, f87, f88, f89, f90, f91, x92, x93, x94, x95, x96, x97, x98, x99, x100, x101, x102, x103, x104, x105, x106, x107, x108, x109, x110, x111, x112, x113, x114, x115, x116, x117, x118, x119, x120, x121, x122, x123, x124, x125, x126, x127, x128, x129, x130, x131, x132, x133, x134, x135, x136, x137, x138, x139, x140, x141, x142, x143, x144, x145, x146, x147, x148, x149, x150, x151, x152, x153, x154, x155, x156, f157, f158, f159, f160, f161, f162, f163, f164, f165, f166, f167, f168, f169, f170, f171, f172, f173, f174, f175], ds, h, rd⟩ :=
 loopQ.again m' hm ⟨_, h, _, _, _, _, _, _, _, _, _, _, _, _, _, _, _, _, _, _, _, _, _, _, _, _, _, _, _, _, _, _, _, _, _, _, _, _, _, _, _, _, _, _, _, _, _, _, _, _, _, _, _, _, _, _, _, _, _, _, _, _, _, _, _, _, _, _, _, _, rfl, hi⟩
def zmbQ_l5_J (f0 f1 f2 f3 f4 f5 f6 f7 f8 f9 f10 f11 f12 f13 f14 f15 f16 f18 f19 f20 f21 f22 f23 f24 f25 f26 f27 f28 f29 f30 f31 f32 f33 f34 f35 f36 f37 f38 f39 f40 f41 f42 f43 f44 f45 f46 f47 f48 f49 f50 f51 f52 f53 f54 f55 f56 f57 f58 f59 f60 f61 f62 f63 f64 f65 f66 f67 f68 f69 f70 f71 f72 f73 f74 f75 f76 f77 f78 f79 f80 f81 f82 f83 f84 f85 f86 f87 f88 f89 f90 f91 f92 f93 f94 f95 f96 f97 f98 f99 f100 f101 f102 f103 f104 f105 f106 f107 f108 f109 f110 f111 f112 f113 f114 f115 f116 f117 f118 f119 f120 f121 f122 f123 f124 f125 f126 f127 f128 f129 f130 f131 f132 f133 f134 f135 f136 f137 f138 f139 f140 f141 f142 f143 f144 f145 f146 f147 f148 f149 f150 f151 f152 f153 f154 f155 f156 f175 : Value) (ds : List Deferred) (rd : Option Nat) (I : Nat → Value → Heap → Prop) (m : Nat) (s : St) : Prop := ∃ (v17 : Value), ∃ h : Heap, ∃ (x157 x158 x159 x160 x161 x162 x163 x164 x165 x166 x167 x168 x169 x170 x171 x172 x173 x174 : Value), s = ⟨[f0, f1, f2, f3, f4, f5, f6, f7, f8, f9, f10, f11, f12, f13, f14, f15, f16, v17, f18, f19, f20, f21, f22, f23, f24, f25, f26, f27, f28, f29, f30, f31, f32, f33, f34, f35, f36, f37, f38, f39, f40, f41, f42, f43, f44, f45, f46, f47, f48, f49, f50, f51, f52, f53, f54, f55, f56, f57, f58, f59, f60, f61, f62, f63, f64, f65, f66, f67, f68, f69, f70, f71, f72, f73, f74, f75, f76, f77, f78, f79, f80, f81, f82, f83, f84, f85, f86, f87, f88, f89, f90, f91, f92, f93, f94, f95, f96, f97, f98, f99, f100, f101, f102, f103, f104, f105, f106, f107, f108, f109, f110, f111, f112, f113, f114, f115, f116, f117, f118, f119, f120, f121, f122, f123, f124, f125, f126, f127, f128, f129, f130, f131, f132, f133, f134, f135, f136, f137, f138, f139, f140, f141, f142, f143, f144, f145, f146, f147, f148, f149, f150, f151, f152, f153, f154, f155, f156, x157, x158, x159, x160, x161, x162, x163, x164, x165, x166, x167, x168, x169, x170, x171, x172, x173, x174, f175], ds, h, rd⟩ ∧ I m v17 h
theorem zmbQ_l5_rule {f0 f1 f2 f3 f4 f5 f6 f7 f8 f9 f10 f11 f12 f13 f14 f15 f16 f18 f19 f20 f21 f22 f23 f24 f25 f26 f27 f28 f29 f30 f31 f32 f33 f34 f35 f36 f37 f38 f39 f40 f41 f42 f43 f44 f45 f46 f47 f48 f49 f50 f51 f52 f53 f54 f55 f56 f57 f58 f59 f60 f61 f62 f63 f64 f65 f66 f67 f68 f69 f70 f71 f72 f73 f74 f75 f76 f77 f78 f79 f80 f81 f82 f83 f84 f85 f86 f87 f88 f89 f90 f91 f92 f93 f94 f95 f96 f97 f98 f99 f100 f101 f102 f103 f104 f105 f106 f107 f108 f109 f110 f111 f112 f113 f114 f115 f116 f117 f118 f119 f120 f121 f122 f123 f124 f125 f126 f127 f128 f129 f130 f131 f132 f133 f134 f135 f136 f137 f138 f139 f140 f141 f142 f143 f144 f145 f146 f147 f148 f149 f150 f151 f152 f153 f154 f155 f156 f175 : Value} {ds : List Deferred} {rd : Option Nat} {Q : QP} (I : Nat → Value → Heap → Prop) (hb : ∀ (m : Nat) (v17 : Value) (h : Heap) (x157 x158 x159 x160 x161 x162 x163 x164 x165 x166 x167 x168 x169 x170 x171 x172 x173 x174 : Value) , I m v17 h → RunC Tryz.prog T0 zmbQ_l5 ⟨[f0, f1, f2, f3, f4, f5, f6, f7, f8, f9, f10, f11, f12, f13, f14, f15, f16, v17, f18, f19, f20, f21, f22, f23, f24, f25, f26, f27, f28, f29, f30, f31, f32, f33, f34, f35, f36, f37, f38, f39, f40, f41, f42, f43, f44, f45, f46, f47, f48, f49, f50, f51, f52, f53, f54, f55, f56, f57, f58, f59, f60, f61, f62, f63, f64, f65, f66, f67, f68, f69, f70, f71, f72, f73, f74, f75, f76, f77, f78, f79, f80, f81, f82, f83, f84, f85, f86, f87, f88, f89, f90, f91, f92, f93, f94, f95, f96, f97, f98, f99, f100, f101, f102, f103, f104, f105, f106, f107, f108, f109, f110, f111, f112, f113, f114, f115, f116, f117, f118, f119, f120, f121, f122, f123, f124, f125, f126, f127, f128, f129, f130, f131, f132, f133, f134, f135, f136, f137, f138, f139, f140, f141, f142, f143, f144, f145, f146, f147, f148, f149, f150, f151, f152, f153, f154, f155, f156, x157, x158, x159, x160, x161, x162, x163, x164, x165, x166, x167, x168, x169, x170, x171, x172, x173, x174, f175], ds, h, rd⟩ (loopQ (zmbQ_l5_J f0 f1 f2 f3 f4 f5 f6 f7 f8 f9 f10 f11 f12 f13 f14 f15 f16 f18 f19 f20 f21 f22 f23 f24 f25 f26 f27 f28 f29 f30 f31 f32 f33 f34 f35 f36 f37 f38 f39 f40 f41 f42 f43 f44 f45 f46 f47 f48 f49 f50 f51 f52 f53 f54 f55 f56 f57 f58 f59 f60 f61 f62 f63 f64 f65 f66 f67 f68 f69 f70 f71 f72 f73 f74 f75 f76 f77 f78 f79 f80 f81 f82 f83 f84 f85 f86 f87 f88 f89 f90 f91 f92 f93 f94 f95 f96 f97 f98 f99 f100 f101 f102 f103 f104 f105 f106 f107 f108 f109 f110 f111 f112 f113 f114 f115 f116 f117 f118 f119 f120 f121 f122 f123 f124 f125 f126 f127 f128 f129 f130 f131 f132 f133 f134 f135 f136 f137 f138 f139 f140 f141 f142 f143 f144 f145 f146 f147 f148 f149 f150 f151 f152 f153 f154 f155 f156 f175 ds rd I) m Q))
 (m : Nat) {v17 : Value} {h : Heap} {x157 x158 x159 x160 x161 x162 x163 x164 x165 x166 x167 x168 x169 x170 x171 x172 x173 x174 : Value} (hi : I m v17 h) : RunC Tryz.prog T0 (.loop zmbQ_l5) ⟨[f0, f1, f2, f3, f4, f5, f6, f7, f8, f9, f10, f11, f12, f13, f14, f15, f16, v17, f18, f19, f20, f21, f22, f23, f24, f25, f26, f27, f28, f29, f30, f31, f32, f33, f34, f35, f36, f37, f38, f39, f40, f41, f42, f43, f44, f45, f46, f47, f48, f49, f50, f51, f52, f53, f54, f55, f56, f57, f58, f59, f60, f61, f62, f63, f64, f65, f66, f67, f68, f69, f70, f71, f72, f73, f74, f75, f76, f77, f78, f79, f80, f81, f82, f83, f84, f85, f86, f87, f88, f89, f90, f91, f92, f93, f94, f95, f96, f97, f98, f99, f100, f101, f102, f103, f104, f105, f106, f107, f108, f109, f110, f111, f112, f113, f114, f115, f116, f117, f118, f119, f120, f121, f122, f123, f124, f125, f126, f127, f128, f129, f130, f131, f132, f133, f134, f135, f136, f137, f138, f139, f140, f141, f142, f143, f144, f145, f146, f147, f148, f149, f150, f151, f152, f153, f154, f155, f156, x157, x158, x159, x160, x161, x162, x163, x164, x165, x166, x167, x168, x169, x170, x171, x172, x173, x174, f175], ds, h, rd⟩ Q :=
 RunC.loopJ (zmbQ_l5_J f0 f1 f2 f3 f4 f5 f6 f7 f8 f9 f10 f11 f12 f13 f14 f15 f16 f18 f19 f20 f21 f22 f23 f24 f25 f26 f27 f28 f29 f30 f31 f32 f33 f34 f35 f36 f37 f38 f39 f40 f41 f42 f43 f44 f45 f46 f47 f48 f49 f50 f51 f52 f53 f54 f55 f56 f57 f58 f59 f60 f61 f62 f63 f64 f65 f66 f67 f68 f69 f70 f71 f72 f73 f74 f75 f76 f77 f78 f79 f80 f81 f82 f83 f84 f85 f86 f87 f88 f89 f90 f91 f92 f93 f94 f95 f96 f97 f98 f99 f100 f101 f102 f103 f104 f105 f106 f107 f108 f109 f110 f111 f112 f113 f114 f115 f116 f117 f118 f119 f120 f121 f122 f123 f124 f125 f126 f127 f128 f129 f130 f131 f132 f133 f134 f135 f136 f137 f138 f139 f140 f141 f142 f143 f144 f145 f146 f147 f148 f149 f150 f151 f152 f153 f154 f155 f156 f175 ds rd I) (fun m s hj => by obtain ⟨v17, h, x157, x158, x159, x160, x161, x162, x163, x164, x165, x166, x167, x168, x169, x170, x171, x172, x173, x174, rfl, hi⟩ := hj; exact hb m v17 h x157 x158 x159 x160 x161 x162 x163 x164 x165 x166 x167 x168 x169 x170 x171 x172 x173 x174 hi) m _ ⟨_, h, _, _, _, _, _, _, _, _, _, _, _, _, _, _, _, _, _, _, rfl, hi⟩
theorem zmbQ_l5_again {f0 f1 f2 f3 f4 f5 f6 f7 f8 f9 f10 f11 f12 f13 f14 f15 f16 f18 f19 f20 f21 f22 f23 f24 f25 f26 f27 f28 f29 f30 f31 f32 f33 f34 f35 f36 f37 f38 f39 f40 f41 f42 f43 f44 f45 f46 f47 f48 f49 f50 f51 f52 f53 f54 f55 f56 f57 f58 f59 f60 f61 f62 f63 f64 f65 f66 f67 f68 f69 f70 f71 f72 f73 f74 f75 f76 f77 f78 f79 f80 f81 f82 f83 f84 f85 f86 f87 f88 f89 f90 f91 f92 f93 f94 f95 f96 f97 f98 f99 f100 f101 f102 f103 f104 f105 f106 f107 f108 f109 f110 f111 f112 f113 f114 f115 f116 f117 f118 f119 f120 f121 f122 f123 f124 f125 f126 f127 f128 f129 f130 f131 f132 f133 f134 f135 f136 f137 f138 f139 f140 f141 f142 f143 f144 f145 f146 f147 f148 f149 f150 f151 f152 f153 f154 f155 f156 f175 : Value} {ds : List Deferred} {rd : Option Nat} {Q : QP} {I : Nat → Value → Heap → Prop} {m : Nat} (m' : Nat) {v17 : Value} {h : Heap} {x157 x158 x159 x160 x161 x162 x163 x164 x165 x166 x167 x168 x169 x170 x171 x172 x173 x174 : Value} (hm : m' < m) (hi : I m' v17 h) : loopQ (zmbQ_l5_J f0 f1 f2 f3 f4 f5 f6 f7 f8 f9 f10 f11 f12 f13 f14 f15 f16 f18 f19 f20 f21 f22 f23 f24 f25 f26 f27 f28 f29 f30 f31 f32 f33 f34 f35 f36 f37 f38 f39 f40 f41 f42 f43 f44 f45 f46 f47 f48 f49 f50 f51 f52 f53 f54 f55 f56 f57 f58 f59 f60 f61 f62 f63 f64 f65 f66 f67 f68 f69 f70 f71 f72 f73 f74 f75 f76 f77 f78 f79 f80 f81 f82 f83 f84 f85 f86 f87 f88 f89 f90 f91 f92 f93 f94 f95 f96 f97 f98 f99 f100 f101 f102 f103 f104 f105 f106 f107 f108 f109 f110 f111 f112 f113 f114 f115 f116 f117 f118 f119 f120 f121 f122 f123 f124 f125 f126 f127 f128 f129 f130 f131 f132 f133 f134 f135 f136 f137 f138 f139 f140 f141 f142 f143 f144 f145 f146 f147 f148 f149 f150 f151 f152 f153 f154 f155 f156 f175 ds rd I) m Q .normal ⟨[f0, f1, f2, f3, f4, f5, f6, f7, f8, f9, f10, f11, f12, f13, f14, f15, f16, v17, f18, f19, f20, f21, f22, f23, f24, f25, f26, f27, f28, f29, f30, f31, f32, f33, f34, f35, f36, f37, f38, f39, f40, f41, f42, f43, f44, f45, f46, f47, f48, f49, f50, f51, f52, f53, f54, f55, f56, f57, f58, f59, f60, f61, f62, f63, f64, f65, f66, f67, f68, f69, f70, f71, f72, f73, f74, f75, f76, f77, f78, f79, f80, f81, f82, f83, f84, f85, f86, f87, f88, f89, f90, f91, f92, f93, f94, f95, f96, f97, f98, f99, f100, f101, f102, f103, f104, f105, f106, f107, f108, f109, f110, f111, f112, f113, f114, f115, f116, f117, f118, f119, f120, f121, f122, f123, f124, f125, f126, f127, f128, f129, f130, f131, f132, f133, f134, f135, f136, f137, f138, f139, f140, f141, f142, f143, f144, f145, f146, f147, f148, f149, f150, f151, f152, f153, f154, f155, f156, x157, x158, x159, x160, x161, x162, x163, x164, x165, x166, x167, x168, x169, x170, x171, x172, x173, x174, f175], ds, h, rd⟩ :=
 loopQ.again m' hm ⟨_, h, _, _, _, _, _, _, _, _, _, _, _, _, _, _, _, _, _, _, rfl, hi⟩
abbrev fn_zuQ : FuncId := 139
def zuQ_c : ACode :=
 (.seq (.region [
 o1 0 (.mov (.const (.slice none 0 0)))]) (.seq (.region [
 o1 1 (.build [.nilFunc, (.int .i64 0)] [(0, 1, (.func 167)), (1, 1, (.const (.int .i64 5)))]),
 o1 2 (.build [.nilFunc, (.int .i64 0)] [(0, 1, (.func 169)), (1, 1, (.const (.int .i64 3)))]),
 o1 3 (.build [.nilFunc, (.int .i64 0)] [(0, 1, (.func 170)), (1, 1, (.const (.int .i64 3)))]),
 o1 4 (.buildSlice 168 [.nilFunc, (.int .i64 0), .nilFunc, (.int .i64 0), .nilFunc, (.int .i64 0)] 3 [(0, 2, (tm 1)), (2, 2, (tm 2)), (4, 2, (tm 3))]),
 o1 0 (.mov (tm 4))]) .ret))
def zuQ : AFunc := ⟨5, [(0, none)], zuQ_c, none⟩
theorem zuQ_t0 : tableOf Tryz.prog 139 = some zuQ := by kernel_rfl
theorem zuQ_t : T0 139 = some zuQ := withKept_t rfl (withTrue_t rfl zuQ_t0)
theorem zuQ_runs {v : Value} {h : Heap} {R : RP} {X : XP} (k : RunC Tryz.prog T0 zuQ_c ⟨[undef, U, U, U, U], [], h, none⟩ (bodyQ Tryz.prog T0 [(0, none)] R X)) :
 Runs Tryz.prog T0 (.fn 139) [] h R X := Runs.fn zuQ_t rfl k
abbrev fn_zgcQ : FuncId := 150
def zgcQ_l0 : ACode :=
 (.seq (.seq (.region [
 o1 5 (.mov (tm 3)),
 o1 6 (.mov (tm 0)),
 o1 7 (.lenStr (tm 6)),
 o1 8 (.bin .lss (so (.binOp .lss 3 (tm 5) (tm 7) 3) 4) (tm 5) (tm 7))]) (.cond (tm 8)
 .skip
 (.exit 0))) (.seq (.block 1 (.seq (.region [
 o1 11 (.mov (tm 0)),
 o1 12 (.mov (tm 3)),
 o1 13 (.raw (so (.index 9 (tm 11) (tm 12)) 5)),
 o1 4 (.mov (tm 13))]) (.seq (.region [
 o1 14 (.mov (tm 4)),
 o1 15 (.bin .lss (so (.binOp .lss 5 (tm 14) (.const (.int .u8 97)) 5) 4) (tm 14) (.const (.int .u8 97))),
 o1 16 (.mov (tm 15)),
 o5 17 (.mov (tm 4)) 16,
 o5 18 (.bin .gtr (so (.binOp .gtr 5 (tm 17) (.const (.int .u8 122)) 5) 4) (tm 17) (.const (.int .u8 122))) 16,
 o1 19 (.pick (tm 16) (.const (.bool true)) (tm 18)),
 o1 20 (.mov (tm 19)),
 o4 21 (.mov (tm 4)) 20,
 o4 22 (.bin .lss (so (.binOp .lss 5 (tm 21) (.const (.int .u8 48)) 5) 4) (tm 21) (.const (.int .u8 48))) 20,
 o4 23 (.mov (tm 22)) 20,
 o5 24 (.mov (tm 4)) 23,
 o5 25 (.bin .gtr (so (.binOp .gtr 5 (tm 24) (.const (.int .u8 57)) 5) 4) (tm 24) (.const (.int .u8 57))) 23,
 o4 26 (.pick (tm 23) (.const (.bool true)) (tm 25)) 20,
 o1 27 (.pick (tm 20) (tm 26) (.const (.bool false))),
 o1 28 (.mov (tm 27)),
 o4 29 (.mov (tm 4)) 28,
 o4 30 (.bin .neq (so (.binOp .neq 5 (tm 29) (.const (.int .u8 45)) 5) 4) (tm 29) (.const (.int .u8 45))) 28,
 o1 31 (.pick (tm 28) (tm 30) (.const (.bool false)))]) (.cond (tm 31)
 (.seq (.region [
 o1 2 (.mov (.const (.bool false)))]) .ret)
 .skip)))) (.region [
 o1 9 (.mov (tm 3)),
 o1 10 (.bin .add (so (.binOp .add 3 (tm 9) (.const (.int .i64 1)) 3) 3) (tm 9) (.const (.int .i64 1))),
 o1 3 (.mov (tm 10))])))
def zgcQ_c : ACode :=
 (.seq (.region [
 o1 2 (.mov (.const (.bool false)))]) (.seq (.seq (.region [
 o1 3 (.mov k0)]) (.block 0 (.loop zgcQ_l0))) (.seq (.region [
 o1 32 (.mov (tm 0)),
 o1 33 (.lenStr (tm 32)),
 o1 34 (.bin .geq (so (.binOp .geq 3 (tm 33) (.const (.int .i64 1)) 3) 4) (tm 33) (.const (.int .i64 1))),
 o1 35 (.mov (tm 34)),
 o4 36 (.mov (tm 0)) 35,
 o4 37 (.lenStr (tm 36)) 35,
 o4 38 (.bin .leq (so (.binOp .leq 3 (tm 37) (.const (.int .i64 32)) 3) 4) (tm 37) (.const (.int .i64 32))) 35,
 o1 39 (.pick (tm 35) (tm 38) (.const (.bool false))),
 o1 2 (.mov (tm 39))]) .ret)))
def zgcQ : AFunc := ⟨40, [(2, none)], zgcQ_c, none⟩
theorem zgcQ_t0 : tableOf Tryz.prog 150 = some zgcQ := by kernel_rfl
theorem zgcQ_t : T0 150 = some zgcQ := withKept_t rfl (withTrue_t rfl zgcQ_t0)
theorem zgcQ_runs {v0 : Value} {h : Heap} {R : RP} {X : XP} (k : RunC Tryz.prog T0 zgcQ_c ⟨[v0, U, U, U, U, U, U, U, U, U, U, U, U, U, U, U, U, U, U, U, U, U, U, U, U, U, U, U, U, U, U, U, U, U, U, U, U, U, U, U], [], h, none⟩ (bodyQ Tryz.prog T0 [(2, none)] R X)) :
 Runs Tryz.prog T0 (.fn 150) [v0] h R X := Runs.fn zgcQ_t rfl k
def zgcQ_l0_J (f0 f1 f32 f33 f34 f35 f36 f37 f38 f39 : Value) (ds : List Deferred) (rd : Option Nat) (I : Nat → Value → Heap → Prop) (m : Nat) (s : St) : Prop := ∃ (v3 : Value), ∃ h : Heap, ∃ (x2 x4 x5 x6 x7 x8 x9 x10 x11 x12 x13 x14 x15 x16 x17 x18 x19 x20 x21 x22 x23 x24 x25 x26 x27 x28 x29 x30 x31 : Value), s = ⟨[f0, f1, x2, v3, x4, x5, x6, x7, x8, x9, x10, x11, x12, x13, x14, x15, x16, x17, x18, x19, x20, x21, x22, x23, x24, x25, x26, x27, x28, x29, x30, x31, f32, f33, f34, f35, f36, f37, f38, f39], ds, h, rd⟩ ∧ I m v3 h
theorem zgcQ_l0_rule {f0 f1 f32 f33 f34 f35 f36 f37 f38 f39 : Value} {ds : List Deferred} {rd : Option Nat} {Q : QP} (I : Nat → Value → Heap → Prop) (hb : ∀ (m : Nat) (v3 : Value) (h : Heap) (x2 x4 x5 x6 x7 x8 x9 x10 x11 x12 x13 x14 x15 x16 x17 x18 x19 x20 x21 x22 x23 x24 x25 x26 x27 x28 x29 x30 x31 : Value) , I m v3 h → RunC Tryz.prog T0 zgcQ_l0 ⟨[f0, f1, x2, v3, x4, x5, x6, x7, x8, x9, x10, x11, x12, x13, x14, x15, x16, x17, x18, x19, x20, x21, x22, x23, x24, x25, x26, x27, x28, x29, x30, x31, f32, f33, f34, f35, f36, f37, f38, f39], ds, h, rd⟩ (loopQ (zgcQ_l0_J f0 f1 f32 f33 f34 f35 f36 f37 f38 f39 ds rd I) m Q))
 (m : Nat) {v3 : Value} {h : Heap} {x2 x4 x5 x6 x7 x8 x9 x10 x11 x12 x13 x14 x15 x16 x17 x18 x19 x20 x21 x22 x23 x24 x25 x26 x27 x28 x29 x30 x31 : Value} (hi : I m v3 h) : RunC Tryz.prog T0 (.loop zgcQ_l0) ⟨[f0, f1, x2, v3, x4, x5, x6, x7, x8, x9, x10, x11, x12, x13, x14, x15, x16, x17, x18, x19, x20, x21, x22, x23, x24, x25, x26, x27, x28, x29, x30, x31, f32, f33, f34, f35, f36, f37, f38, f39], ds, h, rd⟩ Q :=
 RunC.loopJ (zgcQ_l0_J f0 f1 f32 f33 f34 f35 f36 f37 f38 f39 ds rd I) (fun m s hj => by obtain ⟨v3, h, x2, x4, x5, x6, x7, x8, x9, x10, x11, x12, x13, x14, x15, x16, x17, x18, x19, x20, x21, x22, x23, x24, x25, x26, x27, x28, x29, x30, x31, rfl, hi⟩ := hj; exact hb m v3 h x2 x4 x5 x6 x7 x8 x9 x10 x11 x12 x13 x14 x15 x16 x17 x18 x19 x20 x21 x22 x23 x24 x25 x26 x27 x28 x29 x30 x31 hi) m _ ⟨_, h, _, _, _, _, _, _, _, _, _, _, _, _, _, _, _, _, _, _, _, _, _, _, _, _, _, _, _, _, _, rfl, hi⟩
theorem zgcQ_l0_again {f0 f1 f32 f33 f34 f35 f36 f37 f38 f39 : Value} {ds : List Deferred} {rd : Option Nat} {Q : QP} {I : Nat → Value → Heap → Prop} {m : Nat} (m' : Nat) {v3 : Value} {h : Heap} {x2 x4 x5 x6 x7 x8 x9 x10 x11 x12 x13 x14 x15 x16 x17 x18 x19 x20 x21 x22 x23 x24 x25 x26 x27 x28 x29 x30 x31 : Value} (hm : m' < m) (hi : I m' v3 h) : loopQ (zgcQ_l0_J f0 f1 f32 f33 f34 f35 f36 f37 f38 f39 ds rd I) m Q .normal ⟨[f0, f1, x2, v3, x4, x5, x6, x7, x8, x9, x10, x11, x12, x13, x14, x15, x16, x17, x18, x19, x20, x21, x22, x23, x24, x25, x26, x27, x28, x29, x30, x31, f32, f33, f34, f35, f36, f37, f38, f39], ds, h, rd⟩ :=
 loopQ.again m' hm ⟨_, h, _, _, _, _, _, _, _, _, _, _, _, _, _, _, _, _, _, _, _, _, _, _, _, _, _, _, _, _, _, rfl, hi⟩
abbrev fn_zccQ : FuncId := 151
def zccQ_l0 : ACode :=
 (.seq (.seq (.region [
 o1 6 (.mov (tm 5)),
 o1 7 (.bin .lss (so (.binOp .lss 3 (tm 6) (.const (.int .i64 4)) 3) 4) (tm 6) (.const (.int .i64 4)))]) (.cond (tm 7)
 .skip
 (.exit 0))) (.seq (.block 1 (.seq (.regionD [
 o1 10 (.mov (tm 5)),
 o1 11 (.indexArr 4 1 (tm 2) (tm 10)),
 o1 12 (.load none (tm 11)),
 o1 13 (.mov (tm 5)),
 o1 14 (.indexArr 4 1 (tm 3) (tm 13)),
 o1 15 (.load none (tm 14)),
 o2 16 (.bin .neq (so (.binOp .neq 5 (tm 12) (tm 15) 5) 4) (tm 12) (tm 15))]) (.cond (tm 16)
 (.seq (.regionD [
 o1 17 (.mov (tm 5)),
 o1 18 (.indexArr 4 1 (tm 2) (tm 17)),
 o1 19 (.load none (tm 18)),
 o1 20 (.mov (tm 5)),
 o1 21 (.indexArr 4 1 (tm 3) (tm 20)),
 o1 22 (.load none (tm 21)),
 o2 23 (.bin .lss (so (.binOp .lss 5 (tm 19) (tm 22) 5) 4) (tm 19) (tm 22)),
 o2 4 (.mov (tm 23))]) .ret)
 .skip))) (.region [
 o1 8 (.mov (tm 5)),
 o1 9 (.bin .add (so (.binOp .add 3 (tm 8) (.const (.int .i64 1)) 3) 3) (tm 8) (.const (.int .i64 1))),
 o1 5 (.mov (tm 9))])))
def zccQ_c : ACode :=
 (.seq (.region [
 o1 2 (.box 64 (tm 0)),
 o1 3 (.box 64 (tm 1)),
 o1 4 (.mov (.const (.bool false)))]) (.seq (.seq (.region [
 o1 5 (.mov k0)]) (.block 0 (.loop zccQ_l0))) (.seq (.region [
 o1 4 (.mov (.const (.bool false)))]) .ret)))
def zccQ : AFunc := ⟨24, [(4, none)], zccQ_c, none⟩
theorem zccQ_t0 : tableOf Tryz.prog 151 = some zccQ := by kernel_rfl
theorem zccQ_t : T0 151 = some zccQ := withKept_t rfl (withTrue_t rfl zccQ_t0)
theorem zccQ_runs {v0 v1 : Value} {h : Heap} {R : RP} {X : XP} (k : RunC Tryz.prog T0 zccQ_c ⟨[v0, v1, U, U, U, U, U, U, U, U, U, U, U, U, U, U, U, U, U, U, U, U, U, U], [], h, none⟩ (bodyQ Tryz.prog T0 [(4, none)] R X)) :
 Runs Tryz.prog T0 (.fn 151) [v0, v1] h R X := Runs.fn zccQ_t rfl k
def zccQ_l0_J (f0 f1 f2 f3 : Value) (ds : List Deferred) (rd : Option Nat) (I : Nat → Value → Heap → Prop) (m : Nat) (s : St) : Prop := ∃ (v5 : Value), ∃ h : Heap, ∃ (x4 x6 x7 x8 x9 x10 x11 x12 x13 x14 x15 x16 x17 x18 x19 x20 x21 x22 x23 : Value), s = ⟨[f0, f1, f2, f3, x4, v5, x6, x7, x8, x9, x10, x11, x12, x13, x14, x15, x16, x17, x18, x19, x20, x21, x22, x23], ds, h, rd⟩ ∧ I m v5 h
theorem zccQ_l0_rule {f0 f1 f2 f3 : Value} {ds : List Deferred} {rd : Option Nat} {Q : QP} (I : Nat → Value → Heap → Prop) (hb : ∀ (m : Nat) (v5 : Value) (h : Heap) (x4 x6 x7 x8 x9 x10 x11 x12 x13 x14 x15 x16 x17 x18 x19 x20 x21 x22 x23 : Value) , I m v5 h → RunC Tryz.prog T0 zccQ_l0 ⟨[f0, f1, f2, f3, x4, v5, x6, x7, x8, x9, x10, x11, x12, x13, x14, x15, x16, x17, x18, x19, x20, x21, x22, x23], ds, h, rd⟩ (loopQ (zccQ_l0_J f0 f1 f2 f3 ds rd I) m Q))
 (m : Nat) {v5 : Value} {h : Heap} {x4 x6 x7 x8 x9 x10 x11 x12 x13 x14 x15 x16 x17 x18 x19 x20 x21 x22 x23 : Value} (hi : I m v5 h) : RunC Tryz.prog T0 (.loop zccQ_l0) ⟨[f0, f1, f2, f3, x4, v5, x6, x7, x8, x9, x10, x11, x12, x13, x14, x15, x16, x17, x18, x19, x20, x21, x22, x23], ds, h, rd⟩ Q :=
 RunC.loopJ (zccQ_l0_J f0 f1 f2 f3 ds rd I) (fun m s hj => by obtain ⟨v5, h, x4, x6, x7, x8, x9, x10, x11, x12, x13, x14, x15, x16, x17, x18, x19, x20, x21, x22, x23, rfl, hi⟩ := hj; exact hb m v5 h x4 x6 x7 x8 x9 x10 x11 x12 x13 x14 x15 x16 x17 x18 x19 x20 x21 x22 x23 hi) m _ ⟨_, h, _, _, _, _, _, _, _, _, _, _, _, _, _, _, _, _, _, _, _, rfl, hi⟩
theorem zccQ_l0_again {f0 f1 f2 f3 : Value} {ds : List Deferred} {rd : Option Nat} {Q : QP} {I : Nat → Value → Heap → Prop} {m : Nat} (m' : Nat) {v5 : Value} {h : Heap} {x4 x6 x7 x8 x9 x10 x11 x12 x13 x14 x15 x16 x17 x18 x19 x20 x21 x22 x23 : Value} (hm : m' < m) (hi : I m' v5 h) : loopQ (zccQ_l0_J f0 f1 f2 f3 ds rd I) m Q .normal ⟨[f0, f1, f2, f3, x4, v5, x6, x7, x8, x9, x10, x11, x12, x13, x14, x15, x16, x17, x18, x19, x20, x21, x22, x23], ds, h, rd⟩ :=
 loopQ.again m' hm ⟨_, h, _, _, _, _, _, _, _, _, _, _, _, _, _, _, _, _, _, _, _, rfl, hi⟩
abbrev fn_zmcQ : FuncId := 153
def zmcQ_l0 : ACode :=
 (.seq (.region [
 o1 12 (.bin .lss (so (.binOp .lss 3 (tm 11) (tm 10) 3) 0) (tm 11) (tm 10))]) (.seq (.cond (tm 12)
 .skip
 (.exit 0)) (.seq (.block 1 (.seq (.region [
 o1 13 (.indexSl 1 (tm 9) (tm 11)),
 o1 14 (.load none (tm 13)),
 o1 5 (.mov (tm 14))]) (.seq (.region [
 o1 15 (.mov (tm 3)),
 o1 16 (.mov (tm 5)),
 o1 17 (.lenSl (tm 16)),
 o1 18 (.bin .add (so (.binOp .add 3 (tm 15) (tm 17) 3) 3) (tm 15) (tm 17)),
 o1 3 (.mov (tm 18))]) (.seq (.region [
 o1 19 (.mov (tm 3)),
 o1 20 (.bin .lss (so (.binOp .lss 3 (tm 19) k0 3) 4) (tm 19) k0)]) (.cond (tm 20)
 (.region [
 o1 21 (.mkIface 9 (.const (.string ⟨⟨[108, 101, 110, 32, 111, 117, 116, 32, 111, 102, 32, 114, 97, 110, 103, 101]⟩⟩))),
 o3 (.panic (tm 21))])
 .skip))))) (.region [
 o1 22 (.bin .add (so (.binOp .add 3 (tm 11) (.const (.int .i64 1)) 3) 3) (tm 11) (.const (.int .i64 1))),
 o1 11 (.mov (tm 22))]))))
def zmcQ_l1 : ACode :=
 (.seq (.region [
 o1 28 (.bin .lss (so (.binOp .lss 3 (tm 27) (tm 26) 3) 0) (tm 27) (tm 26))]) (.seq (.cond (tm 28)
 .skip
 (.exit 2)) (.seq (.block 3 (.seq (.region [
 o1 29 (.indexSl 1 (tm 25) (tm 27)),
 o1 30 (.load none (tm 29)),
 o1 8 (.mov (tm 30))]) (.region [
 o1 31 (.mov (tm 6)),
 o1 32 (.mov (tm 8)),
 o1 33 (.append 5 1 1 [(.int .u8 0)] false (tm 31) (tm 32)),
 o1 6 (.mov (tm 33))]))) (.region [
 o1 34 (.bin .add (so (.binOp .add 3 (tm 27) (.const (.int .i64 1)) 3) 3) (tm 27) (.const (.int .i64 1))),
 o1 27 (.mov (tm 34))]))))
def zmcQ_c : ACode :=
 (.seq (.region [
 o1 2 (.mov (.const (.slice none 0 0)))]) (.seq (.region [
 o1 3 (.mov k0)]) (.seq (.seq (.region [
 o1 9 (.mov (tm 0)),
 o1 10 (.lenSl (tm 9)),
 o1 11 (.mov k0)]) (.block 0 (.loop zmcQ_l0))) (.seq (.region [
 o1 23 (.mov (tm 3)),
 o1 24 (.callV (.func 172) [(.const (.slice none 0 0)), (tm 23)]),
 o1 6 (.mov (tm 24))]) (.seq (.seq (.region [
 o1 25 (.mov (tm 0)),
 o1 26 (.lenSl (tm 25)),
 o1 27 (.mov k0)]) (.block 2 (.loop zmcQ_l1))) (.seq (.region [
 o1 35 (.mov (tm 6)),
 o1 2 (.mov (tm 35))]) .ret))))))
def zmcQ : AFunc := ⟨36, [(2, none)], zmcQ_c, none⟩
theorem zmcQ_t0 : tableOf Tryz.prog 153 = some zmcQ := by kernel_rfl
theorem zmcQ_t : T0 153 = some zmcQ := withKept_t rfl (withTrue_t rfl zmcQ_t0)
theorem zmcQ_runs {v0 : Value} {h : Heap} {R : RP} {X : XP} (k : RunC Tryz.prog T0 zmcQ_c ⟨[v0, U, U, U, U, U, U, U, U, U, U, U, U, U, U, U, U, U, U, U, U, U, U, U, U, U, U, U, U, U, U, U, U, U, U, U], [], h, none⟩ (bodyQ Tryz.prog T0 [(2, none)] R X)) :
 Runs Tryz.prog T0 (.fn 153) [v0] h R X := Runs.fn zmcQ_t rfl k
def zmcQ_l0_J (f0 f1 f2 f4 f6 f7 f8 f9 f10 f23 f24 f25 f26 f27 f28 f29 f30 f31 f32 f33 f34 f35 : Value) (ds : List Deferred) (rd : Option Nat) (I : Nat → Value → Value → Heap → Prop) (m : Nat) (s : St) : Prop := ∃ (v3 v11 : Value), ∃ h : Heap, ∃ (x5 x12 x13 x14 x15 x16 x17 x18 x19 x20 x21 x22 : Value), s = ⟨[f0, f1, f2, v3, f4, x5, f6, f7, f8, f9, f10, v11, x12, x13, x14, x15, x16, x17, x18, x19, x20, x21, x22, f23, f24, f25, f26, f27, f28, f29, f30, f31, f32, f33, f34, f35], ds, h, rd⟩ ∧ I m v3 v11 h
theorem zmcQ_l0_rule {f0 f1 f2 f4 f6 f7 f8 f9 f10 f23 f24 f25 f26 f27 f28 f29 f30 f31 f32 f33 f34 f35 : Value} {ds : List Deferred} {rd : Option Nat} {Q : QP} (I : Nat → Value → Value → Heap → Prop) (hb : ∀ (m : Nat) (v3 v11 : Value) (h : Heap) (x5 x12 x13 x14 x15 x16 x17 x18 x19 x20 x21 x22 : Value) , I m v3 v11 h → RunC Tryz.prog T0 zmcQ_l0 ⟨[f0, f1, f2, v3, f4, x5, f6, f7, f8, f9, f10, v11, x12, x13, x14, x15, x16, x17, x18, x19, x20, x21, x22, f23, f24, f25, f26, f27, f28, f29, f30, f31, f32, f33, f34, f35], ds, h, rd⟩ (loopQ (zmcQ_l0_J f0 f1 f2 f4 f6 f7 f8 f9 f10 f23 f24 f25 f26 f27 f28 f29 f30 f31 f32 f33 f34 f35 ds rd I) m Q))
 (m : Nat) {v3 v11 : Value} {h : Heap} {x5 x12 x13 x14 x15 x16 x17 x18 x19 x20 x21 x22 : Value} (hi : I m v3 v11 h) : RunC Tryz.prog T0 (.loop zmcQ_l0) ⟨[f0, f1, f2, v3, f4, x5, f6, f7, f8, f9, f10, v11, x12, x13, x14, x15, x16, x17, x18, x19, x20, x21, x22, f23, f24, f25, f26, f27, f28, f29, f30, f31, f32, f33, f34, f35], ds, h, rd⟩ Q :=
 RunC.loopJ (zmcQ_l0_J f0 f1 f2 f4 f6 f7 f8 f9 f10 f23 f24 f25 f26 f27 f28 f29 f30 f31 f32 f33 f34 f35 ds rd I) (fun m s hj => by obtain ⟨v3, v11, h, x5, x12, x13, x14, x15, x16, x17, x18, x19, x20, x21, x22, rfl, hi⟩ := hj; exact hb m v3 v11 h x5 x12 x13 x14 x15 x16 x17 x18 x19 x20 x21 x22 hi) m _ ⟨_, _, h, _, _, _, _, _, _, _, _, _, _, _, _, rfl, hi⟩
theorem zmcQ_l0_again {f0 f1 f2 f4 f6 f7 f8 f9 f10 f23 f24 f25 f26 f27 f28 f29 f30 f31 f32 f33 f34 f35 : Value} {ds : List Deferred} {rd : Option Nat} {Q : QP} {I : Nat → Value → Value → Heap → Prop} {m : Nat} (m' : Nat) {v3 v11 : Value} {h : Heap} {x5 x12 x13 x14 x15 x16 x17 x18 x19 x20 x21 x22 : Value} (hm : m' < m) (hi : I m' v3 v11 h) : loopQ (zmcQ_l0_J f0 f1 f2 f4 f6 f7 f8 f9 f10 f23 f24 f25 f26 f27 f28 f29 f30 f31 f32 f33 f34 f35 ds rd I) m Q .normal ⟨[f0, f1, f2, v3, f4, x5, f6, f7, f8, f9, f10, v11, x12, x13, x14, x15, x16, x17, x18, x19, x20, x21, x22, f23, f24, f25, f26, f27, f28, f29, f30, f31, f32, f33, f34, f35], ds, h, rd⟩ :=
 loopQ.again m' hm ⟨_, _, h, _, _, _, _, _, _, _, _, _, _, _, _, rfl, hi⟩
def zmcQ_l1_J (f0 f1 f2 f3 f4 f5 f7 f9 f10 f11 f12 f13 f14 f15 f16 f17 f18 f19 f20 f21 f22 f23 f24 f25 f26 f35 : Value) (ds : List Deferred) (rd : Option Nat) (I : Nat → Value → Value → Heap → Prop) (m : Nat) (s : St) : Prop := ∃ (v6 v27 : Value), ∃ h : Heap, ∃ (x8 x28 x29 x30 x31 x32 x33 x34 : Value), s = ⟨[f0, f1, f2, f3, f4, f5, v6, f7, x8, f9, f10, f11, f12, f13, f14, f15, f16, f17, f18, f19, f20, f21, f22, f23, f24, f25, f26, v27, x28, x29, x30, x31, x32, x33, x34, f35], ds, h, rd⟩ ∧ I m v6 v27 h
theorem zmcQ_l1_rule {f0 f1 f2 f3 f4 f5 f7 f9 f10 f11 f12 f13 f14 f15 f16 f17 f18 f19 f20 f21 f22 f23 f24 f25 f26 f35 : Value} {ds : List Deferred} {rd : Option Nat} {Q : QP} (I : Nat → Value → Value → Heap → Prop) (hb : ∀ (m : Nat) (v6 v27 : Value) (h : Heap) (x8 x28 x29 x30 x31 x32 x33 x34 : Value) , I m v6 v27 h → RunC Tryz.prog T0 zmcQ_l1 ⟨[f0, f1, f2, f3, f4, f5, v6, f7, x8, f9, f10, f11, f12, f13, f14, f15, f16, f17, f18, f19, f20, f21, f22, f23, f24, f25, f26, v27, x28, x29, x30, x31, x32, x33, x34, f35], ds, h, rd⟩ (loopQ (zmcQ_l1_J f0 f1 f2 f3 f4 f5 f7 f9 f10 f11 f12 f13 f14 f15 f16 f17 f18 f19 f20 f21 f22 f23 f24 f25 f26 f35 ds rd I) m Q))
 (m : Nat) {v6 v27 : Value} {h : Heap} {x8 x28 x29 x30 x31 x32 x33 x34 : Value} (hi : I m v6 v27 h) : RunC Tryz.prog T0 (.loop zmcQ_l1) ⟨[f0, f1, f2, f3, f4, f5, v6, f7, x8, f9, f10, f11, f12, f13, f14, f15, f16, f17, f18, f19, f20, f21, f22, f23, f24, f25, f26, v27, x28, x29, x30, x31, x32, x33, x34, f35], ds, h, rd⟩ Q :=
 RunC.loopJ (zmcQ_l1_J f0 f1 f2 f3 f4 f5 f7 f9 f10 f11 f12 f13 f14 f15 f16 f17 f18 f19 f20 f21 f22 f23 f24 f25 f26 f35 ds rd I) (fun m s hj => by obtain ⟨v6, v27, h, x8, x28, x29, x30, x31, x32, x33, x34, rfl, hi⟩ := hj; exact hb m v6 v27 h x8 x28 x29 x30 x31 x32 x33 x34 hi) m _ ⟨_, _, h, _, _, _, _, _, _, _, _, rfl, hi⟩
theorem zmcQ_l1_again {f0 f1 f2 f3 f4 f5 f7 f9 f10 f11 f12 f13 f14 f15 f16 f17 f18 f19 f20 f21 f22 f23 f24 f25 f26 f35 : Value} {ds : List Deferred} {rd : Option Nat} {Q : QP} {I : Nat → Value → Value → Heap → Prop} {m : Nat} (m' : Nat) {v6 v27 : Value} {h : Heap} {x8 x28 x29 x30 x31 x32 x33 x34 : Value} (hm : m' < m) (hi : I m' v6 v27 h) : loopQ (zmcQ_l1_J f0 f1 f2 f3 f4 f5 f7 f9 f10 f11 f12 f13 f14 f15 f16 f17 f18 f19 f20 f21 f22 f23 f24 f25 f26 f35 ds rd I) m Q .normal ⟨[f0, f1, f2, f3, f4, f5, v6, f7, x8, f9, f10, f11, f12, f13, f14, f15, f16, f17, f18, f19, f20, f21, f22, f23, f24, f25, f26, v27, x28, x29, x30, x31, x32, x33, x34, f35], ds, h, rd⟩ :=
 loopQ.again m' hm ⟨_, _, h, _, _, _, _, _, _, _, _, rfl, hi⟩
abbrev fn_zmQ : FuncId := 154
def zmQ_c : ACode :=
 (.seq (.region [
 o1 4 (.mov k0)]) (.seq (.region [
 o1 5 (.mov (tm 0)),
 o1 6 (.mov (tm 1)),
 o1 7 (.ext .compare (.func 173) [(tm 5), (tm 6)]),
 o1 4 (.mov (tm 7))]) .ret))
def zmQ : AFunc := ⟨8, [(4, none)], zmQ_c, none⟩
theorem zmQ_t0 : tableOf Tryz.prog 154 = some zmQ := by kernel_rfl
theorem zmQ_t : T0 154 = some zmQ := withKept_t rfl (withTrue_t rfl zmQ_t0)
theorem zmQ_runs {v0 v1 : Value} {h : Heap} {R : RP} {X : XP} (k : RunC Tryz.prog T0 zmQ_c ⟨[v0, v1, U, U, U, U, U, U], [], h, none⟩ (bodyQ Tryz.prog T0 [(4, none)] R X)) :
 Runs Tryz.prog T0 (.fn 154) [v0, v1] h R X := Runs.fn zmQ_t rfl k
abbrev fn_zybQ : FuncId := 155
def zybQ_c : ACode :=
 (.seq (.region [
 o1 4 (.mov k0)]) (.seq (.region [
 o1 5 (.mov (tm 0)),
 o1 6 (.mov (tm 1)),
 o1 7 (.strToBytes 5 (tm 6)),
 o1 8 (.callV (.func 123) [(tm 7)]),
 o1 9 (.callV (.func 122) [(tm 5), (tm 8)]),
 o1 4 (.mov (tm 9))]) .ret))
def zybQ : AFunc := ⟨10, [(4, none)], zybQ_c, none⟩
theorem zybQ_t0 : tableOf Tryz.prog 155 = some zybQ := by kernel_rfl
theorem zybQ_t : T0 155 = some zybQ := withKept_t rfl (withTrue_t rfl zybQ_t0)
theorem zybQ_runs {v0 v1 : Value} {h : Heap} {R : RP} {X : XP} (k : RunC Tryz.prog T0 zybQ_c ⟨[v0, v1, U, U, U, U, U, U, U, U], [], h, none⟩ (bodyQ Tryz.prog T0 [(4, none)] R X)) :
 Runs Tryz.prog T0 (.fn 155) [v0, v1] h R X := Runs.fn zybQ_t rfl k
abbrev fn_zsbQ : FuncId := 156
def zsbQ_l0 : ACode :=
 (.seq (.seq (.region [
 o1 4 (.mov (tm 0)),
 o1 5 (.bin .gtr (so (.binOp .gtr 3 (tm 4) k0 3) 4) (tm 4) k0)]) (.cond (tm 5)
 .skip
 (.exit 0))) (.block 1 (.seq (.region [
 o1 6 (.mov (tm 0)),
 o1 7 (.conv .u8 (so (.convert 3 5 (tm 6)) 5) (tm 6)),
 o1 8 (.buildSlice 5 [(.int .u8 0)] 1 [(0, 1, (tm 7))]),
 o1 9 (.mov (tm 3)),
 o1 10 (.append 5 1 1 [(.int .u8 0)] false (tm 8) (tm 9)),
 o1 3 (.mov (tm 10))]) (.region [
 o1 11 (.mov (tm 0)),
 o1 12 (.bin .shr (so (.binOp .shr 3 (tm 11) (.const (.int .u64 8)) 155) 3) (tm 11) (.const (.int .u64 8))),
 o1 0 (.mov (tm 12))]))))
def zsbQ_c : ACode :=
 (.seq (.region [
 o1 2 (.mov (.const (.slice none 0 0)))]) (.seq (.region [
 o1 3 (.mov (.const (.slice none 0 0)))]) (.seq (.block 0 (.loop zsbQ_l0)) (.seq (.region [
 o1 13 (.mov (tm 3)),
 o1 14 (.lenSl (tm 13)),
 o1 15 (.conv .u8 (so (.convert 3 5 (tm 14)) 5) (tm 14)),
 o1 16 (.buildSlice 5 [(.int .u8 0)] 1 [(0, 1, (tm 15))]),
 o1 17 (.mov (tm 3)),
 o1 18 (.append 5 1 1 [(.int .u8 0)] false (tm 16) (tm 17)),
 o1 2 (.mov (tm 18))]) .ret))))
def zsbQ : AFunc := ⟨19, [(2, none)], zsbQ_c, none⟩
theorem zsbQ_t0 : tableOf Tryz.prog 156 = some zsbQ := by kernel_rfl
theorem zsbQ_t : T0 156 = some zsbQ := withKept_t rfl (withTrue_t rfl zsbQ_t0)
theorem zsbQ_runs {v0 : Value} {h : Heap} {R : RP} {X : XP} (k : RunC Tryz.prog T0 zsbQ_c ⟨[v0, U, U, U, U, U, U, U, U, U, U, U, U, U, U, U, U, U, U], [], h, none⟩ (bodyQ Tryz.prog T0 [(2, none)] R X)) :
 Runs Tryz.prog T0 (.fn 156) [v0] h R X := Runs.fn zsbQ_t rfl k
def zsbQ_l0_J (f1 f2 f13 f14 f15 f16 f17 f18 : Value) (ds : List Deferred) (rd : Option Nat) (I : Nat → Value → Value → Heap → Prop) (m : Nat) (s : St) : Prop := ∃ (v0 v3 : Value), ∃ h : Heap, ∃ (x4 x5 x6 x7 x8 x9 x10 x11 x12 : Value), s = ⟨[v0, f1, f2, v3, x4, x5, x6, x7, x8, x9, x10, x11, x12, f13, f14, f15, f16, f17, f18], ds, h, rd⟩ ∧ I m v0 v3 h
theorem zsbQ_l0_rule {f1 f2 f13 f14 f15 f16 f17 f18 : Value} {ds : List Deferred} {rd : Option Nat} {Q : QP} (I : Nat → Value → Value → Heap → Prop) (hb : ∀ (m : Nat) (v0 v3 : Value) (h : Heap) (x4 x5 x6 x7 x8 x9 x10 x11 x12 : Value) , I m v0 v3 h → RunC Tryz.prog T0 zsbQ_l0 ⟨[v0, f1, f2, v3, x4, x5, x6, x7, x8, x9, x10, x11, x12, f13, f14, f15, f16, f17, f18], ds, h, rd⟩ (loopQ (zsbQ_l0_J f1 f2 f13 f14 f15 f16 f17 f18 ds rd I) m Q))
 (m : Nat) {v0 v3 : Value} {h : Heap} {x4 x5 x6 x7 x8 x9 x10 x11 x12 : Value} (hi : I m v0 v3 h) : RunC Tryz.prog T0 (.loop zsbQ_l0) ⟨[v0, f1, f2, v3, x4, x5, x6, x7, x8, x9, x10, x11, x12, f13, f14, f15, f16, f17, f18], ds, h, rd⟩ Q :=
 RunC.loopJ (zsbQ_l0_J f1 f2 f13 f14 f15 f16 f17 f18 ds rd I) (fun m s hj => by obtain ⟨v0, v3, h, x4, x5, x6, x7, x8, x9, x10, x11, x12, rfl, hi⟩ := hj; exact hb m v0 v3 h x4 x5 x6 x7 x8 x9 x10 x11 x12 hi) m _ ⟨_, _, h, _, _, _, _, _, _, _, _, _, rfl, hi⟩
theorem zsbQ_l0_again {f1 f2 f13 f14 f15 f16 f17 f18 : Value} {ds : List Deferred} {rd : Option Nat} {Q : QP} {I : Nat → Value → Value → Heap → Prop} {m : Nat} (m' : Nat) {v0 v3 : Value} {h : Heap} {x4 x5 x6 x7 x8 x9 x10 x11 x12 : Value} (hm : m' < m) (hi : I m' v0 v3 h) : loopQ (zsbQ_l0_J f1 f2 f13 f14 f15 f16 f17 f18 ds rd I) m Q .normal ⟨[v0, f1, f2, v3, x4, x5, x6, x7, x8, x9, x10, x11, x12, f13, f14, f15, f16, f17, f18], ds, h, rd⟩ :=
 loopQ.again m' hm ⟨_, _, h, _, _, _, _, _, _, _, _, _, rfl, hi⟩
abbrev fn_zobQ : FuncId := 163
def zobQ_c : ACode :=
 (.seq (.region [
 o1 2 (.alloc 199 [(.int .i64 0), (.int .i64 0), (.int .i64 0), (.int .i64 0), (.int .i64 0), (.int .i64 0), (.int .i64 0), (.int .i64 0), (.int .i64 0), (.int .i64 0), (.int .i64 0), (.int .i64 0), (.int .i64 0), (.int .i64 0), (.int .i64 0), (.int .i64 0)])]) (.seq (.region [
 o1 4 (.build [(.int .i64 0), (.int .i64 0), (.int .i64 0), (.int .i64 0), (.int .i64 0), (.int .i64 0), (.int .i64 0), (.int .i64 0), (.int .i64 0), (.int .i64 0), (.int .i64 0), (.int .i64 0), (.int .i64 0), (.int .i64 0), (.int .i64 0), (.int .i64 0)] [(0, 1, k0), (1, 1, (.const (.int .i64 1))), (2, 1, (.const (.int .i64 2))), (3, 1, (.const (.int .i64 3))), (4, 1, (.const (.int .i64 4))), (5, 1, (.const (.int .i64 5))), (6, 1, (.const (.int .i64 6))), (7, 1, (.const (.int .i64 7))), (8, 1, (.const (.int .i64 8))), (9, 1, (.const (.int .i64 9))), (10, 1, (.const (.int .i64 10))), (11, 1, (.const (.int .i64 11))), (12, 1, (.const (.int .i64 12))), (13, 1, (.const (.int .i64 13))), (14, 1, (.const (.int .i64 14))), (15, 1, (.const (.int .i64 15)))]),
 o1 5 (.build [(.int .i64 0), (.int .i64 0), (.int .i64 0), (.int .i64 0), (.int .i64 0), (.int .i64 0), (.int .i64 0), (.int .i64 0), (.int .i64 0), (.int .i64 0), (.int .i64 0), (.int .i64 0), (.int .i64 0), (.int .i64 0), (.int .i64 0), (.int .i64 0)] [(0, 1, (.const (.int .i64 14))), (1, 1, (.const (.int .i64 10))), (2, 1, (.const (.int .i64 4))), (3, 1, (.const (.int .i64 8))), (4, 1, (.const (.int .i64 9))), (5, 1, (.const (.int .i64 15))), (6, 1, (.const (.int .i64 13))), (7, 1, (.const (.int .i64 6))), (8, 1, (.const (.int .i64 1))), (9, 1, (.const (.int .i64 12))), (10, 1, k0), (11, 1, (.const (.int .i64 2))), (12, 1, (.const (.int .i64 11))), (13, 1, (.const (.int .i64 7))), (14, 1, (.const (.int .i64 5))), (15, 1, (.const (.int .i64 3)))]),
 o1 6 (.build [(.int .i64 0), (.int .i64 0), (.int .i64 0), (.int .i64 0), (.int .i64 0), (.int .i64 0), (.int .i64 0), (.int .i64 0), (.int .i64 0), (.int .i64 0), (.int .i64 0), (.int .i64 0), (.int .i64 0), (.int .i64 0), (.int .i64 0), (.int .i64 0)] [(0, 1, (.const (.int .i64 11))), (1, 1, (.const (.int .i64 8))), (2, 1, (.const (.int .i64 12))), (3, 1, k0), (4, 1, (.const (.int .i64 5))), (5, 1, (.const (.int .i64 2))), (6, 1, (.const (.int .i64 15))), (7, 1, (.const (.int .i64 13))), (8, 1, (.const (.int .i64 10))), (9, 1, (.const (.int .i64 14))), (10, 1, (.const (.int .i64 3))), (11, 1, (.const (.int .i64 6))), (12, 1, (.const (.int .i64 7))), (13, 1, (.const (.int .i64 1))), (14, 1, (.const (.int .i64 9))), (15, 1, (.const (.int .i64 4)))]),
 o1 7 (.build [(.int .i64 0), (.int .i64 0), (.int .i64 0), (.int .i64 0), (.int .i64 0), (.int .i64 0), (.int .i64 0), (.int .i64 0), (.int .i64 0), (.int .i64 0), (.int .i64 0), (.int .i64 0), (.int .i64 0), (.int .i64 0), (.int .i64 0), (.int .i64 0)] [(0, 1, (.const (.int .i64 7))), (1, 1, (.const (.int .i64 9))), (2, 1, (.const (.int .i64 3))), (3, 1, (.const (.int .i64 1))), (4, 1, (.const (.int .i64 13))), (5, 1, (.const (.int .i64 12))), (6, 1, (.const (.int .i64 11))), (7, 1, (.const (.int .i64 14))), (8, 1, (.const (.int .i64 2))), (9, 1, (.const (.int .i64 6))), (10, 1, (.const (.int .i64 5))), (11, 1, (.const (.int .i64 10))), (12, 1, (.const (.int .i64 4))), (13, 1, k0), (14, 1, (.const (.int .i64 15))), (15, 1, (.const (.int .i64 8)))]),
 o1 8 (.build [(.int .i64 0), (.int .i64 0), (.int .i64 0), (.int .i64 0), (.int .i64 0), (.int .i64 0), (.int .i64 0), (.int .i64 0), (.int .i64 0), (.int .i64 0), (.int .i64 0), (.int .i64 0), (.int .i64 0), (.int .i64 0), (.int .i64 0), (.int .i64 0)] [(0, 1, (.const (.int .i64 9))), (1, 1, k0), (2, 1, (.const (.int .i64 5))), (3, 1, (.const (.int .i64 7))), (4, 1, (.const (.int .i64 2))), (5, 1, (.const (.int .i64 4))), (6, 1, (.const (.int .i64 10))), (7, 1, (.const (.int .i64 15))), (8, 1, (.const (.int .i64 14))), (9, 1, (.const (.int .i64 1))), (10, 1, (.const (.int .i64 11))), (11, 1, (.const (.int .i64 12))), (12, 1, (.const (.int .i64 6))), (13, 1, (.const (.int .i64 8))), (14, 1, (.const (.int .i64 3))), (15, 1, (.const (.int .i64 13)))]),
 o1 9 (.build [(.int .i64 0), (.int .i64 0), (.int .i64 0), (.int .i64 0), (.int .i64 0), (.int .i64 0), (.int .i64 0), (.int .i64 0), (.int .i64 0), (.int .i64 0), (.int .i64 0), (.int .i64 0), (.int .i64 0), (.int .i64 0), (.int .i64 0), (.int .i64 0)] [(0, 1, (.const (.int .i64 2))), (1, 1, (.const (.int .i64 12))), (2, 1, (.const (.int .i64 6))), (3, 1, (.const (.int .i64 10))), (4, 1, k0), (5, 1, (.const (.int .i64 11))), (6, 1, (.const (.int .i64 8))), (7, 1, (.const (.int .i64 3))), (8, 1, (.const (.int .i64 4))), (9, 1, (.const (.int .i64 13))), (10, 1, (.const (.int .i64 7))), (11, 1, (.const (.int .i64 5))), (12, 1, (.const (.int .i64 15))), (13, 1, (.const (.int .i64 14))), (14, 1, (.const (.int .i64 1))), (15, 1, (.const (.int .i64 9)))]),
 o1 10 (.build [(.int .i64 0), (.int .i64 0), (.int .i64 0), (.int .i64 0), (.int .i64 0), (.int .i64 0), (.int .i64 0), (.int .i64 0), (.int .i64 0), (.int .i64 0), (.int .i64 0), (.int .i64 0), (.int .i64 0), (.int .i64 0), (.int .i64 0), (.int .i64 0)] [(0, 1, (.const (.int .i64 12))), (1, 1, (.const (.int .i64 5))), (2, 1, (.const (.int .i64 1))), (3, 1, (.const (.int .i64 15))), (4, 1, (.const (.int .i64 14))), (5, 1, (.const (.int .i64 13))), (6, 1, (.const (.int .i64 4))), (7, 1, (.const (.int .i64 10))), (8, 1, k0), (9, 1, (.const (.int .i64 7))), (10, 1, (.const (.int .i64 6))), (11, 1, (.const (.int .i64 3))), (12, 1, (.const (.int .i64 9))), (13, 1, (.const (.int .i64 2))), (14, 1, (.const (.int .i64 8))), (15, 1, (.const (.int .i64 11)))]),
 o1 11 (.build [(.int .i64 0), (.int .i64 0), (.int .i64 0), (.int .i64 0), (.int .i64 0), (.int .i64 0), (.int .i64 0), (.int .i64 0), (.int .i64 0), (.int .i64 0), (.int .i64 0), (.int .i64 0), (.int .i64 0), (.int .i64 0), (.int .i64 0), (.int .i64 0)] [(0, 1, (.const (.int .i64 13))), (1, 1, (.const (.int .i64 11))), (2, 1, (.const (.int .i64 7))), (3, 1, (.const (.int .i64 14))), (4, 1, (.const (.int .i64 12))), (5, 1, (.const (.int .i64 1))), (6, 1, (.const (.int .i64 3))), (7, 1, (.const (.int .i64 9))), (8, 1, (.const (.int .i64 5))), (9, 1, k0), (10, 1, (.const (.int .i64 15))), (11, 1, (.const (.int .i64 4))), (12, 1, (.const (.int .i64 8))), (13, 1, (.const (.int .i64 6))), (14, 1, (.const (.int .i64 2))), (15, 1, (.const (.int .i64 10)))]),
 o1 12 (.build [(.int .i64 0), (.int .i64 0), (.int .i64 0), (.int .i64 0), (.int .i64 0), (.int .i64 0), (.int .i64 0), (.int .i64 0), (.int .i64 0), (.int .i64 0), (.int .i64 0), (.int .i64 0), (.int .i64 0), (.int .i64 0), (.int .i64 0), (.int .i64 0)] [(0, 1, (.const (.int .i64 6))), (1, 1, (.const (.int .i64 15))), (2, 1, (.const (.int .i64 14))), (3, 1, (.const (.int .i64 9))), (4, 1, (.const (.int .i64 11))), (5, 1, (.const (.int .i64 3))), (6, 1, k0), (7, 1, (.const (.int .i64 8))), (8, 1, (.const (.int .i64 12))), (9, 1, (.const (.int .i64 2))), (10, 1, (.const (.int .i64 13))), (11, 1, (.const (.int .i64 7))), (12, 1, (.const (.int .i64 1))), (13, 1, (.const (.int .i64 4))), (14, 1, (.const (.int .i64 10))), (15, 1, (.const (.int .i64 5)))]),
 o1 13 (.build [(.int .i64 0), (.int .i64 0), (.int .i64 0), (.int .i64 0), (.int .i64 0), (.int .i64 0), (.int .i64 0), (.int .i64 0), (.int .i64 0), (.int .i64 0), (.int .i64 0), (.int .i64 0), (.int .i64 0), (.int .i64 0), (.int .i64 0), (.int .i64 0)] [(0, 1, (.const (.int .i64 10))), (1, 1, (.const (.int .i64 2))), (2, 1, (.const (.int .i64 8))), (3, 1, (.const (.int .i64 4))), (4, 1, (.const (.int .i64 7))), (5, 1, (.const (.int .i64 6))), (6, 1, (.const (.int .i64 1))), (7, 1, (.const (.int .i64 5))), (8, 1, (.const (.int .i64 15))), (9, 1, (.const (.int .i64 11))), (10, 1, (.const (.int .i64 9))), (11, 1, (.const (.int .i64 14))), (12, 1, (.const (.int .i64 3))), (13, 1, (.const (.int .i64 12))), (14, 1, (.const (.int .i64 13))), (15, 1, k0)]),
 o1 14 (.build [(.int .i64 0), (.int .i64 0), (.int .i64 0), (.int .i64 0), (.int .i64 0), (.int .i64 0), (.int .i64 0), (.int .i64 0), (.int .i64 0), (.int .i64 0), (.int .i64 0), (.int .i64 0), (.int .i64 0), (.int .i64 0), (.int .i64 0), (.int .i64 0), (.int .i64 0), (.int .i64 0), (.int .i64 0), (.int .i64 0), (.int .i64 0), (.int .i64 0), (.int .i64 0), (.int .i64 0), (.int .i64 0), (.int .i64 0), (.int .i64 0), (.int .i64 0), (.int .i64 0), (.int .i64 0), (.int .i64 0), (.int .i64 0), (.int .i64 0), (.int .i64 0), (.int .i64 0), (.int .i64 0), (.int .i64 0), (.int .i64 0), (.int .i64 0), (.int .i64 0), (.int .i64 0), (.int .i64 0), (.int .i64 0), (.int .i64 0), (.int .i64 0), (.int .i64 0), (.int .i64 0), (.int .i64 0), (.int .i64 0), (.int .i64 0), (.int .i64 0), (.int .i64 0), (.int .i64 0), (.int .i64 0), (.int .i64 0), (.int .i64 0), (.int .i64 0), (.int .i64 0), (.int .i64 0), (.int .i64 0), (.int .i64 0), (.int .i64 0), (.int .i64 0), (.int .i64 0), (.int .i64 0), (.int .i64 0), (.int .i64 0), (.int .i64 0), (.int .i64 0), (.int .i64 0), (.int .i64 0), (.int .i64 0), (.int .i64 0), (.int .i64 0), (.int .i64 0), (.int .i64 0), (.int .i64 0), (.int .i64 0), (.int .i64 0), (.int .i64 0), (.int .i64 0), (.int .i64 0), (.int .i64 0), (.int .i64 0), (.int .i64 0), (.int .i64 0), (.int .i64 0), (.int .i64 0), (.int .i64 0), (.int .i64 0), (.int .i64 0), (.int .i64 0), (.int .i64 0), (.int .i64 0), (.int .i64 0), (.int .i64 0), (.int .i64 0), (.int .i64 0), (.int .i64 0), (.int .i64 0), (.int .i64 0), (.int .i64 0), (.int .i64 0), (.int .i64 0), (.int .i64 0), (.int .i64 0), (.int .i64 0), (.int .i64 0), (.int .i64 0), (.int .i64 0), (.int .i64 0), (.int .i64 0), (.int .i64 0), (.int .i64 0), (.int .i64 0), (.int .i64 0), (.int .i64 0), (.int .i64 0), (.int .i64 0), (.int .i64 0), (.int .i64 0), (.int .i64 0), (.int .i64 0), (.int .i64 0), (.int .i64 0), (.int .i64 0), (.int .i64 0), (.int .i64 0), (.int .i64 0), (.int .i64 0), (.int .i64 0), (.int .i64 0), (.int .i64 0), (.int .i64 0), (.int .i64 0), (.int .i64 0), (.int .i64 0), (.int .i64 0), (.int .i64 0), (.int .i64 0), (.int .i64 0), (.int .i64 0), (.int .i64 0), (.int .i64 0), (.int .i64 0), (.int .i64 0), (.int .i64 0), (.int .i64 0), (.int .i64 0), (.int .i64 0), (.int .i64 0), (.int .i64 0), (.int .i64 0), (.int .i64 0), (.int .i64 0), (.int .i64 0), (.int .i64 0), (.int .i64 0), (.int .i64 0), (.int .i64 0)] [(0, 16, (tm 4)), (16, 16, (tm 5)), (32, 16, (tm 6)), (48, 16, (tm 7)), (64, 16, (tm 8)), (80, 16, (tm 9)), (96, 16, (tm 10)), (112, 16, (tm 11)), (128, 16, (tm 12)), (144, 16, (tm 13))]),
 o1 3 (.alloc 212 [(.int .i64 0), (.int .i64 0), (.int .i64 0), (.int .i64 0), (.int .i64 0), (.int .i64 0), (.int .i64 0), (.int .i64 0), (.int .i64 0), (.int .i64 0), (.int .i64 0), (.int .i64 0), (.int .i64 0), (.int .i64 0), (.int .i64 0), (.int .i64 0), (.int .i64 0), (.int .i64 0), (.int .i64 0), (.int .i64 0), (.int .i64 0), (.int .i64 0), (.int .i64 0), (.int .i64 0), (.int .i64 0), (.int .i64 0), (.int .i64 0), (.int .i64 0), (.int .i64 0), (.int .i64 0), (.int .i64 0), (.int .i64 0), (.int .i64 0), (.int .i64 0), (.int .i64 0), (.int .i64 0), (.int .i64 0), (.int .i64 0), (.int .i64 0), (.int .i64 0), (.int .i64 0), (.int .i64 0), (.int .i64 0), (.int .i64 0), (.int .i64 0), (.int .i64 0), (.int .i64 0), (.int .i64 0), (.int .i64 0), (.int .i64 0), (.int .i64 0), (.int .i64 0), (.int .i64 0), (.int .i64 0), (.int .i64 0), (.int .i64 0), (.int .i64 0), (.int .i64 0), (.int .i64 0), (.int .i64 0), (.int .i64 0), (.int .i64 0), (.int .i64 0), (.int .i64 0), (.int .i64 0), (.int .i64 0), (.int .i64 0), (.int .i64 0), (.int .i64 0), (.int .i64 0), (.int .i64 0), (.int .i64 0), (.int .i64 0), (.int .i64 0), (.int .i64 0), (.int .i64 0), (.int .i64 0), (.int .i64 0), (.int .i64 0), (.int .i64 0), (.int .i64 0), (.int .i64 0), (.int .i64 0), (.int .i64 0), (.int .i64 0), (.int .i64 0), (.int .i64 0), (.int .i64 0), (.int .i64 0), (.int .i64 0), (.int .i64 0), (.int .i64 0), (.int .i64 0), (.int .i64 0), (.int .i64 0), (.int .i64 0), (.int .i64 0), (.int .i64 0), (.int .i64 0), (.int .i64 0), (.int .i64 0), (.int .i64 0), (.int .i64 0), (.int .i64 0), (.int .i64 0), (.int .i64 0), (.int .i64 0), (.int .i64 0), (.int .i64 0), (.int .i64 0), (.int .i64 0), (.int .i64 0), (.int .i64 0), (.int .i64 0), (.int .i64 0), (.int .i64 0), (.int .i64 0), (.int .i64 0), (.int .i64 0), (.int .i64 0), (.int .i64 0), (.int .i64 0), (.int .i64 0), (.int .i64 0), (.int .i64 0), (.int .i64 0), (.int .i64 0), (.int .i64 0), (.int .i64 0), (.int .i64 0), (.int .i64 0), (.int .i64 0), (.int .i64 0), (.int .i64 0), (.int .i64 0), (.int .i64 0), (.int .i64 0), (.int .i64 0), (.int .i64 0), (.int .i64 0), (.int .i64 0), (.int .i64 0), (.int .i64 0), (.int .i64 0), (.int .i64 0), (.int .i64 0), (.int .i64 0), (.int .i64 0), (.int .i64 0), (.int .i64 0), (.int .i64 0), (.int .i64 0), (.int .i64 0), (.int .i64 0), (.int .i64 0), (.int .i64 0), (.int .i64 0), (.int .i64 0), (.int .i64 0), (.int .i64 0)]),
 o3 (.store 160 (tm 3) (tm 14))]) (.seq (.region [
 o1 15 (.mov (tm 0)),
 o1 16 (.indexArr 10 16 (tm 3) (tm 15)),
 o1 17 (.load (some 16) (tm 16)),
 o3 (.store 16 (tm 2) (tm 17))]) .ret)))
def zobQ : AFunc := ⟨18, [(2, some (some 16))], zobQ_c, none⟩
theorem zobQ_t0 : tableOf Tryz.prog 163 = some zobQ := by kernel_rfl
theorem zobQ_t : T0 163 = some zobQ := withKept_t rfl (withTrue_t rfl zobQ_t0)
theorem zobQ_runs {v0 : Value} {h : Heap} {R : RP} {X : XP} (k : RunC Tryz.prog T0 zobQ_c ⟨[v0, U, U, U, U, U, U, U, U, U, U, U, U, U, U, U, U, U], [], h, none⟩ (bodyQ Tryz.prog T0 [(2, some (some 16))] R X)) :
 Runs Tryz.prog T0 (.fn 163) [v0] h R X := Runs.fn zobQ_t rfl k
abbrev fn_znbQ : FuncId := 164
def znbQ_c : ACode :=
 (.seq (.region [
 o1 7 (.box 198 (tm 0)),
 o1 14 (.alloc 198 [(.int .u32 0), (.int .u32 0), (.int .u32 0), (.int .u32 0), (.int .u32 0), (.int .u32 0), (.int .u32 0), (.int .u32 0), (.int .u32 0), (.int .u32 0), (.int .u32 0), (.int .u32 0), (.int .u32 0), (.int .u32 0), (.int .u32 0), (.int .u32 0)])]) (.seq (.regionD [
 o1 15 (.mov (tm 1)),
 o1 16 (.mov (tm 1)),
 o1 17 (.indexArr 16 1 (tm 7) (tm 16)),
 o1 18 (.load none (tm 17)),
 o1 19 (.mov (tm 2)),
 o1 20 (.indexArr 16 1 (tm 7) (tm 19)),
 o1 21 (.load none (tm 20)),
 o1 22 (.bin .add (so (.binOp .add 151 (tm 18) (tm 21) 151) 151) (tm 18) (tm 21)),
 o1 23 (.mov (tm 5)),
 o1 24 (.bin .add (so (.binOp .add 151 (tm 22) (tm 23) 151) 151) (tm 22) (tm 23)),
 o2 25 (.indexArr 16 1 (tm 7) (tm 15)),
 ⟨none, .store 1 (tm 25) (tm 24), none, [], true⟩]) (.seq (.regionD [
 o1 26 (.mov (tm 4)),
 o1 27 (.mov (tm 4)),
 o1 28 (.indexArr 16 1 (tm 7) (tm 27)),
 o1 29 (.load none (tm 28)),
 o1 30 (.mov (tm 1)),
 o1 31 (.indexArr 16 1 (tm 7) (tm 30)),
 o1 32 (.load none (tm 31)),
 o1 33 (.bin .xor (so (.binOp .xor 151 (tm 29) (tm 32) 151) 151) (tm 29) (tm 32)),
 ⟨some 34, .callV (.func 177) [(tm 33), (.const (.int .u64 16))], none, [(some 26, .mov (tm 4), none)], false⟩,
 o2 35 (.indexArr 16 1 (tm 7) (tm 26)),
 ⟨none, .store 1 (tm 35) (tm 34), none, [], true⟩]) (.seq (.regionD [
 o1 36 (.mov (tm 3)),
 o1 37 (.mov (tm 3)),
 o1 38 (.indexArr 16 1 (tm 7) (tm 37)),
 o1 39 (.load none (tm 38)),
 o1 40 (.mov (tm 4)),
 o1 41 (.indexArr 16 1 (tm 7) (tm 40)),
 o1 42 (.load none (tm 41)),
 o1 43 (.bin .add (so (.binOp .add 151 (tm 39) (tm 42) 151) 151) (tm 39) (tm 42)),
 o2 44 (.indexArr 16 1 (tm 7) (tm 36)),
 ⟨none, .store 1 (tm 44) (tm 43), none, [], true⟩]) (.seq (.regionD [
 o1 45 (.mov (tm 2)),
 o1 46 (.mov (tm 2)),
 o1 47 (.indexArr 16 1 (tm 7) (tm 46)),
 o1 48 (.load none (tm 47)),
 o1 49 (.mov (tm 3)),
 o1 50 (.indexArr 16 1 (tm 7) (tm 49)),
 o1 51 (.load none (tm 50)),
 o1 52 (.bin .xor (so (.binOp .xor 151 (tm 48) (tm 51) 151) 151) (tm 48) (tm 51)),
 ⟨some 53, .callV (.func 177) [(tm 52), (.const (.int .u64 12))], none, [(some 45, .mov (tm 2), none)], false⟩,
 o2 54 (.indexArr 16 1 (tm 7) (tm 45)),
 ⟨none, .store 1 (tm 54) (tm 53), none, [], true⟩]) (.seq (.regionD [
 o1 55 (.mov (tm 1)),
 o1 56 (.mov (tm 1)),
 o1 57 (.indexArr 16 1 (tm 7) (tm 56)),
 o1 58 (.load none (tm 57)),
 o1 59 (.mov (tm 2)),
 o1 60 (.indexArr 16 1 (tm 7) (tm 59)),
 o1 61 (.load none (tm 60)),
 o1 62 (.bin .add (so (.binOp .add 151 (tm 58) (tm 61) 151) 151) (tm 58) (tm 61)),
 o1 63 (.mov (tm 6)),
 o1 64 (.bin .add (so (.binOp .add 151 (tm 62) (tm 63) 151) 151) (tm 62) (tm 63)),
 o2 65 (.indexArr 16 1 (tm 7) (tm 55)),
 ⟨none, .store 1 (tm 65) (tm 64), none, [], true⟩]) (.seq (.regionD [
 o1 66 (.mov (tm 4)),
 o1 67 (.mov (tm 4)),
 o1 68 (.indexArr 16 1 (tm 7) (tm 67)),
 o1 69 (.load none (tm 68)),
 o1 70 (.mov (tm 1)),
 o1 71 (.indexArr 16 1 (tm 7) (tm 70)),
 o1 72 (.load none (tm 71)),
 o1 73 (.bin .xor (so (.binOp .xor 151 (tm 69) (tm 72) 151) 151) (tm 69) (tm 72)),
 ⟨some 74, .callV (.func 177) [(tm 73), (.const (.int .u64 8))], none, [(some 66, .mov (tm 4), none)], false⟩,
 o2 75 (.indexArr 16 1 (tm 7) (tm 66)),
 ⟨none, .store 1 (tm 75) (tm 74), none, [], true⟩]) (.seq (.regionD [
 o1 76 (.mov (tm 3)),
 o1 77 (.mov (tm 3)),
 o1 78 (.indexArr 16 1 (tm 7) (tm 77)),
 o1 79 (.load none (tm 78)),
 o1 80 (.mov (tm 4)),
 o1 81 (.indexArr 16 1 (tm 7) (tm 80)),
 o1 82 (.load none (tm 81)),
 o1 83 (.bin .add (so (.binOp .add 151 (tm 79) (tm 82) 151) 151) (tm 79) (tm 82)),
 o2 84 (.indexArr 16 1 (tm 7) (tm 76)),
 ⟨none, .store 1 (tm 84) (tm 83), none, [], true⟩]) (.seq (.regionD [
 o1 85 (.mov (tm 2)),
 o1 86 (.mov (tm 2)),
 o1 87 (.indexArr 16 1 (tm 7) (tm 86)),
 o1 88 (.load none (tm 87)),
 o1 89 (.mov (tm 3)),
 o1 90 (.indexArr 16 1 (tm 7) (tm 89)),
 o1 91 (.load none (tm 90)),
 o1 92 (.bin .xor (so (.binOp .xor 151 (tm 88) (tm 91) 151) 151) (tm 88) (tm 91)),
 ⟨some 93, .callV (.func 177) [(tm 92), (.const (.int .u64 7))], none, [(some 85, .mov (tm 2), none)], false⟩,
 o2 94 (.indexArr 16 1 (tm 7) (tm 85)),
 ⟨none, .store 1 (tm 94) (tm 93), none, [], true⟩]) (.seq (.region [
 o1 95 (.load (some 16) (tm 7)),
 o3 (.store 16 (tm 14) (tm 95))]) .ret))))))))))
def znbQ : AFunc := ⟨96, [(14, some (some 16))], znbQ_c, none⟩
theorem znbQ_t0 : tableOf Tryz.prog 164 = some znbQ := by kernel_rfl
theorem znbQ_t : T0 164 = some znbQ := withKept_t rfl (withTrue_t rfl znbQ_t0)
theorem znbQ_runs {v0 v1 v2 v3 v4 v5 v6 : Value} {h : Heap} {R : RP} {X : XP} (k : RunC Tryz.prog T0 znbQ_c ⟨[v0, v1, v2, v3, v4, v5, v6, U, U, U, U, U, U, U, U, U, U, U, U, U, U, U, U, U, U, U, U, U, U, U, U, U, U, U, U, U, U, U, U, U, U, U, U, U, U, U, U, U, U, U, U, U, U, U, U, U, U, U, U, U, U, U, U, U, U, U, U, U, U, U, U, U, U, U, U, U, U, U, U, U, U, U, U, U, U, U, U, U, U, U, U, U, U, U, U, U], [], h, none⟩ (bodyQ Tryz.prog T0 [(14, some (some 16))] R X)) :
 Runs Tryz.prog T0 (.fn 164) [v0, v1, v2, v3, v4, v5, v6] h R X := Runs.fn znbQ_t rfl k
abbrev fn_zvQ : FuncId := 167
def zvQ_c : ACode :=
 (.seq (.region [
 o1 1 (.box 25 (tm 0)),
 o1 2 (.mov (.const (.bool false)))]) (.seq (.region [
 o1 3 (.fieldAddr 0 (tm 1)),
 o1 4 (.load none (tm 3)),
 o1 5 (.callV (.func 168) [(tm 4)]),
 o1 2 (.mov (tm 5))]) .ret))
def zvQ : AFunc := ⟨6, [(2, none)], zvQ_c, none⟩
theorem zvQ_t0 : tableOf Tryz.prog 167 = some zvQ := by kernel_rfl
theorem zvQ_t : T0 167 = some zvQ := withKept_t rfl (withTrue_t rfl zvQ_t0)
theorem zvQ_runs {v0 : Value} {h : Heap} {R : RP} {X : XP} (k : RunC Tryz.prog T0 zvQ_c ⟨[v0, U, U, U, U, U], [], h, none⟩ (bodyQ Tryz.prog T0 [(2, none)] R X)) :
 Runs Tryz.prog T0 (.fn 167) [v0] h R X := Runs.fn zvQ_t rfl k
abbrev fn_zqQ : FuncId := 168
def zqQ_c : ACode :=
 (.seq (.region [
 o1 2 (.mov (.const (.bool false)))]) (.seq (.region [
 o1 3 (.mov (tm 0)),
 o1 4 (.lenStr (tm 3)),
 o1 5 (.bin .geq (so (.binOp .geq 3 (tm 4) (.const (.int .i64 1)) 3) 4) (tm 4) (.const (.int .i64 1))),
 o1 6 (.mov (tm 5)),
 o4 7 (.mov (tm 0)) 6,
 o4 8 (.lenStr (tm 7)) 6,
 o4 9 (.bin .leq (so (.binOp .leq 3 (tm 8) (.const (.int .i64 32)) 3) 4) (tm 8) (.const (.int .i64 32))) 6,
 o1 10 (.pick (tm 6) (tm 9) (.const (.bool false))),
 o1 11 (.mov (tm 10)),
 o4 12 (.mov (tm 0)) 11,
 o4 13 (.callV (.func 178) [(tm 12), (.func 179)]) 11,
 o1 14 (.pick (tm 11) (tm 13) (.const (.bool false))),
 o1 2 (.mov (tm 14))]) .ret))
def zqQ : AFunc := ⟨15, [(2, none)], zqQ_c, none⟩
theorem zqQ_t0 : tableOf Tryz.prog 168 = some zqQ := by kernel_rfl
theorem zqQ_t : T0 168 = some zqQ := withKept_t rfl (withTrue_t rfl zqQ_t0)
theorem zqQ_runs {v0 : Value} {h : Heap} {R : RP} {X : XP} (k : RunC Tryz.prog T0 zqQ_c ⟨[v0, U, U, U, U, U, U, U, U, U, U, U, U, U, U], [], h, none⟩ (bodyQ Tryz.prog T0 [(2, none)] R X)) :
 Runs Tryz.prog T0 (.fn 168) [v0] h R X := Runs.fn zqQ_t rfl k
abbrev fn_zwQ : FuncId := 169
def zwQ_c : ACode :=
 (.seq (.region [
 o1 1 (.box 25 (tm 0)),
 o1 2 (.mov (.const (.bool false)))]) (.seq (.region [
 o1 3 (.fieldAddr 1 (tm 1)),
 o1 4 (.load none (tm 3)),
 o1 5 (.bin .geq (so (.binOp .geq 3 (tm 4) (.const (.int .i64 1)) 3) 4) (tm 4) (.const (.int .i64 1))),
 o1 6 (.mov (tm 5)),
 o4 7 (.fieldAddr 1 (tm 1)) 6,
 o4 8 (.load none (tm 7)) 6,
 o4 9 (.bin .leq (so (.binOp .leq 3 (tm 8) (.const (.int .i64 1073741824)) 3) 4) (tm 8) (.const (.int .i64 1073741824))) 6,
 o1 10 (.pick (tm 6) (tm 9) (.const (.bool false))),
 o1 2 (.mov (tm 10))]) .ret))
def zwQ : AFunc := ⟨11, [(2, none)], zwQ_c, none⟩
theorem zwQ_t0 : tableOf Tryz.prog 169 = some zwQ := by kernel_rfl
theorem zwQ_t : T0 169 = some zwQ := withKept_t rfl (withTrue_t rfl zwQ_t0)
theorem zwQ_runs {v0 : Value} {h : Heap} {R : RP} {X : XP} (k : RunC Tryz.prog T0 zwQ_c ⟨[v0, U, U, U, U, U, U, U, U, U, U], [], h, none⟩ (bodyQ Tryz.prog T0 [(2, none)] R X)) :
 Runs Tryz.prog T0 (.fn 169) [v0] h R X := Runs.fn zwQ_t rfl k
abbrev fn_zxQ : FuncId := 170
def zxQ_c : ACode :=
 (.seq (.region [
 o1 1 (.box 25 (tm 0)),
 o1 2 (.mov (.const (.bool false)))]) (.seq (.region [
 o1 3 (.fieldAddr 2 (tm 1)),
 o1 4 (.load none (tm 3)),
 o1 5 (.bin .geq (so (.binOp .geq 3 (tm 4) k0 3) 4) (tm 4) k0),
 o1 6 (.mov (tm 5)),
 o4 7 (.fieldAddr 2 (tm 1)) 6,
 o4 8 (.load none (tm 7)) 6,
 o4 9 (.bin .leq (so (.binOp .leq 3 (tm 8) (.const (.int .i64 1099511627776)) 3) 4) (tm 8) (.const (.int .i64 1099511627776))) 6,
 o1 10 (.pick (tm 6) (tm 9) (.const (.bool false))),
 o1 2 (.mov (tm 10))]) .ret))
def zxQ : AFunc := ⟨11, [(2, none)], zxQ_c, none⟩
theorem zxQ_t0 : tableOf Tryz.prog 170 = some zxQ := by kernel_rfl
theorem zxQ_t : T0 170 = some zxQ := withKept_t rfl (withTrue_t rfl zxQ_t0)
theorem zxQ_runs {v0 : Value} {h : Heap} {R : RP} {X : XP} (k : RunC Tryz.prog T0 zxQ_c ⟨[v0, U, U, U, U, U, U, U, U, U, U], [], h, none⟩ (bodyQ Tryz.prog T0 [(2, none)] R X)) :
 Runs Tryz.prog T0 (.fn 170) [v0] h R X := Runs.fn zxQ_t rfl k
abbrev fn_zncQ : FuncId := 172
def zncQ_c : ACode :=
 (.seq (.region [
 o1 4 (.mov (.const (.slice none 0 0)))]) (.seq (.seq (.region [
 o1 5 (.mov (tm 1)),
 o1 6 (.bin .lss (so (.binOp .lss 3 (tm 5) k0 3) 4) (tm 5) k0)]) (.cond (tm 6)
 (.region [
 o1 7 (.mkIface 9 (.const (.string ⟨⟨[99, 97, 110, 110, 111, 116, 32, 98, 101, 32, 110, 101, 103, 97, 116, 105, 118, 101]⟩⟩))),
 o3 (.panic (tm 7))])
 .skip)) (.seq (.seq (.region [
 o1 8 (.mov (tm 1)),
 o1 9 (.mov (tm 0)),
 o1 10 (.cap (tm 9)),
 o1 11 (.mov (tm 0)),
 o1 12 (.lenSl (tm 11)),
 o1 13 (.bin .sub (so (.binOp .sub 3 (tm 10) (tm 12) 3) 3) (tm 10) (tm 12)),
 o1 14 (.bin .sub (so (.binOp .sub 3 (tm 8) (tm 13) 3) 3) (tm 8) (tm 13)),
 o1 1 (.mov (tm 14))]) (.seq (.region [
 o1 15 (.mov (tm 1)),
 o1 16 (.bin .gtr (so (.binOp .gtr 3 (tm 15) k0 3) 4) (tm 15) k0)]) (.cond (tm 16)
 (.region [
 o1 17 (.mov (tm 0)),
 o1 18 (.mov (tm 0)),
 o1 19 (.cap (tm 18)),
 o1 20 (.sliceSl 1 (tm 17) none (some (tm 19)) none),
 o1 21 (.mov (tm 1)),
 o1 22 (.append 5 1 1 [(.int .u8 0)] true (tm 20) (tm 21)),
 o1 23 (.mov (tm 0)),
 o1 24 (.lenSl (tm 23)),
 o1 25 (.sliceSl 1 (tm 22) none (some (tm 24)) none),
 o1 0 (.mov (tm 25))])
 .skip))) (.seq (.region [
 o1 26 (.mov (tm 0)),
 o1 4 (.mov (tm 26))]) .ret))))
def zncQ : AFunc := ⟨27, [(4, none)], zncQ_c, none⟩
theorem zncQ_t0 : tableOf Tryz.prog 172 = some zncQ := by kernel_rfl
theorem zncQ_t : T0 172 = some zncQ := withKept_t rfl (withTrue_t rfl zncQ_t0)
theorem zncQ_runs {v0 v1 : Value} {h : Heap} {R : RP} {X : XP} (k : RunC Tryz.prog T0 zncQ_c ⟨[v0, v1, U, U, U, U, U, U, U, U, U, U, U, U, U, U, U, U, U, U, U, U, U, U, U, U, U], [], h, none⟩ (bodyQ Tryz.prog T0 [(4, none)] R X)) :
 Runs Tryz.prog T0 (.fn 172) [v0, v1] h R X := Runs.fn zncQ_t rfl k
abbrev fn_zpbQ : FuncId := 177
def zpbQ_c : ACode :=
 (.seq (.region [
 o1 4 (.mov (.const (.int .u32 0)))]) (.seq (.region [
 o1 5 (.mov (tm 0)),
 o1 6 (.mov (tm 1)),
 o1 7 (.bin .shr (so (.binOp .shr 151 (tm 5) (tm 6) 155) 151) (tm 5) (tm 6)),
 o1 8 (.mov (tm 0)),
 o1 9 (.mov (tm 1)),
 o1 10 (.bin .sub (so (.binOp .sub 155 (.const (.int .u64 32)) (tm 9) 155) 155) (.const (.int .u64 32)) (tm 9)),
 o1 11 (.bin .shl (so (.binOp .shl 151 (tm 8) (tm 10) 155) 151) (tm 8) (tm 10)),
 o1 12 (.bin .or (so (.binOp .or 151 (tm 7) (tm 11) 151) 151) (tm 7) (tm 11)),
 o1 4 (.mov (tm 12))]) .ret))
def zpbQ : AFunc := ⟨13, [(4, none)], zpbQ_c, none⟩
theorem zpbQ_t0 : tableOf Tryz.prog 177 = some zpbQ := by kernel_rfl
theorem zpbQ_t : T0 177 = some zpbQ := withKept_t rfl (withTrue_t rfl zpbQ_t0)
theorem zpbQ_runs {v0 v1 : Value} {h : Heap} {R : RP} {X : XP} (k : RunC Tryz.prog T0 zpbQ_c ⟨[v0, v1, U, U, U, U, U, U, U, U, U, U, U], [], h, none⟩ (bodyQ Tryz.prog T0 [(4, none)] R X)) :
 Runs Tryz.prog T0 (.fn 177) [v0, v1] h R X := Runs.fn zpbQ_t rfl k
abbrev fn_zrQ : FuncId := 178
def zrQ_l0 : ACode :=
 (.seq (.region [
 o1 9 (.nextStr (tm 8)),
 o1 10 (.extract 0 (tm 9))]) (.seq (.cond (tm 10)
 .skip
 (.exit 0)) (.block 1 (.seq (.region [
 o1 11 (.extract 2 (tm 9)),
 o1 6 (.mov (tm 11))]) (.seq (.region [
 o1 12 (.mov (tm 1)),
 o1 13 (.mov (tm 6)),
 o1 14 (.callV (tm 12) [(tm 13)]),
 o1 15 (.raw (so (.unOp .not 4 (tm 14)) 4))]) (.cond (tm 15)
 (.seq (.region [
 o1 4 (.mov (.const (.bool false)))]) .ret)
 .skip))))))
def zrQ_c : ACode :=
 (.seq (.region [
 o1 4 (.mov (.const (.bool false)))]) (.seq (.seq (.region [
 o1 7 (.mov (tm 0)),
 o1 8 (.rangeStr (tm 7))]) (.block 0 (.loop zrQ_l0))) (.seq (.region [
 o1 4 (.mov (.const (.bool true)))]) .ret)))
def zrQ : AFunc := ⟨16, [(4, none)], zrQ_c, none⟩
theorem zrQ_t0 : tableOf Tryz.prog 178 = some zrQ := by kernel_rfl
theorem zrQ_t : T0 178 = some zrQ := withKept_t rfl (withTrue_t rfl zrQ_t0)
theorem zrQ_runs {v0 v1 : Value} {h : Heap} {R : RP} {X : XP} (k : RunC Tryz.prog T0 zrQ_c ⟨[v0, v1, U, U, U, U, U, U, U, U, U, U, U, U, U, U], [], h, none⟩ (bodyQ Tryz.prog T0 [(4, none)] R X)) :
 Runs Tryz.prog T0 (.fn 178) [v0, v1] h R X := Runs.fn zrQ_t rfl k
def zrQ_l0_J (f0 f1 f2 f3 f5 f7 f8 : Value) (ds : List Deferred) (rd : Option Nat) (I : Nat → Heap → Prop) (m : Nat) (s : St) : Prop := ∃ h : Heap, ∃ (x4 x6 x9 x10 x11 x12 x13 x14 x15 : Value), s = ⟨[f0, f1, f2, f3, x4, f5, x6, f7, f8, x9, x10, x11, x12, x13, x14, x15], ds, h, rd⟩ ∧ I m  h
theorem zrQ_l0_rule {f0 f1 f2 f3 f5 f7 f8 : Value} {ds : List Deferred} {rd : Option Nat} {Q : QP} (I : Nat → Heap → Prop) (hb : ∀ (m : Nat) (h : Heap) (x4 x6 x9 x10 x11 x12 x13 x14 x15 : Value) , I m  h → RunC Tryz.prog T0 zrQ_l0 ⟨[f0, f1, f2, f3, x4, f5, x6, f7, f8, x9, x10, x11, x12, x13, x14, x15], ds, h, rd⟩ (loopQ (zrQ_l0_J f0 f1 f2 f3 f5 f7 f8 ds rd I) m Q))
 (m : Nat) {v : Value} {h : Heap} {x4 x6 x9 x10 x11 x12 x13 x14 x15 : Value} (hi : I m  h) : RunC Tryz.prog T0 (.loop zrQ_l0) ⟨[f0, f1, f2, f3, x4, f5, x6, f7, f8, x9, x10, x11, x12, x13, x14, x15], ds, h, rd⟩ Q :=
 RunC.loopJ (zrQ_l0_J f0 f1 f2 f3 f5 f7 f8 ds rd I) (fun m s hj => by obtain ⟨h, x4, x6, x9, x10, x11, x12, x13, x14, x15, rfl, hi⟩ := hj; exact hb m  h x4 x6 x9 x10 x11 x12 x13 x14 x15 hi) m _ ⟨h, _, _, _, _, _, _, _, _, _, rfl, hi⟩
theorem zrQ_l0_again {f0 f1 f2 f3 f5 f7 f8 : Value} {ds : List Deferred} {rd : Option Nat} {Q : QP} {I : Nat → Heap → Prop} {m : Nat} (m' : Nat) {v : Value} {h : Heap} {x4 x6 x9 x10 x11 x12 x13 x14 x15 : Value} (hm : m' < m) (hi : I m'  h) : loopQ (zrQ_l0_J f0 f1 f2 f3 f5 f7 f8 ds rd I) m Q .normal ⟨[f0, f1, f2, f3, x4, f5, x6, f7, f8, x9, x10, x11, x12, x13, x14, x15], ds, h, rd⟩ :=
 loopQ.again m' hm ⟨h, _, _, _, _, _, _, _, _, _, rfl, hi⟩
abbrev fn_ztQ : FuncId := 179
def ztQ_c : ACode :=
 (.seq (.region [
 o1 2 (.mov (.const (.bool false)))]) (.seq (.region [
 o1 3 (.mov (tm 0)),
 o1 4 (.bin .geq (so (.binOp .geq 21 (tm 3) (.const (.int .i32 97)) 21) 4) (tm 3) (.const (.int .i32 97))),
 o1 5 (.mov (tm 4)),
 o4 6 (.mov (tm 0)) 5,
 o4 7 (.bin .leq (so (.binOp .leq 21 (tm 6) (.const (.int .i32 122)) 21) 4) (tm 6) (.const (.int .i32 122))) 5,
 o1 8 (.pick (tm 5) (tm 7) (.const (.bool false))),
 o1 9 (.mov (tm 8)),
 o5 10 (.mov (tm 0)) 9,
 o5 11 (.bin .geq (so (.binOp .geq 21 (tm 10) (.const (.int .i32 48)) 21) 4) (tm 10) (.const (.int .i32 48))) 9,
 o5 12 (.mov (tm 11)) 9,
 o4 13 (.mov (tm 0)) 12,
 o4 14 (.bin .leq (so (.binOp .leq 21 (tm 13) (.const (.int .i32 57)) 21) 4) (tm 13) (.const (.int .i32 57))) 12,
 o5 15 (.pick (tm 12) (tm 14) (.const (.bool false))) 9,
 o1 16 (.pick (tm 9) (.const (.bool true)) (tm 15)),
 o1 17 (.mov (tm 16)),
 o5 18 (.mov (tm 0)) 17,
 o5 19 (.bin .eql (so (.binOp .eql 21 (tm 18) (.const (.int .i32 45)) 21) 4) (tm 18) (.const (.int .i32 45))) 17,
 o1 20 (.pick (tm 17) (.const (.bool true)) (tm 19)),
 o1 2 (.mov (tm 20))]) .ret))
def ztQ : AFunc := ⟨21, [(2, none)], ztQ_c, none⟩
theorem ztQ_t0 : tableOf Tryz.prog 179 = some ztQ := by kernel_rfl
theorem ztQ_t : T0 179 = some ztQ := withKept_t rfl (withTrue_t rfl ztQ_t0)
theorem ztQ_runs {v0 : Value} {h : Heap} {R : RP} {X : XP} (k : RunC Tryz.prog T0 ztQ_c ⟨[v0, U, U, U, U, U, U, U, U, U, U, U, U, U, U, U, U, U, U, U, U], [], h, none⟩ (bodyQ Tryz.prog T0 [(2, none)] R X)) :
 Runs Tryz.prog T0 (.fn 179) [v0] h R X := Runs.fn ztQ_t rfl k
end Go.Proofs.YtbmpalbdbcjieaaGreat.A
