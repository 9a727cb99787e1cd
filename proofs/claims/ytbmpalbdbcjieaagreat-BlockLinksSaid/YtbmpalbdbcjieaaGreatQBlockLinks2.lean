/- Contracts of functions, over the machine. -/
import Derived.Test.YtbmpalbdbcjieaaGreatQBlockLinks1
import Derived.Test.YtbmpalbdbcjieaaGreatRows
import Derived.Test.YtbmpalbdbcjieaaGreatVJ
import Derived.Test.YtbmpalbdbcjieaaGreatVK
noncomputable section
set_option maxRecDepth 100000
set_option linter.unusedVariables false
namespace Go.Proofs.YtbmpalbdbcjieaaGreat.A
open Go Go.Vm
abbrev ty_internal_abi_BoundsErrorCode : TypeId := 6
abbrev ty_runtime_boundsError : TypeId := 8
abbrev ty_runtime_errorString : TypeId := 10
abbrev ty_runtime_plainError : TypeId := 11
abbrev ty_runtime_errorAddressString : TypeId := 14
abbrev ty_internal_runtime_maps_unhashableTypeError : TypeId := 19
abbrev ty_api_Hash : TypeId := 23
abbrev ty_api_Header : TypeId := 25
abbrev ty_api_Commit : TypeId := 31
abbrev ty_api_Block : TypeId := 33
abbrev ty_api_Errno : TypeId := 34
abbrev ty_api_Fault : TypeId := 44
abbrev ty_api_Key : TypeId := 64
abbrev ty_api_Validator : TypeId := 66
abbrev ty_lr04_Reader : TypeId := 83
abbrev ty_iter_Seq_api_Errno_ : TypeId := 91
abbrev ty_api_Vote : TypeId := 109
abbrev ty_wire_Reader : TypeId := 115
abbrev ty_wire_Writer : TypeId := 137
abbrev ty_vals_look : TypeId := 143
abbrev ty_lr04_Writer : TypeId := 147
abbrev ty_header_rule : TypeId := 168
abbrev ty_blake_words : TypeId := 189
abbrev ty_blake_counter : TypeId := 193
abbrev ty_blake_State : TypeId := 195
abbrev ty_wire_wrong : TypeId := 203
abbrev ty_blake_four : TypeId := 211
abbrev ty_runtime_TypeAssertionError : TypeId := 222
abbrev ty_runtime_PanicNilError : TypeId := 225
abbrev ty_internal_abi_TFlag : TypeId := 226
abbrev ty_internal_abi_Kind : TypeId := 227
abbrev ty_internal_abi_NameOff : TypeId := 230
abbrev ty_internal_abi_TypeOff : TypeId := 231
abbrev ty_internal_abi_Type : TypeId := 233
instance : IsIface Tryz.prog 20 := ⟨by kernel_rfl⟩
abbrev prims : List FuncId := [7]
abbrev kepts : List FuncId := []
def T0 : Table := withKept (withTrue Tryz.prog prims) kepts
theorem zfcQ_known {h : Heap} : Runs Tryz.prog T0 (.fn 7) [] h (fun r h' => r = .bool true ∧ h' = h) (fun _ _ => False) := known_runs rfl
instance : IsBoolT Tryz.prog 4 := ⟨by kernel_rfl⟩
instance : TLeaves Tryz.prog 7 (.i .i64 :: (.i .i64 :: (.b :: (.i .u8 :: [])))) := ⟨by kernel_rfl, by kernel_rfl, by kernel_rfl⟩
instance : TLeaves Tryz.prog 8 (.i .i64 :: (.i .i64 :: (.b :: (.i .u8 :: [])))) := ⟨by kernel_rfl, by kernel_rfl, by kernel_rfl⟩
instance : TLeaves Tryz.prog 22 (u8s 32) := ⟨by kernel_rfl, by kernel_rfl, by kernel_rfl⟩
instance : TLeaves Tryz.prog 23 (u8s 32) := ⟨by kernel_rfl, by kernel_rfl, by kernel_rfl⟩
instance : TLeaves Tryz.prog 24 (.s :: (.i .i64 :: (.i .i64 :: (u8s 32 ++ (u8s 32 ++ (u8s 32 ++ (u8s 32))))))) := ⟨by kernel_rfl, by kernel_rfl, by kernel_rfl⟩
instance : TLeaves Tryz.prog 25 (.s :: (.i .i64 :: (.i .i64 :: (u8s 32 ++ (u8s 32 ++ (u8s 32 ++ (u8s 32))))))) := ⟨by kernel_rfl, by kernel_rfl, by kernel_rfl⟩
instance : TLeaves Tryz.prog 43 (.i .i64 :: (.i .i64 :: [])) := ⟨by kernel_rfl, by kernel_rfl, by kernel_rfl⟩
instance : TLeaves Tryz.prog 44 (.i .i64 :: (.i .i64 :: [])) := ⟨by kernel_rfl, by kernel_rfl, by kernel_rfl⟩
instance : TLeaves Tryz.prog 63 (u8s 4) := ⟨by kernel_rfl, by kernel_rfl, by kernel_rfl⟩
instance : TLeaves Tryz.prog 64 (u8s 4) := ⟨by kernel_rfl, by kernel_rfl, by kernel_rfl⟩
instance : TLeaves Tryz.prog 65 (u8s 4 ++ (.i .i64 :: [])) := ⟨by kernel_rfl, by kernel_rfl, by kernel_rfl⟩
instance : TLeaves Tryz.prog 66 (u8s 4 ++ (.i .i64 :: [])) := ⟨by kernel_rfl, by kernel_rfl, by kernel_rfl⟩
instance : TLeaves Tryz.prog 108 (.i .i64 :: (.i .u64 :: [])) := ⟨by kernel_rfl, by kernel_rfl, by kernel_rfl⟩
instance : TLeaves Tryz.prog 109 (.i .i64 :: (.i .u64 :: [])) := ⟨by kernel_rfl, by kernel_rfl, by kernel_rfl⟩
instance : TLeaves Tryz.prog 142 (u8s 4 ++ (.b :: (.i .i64 :: (.i .i64 :: [])))) := ⟨by kernel_rfl, by kernel_rfl, by kernel_rfl⟩
instance : TLeaves Tryz.prog 143 (u8s 4 ++ (.b :: (.i .i64 :: (.i .i64 :: [])))) := ⟨by kernel_rfl, by kernel_rfl, by kernel_rfl⟩
instance : TLeaves Tryz.prog 152 (.i .u32 :: (.i .u32 :: (.i .u32 :: (.i .u32 :: (.i .u32 :: (.i .u32 :: (.i .u32 :: (.i .u32 :: [])))))))) := ⟨by kernel_rfl, by kernel_rfl, by kernel_rfl⟩
instance : TLeaves Tryz.prog 181 (u8s 4 ++ (u8s 4)) := ⟨by kernel_rfl, by kernel_rfl, by kernel_rfl⟩
instance : TLeaves Tryz.prog 185 (u8s 4 ++ (u8s 4 ++ (.i .u8 :: []))) := ⟨by kernel_rfl, by kernel_rfl, by kernel_rfl⟩
instance : TLeaves Tryz.prog 189 (.i .u32 :: (.i .u32 :: (.i .u32 :: (.i .u32 :: (.i .u32 :: (.i .u32 :: (.i .u32 :: (.i .u32 :: [])))))))) := ⟨by kernel_rfl, by kernel_rfl, by kernel_rfl⟩
instance : TLeaves Tryz.prog 192 (.i .i64 :: []) := ⟨by kernel_rfl, by kernel_rfl, by kernel_rfl⟩
instance : TLeaves Tryz.prog 193 (.i .i64 :: []) := ⟨by kernel_rfl, by kernel_rfl, by kernel_rfl⟩
instance : TLeaves Tryz.prog 198 (.i .u32 :: (.i .u32 :: (.i .u32 :: (.i .u32 :: (.i .u32 :: (.i .u32 :: (.i .u32 :: (.i .u32 :: (.i .u32 :: (.i .u32 :: (.i .u32 :: (.i .u32 :: (.i .u32 :: (.i .u32 :: (.i .u32 :: (.i .u32 :: [])))))))))))))))) := ⟨by kernel_rfl, by kernel_rfl, by kernel_rfl⟩
instance : TLeaves Tryz.prog 199 (.i .i64 :: (.i .i64 :: (.i .i64 :: (.i .i64 :: (.i .i64 :: (.i .i64 :: (.i .i64 :: (.i .i64 :: (.i .i64 :: (.i .i64 :: (.i .i64 :: (.i .i64 :: (.i .i64 :: (.i .i64 :: (.i .i64 :: (.i .i64 :: [])))))))))))))))) := ⟨by kernel_rfl, by kernel_rfl, by kernel_rfl⟩
instance : TLeaves Tryz.prog 202 (.i .i64 :: (.i .i64 :: [])) := ⟨by kernel_rfl, by kernel_rfl, by kernel_rfl⟩
instance : TLeaves Tryz.prog 203 (.i .i64 :: (.i .i64 :: [])) := ⟨by kernel_rfl, by kernel_rfl, by kernel_rfl⟩
instance : TLeaves Tryz.prog 212 (.i .i64 :: (.i .i64 :: (.i .i64 :: (.i .i64 :: (.i .i64 :: (.i .i64 :: (.i .i64 :: (.i .i64 :: (.i .i64 :: (.i .i64 :: (.i .i64 :: (.i .i64 :: (.i .i64 :: (.i .i64 :: (.i .i64 :: (.i .i64 :: (.i .i64 :: (.i .i64 :: (.i .i64 :: (.i .i64 :: (.i .i64 :: (.i .i64 :: (.i .i64 :: (.i .i64 :: (.i .i64 :: (.i .i64 :: (.i .i64 :: (.i .i64 :: (.i .i64 :: (.i .i64 :: (.i .i64 :: (.i .i64 :: (.i .i64 :: (.i .i64 :: (.i .i64 :: (.i .i64 :: (.i .i64 :: (.i .i64 :: (.i .i64 :: (.i .i64 :: (.i .i64 :: (.i .i64 :: (.i .i64 :: (.i .i64 :: (.i .i64 :: (.i .i64 :: (.i .i64 :: (.i .i64 :: (.i .i64 :: (.i .i64 :: (.i .i64 :: (.i .i64 :: (.i .i64 :: (.i .i64 :: (.i .i64 :: (.i .i64 :: (.i .i64 :: (.i .i64 :: (.i .i64 :: (.i .i64 :: (.i .i64 :: (.i .i64 :: (.i .i64 :: (.i .i64 :: (.i .i64 :: (.i .i64 :: (.i .i64 :: (.i .i64 :: (.i .i64 :: (.i .i64 :: (.i .i64 :: (.i .i64 :: (.i .i64 :: (.i .i64 :: (.i .i64 :: (.i .i64 :: (.i .i64 :: (.i .i64 :: (.i .i64 :: (.i .i64 :: (.i .i64 :: (.i .i64 :: (.i .i64 :: (.i .i64 :: (.i .i64 :: (.i .i64 :: (.i .i64 :: (.i .i64 :: (.i .i64 :: (.i .i64 :: (.i .i64 :: (.i .i64 :: (.i .i64 :: (.i .i64 :: (.i .i64 :: (.i .i64 :: (.i .i64 :: (.i .i64 :: (.i .i64 :: (.i .i64 :: (.i .i64 :: (.i .i64 :: (.i .i64 :: (.i .i64 :: (.i .i64 :: (.i .i64 :: (.i .i64 :: (.i .i64 :: (.i .i64 :: (.i .i64 :: (.i .i64 :: (.i .i64 :: (.i .i64 :: (.i .i64 :: (.i .i64 :: (.i .i64 :: (.i .i64 :: (.i .i64 :: (.i .i64 :: (.i .i64 :: (.i .i64 :: (.i .i64 :: (.i .i64 :: (.i .i64 :: (.i .i64 :: (.i .i64 :: (.i .i64 :: (.i .i64 :: (.i .i64 :: (.i .i64 :: (.i .i64 :: (.i .i64 :: (.i .i64 :: (.i .i64 :: (.i .i64 :: (.i .i64 :: (.i .i64 :: (.i .i64 :: (.i .i64 :: (.i .i64 :: (.i .i64 :: (.i .i64 :: (.i .i64 :: (.i .i64 :: (.i .i64 :: (.i .i64 :: (.i .i64 :: (.i .i64 :: (.i .i64 :: (.i .i64 :: (.i .i64 :: (.i .i64 :: (.i .i64 :: (.i .i64 :: (.i .i64 :: (.i .i64 :: (.i .i64 :: (.i .i64 :: (.i .i64 :: (.i .i64 :: [])))))))))))))))))))))))))))))))))))))))))))))))))))))))))))))))))))))))))))))))))))))))))))))))))))))))))))))))))))))))))))))))))))))))))))))))))))))))))))))))) := ⟨by kernel_rfl, by kernel_rfl, by kernel_rfl⟩
abbrev fn_zecQ : FuncId := 6
def zecQ_c : ACode :=
 (.seq (.region [
 o1 2 (.box 33 (tm 0)),
 o1 3 (.box 33 (tm 1)),
 o1 4 (.mov (.const (.bool false)))]) (.seq (.seq (.region [
 o1 16 (.load (some 166) (tm 2)),
 o1 17 (.callV (.func 26) [(tm 16)]),
 o1 18 (.mov (tm 17)),
 o5 19 (.load (some 166) (tm 3)) 18,
 o5 20 (.callV (.func 26) [(tm 19)]) 18,
 o1 21 (.pick (tm 18) (.const (.bool true)) (tm 20))]) (.cond (tm 21)
 (.seq (.region [
 o1 22 (.callV (.func 7) []),
 o1 4 (.mov (tm 22))]) .ret)
 .skip)) (.seq (.regionM [[
 o1 23 (.load (some 166) (tm 2)),
 o1 25 (.load (some 166) (tm 3)),
 ⟨some 24, .callV (.func 20) [(tm 23)], none, [(some 25, .load (some 166) (tm 3), none)], false⟩,
 o2 26 (.callV (.func 20) [(tm 25)]),
 ⟨some 5, .alloc 33 ((.string ⟨⟨[]⟩⟩) :: ((.int .i64 0) :: ((.int .i64 0) :: (z32 ++ (z32 ++ (z32 ++ (z32 ++ ((.int .i64 0) :: (z32 ++ [(.slice none 0 0), (.slice none 0 0)]))))))))), none, [(some 25, .load (some 166) (tm 3), none), (some 23, .load (some 166) (tm 2), none)], false⟩,
 ⟨some 6, .alloc 33 ((.string ⟨⟨[]⟩⟩) :: ((.int .i64 0) :: ((.int .i64 0) :: (z32 ++ (z32 ++ (z32 ++ (z32 ++ ((.int .i64 0) :: (z32 ++ [(.slice none 0 0), (.slice none 0 0)]))))))))), none, [(some 25, .load (some 166) (tm 3), none), (some 23, .load (some 166) (tm 2), none)], false⟩,
 ⟨none, .store 166 (tm 5) (tm 24), none, [], true⟩,
 ⟨none, .store 166 (tm 6) (tm 26), none, [], true⟩],
 [
 o1 23 (.load (some 166) (tm 2)),
 o1 25 (.load (some 166) (tm 3)),
 ⟨some 24, .callV (.func 20) [(tm 23)], none, [(some 25, .load (some 166) (tm 3), none)], false⟩,
 o2 26 (.callV (.func 20) [(tm 25)]),
 ⟨some 6, .alloc 33 ((.string ⟨⟨[]⟩⟩) :: ((.int .i64 0) :: ((.int .i64 0) :: (z32 ++ (z32 ++ (z32 ++ (z32 ++ ((.int .i64 0) :: (z32 ++ [(.slice none 0 0), (.slice none 0 0)]))))))))), none, [(some 25, .load (some 166) (tm 3), none), (some 23, .load (some 166) (tm 2), none)], false⟩,
 ⟨some 5, .alloc 33 ((.string ⟨⟨[]⟩⟩) :: ((.int .i64 0) :: ((.int .i64 0) :: (z32 ++ (z32 ++ (z32 ++ (z32 ++ ((.int .i64 0) :: (z32 ++ [(.slice none 0 0), (.slice none 0 0)]))))))))), none, [(some 25, .load (some 166) (tm 3), none), (some 23, .load (some 166) (tm 2), none)], false⟩,
 ⟨none, .store 166 (tm 5) (tm 24), none, [], true⟩,
 ⟨none, .store 166 (tm 6) (tm 26), none, [], true⟩],
 [
 o1 23 (.load (some 166) (tm 2)),
 o1 25 (.load (some 166) (tm 3)),
 ⟨some 24, .callV (.func 20) [(tm 23)], none, [(some 25, .load (some 166) (tm 3), none)], false⟩,
 ⟨some 5, .alloc 33 ((.string ⟨⟨[]⟩⟩) :: ((.int .i64 0) :: ((.int .i64 0) :: (z32 ++ (z32 ++ (z32 ++ (z32 ++ ((.int .i64 0) :: (z32 ++ [(.slice none 0 0), (.slice none 0 0)]))))))))), none, [(some 25, .load (some 166) (tm 3), none), (some 23, .load (some 166) (tm 2), none)], false⟩,
 o1 26 (.callV (.func 20) [(tm 25)]),
 ⟨some 6, .alloc 33 ((.string ⟨⟨[]⟩⟩) :: ((.int .i64 0) :: ((.int .i64 0) :: (z32 ++ (z32 ++ (z32 ++ (z32 ++ ((.int .i64 0) :: (z32 ++ [(.slice none 0 0), (.slice none 0 0)]))))))))), none, [(some 25, .load (some 166) (tm 3), none), (some 23, .load (some 166) (tm 2), none)], false⟩,
 ⟨none, .store 166 (tm 5) (tm 24), none, [], true⟩,
 ⟨none, .store 166 (tm 6) (tm 26), none, [], true⟩],
 [
 o1 23 (.load (some 166) (tm 2)),
 o1 25 (.load (some 166) (tm 3)),
 ⟨some 24, .callV (.func 20) [(tm 23)], none, [(some 25, .load (some 166) (tm 3), none)], false⟩,
 ⟨some 5, .alloc 33 ((.string ⟨⟨[]⟩⟩) :: ((.int .i64 0) :: ((.int .i64 0) :: (z32 ++ (z32 ++ (z32 ++ (z32 ++ ((.int .i64 0) :: (z32 ++ [(.slice none 0 0), (.slice none 0 0)]))))))))), none, [(some 25, .load (some 166) (tm 3), none), (some 23, .load (some 166) (tm 2), none)], false⟩,
 ⟨some 6, .alloc 33 ((.string ⟨⟨[]⟩⟩) :: ((.int .i64 0) :: ((.int .i64 0) :: (z32 ++ (z32 ++ (z32 ++ (z32 ++ ((.int .i64 0) :: (z32 ++ [(.slice none 0 0), (.slice none 0 0)]))))))))), none, [(some 25, .load (some 166) (tm 3), none), (some 23, .load (some 166) (tm 2), none)], false⟩,
 o1 26 (.callV (.func 20) [(tm 25)]),
 ⟨none, .store 166 (tm 5) (tm 24), none, [], true⟩,
 ⟨none, .store 166 (tm 6) (tm 26), none, [], true⟩],
 [
 o1 23 (.load (some 166) (tm 2)),
 o1 25 (.load (some 166) (tm 3)),
 ⟨some 24, .callV (.func 20) [(tm 23)], none, [(some 25, .load (some 166) (tm 3), none)], false⟩,
 ⟨some 6, .alloc 33 ((.string ⟨⟨[]⟩⟩) :: ((.int .i64 0) :: ((.int .i64 0) :: (z32 ++ (z32 ++ (z32 ++ (z32 ++ ((.int .i64 0) :: (z32 ++ [(.slice none 0 0), (.slice none 0 0)]))))))))), none, [(some 25, .load (some 166) (tm 3), none), (some 23, .load (some 166) (tm 2), none)], false⟩,
 o1 26 (.callV (.func 20) [(tm 25)]),
 ⟨some 5, .alloc 33 ((.string ⟨⟨[]⟩⟩) :: ((.int .i64 0) :: ((.int .i64 0) :: (z32 ++ (z32 ++ (z32 ++ (z32 ++ ((.int .i64 0) :: (z32 ++ [(.slice none 0 0), (.slice none 0 0)]))))))))), none, [(some 25, .load (some 166) (tm 3), none), (some 23, .load (some 166) (tm 2), none)], false⟩,
 ⟨none, .store 166 (tm 5) (tm 24), none, [], true⟩,
 ⟨none, .store 166 (tm 6) (tm 26), none, [], true⟩],
 [
 o1 23 (.load (some 166) (tm 2)),
 o1 25 (.load (some 166) (tm 3)),
 ⟨some 24, .callV (.func 20) [(tm 23)], none, [(some 25, .load (some 166) (tm 3), none)], false⟩,
 ⟨some 6, .alloc 33 ((.string ⟨⟨[]⟩⟩) :: ((.int .i64 0) :: ((.int .i64 0) :: (z32 ++ (z32 ++ (z32 ++ (z32 ++ ((.int .i64 0) :: (z32 ++ [(.slice none 0 0), (.slice none 0 0)]))))))))), none, [(some 25, .load (some 166) (tm 3), none), (some 23, .load (some 166) (tm 2), none)], false⟩,
 ⟨some 5, .alloc 33 ((.string ⟨⟨[]⟩⟩) :: ((.int .i64 0) :: ((.int .i64 0) :: (z32 ++ (z32 ++ (z32 ++ (z32 ++ ((.int .i64 0) :: (z32 ++ [(.slice none 0 0), (.slice none 0 0)]))))))))), none, [(some 25, .load (some 166) (tm 3), none), (some 23, .load (some 166) (tm 2), none)], false⟩,
 o1 26 (.callV (.func 20) [(tm 25)]),
 ⟨none, .store 166 (tm 5) (tm 24), none, [], true⟩,
 ⟨none, .store 166 (tm 6) (tm 26), none, [], true⟩],
 [
 o1 23 (.load (some 166) (tm 2)),
 o1 25 (.load (some 166) (tm 3)),
 ⟨some 5, .alloc 33 ((.string ⟨⟨[]⟩⟩) :: ((.int .i64 0) :: ((.int .i64 0) :: (z32 ++ (z32 ++ (z32 ++ (z32 ++ ((.int .i64 0) :: (z32 ++ [(.slice none 0 0), (.slice none 0 0)]))))))))), none, [(some 25, .load (some 166) (tm 3), none), (some 23, .load (some 166) (tm 2), none)], false⟩,
 ⟨some 24, .callV (.func 20) [(tm 23)], none, [(some 25, .load (some 166) (tm 3), none)], false⟩,
 o1 26 (.callV (.func 20) [(tm 25)]),
 ⟨some 6, .alloc 33 ((.string ⟨⟨[]⟩⟩) :: ((.int .i64 0) :: ((.int .i64 0) :: (z32 ++ (z32 ++ (z32 ++ (z32 ++ ((.int .i64 0) :: (z32 ++ [(.slice none 0 0), (.slice none 0 0)]))))))))), none, [(some 25, .load (some 166) (tm 3), none), (some 23, .load (some 166) (tm 2), none)], false⟩,
 ⟨none, .store 166 (tm 5) (tm 24), none, [], true⟩,
 ⟨none, .store 166 (tm 6) (tm 26), none, [], true⟩],
 [
 o1 23 (.load (some 166) (tm 2)),
 o1 25 (.load (some 166) (tm 3)),
 ⟨some 5, .alloc 33 ((.string ⟨⟨[]⟩⟩) :: ((.int .i64 0) :: ((.int .i64 0) :: (z32 ++ (z32 ++ (z32 ++ (z32 ++ ((.int .i64 0) :: (z32 ++ [(.slice none 0 0), (.slice none 0 0)]))))))))), none, [(some 25, .load (some 166) (tm 3), none), (some 23, .load (some 166) (tm 2), none)], false⟩,
 ⟨some 24, .callV (.func 20) [(tm 23)], none, [(some 25, .load (some 166) (tm 3), none)], false⟩,
 ⟨some 6, .alloc 33 ((.string ⟨⟨[]⟩⟩) :: ((.int .i64 0) :: ((.int .i64 0) :: (z32 ++ (z32 ++ (z32 ++ (z32 ++ ((.int .i64 0) :: (z32 ++ [(.slice none 0 0), (.slice none 0 0)]))))))))), none, [(some 25, .load (some 166) (tm 3), none), (some 23, .load (some 166) (tm 2), none)], false⟩,
 o1 26 (.callV (.func 20) [(tm 25)]),
 ⟨none, .store 166 (tm 5) (tm 24), none, [], true⟩,
 ⟨none, .store 166 (tm 6) (tm 26), none, [], true⟩],
 [
 o1 23 (.load (some 166) (tm 2)),
 o1 25 (.load (some 166) (tm 3)),
 ⟨some 5, .alloc 33 ((.string ⟨⟨[]⟩⟩) :: ((.int .i64 0) :: ((.int .i64 0) :: (z32 ++ (z32 ++ (z32 ++ (z32 ++ ((.int .i64 0) :: (z32 ++ [(.slice none 0 0), (.slice none 0 0)]))))))))), none, [(some 25, .load (some 166) (tm 3), none), (some 23, .load (some 166) (tm 2), none)], false⟩,
 ⟨some 6, .alloc 33 ((.string ⟨⟨[]⟩⟩) :: ((.int .i64 0) :: ((.int .i64 0) :: (z32 ++ (z32 ++ (z32 ++ (z32 ++ ((.int .i64 0) :: (z32 ++ [(.slice none 0 0), (.slice none 0 0)]))))))))), none, [(some 25, .load (some 166) (tm 3), none), (some 23, .load (some 166) (tm 2), none)], false⟩,
 ⟨some 24, .callV (.func 20) [(tm 23)], none, [(some 25, .load (some 166) (tm 3), none)], false⟩,
 o1 26 (.callV (.func 20) [(tm 25)]),
 ⟨none, .store 166 (tm 5) (tm 24), none, [], true⟩,
 ⟨none, .store 166 (tm 6) (tm 26), none, [], true⟩],
 [
 o1 23 (.load (some 166) (tm 2)),
 o1 25 (.load (some 166) (tm 3)),
 ⟨some 6, .alloc 33 ((.string ⟨⟨[]⟩⟩) :: ((.int .i64 0) :: ((.int .i64 0) :: (z32 ++ (z32 ++ (z32 ++ (z32 ++ ((.int .i64 0) :: (z32 ++ [(.slice none 0 0), (.slice none 0 0)]))))))))), none, [(some 25, .load (some 166) (tm 3), none), (some 23, .load (some 166) (tm 2), none)], false⟩,
 ⟨some 24, .callV (.func 20) [(tm 23)], none, [(some 25, .load (some 166) (tm 3), none)], false⟩,
 o1 26 (.callV (.func 20) [(tm 25)]),
 ⟨some 5, .alloc 33 ((.string ⟨⟨[]⟩⟩) :: ((.int .i64 0) :: ((.int .i64 0) :: (z32 ++ (z32 ++ (z32 ++ (z32 ++ ((.int .i64 0) :: (z32 ++ [(.slice none 0 0), (.slice none 0 0)]))))))))), none, [(some 25, .load (some 166) (tm 3), none), (some 23, .load (some 166) (tm 2), none)], false⟩,
 ⟨none, .store 166 (tm 5) (tm 24), none, [], true⟩,
 ⟨none, .store 166 (tm 6) (tm 26), none, [], true⟩],
 [
 o1 23 (.load (some 166) (tm 2)),
 o1 25 (.load (some 166) (tm 3)),
 ⟨some 6, .alloc 33 ((.string ⟨⟨[]⟩⟩) :: ((.int .i64 0) :: ((.int .i64 0) :: (z32 ++ (z32 ++ (z32 ++ (z32 ++ ((.int .i64 0) :: (z32 ++ [(.slice none 0 0), (.slice none 0 0)]))))))))), none, [(some 25, .load (some 166) (tm 3), none), (some 23, .load (some 166) (tm 2), none)], false⟩,
 ⟨some 24, .callV (.func 20) [(tm 23)], none, [(some 25, .load (some 166) (tm 3), none)], false⟩,
 ⟨some 5, .alloc 33 ((.string ⟨⟨[]⟩⟩) :: ((.int .i64 0) :: ((.int .i64 0) :: (z32 ++ (z32 ++ (z32 ++ (z32 ++ ((.int .i64 0) :: (z32 ++ [(.slice none 0 0), (.slice none 0 0)]))))))))), none, [(some 25, .load (some 166) (tm 3), none), (some 23, .load (some 166) (tm 2), none)], false⟩,
 o1 26 (.callV (.func 20) [(tm 25)]),
 ⟨none, .store 166 (tm 5) (tm 24), none, [], true⟩,
 ⟨none, .store 166 (tm 6) (tm 26), none, [], true⟩],
 [
 o1 23 (.load (some 166) (tm 2)),
 o1 25 (.load (some 166) (tm 3)),
 ⟨some 6, .alloc 33 ((.string ⟨⟨[]⟩⟩) :: ((.int .i64 0) :: ((.int .i64 0) :: (z32 ++ (z32 ++ (z32 ++ (z32 ++ ((.int .i64 0) :: (z32 ++ [(.slice none 0 0), (.slice none 0 0)]))))))))), none, [(some 25, .load (some 166) (tm 3), none), (some 23, .load (some 166) (tm 2), none)], false⟩,
 ⟨some 5, .alloc 33 ((.string ⟨⟨[]⟩⟩) :: ((.int .i64 0) :: ((.int .i64 0) :: (z32 ++ (z32 ++ (z32 ++ (z32 ++ ((.int .i64 0) :: (z32 ++ [(.slice none 0 0), (.slice none 0 0)]))))))))), none, [(some 25, .load (some 166) (tm 3), none), (some 23, .load (some 166) (tm 2), none)], false⟩,
 ⟨some 24, .callV (.func 20) [(tm 23)], none, [(some 25, .load (some 166) (tm 3), none)], false⟩,
 o1 26 (.callV (.func 20) [(tm 25)]),
 ⟨none, .store 166 (tm 5) (tm 24), none, [], true⟩,
 ⟨none, .store 166 (tm 6) (tm 26), none, [], true⟩]]) (.seq (.region [
 o1 28 (.load (some 166) (tm 5)),
 o1 29 (.callV (.func 27) [(tm 28)]),
 o1 27 (.mov (tm 29)),
 o1 30 (.extract 0 (tm 27)),
 o1 31 (.extract 1 (tm 27)),
 o1 7 (.alloc 23 z32),
 o3 (.store 32 (tm 7) (tm 30)),
 o1 8 (.mov (tm 31))]) (.seq (.region [
 o1 33 (.load (some 166) (tm 2)),
 o1 34 (.callV (.func 28) [(tm 33)]),
 o1 32 (.mov (tm 34)),
 o1 35 (.extract 0 (tm 32)),
 o1 36 (.extract 1 (tm 32)),
 o1 9 (.alloc 23 z32),
 o3 (.store 32 (tm 9) (tm 35)),
 o1 10 (.mov (tm 36))]) (.seq (.region [
 o1 38 (.load (some 166) (tm 5)),
 o1 39 (.callV (.func 22) [(tm 38)]),
 o1 37 (.mov (tm 39)),
 o1 40 (.extract 0 (tm 37)),
 o1 41 (.extract 1 (tm 37)),
 o1 11 (.mov (tm 40)),
 o1 12 (.mov (tm 41))]) (.seq (.region [
 o1 43 (.load (some 166) (tm 2)),
 o1 44 (.callV (.func 29) [(tm 43)]),
 o1 42 (.mov (tm 44)),
 o1 45 (.extract 0 (tm 42)),
 o1 46 (.extract 1 (tm 42)),
 o1 13 (.mov (tm 45)),
 o1 14 (.mov (tm 46))]) (.seq (.regionD [
 o1 47 (.load (some 166) (tm 5)),
 o1 49 (.load (some 166) (tm 2)),
 ⟨some 48, .callV (.func 21) [(tm 47)], none, [(some 49, .load (some 166) (tm 2), none)], false⟩,
 o2 50 (.callV (.func 30) [(tm 49)]),
 o2 51 (.bin .eql (so (.binOp .eql 34 (tm 48) (tm 50) 34) 4) (tm 48) (tm 50)),
 o2 52 (.mov (tm 51)),
 o4 53 (.load (some 32) (tm 7)) 52,
 o4 54 (.load (some 32) (tm 9)) 52,
 ⟨some 55, .bin .eql (so (.binOp .eql 23 (tm 53) (tm 54) 23) 4) (tm 53) (tm 54), some (52, true), [], true⟩,
 o2 56 (.pick (tm 52) (tm 55) (.const (.bool false))),
 o2 57 (.mov (tm 56)),
 o4 58 (.mov (tm 8)) 57,
 o4 59 (.mov (tm 10)) 57,
 ⟨some 60, .bin .eql (so (.binOp .eql 34 (tm 58) (tm 59) 34) 4) (tm 58) (tm 59), some (57, true), [], true⟩,
 o2 61 (.pick (tm 57) (tm 60) (.const (.bool false))),
 o2 62 (.mov (tm 61)),
 o4 63 (.mov (tm 11)) 62,
 o4 64 (.mov (tm 13)) 62,
 ⟨some 65, .callV (.func 31) [(tm 63), (tm 64)], some (62, true), [], true⟩,
 o2 66 (.pick (tm 62) (tm 65) (.const (.bool false))),
 o2 67 (.mov (tm 66)),
 o4 68 (.mov (tm 12)) 67,
 o4 69 (.mov (tm 14)) 67,
 ⟨some 70, .bin .eql (so (.binOp .eql 34 (tm 68) (tm 69) 34) 4) (tm 68) (tm 69), some (67, true), [], true⟩,
 o2 71 (.pick (tm 67) (tm 70) (.const (.bool false))),
 o2 72 (.mov (tm 71)),
 o4 73 (.load (some 166) (tm 5)) 72,
 o4 74 (.load (some 166) (tm 6)) 72,
 o4 76 (.load (some 166) (tm 2)) 72,
 o4 77 (.load (some 166) (tm 3)) 72,
 ⟨some 75, .callV (.func 24) [(tm 73), (tm 74)], some (72, true), [(some 77, .load (some 166) (tm 3), some (72, true)), (some 76, .load (some 166) (tm 2), some (72, true))], false⟩,
 ⟨some 78, .callV (.func 11) [(tm 76), (tm 77)], some (72, true), [], true⟩,
 ⟨some 79, .bin .eql (so (.binOp .eql 4 (tm 75) (tm 78) 4) 4) (tm 75) (tm 78), some (72, true), [], true⟩,
 o2 80 (.pick (tm 72) (tm 79) (.const (.bool false))),
 o2 15 (.mov (tm 80))]) (.seq (.region [
 o1 81 (.mov (tm 11)),
 o1 82 (.callV (.func 32) [(tm 81)])]) (.seq (.region [
 o1 83 (.mov (tm 15)),
 o1 84 (.mov (tm 83)),
 o4 85 (.load (some 166) (tm 5)) 84,
 o4 86 (.load (some 166) (tm 2)) 84,
 o4 87 (.callV (.func 11) [(tm 85), (tm 86)]) 84,
 o1 88 (.pick (tm 84) (tm 87) (.const (.bool false))),
 o1 89 (.mov (tm 88)),
 o4 90 (.load (some 166) (tm 6)) 89,
 o4 91 (.load (some 166) (tm 3)) 89,
 o4 92 (.callV (.func 11) [(tm 90), (tm 91)]) 89,
 o1 93 (.pick (tm 89) (tm 92) (.const (.bool false))),
 o1 94 (.mov (tm 93)),
 o4 95 (.callV (.func 7) []) 94,
 o1 96 (.pick (tm 94) (tm 95) (.const (.bool false))),
 o1 4 (.mov (tm 96))]) .ret))))))))))
def zecQ : AFunc := ⟨97, [(4, none)], zecQ_c, none⟩
theorem zecQ_t0 : tableOf Tryz.prog 6 = some zecQ := by kernel_rfl
theorem zecQ_t : T0 6 = some zecQ := withKept_t rfl (withTrue_t rfl zecQ_t0)
theorem zecQ_runs {v0 v1 : Value} {h : Heap} {R : RP} {X : XP} (k : RunC Tryz.prog T0 zecQ_c ⟨[v0, v1, U, U, U, U, U, U, U, U, U, U, U, U, U, U, U, U, U, U, U, U, U, U, U, U, U, U, U, U, U, U, U, U, U, U, U, U, U, U, U, U, U, U, U, U, U, U, U, U, U, U, U, U, U, U, U, U, U, U, U, U, U, U, U, U, U, U, U, U, U, U, U, U, U, U, U, U, U, U, U, U, U, U, U, U, U, U, U, U, U, U, U, U, U, U, U], [], h, none⟩ (bodyQ Tryz.prog T0 [(4, none)] R X)) :
 Runs Tryz.prog T0 (.fn 6) [v0, v1] h R X := Runs.fn zecQ_t rfl k
abbrev fn_zwbQ : FuncId := 8
def zwbQ_c : ACode :=
 (.seq (.region [
 o1 2 (.mov (.const (.slice none 0 0)))]) (.seq (.region [
 o1 3 (.buildSlice 66 [] 0 []),
 o1 4 (.mov (tm 0)),
 o1 5 (.append 66 5 16 [(.int .u8 0), (.int .u8 0), (.int .u8 0), (.int .u8 0), (.int .i64 0)] false (tm 3) (tm 4)),
 o1 2 (.mov (tm 5))]) .ret))
def zwbQ : AFunc := ⟨6, [(2, none)], zwbQ_c, none⟩
theorem zwbQ_t0 : tableOf Tryz.prog 8 = some zwbQ := by kernel_rfl
theorem zwbQ_t : T0 8 = some zwbQ := withKept_t rfl (withTrue_t rfl zwbQ_t0)
theorem zwbQ_runs {v0 : Value} {h : Heap} {R : RP} {X : XP} (k : RunC Tryz.prog T0 zwbQ_c ⟨[v0, U, U, U, U, U], [], h, none⟩ (bodyQ Tryz.prog T0 [(2, none)] R X)) :
 Runs Tryz.prog T0 (.fn 8) [v0] h R X := Runs.fn zwbQ_t rfl k
abbrev fn_zzbQ : FuncId := 11
def zzbQ_c : ACode :=
 (.seq (.region [
 o1 2 (.box 33 (tm 0)),
 o1 3 (.box 33 (tm 1)),
 o1 4 (.mov (.const (.bool false)))]) (.seq (.region [
 o1 5 (.fieldAddr 0 (tm 2)),
 o1 6 (.load (some 131) (tm 5)),
 o1 7 (.fieldAddr 0 (tm 3)),
 o1 8 (.load (some 131) (tm 7)),
 o1 9 (.bin .eql (so (.binOp .eql 25 (tm 6) (tm 8) 25) 4) (tm 6) (tm 8)),
 o1 10 (.mov (tm 9)),
 o4 11 (.fieldAddr 131 (tm 2)) 10,
 o4 12 (.load (some 34) (tm 11)) 10,
 o4 13 (.fieldAddr 131 (tm 3)) 10,
 o4 14 (.load (some 34) (tm 13)) 10,
 o4 15 (.callV (.func 38) [(tm 12), (tm 14)]) 10,
 o1 16 (.pick (tm 10) (tm 15) (.const (.bool false))),
 o1 17 (.mov (tm 16)),
 o4 18 (.fieldAddr 165 (tm 2)) 17,
 o4 19 (.load none (tm 18)) 17,
 o4 20 (.fieldAddr 165 (tm 3)) 17,
 o4 21 (.load none (tm 20)) 17,
 o4 22 (.callV (.func 13) [(tm 19), (tm 21)]) 17,
 o1 23 (.pick (tm 17) (tm 22) (.const (.bool false))),
 o1 4 (.mov (tm 23))]) .ret))
def zzbQ : AFunc := ⟨24, [(4, none)], zzbQ_c, none⟩
theorem zzbQ_t0 : tableOf Tryz.prog 11 = some zzbQ := by kernel_rfl
theorem zzbQ_t : T0 11 = some zzbQ := withKept_t rfl (withTrue_t rfl zzbQ_t0)
theorem zzbQ_runs {v0 v1 : Value} {h : Heap} {R : RP} {X : XP} (k : RunC Tryz.prog T0 zzbQ_c ⟨[v0, v1, U, U, U, U, U, U, U, U, U, U, U, U, U, U, U, U, U, U, U, U, U, U], [], h, none⟩ (bodyQ Tryz.prog T0 [(4, none)] R X)) :
 Runs Tryz.prog T0 (.fn 11) [v0, v1] h R X := Runs.fn zzbQ_t rfl k
abbrev fn_zccQ : FuncId := 13
def zccQ_l0 : ACode :=
 (.seq (.seq (.region [
 o1 12 (.mov (tm 5)),
 o1 13 (.mov (tm 12)),
 o4 14 (.mov (tm 6)) 13,
 o4 15 (.mov (tm 0)) 13,
 o4 16 (.lenSl (tm 15)) 13,
 o4 17 (.bin .lss (so (.binOp .lss 3 (tm 14) (tm 16) 3) 4) (tm 14) (tm 16)) 13,
 o1 18 (.pick (tm 13) (tm 17) (.const (.bool false)))]) (.cond (tm 18)
 .skip
 (.exit 0))) (.seq (.block 1 (.regionD [
 o1 21 (.mov (tm 0)),
 o1 22 (.mov (tm 6)),
 o1 23 (.indexSl 5 (tm 21) (tm 22)),
 o1 24 (.load (some 5) (tm 23)),
 o1 25 (.mov (tm 1)),
 o1 26 (.mov (tm 6)),
 o1 27 (.indexSl 5 (tm 25) (tm 26)),
 o1 28 (.load (some 5) (tm 27)),
 o2 29 (.bin .eql (so (.binOp .eql 66 (tm 24) (tm 28) 66) 4) (tm 24) (tm 28)),
 o2 5 (.mov (tm 29))])) (.region [
 o1 19 (.mov (tm 6)),
 o1 20 (.bin .add (so (.binOp .add 3 (tm 19) (.const (.int .i64 1)) 3) 3) (tm 19) (.const (.int .i64 1))),
 o1 6 (.mov (tm 20))])))
def zccQ_c : ACode :=
 (.seq (.region [
 o1 4 (.mov (.const (.bool false)))]) (.seq (.region [
 o1 7 (.mov (tm 0)),
 o1 8 (.lenSl (tm 7)),
 o1 9 (.mov (tm 1)),
 o1 10 (.lenSl (tm 9)),
 o1 11 (.bin .eql (so (.binOp .eql 3 (tm 8) (tm 10) 3) 4) (tm 8) (tm 10)),
 o1 5 (.mov (tm 11))]) (.seq (.seq (.region [
 o1 6 (.mov k0)]) (.block 0 (.loop zccQ_l0))) (.seq (.region [
 o1 30 (.mov (tm 5)),
 o1 4 (.mov (tm 30))]) .ret))))
def zccQ : AFunc := ⟨31, [(4, none)], zccQ_c, none⟩
theorem zccQ_t0 : tableOf Tryz.prog 13 = some zccQ := by kernel_rfl
theorem zccQ_t : T0 13 = some zccQ := withKept_t rfl (withTrue_t rfl zccQ_t0)
theorem zccQ_runs {v0 v1 : Value} {h : Heap} {R : RP} {X : XP} (k : RunC Tryz.prog T0 zccQ_c ⟨[v0, v1, U, U, U, U, U, U, U, U, U, U, U, U, U, U, U, U, U, U, U, U, U, U, U, U, U, U, U, U, U], [], h, none⟩ (bodyQ Tryz.prog T0 [(4, none)] R X)) :
 Runs Tryz.prog T0 (.fn 13) [v0, v1] h R X := Runs.fn zccQ_t rfl k
abbrev zccQ_l0_M : List Nat := [0, 0, 0, 0, 0, 2, 2, 0, 0, 0, 0, 0, 1, 1, 1, 1, 1, 1, 1, 1, 1, 1, 1, 1, 1, 1, 1, 1, 1, 1, 0]
abbrev fn_zubQ : FuncId := 20
def zubQ_c : ACode :=
 (.seq (.region [
 o1 1 (.box 33 (tm 0)),
 o1 2 (.alloc 33 ((.string ⟨⟨[]⟩⟩) :: ((.int .i64 0) :: ((.int .i64 0) :: (z32 ++ (z32 ++ (z32 ++ (z32 ++ ((.int .i64 0) :: (z32 ++ [(.slice none 0 0), (.slice none 0 0)]))))))))))]) (.seq (.region [
 o1 3 (.fieldAddr 131 (tm 1)),
 o1 4 (.load (some 34) (tm 3)),
 o1 5 (.callV (.func 55) [(tm 4)]),
 o1 6 (.fieldAddr 131 (tm 1)),
 o3 (.store 34 (tm 6) (tm 5))]) (.seq (.region [
 o1 7 (.fieldAddr 165 (tm 1)),
 o1 8 (.load none (tm 7)),
 o1 9 (.callV (.func 8) [(tm 8)]),
 o1 10 (.fieldAddr 165 (tm 1)),
 o3 (.store 1 (tm 10) (tm 9))]) (.seq (.region [
 o1 11 (.load (some 166) (tm 1)),
 o3 (.store 166 (tm 2) (tm 11))]) .ret))))
def zubQ : AFunc := ⟨12, [(2, some (some 166))], zubQ_c, none⟩
theorem zubQ_t0 : tableOf Tryz.prog 20 = some zubQ := by kernel_rfl
theorem zubQ_t : T0 20 = some zubQ := withKept_t rfl (withTrue_t rfl zubQ_t0)
theorem zubQ_runs {v0 : Value} {h : Heap} {R : RP} {X : XP} (k : RunC Tryz.prog T0 zubQ_c ⟨[v0, U, U, U, U, U, U, U, U, U, U, U], [], h, none⟩ (bodyQ Tryz.prog T0 [(2, some (some 166))] R X)) :
 Runs Tryz.prog T0 (.fn 20) [v0] h R X := Runs.fn zubQ_t rfl k
abbrev fn_znQ : FuncId := 21
def znQ_c : ACode :=
 (.seq (.region [
 o1 1 (.box 33 (tm 0)),
 o1 2 (.mov k0)]) (.seq (.regionD [
 o1 3 (.load (some 166) (tm 1)),
 o1 5 (.load (some 166) (tm 1)),
 ⟨some 4, .callV (.func 58) [(tm 3)], none, [(some 5, .load (some 166) (tm 1), none)], false⟩,
 o2 6 (.callV (.func 59) [(tm 5)]),
 o2 7 (.append 131 1 8 [.nilFunc] false (tm 4) (tm 6)),
 o2 8 (.callV (.func 57) [(tm 7)]),
 o2 9 (.callV (.func 56) [(tm 8)]),
 o2 2 (.mov (tm 9))]) .ret))
def znQ : AFunc := ⟨10, [(2, none)], znQ_c, none⟩
theorem znQ_t0 : tableOf Tryz.prog 21 = some znQ := by kernel_rfl
theorem znQ_t : T0 21 = some znQ := withKept_t rfl (withTrue_t rfl znQ_t0)
theorem znQ_runs {v0 : Value} {h : Heap} {R : RP} {X : XP} (k : RunC Tryz.prog T0 znQ_c ⟨[v0, U, U, U, U, U, U, U, U, U], [], h, none⟩ (bodyQ Tryz.prog T0 [(2, none)] R X)) :
 Runs Tryz.prog T0 (.fn 21) [v0] h R X := Runs.fn znQ_t rfl k
abbrev fn_zlQ : FuncId := 22
def zlQ_l0 : ACode :=
 (.seq (.region [
 o1 49 (.bin .lss (so (.binOp .lss 3 (tm 48) (.const (.int .i64 3)) 3) 0) (tm 48) (.const (.int .i64 3)))]) (.seq (.cond (tm 49)
 .skip
 (.exit 0)) (.seq (.block 1 (.seq (.region [
 o1 50 (.index 3 1 none (tm 47) (tm 48)),
 o1 14 (.mov (tm 50))]) (.region [
 o1 51 (.mov (tm 5)),
 o1 52 (.mov (tm 14)),
 o1 53 (.callV (.func 63) [(tm 51), (tm 52)])]))) (.region [
 o1 54 (.bin .add (so (.binOp .add 3 (tm 48) (.const (.int .i64 1)) 3) 3) (tm 48) (.const (.int .i64 1))),
 o1 48 (.mov (tm 54))]))))
def zlQ_c : ACode :=
 (.seq (.region [
 o1 1 (.box 33 (tm 0)),
 o1 2 (.mov (.const (.slice none 0 0))),
 o1 3 (.mov k0)]) (.seq (.seq (.region [
 o1 15 (.load (some 166) (tm 1)),
 o1 16 (.callV (.func 58) [(tm 15)]),
 o1 17 (.callV (.func 57) [(tm 16)]),
 o1 18 (.callV (.func 56) [(tm 17)]),
 o1 4 (.mov (tm 18))]) (.seq (.region [
 o1 19 (.mov (tm 4)),
 o1 20 (.bin .neq (so (.binOp .neq 34 (tm 19) k0 34) 4) (tm 19) k0)]) (.cond (tm 20)
 (.seq (.region [
 o1 21 (.mov (tm 4)),
 o1 2 (.mov (.const (.slice none 0 0))),
 o1 3 (.mov (tm 21))]) .ret)
 .skip))) (.seq (.region [
 o1 23 (.callV (.func 60) [(.const (.int .i64 65536))]),
 o1 22 (.mov (tm 23)),
 o1 24 (.extract 0 (tm 22)),
 o1 25 (.extract 1 (tm 22)),
 o1 5 (.mov (tm 24)),
 o1 6 (.mov (tm 25))]) (.seq (.region [
 o1 27 (.fieldAddr 0 (tm 1)),
 o1 28 (.load (some 131) (tm 27)),
 o1 29 (.callV (.func 61) [(tm 28)]),
 o1 26 (.mov (tm 29)),
 o1 30 (.extract 0 (tm 26)),
 o1 31 (.extract 1 (tm 26)),
 o1 7 (.mov (tm 30)),
 o1 8 (.mov (tm 31))]) (.seq (.region [
 o1 33 (.fieldAddr 131 (tm 1)),
 o1 34 (.load (some 34) (tm 33)),
 o1 35 (.callV (.func 62) [(tm 34)]),
 o1 32 (.mov (tm 35)),
 o1 36 (.extract 0 (tm 32)),
 o1 37 (.extract 1 (tm 32)),
 o1 9 (.mov (tm 36)),
 o1 10 (.mov (tm 37))]) (.seq (.region [
 o1 39 (.fieldAddr 165 (tm 1)),
 o1 40 (.load none (tm 39)),
 o1 41 (.callV (.func 23) [(tm 40)]),
 o1 38 (.mov (tm 41)),
 o1 42 (.extract 0 (tm 38)),
 o1 43 (.extract 1 (tm 38)),
 o1 11 (.mov (tm 42)),
 o1 12 (.mov (tm 43))]) (.seq (.seq (.region [
 o1 44 (.mov (tm 7)),
 o1 45 (.mov (tm 9)),
 o1 46 (.mov (tm 11)),
 o1 47 (.build [(.slice none 0 0), (.slice none 0 0), (.slice none 0 0)] [(0, 1, (tm 44)), (1, 1, (tm 45)), (2, 1, (tm 46))]),
 o1 48 (.mov k0)]) (.block 0 (.loop zlQ_l0))) (.seq (.region [
 o1 55 (.mov (tm 5)),
 o1 56 (.callV (.func 64) [(tm 55)]),
 o1 57 (.extract 0 (tm 56)),
 o1 58 (.extract 1 (tm 56)),
 o1 2 (.mov (tm 57)),
 o1 3 (.mov (tm 58))]) .ret))))))))
def zlQ : AFunc := ⟨59, [(2, none), (3, none)], zlQ_c, none⟩
theorem zlQ_t0 : tableOf Tryz.prog 22 = some zlQ := by kernel_rfl
theorem zlQ_t : T0 22 = some zlQ := withKept_t rfl (withTrue_t rfl zlQ_t0)
theorem zlQ_runs {v0 : Value} {h : Heap} {R : RP} {X : XP} (k : RunC Tryz.prog T0 zlQ_c ⟨[v0, U, U, U, U, U, U, U, U, U, U, U, U, U, U, U, U, U, U, U, U, U, U, U, U, U, U, U, U, U, U, U, U, U, U, U, U, U, U, U, U, U, U, U, U, U, U, U, U, U, U, U, U, U, U, U, U, U, U], [], h, none⟩ (bodyQ Tryz.prog T0 [(2, none), (3, none)] R X)) :
 Runs Tryz.prog T0 (.fn 22) [v0] h R X := Runs.fn zlQ_t rfl k
abbrev zlQ_l0_M : List Nat := [0, 0, 0, 0, 0, 0, 0, 0, 0, 0, 0, 0, 0, 0, 1, 0, 0, 0, 0, 0, 0, 0, 0, 0, 0, 0, 0, 0, 0, 0, 0, 0, 0, 0, 0, 0, 0, 0, 0, 0, 0, 0, 0, 0, 0, 0, 0, 0, 2, 1, 1, 1, 1, 1, 1, 0, 0, 0, 0]
abbrev fn_zxdQ : FuncId := 23
def zxdQ_l0 : ACode :=
 (.seq (.region [
 o1 25 (.bin .lss (so (.binOp .lss 3 (tm 24) (tm 23) 3) 0) (tm 24) (tm 23))]) (.seq (.cond (tm 25)
 .skip
 (.exit 0)) (.seq (.block 1 (.seq (.region [
 o1 26 (.indexSl 5 (tm 22) (tm 24)),
 o1 27 (.load (some 5) (tm 26)),
 o1 8 (.alloc 66 [(.int .u8 0), (.int .u8 0), (.int .u8 0), (.int .u8 0), (.int .i64 0)]),
 o3 (.store 5 (tm 8) (tm 27))]) (.seq (.region [
 o1 28 (.mov (tm 5)),
 o1 29 (.fieldAddr 0 (tm 8)),
 o1 30 (.load (some 4) (tm 29)),
 o1 31 (.callV (.func 67) [(tm 28), (tm 30)])]) (.region [
 o1 32 (.mov (tm 5)),
 o1 33 (.fieldAddr 4 (tm 8)),
 o1 34 (.load none (tm 33)),
 o1 35 (.callV (.func 66) [(tm 32), (tm 34)])])))) (.region [
 o1 36 (.bin .add (so (.binOp .add 3 (tm 24) (.const (.int .i64 1)) 3) 3) (tm 24) (.const (.int .i64 1))),
 o1 24 (.mov (tm 36))]))))
def zxdQ_c : ACode :=
 (.seq (.region [
 o1 2 (.mov (.const (.slice none 0 0))),
 o1 3 (.mov k0)]) (.seq (.seq (.region [
 o1 9 (.mov (tm 0)),
 o1 10 (.callV (.func 65) [(tm 9)]),
 o1 4 (.mov (tm 10))]) (.seq (.region [
 o1 11 (.mov (tm 4)),
 o1 12 (.bin .neq (so (.binOp .neq 34 (tm 11) k0 34) 4) (tm 11) k0)]) (.cond (tm 12)
 (.seq (.region [
 o1 13 (.mov (tm 4)),
 o1 2 (.mov (.const (.slice none 0 0))),
 o1 3 (.mov (tm 13))]) .ret)
 .skip))) (.seq (.region [
 o1 15 (.callV (.func 60) [(.const (.int .i64 1048576))]),
 o1 14 (.mov (tm 15)),
 o1 16 (.extract 0 (tm 14)),
 o1 17 (.extract 1 (tm 14)),
 o1 5 (.mov (tm 16)),
 o1 6 (.mov (tm 17))]) (.seq (.region [
 o1 18 (.mov (tm 5)),
 o1 19 (.mov (tm 0)),
 o1 20 (.lenSl (tm 19)),
 o1 21 (.callV (.func 66) [(tm 18), (tm 20)])]) (.seq (.seq (.region [
 o1 22 (.mov (tm 0)),
 o1 23 (.lenSl (tm 22)),
 o1 24 (.mov k0)]) (.block 0 (.loop zxdQ_l0))) (.seq (.region [
 o1 37 (.mov (tm 5)),
 o1 38 (.callV (.func 64) [(tm 37)]),
 o1 39 (.extract 0 (tm 38)),
 o1 40 (.extract 1 (tm 38)),
 o1 2 (.mov (tm 39)),
 o1 3 (.mov (tm 40))]) .ret))))))
def zxdQ : AFunc := ⟨41, [(2, none), (3, none)], zxdQ_c, none⟩
theorem zxdQ_t0 : tableOf Tryz.prog 23 = some zxdQ := by kernel_rfl
theorem zxdQ_t : T0 23 = some zxdQ := withKept_t rfl (withTrue_t rfl zxdQ_t0)
theorem zxdQ_runs {v0 : Value} {h : Heap} {R : RP} {X : XP} (k : RunC Tryz.prog T0 zxdQ_c ⟨[v0, U, U, U, U, U, U, U, U, U, U, U, U, U, U, U, U, U, U, U, U, U, U, U, U, U, U, U, U, U, U, U, U, U, U, U, U, U, U, U, U], [], h, none⟩ (bodyQ Tryz.prog T0 [(2, none), (3, none)] R X)) :
 Runs Tryz.prog T0 (.fn 23) [v0] h R X := Runs.fn zxdQ_t rfl k
abbrev zxdQ_l0_M : List Nat := [0, 0, 0, 0, 0, 0, 0, 0, 1, 0, 0, 0, 0, 0, 0, 0, 0, 0, 0, 0, 0, 0, 0, 0, 2, 1, 1, 1, 1, 1, 1, 1, 1, 1, 1, 1, 1, 0, 0, 0, 0]
abbrev fn_zoQ : FuncId := 24
def zoQ_c : ACode :=
 (.seq (.region [
 o1 2 (.box 33 (tm 0)),
 o1 3 (.box 33 (tm 1)),
 o1 4 (.mov (.const (.bool false)))]) (.seq (.region [
 o1 5 (.fieldAddr 0 (tm 2)),
 o1 6 (.load (some 131) (tm 5)),
 o1 7 (.fieldAddr 0 (tm 3)),
 o1 8 (.load (some 131) (tm 7)),
 o1 9 (.bin .eql (so (.binOp .eql 25 (tm 6) (tm 8) 25) 4) (tm 6) (tm 8)),
 o1 10 (.mov (tm 9)),
 o4 11 (.fieldAddr 131 (tm 2)) 10,
 o4 12 (.fieldAddr 0 (tm 11)) 10,
 o4 13 (.load none (tm 12)) 10,
 o4 14 (.fieldAddr 131 (tm 3)) 10,
 o4 15 (.fieldAddr 0 (tm 14)) 10,
 o4 16 (.load none (tm 15)) 10,
 o4 17 (.bin .eql (so (.binOp .eql 3 (tm 13) (tm 16) 3) 4) (tm 13) (tm 16)) 10,
 o1 18 (.pick (tm 10) (tm 17) (.const (.bool false))),
 o1 19 (.mov (tm 18)),
 o4 20 (.fieldAddr 131 (tm 2)) 19,
 o4 21 (.fieldAddr 1 (tm 20)) 19,
 o4 22 (.load (some 32) (tm 21)) 19,
 o4 23 (.fieldAddr 131 (tm 3)) 19,
 o4 24 (.fieldAddr 1 (tm 23)) 19,
 o4 25 (.load (some 32) (tm 24)) 19,
 o4 26 (.bin .eql (so (.binOp .eql 23 (tm 22) (tm 25) 23) 4) (tm 22) (tm 25)) 19,
 o1 27 (.pick (tm 19) (tm 26) (.const (.bool false))),
 o1 28 (.mov (tm 27)),
 o4 29 (.fieldAddr 131 (tm 2)) 28,
 o4 30 (.fieldAddr 33 (tm 29)) 28,
 o4 31 (.load none (tm 30)) 28,
 o4 32 (.fieldAddr 131 (tm 3)) 28,
 o4 33 (.fieldAddr 33 (tm 32)) 28,
 o4 34 (.load none (tm 33)) 28,
 o4 35 (.callV (.func 68) [(tm 31), (tm 34)]) 28,
 o1 36 (.pick (tm 28) (tm 35) (.const (.bool false))),
 o1 37 (.mov (tm 36)),
 o4 38 (.fieldAddr 165 (tm 2)) 37,
 o4 39 (.load none (tm 38)) 37,
 o4 40 (.fieldAddr 165 (tm 3)) 37,
 o4 41 (.load none (tm 40)) 37,
 o4 42 (.callV (.func 69) [(tm 39), (tm 41)]) 37,
 o1 43 (.pick (tm 37) (tm 42) (.const (.bool false))),
 o1 4 (.mov (tm 43))]) .ret))
def zoQ : AFunc := ⟨44, [(4, none)], zoQ_c, none⟩
theorem zoQ_t0 : tableOf Tryz.prog 24 = some zoQ := by kernel_rfl
theorem zoQ_t : T0 24 = some zoQ := withKept_t rfl (withTrue_t rfl zoQ_t0)
theorem zoQ_runs {v0 v1 : Value} {h : Heap} {R : RP} {X : XP} (k : RunC Tryz.prog T0 zoQ_c ⟨[v0, v1, U, U, U, U, U, U, U, U, U, U, U, U, U, U, U, U, U, U, U, U, U, U, U, U, U, U, U, U, U, U, U, U, U, U, U, U, U, U, U, U, U, U], [], h, none⟩ (bodyQ Tryz.prog T0 [(4, none)] R X)) :
 Runs Tryz.prog T0 (.fn 24) [v0, v1] h R X := Runs.fn zoQ_t rfl k
abbrev fn_zxbQ : FuncId := 26
def zxbQ_c : ACode :=
 (.seq (.region [
 o1 1 (.box 33 (tm 0)),
 o1 2 (.mov (.const (.bool false)))]) (.seq (.region [
 o1 3 (.fieldAddr 165 (tm 1)),
 o1 4 (.load none (tm 3)),
 o1 5 (.lenSl (tm 4)),
 o1 6 (.bin .gtr (so (.binOp .gtr 3 (tm 5) (.const (.int .i64 70)) 3) 4) (tm 5) (.const (.int .i64 70))),
 o1 7 (.mov (tm 6)),
 o5 8 (.fieldAddr 131 (tm 1)) 7,
 o5 9 (.fieldAddr 33 (tm 8)) 7,
 o5 10 (.load none (tm 9)) 7,
 o5 11 (.lenSl (tm 10)) 7,
 o5 12 (.bin .gtr (so (.binOp .gtr 3 (tm 11) (.const (.int .i64 70)) 3) 4) (tm 11) (.const (.int .i64 70))) 7,
 o1 13 (.pick (tm 7) (.const (.bool true)) (tm 12)),
 o1 14 (.mov (tm 13)),
 o5 15 (.fieldAddr 0 (tm 1)) 14,
 o5 16 (.fieldAddr 0 (tm 15)) 14,
 o5 17 (.load none (tm 16)) 14,
 o5 18 (.lenStr (tm 17)) 14,
 o5 19 (.bin .gtr (so (.binOp .gtr 3 (tm 18) (.const (.int .i64 60)) 3) 4) (tm 18) (.const (.int .i64 60))) 14,
 o1 20 (.pick (tm 14) (.const (.bool true)) (tm 19)),
 o1 2 (.mov (tm 20))]) .ret))
def zxbQ : AFunc := ⟨21, [(2, none)], zxbQ_c, none⟩
theorem zxbQ_t0 : tableOf Tryz.prog 26 = some zxbQ := by kernel_rfl
theorem zxbQ_t : T0 26 = some zxbQ := withKept_t rfl (withTrue_t rfl zxbQ_t0)
theorem zxbQ_runs {v0 : Value} {h : Heap} {R : RP} {X : XP} (k : RunC Tryz.prog T0 zxbQ_c ⟨[v0, U, U, U, U, U, U, U, U, U, U, U, U, U, U, U, U, U, U, U, U], [], h, none⟩ (bodyQ Tryz.prog T0 [(2, none)] R X)) :
 Runs Tryz.prog T0 (.fn 26) [v0] h R X := Runs.fn zxbQ_t rfl k
abbrev fn_zmQ : FuncId := 27
def zmQ_c : ACode :=
 (.seq (.region [
 o1 1 (.box 33 (tm 0)),
 o1 2 (.alloc 23 z32),
 o1 3 (.mov k0)]) (.seq (.region [
 o1 4 (.fieldAddr 0 (tm 1)),
 o1 5 (.load (some 131) (tm 4)),
 o1 6 (.callV (.func 34) [(tm 5)]),
 o1 7 (.extract 0 (tm 6)),
 o1 8 (.extract 1 (tm 6)),
 o3 (.store 32 (tm 2) (tm 7)),
 o1 3 (.mov (tm 8))]) .ret))
def zmQ : AFunc := ⟨9, [(2, some (some 32)), (3, none)], zmQ_c, none⟩
theorem zmQ_t0 : tableOf Tryz.prog 27 = some zmQ := by kernel_rfl
theorem zmQ_t : T0 27 = some zmQ := withKept_t rfl (withTrue_t rfl zmQ_t0)
theorem zmQ_runs {v0 : Value} {h : Heap} {R : RP} {X : XP} (k : RunC Tryz.prog T0 zmQ_c ⟨[v0, U, U, U, U, U, U, U, U], [], h, none⟩ (bodyQ Tryz.prog T0 [(2, some (some 32)), (3, none)] R X)) :
 Runs Tryz.prog T0 (.fn 27) [v0] h R X := Runs.fn zmQ_t rfl k
abbrev fn_zkdQ : FuncId := 28
def zkdQ_c : ACode :=
 (.seq (.region [
 o1 1 (.box 33 (tm 0)),
 o1 2 (.alloc 23 z32),
 o1 3 (.mov k0)]) (.seq (.region [
 o1 4 (.fieldAddr 0 (tm 1)),
 o1 5 (.load (some 131) (tm 4)),
 o1 6 (.callV (.func 37) [(tm 5)]),
 o1 7 (.extract 0 (tm 6)),
 o1 8 (.extract 1 (tm 6)),
 o3 (.store 32 (tm 2) (tm 7)),
 o1 3 (.mov (tm 8))]) .ret))
def zkdQ : AFunc := ⟨9, [(2, some (some 32)), (3, none)], zkdQ_c, none⟩
theorem zkdQ_t0 : tableOf Tryz.prog 28 = some zkdQ := by kernel_rfl
theorem zkdQ_t : T0 28 = some zkdQ := withKept_t rfl (withTrue_t rfl zkdQ_t0)
theorem zkdQ_runs {v0 : Value} {h : Heap} {R : RP} {X : XP} (k : RunC Tryz.prog T0 zkdQ_c ⟨[v0, U, U, U, U, U, U, U, U], [], h, none⟩ (bodyQ Tryz.prog T0 [(2, some (some 32)), (3, none)] R X)) :
 Runs Tryz.prog T0 (.fn 28) [v0] h R X := Runs.fn zkdQ_t rfl k
abbrev fn_zjdQ : FuncId := 29
def zjdQ_c : ACode :=
 (.seq (.region [
 o1 1 (.box 33 (tm 0)),
 o1 2 (.mov (.const (.slice none 0 0))),
 o1 3 (.mov k0)]) (.seq (.region [
 o1 13 (.load (some 166) (tm 1)),
 o1 14 (.callV (.func 70) [(tm 13)]),
 o1 4 (.mov (tm 14))]) (.seq (.seq (.region [
 o1 15 (.mov (tm 4)),
 o1 16 (.bin .neq (so (.binOp .neq 34 (tm 15) k0 34) 4) (tm 15) k0)]) (.cond (tm 16)
 (.seq (.region [
 o1 17 (.mov (tm 4)),
 o1 2 (.mov (.const (.slice none 0 0))),
 o1 3 (.mov (tm 17))]) .ret)
 .skip)) (.seq (.region [
 o1 19 (.fieldAddr 0 (tm 1)),
 o1 20 (.load (some 131) (tm 19)),
 o1 21 (.callV (.func 71) [(tm 20)]),
 o1 18 (.mov (tm 21)),
 o1 22 (.extract 0 (tm 18)),
 o1 23 (.extract 1 (tm 18)),
 o1 5 (.mov (tm 22)),
 o1 6 (.mov (tm 23))]) (.seq (.region [
 o1 25 (.fieldAddr 131 (tm 1)),
 o1 26 (.load (some 34) (tm 25)),
 o1 27 (.callV (.func 72) [(tm 26)]),
 o1 24 (.mov (tm 27)),
 o1 28 (.extract 0 (tm 24)),
 o1 29 (.extract 1 (tm 24)),
 o1 7 (.mov (tm 28)),
 o1 8 (.mov (tm 29))]) (.seq (.region [
 o1 31 (.fieldAddr 165 (tm 1)),
 o1 32 (.load none (tm 31)),
 o1 33 (.callV (.func 73) [(tm 32)]),
 o1 30 (.mov (tm 33)),
 o1 34 (.extract 0 (tm 30)),
 o1 35 (.extract 1 (tm 30)),
 o1 9 (.mov (tm 34)),
 o1 10 (.mov (tm 35))]) (.seq (.region [
 o1 37 (.callV (.func 74) [(.const (.int .i64 65536))]),
 o1 36 (.mov (tm 37)),
 o1 38 (.extract 0 (tm 36)),
 o1 39 (.extract 1 (tm 36)),
 o1 11 (.mov (tm 38)),
 o1 12 (.mov (tm 39))]) (.seq (.region [
 o1 40 (.mov (tm 11)),
 o1 41 (.mov (tm 5)),
 o1 42 (.callV (.func 75) [(tm 40), (tm 41)])]) (.seq (.region [
 o1 43 (.mov (tm 11)),
 o1 44 (.mov (tm 7)),
 o1 45 (.callV (.func 75) [(tm 43), (tm 44)])]) (.seq (.region [
 o1 46 (.mov (tm 11)),
 o1 47 (.mov (tm 9)),
 o1 48 (.callV (.func 75) [(tm 46), (tm 47)])]) (.seq (.region [
 o1 49 (.mov (tm 11)),
 o1 50 (.callV (.func 76) [(tm 49)]),
 o1 51 (.extract 0 (tm 50)),
 o1 52 (.extract 1 (tm 50)),
 o1 2 (.mov (tm 51)),
 o1 3 (.mov (tm 52))]) .ret)))))))))))
def zjdQ : AFunc := ⟨53, [(2, none), (3, none)], zjdQ_c, none⟩
theorem zjdQ_t0 : tableOf Tryz.prog 29 = some zjdQ := by kernel_rfl
theorem zjdQ_t : T0 29 = some zjdQ := withKept_t rfl (withTrue_t rfl zjdQ_t0)
theorem zjdQ_runs {v0 : Value} {h : Heap} {R : RP} {X : XP} (k : RunC Tryz.prog T0 zjdQ_c ⟨[v0, U, U, U, U, U, U, U, U, U, U, U, U, U, U, U, U, U, U, U, U, U, U, U, U, U, U, U, U, U, U, U, U, U, U, U, U, U, U, U, U, U, U, U, U, U, U, U, U, U, U, U, U], [], h, none⟩ (bodyQ Tryz.prog T0 [(2, none), (3, none)] R X)) :
 Runs Tryz.prog T0 (.fn 29) [v0] h R X := Runs.fn zjdQ_t rfl k
abbrev fn_zldQ : FuncId := 30
def zldQ_l0 : ACode :=
 (.seq (.seq (.region [
 o1 47 (.mov (tm 8)),
 o1 48 (.fieldAddr 131 (tm 1)),
 o1 49 (.fieldAddr 33 (tm 48)),
 o1 50 (.load none (tm 49)),
 o1 51 (.lenSl (tm 50)),
 o1 52 (.bin .lss (so (.binOp .lss 3 (tm 47) (tm 51) 3) 4) (tm 47) (tm 51))]) (.cond (tm 52)
 .skip
 (.exit 1))) (.seq (.block 2 (.seq (.regionD [
 o1 55 (.fieldAddr 131 (tm 1)),
 o1 56 (.fieldAddr 33 (tm 55)),
 o1 57 (.load none (tm 56)),
 o1 58 (.mov (tm 8)),
 o1 59 (.indexSl 2 (tm 57) (tm 58)),
 o1 60 (.fieldAddr 0 (tm 59)),
 o1 61 (.load none (tm 60)),
 o1 62 (.fieldAddr 165 (tm 1)),
 o1 63 (.load none (tm 62)),
 o1 64 (.lenSl (tm 63)),
 o2 65 (.bin .geq (so (.binOp .geq 3 (tm 61) (tm 64) 3) 4) (tm 61) (tm 64))]) (.cond (tm 65)
 (.seq (.region [
 o1 2 (.mov (.const (.int .i64 3)))]) .ret)
 .skip))) (.region [
 o1 53 (.mov (tm 8)),
 o1 54 (.bin .add (so (.binOp .add 3 (tm 53) (.const (.int .i64 1)) 3) 3) (tm 53) (.const (.int .i64 1))),
 o1 8 (.mov (tm 54))])))
def zldQ_c : ACode :=
 (.seq (.region [
 o1 1 (.box 33 (tm 0)),
 o1 2 (.mov k0)]) (.seq (.region [
 o1 9 (.load (some 166) (tm 1)),
 o1 10 (.callV (.func 70) [(tm 9)]),
 o1 3 (.mov (tm 10))]) (.seq (.seq (.region [
 o1 11 (.mov (tm 3)),
 o1 12 (.bin .neq (so (.binOp .neq 34 (tm 11) k0 34) 4) (tm 11) k0)]) (.cond (tm 12)
 (.seq (.region [
 o1 13 (.mov (tm 3)),
 o1 2 (.mov (tm 13))]) .ret)
 .skip)) (.seq (.region [
 o1 15 (.fieldAddr 0 (tm 1)),
 o1 16 (.load (some 131) (tm 15)),
 o1 17 (.callV (.func 37) [(tm 16)]),
 o1 14 (.mov (tm 17)),
 o1 18 (.extract 0 (tm 14)),
 o1 19 (.extract 1 (tm 14)),
 o1 4 (.alloc 23 z32),
 o3 (.store 32 (tm 4) (tm 18)),
 o1 5 (.mov (tm 19))]) (.seq (.region [
 o1 21 (.fieldAddr 165 (tm 1)),
 o1 22 (.load none (tm 21)),
 o1 23 (.callV (.func 36) [(tm 22)]),
 o1 20 (.mov (tm 23)),
 o1 24 (.extract 0 (tm 20)),
 o1 25 (.extract 1 (tm 20)),
 o1 6 (.alloc 23 z32),
 o3 (.store 32 (tm 6) (tm 24)),
 o1 7 (.mov (tm 25))]) (.seq (.block 0 (.seq (.region [
 o1 27 (.fieldAddr 0 (tm 1)),
 o1 28 (.fieldAddr 35 (tm 27)),
 o1 29 (.load (some 32) (tm 28)),
 o1 30 (.load (some 32) (tm 6)),
 o1 31 (.bin .neq (so (.binOp .neq 23 (tm 29) (tm 30) 23) 4) (tm 29) (tm 30)),
 o1 32 (.mov (tm 31)),
 o5 33 (.fieldAddr 131 (tm 1)) 32,
 o5 34 (.fieldAddr 1 (tm 33)) 32,
 o5 35 (.load (some 32) (tm 34)) 32,
 o5 36 (.load (some 32) (tm 4)) 32,
 o5 37 (.bin .neq (so (.binOp .neq 23 (tm 35) (tm 36) 23) 4) (tm 35) (tm 36)) 32,
 o1 38 (.pick (tm 32) (.const (.bool true)) (tm 37)),
 o1 26 (.mov (tm 38))]) (.cond (tm 26)
 (.seq (.region [
 o1 2 (.mov (.const (.int .i64 12)))]) .ret)
 (.seq (.region [
 o1 40 (.fieldAddr 131 (tm 1)),
 o1 41 (.fieldAddr 0 (tm 40)),
 o1 42 (.load none (tm 41)),
 o1 43 (.fieldAddr 0 (tm 1)),
 o1 44 (.fieldAddr 1 (tm 43)),
 o1 45 (.load none (tm 44)),
 o1 46 (.bin .neq (so (.binOp .neq 3 (tm 42) (tm 45) 3) 4) (tm 42) (tm 45)),
 o1 39 (.mov (tm 46))]) (.cond (tm 39)
 (.seq (.region [
 o1 2 (.mov (.const (.int .i64 13)))]) .ret)
 .skip))))) (.seq (.seq (.region [
 o1 8 (.mov k0)]) (.block 1 (.loop zldQ_l0))) (.seq (.region [
 o1 2 (.mov k0)]) .ret))))))))
def zldQ : AFunc := ⟨66, [(2, none)], zldQ_c, none⟩
theorem zldQ_t0 : tableOf Tryz.prog 30 = some zldQ := by kernel_rfl
theorem zldQ_t : T0 30 = some zldQ := withKept_t rfl (withTrue_t rfl zldQ_t0)
theorem zldQ_runs {v0 : Value} {h : Heap} {R : RP} {X : XP} (k : RunC Tryz.prog T0 zldQ_c ⟨[v0, U, U, U, U, U, U, U, U, U, U, U, U, U, U, U, U, U, U, U, U, U, U, U, U, U, U, U, U, U, U, U, U, U, U, U, U, U, U, U, U, U, U, U, U, U, U, U, U, U, U, U, U, U, U, U, U, U, U, U, U, U, U, U, U, U], [], h, none⟩ (bodyQ Tryz.prog T0 [(2, none)] R X)) :
 Runs Tryz.prog T0 (.fn 30) [v0] h R X := Runs.fn zldQ_t rfl k
abbrev zldQ_l0_M : List Nat := [0, 0, 1, 0, 0, 0, 0, 0, 2, 0, 0, 0, 0, 0, 0, 0, 0, 0, 0, 0, 0, 0, 0, 0, 0, 0, 0, 0, 0, 0, 0, 0, 0, 0, 0, 0, 0, 0, 0, 0, 0, 0, 0, 0, 0, 0, 0, 1, 1, 1, 1, 1, 1, 1, 1, 1, 1, 1, 1, 1, 1, 1, 1, 1, 1, 1]
abbrev fn_zacQ : FuncId := 31
def zacQ_c : ACode :=
 (.seq (.region [
 o1 4 (.mov (.const (.bool false)))]) (.seq (.region [
 o1 5 (.mov (tm 0)),
 o1 6 (.bytesToStr (tm 5)),
 o1 7 (.mov (tm 1)),
 o1 8 (.bytesToStr (tm 7)),
 o1 9 (.bin .eql (so (.binOp .eql 9 (tm 6) (tm 8) 9) 4) (tm 6) (tm 8)),
 o1 4 (.mov (tm 9))]) .ret))
def zacQ : AFunc := ⟨10, [(4, none)], zacQ_c, none⟩
theorem zacQ_t0 : tableOf Tryz.prog 31 = some zacQ := by kernel_rfl
theorem zacQ_t : T0 31 = some zacQ := withKept_t rfl (withTrue_t rfl zacQ_t0)
theorem zacQ_runs {v0 v1 : Value} {h : Heap} {R : RP} {X : XP} (k : RunC Tryz.prog T0 zacQ_c ⟨[v0, v1, U, U, U, U, U, U, U, U], [], h, none⟩ (bodyQ Tryz.prog T0 [(4, none)] R X)) :
 Runs Tryz.prog T0 (.fn 31) [v0, v1] h R X := Runs.fn zacQ_t rfl k
abbrev fn_zybQ : FuncId := 32
def zybQ_l0 : ACode :=
 (.seq (.seq (.region [
 o1 3 (.mov (tm 2)),
 o1 4 (.mov (tm 0)),
 o1 5 (.lenSl (tm 4)),
 o1 6 (.bin .lss (so (.binOp .lss 3 (tm 3) (tm 5) 3) 4) (tm 3) (tm 5))]) (.cond (tm 6)
 .skip
 (.exit 0))) (.seq (.block 1 (.region [
 o1 9 (.mov (tm 0)),
 o1 10 (.mov (tm 2)),
 o1 11 (.mov (tm 0)),
 o1 12 (.mov (tm 2)),
 o1 13 (.indexSl 1 (tm 11) (tm 12)),
 o1 14 (.load none (tm 13)),
 o1 15 (.bin .xor (so (.binOp .xor 5 (tm 14) (.const (.int .u8 165)) 5) 5) (tm 14) (.const (.int .u8 165))),
 o1 16 (.indexSl 1 (tm 9) (tm 10)),
 o3 (.store 1 (tm 16) (tm 15))])) (.region [
 o1 7 (.mov (tm 2)),
 o1 8 (.bin .add (so (.binOp .add 3 (tm 7) (.const (.int .i64 1)) 3) 3) (tm 7) (.const (.int .i64 1))),
 o1 2 (.mov (tm 8))])))
def zybQ_c : ACode :=
 (.seq (.region [
 o1 2 (.mov k0)]) (.block 0 (.loop zybQ_l0)))
def zybQ : AFunc := ⟨17, [], zybQ_c, none⟩
theorem zybQ_t0 : tableOf Tryz.prog 32 = some zybQ := by kernel_rfl
theorem zybQ_t : T0 32 = some zybQ := withKept_t rfl (withTrue_t rfl zybQ_t0)
theorem zybQ_runs {v0 : Value} {h : Heap} {R : RP} {X : XP} (k : RunC Tryz.prog T0 zybQ_c ⟨[v0, U, U, U, U, U, U, U, U, U, U, U, U, U, U, U, U], [], h, none⟩ (bodyQ Tryz.prog T0 [] R X)) :
 Runs Tryz.prog T0 (.fn 32) [v0] h R X := Runs.fn zybQ_t rfl k
abbrev zybQ_l0_M : List Nat := [0, 0, 2, 1, 1, 1, 1, 1, 1, 1, 1, 1, 1, 1, 1, 1, 1]
abbrev fn_zydQ : FuncId := 33
def zydQ_c : ACode :=
 (.seq (.region [
 o1 2 (.alloc 23 z32),
 o1 3 (.mov k0)]) (.seq (.region [
 o1 7 (.mov (tm 0)),
 o1 8 (.callV (.func 23) [(tm 7)]),
 o1 6 (.mov (tm 8)),
 o1 9 (.extract 0 (tm 6)),
 o1 10 (.extract 1 (tm 6)),
 o1 4 (.mov (tm 9)),
 o1 5 (.mov (tm 10))]) (.seq (.seq (.region [
 o1 11 (.mov (tm 5)),
 o1 12 (.bin .neq (so (.binOp .neq 34 (tm 11) k0 34) 4) (tm 11) k0)]) (.cond (tm 12)
 (.seq (.region [
 o1 13 (.build z32 []),
 o1 14 (.mov (tm 5)),
 o3 (.store 32 (tm 2) (tm 13)),
 o1 3 (.mov (tm 14))]) .ret)
 .skip)) (.seq (.region [
 o1 15 (.mov (tm 4)),
 o1 16 (.callV (.func 77) [(tm 15)]),
 o3 (.store 32 (tm 2) (tm 16)),
 o1 3 (.mov k0)]) .ret))))
def zydQ : AFunc := ⟨17, [(2, some (some 32)), (3, none)], zydQ_c, none⟩
theorem zydQ_t0 : tableOf Tryz.prog 33 = some zydQ := by kernel_rfl
theorem zydQ_t : T0 33 = some zydQ := withKept_t rfl (withTrue_t rfl zydQ_t0)
theorem zydQ_runs {v0 : Value} {h : Heap} {R : RP} {X : XP} (k : RunC Tryz.prog T0 zydQ_c ⟨[v0, U, U, U, U, U, U, U, U, U, U, U, U, U, U, U, U], [], h, none⟩ (bodyQ Tryz.prog T0 [(2, some (some 32)), (3, none)] R X)) :
 Runs Tryz.prog T0 (.fn 33) [v0] h R X := Runs.fn zydQ_t rfl k
abbrev fn_zjbQ : FuncId := 34
def zjbQ_c : ACode :=
 (.seq (.region [
 o1 1 (.box 25 (tm 0)),
 o1 2 (.alloc 23 z32),
 o1 3 (.mov k0)]) (.seq (.region [
 o1 7 (.load (some 131) (tm 1)),
 o1 8 (.callV (.func 61) [(tm 7)]),
 o1 6 (.mov (tm 8)),
 o1 9 (.extract 0 (tm 6)),
 o1 10 (.extract 1 (tm 6)),
 o1 4 (.mov (tm 9)),
 o1 5 (.mov (tm 10))]) (.seq (.seq (.region [
 o1 11 (.mov (tm 5)),
 o1 12 (.bin .neq (so (.binOp .neq 34 (tm 11) k0 34) 4) (tm 11) k0)]) (.cond (tm 12)
 (.seq (.region [
 o1 13 (.build z32 []),
 o1 14 (.mov (tm 5)),
 o3 (.store 32 (tm 2) (tm 13)),
 o1 3 (.mov (tm 14))]) .ret)
 .skip)) (.seq (.region [
 o1 15 (.buildSlice 5 [(.int .u8 0)] 1 [(0, 1, (.const (.int .u8 72)))]),
 o1 16 (.mov (tm 4)),
 o1 17 (.append 5 1 1 [(.int .u8 0)] false (tm 15) (tm 16)),
 o1 18 (.callV (.func 77) [(tm 17)]),
 o3 (.store 32 (tm 2) (tm 18)),
 o1 3 (.mov k0)]) .ret))))
def zjbQ : AFunc := ⟨19, [(2, some (some 32)), (3, none)], zjbQ_c, none⟩
theorem zjbQ_t0 : tableOf Tryz.prog 34 = some zjbQ := by kernel_rfl
theorem zjbQ_t : T0 34 = some zjbQ := withKept_t rfl (withTrue_t rfl zjbQ_t0)
theorem zjbQ_runs {v0 : Value} {h : Heap} {R : RP} {X : XP} (k : RunC Tryz.prog T0 zjbQ_c ⟨[v0, U, U, U, U, U, U, U, U, U, U, U, U, U, U, U, U, U, U], [], h, none⟩ (bodyQ Tryz.prog T0 [(2, some (some 32)), (3, none)] R X)) :
 Runs Tryz.prog T0 (.fn 34) [v0] h R X := Runs.fn zjbQ_t rfl k
abbrev fn_zadQ : FuncId := 36
def zadQ_c : ACode :=
 (.seq (.region [
 o1 2 (.alloc 23 z32),
 o1 3 (.mov k0)]) (.seq (.region [
 o1 7 (.mov (tm 0)),
 o1 8 (.callV (.func 73) [(tm 7)]),
 o1 6 (.mov (tm 8)),
 o1 9 (.extract 0 (tm 6)),
 o1 10 (.extract 1 (tm 6)),
 o1 4 (.mov (tm 9)),
 o1 5 (.mov (tm 10))]) (.seq (.seq (.region [
 o1 11 (.mov (tm 5)),
 o1 12 (.bin .neq (so (.binOp .neq 34 (tm 11) k0 34) 4) (tm 11) k0)]) (.cond (tm 12)
 (.seq (.region [
 o1 13 (.build z32 []),
 o1 14 (.mov (tm 5)),
 o3 (.store 32 (tm 2) (tm 13)),
 o1 3 (.mov (tm 14))]) .ret)
 .skip)) (.seq (.region [
 o1 15 (.mov (tm 4)),
 o1 16 (.callV (.func 78) [(tm 15)]),
 o3 (.store 32 (tm 2) (tm 16)),
 o1 3 (.mov k0)]) .ret))))
def zadQ : AFunc := ⟨17, [(2, some (some 32)), (3, none)], zadQ_c, none⟩
theorem zadQ_t0 : tableOf Tryz.prog 36 = some zadQ := by kernel_rfl
theorem zadQ_t : T0 36 = some zadQ := withKept_t rfl (withTrue_t rfl zadQ_t0)
theorem zadQ_runs {v0 : Value} {h : Heap} {R : RP} {X : XP} (k : RunC Tryz.prog T0 zadQ_c ⟨[v0, U, U, U, U, U, U, U, U, U, U, U, U, U, U, U, U], [], h, none⟩ (bodyQ Tryz.prog T0 [(2, some (some 32)), (3, none)] R X)) :
 Runs Tryz.prog T0 (.fn 36) [v0] h R X := Runs.fn zadQ_t rfl k
abbrev fn_zedQ : FuncId := 37
def zedQ_c : ACode :=
 (.seq (.region [
 o1 1 (.box 25 (tm 0)),
 o1 2 (.alloc 23 z32),
 o1 3 (.mov k0)]) (.seq (.region [
 o1 7 (.load (some 131) (tm 1)),
 o1 8 (.callV (.func 71) [(tm 7)]),
 o1 6 (.mov (tm 8)),
 o1 9 (.extract 0 (tm 6)),
 o1 10 (.extract 1 (tm 6)),
 o1 4 (.mov (tm 9)),
 o1 5 (.mov (tm 10))]) (.seq (.seq (.region [
 o1 11 (.mov (tm 5)),
 o1 12 (.bin .neq (so (.binOp .neq 34 (tm 11) k0 34) 4) (tm 11) k0)]) (.cond (tm 12)
 (.seq (.region [
 o1 13 (.build z32 []),
 o1 14 (.mov (tm 5)),
 o3 (.store 32 (tm 2) (tm 13)),
 o1 3 (.mov (tm 14))]) .ret)
 .skip)) (.seq (.region [
 o1 15 (.buildSlice 5 [(.int .u8 0)] 1 [(0, 1, (.const (.int .u8 72)))]),
 o1 16 (.mov (tm 4)),
 o1 17 (.append 5 1 1 [(.int .u8 0)] false (tm 15) (tm 16)),
 o1 18 (.callV (.func 78) [(tm 17)]),
 o3 (.store 32 (tm 2) (tm 18)),
 o1 3 (.mov k0)]) .ret))))
def zedQ : AFunc := ⟨19, [(2, some (some 32)), (3, none)], zedQ_c, none⟩
theorem zedQ_t0 : tableOf Tryz.prog 37 = some zedQ := by kernel_rfl
theorem zedQ_t : T0 37 = some zedQ := withKept_t rfl (withTrue_t rfl zedQ_t0)
theorem zedQ_runs {v0 : Value} {h : Heap} {R : RP} {X : XP} (k : RunC Tryz.prog T0 zedQ_c ⟨[v0, U, U, U, U, U, U, U, U, U, U, U, U, U, U, U, U, U, U], [], h, none⟩ (bodyQ Tryz.prog T0 [(2, some (some 32)), (3, none)] R X)) :
 Runs Tryz.prog T0 (.fn 37) [v0] h R X := Runs.fn zedQ_t rfl k
abbrev fn_zbcQ : FuncId := 38
def zbcQ_c : ACode :=
 (.seq (.region [
 o1 2 (.box 31 (tm 0)),
 o1 3 (.box 31 (tm 1)),
 o1 4 (.mov (.const (.bool false)))]) (.seq (.region [
 o1 5 (.fieldAddr 0 (tm 2)),
 o1 6 (.load none (tm 5)),
 o1 7 (.fieldAddr 0 (tm 3)),
 o1 8 (.load none (tm 7)),
 o1 9 (.bin .eql (so (.binOp .eql 3 (tm 6) (tm 8) 3) 4) (tm 6) (tm 8)),
 o1 10 (.mov (tm 9)),
 o4 11 (.fieldAddr 1 (tm 2)) 10,
 o4 12 (.load (some 32) (tm 11)) 10,
 o4 13 (.fieldAddr 1 (tm 3)) 10,
 o4 14 (.load (some 32) (tm 13)) 10,
 o4 15 (.bin .eql (so (.binOp .eql 23 (tm 12) (tm 14) 23) 4) (tm 12) (tm 14)) 10,
 o1 16 (.pick (tm 10) (tm 15) (.const (.bool false))),
 o1 17 (.mov (tm 16)),
 o4 18 (.fieldAddr 33 (tm 2)) 17,
 o4 19 (.load none (tm 18)) 17,
 o4 20 (.fieldAddr 33 (tm 3)) 17,
 o4 21 (.load none (tm 20)) 17,
 o4 22 (.callV (.func 79) [(tm 19), (tm 21)]) 17,
 o1 23 (.pick (tm 17) (tm 22) (.const (.bool false))),
 o1 4 (.mov (tm 23))]) .ret))
def zbcQ : AFunc := ⟨24, [(4, none)], zbcQ_c, none⟩
theorem zbcQ_t0 : tableOf Tryz.prog 38 = some zbcQ := by kernel_rfl
theorem zbcQ_t : T0 38 = some zbcQ := withKept_t rfl (withTrue_t rfl zbcQ_t0)
theorem zbcQ_runs {v0 v1 : Value} {h : Heap} {R : RP} {X : XP} (k : RunC Tryz.prog T0 zbcQ_c ⟨[v0, v1, U, U, U, U, U, U, U, U, U, U, U, U, U, U, U, U, U, U, U, U, U, U], [], h, none⟩ (bodyQ Tryz.prog T0 [(4, none)] R X)) :
 Runs Tryz.prog T0 (.fn 38) [v0, v1] h R X := Runs.fn zbcQ_t rfl k
abbrev fn_zvbQ : FuncId := 55
def zvbQ_c : ACode :=
 (.seq (.region [
 o1 1 (.box 31 (tm 0)),
 o1 2 (.alloc 31 ((.int .i64 0) :: (z32 ++ [(.slice none 0 0)])))]) (.seq (.region [
 o1 3 (.buildSlice 109 [] 0 []),
 o1 4 (.fieldAddr 33 (tm 1)),
 o1 5 (.load none (tm 4)),
 o1 6 (.append 109 2 16 [(.int .i64 0), (.int .u64 0)] false (tm 3) (tm 5)),
 o1 7 (.fieldAddr 33 (tm 1)),
 o3 (.store 1 (tm 7) (tm 6))]) (.seq (.region [
 o1 8 (.load (some 34) (tm 1)),
 o3 (.store 34 (tm 2) (tm 8))]) .ret)))
def zvbQ : AFunc := ⟨9, [(2, some (some 34))], zvbQ_c, none⟩
theorem zvbQ_t0 : tableOf Tryz.prog 55 = some zvbQ := by kernel_rfl
theorem zvbQ_t : T0 55 = some zvbQ := withKept_t rfl (withTrue_t rfl zvbQ_t0)
theorem zvbQ_runs {v0 : Value} {h : Heap} {R : RP} {X : XP} (k : RunC Tryz.prog T0 zvbQ_c ⟨[v0, U, U, U, U, U, U, U, U], [], h, none⟩ (bodyQ Tryz.prog T0 [(2, some (some 34))] R X)) :
 Runs Tryz.prog T0 (.fn 55) [v0] h R X := Runs.fn zvbQ_t rfl k
abbrev fn_zrQ : FuncId := 56
def zrQ_ra0 : Code := (rangeParts (subCode ((Tryz.prog.funcs[56]?).bind (·.body)) [true, false, true, false])).1
def zrQ_rb0 : Code := (rangeParts (subCode ((Tryz.prog.funcs[56]?).bind (·.body)) [true, false, true, false])).2
def zrQ_a0 : ACode :=
 (.region [
 o1 3 (.mov (tm 5))])
def zrQ_b0 : ACode :=
 (.block 1 (.seq (.region [
 o1 6 (.mov (tm 3)),
 o1 7 (.bin .neq (so (.binOp .neq 34 (tm 6) k0 34) 4) (tm 6) k0)]) (.cond (tm 7)
 (.seq (.region [
 o1 8 (.mov (tm 3)),
 o3 (.store 1 (tm 2) (tm 8))]) .ret)
 .skip)))
theorem zrQ_ca0 : comp Tryz.prog zrQ_ra0 = some zrQ_a0 := by kernel_rfl
theorem zrQ_cb0 : comp Tryz.prog zrQ_rb0 = some zrQ_b0 := by kernel_rfl
theorem zrQ_na0 : noDefer zrQ_ra0 = true := by kernel_rfl
theorem zrQ_nb0 : noDefer zrQ_rb0 = true := by kernel_rfl
def zrQ_c : ACode :=
 (.seq (.region [
 o1 2 (.alloc 34 [(.int .i64 0)])]) (.seq (.seq (.region [
 o1 4 (.mov (tm 0))]) (.block 0 (.rangeFunc (tm 4) [5] zrQ_ra0 zrQ_rb0))) (.seq (.region [
 o3 (.store 1 (tm 2) k0)]) .ret)))
def zrQ : AFunc := ⟨9, [(2, some none)], zrQ_c, none⟩
theorem zrQ_t0 : tableOf Tryz.prog 56 = some zrQ := by kernel_rfl
theorem zrQ_t : T0 56 = some zrQ := withKept_t rfl (withTrue_t rfl zrQ_t0)
theorem zrQ_runs {v0 : Value} {h : Heap} {R : RP} {X : XP} (k : RunC Tryz.prog T0 zrQ_c ⟨[v0, U, U, U, U, U, U, U, U], [], h, none⟩ (bodyQ Tryz.prog T0 [(2, some none)] R X)) :
 Runs Tryz.prog T0 (.fn 56) [v0] h R X := Runs.fn zrQ_t rfl k
abbrev fn_zpQ : FuncId := 57
def zpQ_c : ACode :=
 (.seq (.region [
 o1 1 (.box 93 (tm 0)),
 o1 2 (.mov (.const .nilFunc))]) (.seq (.region [
 o1 3 (.mkFunc (.func 102) [] [(tm 1)]),
 o1 2 (.mov (tm 3))]) .ret))
def zpQ : AFunc := ⟨4, [(2, none)], zpQ_c, none⟩
theorem zpQ_t0 : tableOf Tryz.prog 57 = some zpQ := by kernel_rfl
theorem zpQ_t : T0 57 = some zpQ := withKept_t rfl (withTrue_t rfl zpQ_t0)
theorem zpQ_runs {v0 : Value} {h : Heap} {R : RP} {X : XP} (k : RunC Tryz.prog T0 zpQ_c ⟨[v0, U, U, U], [], h, none⟩ (bodyQ Tryz.prog T0 [(2, none)] R X)) :
 Runs Tryz.prog T0 (.fn 57) [v0] h R X := Runs.fn zpQ_t rfl k
abbrev fn_zwQ : FuncId := 58
def zwQ_c : ACode :=
 (.seq (.region [
 o1 1 (.box 33 (tm 0)),
 o1 2 (.mov (.const (.slice none 0 0)))]) (.seq (.region [
 o1 3 (.mkFunc (.func 103) [] [(tm 1)]),
 o1 4 (.mkFunc (.func 104) [] [(tm 1)]),
 o1 5 (.mkFunc (.func 105) [] [(tm 1)]),
 o1 6 (.buildSlice 131 [.nilFunc, .nilFunc, .nilFunc] 3 [(0, 1, (tm 3)), (1, 1, (tm 4)), (2, 1, (tm 5))]),
 o1 2 (.mov (tm 6))]) .ret))
def zwQ : AFunc := ⟨7, [(2, none)], zwQ_c, none⟩
theorem zwQ_t0 : tableOf Tryz.prog 58 = some zwQ := by kernel_rfl
theorem zwQ_t : T0 58 = some zwQ := withKept_t rfl (withTrue_t rfl zwQ_t0)
theorem zwQ_runs {v0 : Value} {h : Heap} {R : RP} {X : XP} (k : RunC Tryz.prog T0 zwQ_c ⟨[v0, U, U, U, U, U, U], [], h, none⟩ (bodyQ Tryz.prog T0 [(2, none)] R X)) :
 Runs Tryz.prog T0 (.fn 58) [v0] h R X := Runs.fn zwQ_t rfl k
abbrev fn_zsQ : FuncId := 59
def zsQ_c : ACode :=
 (.seq (.region [
 o1 1 (.box 33 (tm 0)),
 o1 2 (.mov (.const (.slice none 0 0)))]) (.seq (.region [
 o1 3 (.mkFunc (.func 106) [] [(tm 1)]),
 o1 4 (.mkFunc (.func 108) [] [(tm 1)]),
 o1 5 (.mkFunc (.func 109) [] [(tm 1)]),
 o1 6 (.buildSlice 131 [.nilFunc, .nilFunc, .nilFunc] 3 [(0, 1, (tm 3)), (1, 1, (tm 4)), (2, 1, (tm 5))]),
 o1 2 (.mov (tm 6))]) .ret))
def zsQ : AFunc := ⟨7, [(2, none)], zsQ_c, none⟩
theorem zsQ_t0 : tableOf Tryz.prog 59 = some zsQ := by kernel_rfl
theorem zsQ_t : T0 59 = some zsQ := withKept_t rfl (withTrue_t rfl zsQ_t0)
theorem zsQ_runs {v0 : Value} {h : Heap} {R : RP} {X : XP} (k : RunC Tryz.prog T0 zsQ_c ⟨[v0, U, U, U, U, U, U], [], h, none⟩ (bodyQ Tryz.prog T0 [(2, none)] R X)) :
 Runs Tryz.prog T0 (.fn 59) [v0] h R X := Runs.fn zsQ_t rfl k
abbrev fn_zaeQ : FuncId := 60
def zaeQ_c : ACode :=
 (.seq (.region [
 o1 2 (.mov (.const (.pointer none))),
 o1 3 (.mov k0)]) (.seq (.seq (.region [
 o1 4 (.mov (tm 0)),
 o1 5 (.bin .lss (so (.binOp .lss 3 (tm 4) k0 3) 4) (tm 4) k0),
 o1 6 (.mov (tm 5)),
 o5 7 (.mov (tm 0)) 6,
 o5 8 (.bin .gtr (so (.binOp .gtr 3 (tm 7) (.const (.int .i64 1048576)) 3) 4) (tm 7) (.const (.int .i64 1048576))) 6,
 o1 9 (.pick (tm 6) (.const (.bool true)) (tm 8))]) (.cond (tm 9)
 (.seq (.region [
 o1 2 (.mov (.const (.pointer none))),
 o1 3 (.mov (.const (.int .i64 3)))]) .ret)
 .skip)) (.seq (.region [
 o1 10 (.mov (tm 0)),
 o1 11 (.build [(.int .i64 0), (.slice none 0 0), (.int .i64 0), (.bool false)] [(0, 1, (tm 10)), (3, 1, (.const (.bool true)))]),
 o1 12 (.box 137 (tm 11)),
 o1 2 (.mov (tm 12)),
 o1 3 (.mov k0)]) .ret)))
def zaeQ : AFunc := ⟨13, [(2, none), (3, none)], zaeQ_c, none⟩
theorem zaeQ_t0 : tableOf Tryz.prog 60 = some zaeQ := by kernel_rfl
theorem zaeQ_t : T0 60 = some zaeQ := withKept_t rfl (withTrue_t rfl zaeQ_t0)
theorem zaeQ_runs {v0 : Value} {h : Heap} {R : RP} {X : XP} (k : RunC Tryz.prog T0 zaeQ_c ⟨[v0, U, U, U, U, U, U, U, U, U, U, U, U], [], h, none⟩ (bodyQ Tryz.prog T0 [(2, none), (3, none)] R X)) :
 Runs Tryz.prog T0 (.fn 60) [v0] h R X := Runs.fn zaeQ_t rfl k
abbrev fn_zibQ : FuncId := 61
def zibQ_l0 : ACode :=
 (.seq (.region [
 o1 32 (.bin .lss (so (.binOp .lss 3 (tm 31) (.const (.int .i64 4)) 3) 0) (tm 31) (.const (.int .i64 4)))]) (.seq (.cond (tm 32)
 .skip
 (.exit 0)) (.seq (.block 1 (.seq (.region [
 o1 33 (.index 4 1 none (tm 30) (tm 31)),
 o1 8 (.mov (tm 33))]) (.region [
 o1 34 (.mov (tm 5)),
 o1 35 (.mov (tm 8)),
 o1 36 (.nilCheck (tm 35)),
 o1 37 (.load (some 32) (tm 36)),
 o1 38 (.callV (.func 112) [(tm 34), (tm 37)])]))) (.region [
 o1 39 (.bin .add (so (.binOp .add 3 (tm 31) (.const (.int .i64 1)) 3) 3) (tm 31) (.const (.int .i64 1))),
 o1 31 (.mov (tm 39))]))))
def zibQ_c : ACode :=
 (.seq (.region [
 o1 1 (.box 25 (tm 0)),
 o1 2 (.mov (.const (.slice none 0 0))),
 o1 3 (.mov k0)]) (.seq (.seq (.region [
 o1 9 (.load (some 131) (tm 1)),
 o1 10 (.callV (.func 87) [(tm 9)]),
 o1 4 (.mov (tm 10))]) (.seq (.region [
 o1 11 (.mov (tm 4)),
 o1 12 (.bin .neq (so (.binOp .neq 34 (tm 11) k0 34) 4) (tm 11) k0)]) (.cond (tm 12)
 (.seq (.region [
 o1 13 (.mov (tm 4)),
 o1 2 (.mov (.const (.slice none 0 0))),
 o1 3 (.mov (tm 13))]) .ret)
 .skip))) (.seq (.region [
 o1 15 (.callV (.func 60) [(.const (.int .i64 65536))]),
 o1 14 (.mov (tm 15)),
 o1 16 (.extract 0 (tm 14)),
 o1 17 (.extract 1 (tm 14)),
 o1 5 (.mov (tm 16)),
 o1 6 (.mov (tm 17))]) (.seq (.region [
 o1 18 (.mov (tm 5)),
 o1 19 (.fieldAddr 0 (tm 1)),
 o1 20 (.load none (tm 19)),
 o1 21 (.callV (.func 111) [(tm 18), (tm 20)])]) (.seq (.region [
 o1 22 (.mov (tm 5)),
 o1 23 (.fieldAddr 1 (tm 1)),
 o1 24 (.load none (tm 23)),
 o1 25 (.callV (.func 66) [(tm 22), (tm 24)])]) (.seq (.region [
 o1 26 (.mov (tm 5)),
 o1 27 (.fieldAddr 2 (tm 1)),
 o1 28 (.load none (tm 27)),
 o1 29 (.callV (.func 66) [(tm 26), (tm 28)])]) (.seq (.seq (.region [
 o1 30 (.callV (.func 85) [(tm 1)]),
 o1 31 (.mov k0)]) (.block 0 (.loop zibQ_l0))) (.seq (.region [
 o1 40 (.mov (tm 5)),
 o1 41 (.callV (.func 64) [(tm 40)]),
 o1 42 (.extract 0 (tm 41)),
 o1 43 (.extract 1 (tm 41)),
 o1 2 (.mov (tm 42)),
 o1 3 (.mov (tm 43))]) .ret))))))))
def zibQ : AFunc := ⟨44, [(2, none), (3, none)], zibQ_c, none⟩
theorem zibQ_t0 : tableOf Tryz.prog 61 = some zibQ := by kernel_rfl
theorem zibQ_t : T0 61 = some zibQ := withKept_t rfl (withTrue_t rfl zibQ_t0)
theorem zibQ_runs {v0 : Value} {h : Heap} {R : RP} {X : XP} (k : RunC Tryz.prog T0 zibQ_c ⟨[v0, U, U, U, U, U, U, U, U, U, U, U, U, U, U, U, U, U, U, U, U, U, U, U, U, U, U, U, U, U, U, U, U, U, U, U, U, U, U, U, U, U, U, U], [], h, none⟩ (bodyQ Tryz.prog T0 [(2, none), (3, none)] R X)) :
 Runs Tryz.prog T0 (.fn 61) [v0] h R X := Runs.fn zibQ_t rfl k
abbrev zibQ_l0_M : List Nat := [0, 0, 0, 0, 0, 0, 0, 0, 1, 0, 0, 0, 0, 0, 0, 0, 0, 0, 0, 0, 0, 0, 0, 0, 0, 0, 0, 0, 0, 0, 0, 2, 1, 1, 1, 1, 1, 1, 1, 1, 0, 0, 0, 0]
abbrev fn_zdbQ : FuncId := 62
def zdbQ_l0 : ACode :=
 (.seq (.region [
 o1 35 (.bin .lss (so (.binOp .lss 3 (tm 34) (tm 33) 3) 0) (tm 34) (tm 33))]) (.seq (.cond (tm 35)
 .skip
 (.exit 0)) (.seq (.block 1 (.seq (.region [
 o1 36 (.indexSl 2 (tm 32) (tm 34)),
 o1 37 (.load (some 2) (tm 36)),
 o1 8 (.alloc 109 [(.int .i64 0), (.int .u64 0)]),
 o3 (.store 2 (tm 8) (tm 37))]) (.seq (.region [
 o1 38 (.mov (tm 5)),
 o1 39 (.fieldAddr 0 (tm 8)),
 o1 40 (.load none (tm 39)),
 o1 41 (.callV (.func 66) [(tm 38), (tm 40)])]) (.region [
 o1 42 (.mov (tm 5)),
 o1 43 (.fieldAddr 1 (tm 8)),
 o1 44 (.load none (tm 43)),
 o1 45 (.callV (.func 113) [(tm 42), (tm 44)])])))) (.region [
 o1 46 (.bin .add (so (.binOp .add 3 (tm 34) (.const (.int .i64 1)) 3) 3) (tm 34) (.const (.int .i64 1))),
 o1 34 (.mov (tm 46))]))))
def zdbQ_c : ACode :=
 (.seq (.region [
 o1 1 (.box 31 (tm 0)),
 o1 2 (.mov (.const (.slice none 0 0))),
 o1 3 (.mov k0)]) (.seq (.seq (.region [
 o1 9 (.load (some 34) (tm 1)),
 o1 10 (.callV (.func 89) [(tm 9)]),
 o1 4 (.mov (tm 10))]) (.seq (.region [
 o1 11 (.mov (tm 4)),
 o1 12 (.bin .neq (so (.binOp .neq 34 (tm 11) k0 34) 4) (tm 11) k0)]) (.cond (tm 12)
 (.seq (.region [
 o1 13 (.mov (tm 4)),
 o1 2 (.mov (.const (.slice none 0 0))),
 o1 3 (.mov (tm 13))]) .ret)
 .skip))) (.seq (.region [
 o1 15 (.callV (.func 60) [(.const (.int .i64 1048576))]),
 o1 14 (.mov (tm 15)),
 o1 16 (.extract 0 (tm 14)),
 o1 17 (.extract 1 (tm 14)),
 o1 5 (.mov (tm 16)),
 o1 6 (.mov (tm 17))]) (.seq (.region [
 o1 18 (.mov (tm 5)),
 o1 19 (.fieldAddr 0 (tm 1)),
 o1 20 (.load none (tm 19)),
 o1 21 (.callV (.func 66) [(tm 18), (tm 20)])]) (.seq (.region [
 o1 22 (.mov (tm 5)),
 o1 23 (.fieldAddr 1 (tm 1)),
 o1 24 (.load (some 32) (tm 23)),
 o1 25 (.callV (.func 112) [(tm 22), (tm 24)])]) (.seq (.region [
 o1 26 (.mov (tm 5)),
 o1 27 (.fieldAddr 33 (tm 1)),
 o1 28 (.load none (tm 27)),
 o1 29 (.lenSl (tm 28)),
 o1 30 (.callV (.func 66) [(tm 26), (tm 29)])]) (.seq (.seq (.region [
 o1 31 (.fieldAddr 33 (tm 1)),
 o1 32 (.load none (tm 31)),
 o1 33 (.lenSl (tm 32)),
 o1 34 (.mov k0)]) (.block 0 (.loop zdbQ_l0))) (.seq (.region [
 o1 47 (.mov (tm 5)),
 o1 48 (.callV (.func 64) [(tm 47)]),
 o1 49 (.extract 0 (tm 48)),
 o1 50 (.extract 1 (tm 48)),
 o1 2 (.mov (tm 49)),
 o1 3 (.mov (tm 50))]) .ret))))))))
def zdbQ : AFunc := ⟨51, [(2, none), (3, none)], zdbQ_c, none⟩
theorem zdbQ_t0 : tableOf Tryz.prog 62 = some zdbQ := by kernel_rfl
theorem zdbQ_t : T0 62 = some zdbQ := withKept_t rfl (withTrue_t rfl zdbQ_t0)
theorem zdbQ_runs {v0 : Value} {h : Heap} {R : RP} {X : XP} (k : RunC Tryz.prog T0 zdbQ_c ⟨[v0, U, U, U, U, U, U, U, U, U, U, U, U, U, U, U, U, U, U, U, U, U, U, U, U, U, U, U, U, U, U, U, U, U, U, U, U, U, U, U, U, U, U, U, U, U, U, U, U, U, U], [], h, none⟩ (bodyQ Tryz.prog T0 [(2, none), (3, none)] R X)) :
 Runs Tryz.prog T0 (.fn 62) [v0] h R X := Runs.fn zdbQ_t rfl k
abbrev zdbQ_l0_M : List Nat := [0, 0, 0, 0, 0, 0, 0, 0, 1, 0, 0, 0, 0, 0, 0, 0, 0, 0, 0, 0, 0, 0, 0, 0, 0, 0, 0, 0, 0, 0, 0, 0, 0, 0, 2, 1, 1, 1, 1, 1, 1, 1, 1, 1, 1, 1, 1, 0, 0, 0, 0]
abbrev fn_zbeQ : FuncId := 63
def zbeQ_c : ACode :=
 (.seq (.region [
 o1 4 (.mov k0)]) (.seq (.region [
 o1 5 (.mov (tm 0)),
 o1 6 (.mov (tm 1)),
 o1 7 (.lenSl (tm 6)),
 o1 8 (.callV (.func 115) [(tm 7)]),
 o1 9 (.mov (tm 1)),
 o1 10 (.buildSlice 41 [(.slice none 0 0), (.slice none 0 0)] 2 [(0, 1, (tm 8)), (1, 1, (tm 9))]),
 o1 11 (.callV (.func 114) [(tm 5), (.const (.bool true)), (tm 10)]),
 o1 4 (.mov (tm 11))]) .ret))
def zbeQ : AFunc := ⟨12, [(4, none)], zbeQ_c, none⟩
theorem zbeQ_t0 : tableOf Tryz.prog 63 = some zbeQ := by kernel_rfl
theorem zbeQ_t : T0 63 = some zbeQ := withKept_t rfl (withTrue_t rfl zbeQ_t0)
theorem zbeQ_runs {v0 v1 : Value} {h : Heap} {R : RP} {X : XP} (k : RunC Tryz.prog T0 zbeQ_c ⟨[v0, v1, U, U, U, U, U, U, U, U, U, U], [], h, none⟩ (bodyQ Tryz.prog T0 [(4, none)] R X)) :
 Runs Tryz.prog T0 (.fn 63) [v0, v1] h R X := Runs.fn zbeQ_t rfl k
abbrev fn_zceQ : FuncId := 64
def zceQ_c : ACode :=
 (.seq (.region [
 o1 2 (.mov (.const (.slice none 0 0))),
 o1 3 (.mov k0)]) (.seq (.block 0 (.seq (.region [
 o1 5 (.mov (tm 0)),
 o1 6 (.eq .ptr false (so (.binOp .eql 95 (tm 5) (.const (.pointer none)) 95) 4) (tm 5) (.const (.pointer none))),
 o1 7 (.mov (tm 6)),
 o5 8 (.mov (tm 0)) 7,
 o5 9 (.nilCheck (tm 8)) 7,
 o5 10 (.fieldAddr 3 (tm 9)) 7,
 o5 11 (.load none (tm 10)) 7,
 o5 12 (.raw (so (.unOp .not 4 (tm 11)) 4)) 7,
 o1 13 (.pick (tm 7) (.const (.bool true)) (tm 12)),
 o1 4 (.mov (tm 13))]) (.cond (tm 4)
 (.seq (.region [
 o1 2 (.mov (.const (.slice none 0 0))),
 o1 3 (.mov (.const (.int .i64 1)))]) .ret)
 (.seq (.region [
 o1 15 (.mov (tm 0)),
 o1 16 (.nilCheck (tm 15)),
 o1 17 (.fieldAddr 2 (tm 16)),
 o1 18 (.load none (tm 17)),
 o1 19 (.bin .neq (so (.binOp .neq 34 (tm 18) k0 34) 4) (tm 18) k0),
 o1 14 (.mov (tm 19))]) (.cond (tm 14)
 (.seq (.regionD [
 o1 20 (.mov (tm 0)),
 o1 21 (.nilCheck (tm 20)),
 o1 22 (.fieldAddr 2 (tm 21)),
 o1 23 (.load none (tm 22)),
 o1 2 (.mov (.const (.slice none 0 0))),
 o2 3 (.mov (tm 23))]) .ret)
 .skip))))) (.seq (.region [
 o1 24 (.mov (tm 0)),
 o1 25 (.nilCheck (tm 24)),
 o1 26 (.fieldAddr 1 (tm 25)),
 o1 27 (.load none (tm 26)),
 o1 28 (.callV (.func 80) [(tm 27)]),
 o1 2 (.mov (tm 28)),
 o1 3 (.mov k0)]) .ret)))
def zceQ : AFunc := ⟨29, [(2, none), (3, none)], zceQ_c, none⟩
theorem zceQ_t0 : tableOf Tryz.prog 64 = some zceQ := by kernel_rfl
theorem zceQ_t : T0 64 = some zceQ := withKept_t rfl (withTrue_t rfl zceQ_t0)
theorem zceQ_runs {v0 : Value} {h : Heap} {R : RP} {X : XP} (k : RunC Tryz.prog T0 zceQ_c ⟨[v0, U, U, U, U, U, U, U, U, U, U, U, U, U, U, U, U, U, U, U, U, U, U, U, U, U, U, U, U], [], h, none⟩ (bodyQ Tryz.prog T0 [(2, none), (3, none)] R X)) :
 Runs Tryz.prog T0 (.fn 64) [v0] h R X := Runs.fn zceQ_t rfl k
abbrev fn_zwdQ : FuncId := 65
def zwdQ_l0 : ACode :=
 (.seq (.region [
 o1 19 (.bin .lss (so (.binOp .lss 3 (tm 18) (tm 17) 3) 0) (tm 18) (tm 17))]) (.seq (.cond (tm 19)
 .skip
 (.exit 1)) (.seq (.block 2 (.seq (.region [
 o1 20 (.indexSl 5 (tm 16) (tm 18)),
 o1 21 (.load (some 5) (tm 20)),
 o1 5 (.alloc 66 [(.int .u8 0), (.int .u8 0), (.int .u8 0), (.int .u8 0), (.int .i64 0)]),
 o3 (.store 5 (tm 5) (tm 21))]) (.seq (.region [
 o1 22 (.load (some 5) (tm 5)),
 o1 23 (.callV (.func 116) [(tm 3), (tm 22)]),
 o1 6 (.mov (tm 23))]) (.seq (.region [
 o1 24 (.mov (tm 6)),
 o1 25 (.bin .neq (so (.binOp .neq 34 (tm 24) k0 34) 4) (tm 24) k0)]) (.cond (tm 25)
 (.seq (.region [
 o1 26 (.mov (tm 6)),
 o1 2 (.mov (tm 26))]) .ret)
 .skip))))) (.region [
 o1 27 (.bin .add (so (.binOp .add 3 (tm 18) (.const (.int .i64 1)) 3) 3) (tm 18) (.const (.int .i64 1))),
 o1 18 (.mov (tm 27))]))))
def zwdQ_c : ACode :=
 (.seq (.region [
 o1 2 (.mov k0)]) (.seq (.block 0 (.seq (.region [
 o1 8 (.mov (tm 0)),
 o1 9 (.lenSl (tm 8)),
 o1 10 (.bin .eql (so (.binOp .eql 3 (tm 9) k0 3) 4) (tm 9) k0),
 o1 7 (.mov (tm 10))]) (.cond (tm 7)
 (.seq (.region [
 o1 2 (.mov (.const (.int .i64 6)))]) .ret)
 (.seq (.region [
 o1 12 (.mov (tm 0)),
 o1 13 (.lenSl (tm 12)),
 o1 14 (.bin .gtr (so (.binOp .gtr 3 (tm 13) (.const (.int .i64 64)) 3) 4) (tm 13) (.const (.int .i64 64))),
 o1 11 (.mov (tm 14))]) (.cond (tm 11)
 (.seq (.region [
 o1 2 (.mov (.const (.int .i64 4)))]) .ret)
 .skip))))) (.seq (.region [
 o1 15 (.build [(.int .u8 0), (.int .u8 0), (.int .u8 0), (.int .u8 0), (.bool false), (.int .i64 0), (.int .i64 0)] [(5, 1, (.const (.int .i64 1))), (6, 1, (.const (.int .i64 4611686018427387904)))]),
 o1 3 (.alloc 143 [(.int .u8 0), (.int .u8 0), (.int .u8 0), (.int .u8 0), (.bool false), (.int .i64 0), (.int .i64 0)]),
 o3 (.store 7 (tm 3) (tm 15))]) (.seq (.seq (.region [
 o1 16 (.mov (tm 0)),
 o1 17 (.lenSl (tm 16)),
 o1 18 (.mov k0)]) (.block 1 (.loop zwdQ_l0))) (.seq (.region [
 o1 2 (.mov k0)]) .ret)))))
def zwdQ : AFunc := ⟨28, [(2, none)], zwdQ_c, none⟩
theorem zwdQ_t0 : tableOf Tryz.prog 65 = some zwdQ := by kernel_rfl
theorem zwdQ_t : T0 65 = some zwdQ := withKept_t rfl (withTrue_t rfl zwdQ_t0)
theorem zwdQ_runs {v0 : Value} {h : Heap} {R : RP} {X : XP} (k : RunC Tryz.prog T0 zwdQ_c ⟨[v0, U, U, U, U, U, U, U, U, U, U, U, U, U, U, U, U, U, U, U, U, U, U, U, U, U, U, U], [], h, none⟩ (bodyQ Tryz.prog T0 [(2, none)] R X)) :
 Runs Tryz.prog T0 (.fn 65) [v0] h R X := Runs.fn zwdQ_t rfl k
abbrev zwdQ_l0_M : List Nat := [0, 0, 1, 0, 0, 1, 1, 0, 0, 0, 0, 0, 0, 0, 0, 0, 0, 0, 2, 1, 1, 1, 1, 1, 1, 1, 1, 1]
abbrev fn_zfeQ : FuncId := 66
def zfeQ_c : ACode :=
 (.seq (.region [
 o1 4 (.mov k0)]) (.seq (.region [
 o1 5 (.mov (tm 0)),
 o1 6 (.mov (tm 1)),
 o1 7 (.bin .geq (so (.binOp .geq 3 (tm 6) k0 3) 4) (tm 6) k0),
 o1 8 (.mov (tm 1)),
 o1 9 (.raw (so (.call ⟨.builtin .max, #[(tm 8), k0], #[3, 3]⟩) 3)),
 o1 10 (.callV (.func 115) [(tm 9)]),
 o1 11 (.buildSlice 41 [(.slice none 0 0)] 1 [(0, 1, (tm 10))]),
 o1 12 (.callV (.func 114) [(tm 5), (tm 7), (tm 11)]),
 o1 4 (.mov (tm 12))]) .ret))
def zfeQ : AFunc := ⟨13, [(4, none)], zfeQ_c, none⟩
theorem zfeQ_t0 : tableOf Tryz.prog 66 = some zfeQ := by kernel_rfl
theorem zfeQ_t : T0 66 = some zfeQ := withKept_t rfl (withTrue_t rfl zfeQ_t0)
theorem zfeQ_runs {v0 v1 : Value} {h : Heap} {R : RP} {X : XP} (k : RunC Tryz.prog T0 zfeQ_c ⟨[v0, v1, U, U, U, U, U, U, U, U, U, U, U], [], h, none⟩ (bodyQ Tryz.prog T0 [(4, none)] R X)) :
 Runs Tryz.prog T0 (.fn 66) [v0, v1] h R X := Runs.fn zfeQ_t rfl k
abbrev fn_zeeQ : FuncId := 67
def zeeQ_c : ACode :=
 (.seq (.region [
 o1 3 (.box 64 (tm 1)),
 o1 4 (.mov k0)]) (.seq (.region [
 o1 5 (.mov (tm 0)),
 o1 6 (.sliceArr 4 1 (tm 3) none none),
 o1 7 (.buildSlice 41 [(.slice none 0 0)] 1 [(0, 1, (tm 6))]),
 o1 8 (.callV (.func 114) [(tm 5), (.const (.bool true)), (tm 7)]),
 o1 4 (.mov (tm 8))]) .ret))
def zeeQ : AFunc := ⟨9, [(4, none)], zeeQ_c, none⟩
theorem zeeQ_t0 : tableOf Tryz.prog 67 = some zeeQ := by kernel_rfl
theorem zeeQ_t : T0 67 = some zeeQ := withKept_t rfl (withTrue_t rfl zeeQ_t0)
theorem zeeQ_runs {v0 v1 : Value} {h : Heap} {R : RP} {X : XP} (k : RunC Tryz.prog T0 zeeQ_c ⟨[v0, v1, U, U, U, U, U, U, U], [], h, none⟩ (bodyQ Tryz.prog T0 [(4, none)] R X)) :
 Runs Tryz.prog T0 (.fn 67) [v0, v1] h R X := Runs.fn zeeQ_t rfl k
abbrev fn_zrdQ : FuncId := 68
def zrdQ_l0 : ACode :=
 (.seq (.region [
 o1 14 (.bin .lss (so (.binOp .lss 3 (tm 13) (tm 12) 3) 0) (tm 13) (tm 12))]) (.seq (.cond (tm 14)
 .skip
 (.exit 0)) (.seq (.block 1 (.seq (.region [
 o1 15 (.mov (tm 13)),
 o1 5 (.mov (tm 15))]) (.seq (.regionD [
 o1 16 (.mov (tm 0)),
 o1 17 (.mov (tm 5)),
 o1 18 (.indexSl 2 (tm 16) (tm 17)),
 o1 19 (.load (some 2) (tm 18)),
 o1 20 (.mov (tm 1)),
 o1 21 (.mov (tm 5)),
 o1 22 (.indexSl 2 (tm 20) (tm 21)),
 o1 23 (.load (some 2) (tm 22)),
 o2 24 (.bin .neq (so (.binOp .neq 109 (tm 19) (tm 23) 109) 4) (tm 19) (tm 23))]) (.cond (tm 24)
 (.seq (.region [
 o1 4 (.mov (.const (.bool false)))]) .ret)
 .skip)))) (.region [
 o1 25 (.bin .add (so (.binOp .add 3 (tm 13) (.const (.int .i64 1)) 3) 3) (tm 13) (.const (.int .i64 1))),
 o1 13 (.mov (tm 25))]))))
def zrdQ_c : ACode :=
 (.seq (.region [
 o1 4 (.mov (.const (.bool false)))]) (.seq (.seq (.region [
 o1 6 (.mov (tm 0)),
 o1 7 (.lenSl (tm 6)),
 o1 8 (.mov (tm 1)),
 o1 9 (.lenSl (tm 8)),
 o1 10 (.bin .neq (so (.binOp .neq 3 (tm 7) (tm 9) 3) 4) (tm 7) (tm 9))]) (.cond (tm 10)
 (.seq (.region [
 o1 4 (.mov (.const (.bool false)))]) .ret)
 .skip)) (.seq (.seq (.region [
 o1 11 (.mov (tm 0)),
 o1 12 (.lenSl (tm 11)),
 o1 13 (.mov k0)]) (.block 0 (.loop zrdQ_l0))) (.seq (.region [
 o1 4 (.mov (.const (.bool true)))]) .ret))))
def zrdQ : AFunc := ⟨26, [(4, none)], zrdQ_c, none⟩
theorem zrdQ_t0 : tableOf Tryz.prog 68 = some zrdQ := by kernel_rfl
theorem zrdQ_t : T0 68 = some zrdQ := withKept_t rfl (withTrue_t rfl zrdQ_t0)
theorem zrdQ_runs {v0 v1 : Value} {h : Heap} {R : RP} {X : XP} (k : RunC Tryz.prog T0 zrdQ_c ⟨[v0, v1, U, U, U, U, U, U, U, U, U, U, U, U, U, U, U, U, U, U, U, U, U, U, U, U], [], h, none⟩ (bodyQ Tryz.prog T0 [(4, none)] R X)) :
 Runs Tryz.prog T0 (.fn 68) [v0, v1] h R X := Runs.fn zrdQ_t rfl k
abbrev zrdQ_l0_M : List Nat := [0, 0, 0, 0, 1, 1, 0, 0, 0, 0, 0, 0, 0, 2, 1, 1, 1, 1, 1, 1, 1, 1, 1, 1, 1, 1]
abbrev fn_zqdQ : FuncId := 69
def zqdQ_l0 : ACode :=
 (.seq (.region [
 o1 14 (.bin .lss (so (.binOp .lss 3 (tm 13) (tm 12) 3) 0) (tm 13) (tm 12))]) (.seq (.cond (tm 14)
 .skip
 (.exit 0)) (.seq (.block 1 (.seq (.region [
 o1 15 (.mov (tm 13)),
 o1 5 (.mov (tm 15))]) (.seq (.regionD [
 o1 16 (.mov (tm 0)),
 o1 17 (.mov (tm 5)),
 o1 18 (.indexSl 5 (tm 16) (tm 17)),
 o1 19 (.load (some 5) (tm 18)),
 o1 20 (.mov (tm 1)),
 o1 21 (.mov (tm 5)),
 o1 22 (.indexSl 5 (tm 20) (tm 21)),
 o1 23 (.load (some 5) (tm 22)),
 o2 24 (.bin .neq (so (.binOp .neq 66 (tm 19) (tm 23) 66) 4) (tm 19) (tm 23))]) (.cond (tm 24)
 (.seq (.region [
 o1 4 (.mov (.const (.bool false)))]) .ret)
 .skip)))) (.region [
 o1 25 (.bin .add (so (.binOp .add 3 (tm 13) (.const (.int .i64 1)) 3) 3) (tm 13) (.const (.int .i64 1))),
 o1 13 (.mov (tm 25))]))))
def zqdQ_c : ACode :=
 (.seq (.region [
 o1 4 (.mov (.const (.bool false)))]) (.seq (.seq (.region [
 o1 6 (.mov (tm 0)),
 o1 7 (.lenSl (tm 6)),
 o1 8 (.mov (tm 1)),
 o1 9 (.lenSl (tm 8)),
 o1 10 (.bin .neq (so (.binOp .neq 3 (tm 7) (tm 9) 3) 4) (tm 7) (tm 9))]) (.cond (tm 10)
 (.seq (.region [
 o1 4 (.mov (.const (.bool false)))]) .ret)
 .skip)) (.seq (.seq (.region [
 o1 11 (.mov (tm 0)),
 o1 12 (.lenSl (tm 11)),
 o1 13 (.mov k0)]) (.block 0 (.loop zqdQ_l0))) (.seq (.region [
 o1 4 (.mov (.const (.bool true)))]) .ret))))
def zqdQ : AFunc := ⟨26, [(4, none)], zqdQ_c, none⟩
theorem zqdQ_t0 : tableOf Tryz.prog 69 = some zqdQ := by kernel_rfl
theorem zqdQ_t : T0 69 = some zqdQ := withKept_t rfl (withTrue_t rfl zqdQ_t0)
theorem zqdQ_runs {v0 v1 : Value} {h : Heap} {R : RP} {X : XP} (k : RunC Tryz.prog T0 zqdQ_c ⟨[v0, v1, U, U, U, U, U, U, U, U, U, U, U, U, U, U, U, U, U, U, U, U, U, U, U, U], [], h, none⟩ (bodyQ Tryz.prog T0 [(4, none)] R X)) :
 Runs Tryz.prog T0 (.fn 69) [v0, v1] h R X := Runs.fn zqdQ_t rfl k
abbrev zqdQ_l0_M : List Nat := [0, 0, 0, 0, 1, 1, 0, 0, 0, 0, 0, 0, 0, 2, 1, 1, 1, 1, 1, 1, 1, 1, 1, 1, 1, 1]
abbrev fn_zmdQ : FuncId := 70
def zmdQ_c : ACode :=
 (.seq (.region [
 o1 1 (.box 33 (tm 0)),
 o1 2 (.mov k0)]) (.seq (.region [
 o1 4 (.fieldAddr 0 (tm 1)),
 o1 5 (.load (some 131) (tm 4)),
 o1 6 (.callV (.func 95) [(tm 5)]),
 o1 3 (.mov (tm 6))]) (.seq (.seq (.region [
 o1 7 (.mov (tm 3)),
 o1 8 (.bin .eql (so (.binOp .eql 34 (tm 7) k0 34) 4) (tm 7) k0)]) (.cond (tm 8)
 (.region [
 o1 9 (.fieldAddr 165 (tm 1)),
 o1 10 (.load none (tm 9)),
 o1 11 (.callV (.func 101) [(tm 10)]),
 o1 3 (.mov (tm 11))])
 .skip)) (.seq (.seq (.region [
 o1 12 (.mov (tm 3)),
 o1 13 (.bin .eql (so (.binOp .eql 34 (tm 12) k0 34) 4) (tm 12) k0)]) (.cond (tm 13)
 (.region [
 o1 14 (.fieldAddr 131 (tm 1)),
 o1 15 (.load (some 34) (tm 14)),
 o1 16 (.callV (.func 99) [(tm 15)]),
 o1 3 (.mov (tm 16))])
 .skip)) (.seq (.region [
 o1 17 (.mov (tm 3)),
 o1 2 (.mov (tm 17))]) .ret)))))
def zmdQ : AFunc := ⟨18, [(2, none)], zmdQ_c, none⟩
theorem zmdQ_t0 : tableOf Tryz.prog 70 = some zmdQ := by kernel_rfl
theorem zmdQ_t : T0 70 = some zmdQ := withKept_t rfl (withTrue_t rfl zmdQ_t0)
theorem zmdQ_runs {v0 : Value} {h : Heap} {R : RP} {X : XP} (k : RunC Tryz.prog T0 zmdQ_c ⟨[v0, U, U, U, U, U, U, U, U, U, U, U, U, U, U, U, U, U], [], h, none⟩ (bodyQ Tryz.prog T0 [(2, none)] R X)) :
 Runs Tryz.prog T0 (.fn 70) [v0] h R X := Runs.fn zmdQ_t rfl k
abbrev fn_zddQ : FuncId := 71
def zddQ_c : ACode :=
 (.seq (.region [
 o1 1 (.box 25 (tm 0)),
 o1 2 (.mov (.const (.slice none 0 0))),
 o1 3 (.mov k0)]) (.seq (.region [
 o1 7 (.load (some 131) (tm 1)),
 o1 8 (.callV (.func 95) [(tm 7)]),
 o1 4 (.mov (tm 8))]) (.seq (.seq (.region [
 o1 9 (.mov (tm 4)),
 o1 10 (.bin .neq (so (.binOp .neq 34 (tm 9) k0 34) 4) (tm 9) k0)]) (.cond (tm 10)
 (.seq (.region [
 o1 11 (.mov (tm 4)),
 o1 2 (.mov (.const (.slice none 0 0))),
 o1 3 (.mov (tm 11))]) .ret)
 .skip)) (.seq (.region [
 o1 13 (.callV (.func 74) [(.const (.int .i64 1048576))]),
 o1 12 (.mov (tm 13)),
 o1 14 (.extract 0 (tm 12)),
 o1 15 (.extract 1 (tm 12)),
 o1 5 (.mov (tm 14)),
 o1 6 (.mov (tm 15))]) (.seq (.region [
 o1 16 (.mov (tm 5)),
 o1 17 (.load (some 131) (tm 1)),
 o1 18 (.callV (.func 117) [(tm 16), (tm 17)])]) (.seq (.region [
 o1 19 (.mov (tm 5)),
 o1 20 (.callV (.func 76) [(tm 19)]),
 o1 21 (.extract 0 (tm 20)),
 o1 22 (.extract 1 (tm 20)),
 o1 2 (.mov (tm 21)),
 o1 3 (.mov (tm 22))]) .ret))))))
def zddQ : AFunc := ⟨23, [(2, none), (3, none)], zddQ_c, none⟩
theorem zddQ_t0 : tableOf Tryz.prog 71 = some zddQ := by kernel_rfl
theorem zddQ_t : T0 71 = some zddQ := withKept_t rfl (withTrue_t rfl zddQ_t0)
theorem zddQ_runs {v0 : Value} {h : Heap} {R : RP} {X : XP} (k : RunC Tryz.prog T0 zddQ_c ⟨[v0, U, U, U, U, U, U, U, U, U, U, U, U, U, U, U, U, U, U, U, U, U, U], [], h, none⟩ (bodyQ Tryz.prog T0 [(2, none), (3, none)] R X)) :
 Runs Tryz.prog T0 (.fn 71) [v0] h R X := Runs.fn zddQ_t rfl k
abbrev fn_zidQ : FuncId := 72
def zidQ_l0 : ACode :=
 (.seq (.seq (.region [
 o1 30 (.mov (tm 7)),
 o1 31 (.fieldAddr 33 (tm 1)),
 o1 32 (.load none (tm 31)),
 o1 33 (.lenSl (tm 32)),
 o1 34 (.bin .lss (so (.binOp .lss 3 (tm 30) (tm 33) 3) 4) (tm 30) (tm 33))]) (.cond (tm 34)
 .skip
 (.exit 0))) (.seq (.block 1 (.seq (.region [
 o1 37 (.mov (tm 5)),
 o1 38 (.fieldAddr 33 (tm 1)),
 o1 39 (.load none (tm 38)),
 o1 40 (.mov (tm 7)),
 o1 41 (.indexSl 2 (tm 39) (tm 40)),
 o1 42 (.fieldAddr 0 (tm 41)),
 o1 43 (.load none (tm 42)),
 o1 44 (.callV (.func 118) [(tm 37), (tm 43)])]) (.region [
 o1 45 (.mov (tm 5)),
 o1 46 (.fieldAddr 33 (tm 1)),
 o1 47 (.load none (tm 46)),
 o1 48 (.mov (tm 7)),
 o1 49 (.indexSl 2 (tm 47) (tm 48)),
 o1 50 (.fieldAddr 1 (tm 49)),
 o1 51 (.load none (tm 50)),
 o1 52 (.callV (.func 120) [(tm 45), (tm 51)])]))) (.region [
 o1 35 (.mov (tm 7)),
 o1 36 (.bin .add (so (.binOp .add 3 (tm 35) (.const (.int .i64 1)) 3) 3) (tm 35) (.const (.int .i64 1))),
 o1 7 (.mov (tm 36))])))
def zidQ_c : ACode :=
 (.seq (.region [
 o1 1 (.box 31 (tm 0)),
 o1 2 (.mov (.const (.slice none 0 0))),
 o1 3 (.mov k0)]) (.seq (.region [
 o1 8 (.load (some 34) (tm 1)),
 o1 9 (.callV (.func 99) [(tm 8)]),
 o1 4 (.mov (tm 9))]) (.seq (.seq (.region [
 o1 10 (.mov (tm 4)),
 o1 11 (.bin .neq (so (.binOp .neq 34 (tm 10) k0 34) 4) (tm 10) k0)]) (.cond (tm 11)
 (.seq (.region [
 o1 12 (.mov (tm 4)),
 o1 2 (.mov (.const (.slice none 0 0))),
 o1 3 (.mov (tm 12))]) .ret)
 .skip)) (.seq (.region [
 o1 14 (.callV (.func 74) [(.const (.int .i64 65536))]),
 o1 13 (.mov (tm 14)),
 o1 15 (.extract 0 (tm 13)),
 o1 16 (.extract 1 (tm 13)),
 o1 5 (.mov (tm 15)),
 o1 6 (.mov (tm 16))]) (.seq (.region [
 o1 17 (.mov (tm 5)),
 o1 18 (.fieldAddr 0 (tm 1)),
 o1 19 (.load none (tm 18)),
 o1 20 (.callV (.func 118) [(tm 17), (tm 19)])]) (.seq (.region [
 o1 21 (.mov (tm 5)),
 o1 22 (.fieldAddr 1 (tm 1)),
 o1 23 (.load (some 32) (tm 22)),
 o1 24 (.callV (.func 119) [(tm 21), (tm 23)])]) (.seq (.region [
 o1 25 (.mov (tm 5)),
 o1 26 (.fieldAddr 33 (tm 1)),
 o1 27 (.load none (tm 26)),
 o1 28 (.lenSl (tm 27)),
 o1 29 (.callV (.func 118) [(tm 25), (tm 28)])]) (.seq (.seq (.region [
 o1 7 (.mov k0)]) (.block 0 (.loop zidQ_l0))) (.seq (.region [
 o1 53 (.mov (tm 5)),
 o1 54 (.callV (.func 76) [(tm 53)]),
 o1 55 (.extract 0 (tm 54)),
 o1 56 (.extract 1 (tm 54)),
 o1 2 (.mov (tm 55)),
 o1 3 (.mov (tm 56))]) .ret)))))))))
def zidQ : AFunc := ⟨57, [(2, none), (3, none)], zidQ_c, none⟩
theorem zidQ_t0 : tableOf Tryz.prog 72 = some zidQ := by kernel_rfl
theorem zidQ_t : T0 72 = some zidQ := withKept_t rfl (withTrue_t rfl zidQ_t0)
theorem zidQ_runs {v0 : Value} {h : Heap} {R : RP} {X : XP} (k : RunC Tryz.prog T0 zidQ_c ⟨[v0, U, U, U, U, U, U, U, U, U, U, U, U, U, U, U, U, U, U, U, U, U, U, U, U, U, U, U, U, U, U, U, U, U, U, U, U, U, U, U, U, U, U, U, U, U, U, U, U, U, U, U, U, U, U, U, U], [], h, none⟩ (bodyQ Tryz.prog T0 [(2, none), (3, none)] R X)) :
 Runs Tryz.prog T0 (.fn 72) [v0] h R X := Runs.fn zidQ_t rfl k
abbrev zidQ_l0_M : List Nat := [0, 0, 0, 0, 0, 0, 0, 2, 0, 0, 0, 0, 0, 0, 0, 0, 0, 0, 0, 0, 0, 0, 0, 0, 0, 0, 0, 0, 0, 0, 1, 1, 1, 1, 1, 1, 1, 1, 1, 1, 1, 1, 1, 1, 1, 1, 1, 1, 1, 1, 1, 1, 1, 0, 0, 0, 0]
abbrev fn_zzcQ : FuncId := 73
def zzcQ_l0 : ACode :=
 (.seq (.seq (.region [
 o1 21 (.mov (tm 7)),
 o1 22 (.mov (tm 0)),
 o1 23 (.lenSl (tm 22)),
 o1 24 (.bin .lss (so (.binOp .lss 3 (tm 21) (tm 23) 3) 4) (tm 21) (tm 23))]) (.cond (tm 24)
 .skip
 (.exit 0))) (.seq (.block 1 (.seq (.region [
 o1 27 (.mov (tm 5)),
 o1 28 (.mov (tm 0)),
 o1 29 (.mov (tm 7)),
 o1 30 (.indexSl 5 (tm 28) (tm 29)),
 o1 31 (.fieldAddr 0 (tm 30)),
 o1 32 (.load (some 4) (tm 31)),
 o1 33 (.callV (.func 121) [(tm 27), (tm 32)])]) (.region [
 o1 34 (.mov (tm 5)),
 o1 35 (.mov (tm 0)),
 o1 36 (.mov (tm 7)),
 o1 37 (.indexSl 5 (tm 35) (tm 36)),
 o1 38 (.fieldAddr 4 (tm 37)),
 o1 39 (.load none (tm 38)),
 o1 40 (.callV (.func 118) [(tm 34), (tm 39)])]))) (.region [
 o1 25 (.mov (tm 7)),
 o1 26 (.bin .add (so (.binOp .add 3 (tm 25) (.const (.int .i64 1)) 3) 3) (tm 25) (.const (.int .i64 1))),
 o1 7 (.mov (tm 26))])))
def zzcQ_c : ACode :=
 (.seq (.region [
 o1 2 (.mov (.const (.slice none 0 0))),
 o1 3 (.mov k0)]) (.seq (.region [
 o1 8 (.mov (tm 0)),
 o1 9 (.callV (.func 101) [(tm 8)]),
 o1 4 (.mov (tm 9))]) (.seq (.seq (.region [
 o1 10 (.mov (tm 4)),
 o1 11 (.bin .neq (so (.binOp .neq 34 (tm 10) k0 34) 4) (tm 10) k0)]) (.cond (tm 11)
 (.seq (.region [
 o1 12 (.mov (tm 4)),
 o1 2 (.mov (.const (.slice none 0 0))),
 o1 3 (.mov (tm 12))]) .ret)
 .skip)) (.seq (.region [
 o1 14 (.callV (.func 74) [(.const (.int .i64 65536))]),
 o1 13 (.mov (tm 14)),
 o1 15 (.extract 0 (tm 13)),
 o1 16 (.extract 1 (tm 13)),
 o1 5 (.mov (tm 15)),
 o1 6 (.mov (tm 16))]) (.seq (.region [
 o1 17 (.mov (tm 5)),
 o1 18 (.mov (tm 0)),
 o1 19 (.lenSl (tm 18)),
 o1 20 (.callV (.func 118) [(tm 17), (tm 19)])]) (.seq (.seq (.region [
 o1 7 (.mov k0)]) (.block 0 (.loop zzcQ_l0))) (.seq (.region [
 o1 41 (.mov (tm 5)),
 o1 42 (.callV (.func 76) [(tm 41)]),
 o1 43 (.extract 0 (tm 42)),
 o1 44 (.extract 1 (tm 42)),
 o1 2 (.mov (tm 43)),
 o1 3 (.mov (tm 44))]) .ret)))))))
def zzcQ : AFunc := ⟨45, [(2, none), (3, none)], zzcQ_c, none⟩
theorem zzcQ_t0 : tableOf Tryz.prog 73 = some zzcQ := by kernel_rfl
theorem zzcQ_t : T0 73 = some zzcQ := withKept_t rfl (withTrue_t rfl zzcQ_t0)
theorem zzcQ_runs {v0 : Value} {h : Heap} {R : RP} {X : XP} (k : RunC Tryz.prog T0 zzcQ_c ⟨[v0, U, U, U, U, U, U, U, U, U, U, U, U, U, U, U, U, U, U, U, U, U, U, U, U, U, U, U, U, U, U, U, U, U, U, U, U, U, U, U, U, U, U, U, U], [], h, none⟩ (bodyQ Tryz.prog T0 [(2, none), (3, none)] R X)) :
 Runs Tryz.prog T0 (.fn 73) [v0] h R X := Runs.fn zzcQ_t rfl k
abbrev zzcQ_l0_M : List Nat := [0, 0, 0, 0, 0, 0, 0, 2, 0, 0, 0, 0, 0, 0, 0, 0, 0, 0, 0, 0, 0, 1, 1, 1, 1, 1, 1, 1, 1, 1, 1, 1, 1, 1, 1, 1, 1, 1, 1, 1, 1, 0, 0, 0, 0]
abbrev fn_zncQ : FuncId := 74
def zncQ_c : ACode :=
 (.seq (.region [
 o1 2 (.mov (.const (.pointer none))),
 o1 3 (.mov k0)]) (.seq (.seq (.region [
 o1 4 (.mov (tm 0)),
 o1 5 (.bin .lss (so (.binOp .lss 3 (tm 4) k0 3) 4) (tm 4) k0),
 o1 6 (.mov (tm 5)),
 o5 7 (.mov (tm 0)) 6,
 o5 8 (.bin .gtr (so (.binOp .gtr 3 (tm 7) (.const (.int .i64 1048576)) 3) 4) (tm 7) (.const (.int .i64 1048576))) 6,
 o1 9 (.pick (tm 6) (.const (.bool true)) (tm 8))]) (.cond (tm 9)
 (.seq (.region [
 o1 2 (.mov (.const (.pointer none))),
 o1 3 (.mov (.const (.int .i64 3)))]) .ret)
 .skip)) (.seq (.region [
 o1 10 (.mov (tm 0)),
 o1 11 (.build [(.int .i64 0), (.slice none 0 0), (.int .i64 0)] [(0, 1, (tm 10))]),
 o1 12 (.box 147 (tm 11)),
 o1 2 (.mov (tm 12)),
 o1 3 (.mov k0)]) .ret)))
def zncQ : AFunc := ⟨13, [(2, none), (3, none)], zncQ_c, none⟩
theorem zncQ_t0 : tableOf Tryz.prog 74 = some zncQ := by kernel_rfl
theorem zncQ_t : T0 74 = some zncQ := withKept_t rfl (withTrue_t rfl zncQ_t0)
theorem zncQ_runs {v0 : Value} {h : Heap} {R : RP} {X : XP} (k : RunC Tryz.prog T0 zncQ_c ⟨[v0, U, U, U, U, U, U, U, U, U, U, U, U], [], h, none⟩ (bodyQ Tryz.prog T0 [(2, none), (3, none)] R X)) :
 Runs Tryz.prog T0 (.fn 74) [v0] h R X := Runs.fn zncQ_t rfl k
abbrev fn_zqcQ : FuncId := 75
def zqcQ_c : ACode :=
 (.seq (.region [
 o1 4 (.mov k0)]) (.seq (.region [
 o1 5 (.mov (tm 0)),
 o1 6 (.mov (tm 1)),
 o1 7 (.callV (.func 123) [(tm 6)]),
 o1 8 (.callV (.func 122) [(tm 5), (tm 7)]),
 o1 4 (.mov (tm 8))]) .ret))
def zqcQ : AFunc := ⟨9, [(4, none)], zqcQ_c, none⟩
theorem zqcQ_t0 : tableOf Tryz.prog 75 = some zqcQ := by kernel_rfl
theorem zqcQ_t : T0 75 = some zqcQ := withKept_t rfl (withTrue_t rfl zqcQ_t0)
theorem zqcQ_runs {v0 v1 : Value} {h : Heap} {R : RP} {X : XP} (k : RunC Tryz.prog T0 zqcQ_c ⟨[v0, v1, U, U, U, U, U, U, U], [], h, none⟩ (bodyQ Tryz.prog T0 [(4, none)] R X)) :
 Runs Tryz.prog T0 (.fn 75) [v0, v1] h R X := Runs.fn zqcQ_t rfl k
abbrev fn_zrcQ : FuncId := 76
def zrcQ_c : ACode :=
 (.seq (.region [
 o1 2 (.mov (.const (.slice none 0 0))),
 o1 3 (.mov k0)]) (.seq (.seq (.region [
 o1 4 (.mov (tm 0)),
 o1 5 (.nilCheck (tm 4)),
 o1 6 (.fieldAddr 2 (tm 5)),
 o1 7 (.load none (tm 6)),
 o1 8 (.bin .neq (so (.binOp .neq 34 (tm 7) k0 34) 4) (tm 7) k0)]) (.cond (tm 8)
 (.seq (.regionD [
 o1 9 (.mov (tm 0)),
 o1 10 (.nilCheck (tm 9)),
 o1 11 (.fieldAddr 2 (tm 10)),
 o1 12 (.load none (tm 11)),
 o1 2 (.mov (.const (.slice none 0 0))),
 o2 3 (.mov (tm 12))]) .ret)
 .skip)) (.seq (.region [
 o1 13 (.buildSlice 5 [] 0 []),
 o1 14 (.mov (tm 0)),
 o1 15 (.nilCheck (tm 14)),
 o1 16 (.fieldAddr 1 (tm 15)),
 o1 17 (.load none (tm 16)),
 o1 18 (.append 5 1 1 [(.int .u8 0)] false (tm 13) (tm 17)),
 o1 2 (.mov (tm 18)),
 o1 3 (.mov k0)]) .ret)))
def zrcQ : AFunc := ⟨19, [(2, none), (3, none)], zrcQ_c, none⟩
theorem zrcQ_t0 : tableOf Tryz.prog 76 = some zrcQ := by kernel_rfl
theorem zrcQ_t : T0 76 = some zrcQ := withKept_t rfl (withTrue_t rfl zrcQ_t0)
theorem zrcQ_runs {v0 : Value} {h : Heap} {R : RP} {X : XP} (k : RunC Tryz.prog T0 zrcQ_c ⟨[v0, U, U, U, U, U, U, U, U, U, U, U, U, U, U, U, U, U, U], [], h, none⟩ (bodyQ Tryz.prog T0 [(2, none), (3, none)] R X)) :
 Runs Tryz.prog T0 (.fn 76) [v0] h R X := Runs.fn zrcQ_t rfl k
abbrev fn_zgcQ : FuncId := 78
def zgcQ_l0 : ACode :=
 (.seq (.seq (.region [
 o1 11 (.mov (tm 3)),
 o1 12 (.lenSl (tm 11)),
 o1 13 (.bin .eql (so (.binOp .eql 3 (tm 12) k0 3) 4) (tm 12) k0),
 o1 14 (.mov (tm 13)),
 o5 15 (.mov (tm 3)) 14,
 o5 16 (.lenSl (tm 15)) 14,
 o5 17 (.bin .rem (so (.binOp .rem 3 (tm 16) (.const (.int .i64 64)) 3) 3) (tm 16) (.const (.int .i64 64))) 14,
 o5 18 (.bin .neq (so (.binOp .neq 3 (tm 17) k0 3) 4) (tm 17) k0) 14,
 o1 19 (.pick (tm 14) (.const (.bool true)) (tm 18))]) (.cond (tm 19)
 .skip
 (.exit 0))) (.block 1 (.region [
 o1 20 (.mov (tm 3)),
 o1 21 (.buildSlice 5 [(.int .u8 0)] 1 [(0, 1, (.const (.int .u8 0)))]),
 o1 22 (.append 5 1 1 [(.int .u8 0)] false (tm 20) (tm 21)),
 o1 3 (.mov (tm 22))])))
def zgcQ_l1 : ACode :=
 (.seq (.seq (.region [
 o1 28 (.mov (tm 5)),
 o1 29 (.mov (tm 3)),
 o1 30 (.lenSl (tm 29)),
 o1 31 (.bin .lss (so (.binOp .lss 3 (tm 28) (tm 30) 3) 4) (tm 28) (tm 30))]) (.cond (tm 31)
 .skip
 (.exit 2))) (.seq (.block 3 (.regionD [
 o1 34 (.load (some 8) (tm 4)),
 o1 35 (.mov (tm 3)),
 o1 36 (.mov (tm 5)),
 o1 37 (.mov (tm 5)),
 o1 38 (.bin .add (so (.binOp .add 3 (tm 37) (.const (.int .i64 64)) 3) 3) (tm 37) (.const (.int .i64 64))),
 o1 39 (.sliceSl 1 (tm 35) (some (tm 36)) (some (tm 38)) none),
 o1 40 (.mov (tm 0)),
 o1 41 (.lenSl (tm 40)),
 o1 42 (.mov (tm 5)),
 o1 43 (.bin .add (so (.binOp .add 3 (tm 42) (.const (.int .i64 64)) 3) 3) (tm 42) (.const (.int .i64 64))),
 o1 44 (.raw (so (.call ⟨.builtin .min, #[(tm 41), (tm 43)], #[3, 3]⟩) 3)),
 o1 45 (.mov (tm 5)),
 o1 46 (.bin .add (so (.binOp .add 3 (tm 45) (.const (.int .i64 64)) 3) 3) (tm 45) (.const (.int .i64 64))),
 o1 47 (.mov (tm 3)),
 o1 48 (.lenSl (tm 47)),
 o1 49 (.bin .eql (so (.binOp .eql 3 (tm 46) (tm 48) 3) 4) (tm 46) (tm 48)),
 o2 50 (.callV (.func 128) [(tm 34), (tm 39), (tm 44), (tm 49)]),
 ⟨none, .store 8 (tm 4) (tm 50), none, [], true⟩])) (.region [
 o1 32 (.mov (tm 5)),
 o1 33 (.bin .add (so (.binOp .add 3 (tm 32) (.const (.int .i64 64)) 3) 3) (tm 32) (.const (.int .i64 64))),
 o1 5 (.mov (tm 33))])))
def zgcQ_l2 : ACode :=
 (.seq (.seq (.region [
 o1 51 (.mov (tm 7)),
 o1 52 (.bin .lss (so (.binOp .lss 3 (tm 51) (.const (.int .i64 32)) 3) 4) (tm 51) (.const (.int .i64 32)))]) (.cond (tm 52)
 .skip
 (.exit 4))) (.seq (.block 5 (.region [
 o1 55 (.mov (tm 7)),
 o1 56 (.mov (tm 7)),
 o1 57 (.bin .quo (so (.binOp .quo 3 (tm 56) (.const (.int .i64 4)) 3) 3) (tm 56) (.const (.int .i64 4))),
 o1 58 (.indexArr 8 1 (tm 4) (tm 57)),
 o1 59 (.load none (tm 58)),
 o1 60 (.mov (tm 7)),
 o1 61 (.bin .rem (so (.binOp .rem 3 (tm 60) (.const (.int .i64 4)) 3) 3) (tm 60) (.const (.int .i64 4))),
 o1 62 (.bin .mul (so (.binOp .mul 3 (.const (.int .i64 8)) (tm 61) 3) 3) (.const (.int .i64 8)) (tm 61)),
 o1 63 (.conv .u64 (so (.convert 3 155 (tm 62)) 155) (tm 62)),
 o1 64 (.bin .shr (so (.binOp .shr 151 (tm 59) (tm 63) 155) 151) (tm 59) (tm 63)),
 o1 65 (.conv .u8 (so (.convert 151 5 (tm 64)) 5) (tm 64)),
 o1 66 (.indexArr 32 1 (tm 6) (tm 55)),
 o3 (.store 1 (tm 66) (tm 65))])) (.region [
 o1 53 (.mov (tm 7)),
 o1 54 (.bin .add (so (.binOp .add 3 (tm 53) (.const (.int .i64 1)) 3) 3) (tm 53) (.const (.int .i64 1))),
 o1 7 (.mov (tm 54))])))
def zgcQ_c : ACode :=
 (.seq (.region [
 o1 2 (.alloc 23 z32)]) (.seq (.region [
 o1 8 (.buildSlice 5 [] 0 []),
 o1 9 (.mov (tm 0)),
 o1 10 (.append 5 1 1 [(.int .u8 0)] false (tm 8) (tm 9)),
 o1 3 (.mov (tm 10))]) (.seq (.block 0 (.loop zgcQ_l0)) (.seq (.region [
 o1 23 (.callV (.func 127) []),
 o1 4 (.alloc 152 [(.int .u32 0), (.int .u32 0), (.int .u32 0), (.int .u32 0), (.int .u32 0), (.int .u32 0), (.int .u32 0), (.int .u32 0)]),
 o3 (.store 8 (tm 4) (tm 23))]) (.seq (.region [
 o1 24 (.indexArr 8 1 (tm 4) k0),
 o1 25 (.load none (tm 24)),
 o1 26 (.bin .xor (so (.binOp .xor 151 (tm 25) (.const (.int .u32 16842784)) 151) 151) (tm 25) (.const (.int .u32 16842784))),
 o1 27 (.indexArr 8 1 (tm 4) k0),
 o3 (.store 1 (tm 27) (tm 26))]) (.seq (.seq (.region [
 o1 5 (.mov k0)]) (.block 2 (.loop zgcQ_l1))) (.seq (.region [
 o1 6 (.alloc 23 z32)]) (.seq (.seq (.region [
 o1 7 (.mov k0)]) (.block 4 (.loop zgcQ_l2))) (.seq (.region [
 o1 67 (.load (some 32) (tm 6)),
 o3 (.store 32 (tm 2) (tm 67))]) .ret)))))))))
def zgcQ : AFunc := ⟨68, [(2, some (some 32))], zgcQ_c, none⟩
theorem zgcQ_t0 : tableOf Tryz.prog 78 = some zgcQ := by kernel_rfl
theorem zgcQ_t : T0 78 = some zgcQ := withKept_t rfl (withTrue_t rfl zgcQ_t0)
theorem zgcQ_runs {v0 : Value} {h : Heap} {R : RP} {X : XP} (k : RunC Tryz.prog T0 zgcQ_c ⟨[v0, U, U, U, U, U, U, U, U, U, U, U, U, U, U, U, U, U, U, U, U, U, U, U, U, U, U, U, U, U, U, U, U, U, U, U, U, U, U, U, U, U, U, U, U, U, U, U, U, U, U, U, U, U, U, U, U, U, U, U, U, U, U, U, U, U, U, U], [], h, none⟩ (bodyQ Tryz.prog T0 [(2, some (some 32))] R X)) :
 Runs Tryz.prog T0 (.fn 78) [v0] h R X := Runs.fn zgcQ_t rfl k
abbrev zgcQ_l0_M : List Nat := [0, 0, 0, 2, 0, 0, 0, 0, 0, 0, 0, 1, 1, 1, 1, 1, 1, 1, 1, 1, 1, 1, 1, 0, 0, 0, 0, 0, 0, 0, 0, 0, 0, 0, 0, 0, 0, 0, 0, 0, 0, 0, 0, 0, 0, 0, 0, 0, 0, 0, 0, 0, 0, 0, 0, 0, 0, 0, 0, 0, 0, 0, 0, 0, 0, 0, 0, 0]
abbrev zgcQ_l1_M : List Nat := [0, 0, 0, 0, 0, 2, 0, 0, 0, 0, 0, 0, 0, 0, 0, 0, 0, 0, 0, 0, 0, 0, 0, 0, 0, 0, 0, 0, 1, 1, 1, 1, 1, 1, 1, 1, 1, 1, 1, 1, 1, 1, 1, 1, 1, 1, 1, 1, 1, 1, 1, 0, 0, 0, 0, 0, 0, 0, 0, 0, 0, 0, 0, 0, 0, 0, 0, 0]
abbrev zgcQ_l2_M : List Nat := [0, 0, 0, 0, 0, 0, 0, 2, 0, 0, 0, 0, 0, 0, 0, 0, 0, 0, 0, 0, 0, 0, 0, 0, 0, 0, 0, 0, 0, 0, 0, 0, 0, 0, 0, 0, 0, 0, 0, 0, 0, 0, 0, 0, 0, 0, 0, 0, 0, 0, 0, 1, 1, 1, 1, 1, 1, 1, 1, 1, 1, 1, 1, 1, 1, 1, 1, 0]
abbrev fn_zdcQ : FuncId := 79
def zdcQ_l0 : ACode :=
 (.seq (.seq (.region [
 o1 12 (.mov (tm 5)),
 o1 13 (.mov (tm 12)),
 o4 14 (.mov (tm 6)) 13,
 o4 15 (.mov (tm 0)) 13,
 o4 16 (.lenSl (tm 15)) 13,
 o4 17 (.bin .lss (so (.binOp .lss 3 (tm 14) (tm 16) 3) 4) (tm 14) (tm 16)) 13,
 o1 18 (.pick (tm 13) (tm 17) (.const (.bool false)))]) (.cond (tm 18)
 .skip
 (.exit 0))) (.seq (.block 1 (.regionD [
 o1 21 (.mov (tm 0)),
 o1 22 (.mov (tm 6)),
 o1 23 (.indexSl 2 (tm 21) (tm 22)),
 o1 24 (.load (some 2) (tm 23)),
 o1 25 (.mov (tm 1)),
 o1 26 (.mov (tm 6)),
 o1 27 (.indexSl 2 (tm 25) (tm 26)),
 o1 28 (.load (some 2) (tm 27)),
 o2 29 (.bin .eql (so (.binOp .eql 109 (tm 24) (tm 28) 109) 4) (tm 24) (tm 28)),
 o2 5 (.mov (tm 29))])) (.region [
 o1 19 (.mov (tm 6)),
 o1 20 (.bin .add (so (.binOp .add 3 (tm 19) (.const (.int .i64 1)) 3) 3) (tm 19) (.const (.int .i64 1))),
 o1 6 (.mov (tm 20))])))
def zdcQ_c : ACode :=
 (.seq (.region [
 o1 4 (.mov (.const (.bool false)))]) (.seq (.region [
 o1 7 (.mov (tm 0)),
 o1 8 (.lenSl (tm 7)),
 o1 9 (.mov (tm 1)),
 o1 10 (.lenSl (tm 9)),
 o1 11 (.bin .eql (so (.binOp .eql 3 (tm 8) (tm 10) 3) 4) (tm 8) (tm 10)),
 o1 5 (.mov (tm 11))]) (.seq (.seq (.region [
 o1 6 (.mov k0)]) (.block 0 (.loop zdcQ_l0))) (.seq (.region [
 o1 30 (.mov (tm 5)),
 o1 4 (.mov (tm 30))]) .ret))))
def zdcQ : AFunc := ⟨31, [(4, none)], zdcQ_c, none⟩
theorem zdcQ_t0 : tableOf Tryz.prog 79 = some zdcQ := by kernel_rfl
theorem zdcQ_t : T0 79 = some zdcQ := withKept_t rfl (withTrue_t rfl zdcQ_t0)
theorem zdcQ_runs {v0 v1 : Value} {h : Heap} {R : RP} {X : XP} (k : RunC Tryz.prog T0 zdcQ_c ⟨[v0, v1, U, U, U, U, U, U, U, U, U, U, U, U, U, U, U, U, U, U, U, U, U, U, U, U, U, U, U, U, U], [], h, none⟩ (bodyQ Tryz.prog T0 [(4, none)] R X)) :
 Runs Tryz.prog T0 (.fn 79) [v0, v1] h R X := Runs.fn zdcQ_t rfl k
abbrev zdcQ_l0_M : List Nat := [0, 0, 0, 0, 0, 2, 2, 0, 0, 0, 0, 0, 1, 1, 1, 1, 1, 1, 1, 1, 1, 1, 1, 1, 1, 1, 1, 1, 1, 1, 0]
abbrev fn_zodQ : FuncId := 80
def zodQ_c : ACode :=
 (.seq (.region [
 o1 2 (.mov (.const (.slice none 0 0)))]) (.seq (.seq (.region [
 o1 3 (.mov (tm 0)),
 o1 4 (.eq .slice false (so (.binOp .eql 41 (tm 3) (.const (.slice none 0 0)) 41) 4) (tm 3) (.const (.slice none 0 0)))]) (.cond (tm 4)
 (.seq (.region [
 o1 2 (.mov (.const (.slice none 0 0)))]) .ret)
 .skip)) (.seq (.region [
 o1 5 (.buildSlice 5 [] 0 []),
 o1 6 (.mov (tm 0)),
 o1 7 (.append 5 1 1 [(.int .u8 0)] false (tm 5) (tm 6)),
 o1 2 (.mov (tm 7))]) .ret)))
def zodQ : AFunc := ⟨8, [(2, none)], zodQ_c, none⟩
theorem zodQ_t0 : tableOf Tryz.prog 80 = some zodQ := by kernel_rfl
theorem zodQ_t : T0 80 = some zodQ := withKept_t rfl (withTrue_t rfl zodQ_t0)
theorem zodQ_runs {v0 : Value} {h : Heap} {R : RP} {X : XP} (k : RunC Tryz.prog T0 zodQ_c ⟨[v0, U, U, U, U, U, U, U], [], h, none⟩ (bodyQ Tryz.prog T0 [(2, none)] R X)) :
 Runs Tryz.prog T0 (.fn 80) [v0] h R X := Runs.fn zodQ_t rfl k
abbrev fn_zmbQ : FuncId := 85
def zmbQ_c : ACode :=
 (.seq (.region [
 o1 2 (.alloc 119 [(.pointer none), (.pointer none), (.pointer none), (.pointer none)])]) (.seq (.regionD [
 o1 3 (.mov (tm 0)),
 o1 4 (.nilCheck (tm 3)),
 o1 5 (.fieldAddr 3 (tm 4)),
 o1 6 (.mov (tm 0)),
 o1 7 (.nilCheck (tm 6)),
 o1 8 (.fieldAddr 35 (tm 7)),
 o1 9 (.mov (tm 0)),
 o1 10 (.nilCheck (tm 9)),
 o1 11 (.fieldAddr 67 (tm 10)),
 o1 12 (.mov (tm 0)),
 o1 13 (.nilCheck (tm 12)),
 o1 14 (.fieldAddr 99 (tm 13)),
 o2 15 (.build [(.pointer none), (.pointer none), (.pointer none), (.pointer none)] [(0, 1, (tm 5)), (1, 1, (tm 8)), (2, 1, (tm 11)), (3, 1, (tm 14))]),
 ⟨none, .store 4 (tm 2) (tm 15), none, [], true⟩]) .ret))
def zmbQ : AFunc := ⟨16, [(2, some (some 4))], zmbQ_c, none⟩
theorem zmbQ_t0 : tableOf Tryz.prog 85 = some zmbQ := by kernel_rfl
theorem zmbQ_t : T0 85 = some zmbQ := withKept_t rfl (withTrue_t rfl zmbQ_t0)
theorem zmbQ_runs {v0 : Value} {h : Heap} {R : RP} {X : XP} (k : RunC Tryz.prog T0 zmbQ_c ⟨[v0, U, U, U, U, U, U, U, U, U, U, U, U, U, U, U], [], h, none⟩ (bodyQ Tryz.prog T0 [(2, some (some 4))] R X)) :
 Runs Tryz.prog T0 (.fn 85) [v0] h R X := Runs.fn zmbQ_t rfl k
abbrev fn_zhbQ : FuncId := 87
def zhbQ_l0 : ACode :=
 (.seq (.region [
 o1 8 (.bin .lss (so (.binOp .lss 3 (tm 7) (tm 6) 3) 0) (tm 7) (tm 6))]) (.seq (.cond (tm 8)
 .skip
 (.exit 0)) (.seq (.block 1 (.seq (.region [
 o1 9 (.indexSl 2 (tm 5) (tm 7)),
 o1 10 (.load (some 2) (tm 9)),
 o1 4 (.alloc 168 [.nilFunc, (.int .i64 0)]),
 o3 (.store 2 (tm 4) (tm 10))]) (.seq (.region [
 o1 11 (.fieldAddr 0 (tm 4)),
 o1 12 (.load none (tm 11)),
 o1 13 (.load (some 131) (tm 1)),
 o1 14 (.callV (tm 12) [(tm 13)]),
 o1 15 (.raw (so (.unOp .not 4 (tm 14)) 4))]) (.cond (tm 15)
 (.seq (.region [
 o1 16 (.fieldAddr 1 (tm 4)),
 o1 17 (.load none (tm 16)),
 o1 2 (.mov (tm 17))]) .ret)
 .skip)))) (.region [
 o1 18 (.bin .add (so (.binOp .add 3 (tm 7) (.const (.int .i64 1)) 3) 3) (tm 7) (.const (.int .i64 1))),
 o1 7 (.mov (tm 18))]))))
def zhbQ_c : ACode :=
 (.seq (.region [
 o1 1 (.box 25 (tm 0)),
 o1 2 (.mov k0)]) (.seq (.seq (.region [
 o1 5 (.callV (.func 139) []),
 o1 6 (.lenSl (tm 5)),
 o1 7 (.mov k0)]) (.block 0 (.loop zhbQ_l0))) (.seq (.region [
 o1 2 (.mov k0)]) .ret)))
def zhbQ : AFunc := ⟨19, [(2, none)], zhbQ_c, none⟩
theorem zhbQ_t0 : tableOf Tryz.prog 87 = some zhbQ := by kernel_rfl
theorem zhbQ_t : T0 87 = some zhbQ := withKept_t rfl (withTrue_t rfl zhbQ_t0)
theorem zhbQ_runs {v0 : Value} {h : Heap} {R : RP} {X : XP} (k : RunC Tryz.prog T0 zhbQ_c ⟨[v0, U, U, U, U, U, U, U, U, U, U, U, U, U, U, U, U, U, U], [], h, none⟩ (bodyQ Tryz.prog T0 [(2, none)] R X)) :
 Runs Tryz.prog T0 (.fn 87) [v0] h R X := Runs.fn zhbQ_t rfl k
abbrev zhbQ_l0_M : List Nat := [0, 0, 1, 0, 1, 0, 0, 2, 1, 1, 1, 1, 1, 1, 1, 1, 1, 1, 1]
abbrev fn_zcbQ : FuncId := 89
def zcbQ_l0 : ACode :=
 (.seq (.region [
 o1 26 (.bin .lss (so (.binOp .lss 3 (tm 25) (tm 24) 3) 0) (tm 25) (tm 24))]) (.seq (.cond (tm 26)
 .skip
 (.exit 1)) (.seq (.block 2 (.seq (.region [
 o1 27 (.indexSl 2 (tm 23) (tm 25)),
 o1 28 (.load (some 2) (tm 27)),
 o1 5 (.alloc 109 [(.int .i64 0), (.int .u64 0)]),
 o3 (.store 2 (tm 5) (tm 28))]) (.seq (.region [
 o1 29 (.mov (tm 3)),
 o1 30 (.load (some 2) (tm 5)),
 o1 31 (.callV (tm 29) [(tm 30)]),
 o1 6 (.mov (tm 31))]) (.seq (.region [
 o1 32 (.mov (tm 6)),
 o1 33 (.bin .neq (so (.binOp .neq 34 (tm 32) k0 34) 4) (tm 32) k0)]) (.cond (tm 33)
 (.seq (.region [
 o1 34 (.mov (tm 6)),
 o1 2 (.mov (tm 34))]) .ret)
 .skip))))) (.region [
 o1 35 (.bin .add (so (.binOp .add 3 (tm 25) (.const (.int .i64 1)) 3) 3) (tm 25) (.const (.int .i64 1))),
 o1 25 (.mov (tm 35))]))))
def zcbQ_c : ACode :=
 (.seq (.region [
 o1 1 (.box 31 (tm 0)),
 o1 2 (.mov k0)]) (.seq (.block 0 (.seq (.region [
 o1 8 (.fieldAddr 0 (tm 1)),
 o1 9 (.load none (tm 8)),
 o1 10 (.bin .lss (so (.binOp .lss 3 (tm 9) (.const (.int .i64 1)) 3) 4) (tm 9) (.const (.int .i64 1))),
 o1 11 (.mov (tm 10)),
 o5 12 (.fieldAddr 0 (tm 1)) 11,
 o5 13 (.load none (tm 12)) 11,
 o5 14 (.bin .gtr (so (.binOp .gtr 3 (tm 13) (.const (.int .i64 1073741824)) 3) 4) (tm 13) (.const (.int .i64 1073741824))) 11,
 o1 15 (.pick (tm 11) (.const (.bool true)) (tm 14)),
 o1 7 (.mov (tm 15))]) (.cond (tm 7)
 (.seq (.region [
 o1 2 (.mov (.const (.int .i64 3)))]) .ret)
 (.seq (.region [
 o1 17 (.fieldAddr 33 (tm 1)),
 o1 18 (.load none (tm 17)),
 o1 19 (.lenSl (tm 18)),
 o1 20 (.bin .gtr (so (.binOp .gtr 3 (tm 19) (.const (.int .i64 64)) 3) 4) (tm 19) (.const (.int .i64 64))),
 o1 16 (.mov (tm 20))]) (.cond (tm 16)
 (.seq (.region [
 o1 2 (.mov (.const (.int .i64 4)))]) .ret)
 .skip))))) (.seq (.region [
 o1 21 (.callV (.func 144) []),
 o1 3 (.mov (tm 21))]) (.seq (.seq (.region [
 o1 22 (.fieldAddr 33 (tm 1)),
 o1 23 (.load none (tm 22)),
 o1 24 (.lenSl (tm 23)),
 o1 25 (.mov k0)]) (.block 1 (.loop zcbQ_l0))) (.seq (.region [
 o1 2 (.mov k0)]) .ret)))))
def zcbQ : AFunc := ⟨36, [(2, none)], zcbQ_c, none⟩
theorem zcbQ_t0 : tableOf Tryz.prog 89 = some zcbQ := by kernel_rfl
theorem zcbQ_t : T0 89 = some zcbQ := withKept_t rfl (withTrue_t rfl zcbQ_t0)
theorem zcbQ_runs {v0 : Value} {h : Heap} {R : RP} {X : XP} (k : RunC Tryz.prog T0 zcbQ_c ⟨[v0, U, U, U, U, U, U, U, U, U, U, U, U, U, U, U, U, U, U, U, U, U, U, U, U, U, U, U, U, U, U, U, U, U, U, U], [], h, none⟩ (bodyQ Tryz.prog T0 [(2, none)] R X)) :
 Runs Tryz.prog T0 (.fn 89) [v0] h R X := Runs.fn zcbQ_t rfl k
abbrev zcbQ_l0_M : List Nat := [0, 0, 1, 0, 0, 1, 1, 0, 0, 0, 0, 0, 0, 0, 0, 0, 0, 0, 0, 0, 0, 0, 0, 0, 0, 2, 1, 1, 1, 1, 1, 1, 1, 1, 1, 1]
abbrev fn_zcdQ : FuncId := 95
def zcdQ_c : ACode :=
 (.seq (.region [
 o1 1 (.box 25 (tm 0)),
 o1 2 (.mov k0)]) (.seq (.block 0 (.seq (.region [
 o1 4 (.fieldAddr 0 (tm 1)),
 o1 5 (.load none (tm 4)),
 o1 6 (.callV (.func 150) [(tm 5)]),
 o1 7 (.raw (so (.unOp .not 4 (tm 6)) 4)),
 o1 3 (.mov (tm 7))]) (.cond (tm 3)
 (.seq (.region [
 o1 2 (.mov (.const (.int .i64 5)))]) .ret)
 (.seq (.region [
 o1 9 (.fieldAddr 1 (tm 1)),
 o1 10 (.load none (tm 9)),
 o1 11 (.bin .lss (so (.binOp .lss 3 (tm 10) (.const (.int .i64 1)) 3) 4) (tm 10) (.const (.int .i64 1))),
 o1 12 (.mov (tm 11)),
 o5 13 (.fieldAddr 1 (tm 1)) 12,
 o5 14 (.load none (tm 13)) 12,
 o5 15 (.bin .gtr (so (.binOp .gtr 3 (tm 14) (.const (.int .i64 1073741824)) 3) 4) (tm 14) (.const (.int .i64 1073741824))) 12,
 o1 16 (.pick (tm 12) (.const (.bool true)) (tm 15)),
 o1 17 (.mov (tm 16)),
 o5 18 (.fieldAddr 2 (tm 1)) 17,
 o5 19 (.load none (tm 18)) 17,
 o5 20 (.bin .lss (so (.binOp .lss 3 (tm 19) k0 3) 4) (tm 19) k0) 17,
 o1 21 (.pick (tm 17) (.const (.bool true)) (tm 20)),
 o1 22 (.mov (tm 21)),
 o5 23 (.fieldAddr 2 (tm 1)) 22,
 o5 24 (.load none (tm 23)) 22,
 o5 25 (.bin .gtr (so (.binOp .gtr 3 (tm 24) (.const (.int .i64 1099511627776)) 3) 4) (tm 24) (.const (.int .i64 1099511627776))) 22,
 o1 26 (.pick (tm 22) (.const (.bool true)) (tm 25)),
 o1 8 (.mov (tm 26))]) (.cond (tm 8)
 (.seq (.region [
 o1 2 (.mov (.const (.int .i64 3)))]) .ret)
 .skip))))) (.seq (.region [
 o1 2 (.mov k0)]) .ret)))
def zcdQ : AFunc := ⟨27, [(2, none)], zcdQ_c, none⟩
theorem zcdQ_t0 : tableOf Tryz.prog 95 = some zcdQ := by kernel_rfl
theorem zcdQ_t : T0 95 = some zcdQ := withKept_t rfl (withTrue_t rfl zcdQ_t0)
theorem zcdQ_runs {v0 : Value} {h : Heap} {R : RP} {X : XP} (k : RunC Tryz.prog T0 zcdQ_c ⟨[v0, U, U, U, U, U, U, U, U, U, U, U, U, U, U, U, U, U, U, U, U, U, U, U, U, U, U], [], h, none⟩ (bodyQ Tryz.prog T0 [(2, none)] R X)) :
 Runs Tryz.prog T0 (.fn 95) [v0] h R X := Runs.fn zcdQ_t rfl k
abbrev fn_zhdQ : FuncId := 99
def zhdQ_l0 : ACode :=
 (.seq (.seq (.region [
 o1 18 (.mov (tm 3)),
 o1 19 (.fieldAddr 33 (tm 1)),
 o1 20 (.load none (tm 19)),
 o1 21 (.lenSl (tm 20)),
 o1 22 (.bin .lss (so (.binOp .lss 3 (tm 18) (tm 21) 3) 4) (tm 18) (tm 21))]) (.cond (tm 22)
 .skip
 (.exit 1))) (.seq (.block 2 (.block 3 (.seq (.region [
 o1 26 (.fieldAddr 33 (tm 1)),
 o1 27 (.load none (tm 26)),
 o1 28 (.mov (tm 3)),
 o1 29 (.indexSl 2 (tm 27) (tm 28)),
 o1 30 (.fieldAddr 0 (tm 29)),
 o1 31 (.load none (tm 30)),
 o1 32 (.bin .lss (so (.binOp .lss 3 (tm 31) k0 3) 4) (tm 31) k0),
 o1 33 (.mov (tm 32)),
 o5 34 (.fieldAddr 33 (tm 1)) 33,
 o5 35 (.load none (tm 34)) 33,
 o5 36 (.mov (tm 3)) 33,
 o5 37 (.indexSl 2 (tm 35) (tm 36)) 33,
 o5 38 (.fieldAddr 0 (tm 37)) 33,
 o5 39 (.load none (tm 38)) 33,
 o5 40 (.bin .geq (so (.binOp .geq 3 (tm 39) (.const (.int .i64 64)) 3) 4) (tm 39) (.const (.int .i64 64))) 33,
 o1 41 (.pick (tm 33) (.const (.bool true)) (tm 40)),
 o1 25 (.mov (tm 41))]) (.cond (tm 25)
 (.seq (.region [
 o1 2 (.mov (.const (.int .i64 3)))]) .ret)
 (.seq (.regionD [
 o2 43 (.mov (tm 3)),
 o2 44 (.bin .gtr (so (.binOp .gtr 3 (tm 43) k0 3) 4) (tm 43) k0),
 o2 45 (.mov (tm 44)),
 o4 46 (.fieldAddr 33 (tm 1)) 45,
 o4 47 (.load none (tm 46)) 45,
 o4 48 (.mov (tm 3)) 45,
 o4 49 (.indexSl 2 (tm 47) (tm 48)) 45,
 o4 50 (.fieldAddr 0 (tm 49)) 45,
 o4 51 (.load none (tm 50)) 45,
 o4 52 (.fieldAddr 33 (tm 1)) 45,
 o4 53 (.load none (tm 52)) 45,
 o4 54 (.mov (tm 3)) 45,
 o4 55 (.bin .sub (so (.binOp .sub 3 (tm 54) (.const (.int .i64 1)) 3) 3) (tm 54) (.const (.int .i64 1))) 45,
 o4 56 (.indexSl 2 (tm 53) (tm 55)) 45,
 o4 57 (.fieldAddr 0 (tm 56)) 45,
 o4 58 (.load none (tm 57)) 45,
 ⟨some 59, .bin .leq (so (.binOp .leq 3 (tm 51) (tm 58) 3) 4) (tm 51) (tm 58), some (45, true), [], true⟩,
 o2 60 (.pick (tm 45) (tm 59) (.const (.bool false))),
 o2 42 (.mov (tm 60))]) (.cond (tm 42)
 (.seq (.region [
 o1 2 (.mov (.const (.int .i64 9)))]) .ret)
 .skip)))))) (.region [
 o1 23 (.mov (tm 3)),
 o1 24 (.bin .add (so (.binOp .add 3 (tm 23) (.const (.int .i64 1)) 3) 3) (tm 23) (.const (.int .i64 1))),
 o1 3 (.mov (tm 24))])))
def zhdQ_c : ACode :=
 (.seq (.region [
 o1 1 (.box 31 (tm 0)),
 o1 2 (.mov k0)]) (.seq (.block 0 (.seq (.region [
 o1 5 (.fieldAddr 0 (tm 1)),
 o1 6 (.load none (tm 5)),
 o1 7 (.bin .lss (so (.binOp .lss 3 (tm 6) (.const (.int .i64 1)) 3) 4) (tm 6) (.const (.int .i64 1))),
 o1 8 (.mov (tm 7)),
 o5 9 (.fieldAddr 0 (tm 1)) 8,
 o5 10 (.load none (tm 9)) 8,
 o5 11 (.bin .gtr (so (.binOp .gtr 3 (tm 10) (.const (.int .i64 1073741824)) 3) 4) (tm 10) (.const (.int .i64 1073741824))) 8,
 o1 12 (.pick (tm 8) (.const (.bool true)) (tm 11)),
 o1 4 (.mov (tm 12))]) (.cond (tm 4)
 (.seq (.region [
 o1 2 (.mov (.const (.int .i64 3)))]) .ret)
 (.seq (.region [
 o1 14 (.fieldAddr 33 (tm 1)),
 o1 15 (.load none (tm 14)),
 o1 16 (.lenSl (tm 15)),
 o1 17 (.bin .gtr (so (.binOp .gtr 3 (tm 16) (.const (.int .i64 64)) 3) 4) (tm 16) (.const (.int .i64 64))),
 o1 13 (.mov (tm 17))]) (.cond (tm 13)
 (.seq (.region [
 o1 2 (.mov (.const (.int .i64 4)))]) .ret)
 .skip))))) (.seq (.seq (.region [
 o1 3 (.mov k0)]) (.block 1 (.loop zhdQ_l0))) (.seq (.region [
 o1 2 (.mov k0)]) .ret))))
def zhdQ : AFunc := ⟨61, [(2, none)], zhdQ_c, none⟩
theorem zhdQ_t0 : tableOf Tryz.prog 99 = some zhdQ := by kernel_rfl
theorem zhdQ_t : T0 99 = some zhdQ := withKept_t rfl (withTrue_t rfl zhdQ_t0)
theorem zhdQ_runs {v0 : Value} {h : Heap} {R : RP} {X : XP} (k : RunC Tryz.prog T0 zhdQ_c ⟨[v0, U, U, U, U, U, U, U, U, U, U, U, U, U, U, U, U, U, U, U, U, U, U, U, U, U, U, U, U, U, U, U, U, U, U, U, U, U, U, U, U, U, U, U, U, U, U, U, U, U, U, U, U, U, U, U, U, U, U, U, U], [], h, none⟩ (bodyQ Tryz.prog T0 [(2, none)] R X)) :
 Runs Tryz.prog T0 (.fn 99) [v0] h R X := Runs.fn zhdQ_t rfl k
abbrev zhdQ_l0_M : List Nat := [0, 0, 1, 2, 0, 0, 0, 0, 0, 0, 0, 0, 0, 0, 0, 0, 0, 0, 1, 1, 1, 1, 1, 1, 1, 1, 1, 1, 1, 1, 1, 1, 1, 1, 1, 1, 1, 1, 1, 1, 1, 1, 1, 1, 1, 1, 1, 1, 1, 1, 1, 1, 1, 1, 1, 1, 1, 1, 1, 1, 1]
abbrev fn_zycQ : FuncId := 101
def zycQ_l0 : ACode :=
 (.seq (.seq (.region [
 o1 12 (.mov (tm 3)),
 o1 13 (.mov (tm 0)),
 o1 14 (.lenSl (tm 13)),
 o1 15 (.bin .lss (so (.binOp .lss 3 (tm 12) (tm 14) 3) 4) (tm 12) (tm 14))]) (.cond (tm 15)
 .skip
 (.exit 1))) (.seq (.block 2 (.block 3 (.seq (.regionD [
 o2 19 (.mov (tm 3)),
 o2 20 (.bin .gtr (so (.binOp .gtr 3 (tm 19) k0 3) 4) (tm 19) k0),
 o2 21 (.mov (tm 20)),
 o4 22 (.mov (tm 0)) 21,
 o4 23 (.mov (tm 3)) 21,
 o4 24 (.bin .sub (so (.binOp .sub 3 (tm 23) (.const (.int .i64 1)) 3) 3) (tm 23) (.const (.int .i64 1))) 21,
 o4 25 (.indexSl 5 (tm 22) (tm 24)) 21,
 o4 26 (.fieldAddr 0 (tm 25)) 21,
 o4 27 (.load (some 4) (tm 26)) 21,
 o4 28 (.mov (tm 0)) 21,
 o4 29 (.mov (tm 3)) 21,
 o4 30 (.indexSl 5 (tm 28) (tm 29)) 21,
 o4 31 (.fieldAddr 0 (tm 30)) 21,
 o4 32 (.load (some 4) (tm 31)) 21,
 ⟨some 33, .callV (.func 151) [(tm 27), (tm 32)], some (21, true), [], true⟩,
 ⟨some 34, .raw (so (.unOp .not 4 (tm 33)) 4), some (21, true), [], true⟩,
 o2 35 (.pick (tm 21) (tm 34) (.const (.bool false))),
 o2 18 (.mov (tm 35))]) (.cond (tm 18)
 (.seq (.region [
 o1 2 (.mov (.const (.int .i64 9)))]) .ret)
 (.seq (.region [
 o1 37 (.mov (tm 0)),
 o1 38 (.mov (tm 3)),
 o1 39 (.indexSl 5 (tm 37) (tm 38)),
 o1 40 (.fieldAddr 4 (tm 39)),
 o1 41 (.load none (tm 40)),
 o1 42 (.bin .lss (so (.binOp .lss 3 (tm 41) (.const (.int .i64 1)) 3) 4) (tm 41) (.const (.int .i64 1))),
 o1 43 (.mov (tm 42)),
 o5 44 (.mov (tm 0)) 43,
 o5 45 (.mov (tm 3)) 43,
 o5 46 (.indexSl 5 (tm 44) (tm 45)) 43,
 o5 47 (.fieldAddr 4 (tm 46)) 43,
 o5 48 (.load none (tm 47)) 43,
 o5 49 (.bin .gtr (so (.binOp .gtr 3 (tm 48) (.const (.int .i64 4611686018427387904)) 3) 4) (tm 48) (.const (.int .i64 4611686018427387904))) 43,
 o1 50 (.pick (tm 43) (.const (.bool true)) (tm 49)),
 o1 36 (.mov (tm 50))]) (.cond (tm 36)
 (.seq (.region [
 o1 2 (.mov (.const (.int .i64 3)))]) .ret)
 .skip)))))) (.region [
 o1 16 (.mov (tm 3)),
 o1 17 (.bin .add (so (.binOp .add 3 (tm 16) (.const (.int .i64 1)) 3) 3) (tm 16) (.const (.int .i64 1))),
 o1 3 (.mov (tm 17))])))
def zycQ_c : ACode :=
 (.seq (.region [
 o1 2 (.mov k0)]) (.seq (.block 0 (.seq (.region [
 o1 5 (.mov (tm 0)),
 o1 6 (.lenSl (tm 5)),
 o1 7 (.bin .eql (so (.binOp .eql 3 (tm 6) k0 3) 4) (tm 6) k0),
 o1 4 (.mov (tm 7))]) (.cond (tm 4)
 (.seq (.region [
 o1 2 (.mov (.const (.int .i64 6)))]) .ret)
 (.seq (.region [
 o1 9 (.mov (tm 0)),
 o1 10 (.lenSl (tm 9)),
 o1 11 (.bin .gtr (so (.binOp .gtr 3 (tm 10) (.const (.int .i64 64)) 3) 4) (tm 10) (.const (.int .i64 64))),
 o1 8 (.mov (tm 11))]) (.cond (tm 8)
 (.seq (.region [
 o1 2 (.mov (.const (.int .i64 4)))]) .ret)
 .skip))))) (.seq (.seq (.region [
 o1 3 (.mov k0)]) (.block 1 (.loop zycQ_l0))) (.seq (.region [
 o1 2 (.mov k0)]) .ret))))
def zycQ : AFunc := ⟨51, [(2, none)], zycQ_c, none⟩
theorem zycQ_t0 : tableOf Tryz.prog 101 = some zycQ := by kernel_rfl
theorem zycQ_t : T0 101 = some zycQ := withKept_t rfl (withTrue_t rfl zycQ_t0)
theorem zycQ_runs {v0 : Value} {h : Heap} {R : RP} {X : XP} (k : RunC Tryz.prog T0 zycQ_c ⟨[v0, U, U, U, U, U, U, U, U, U, U, U, U, U, U, U, U, U, U, U, U, U, U, U, U, U, U, U, U, U, U, U, U, U, U, U, U, U, U, U, U, U, U, U, U, U, U, U, U, U, U], [], h, none⟩ (bodyQ Tryz.prog T0 [(2, none)] R X)) :
 Runs Tryz.prog T0 (.fn 101) [v0] h R X := Runs.fn zycQ_t rfl k
abbrev zycQ_l0_M : List Nat := [0, 0, 1, 2, 0, 0, 0, 0, 0, 0, 0, 0, 1, 1, 1, 1, 1, 1, 1, 1, 1, 1, 1, 1, 1, 1, 1, 1, 1, 1, 1, 1, 1, 1, 1, 1, 1, 1, 1, 1, 1, 1, 1, 1, 1, 1, 1, 1, 1, 1, 1]
abbrev fn_zqQ : FuncId := 102
def zqQ_l0 : ACode :=
 (.seq (.region [
 o1 8 (.bin .lss (so (.binOp .lss 3 (tm 7) (tm 6) 3) 0) (tm 7) (tm 6))]) (.seq (.cond (tm 8)
 .skip
 (.exit 0)) (.seq (.block 1 (.seq (.region [
 o1 9 (.indexSl 1 (tm 5) (tm 7)),
 o1 10 (.load none (tm 9)),
 o1 4 (.mov (tm 10))]) (.seq (.region [
 o1 11 (.mov (tm 0)),
 o1 12 (.mov (tm 4)),
 o1 13 (.callV (tm 12) []),
 o1 14 (.callV (tm 11) [(tm 13)]),
 o1 15 (.raw (so (.unOp .not 4 (tm 14)) 4))]) (.cond (tm 15)
 .ret
 .skip)))) (.region [
 o1 16 (.bin .add (so (.binOp .add 3 (tm 7) (.const (.int .i64 1)) 3) 3) (tm 7) (.const (.int .i64 1))),
 o1 7 (.mov (tm 16))]))))
def zqQ_c : ACode :=
 (.seq (.region [
 o1 5 (.load none (tm 1)),
 o1 6 (.lenSl (tm 5)),
 o1 7 (.mov k0)]) (.block 0 (.loop zqQ_l0)))
def zqQ : AFunc := ⟨17, [], zqQ_c, none⟩
theorem zqQ_t0 : tableOf Tryz.prog 102 = some zqQ := by kernel_rfl
theorem zqQ_t : T0 102 = some zqQ := withKept_t rfl (withTrue_t rfl zqQ_t0)
theorem zqQ_runs {v0 v1 : Value} {h : Heap} {R : RP} {X : XP} (k : RunC Tryz.prog T0 zqQ_c ⟨[v0, v1, U, U, U, U, U, U, U, U, U, U, U, U, U, U, U], [], h, none⟩ (bodyQ Tryz.prog T0 [] R X)) :
 Runs Tryz.prog T0 (.fn 102) [v0, v1] h R X := Runs.fn zqQ_t rfl k
abbrev zqQ_l0_M : List Nat := [0, 0, 0, 0, 1, 0, 0, 2, 1, 1, 1, 1, 1, 1, 1, 1, 1]
abbrev fn_zxQ : FuncId := 103
def zxQ_c : ACode :=
 (.seq (.region [
 o1 1 (.mov k0)]) (.seq (.region [
 o1 2 (.fieldAddr 0 (tm 0)),
 o1 3 (.load (some 131) (tm 2)),
 o1 4 (.callV (.func 87) [(tm 3)]),
 o1 1 (.mov (tm 4))]) .ret))
def zxQ : AFunc := ⟨5, [(1, none)], zxQ_c, none⟩
theorem zxQ_t0 : tableOf Tryz.prog 103 = some zxQ := by kernel_rfl
theorem zxQ_t : T0 103 = some zxQ := withKept_t rfl (withTrue_t rfl zxQ_t0)
theorem zxQ_runs {v0 : Value} {h : Heap} {R : RP} {X : XP} (k : RunC Tryz.prog T0 zxQ_c ⟨[v0, U, U, U, U], [], h, none⟩ (bodyQ Tryz.prog T0 [(1, none)] R X)) :
 Runs Tryz.prog T0 (.fn 103) [v0] h R X := Runs.fn zxQ_t rfl k
abbrev fn_zyQ : FuncId := 104
def zyQ_c : ACode :=
 (.seq (.region [
 o1 1 (.mov k0)]) (.seq (.region [
 o1 2 (.fieldAddr 165 (tm 0)),
 o1 3 (.load none (tm 2)),
 o1 4 (.callV (.func 65) [(tm 3)]),
 o1 1 (.mov (tm 4))]) .ret))
def zyQ : AFunc := ⟨5, [(1, none)], zyQ_c, none⟩
theorem zyQ_t0 : tableOf Tryz.prog 104 = some zyQ := by kernel_rfl
theorem zyQ_t : T0 104 = some zyQ := withKept_t rfl (withTrue_t rfl zyQ_t0)
theorem zyQ_runs {v0 : Value} {h : Heap} {R : RP} {X : XP} (k : RunC Tryz.prog T0 zyQ_c ⟨[v0, U, U, U, U], [], h, none⟩ (bodyQ Tryz.prog T0 [(1, none)] R X)) :
 Runs Tryz.prog T0 (.fn 104) [v0] h R X := Runs.fn zyQ_t rfl k
abbrev fn_zzQ : FuncId := 105
def zzQ_c : ACode :=
 (.seq (.region [
 o1 1 (.mov k0)]) (.seq (.region [
 o1 2 (.fieldAddr 131 (tm 0)),
 o1 3 (.load (some 34) (tm 2)),
 o1 4 (.callV (.func 89) [(tm 3)]),
 o1 1 (.mov (tm 4))]) .ret))
def zzQ : AFunc := ⟨5, [(1, none)], zzQ_c, none⟩
theorem zzQ_t0 : tableOf Tryz.prog 105 = some zzQ := by kernel_rfl
theorem zzQ_t : T0 105 = some zzQ := withKept_t rfl (withTrue_t rfl zzQ_t0)
theorem zzQ_runs {v0 : Value} {h : Heap} {R : RP} {X : XP} (k : RunC Tryz.prog T0 zzQ_c ⟨[v0, U, U, U, U], [], h, none⟩ (bodyQ Tryz.prog T0 [(1, none)] R X)) :
 Runs Tryz.prog T0 (.fn 105) [v0] h R X := Runs.fn zzQ_t rfl k
abbrev fn_ztQ : FuncId := 106
def ztQ_c : ACode :=
 (.seq (.region [
 o1 1 (.mov k0)]) (.seq (.region [
 o1 7 (.fieldAddr 165 (tm 0)),
 o1 8 (.load none (tm 7)),
 o1 9 (.callV (.func 33) [(tm 8)]),
 o1 6 (.mov (tm 9)),
 o1 10 (.extract 0 (tm 6)),
 o1 11 (.extract 1 (tm 6)),
 o1 2 (.alloc 23 z32),
 o3 (.store 32 (tm 2) (tm 10)),
 o1 3 (.mov (tm 11))]) (.seq (.region [
 o1 13 (.fieldAddr 0 (tm 0)),
 o1 14 (.load (some 131) (tm 13)),
 o1 15 (.callV (.func 34) [(tm 14)]),
 o1 12 (.mov (tm 15)),
 o1 16 (.extract 0 (tm 12)),
 o1 17 (.extract 1 (tm 12)),
 o1 4 (.alloc 23 z32),
 o3 (.store 32 (tm 4) (tm 16)),
 o1 5 (.mov (tm 17))]) (.seq (.region [
 o1 18 (.fieldAddr 0 (tm 0)),
 o1 19 (.fieldAddr 35 (tm 18)),
 o1 20 (.load (some 32) (tm 19)),
 o1 21 (.load (some 32) (tm 2)),
 o1 22 (.bin .neq (so (.binOp .neq 23 (tm 20) (tm 21) 23) 4) (tm 20) (tm 21)),
 o1 23 (.mov (tm 22)),
 o5 24 (.fieldAddr 131 (tm 0)) 23,
 o5 25 (.fieldAddr 1 (tm 24)) 23,
 o5 26 (.load (some 32) (tm 25)) 23,
 o5 27 (.load (some 32) (tm 4)) 23,
 o5 28 (.bin .neq (so (.binOp .neq 23 (tm 26) (tm 27) 23) 4) (tm 26) (tm 27)) 23,
 o1 29 (.pick (tm 23) (.const (.bool true)) (tm 28)),
 o1 30 (.callV (.func 107) [(tm 29), (.const (.int .i64 12))]),
 o1 1 (.mov (tm 30))]) .ret))))
def ztQ : AFunc := ⟨31, [(1, none)], ztQ_c, none⟩
theorem ztQ_t0 : tableOf Tryz.prog 106 = some ztQ := by kernel_rfl
theorem ztQ_t : T0 106 = some ztQ := withKept_t rfl (withTrue_t rfl ztQ_t0)
theorem ztQ_runs {v0 : Value} {h : Heap} {R : RP} {X : XP} (k : RunC Tryz.prog T0 ztQ_c ⟨[v0, U, U, U, U, U, U, U, U, U, U, U, U, U, U, U, U, U, U, U, U, U, U, U, U, U, U, U, U, U, U], [], h, none⟩ (bodyQ Tryz.prog T0 [(1, none)] R X)) :
 Runs Tryz.prog T0 (.fn 106) [v0] h R X := Runs.fn ztQ_t rfl k
abbrev fn_zabQ : FuncId := 107
def zabQ_c : ACode :=
 (.seq (.region [
 o1 4 (.mov k0)]) (.seq (.seq (.region [
 o1 5 (.mov (tm 0))]) (.cond (tm 5)
 (.seq (.region [
 o1 6 (.mov (tm 1)),
 o1 4 (.mov (tm 6))]) .ret)
 .skip)) (.seq (.region [
 o1 4 (.mov k0)]) .ret)))
def zabQ : AFunc := ⟨7, [(4, none)], zabQ_c, none⟩
theorem zabQ_t0 : tableOf Tryz.prog 107 = some zabQ := by kernel_rfl
theorem zabQ_t : T0 107 = some zabQ := withKept_t rfl (withTrue_t rfl zabQ_t0)
theorem zabQ_runs {v0 v1 : Value} {h : Heap} {R : RP} {X : XP} (k : RunC Tryz.prog T0 zabQ_c ⟨[v0, v1, U, U, U, U, U], [], h, none⟩ (bodyQ Tryz.prog T0 [(4, none)] R X)) :
 Runs Tryz.prog T0 (.fn 107) [v0, v1] h R X := Runs.fn zabQ_t rfl k
abbrev fn_zuQ : FuncId := 108
def zuQ_c : ACode :=
 (.seq (.region [
 o1 1 (.mov k0)]) (.seq (.region [
 o1 2 (.fieldAddr 131 (tm 0)),
 o1 3 (.fieldAddr 0 (tm 2)),
 o1 4 (.load none (tm 3)),
 o1 5 (.fieldAddr 0 (tm 0)),
 o1 6 (.fieldAddr 1 (tm 5)),
 o1 7 (.load none (tm 6)),
 o1 8 (.bin .neq (so (.binOp .neq 3 (tm 4) (tm 7) 3) 4) (tm 4) (tm 7)),
 o1 9 (.callV (.func 107) [(tm 8), (.const (.int .i64 13))]),
 o1 1 (.mov (tm 9))]) .ret))
def zuQ : AFunc := ⟨10, [(1, none)], zuQ_c, none⟩
theorem zuQ_t0 : tableOf Tryz.prog 108 = some zuQ := by kernel_rfl
theorem zuQ_t : T0 108 = some zuQ := withKept_t rfl (withTrue_t rfl zuQ_t0)
theorem zuQ_runs {v0 : Value} {h : Heap} {R : RP} {X : XP} (k : RunC Tryz.prog T0 zuQ_c ⟨[v0, U, U, U, U, U, U, U, U, U], [], h, none⟩ (bodyQ Tryz.prog T0 [(1, none)] R X)) :
 Runs Tryz.prog T0 (.fn 108) [v0] h R X := Runs.fn zuQ_t rfl k
abbrev fn_zvQ : FuncId := 109
def zvQ_c : ACode :=
 (.seq (.region [
 o1 1 (.mov k0)]) (.seq (.region [
 o1 5 (.fieldAddr 131 (tm 0)),
 o1 6 (.load (some 34) (tm 5)),
 o1 7 (.fieldAddr 165 (tm 0)),
 o1 8 (.load none (tm 7)),
 o1 9 (.callV (.func 110) [(tm 6), (tm 8)]),
 o1 4 (.mov (tm 9)),
 o1 10 (.extract 0 (tm 4)),
 o1 11 (.extract 1 (tm 4)),
 o1 2 (.mov (tm 10)),
 o1 3 (.mov (tm 11))]) (.seq (.region [
 o1 12 (.mov (tm 3)),
 o1 1 (.mov (tm 12))]) .ret)))
def zvQ : AFunc := ⟨13, [(1, none)], zvQ_c, none⟩
theorem zvQ_t0 : tableOf Tryz.prog 109 = some zvQ := by kernel_rfl
theorem zvQ_t : T0 109 = some zvQ := withKept_t rfl (withTrue_t rfl zvQ_t0)
theorem zvQ_runs {v0 : Value} {h : Heap} {R : RP} {X : XP} (k : RunC Tryz.prog T0 zvQ_c ⟨[v0, U, U, U, U, U, U, U, U, U, U, U, U], [], h, none⟩ (bodyQ Tryz.prog T0 [(1, none)] R X)) :
 Runs Tryz.prog T0 (.fn 109) [v0] h R X := Runs.fn zvQ_t rfl k
abbrev fn_zebQ : FuncId := 110
def zebQ_l0 : ACode :=
 (.seq (.region [
 o1 18 (.bin .lss (so (.binOp .lss 3 (tm 17) (tm 16) 3) 0) (tm 17) (tm 16))]) (.seq (.cond (tm 18)
 .skip
 (.exit 0)) (.seq (.block 1 (.seq (.region [
 o1 19 (.indexSl 2 (tm 15) (tm 17)),
 o1 20 (.load (some 2) (tm 19)),
 o1 8 (.alloc 109 [(.int .i64 0), (.int .u64 0)]),
 o3 (.store 2 (tm 8) (tm 20))]) (.seq (.seq (.region [
 o1 21 (.fieldAddr 0 (tm 8)),
 o1 22 (.load none (tm 21)),
 o1 23 (.mov (tm 1)),
 o1 24 (.lenSl (tm 23)),
 o1 25 (.bin .geq (so (.binOp .geq 3 (tm 22) (tm 24) 3) 4) (tm 22) (tm 24))]) (.cond (tm 25)
 (.seq (.region [
 o1 4 (.mov (.const (.slice none 0 0))),
 o1 5 (.mov (.const (.int .i64 3)))]) .ret)
 .skip)) (.region [
 o1 26 (.mov (tm 4)),
 o1 27 (.mov (tm 1)),
 o1 28 (.fieldAddr 0 (tm 8)),
 o1 29 (.load none (tm 28)),
 o1 30 (.indexSl 5 (tm 27) (tm 29)),
 o1 31 (.fieldAddr 0 (tm 30)),
 o1 32 (.load (some 4) (tm 31)),
 o1 33 (.buildSlice 64 [(.int .u8 0), (.int .u8 0), (.int .u8 0), (.int .u8 0)] 1 [(0, 4, (tm 32))]),
 o1 34 (.append 64 4 4 [(.int .u8 0), (.int .u8 0), (.int .u8 0), (.int .u8 0)] false (tm 26) (tm 33)),
 o1 4 (.mov (tm 34))])))) (.region [
 o1 35 (.bin .add (so (.binOp .add 3 (tm 17) (.const (.int .i64 1)) 3) 3) (tm 17) (.const (.int .i64 1))),
 o1 17 (.mov (tm 35))]))))
def zebQ_c : ACode :=
 (.seq (.region [
 o1 2 (.box 31 (tm 0)),
 o1 4 (.mov (.const (.slice none 0 0))),
 o1 5 (.mov k0)]) (.seq (.seq (.region [
 o1 9 (.load (some 34) (tm 2)),
 o1 10 (.callV (.func 89) [(tm 9)]),
 o1 6 (.mov (tm 10))]) (.seq (.region [
 o1 11 (.mov (tm 6)),
 o1 12 (.bin .neq (so (.binOp .neq 34 (tm 11) k0 34) 4) (tm 11) k0)]) (.cond (tm 12)
 (.seq (.region [
 o1 13 (.mov (tm 6)),
 o1 4 (.mov (.const (.slice none 0 0))),
 o1 5 (.mov (tm 13))]) .ret)
 .skip))) (.seq (.seq (.region [
 o1 14 (.fieldAddr 33 (tm 2)),
 o1 15 (.load none (tm 14)),
 o1 16 (.lenSl (tm 15)),
 o1 17 (.mov k0)]) (.block 0 (.loop zebQ_l0))) (.seq (.region [
 o1 36 (.mov (tm 4)),
 o1 4 (.mov (tm 36)),
 o1 5 (.mov k0)]) .ret))))
def zebQ : AFunc := ⟨37, [(4, none), (5, none)], zebQ_c, none⟩
theorem zebQ_t0 : tableOf Tryz.prog 110 = some zebQ := by kernel_rfl
theorem zebQ_t : T0 110 = some zebQ := withKept_t rfl (withTrue_t rfl zebQ_t0)
theorem zebQ_runs {v0 v1 : Value} {h : Heap} {R : RP} {X : XP} (k : RunC Tryz.prog T0 zebQ_c ⟨[v0, v1, U, U, U, U, U, U, U, U, U, U, U, U, U, U, U, U, U, U, U, U, U, U, U, U, U, U, U, U, U, U, U, U, U, U, U], [], h, none⟩ (bodyQ Tryz.prog T0 [(4, none), (5, none)] R X)) :
 Runs Tryz.prog T0 (.fn 110) [v0, v1] h R X := Runs.fn zebQ_t rfl k
abbrev zebQ_l0_M : List Nat := [0, 0, 0, 0, 2, 1, 0, 0, 1, 0, 0, 0, 0, 0, 0, 0, 0, 2, 1, 1, 1, 1, 1, 1, 1, 1, 1, 1, 1, 1, 1, 1, 1, 1, 1, 1, 0]
abbrev fn_zgeQ : FuncId := 111
def zgeQ_c : ACode :=
 (.seq (.region [
 o1 4 (.mov k0)]) (.seq (.region [
 o1 5 (.mov (tm 0)),
 o1 6 (.mov (tm 1)),
 o1 7 (.strToBytes 5 (tm 6)),
 o1 8 (.callV (.func 63) [(tm 5), (tm 7)]),
 o1 4 (.mov (tm 8))]) .ret))
def zgeQ : AFunc := ⟨9, [(4, none)], zgeQ_c, none⟩
theorem zgeQ_t0 : tableOf Tryz.prog 111 = some zgeQ := by kernel_rfl
theorem zgeQ_t : T0 111 = some zgeQ := withKept_t rfl (withTrue_t rfl zgeQ_t0)
theorem zgeQ_runs {v0 v1 : Value} {h : Heap} {R : RP} {X : XP} (k : RunC Tryz.prog T0 zgeQ_c ⟨[v0, v1, U, U, U, U, U, U, U], [], h, none⟩ (bodyQ Tryz.prog T0 [(4, none)] R X)) :
 Runs Tryz.prog T0 (.fn 111) [v0, v1] h R X := Runs.fn zgeQ_t rfl k
abbrev fn_zdeQ : FuncId := 112
def zdeQ_c : ACode :=
 (.seq (.region [
 o1 3 (.box 23 (tm 1)),
 o1 4 (.mov k0)]) (.seq (.region [
 o1 5 (.mov (tm 0)),
 o1 6 (.sliceArr 32 1 (tm 3) none none),
 o1 7 (.buildSlice 41 [(.slice none 0 0)] 1 [(0, 1, (tm 6))]),
 o1 8 (.callV (.func 114) [(tm 5), (.const (.bool true)), (tm 7)]),
 o1 4 (.mov (tm 8))]) .ret))
def zdeQ : AFunc := ⟨9, [(4, none)], zdeQ_c, none⟩
theorem zdeQ_t0 : tableOf Tryz.prog 112 = some zdeQ := by kernel_rfl
theorem zdeQ_t : T0 112 = some zdeQ := withKept_t rfl (withTrue_t rfl zdeQ_t0)
theorem zdeQ_runs {v0 v1 : Value} {h : Heap} {R : RP} {X : XP} (k : RunC Tryz.prog T0 zdeQ_c ⟨[v0, v1, U, U, U, U, U, U, U], [], h, none⟩ (bodyQ Tryz.prog T0 [(4, none)] R X)) :
 Runs Tryz.prog T0 (.fn 112) [v0, v1] h R X := Runs.fn zdeQ_t rfl k
abbrev fn_zheQ : FuncId := 113
def zheQ_c : ACode :=
 (.seq (.region [
 o1 4 (.mov k0)]) (.seq (.region [
 o1 6 (.mov (tm 1)),
 o1 7 (.callV (.func 152) [(tm 6)]),
 o1 5 (.alloc 181 [(.int .u8 0), (.int .u8 0), (.int .u8 0), (.int .u8 0), (.int .u8 0), (.int .u8 0), (.int .u8 0), (.int .u8 0)]),
 o3 (.store 8 (tm 5) (tm 7))]) (.seq (.region [
 o1 8 (.mov (tm 0)),
 o1 9 (.sliceArr 8 1 (tm 5) none none),
 o1 10 (.buildSlice 41 [(.slice none 0 0)] 1 [(0, 1, (tm 9))]),
 o1 11 (.callV (.func 114) [(tm 8), (.const (.bool true)), (tm 10)]),
 o1 4 (.mov (tm 11))]) .ret)))
def zheQ : AFunc := ⟨12, [(4, none)], zheQ_c, none⟩
theorem zheQ_t0 : tableOf Tryz.prog 113 = some zheQ := by kernel_rfl
theorem zheQ_t : T0 113 = some zheQ := withKept_t rfl (withTrue_t rfl zheQ_t0)
theorem zheQ_runs {v0 v1 : Value} {h : Heap} {R : RP} {X : XP} (k : RunC Tryz.prog T0 zheQ_c ⟨[v0, v1, U, U, U, U, U, U, U, U, U, U], [], h, none⟩ (bodyQ Tryz.prog T0 [(4, none)] R X)) :
 Runs Tryz.prog T0 (.fn 113) [v0, v1] h R X := Runs.fn zheQ_t rfl k
abbrev fn_zieQ : FuncId := 114
def zieQ_c : ACode :=
 (.seq (.region [
 o1 6 (.mov k0)]) (.seq (.seq (.region [
 o1 8 (.mov (tm 0)),
 o1 9 (.eq .ptr false (so (.binOp .eql 95 (tm 8) (.const (.pointer none)) 95) 4) (tm 8) (.const (.pointer none))),
 o1 10 (.mov (tm 9)),
 o5 11 (.mov (tm 0)) 10,
 o5 12 (.nilCheck (tm 11)) 10,
 o5 13 (.fieldAddr 3 (tm 12)) 10,
 o5 14 (.load none (tm 13)) 10,
 o5 15 (.raw (so (.unOp .not 4 (tm 14)) 4)) 10,
 o1 16 (.pick (tm 10) (.const (.bool true)) (tm 15))]) (.cond (tm 16)
 (.seq (.region [
 o1 6 (.mov (.const (.int .i64 1)))]) .ret)
 .skip)) (.seq (.region [
 o1 17 (.mov (tm 2)),
 o1 18 (.callV (.func 153) [(tm 17)]),
 o1 7 (.mov (tm 18))]) (.seq (.block 0 (.seq (.region [
 o1 29 (.mov (tm 0)),
 o1 30 (.nilCheck (tm 29)),
 o1 31 (.fieldAddr 2 (tm 30)),
 o1 32 (.load none (tm 31)),
 o1 33 (.bin .neq (so (.binOp .neq 34 (tm 32) k0 34) 4) (tm 32) k0),
 o1 28 (.mov (tm 33))]) (.cond (tm 28)
 .skip
 (.seq (.region [
 o1 35 (.mov (tm 1)),
 o1 36 (.raw (so (.unOp .not 4 (tm 35)) 4)),
 o1 34 (.mov (tm 36))]) (.cond (tm 34)
 (.region [
 o1 37 (.mov (tm 0)),
 o1 38 (.nilCheck (tm 37)),
 o1 39 (.fieldAddr 2 (tm 38)),
 o3 (.store 1 (tm 39) (.const (.int .i64 3)))])
 (.seq (.regionD [
 o1 41 (.mov (tm 0)),
 o1 42 (.nilCheck (tm 41)),
 o1 43 (.fieldAddr 1 (tm 42)),
 o1 44 (.load none (tm 43)),
 o1 45 (.lenSl (tm 44)),
 o1 46 (.mov (tm 7)),
 o1 47 (.lenSl (tm 46)),
 o1 48 (.bin .add (so (.binOp .add 3 (tm 45) (tm 47) 3) 3) (tm 45) (tm 47)),
 o1 49 (.mov (tm 0)),
 o1 50 (.nilCheck (tm 49)),
 o1 51 (.fieldAddr 0 (tm 50)),
 o1 52 (.load none (tm 51)),
 o2 53 (.bin .gtr (so (.binOp .gtr 3 (tm 48) (tm 52) 3) 4) (tm 48) (tm 52)),
 o2 40 (.mov (tm 53))]) (.cond (tm 40)
 (.region [
 o1 54 (.mov (tm 0)),
 o1 55 (.nilCheck (tm 54)),
 o1 56 (.fieldAddr 2 (tm 55)),
 o3 (.store 1 (tm 56) (.const (.int .i64 4)))])
 (.region [
 o1 19 (.mov (tm 0)),
 o1 20 (.mov (tm 0)),
 o1 21 (.nilCheck (tm 20)),
 o1 22 (.fieldAddr 1 (tm 21)),
 o1 23 (.load none (tm 22)),
 o1 24 (.mov (tm 7)),
 o1 25 (.append 5 1 1 [(.int .u8 0)] false (tm 23) (tm 24)),
 o1 26 (.nilCheck (tm 19)),
 o1 27 (.fieldAddr 1 (tm 26)),
 o3 (.store 1 (tm 27) (tm 25))])))))))) (.seq (.region [
 o1 57 (.mov (tm 0)),
 o1 58 (.nilCheck (tm 57)),
 o1 59 (.fieldAddr 2 (tm 58)),
 o1 60 (.load none (tm 59)),
 o1 6 (.mov (tm 60))]) .ret)))))
def zieQ : AFunc := ⟨61, [(6, none)], zieQ_c, none⟩
theorem zieQ_t0 : tableOf Tryz.prog 114 = some zieQ := by kernel_rfl
theorem zieQ_t : T0 114 = some zieQ := withKept_t rfl (withTrue_t rfl zieQ_t0)
theorem zieQ_runs {v0 v1 v2 : Value} {h : Heap} {R : RP} {X : XP} (k : RunC Tryz.prog T0 zieQ_c ⟨[v0, v1, v2, U, U, U, U, U, U, U, U, U, U, U, U, U, U, U, U, U, U, U, U, U, U, U, U, U, U, U, U, U, U, U, U, U, U, U, U, U, U, U, U, U, U, U, U, U, U, U, U, U, U, U, U, U, U, U, U, U, U], [], h, none⟩ (bodyQ Tryz.prog T0 [(6, none)] R X)) :
 Runs Tryz.prog T0 (.fn 114) [v0, v1, v2] h R X := Runs.fn zieQ_t rfl k
abbrev fn_zjeQ : FuncId := 115
def zjeQ_l0 : ACode :=
 (.seq (.seq (.region [
 o1 5 (.mov (tm 0)),
 o1 6 (.bin .gtr (so (.binOp .gtr 3 (tm 5) k0 3) 4) (tm 5) k0)]) (.cond (tm 6)
 .skip
 (.exit 0))) (.seq (.block 1 (.seq (.region [
 o1 9 (.mov (tm 4)),
 o1 10 (.bin .sub (so (.binOp .sub 3 (.const (.int .i64 8)) (tm 9) 3) 3) (.const (.int .i64 8)) (tm 9)),
 o1 11 (.mov (tm 0)),
 o1 12 (.conv .u8 (so (.convert 3 5 (tm 11)) 5) (tm 11)),
 o1 13 (.indexArr 9 1 (tm 3) (tm 10)),
 o3 (.store 1 (tm 13) (tm 12))]) (.region [
 o1 14 (.mov (tm 4)),
 o1 15 (.bin .add (so (.binOp .add 3 (tm 14) (.const (.int .i64 1)) 3) 3) (tm 14) (.const (.int .i64 1))),
 o1 4 (.mov (tm 15))]))) (.region [
 o1 7 (.mov (tm 0)),
 o1 8 (.bin .shr (so (.binOp .shr 3 (tm 7) (.const (.int .u64 8)) 155) 3) (tm 7) (.const (.int .u64 8))),
 o1 0 (.mov (tm 8))])))
def zjeQ_c : ACode :=
 (.seq (.region [
 o1 2 (.mov (.const (.slice none 0 0)))]) (.seq (.region [
 o1 3 (.alloc 185 [(.int .u8 0), (.int .u8 0), (.int .u8 0), (.int .u8 0), (.int .u8 0), (.int .u8 0), (.int .u8 0), (.int .u8 0), (.int .u8 0)])]) (.seq (.region [
 o1 4 (.mov k0)]) (.seq (.block 0 (.loop zjeQ_l0)) (.seq (.region [
 o1 16 (.mov (tm 4)),
 o1 17 (.bin .sub (so (.binOp .sub 3 (.const (.int .i64 8)) (tm 16) 3) 3) (.const (.int .i64 8)) (tm 16)),
 o1 18 (.mov (tm 4)),
 o1 19 (.conv .u8 (so (.convert 3 5 (tm 18)) 5) (tm 18)),
 o1 20 (.indexArr 9 1 (tm 3) (tm 17)),
 o3 (.store 1 (tm 20) (tm 19))]) (.seq (.region [
 o1 21 (.mov (tm 4)),
 o1 22 (.bin .sub (so (.binOp .sub 3 (.const (.int .i64 8)) (tm 21) 3) 3) (.const (.int .i64 8)) (tm 21)),
 o1 23 (.sliceArr 9 1 (tm 3) (some (tm 22)) none),
 o1 2 (.mov (tm 23))]) .ret))))))
def zjeQ : AFunc := ⟨24, [(2, none)], zjeQ_c, none⟩
theorem zjeQ_t0 : tableOf Tryz.prog 115 = some zjeQ := by kernel_rfl
theorem zjeQ_t : T0 115 = some zjeQ := withKept_t rfl (withTrue_t rfl zjeQ_t0)
theorem zjeQ_runs {v0 : Value} {h : Heap} {R : RP} {X : XP} (k : RunC Tryz.prog T0 zjeQ_c ⟨[v0, U, U, U, U, U, U, U, U, U, U, U, U, U, U, U, U, U, U, U, U, U, U, U], [], h, none⟩ (bodyQ Tryz.prog T0 [(2, none)] R X)) :
 Runs Tryz.prog T0 (.fn 115) [v0] h R X := Runs.fn zjeQ_t rfl k
abbrev zjeQ_l0_M : List Nat := [2, 0, 0, 0, 2, 1, 1, 1, 1, 1, 1, 1, 1, 1, 1, 1, 0, 0, 0, 0, 0, 0, 0, 0]
abbrev fn_zzdQ : FuncId := 116
def zzdQ_c : ACode :=
 (.seq (.region [
 o1 3 (.box 66 (tm 1)),
 o1 4 (.mov k0)]) (.seq (.regionD [
 o2 6 (.mov (tm 0)),
 o2 7 (.nilCheck (tm 6)),
 o2 8 (.fieldAddr 4 (tm 7)),
 o2 9 (.load none (tm 8)),
 o2 10 (.mov (tm 9)),
 o4 11 (.mov (tm 0)) 10,
 o4 12 (.nilCheck (tm 11)) 10,
 o4 13 (.fieldAddr 0 (tm 12)) 10,
 o4 14 (.sliceArr 4 1 (tm 13) none none) 10,
 o4 15 (.fieldAddr 0 (tm 3)) 10,
 o4 16 (.sliceArr 4 1 (tm 15) none none) 10,
 ⟨some 17, .callV (.func 154) [(tm 14), (tm 16)], some (10, true), [], true⟩,
 ⟨some 18, .bin .geq (so (.binOp .geq 3 (tm 17) k0 3) 4) (tm 17) k0, some (10, true), [], true⟩,
 o2 19 (.pick (tm 10) (tm 18) (.const (.bool false))),
 o2 5 (.mov (tm 19))]) (.seq (.region [
 o1 20 (.mov (tm 0)),
 o1 21 (.mov (tm 0)),
 o1 22 (.fieldAddr 0 (tm 3)),
 o1 23 (.load (some 4) (tm 22)),
 o1 24 (.nilCheck (tm 20)),
 o1 25 (.fieldAddr 0 (tm 24)),
 o3 (.store 4 (tm 25) (tm 23)),
 o1 26 (.nilCheck (tm 21)),
 o1 27 (.fieldAddr 4 (tm 26)),
 o3 (.store 1 (tm 27) (.const (.bool true)))]) (.seq (.block 0 (.seq (.region [
 o1 29 (.mov (tm 5)),
 o1 28 (.mov (tm 29))]) (.cond (tm 28)
 (.seq (.region [
 o1 4 (.mov (.const (.int .i64 9)))]) .ret)
 (.seq (.regionD [
 o1 31 (.fieldAddr 4 (tm 3)),
 o1 32 (.load none (tm 31)),
 o1 33 (.mov (tm 0)),
 o1 34 (.nilCheck (tm 33)),
 o1 35 (.fieldAddr 5 (tm 34)),
 o1 36 (.load none (tm 35)),
 o2 37 (.bin .lss (so (.binOp .lss 3 (tm 32) (tm 36) 3) 4) (tm 32) (tm 36)),
 o2 38 (.mov (tm 37)),
 o5 39 (.fieldAddr 4 (tm 3)) 38,
 o5 40 (.load none (tm 39)) 38,
 o5 41 (.mov (tm 0)) 38,
 o5 42 (.nilCheck (tm 41)) 38,
 o5 43 (.fieldAddr 6 (tm 42)) 38,
 o5 44 (.load none (tm 43)) 38,
 ⟨some 45, .bin .gtr (so (.binOp .gtr 3 (tm 40) (tm 44) 3) 4) (tm 40) (tm 44), some (38, false), [], true⟩,
 o2 46 (.pick (tm 38) (.const (.bool true)) (tm 45)),
 o2 30 (.mov (tm 46))]) (.cond (tm 30)
 (.seq (.region [
 o1 4 (.mov (.const (.int .i64 3)))]) .ret)
 .skip))))) (.seq (.region [
 o1 4 (.mov k0)]) .ret)))))
def zzdQ : AFunc := ⟨47, [(4, none)], zzdQ_c, none⟩
theorem zzdQ_t0 : tableOf Tryz.prog 116 = some zzdQ := by kernel_rfl
theorem zzdQ_t : T0 116 = some zzdQ := withKept_t rfl (withTrue_t rfl zzdQ_t0)
theorem zzdQ_runs {v0 v1 : Value} {h : Heap} {R : RP} {X : XP} (k : RunC Tryz.prog T0 zzdQ_c ⟨[v0, v1, U, U, U, U, U, U, U, U, U, U, U, U, U, U, U, U, U, U, U, U, U, U, U, U, U, U, U, U, U, U, U, U, U, U, U, U, U, U, U, U, U, U, U, U, U], [], h, none⟩ (bodyQ Tryz.prog T0 [(4, none)] R X)) :
 Runs Tryz.prog T0 (.fn 116) [v0, v1] h R X := Runs.fn zzdQ_t rfl k
abbrev fn_zgdQ : FuncId := 117
def zgdQ_c : ACode :=
 (.seq (.region [
 o1 3 (.box 25 (tm 1))]) (.seq (.region [
 o1 4 (.mov (tm 0)),
 o1 5 (.fieldAddr 0 (tm 3)),
 o1 6 (.load none (tm 5)),
 o1 7 (.callV (.func 155) [(tm 4), (tm 6)])]) (.seq (.region [
 o1 8 (.mov (tm 0)),
 o1 9 (.fieldAddr 1 (tm 3)),
 o1 10 (.load none (tm 9)),
 o1 11 (.callV (.func 118) [(tm 8), (tm 10)])]) (.seq (.region [
 o1 12 (.mov (tm 0)),
 o1 13 (.fieldAddr 2 (tm 3)),
 o1 14 (.load none (tm 13)),
 o1 15 (.callV (.func 118) [(tm 12), (tm 14)])]) (.seq (.region [
 o1 16 (.mov (tm 0)),
 o1 17 (.fieldAddr 3 (tm 3)),
 o1 18 (.load (some 32) (tm 17)),
 o1 19 (.callV (.func 119) [(tm 16), (tm 18)])]) (.seq (.region [
 o1 20 (.mov (tm 0)),
 o1 21 (.fieldAddr 35 (tm 3)),
 o1 22 (.load (some 32) (tm 21)),
 o1 23 (.callV (.func 119) [(tm 20), (tm 22)])]) (.seq (.region [
 o1 24 (.mov (tm 0)),
 o1 25 (.fieldAddr 67 (tm 3)),
 o1 26 (.load (some 32) (tm 25)),
 o1 27 (.callV (.func 119) [(tm 24), (tm 26)])]) (.region [
 o1 28 (.mov (tm 0)),
 o1 29 (.fieldAddr 99 (tm 3)),
 o1 30 (.load (some 32) (tm 29)),
 o1 31 (.callV (.func 119) [(tm 28), (tm 30)])]))))))))
def zgdQ : AFunc := ⟨32, [], zgdQ_c, none⟩
theorem zgdQ_t0 : tableOf Tryz.prog 117 = some zgdQ := by kernel_rfl
theorem zgdQ_t : T0 117 = some zgdQ := withKept_t rfl (withTrue_t rfl zgdQ_t0)
theorem zgdQ_runs {v0 v1 : Value} {h : Heap} {R : RP} {X : XP} (k : RunC Tryz.prog T0 zgdQ_c ⟨[v0, v1, U, U, U, U, U, U, U, U, U, U, U, U, U, U, U, U, U, U, U, U, U, U, U, U, U, U, U, U, U, U], [], h, none⟩ (bodyQ Tryz.prog T0 [] R X)) :
 Runs Tryz.prog T0 (.fn 117) [v0, v1] h R X := Runs.fn zgdQ_t rfl k
abbrev fn_zucQ : FuncId := 118
def zucQ_c : ACode :=
 (.seq (.region [
 o1 4 (.mov k0)]) (.seq (.seq (.region [
 o1 5 (.mov (tm 1)),
 o1 6 (.bin .lss (so (.binOp .lss 3 (tm 5) k0 3) 4) (tm 5) k0),
 o1 7 (.mov (tm 6)),
 o4 8 (.mov (tm 0)) 7,
 o4 9 (.nilCheck (tm 8)) 7,
 o4 10 (.fieldAddr 2 (tm 9)) 7,
 o4 11 (.load none (tm 10)) 7,
 o4 12 (.bin .eql (so (.binOp .eql 34 (tm 11) k0 34) 4) (tm 11) k0) 7,
 o1 13 (.pick (tm 7) (tm 12) (.const (.bool false)))]) (.cond (tm 13)
 (.region [
 o1 14 (.mov (tm 0)),
 o1 15 (.nilCheck (tm 14)),
 o1 16 (.fieldAddr 2 (tm 15)),
 o3 (.store 1 (tm 16) (.const (.int .i64 3)))])
 .skip)) (.seq (.seq (.region [
 o1 17 (.mov (tm 0)),
 o1 18 (.nilCheck (tm 17)),
 o1 19 (.fieldAddr 2 (tm 18)),
 o1 20 (.load none (tm 19)),
 o1 21 (.bin .neq (so (.binOp .neq 34 (tm 20) k0 34) 4) (tm 20) k0)]) (.cond (tm 21)
 (.seq (.region [
 o1 22 (.mov (tm 0)),
 o1 23 (.nilCheck (tm 22)),
 o1 24 (.fieldAddr 2 (tm 23)),
 o1 25 (.load none (tm 24)),
 o1 4 (.mov (tm 25))]) .ret)
 .skip)) (.seq (.region [
 o1 26 (.mov (tm 0)),
 o1 27 (.mov (tm 1)),
 o1 28 (.callV (.func 156) [(tm 27)]),
 o1 29 (.callV (.func 122) [(tm 26), (tm 28)]),
 o1 4 (.mov (tm 29))]) .ret))))
def zucQ : AFunc := ⟨30, [(4, none)], zucQ_c, none⟩
theorem zucQ_t0 : tableOf Tryz.prog 118 = some zucQ := by kernel_rfl
theorem zucQ_t : T0 118 = some zucQ := withKept_t rfl (withTrue_t rfl zucQ_t0)
theorem zucQ_runs {v0 v1 : Value} {h : Heap} {R : RP} {X : XP} (k : RunC Tryz.prog T0 zucQ_c ⟨[v0, v1, U, U, U, U, U, U, U, U, U, U, U, U, U, U, U, U, U, U, U, U, U, U, U, U, U, U, U, U], [], h, none⟩ (bodyQ Tryz.prog T0 [(4, none)] R X)) :
 Runs Tryz.prog T0 (.fn 118) [v0, v1] h R X := Runs.fn zucQ_t rfl k
abbrev fn_zscQ : FuncId := 119
def zscQ_c : ACode :=
 (.seq (.region [
 o1 3 (.box 23 (tm 1)),
 o1 4 (.mov k0)]) (.seq (.region [
 o1 5 (.mov (tm 0)),
 o1 6 (.buildSlice 5 [] 0 []),
 o1 7 (.sliceArr 32 1 (tm 3) none none),
 o1 8 (.append 5 1 1 [(.int .u8 0)] false (tm 6) (tm 7)),
 o1 9 (.callV (.func 122) [(tm 5), (tm 8)]),
 o1 4 (.mov (tm 9))]) .ret))
def zscQ : AFunc := ⟨10, [(4, none)], zscQ_c, none⟩
theorem zscQ_t0 : tableOf Tryz.prog 119 = some zscQ := by kernel_rfl
theorem zscQ_t : T0 119 = some zscQ := withKept_t rfl (withTrue_t rfl zscQ_t0)
theorem zscQ_runs {v0 v1 : Value} {h : Heap} {R : RP} {X : XP} (k : RunC Tryz.prog T0 zscQ_c ⟨[v0, v1, U, U, U, U, U, U, U, U], [], h, none⟩ (bodyQ Tryz.prog T0 [(4, none)] R X)) :
 Runs Tryz.prog T0 (.fn 119) [v0, v1] h R X := Runs.fn zscQ_t rfl k
abbrev fn_zxcQ : FuncId := 120
def zxcQ_c : ACode :=
 (.seq (.region [
 o1 4 (.mov k0)]) (.seq (.region [
 o1 5 (.mov (tm 0)),
 o1 6 (.mov (tm 1)),
 o1 7 (.callV (.func 157) [(tm 6)]),
 o1 8 (.callV (.func 122) [(tm 5), (tm 7)]),
 o1 4 (.mov (tm 8))]) .ret))
def zxcQ : AFunc := ⟨9, [(4, none)], zxcQ_c, none⟩
theorem zxcQ_t0 : tableOf Tryz.prog 120 = some zxcQ := by kernel_rfl
theorem zxcQ_t : T0 120 = some zxcQ := withKept_t rfl (withTrue_t rfl zxcQ_t0)
theorem zxcQ_runs {v0 v1 : Value} {h : Heap} {R : RP} {X : XP} (k : RunC Tryz.prog T0 zxcQ_c ⟨[v0, v1, U, U, U, U, U, U, U], [], h, none⟩ (bodyQ Tryz.prog T0 [(4, none)] R X)) :
 Runs Tryz.prog T0 (.fn 120) [v0, v1] h R X := Runs.fn zxcQ_t rfl k
abbrev fn_ztcQ : FuncId := 121
def ztcQ_c : ACode :=
 (.seq (.region [
 o1 3 (.box 64 (tm 1)),
 o1 4 (.mov k0)]) (.seq (.region [
 o1 5 (.mov (tm 0)),
 o1 6 (.buildSlice 5 [] 0 []),
 o1 7 (.sliceArr 4 1 (tm 3) none none),
 o1 8 (.append 5 1 1 [(.int .u8 0)] false (tm 6) (tm 7)),
 o1 9 (.callV (.func 122) [(tm 5), (tm 8)]),
 o1 4 (.mov (tm 9))]) .ret))
def ztcQ : AFunc := ⟨10, [(4, none)], ztcQ_c, none⟩
theorem ztcQ_t0 : tableOf Tryz.prog 121 = some ztcQ := by kernel_rfl
theorem ztcQ_t : T0 121 = some ztcQ := withKept_t rfl (withTrue_t rfl ztcQ_t0)
theorem ztcQ_runs {v0 v1 : Value} {h : Heap} {R : RP} {X : XP} (k : RunC Tryz.prog T0 ztcQ_c ⟨[v0, v1, U, U, U, U, U, U, U, U], [], h, none⟩ (bodyQ Tryz.prog T0 [(4, none)] R X)) :
 Runs Tryz.prog T0 (.fn 121) [v0, v1] h R X := Runs.fn ztcQ_t rfl k
abbrev fn_zvcQ : FuncId := 122
def zvcQ_c : ACode :=
 (.seq (.region [
 o1 4 (.mov k0)]) (.seq (.seq (.regionD [
 o2 5 (.mov (tm 0)),
 o2 6 (.nilCheck (tm 5)),
 o2 7 (.fieldAddr 2 (tm 6)),
 o2 8 (.load none (tm 7)),
 o2 9 (.bin .eql (so (.binOp .eql 34 (tm 8) k0 34) 4) (tm 8) k0),
 o2 10 (.mov (tm 9)),
 o4 11 (.mov (tm 0)) 10,
 o4 12 (.nilCheck (tm 11)) 10,
 o4 13 (.fieldAddr 1 (tm 12)) 10,
 o4 14 (.load none (tm 13)) 10,
 o4 15 (.lenSl (tm 14)) 10,
 o4 16 (.mov (tm 1)) 10,
 o4 17 (.lenSl (tm 16)) 10,
 o4 18 (.bin .add (so (.binOp .add 3 (tm 15) (tm 17) 3) 3) (tm 15) (tm 17)) 10,
 o4 19 (.mov (tm 0)) 10,
 o4 20 (.nilCheck (tm 19)) 10,
 o4 21 (.fieldAddr 0 (tm 20)) 10,
 o4 22 (.load none (tm 21)) 10,
 ⟨some 23, .bin .gtr (so (.binOp .gtr 3 (tm 18) (tm 22) 3) 4) (tm 18) (tm 22), some (10, true), [], true⟩,
 o2 24 (.pick (tm 10) (tm 23) (.const (.bool false)))]) (.cond (tm 24)
 (.region [
 o1 25 (.mov (tm 0)),
 o1 26 (.nilCheck (tm 25)),
 o1 27 (.fieldAddr 2 (tm 26)),
 o3 (.store 1 (tm 27) (.const (.int .i64 4)))])
 .skip)) (.seq (.seq (.region [
 o1 28 (.mov (tm 0)),
 o1 29 (.nilCheck (tm 28)),
 o1 30 (.fieldAddr 2 (tm 29)),
 o1 31 (.load none (tm 30)),
 o1 32 (.bin .eql (so (.binOp .eql 34 (tm 31) k0 34) 4) (tm 31) k0)]) (.cond (tm 32)
 (.region [
 o1 33 (.mov (tm 0)),
 o1 34 (.buildSlice 5 [] 0 []),
 o1 35 (.mov (tm 0)),
 o1 36 (.nilCheck (tm 35)),
 o1 37 (.fieldAddr 1 (tm 36)),
 o1 38 (.load none (tm 37)),
 o1 39 (.append 5 1 1 [(.int .u8 0)] false (tm 34) (tm 38)),
 o1 40 (.mov (tm 1)),
 o1 41 (.append 5 1 1 [(.int .u8 0)] false (tm 39) (tm 40)),
 o1 42 (.nilCheck (tm 33)),
 o1 43 (.fieldAddr 1 (tm 42)),
 o3 (.store 1 (tm 43) (tm 41))])
 .skip)) (.seq (.region [
 o1 44 (.mov (tm 0)),
 o1 45 (.nilCheck (tm 44)),
 o1 46 (.fieldAddr 2 (tm 45)),
 o1 47 (.load none (tm 46)),
 o1 4 (.mov (tm 47))]) .ret))))
def zvcQ : AFunc := ⟨48, [(4, none)], zvcQ_c, none⟩
theorem zvcQ_t0 : tableOf Tryz.prog 122 = some zvcQ := by kernel_rfl
theorem zvcQ_t : T0 122 = some zvcQ := withKept_t rfl (withTrue_t rfl zvcQ_t0)
theorem zvcQ_runs {v0 v1 : Value} {h : Heap} {R : RP} {X : XP} (k : RunC Tryz.prog T0 zvcQ_c ⟨[v0, v1, U, U, U, U, U, U, U, U, U, U, U, U, U, U, U, U, U, U, U, U, U, U, U, U, U, U, U, U, U, U, U, U, U, U, U, U, U, U, U, U, U, U, U, U, U, U], [], h, none⟩ (bodyQ Tryz.prog T0 [(4, none)] R X)) :
 Runs Tryz.prog T0 (.fn 122) [v0, v1] h R X := Runs.fn zvcQ_t rfl k
abbrev fn_zmcQ : FuncId := 123
def zmcQ_c : ACode :=
 (.seq (.region [
 o1 2 (.mov (.const (.slice none 0 0)))]) (.seq (.region [
 o1 3 (.mov (tm 0)),
 o1 4 (.lenSl (tm 3)),
 o1 5 (.callV (.func 156) [(tm 4)]),
 o1 6 (.mov (tm 0)),
 o1 7 (.append 5 1 1 [(.int .u8 0)] false (tm 5) (tm 6)),
 o1 2 (.mov (tm 7))]) .ret))
def zmcQ : AFunc := ⟨8, [(2, none)], zmcQ_c, none⟩
theorem zmcQ_t0 : tableOf Tryz.prog 123 = some zmcQ := by kernel_rfl
theorem zmcQ_t : T0 123 = some zmcQ := withKept_t rfl (withTrue_t rfl zmcQ_t0)
theorem zmcQ_runs {v0 : Value} {h : Heap} {R : RP} {X : XP} (k : RunC Tryz.prog T0 zmcQ_c ⟨[v0, U, U, U, U, U, U, U], [], h, none⟩ (bodyQ Tryz.prog T0 [(2, none)] R X)) :
 Runs Tryz.prog T0 (.fn 123) [v0] h R X := Runs.fn zmcQ_t rfl k
abbrev fn_zhcQ : FuncId := 127
def zhcQ_c : ACode :=
 (.seq (.region [
 o1 0 (.alloc 152 [(.int .u32 0), (.int .u32 0), (.int .u32 0), (.int .u32 0), (.int .u32 0), (.int .u32 0), (.int .u32 0), (.int .u32 0)])]) (.seq (.region [
 o1 1 (.build [(.int .u32 0), (.int .u32 0), (.int .u32 0), (.int .u32 0), (.int .u32 0), (.int .u32 0), (.int .u32 0), (.int .u32 0)] [(0, 1, (.const (.int .u32 1779033703))), (1, 1, (.const (.int .u32 3144134277))), (2, 1, (.const (.int .u32 1013904242))), (3, 1, (.const (.int .u32 2773480762))), (4, 1, (.const (.int .u32 1359893119))), (5, 1, (.const (.int .u32 2600822924))), (6, 1, (.const (.int .u32 528734635))), (7, 1, (.const (.int .u32 1541459225)))]),
 o3 (.store 8 (tm 0) (tm 1))]) .ret))
def zhcQ : AFunc := ⟨2, [(0, some (some 8))], zhcQ_c, none⟩
theorem zhcQ_t0 : tableOf Tryz.prog 127 = some zhcQ := by kernel_rfl
theorem zhcQ_t : T0 127 = some zhcQ := withKept_t rfl (withTrue_t rfl zhcQ_t0)
theorem zhcQ_runs {v : Value} {h : Heap} {R : RP} {X : XP} (k : RunC Tryz.prog T0 zhcQ_c ⟨[undef, U], [], h, none⟩ (bodyQ Tryz.prog T0 [(0, some (some 8))] R X)) :
 Runs Tryz.prog T0 (.fn 127) [] h R X := Runs.fn zhcQ_t rfl k
abbrev fn_zicQ : FuncId := 128
def zicQ_l0 : ACode :=
 (.seq (.seq (.region [
 o1 18 (.mov (tm 10)),
 o1 19 (.bin .lss (so (.binOp .lss 3 (tm 18) (.const (.int .i64 16)) 3) 4) (tm 18) (.const (.int .i64 16)))]) (.cond (tm 19)
 .skip
 (.exit 0))) (.seq (.block 1 (.regionD [
 o1 22 (.mov (tm 10)),
 o1 23 (.mov (tm 1)),
 o1 24 (.mov (tm 10)),
 o1 25 (.bin .mul (so (.binOp .mul 3 (.const (.int .i64 4)) (tm 24) 3) 3) (.const (.int .i64 4)) (tm 24)),
 o1 26 (.indexSl 1 (tm 23) (tm 25)),
 o1 27 (.load none (tm 26)),
 o1 28 (.conv .u32 (so (.convert 5 151 (tm 27)) 151) (tm 27)),
 o1 29 (.mov (tm 1)),
 o1 30 (.mov (tm 10)),
 o1 31 (.bin .mul (so (.binOp .mul 3 (.const (.int .i64 4)) (tm 30) 3) 3) (.const (.int .i64 4)) (tm 30)),
 o1 32 (.bin .add (so (.binOp .add 3 (tm 31) (.const (.int .i64 1)) 3) 3) (tm 31) (.const (.int .i64 1))),
 o1 33 (.indexSl 1 (tm 29) (tm 32)),
 o1 34 (.load none (tm 33)),
 o1 35 (.conv .u32 (so (.convert 5 151 (tm 34)) 151) (tm 34)),
 o1 36 (.bin .shl (so (.binOp .shl 151 (tm 35) (.const (.int .u64 8)) 155) 151) (tm 35) (.const (.int .u64 8))),
 o1 37 (.bin .or (so (.binOp .or 151 (tm 28) (tm 36) 151) 151) (tm 28) (tm 36)),
 o1 38 (.mov (tm 1)),
 o1 39 (.mov (tm 10)),
 o1 40 (.bin .mul (so (.binOp .mul 3 (.const (.int .i64 4)) (tm 39) 3) 3) (.const (.int .i64 4)) (tm 39)),
 o1 41 (.bin .add (so (.binOp .add 3 (tm 40) (.const (.int .i64 2)) 3) 3) (tm 40) (.const (.int .i64 2))),
 o1 42 (.indexSl 1 (tm 38) (tm 41)),
 o1 43 (.load none (tm 42)),
 o1 44 (.conv .u32 (so (.convert 5 151 (tm 43)) 151) (tm 43)),
 o1 45 (.bin .shl (so (.binOp .shl 151 (tm 44) (.const (.int .u64 16)) 155) 151) (tm 44) (.const (.int .u64 16))),
 o1 46 (.bin .or (so (.binOp .or 151 (tm 37) (tm 45) 151) 151) (tm 37) (tm 45)),
 o1 47 (.mov (tm 1)),
 o1 48 (.mov (tm 10)),
 o1 49 (.bin .mul (so (.binOp .mul 3 (.const (.int .i64 4)) (tm 48) 3) 3) (.const (.int .i64 4)) (tm 48)),
 o1 50 (.bin .add (so (.binOp .add 3 (tm 49) (.const (.int .i64 3)) 3) 3) (tm 49) (.const (.int .i64 3))),
 o1 51 (.indexSl 1 (tm 47) (tm 50)),
 o1 52 (.load none (tm 51)),
 o1 53 (.conv .u32 (so (.convert 5 151 (tm 52)) 151) (tm 52)),
 o1 54 (.bin .shl (so (.binOp .shl 151 (tm 53) (.const (.int .u64 24)) 155) 151) (tm 53) (.const (.int .u64 24))),
 o1 55 (.bin .or (so (.binOp .or 151 (tm 46) (tm 54) 151) 151) (tm 46) (tm 54)),
 o2 56 (.indexArr 16 1 (tm 9) (tm 22)),
 ⟨none, .store 1 (tm 56) (tm 55), none, [], true⟩])) (.region [
 o1 20 (.mov (tm 10)),
 o1 21 (.bin .add (so (.binOp .add 3 (tm 20) (.const (.int .i64 1)) 3) 3) (tm 20) (.const (.int .i64 1))),
 o1 10 (.mov (tm 21))])))
def zicQ_l1 : ACode :=
 (.seq (.seq (.region [
 o1 57 (.mov (tm 12)),
 o1 58 (.bin .lss (so (.binOp .lss 3 (tm 57) (.const (.int .i64 8)) 3) 4) (tm 57) (.const (.int .i64 8)))]) (.cond (tm 58)
 .skip
 (.exit 2))) (.seq (.block 3 (.seq (.region [
 o1 61 (.mov (tm 12)),
 o1 62 (.mov (tm 12)),
 o1 63 (.indexArr 8 1 (tm 4) (tm 62)),
 o1 64 (.load none (tm 63)),
 o1 65 (.indexArr 16 1 (tm 11) (tm 61)),
 o3 (.store 1 (tm 65) (tm 64))]) (.region [
 o1 66 (.mov (tm 12)),
 o1 67 (.bin .add (so (.binOp .add 3 (tm 66) (.const (.int .i64 8)) 3) 3) (tm 66) (.const (.int .i64 8))),
 o1 68 (.callV (.func 127) []),
 o1 69 (.mov (tm 12)),
 o1 70 (.index 8 1 none (tm 68) (tm 69)),
 o1 71 (.indexArr 16 1 (tm 11) (tm 67)),
 o3 (.store 1 (tm 71) (tm 70))]))) (.region [
 o1 59 (.mov (tm 12)),
 o1 60 (.bin .add (so (.binOp .add 3 (tm 59) (.const (.int .i64 1)) 3) 3) (tm 59) (.const (.int .i64 1))),
 o1 12 (.mov (tm 60))])))
def zicQ_l2 : ACode :=
 (.seq (.seq (.region [
 o1 98 (.mov (tm 15)),
 o1 99 (.bin .lss (so (.binOp .lss 3 (tm 98) (.const (.int .i64 4)) 3) 4) (tm 98) (.const (.int .i64 4)))]) (.cond (tm 99)
 .skip
 (.exit 6))) (.seq (.block 7 (.regionD [
 o1 102 (.load (some 16) (tm 11)),
 o1 103 (.mov (tm 15)),
 o1 104 (.mov (tm 15)),
 o1 105 (.bin .add (so (.binOp .add 3 (tm 104) (.const (.int .i64 4)) 3) 3) (tm 104) (.const (.int .i64 4))),
 o1 106 (.mov (tm 15)),
 o1 107 (.bin .add (so (.binOp .add 3 (tm 106) (.const (.int .i64 8)) 3) 3) (tm 106) (.const (.int .i64 8))),
 o1 108 (.mov (tm 15)),
 o1 109 (.bin .add (so (.binOp .add 3 (tm 108) (.const (.int .i64 12)) 3) 3) (tm 108) (.const (.int .i64 12))),
 o1 110 (.mov (tm 15)),
 o1 111 (.bin .mul (so (.binOp .mul 3 (.const (.int .i64 2)) (tm 110) 3) 3) (.const (.int .i64 2)) (tm 110)),
 o1 112 (.indexArr 16 1 (tm 14) (tm 111)),
 o1 113 (.load none (tm 112)),
 o1 114 (.indexArr 16 1 (tm 9) (tm 113)),
 o1 115 (.load none (tm 114)),
 o1 116 (.mov (tm 15)),
 o1 117 (.bin .mul (so (.binOp .mul 3 (.const (.int .i64 2)) (tm 116) 3) 3) (.const (.int .i64 2)) (tm 116)),
 o1 118 (.bin .add (so (.binOp .add 3 (tm 117) (.const (.int .i64 1)) 3) 3) (tm 117) (.const (.int .i64 1))),
 o1 119 (.indexArr 16 1 (tm 14) (tm 118)),
 o1 120 (.load none (tm 119)),
 o1 121 (.indexArr 16 1 (tm 9) (tm 120)),
 o1 122 (.load none (tm 121)),
 o2 123 (.callV (.func 164) [(tm 102), (tm 103), (tm 105), (tm 107), (tm 109), (tm 115), (tm 122)]),
 ⟨none, .store 16 (tm 11) (tm 123), none, [], true⟩])) (.region [
 o1 100 (.mov (tm 15)),
 o1 101 (.bin .add (so (.binOp .add 3 (tm 100) (.const (.int .i64 1)) 3) 3) (tm 100) (.const (.int .i64 1))),
 o1 15 (.mov (tm 101))])))
def zicQ_l3 : ACode :=
 (.seq (.seq (.region [
 o1 124 (.mov (tm 16)),
 o1 125 (.bin .lss (so (.binOp .lss 3 (tm 124) (.const (.int .i64 4)) 3) 4) (tm 124) (.const (.int .i64 4)))]) (.cond (tm 125)
 .skip
 (.exit 8))) (.seq (.block 9 (.regionD [
 o1 128 (.load (some 16) (tm 11)),
 o1 129 (.mov (tm 16)),
 o1 130 (.mov (tm 16)),
 o1 131 (.bin .add (so (.binOp .add 3 (tm 130) (.const (.int .i64 1)) 3) 3) (tm 130) (.const (.int .i64 1))),
 o1 132 (.bin .rem (so (.binOp .rem 3 (tm 131) (.const (.int .i64 4)) 3) 3) (tm 131) (.const (.int .i64 4))),
 o1 133 (.bin .add (so (.binOp .add 3 (.const (.int .i64 4)) (tm 132) 3) 3) (.const (.int .i64 4)) (tm 132)),
 o1 134 (.mov (tm 16)),
 o1 135 (.bin .add (so (.binOp .add 3 (tm 134) (.const (.int .i64 2)) 3) 3) (tm 134) (.const (.int .i64 2))),
 o1 136 (.bin .rem (so (.binOp .rem 3 (tm 135) (.const (.int .i64 4)) 3) 3) (tm 135) (.const (.int .i64 4))),
 o1 137 (.bin .add (so (.binOp .add 3 (.const (.int .i64 8)) (tm 136) 3) 3) (.const (.int .i64 8)) (tm 136)),
 o1 138 (.mov (tm 16)),
 o1 139 (.bin .add (so (.binOp .add 3 (tm 138) (.const (.int .i64 3)) 3) 3) (tm 138) (.const (.int .i64 3))),
 o1 140 (.bin .rem (so (.binOp .rem 3 (tm 139) (.const (.int .i64 4)) 3) 3) (tm 139) (.const (.int .i64 4))),
 o1 141 (.bin .add (so (.binOp .add 3 (.const (.int .i64 12)) (tm 140) 3) 3) (.const (.int .i64 12)) (tm 140)),
 o1 142 (.mov (tm 16)),
 o1 143 (.bin .mul (so (.binOp .mul 3 (.const (.int .i64 2)) (tm 142) 3) 3) (.const (.int .i64 2)) (tm 142)),
 o1 144 (.bin .add (so (.binOp .add 3 (.const (.int .i64 8)) (tm 143) 3) 3) (.const (.int .i64 8)) (tm 143)),
 o1 145 (.indexArr 16 1 (tm 14) (tm 144)),
 o1 146 (.load none (tm 145)),
 o1 147 (.indexArr 16 1 (tm 9) (tm 146)),
 o1 148 (.load none (tm 147)),
 o1 149 (.mov (tm 16)),
 o1 150 (.bin .mul (so (.binOp .mul 3 (.const (.int .i64 2)) (tm 149) 3) 3) (.const (.int .i64 2)) (tm 149)),
 o1 151 (.bin .add (so (.binOp .add 3 (.const (.int .i64 9)) (tm 150) 3) 3) (.const (.int .i64 9)) (tm 150)),
 o1 152 (.indexArr 16 1 (tm 14) (tm 151)),
 o1 153 (.load none (tm 152)),
 o1 154 (.indexArr 16 1 (tm 9) (tm 153)),
 o1 155 (.load none (tm 154)),
 o2 156 (.callV (.func 164) [(tm 128), (tm 129), (tm 133), (tm 137), (tm 141), (tm 148), (tm 155)]),
 ⟨none, .store 16 (tm 11) (tm 156), none, [], true⟩])) (.region [
 o1 126 (.mov (tm 16)),
 o1 127 (.bin .add (so (.binOp .add 3 (tm 126) (.const (.int .i64 1)) 3) 3) (tm 126) (.const (.int .i64 1))),
 o1 16 (.mov (tm 127))])))
def zicQ_l4 : ACode :=
 (.seq (.seq (.region [
 o1 92 (.mov (tm 13)),
 o1 93 (.bin .lss (so (.binOp .lss 3 (tm 92) (.const (.int .i64 10)) 3) 4) (tm 92) (.const (.int .i64 10)))]) (.cond (tm 93)
 .skip
 (.exit 4))) (.seq (.block 5 (.seq (.region [
 o1 96 (.mov (tm 13)),
 o1 97 (.callV (.func 163) [(tm 96)]),
 o1 14 (.alloc 199 [(.int .i64 0), (.int .i64 0), (.int .i64 0), (.int .i64 0), (.int .i64 0), (.int .i64 0), (.int .i64 0), (.int .i64 0), (.int .i64 0), (.int .i64 0), (.int .i64 0), (.int .i64 0), (.int .i64 0), (.int .i64 0), (.int .i64 0), (.int .i64 0)]),
 o3 (.store 16 (tm 14) (tm 97))]) (.seq (.seq (.region [
 o1 15 (.mov k0)]) (.block 6 (.loop zicQ_l2))) (.seq (.region [
 o1 16 (.mov k0)]) (.block 8 (.loop zicQ_l3)))))) (.region [
 o1 94 (.mov (tm 13)),
 o1 95 (.bin .add (so (.binOp .add 3 (tm 94) (.const (.int .i64 1)) 3) 3) (tm 94) (.const (.int .i64 1))),
 o1 13 (.mov (tm 95))])))
def zicQ_l5 : ACode :=
 (.seq (.seq (.region [
 o1 157 (.mov (tm 17)),
 o1 158 (.bin .lss (so (.binOp .lss 3 (tm 157) (.const (.int .i64 8)) 3) 4) (tm 157) (.const (.int .i64 8)))]) (.cond (tm 158)
 .skip
 (.exit 10))) (.seq (.block 11 (.regionD [
 o1 161 (.mov (tm 17)),
 o1 162 (.mov (tm 17)),
 o1 163 (.indexArr 8 1 (tm 4) (tm 162)),
 o1 164 (.load none (tm 163)),
 o1 165 (.mov (tm 17)),
 o1 166 (.indexArr 16 1 (tm 11) (tm 165)),
 o1 167 (.load none (tm 166)),
 o1 168 (.bin .xor (so (.binOp .xor 151 (tm 164) (tm 167) 151) 151) (tm 164) (tm 167)),
 o1 169 (.mov (tm 17)),
 o1 170 (.bin .add (so (.binOp .add 3 (tm 169) (.const (.int .i64 8)) 3) 3) (tm 169) (.const (.int .i64 8))),
 o1 171 (.indexArr 16 1 (tm 11) (tm 170)),
 o1 172 (.load none (tm 171)),
 o1 173 (.bin .xor (so (.binOp .xor 151 (tm 168) (tm 172) 151) 151) (tm 168) (tm 172)),
 o2 174 (.indexArr 8 1 (tm 4) (tm 161)),
 ⟨none, .store 1 (tm 174) (tm 173), none, [], true⟩])) (.region [
 o1 159 (.mov (tm 17)),
 o1 160 (.bin .add (so (.binOp .add 3 (tm 159) (.const (.int .i64 1)) 3) 3) (tm 159) (.const (.int .i64 1))),
 o1 17 (.mov (tm 160))])))
def zicQ_c : ACode :=
 (.seq (.region [
 o1 4 (.box 152 (tm 0)),
 o1 8 (.alloc 152 [(.int .u32 0), (.int .u32 0), (.int .u32 0), (.int .u32 0), (.int .u32 0), (.int .u32 0), (.int .u32 0), (.int .u32 0)])]) (.seq (.region [
 o1 9 (.alloc 198 [(.int .u32 0), (.int .u32 0), (.int .u32 0), (.int .u32 0), (.int .u32 0), (.int .u32 0), (.int .u32 0), (.int .u32 0), (.int .u32 0), (.int .u32 0), (.int .u32 0), (.int .u32 0), (.int .u32 0), (.int .u32 0), (.int .u32 0), (.int .u32 0)])]) (.seq (.seq (.region [
 o1 10 (.mov k0)]) (.block 0 (.loop zicQ_l0))) (.seq (.region [
 o1 11 (.alloc 198 [(.int .u32 0), (.int .u32 0), (.int .u32 0), (.int .u32 0), (.int .u32 0), (.int .u32 0), (.int .u32 0), (.int .u32 0), (.int .u32 0), (.int .u32 0), (.int .u32 0), (.int .u32 0), (.int .u32 0), (.int .u32 0), (.int .u32 0), (.int .u32 0)])]) (.seq (.seq (.region [
 o1 12 (.mov k0)]) (.block 2 (.loop zicQ_l1))) (.seq (.region [
 o1 72 (.indexArr 16 1 (tm 11) (.const (.int .i64 12))),
 o1 73 (.load none (tm 72)),
 o1 74 (.mov (tm 2)),
 o1 75 (.conv .u64 (so (.convert 3 107 (tm 74)) 107) (tm 74)),
 o1 76 (.conv .u32 (so (.convert 107 151 (tm 75)) 151) (tm 75)),
 o1 77 (.bin .xor (so (.binOp .xor 151 (tm 73) (tm 76) 151) 151) (tm 73) (tm 76)),
 o1 78 (.indexArr 16 1 (tm 11) (.const (.int .i64 12))),
 o3 (.store 1 (tm 78) (tm 77))]) (.seq (.region [
 o1 79 (.indexArr 16 1 (tm 11) (.const (.int .i64 13))),
 o1 80 (.load none (tm 79)),
 o1 81 (.mov (tm 2)),
 o1 82 (.conv .u64 (so (.convert 3 107 (tm 81)) 107) (tm 81)),
 o1 83 (.bin .shr (so (.binOp .shr 107 (tm 82) (.const (.int .u64 32)) 155) 107) (tm 82) (.const (.int .u64 32))),
 o1 84 (.conv .u32 (so (.convert 107 151 (tm 83)) 151) (tm 83)),
 o1 85 (.bin .xor (so (.binOp .xor 151 (tm 80) (tm 84) 151) 151) (tm 80) (tm 84)),
 o1 86 (.indexArr 16 1 (tm 11) (.const (.int .i64 13))),
 o3 (.store 1 (tm 86) (tm 85))]) (.seq (.seq (.region [
 o1 87 (.mov (tm 3))]) (.cond (tm 87)
 (.region [
 o1 88 (.indexArr 16 1 (tm 11) (.const (.int .i64 14))),
 o1 89 (.load none (tm 88)),
 o1 90 (.raw (so (.unOp .xor 151 (tm 89)) 151)),
 o1 91 (.indexArr 16 1 (tm 11) (.const (.int .i64 14))),
 o3 (.store 1 (tm 91) (tm 90))])
 .skip)) (.seq (.seq (.region [
 o1 13 (.mov k0)]) (.block 4 (.loop zicQ_l4))) (.seq (.seq (.region [
 o1 17 (.mov k0)]) (.block 10 (.loop zicQ_l5))) (.seq (.region [
 o1 175 (.load (some 8) (tm 4)),
 o3 (.store 8 (tm 8) (tm 175))]) .ret)))))))))))
def zicQ : AFunc := ⟨176, [(8, some (some 8))], zicQ_c, none⟩
theorem zicQ_t0 : tableOf Tryz.prog 128 = some zicQ := by kernel_rfl
theorem zicQ_t : T0 128 = some zicQ := withKept_t rfl (withTrue_t rfl zicQ_t0)
theorem zicQ_runs {v0 v1 v2 v3 : Value} {h : Heap} {R : RP} {X : XP} (k : RunC Tryz.prog T0 zicQ_c ⟨[v0, v1, v2, v3, U, U, U, U, U, U, U, U, U, U, U, U, U, U, U, U, U, U, U, U, U, U, U, U, U, U, U, U, U, U, U, U, U, U, U, U, U, U, U, U, U, U, U, U, U, U, U, U, U, U, U, U, U, U, U, U, U, U, U, U, U, U, U, U, U, U, U, U, U, U, U, U, U, U, U, U, U, U, U, U, U, U, U, U, U, U, U, U, U, U, U, U, U, U, U, U, U, U, U, U, U, U, U, U, U, U, U, U, U, U, U, U, U, U, U, U, U, U, U, U, U, U, U, U, U, U, U, U, U, U, U, U, U, U, U, U, U, U, U, U, U, U, U, U, U, U, U, U, U, U, U, U, U, U, U, U, U, U, U, U, U, U, U, U, U, U, U, U, U, U, U, U], [], h, none⟩ (bodyQ Tryz.prog T0 [(8, some (some 8))] R X)) :
 Runs Tryz.prog T0 (.fn 128) [v0, v1, v2, v3] h R X := Runs.fn zicQ_t rfl k
abbrev zicQ_l0_M : List Nat := [0, 0, 0, 0, 0, 0, 0, 0, 0, 0, 2, 0, 0, 0, 0, 0, 0, 0, 1, 1, 1, 1, 1, 1, 1, 1, 1, 1, 1, 1, 1, 1, 1, 1, 1, 1, 1, 1, 1, 1, 1, 1, 1, 1, 1, 1, 1, 1, 1, 1, 1, 1, 1, 1, 1, 1, 1, 0, 0, 0, 0, 0, 0, 0, 0, 0, 0, 0, 0, 0, 0, 0, 0, 0, 0, 0, 0, 0, 0, 0, 0, 0, 0, 0, 0, 0, 0, 0, 0, 0, 0, 0, 0, 0, 0, 0, 0, 0, 0, 0, 0, 0, 0, 0, 0, 0, 0, 0, 0, 0, 0, 0, 0, 0, 0, 0, 0, 0, 0, 0, 0, 0, 0, 0, 0, 0, 0, 0, 0, 0, 0, 0, 0, 0, 0, 0, 0, 0, 0, 0, 0, 0, 0, 0, 0, 0, 0, 0, 0, 0, 0, 0, 0, 0, 0, 0, 0, 0, 0, 0, 0, 0, 0, 0, 0, 0, 0, 0, 0, 0, 0, 0, 0, 0, 0, 0]
abbrev zicQ_l1_M : List Nat := [0, 0, 0, 0, 0, 0, 0, 0, 0, 0, 0, 0, 2, 0, 0, 0, 0, 0, 0, 0, 0, 0, 0, 0, 0, 0, 0, 0, 0, 0, 0, 0, 0, 0, 0, 0, 0, 0, 0, 0, 0, 0, 0, 0, 0, 0, 0, 0, 0, 0, 0, 0, 0, 0, 0, 0, 0, 1, 1, 1, 1, 1, 1, 1, 1, 1, 1, 1, 1, 1, 1, 1, 0, 0, 0, 0, 0, 0, 0, 0, 0, 0, 0, 0, 0, 0, 0, 0, 0, 0, 0, 0, 0, 0, 0, 0, 0, 0, 0, 0, 0, 0, 0, 0, 0, 0, 0, 0, 0, 0, 0, 0, 0, 0, 0, 0, 0, 0, 0, 0, 0, 0, 0, 0, 0, 0, 0, 0, 0, 0, 0, 0, 0, 0, 0, 0, 0, 0, 0, 0, 0, 0, 0, 0, 0, 0, 0, 0, 0, 0, 0, 0, 0, 0, 0, 0, 0, 0, 0, 0, 0, 0, 0, 0, 0, 0, 0, 0, 0, 0, 0, 0, 0, 0, 0, 0]
abbrev zicQ_l2_M : List Nat := [0, 0, 0, 0, 0, 0, 0, 0, 0, 0, 0, 0, 0, 0, 0, 2, 0, 0, 0, 0, 0, 0, 0, 0, 0, 0, 0, 0, 0, 0, 0, 0, 0, 0, 0, 0, 0, 0, 0, 0, 0, 0, 0, 0, 0, 0, 0, 0, 0, 0, 0, 0, 0, 0, 0, 0, 0, 0, 0, 0, 0, 0, 0, 0, 0, 0, 0, 0, 0, 0, 0, 0, 0, 0, 0, 0, 0, 0, 0, 0, 0, 0, 0, 0, 0, 0, 0, 0, 0, 0, 0, 0, 0, 0, 0, 0, 0, 0, 1, 1, 1, 1, 1, 1, 1, 1, 1, 1, 1, 1, 1, 1, 1, 1, 1, 1, 1, 1, 1, 1, 1, 1, 1, 1, 0, 0, 0, 0, 0, 0, 0, 0, 0, 0, 0, 0, 0, 0, 0, 0, 0, 0, 0, 0, 0, 0, 0, 0, 0, 0, 0, 0, 0, 0, 0, 0, 0, 0, 0, 0, 0, 0, 0, 0, 0, 0, 0, 0, 0, 0, 0, 0, 0, 0, 0, 0]
abbrev zicQ_l3_M : List Nat := [0, 0, 0, 0, 0, 0, 0, 0, 0, 0, 0, 0, 0, 0, 0, 0, 2, 0, 0, 0, 0, 0, 0, 0, 0, 0, 0, 0, 0, 0, 0, 0, 0, 0, 0, 0, 0, 0, 0, 0, 0, 0, 0, 0, 0, 0, 0, 0, 0, 0, 0, 0, 0, 0, 0, 0, 0, 0, 0, 0, 0, 0, 0, 0, 0, 0, 0, 0, 0, 0, 0, 0, 0, 0, 0, 0, 0, 0, 0, 0, 0, 0, 0, 0, 0, 0, 0, 0, 0, 0, 0, 0, 0, 0, 0, 0, 0, 0, 0, 0, 0, 0, 0, 0, 0, 0, 0, 0, 0, 0, 0, 0, 0, 0, 0, 0, 0, 0, 0, 0, 0, 0, 0, 0, 1, 1, 1, 1, 1, 1, 1, 1, 1, 1, 1, 1, 1, 1, 1, 1, 1, 1, 1, 1, 1, 1, 1, 1, 1, 1, 1, 1, 1, 1, 1, 1, 1, 0, 0, 0, 0, 0, 0, 0, 0, 0, 0, 0, 0, 0, 0, 0, 0, 0, 0, 0]
abbrev zicQ_l4_M : List Nat := [0, 0, 0, 0, 0, 0, 0, 0, 0, 0, 0, 0, 0, 2, 1, 1, 1, 0, 0, 0, 0, 0, 0, 0, 0, 0, 0, 0, 0, 0, 0, 0, 0, 0, 0, 0, 0, 0, 0, 0, 0, 0, 0, 0, 0, 0, 0, 0, 0, 0, 0, 0, 0, 0, 0, 0, 0, 0, 0, 0, 0, 0, 0, 0, 0, 0, 0, 0, 0, 0, 0, 0, 0, 0, 0, 0, 0, 0, 0, 0, 0, 0, 0, 0, 0, 0, 0, 0, 0, 0, 0, 0, 1, 1, 1, 1, 1, 1, 1, 1, 1, 1, 1, 1, 1, 1, 1, 1, 1, 1, 1, 1, 1, 1, 1, 1, 1, 1, 1, 1, 1, 1, 1, 1, 1, 1, 1, 1, 1, 1, 1, 1, 1, 1, 1, 1, 1, 1, 1, 1, 1, 1, 1, 1, 1, 1, 1, 1, 1, 1, 1, 1, 1, 1, 1, 1, 1, 0, 0, 0, 0, 0, 0, 0, 0, 0, 0, 0, 0, 0, 0, 0, 0, 0, 0, 0]
abbrev zicQ_l5_M : List Nat := [0, 0, 0, 0, 0, 0, 0, 0, 0, 0, 0, 0, 0, 0, 0, 0, 0, 2, 0, 0, 0, 0, 0, 0, 0, 0, 0, 0, 0, 0, 0, 0, 0, 0, 0, 0, 0, 0, 0, 0, 0, 0, 0, 0, 0, 0, 0, 0, 0, 0, 0, 0, 0, 0, 0, 0, 0, 0, 0, 0, 0, 0, 0, 0, 0, 0, 0, 0, 0, 0, 0, 0, 0, 0, 0, 0, 0, 0, 0, 0, 0, 0, 0, 0, 0, 0, 0, 0, 0, 0, 0, 0, 0, 0, 0, 0, 0, 0, 0, 0, 0, 0, 0, 0, 0, 0, 0, 0, 0, 0, 0, 0, 0, 0, 0, 0, 0, 0, 0, 0, 0, 0, 0, 0, 0, 0, 0, 0, 0, 0, 0, 0, 0, 0, 0, 0, 0, 0, 0, 0, 0, 0, 0, 0, 0, 0, 0, 0, 0, 0, 0, 0, 0, 0, 0, 0, 0, 1, 1, 1, 1, 1, 1, 1, 1, 1, 1, 1, 1, 1, 1, 1, 1, 1, 1, 0]
abbrev fn_zobQ : FuncId := 139
def zobQ_c : ACode :=
 (.seq (.region [
 o1 0 (.mov (.const (.slice none 0 0)))]) (.seq (.region [
 o1 1 (.build [.nilFunc, (.int .i64 0)] [(0, 1, (.func 167)), (1, 1, (.const (.int .i64 5)))]),
 o1 2 (.build [.nilFunc, (.int .i64 0)] [(0, 1, (.func 169)), (1, 1, (.const (.int .i64 3)))]),
 o1 3 (.build [.nilFunc, (.int .i64 0)] [(0, 1, (.func 170)), (1, 1, (.const (.int .i64 3)))]),
 o1 4 (.buildSlice 168 [.nilFunc, (.int .i64 0), .nilFunc, (.int .i64 0), .nilFunc, (.int .i64 0)] 3 [(0, 2, (tm 1)), (2, 2, (tm 2)), (4, 2, (tm 3))]),
 o1 0 (.mov (tm 4))]) .ret))
def zobQ : AFunc := ⟨5, [(0, none)], zobQ_c, none⟩
theorem zobQ_t0 : tableOf Tryz.prog 139 = some zobQ := by kernel_rfl
theorem zobQ_t : T0 139 = some zobQ := withKept_t rfl (withTrue_t rfl zobQ_t0)
theorem zobQ_runs {v : Value} {h : Heap} {R : RP} {X : XP} (k : RunC Tryz.prog T0 zobQ_c ⟨[undef, U, U, U, U], [], h, none⟩ (bodyQ Tryz.prog T0 [(0, none)] R X)) :
 Runs Tryz.prog T0 (.fn 139) [] h R X := Runs.fn zobQ_t rfl k
abbrev fn_zfbQ : FuncId := 144
def zfbQ_c : ACode :=
 (.seq (.region [
 o1 0 (.mov (.const .nilFunc))]) (.seq (.region [
 o1 1 (.alloc 3 [(.int .i64 0)]),
 o3 (.store 1 (tm 1) (.const (.int .i64 (-1))))]) (.seq (.region [
 o1 2 (.mkFunc (.func 171) [] [(tm 1)]),
 o1 0 (.mov (tm 2))]) .ret)))
def zfbQ : AFunc := ⟨3, [(0, none)], zfbQ_c, none⟩
theorem zfbQ_t0 : tableOf Tryz.prog 144 = some zfbQ := by kernel_rfl
theorem zfbQ_t : T0 144 = some zfbQ := withKept_t rfl (withTrue_t rfl zfbQ_t0)
theorem zfbQ_runs {v : Value} {h : Heap} {R : RP} {X : XP} (k : RunC Tryz.prog T0 zfbQ_c ⟨[undef, U, U], [], h, none⟩ (bodyQ Tryz.prog T0 [(0, none)] R X)) :
 Runs Tryz.prog T0 (.fn 144) [] h R X := Runs.fn zfbQ_t rfl k
abbrev fn_zfdQ : FuncId := 150
def zfdQ_l0 : ACode :=
 (.seq (.seq (.region [
 o1 5 (.mov (tm 3)),
 o1 6 (.mov (tm 0)),
 o1 7 (.lenStr (tm 6)),
 o1 8 (.bin .lss (so (.binOp .lss 3 (tm 5) (tm 7) 3) 4) (tm 5) (tm 7))]) (.cond (tm 8)
 .skip
 (.exit 0))) (.seq (.block 1 (.seq (.region [
 o1 11 (.mov (tm 0)),
 o1 12 (.mov (tm 3)),
 o1 13 (.raw (so (.index 9 (tm 11) (tm 12)) 5)),
 o1 4 (.mov (tm 13))]) (.seq (.region [
 o1 14 (.mov (tm 4)),
 o1 15 (.bin .lss (so (.binOp .lss 5 (tm 14) (.const (.int .u8 97)) 5) 4) (tm 14) (.const (.int .u8 97))),
 o1 16 (.mov (tm 15)),
 o5 17 (.mov (tm 4)) 16,
 o5 18 (.bin .gtr (so (.binOp .gtr 5 (tm 17) (.const (.int .u8 122)) 5) 4) (tm 17) (.const (.int .u8 122))) 16,
 o1 19 (.pick (tm 16) (.const (.bool true)) (tm 18)),
 o1 20 (.mov (tm 19)),
 o4 21 (.mov (tm 4)) 20,
 o4 22 (.bin .lss (so (.binOp .lss 5 (tm 21) (.const (.int .u8 48)) 5) 4) (tm 21) (.const (.int .u8 48))) 20,
 o4 23 (.mov (tm 22)) 20,
 o5 24 (.mov (tm 4)) 23,
 o5 25 (.bin .gtr (so (.binOp .gtr 5 (tm 24) (.const (.int .u8 57)) 5) 4) (tm 24) (.const (.int .u8 57))) 23,
 o4 26 (.pick (tm 23) (.const (.bool true)) (tm 25)) 20,
 o1 27 (.pick (tm 20) (tm 26) (.const (.bool false))),
 o1 28 (.mov (tm 27)),
 o4 29 (.mov (tm 4)) 28,
 o4 30 (.bin .neq (so (.binOp .neq 5 (tm 29) (.const (.int .u8 45)) 5) 4) (tm 29) (.const (.int .u8 45))) 28,
 o1 31 (.pick (tm 28) (tm 30) (.const (.bool false)))]) (.cond (tm 31)
 (.seq (.region [
 o1 2 (.mov (.const (.bool false)))]) .ret)
 .skip)))) (.region [
 o1 9 (.mov (tm 3)),
 o1 10 (.bin .add (so (.binOp .add 3 (tm 9) (.const (.int .i64 1)) 3) 3) (tm 9) (.const (.int .i64 1))),
 o1 3 (.mov (tm 10))])))
def zfdQ_c : ACode :=
 (.seq (.region [
 o1 2 (.mov (.const (.bool false)))]) (.seq (.seq (.region [
 o1 3 (.mov k0)]) (.block 0 (.loop zfdQ_l0))) (.seq (.region [
 o1 32 (.mov (tm 0)),
 o1 33 (.lenStr (tm 32)),
 o1 34 (.bin .geq (so (.binOp .geq 3 (tm 33) (.const (.int .i64 1)) 3) 4) (tm 33) (.const (.int .i64 1))),
 o1 35 (.mov (tm 34)),
 o4 36 (.mov (tm 0)) 35,
 o4 37 (.lenStr (tm 36)) 35,
 o4 38 (.bin .leq (so (.binOp .leq 3 (tm 37) (.const (.int .i64 32)) 3) 4) (tm 37) (.const (.int .i64 32))) 35,
 o1 39 (.pick (tm 35) (tm 38) (.const (.bool false))),
 o1 2 (.mov (tm 39))]) .ret)))
def zfdQ : AFunc := ⟨40, [(2, none)], zfdQ_c, none⟩
theorem zfdQ_t0 : tableOf Tryz.prog 150 = some zfdQ := by kernel_rfl
theorem zfdQ_t : T0 150 = some zfdQ := withKept_t rfl (withTrue_t rfl zfdQ_t0)
theorem zfdQ_runs {v0 : Value} {h : Heap} {R : RP} {X : XP} (k : RunC Tryz.prog T0 zfdQ_c ⟨[v0, U, U, U, U, U, U, U, U, U, U, U, U, U, U, U, U, U, U, U, U, U, U, U, U, U, U, U, U, U, U, U, U, U, U, U, U, U, U, U], [], h, none⟩ (bodyQ Tryz.prog T0 [(2, none)] R X)) :
 Runs Tryz.prog T0 (.fn 150) [v0] h R X := Runs.fn zfdQ_t rfl k
abbrev zfdQ_l0_M : List Nat := [0, 0, 1, 2, 1, 1, 1, 1, 1, 1, 1, 1, 1, 1, 1, 1, 1, 1, 1, 1, 1, 1, 1, 1, 1, 1, 1, 1, 1, 1, 1, 1, 0, 0, 0, 0, 0, 0, 0, 0]
abbrev fn_zbdQ : FuncId := 151
def zbdQ_l0 : ACode :=
 (.seq (.seq (.region [
 o1 6 (.mov (tm 5)),
 o1 7 (.bin .lss (so (.binOp .lss 3 (tm 6) (.const (.int .i64 4)) 3) 4) (tm 6) (.const (.int .i64 4)))]) (.cond (tm 7)
 .skip
 (.exit 0))) (.seq (.block 1 (.seq (.regionD [
 o1 10 (.mov (tm 5)),
 o1 11 (.indexArr 4 1 (tm 2) (tm 10)),
 o1 12 (.load none (tm 11)),
 o1 13 (.mov (tm 5)),
 o1 14 (.indexArr 4 1 (tm 3) (tm 13)),
 o1 15 (.load none (tm 14)),
 o2 16 (.bin .neq (so (.binOp .neq 5 (tm 12) (tm 15) 5) 4) (tm 12) (tm 15))]) (.cond (tm 16)
 (.seq (.regionD [
 o1 17 (.mov (tm 5)),
 o1 18 (.indexArr 4 1 (tm 2) (tm 17)),
 o1 19 (.load none (tm 18)),
 o1 20 (.mov (tm 5)),
 o1 21 (.indexArr 4 1 (tm 3) (tm 20)),
 o1 22 (.load none (tm 21)),
 o2 23 (.bin .lss (so (.binOp .lss 5 (tm 19) (tm 22) 5) 4) (tm 19) (tm 22)),
 o2 4 (.mov (tm 23))]) .ret)
 .skip))) (.region [
 o1 8 (.mov (tm 5)),
 o1 9 (.bin .add (so (.binOp .add 3 (tm 8) (.const (.int .i64 1)) 3) 3) (tm 8) (.const (.int .i64 1))),
 o1 5 (.mov (tm 9))])))
def zbdQ_c : ACode :=
 (.seq (.region [
 o1 2 (.box 64 (tm 0)),
 o1 3 (.box 64 (tm 1)),
 o1 4 (.mov (.const (.bool false)))]) (.seq (.seq (.region [
 o1 5 (.mov k0)]) (.block 0 (.loop zbdQ_l0))) (.seq (.region [
 o1 4 (.mov (.const (.bool false)))]) .ret)))
def zbdQ : AFunc := ⟨24, [(4, none)], zbdQ_c, none⟩
theorem zbdQ_t0 : tableOf Tryz.prog 151 = some zbdQ := by kernel_rfl
theorem zbdQ_t : T0 151 = some zbdQ := withKept_t rfl (withTrue_t rfl zbdQ_t0)
theorem zbdQ_runs {v0 v1 : Value} {h : Heap} {R : RP} {X : XP} (k : RunC Tryz.prog T0 zbdQ_c ⟨[v0, v1, U, U, U, U, U, U, U, U, U, U, U, U, U, U, U, U, U, U, U, U, U, U], [], h, none⟩ (bodyQ Tryz.prog T0 [(4, none)] R X)) :
 Runs Tryz.prog T0 (.fn 151) [v0, v1] h R X := Runs.fn zbdQ_t rfl k
abbrev zbdQ_l0_M : List Nat := [0, 0, 0, 0, 1, 2, 1, 1, 1, 1, 1, 1, 1, 1, 1, 1, 1, 1, 1, 1, 1, 1, 1, 1]
abbrev fn_zkeQ : FuncId := 152
def zkeQ_l0 : ACode :=
 (.seq (.region [
 o1 6 (.bin .lss (so (.binOp .lss 3 (tm 5) (.const (.int .i64 8)) 3) 4) (tm 5) (.const (.int .i64 8)))]) (.seq (.cond (tm 6)
 .skip
 (.exit 0)) (.seq (.block 1 (.seq (.region [
 o1 7 (.mov (tm 5)),
 o1 4 (.mov (tm 7))]) (.region [
 o1 8 (.mov (tm 4)),
 o1 9 (.bin .sub (so (.binOp .sub 3 (.const (.int .i64 7)) (tm 8) 3) 3) (.const (.int .i64 7)) (tm 8)),
 o1 10 (.mov (tm 0)),
 o1 11 (.mov (tm 4)),
 o1 12 (.bin .mul (so (.binOp .mul 3 (.const (.int .i64 8)) (tm 11) 3) 3) (.const (.int .i64 8)) (tm 11)),
 o1 13 (.bin .shr (so (.binOp .shr 107 (tm 10) (tm 12) 3) 107) (tm 10) (tm 12)),
 o1 14 (.conv .u8 (so (.convert 107 5 (tm 13)) 5) (tm 13)),
 o1 15 (.indexArr 8 1 (tm 3) (tm 9)),
 o3 (.store 1 (tm 15) (tm 14))]))) (.region [
 o1 16 (.bin .add (so (.binOp .add 3 (tm 5) (.const (.int .i64 1)) 3) 3) (tm 5) (.const (.int .i64 1))),
 o1 5 (.mov (tm 16))]))))
def zkeQ_c : ACode :=
 (.seq (.region [
 o1 2 (.alloc 181 [(.int .u8 0), (.int .u8 0), (.int .u8 0), (.int .u8 0), (.int .u8 0), (.int .u8 0), (.int .u8 0), (.int .u8 0)])]) (.seq (.region [
 o1 3 (.alloc 181 [(.int .u8 0), (.int .u8 0), (.int .u8 0), (.int .u8 0), (.int .u8 0), (.int .u8 0), (.int .u8 0), (.int .u8 0)])]) (.seq (.seq (.region [
 o1 5 (.mov k0)]) (.block 0 (.loop zkeQ_l0))) (.seq (.region [
 o1 17 (.load (some 8) (tm 3)),
 o3 (.store 8 (tm 2) (tm 17))]) .ret))))
def zkeQ : AFunc := ⟨18, [(2, some (some 8))], zkeQ_c, none⟩
theorem zkeQ_t0 : tableOf Tryz.prog 152 = some zkeQ := by kernel_rfl
theorem zkeQ_t : T0 152 = some zkeQ := withKept_t rfl (withTrue_t rfl zkeQ_t0)
theorem zkeQ_runs {v0 : Value} {h : Heap} {R : RP} {X : XP} (k : RunC Tryz.prog T0 zkeQ_c ⟨[v0, U, U, U, U, U, U, U, U, U, U, U, U, U, U, U, U, U], [], h, none⟩ (bodyQ Tryz.prog T0 [(2, some (some 8))] R X)) :
 Runs Tryz.prog T0 (.fn 152) [v0] h R X := Runs.fn zkeQ_t rfl k
abbrev zkeQ_l0_M : List Nat := [0, 0, 0, 0, 1, 2, 1, 1, 1, 1, 1, 1, 1, 1, 1, 1, 1, 0]
abbrev fn_zpdQ : FuncId := 153
def zpdQ_l0 : ACode :=
 (.seq (.region [
 o1 12 (.bin .lss (so (.binOp .lss 3 (tm 11) (tm 10) 3) 0) (tm 11) (tm 10))]) (.seq (.cond (tm 12)
 .skip
 (.exit 0)) (.seq (.block 1 (.seq (.region [
 o1 13 (.indexSl 1 (tm 9) (tm 11)),
 o1 14 (.load none (tm 13)),
 o1 5 (.mov (tm 14))]) (.seq (.region [
 o1 15 (.mov (tm 3)),
 o1 16 (.mov (tm 5)),
 o1 17 (.lenSl (tm 16)),
 o1 18 (.bin .add (so (.binOp .add 3 (tm 15) (tm 17) 3) 3) (tm 15) (tm 17)),
 o1 3 (.mov (tm 18))]) (.seq (.region [
 o1 19 (.mov (tm 3)),
 o1 20 (.bin .lss (so (.binOp .lss 3 (tm 19) k0 3) 4) (tm 19) k0)]) (.cond (tm 20)
 (.region [
 o1 21 (.mkIface 9 (.const (.string ⟨⟨[108, 101, 110, 32, 111, 117, 116, 32, 111, 102, 32, 114, 97, 110, 103, 101]⟩⟩))),
 o3 (.panic (tm 21))])
 .skip))))) (.region [
 o1 22 (.bin .add (so (.binOp .add 3 (tm 11) (.const (.int .i64 1)) 3) 3) (tm 11) (.const (.int .i64 1))),
 o1 11 (.mov (tm 22))]))))
def zpdQ_l1 : ACode :=
 (.seq (.region [
 o1 28 (.bin .lss (so (.binOp .lss 3 (tm 27) (tm 26) 3) 0) (tm 27) (tm 26))]) (.seq (.cond (tm 28)
 .skip
 (.exit 2)) (.seq (.block 3 (.seq (.region [
 o1 29 (.indexSl 1 (tm 25) (tm 27)),
 o1 30 (.load none (tm 29)),
 o1 8 (.mov (tm 30))]) (.region [
 o1 31 (.mov (tm 6)),
 o1 32 (.mov (tm 8)),
 o1 33 (.append 5 1 1 [(.int .u8 0)] false (tm 31) (tm 32)),
 o1 6 (.mov (tm 33))]))) (.region [
 o1 34 (.bin .add (so (.binOp .add 3 (tm 27) (.const (.int .i64 1)) 3) 3) (tm 27) (.const (.int .i64 1))),
 o1 27 (.mov (tm 34))]))))
def zpdQ_c : ACode :=
 (.seq (.region [
 o1 2 (.mov (.const (.slice none 0 0)))]) (.seq (.region [
 o1 3 (.mov k0)]) (.seq (.seq (.region [
 o1 9 (.mov (tm 0)),
 o1 10 (.lenSl (tm 9)),
 o1 11 (.mov k0)]) (.block 0 (.loop zpdQ_l0))) (.seq (.region [
 o1 23 (.mov (tm 3)),
 o1 24 (.callV (.func 172) [(.const (.slice none 0 0)), (tm 23)]),
 o1 6 (.mov (tm 24))]) (.seq (.seq (.region [
 o1 25 (.mov (tm 0)),
 o1 26 (.lenSl (tm 25)),
 o1 27 (.mov k0)]) (.block 2 (.loop zpdQ_l1))) (.seq (.region [
 o1 35 (.mov (tm 6)),
 o1 2 (.mov (tm 35))]) .ret))))))
def zpdQ : AFunc := ⟨36, [(2, none)], zpdQ_c, none⟩
theorem zpdQ_t0 : tableOf Tryz.prog 153 = some zpdQ := by kernel_rfl
theorem zpdQ_t : T0 153 = some zpdQ := withKept_t rfl (withTrue_t rfl zpdQ_t0)
theorem zpdQ_runs {v0 : Value} {h : Heap} {R : RP} {X : XP} (k : RunC Tryz.prog T0 zpdQ_c ⟨[v0, U, U, U, U, U, U, U, U, U, U, U, U, U, U, U, U, U, U, U, U, U, U, U, U, U, U, U, U, U, U, U, U, U, U, U], [], h, none⟩ (bodyQ Tryz.prog T0 [(2, none)] R X)) :
 Runs Tryz.prog T0 (.fn 153) [v0] h R X := Runs.fn zpdQ_t rfl k
abbrev zpdQ_l0_M : List Nat := [0, 0, 0, 2, 0, 1, 0, 0, 0, 0, 0, 2, 1, 1, 1, 1, 1, 1, 1, 1, 1, 1, 1, 0, 0, 0, 0, 0, 0, 0, 0, 0, 0, 0, 0, 0]
abbrev zpdQ_l1_M : List Nat := [0, 0, 0, 0, 0, 0, 2, 0, 1, 0, 0, 0, 0, 0, 0, 0, 0, 0, 0, 0, 0, 0, 0, 0, 0, 0, 0, 2, 1, 1, 1, 1, 1, 1, 1, 0]
abbrev fn_zbbQ : FuncId := 154
def zbbQ_c : ACode :=
 (.seq (.region [
 o1 4 (.mov k0)]) (.seq (.region [
 o1 5 (.mov (tm 0)),
 o1 6 (.mov (tm 1)),
 o1 7 (.ext .compare (.func 173) [(tm 5), (tm 6)]),
 o1 4 (.mov (tm 7))]) .ret))
def zbbQ : AFunc := ⟨8, [(4, none)], zbbQ_c, none⟩
theorem zbbQ_t0 : tableOf Tryz.prog 154 = some zbbQ := by kernel_rfl
theorem zbbQ_t : T0 154 = some zbbQ := withKept_t rfl (withTrue_t rfl zbbQ_t0)
theorem zbbQ_runs {v0 v1 : Value} {h : Heap} {R : RP} {X : XP} (k : RunC Tryz.prog T0 zbbQ_c ⟨[v0, v1, U, U, U, U, U, U], [], h, none⟩ (bodyQ Tryz.prog T0 [(4, none)] R X)) :
 Runs Tryz.prog T0 (.fn 154) [v0, v1] h R X := Runs.fn zbbQ_t rfl k
abbrev fn_zwcQ : FuncId := 155
def zwcQ_c : ACode :=
 (.seq (.region [
 o1 4 (.mov k0)]) (.seq (.region [
 o1 5 (.mov (tm 0)),
 o1 6 (.mov (tm 1)),
 o1 7 (.strToBytes 5 (tm 6)),
 o1 8 (.callV (.func 123) [(tm 7)]),
 o1 9 (.callV (.func 122) [(tm 5), (tm 8)]),
 o1 4 (.mov (tm 9))]) .ret))
def zwcQ : AFunc := ⟨10, [(4, none)], zwcQ_c, none⟩
theorem zwcQ_t0 : tableOf Tryz.prog 155 = some zwcQ := by kernel_rfl
theorem zwcQ_t : T0 155 = some zwcQ := withKept_t rfl (withTrue_t rfl zwcQ_t0)
theorem zwcQ_runs {v0 v1 : Value} {h : Heap} {R : RP} {X : XP} (k : RunC Tryz.prog T0 zwcQ_c ⟨[v0, v1, U, U, U, U, U, U, U, U], [], h, none⟩ (bodyQ Tryz.prog T0 [(4, none)] R X)) :
 Runs Tryz.prog T0 (.fn 155) [v0, v1] h R X := Runs.fn zwcQ_t rfl k
abbrev fn_zocQ : FuncId := 156
def zocQ_l0 : ACode :=
 (.seq (.seq (.region [
 o1 4 (.mov (tm 0)),
 o1 5 (.bin .gtr (so (.binOp .gtr 3 (tm 4) k0 3) 4) (tm 4) k0)]) (.cond (tm 5)
 .skip
 (.exit 0))) (.block 1 (.seq (.region [
 o1 6 (.mov (tm 0)),
 o1 7 (.conv .u8 (so (.convert 3 5 (tm 6)) 5) (tm 6)),
 o1 8 (.buildSlice 5 [(.int .u8 0)] 1 [(0, 1, (tm 7))]),
 o1 9 (.mov (tm 3)),
 o1 10 (.append 5 1 1 [(.int .u8 0)] false (tm 8) (tm 9)),
 o1 3 (.mov (tm 10))]) (.region [
 o1 11 (.mov (tm 0)),
 o1 12 (.bin .shr (so (.binOp .shr 3 (tm 11) (.const (.int .u64 8)) 155) 3) (tm 11) (.const (.int .u64 8))),
 o1 0 (.mov (tm 12))]))))
def zocQ_c : ACode :=
 (.seq (.region [
 o1 2 (.mov (.const (.slice none 0 0)))]) (.seq (.region [
 o1 3 (.mov (.const (.slice none 0 0)))]) (.seq (.block 0 (.loop zocQ_l0)) (.seq (.region [
 o1 13 (.mov (tm 3)),
 o1 14 (.lenSl (tm 13)),
 o1 15 (.conv .u8 (so (.convert 3 5 (tm 14)) 5) (tm 14)),
 o1 16 (.buildSlice 5 [(.int .u8 0)] 1 [(0, 1, (tm 15))]),
 o1 17 (.mov (tm 3)),
 o1 18 (.append 5 1 1 [(.int .u8 0)] false (tm 16) (tm 17)),
 o1 2 (.mov (tm 18))]) .ret))))
def zocQ : AFunc := ⟨19, [(2, none)], zocQ_c, none⟩
theorem zocQ_t0 : tableOf Tryz.prog 156 = some zocQ := by kernel_rfl
theorem zocQ_t : T0 156 = some zocQ := withKept_t rfl (withTrue_t rfl zocQ_t0)
theorem zocQ_runs {v0 : Value} {h : Heap} {R : RP} {X : XP} (k : RunC Tryz.prog T0 zocQ_c ⟨[v0, U, U, U, U, U, U, U, U, U, U, U, U, U, U, U, U, U, U], [], h, none⟩ (bodyQ Tryz.prog T0 [(2, none)] R X)) :
 Runs Tryz.prog T0 (.fn 156) [v0] h R X := Runs.fn zocQ_t rfl k
abbrev zocQ_l0_M : List Nat := [2, 0, 0, 2, 1, 1, 1, 1, 1, 1, 1, 1, 1, 0, 0, 0, 0, 0, 0]
abbrev fn_zpcQ : FuncId := 157
def zpcQ_l0 : ACode :=
 (.seq (.seq (.region [
 o1 5 (.mov (tm 4)),
 o1 6 (.bin .lss (so (.binOp .lss 3 (tm 5) (.const (.int .i64 8)) 3) 4) (tm 5) (.const (.int .i64 8)))]) (.cond (tm 6)
 .skip
 (.exit 0))) (.seq (.block 1 (.seq (.region [
 o1 9 (.mov (tm 0)),
 o1 10 (.conv .u8 (so (.convert 107 5 (tm 9)) 5) (tm 9)),
 o1 11 (.buildSlice 5 [(.int .u8 0)] 1 [(0, 1, (tm 10))]),
 o1 12 (.mov (tm 3)),
 o1 13 (.append 5 1 1 [(.int .u8 0)] false (tm 11) (tm 12)),
 o1 3 (.mov (tm 13))]) (.region [
 o1 14 (.mov (tm 0)),
 o1 15 (.bin .shr (so (.binOp .shr 107 (tm 14) (.const (.int .u64 8)) 155) 107) (tm 14) (.const (.int .u64 8))),
 o1 0 (.mov (tm 15))]))) (.region [
 o1 7 (.mov (tm 4)),
 o1 8 (.bin .add (so (.binOp .add 3 (tm 7) (.const (.int .i64 1)) 3) 3) (tm 7) (.const (.int .i64 1))),
 o1 4 (.mov (tm 8))])))
def zpcQ_c : ACode :=
 (.seq (.region [
 o1 2 (.mov (.const (.slice none 0 0)))]) (.seq (.region [
 o1 3 (.mov (.const (.slice none 0 0)))]) (.seq (.seq (.region [
 o1 4 (.mov k0)]) (.block 0 (.loop zpcQ_l0))) (.seq (.region [
 o1 16 (.mov (tm 3)),
 o1 2 (.mov (tm 16))]) .ret))))
def zpcQ : AFunc := ⟨17, [(2, none)], zpcQ_c, none⟩
theorem zpcQ_t0 : tableOf Tryz.prog 157 = some zpcQ := by kernel_rfl
theorem zpcQ_t : T0 157 = some zpcQ := withKept_t rfl (withTrue_t rfl zpcQ_t0)
theorem zpcQ_runs {v0 : Value} {h : Heap} {R : RP} {X : XP} (k : RunC Tryz.prog T0 zpcQ_c ⟨[v0, U, U, U, U, U, U, U, U, U, U, U, U, U, U, U, U], [], h, none⟩ (bodyQ Tryz.prog T0 [(2, none)] R X)) :
 Runs Tryz.prog T0 (.fn 157) [v0] h R X := Runs.fn zpcQ_t rfl k
abbrev zpcQ_l0_M : List Nat := [2, 0, 0, 2, 2, 1, 1, 1, 1, 1, 1, 1, 1, 1, 1, 1, 0]
abbrev fn_zkcQ : FuncId := 163
def zkcQ_c : ACode :=
 (.seq (.region [
 o1 2 (.alloc 199 [(.int .i64 0), (.int .i64 0), (.int .i64 0), (.int .i64 0), (.int .i64 0), (.int .i64 0), (.int .i64 0), (.int .i64 0), (.int .i64 0), (.int .i64 0), (.int .i64 0), (.int .i64 0), (.int .i64 0), (.int .i64 0), (.int .i64 0), (.int .i64 0)])]) (.seq (.region [
 o1 4 (.build [(.int .i64 0), (.int .i64 0), (.int .i64 0), (.int .i64 0), (.int .i64 0), (.int .i64 0), (.int .i64 0), (.int .i64 0), (.int .i64 0), (.int .i64 0), (.int .i64 0), (.int .i64 0), (.int .i64 0), (.int .i64 0), (.int .i64 0), (.int .i64 0)] [(0, 1, k0), (1, 1, (.const (.int .i64 1))), (2, 1, (.const (.int .i64 2))), (3, 1, (.const (.int .i64 3))), (4, 1, (.const (.int .i64 4))), (5, 1, (.const (.int .i64 5))), (6, 1, (.const (.int .i64 6))), (7, 1, (.const (.int .i64 7))), (8, 1, (.const (.int .i64 8))), (9, 1, (.const (.int .i64 9))), (10, 1, (.const (.int .i64 10))), (11, 1, (.const (.int .i64 11))), (12, 1, (.const (.int .i64 12))), (13, 1, (.const (.int .i64 13))), (14, 1, (.const (.int .i64 14))), (15, 1, (.const (.int .i64 15)))]),
 o1 5 (.build [(.int .i64 0), (.int .i64 0), (.int .i64 0), (.int .i64 0), (.int .i64 0), (.int .i64 0), (.int .i64 0), (.int .i64 0), (.int .i64 0), (.int .i64 0), (.int .i64 0), (.int .i64 0), (.int .i64 0), (.int .i64 0), (.int .i64 0), (.int .i64 0)] [(0, 1, (.const (.int .i64 14))), (1, 1, (.const (.int .i64 10))), (2, 1, (.const (.int .i64 4))), (3, 1, (.const (.int .i64 8))), (4, 1, (.const (.int .i64 9))), (5, 1, (.const (.int .i64 15))), (6, 1, (.const (.int .i64 13))), (7, 1, (.const (.int .i64 6))), (8, 1, (.const (.int .i64 1))), (9, 1, (.const (.int .i64 12))), (10, 1, k0), (11, 1, (.const (.int .i64 2))), (12, 1, (.const (.int .i64 11))), (13, 1, (.const (.int .i64 7))), (14, 1, (.const (.int .i64 5))), (15, 1, (.const (.int .i64 3)))]),
 o1 6 (.build [(.int .i64 0), (.int .i64 0), (.int .i64 0), (.int .i64 0), (.int .i64 0), (.int .i64 0), (.int .i64 0), (.int .i64 0), (.int .i64 0), (.int .i64 0), (.int .i64 0), (.int .i64 0), (.int .i64 0), (.int .i64 0), (.int .i64 0), (.int .i64 0)] [(0, 1, (.const (.int .i64 11))), (1, 1, (.const (.int .i64 8))), (2, 1, (.const (.int .i64 12))), (3, 1, k0), (4, 1, (.const (.int .i64 5))), (5, 1, (.const (.int .i64 2))), (6, 1, (.const (.int .i64 15))), (7, 1, (.const (.int .i64 13))), (8, 1, (.const (.int .i64 10))), (9, 1, (.const (.int .i64 14))), (10, 1, (.const (.int .i64 3))), (11, 1, (.const (.int .i64 6))), (12, 1, (.const (.int .i64 7))), (13, 1, (.const (.int .i64 1))), (14, 1, (.const (.int .i64 9))), (15, 1, (.const (.int .i64 4)))]),
 o1 7 (.build [(.int .i64 0), (.int .i64 0), (.int .i64 0), (.int .i64 0), (.int .i64 0), (.int .i64 0), (.int .i64 0), (.int .i64 0), (.int .i64 0), (.int .i64 0), (.int .i64 0), (.int .i64 0), (.int .i64 0), (.int .i64 0), (.int .i64 0), (.int .i64 0)] [(0, 1, (.const (.int .i64 7))), (1, 1, (.const (.int .i64 9))), (2, 1, (.const (.int .i64 3))), (3, 1, (.const (.int .i64 1))), (4, 1, (.const (.int .i64 13))), (5, 1, (.const (.int .i64 12))), (6, 1, (.const (.int .i64 11))), (7, 1, (.const (.int .i64 14))), (8, 1, (.const (.int .i64 2))), (9, 1, (.const (.int .i64 6))), (10, 1, (.const (.int .i64 5))), (11, 1, (.const (.int .i64 10))), (12, 1, (.const (.int .i64 4))), (13, 1, k0), (14, 1, (.const (.int .i64 15))), (15, 1, (.const (.int .i64 8)))]),
 o1 8 (.build [(.int .i64 0), (.int .i64 0), (.int .i64 0), (.int .i64 0), (.int .i64 0), (.int .i64 0), (.int .i64 0), (.int .i64 0), (.int .i64 0), (.int .i64 0), (.int .i64 0), (.int .i64 0), (.int .i64 0), (.int .i64 0), (.int .i64 0), (.int .i64 0)] [(0, 1, (.const (.int .i64 9))), (1, 1, k0), (2, 1, (.const (.int .i64 5))), (3, 1, (.const (.int .i64 7))), (4, 1, (.const (.int .i64 2))), (5, 1, (.const (.int .i64 4))), (6, 1, (.const (.int .i64 10))), (7, 1, (.const (.int .i64 15))), (8, 1, (.const (.int .i64 14))), (9, 1, (.const (.int .i64 1))), (10, 1, (.const (.int .i64 11))), (11, 1, (.const (.int .i64 12))), (12, 1, (.const (.int .i64 6))), (13, 1, (.const (.int .i64 8))), (14, 1, (.const (.int .i64 3))), (15, 1, (.const (.int .i64 13)))]),
 o1 9 (.build [(.int .i64 0), (.int .i64 0), (.int .i64 0), (.int .i64 0), (.int .i64 0), (.int .i64 0), (.int .i64 0), (.int .i64 0), (.int .i64 0), (.int .i64 0), (.int .i64 0), (.int .i64 0), (.int .i64 0), (.int .i64 0), (.int .i64 0), (.int .i64 0)] [(0, 1, (.const (.int .i64 2))), (1, 1, (.const (.int .i64 12))), (2, 1, (.const (.int .i64 6))), (3, 1, (.const (.int .i64 10))), (4, 1, k0), (5, 1, (.const (.int .i64 11))), (6, 1, (.const (.int .i64 8))), (7, 1, (.const (.int .i64 3))), (8, 1, (.const (.int .i64 4))), (9, 1, (.const (.int .i64 13))), (10, 1, (.const (.int .i64 7))), (11, 1, (.const (.int .i64 5))), (12, 1, (.const (.int .i64 15))), (13, 1, (.const (.int .i64 14))), (14, 1, (.const (.int .i64 1))), (15, 1, (.const (.int .i64 9)))]),
 o1 10 (.build [(.int .i64 0), (.int .i64 0), (.int .i64 0), (.int .i64 0), (.int .i64 0), (.int .i64 0), (.int .i64 0), (.int .i64 0), (.int .i64 0), (.int .i64 0), (.int .i64 0), (.int .i64 0), (.int .i64 0), (.int .i64 0), (.int .i64 0), (.int .i64 0)] [(0, 1, (.const (.int .i64 12))), (1, 1, (.const (.int .i64 5))), (2, 1, (.const (.int .i64 1))), (3, 1, (.const (.int .i64 15))), (4, 1, (.const (.int .i64 14))), (5, 1, (.const (.int .i64 13))), (6, 1, (.const (.int .i64 4))), (7, 1, (.const (.int .i64 10))), (8, 1, k0), (9, 1, (.const (.int .i64 7))), (10, 1, (.const (.int .i64 6))), (11, 1, (.const (.int .i64 3))), (12, 1, (.const (.int .i64 9))), (13, 1, (.const (.int .i64 2))), (14, 1, (.const (.int .i64 8))), (15, 1, (.const (.int .i64 11)))]),
 o1 11 (.build [(.int .i64 0), (.int .i64 0), (.int .i64 0), (.int .i64 0), (.int .i64 0), (.int .i64 0), (.int .i64 0), (.int .i64 0), (.int .i64 0), (.int .i64 0), (.int .i64 0), (.int .i64 0), (.int .i64 0), (.int .i64 0), (.int .i64 0), (.int .i64 0)] [(0, 1, (.const (.int .i64 13))), (1, 1, (.const (.int .i64 11))), (2, 1, (.const (.int .i64 7))), (3, 1, (.const (.int .i64 14))), (4, 1, (.const (.int .i64 12))), (5, 1, (.const (.int .i64 1))), (6, 1, (.const (.int .i64 3))), (7, 1, (.const (.int .i64 9))), (8, 1, (.const (.int .i64 5))), (9, 1, k0), (10, 1, (.const (.int .i64 15))), (11, 1, (.const (.int .i64 4))), (12, 1, (.const (.int .i64 8))), (13, 1, (.const (.int .i64 6))), (14, 1, (.const (.int .i64 2))), (15, 1, (.const (.int .i64 10)))]),
 o1 12 (.build [(.int .i64 0), (.int .i64 0), (.int .i64 0), (.int .i64 0), (.int .i64 0), (.int .i64 0), (.int .i64 0), (.int .i64 0), (.int .i64 0), (.int .i64 0), (.int .i64 0), (.int .i64 0), (.int .i64 0), (.int .i64 0), (.int .i64 0), (.int .i64 0)] [(0, 1, (.const (.int .i64 6))), (1, 1, (.const (.int .i64 15))), (2, 1, (.const (.int .i64 14))), (3, 1, (.const (.int .i64 9))), (4, 1, (.const (.int .i64 11))), (5, 1, (.const (.int .i64 3))), (6, 1, k0), (7, 1, (.const (.int .i64 8))), (8, 1, (.const (.int .i64 12))), (9, 1, (.const (.int .i64 2))), (10, 1, (.const (.int .i64 13))), (11, 1, (.const (.int .i64 7))), (12, 1, (.const (.int .i64 1))), (13, 1, (.const (.int .i64 4))), (14, 1, (.const (.int .i64 10))), (15, 1, (.const (.int .i64 5)))]),
 o1 13 (.build [(.int .i64 0), (.int .i64 0), (.int .i64 0), (.int .i64 0), (.int .i64 0), (.int .i64 0), (.int .i64 0), (.int .i64 0), (.int .i64 0), (.int .i64 0), (.int .i64 0), (.int .i64 0), (.int .i64 0), (.int .i64 0), (.int .i64 0), (.int .i64 0)] [(0, 1, (.const (.int .i64 10))), (1, 1, (.const (.int .i64 2))), (2, 1, (.const (.int .i64 8))), (3, 1, (.const (.int .i64 4))), (4, 1, (.const (.int .i64 7))), (5, 1, (.const (.int .i64 6))), (6, 1, (.const (.int .i64 1))), (7, 1, (.const (.int .i64 5))), (8, 1, (.const (.int .i64 15))), (9, 1, (.const (.int .i64 11))), (10, 1, (.const (.int .i64 9))), (11, 1, (.const (.int .i64 14))), (12, 1, (.const (.int .i64 3))), (13, 1, (.const (.int .i64 12))), (14, 1, (.const (.int .i64 13))), (15, 1, k0)]),
 o1 14 (.build [(.int .i64 0), (.int .i64 0), (.int .i64 0), (.int .i64 0), (.int .i64 0), (.int .i64 0), (.int .i64 0), (.int .i64 0), (.int .i64 0), (.int .i64 0), (.int .i64 0), (.int .i64 0), (.int .i64 0), (.int .i64 0), (.int .i64 0), (.int .i64 0), (.int .i64 0), (.int .i64 0), (.int .i64 0), (.int .i64 0), (.int .i64 0), (.int .i64 0), (.int .i64 0), (.int .i64 0), (.int .i64 0), (.int .i64 0), (.int .i64 0), (.int .i64 0), (.int .i64 0), (.int .i64 0), (.int .i64 0), (.int .i64 0), (.int .i64 0), (.int .i64 0), (.int .i64 0), (.int .i64 0), (.int .i64 0), (.int .i64 0), (.int .i64 0), (.int .i64 0), (.int .i64 0), (.int .i64 0), (.int .i64 0), (.int .i64 0), (.int .i64 0), (.int .i64 0), (.int .i64 0), (.int .i64 0), (.int .i64 0), (.int .i64 0), (.int .i64 0), (.int .i64 0), (.int .i64 0), (.int .i64 0), (.int .i64 0), (.int .i64 0), (.int .i64 0), (.int .i64 0), (.int .i64 0), (.int .i64 0), (.int .i64 0), (.int .i64 0), (.int .i64 0), (.int .i64 0), (.int .i64 0), (.int .i64 0), (.int .i64 0), (.int .i64 0), (.int .i64 0), (.int .i64 0), (.int .i64 0), (.int .i64 0), (.int .i64 0), (.int .i64 0), (.int .i64 0), (.int .i64 0), (.int .i64 0), (.int .i64 0), (.int .i64 0), (.int .i64 0), (.int .i64 0), (.int .i64 0), (.int .i64 0), (.int .i64 0), (.int .i64 0), (.int .i64 0), (.int .i64 0), (.int .i64 0), (.int .i64 0), (.int .i64 0), (.int .i64 0), (.int .i64 0), (.int .i64 0), (.int .i64 0), (.int .i64 0), (.int .i64 0), (.int .i64 0), (.int .i64 0), (.int .i64 0), (.int .i64 0), (.int .i64 0), (.int .i64 0), (.int .i64 0), (.int .i64 0), (.int .i64 0), (.int .i64 0), (.int .i64 0), (.int .i64 0), (.int .i64 0), (.int .i64 0), (.int .i64 0), (.int .i64 0), (.int .i64 0), (.int .i64 0), (.int .i64 0), (.int .i64 0), (.int .i64 0), (.int .i64 0), (.int .i64 0), (.int .i64 0), (.int .i64 0), (.int .i64 0), (.int .i64 0), (.int .i64 0), (.int .i64 0), (.int .i64 0), (.int .i64 0), (.int .i64 0), (.int .i64 0), (.int .i64 0), (.int .i64 0), (.int .i64 0), (.int .i64 0), (.int .i64 0), (.int .i64 0), (.int .i64 0), (.int .i64 0), (.int .i64 0), (.int .i64 0), (.int .i64 0), (.int .i64 0), (.int .i64 0), (.int .i64 0), (.int .i64 0), (.int .i64 0), (.int .i64 0), (.int .i64 0), (.int .i64 0), (.int .i64 0), (.int .i64 0), (.int .i64 0), (.int .i64 0), (.int .i64 0), (.int .i64 0), (.int .i64 0), (.int .i64 0), (.int .i64 0), (.int .i64 0), (.int .i64 0), (.int .i64 0)] [(0, 16, (tm 4)), (16, 16, (tm 5)), (32, 16, (tm 6)), (48, 16, (tm 7)), (64, 16, (tm 8)), (80, 16, (tm 9)), (96, 16, (tm 10)), (112, 16, (tm 11)), (128, 16, (tm 12)), (144, 16, (tm 13))]),
 o1 3 (.alloc 212 [(.int .i64 0), (.int .i64 0), (.int .i64 0), (.int .i64 0), (.int .i64 0), (.int .i64 0), (.int .i64 0), (.int .i64 0), (.int .i64 0), (.int .i64 0), (.int .i64 0), (.int .i64 0), (.int .i64 0), (.int .i64 0), (.int .i64 0), (.int .i64 0), (.int .i64 0), (.int .i64 0), (.int .i64 0), (.int .i64 0), (.int .i64 0), (.int .i64 0), (.int .i64 0), (.int .i64 0), (.int .i64 0), (.int .i64 0), (.int .i64 0), (.int .i64 0), (.int .i64 0), (.int .i64 0), (.int .i64 0), (.int .i64 0), (.int .i64 0), (.int .i64 0), (.int .i64 0), (.int .i64 0), (.int .i64 0), (.int .i64 0), (.int .i64 0), (.int .i64 0), (.int .i64 0), (.int .i64 0), (.int .i64 0), (.int .i64 0), (.int .i64 0), (.int .i64 0), (.int .i64 0), (.int .i64 0), (.int .i64 0), (.int .i64 0), (.int .i64 0), (.int .i64 0), (.int .i64 0), (.int .i64 0), (.int .i64 0), (.int .i64 0), (.int .i64 0), (.int .i64 0), (.int .i64 0), (.int .i64 0), (.int .i64 0), (.int .i64 0), (.int .i64 0), (.int .i64 0), (.int .i64 0), (.int .i64 0), (.int .i64 0), (.int .i64 0), (.int .i64 0), (.int .i64 0), (.int .i64 0), (.int .i64 0), (.int .i64 0), (.int .i64 0), (.int .i64 0), (.int .i64 0), (.int .i64 0), (.int .i64 0), (.int .i64 0), (.int .i64 0), (.int .i64 0), (.int .i64 0), (.int .i64 0), (.int .i64 0), (.int .i64 0), (.int .i64 0), (.int .i64 0), (.int .i64 0), (.int .i64 0), (.int .i64 0), (.int .i64 0), (.int .i64 0), (.int .i64 0), (.int .i64 0), (.int .i64 0), (.int .i64 0), (.int .i64 0), (.int .i64 0), (.int .i64 0), (.int .i64 0), (.int .i64 0), (.int .i64 0), (.int .i64 0), (.int .i64 0), (.int .i64 0), (.int .i64 0), (.int .i64 0), (.int .i64 0), (.int .i64 0), (.int .i64 0), (.int .i64 0), (.int .i64 0), (.int .i64 0), (.int .i64 0), (.int .i64 0), (.int .i64 0), (.int .i64 0), (.int .i64 0), (.int .i64 0), (.int .i64 0), (.int .i64 0), (.int .i64 0), (.int .i64 0), (.int .i64 0), (.int .i64 0), (.int .i64 0), (.int .i64 0), (.int .i64 0), (.int .i64 0), (.int .i64 0), (.int .i64 0), (.int .i64 0), (.int .i64 0), (.int .i64 0), (.int .i64 0), (.int .i64 0), (.int .i64 0), (.int .i64 0), (.int .i64 0), (.int .i64 0), (.int .i64 0), (.int .i64 0), (.int .i64 0), (.int .i64 0), (.int .i64 0), (.int .i64 0), (.int .i64 0), (.int .i64 0), (.int .i64 0), (.int .i64 0), (.int .i64 0), (.int .i64 0), (.int .i64 0), (.int .i64 0), (.int .i64 0), (.int .i64 0), (.int .i64 0), (.int .i64 0), (.int .i64 0), (.int .i64 0)]),
 o3 (.store 160 (tm 3) (tm 14))]) (.seq (.region [
 o1 15 (.mov (tm 0)),
 o1 16 (.indexArr 10 16 (tm 3) (tm 15)),
 o1 17 (.load (some 16) (tm 16)),
 o3 (.store 16 (tm 2) (tm 17))]) .ret)))
def zkcQ : AFunc := ⟨18, [(2, some (some 16))], zkcQ_c, none⟩
theorem zkcQ_t0 : tableOf Tryz.prog 163 = some zkcQ := by kernel_rfl
theorem zkcQ_t : T0 163 = some zkcQ := withKept_t rfl (withTrue_t rfl zkcQ_t0)
theorem zkcQ_runs {v0 : Value} {h : Heap} {R : RP} {X : XP} (k : RunC Tryz.prog T0 zkcQ_c ⟨[v0, U, U, U, U, U, U, U, U, U, U, U, U, U, U, U, U, U], [], h, none⟩ (bodyQ Tryz.prog T0 [(2, some (some 16))] R X)) :
 Runs Tryz.prog T0 (.fn 163) [v0] h R X := Runs.fn zkcQ_t rfl k
abbrev fn_zjcQ : FuncId := 164
def zjcQ_c : ACode :=
 (.seq (.region [
 o1 7 (.box 198 (tm 0)),
 o1 14 (.alloc 198 [(.int .u32 0), (.int .u32 0), (.int .u32 0), (.int .u32 0), (.int .u32 0), (.int .u32 0), (.int .u32 0), (.int .u32 0), (.int .u32 0), (.int .u32 0), (.int .u32 0), (.int .u32 0), (.int .u32 0), (.int .u32 0), (.int .u32 0), (.int .u32 0)])]) (.seq (.regionD [
 o1 15 (.mov (tm 1)),
 o1 16 (.mov (tm 1)),
 o1 17 (.indexArr 16 1 (tm 7) (tm 16)),
 o1 18 (.load none (tm 17)),
 o1 19 (.mov (tm 2)),
 o1 20 (.indexArr 16 1 (tm 7) (tm 19)),
 o1 21 (.load none (tm 20)),
 o1 22 (.bin .add (so (.binOp .add 151 (tm 18) (tm 21) 151) 151) (tm 18) (tm 21)),
 o1 23 (.mov (tm 5)),
 o1 24 (.bin .add (so (.binOp .add 151 (tm 22) (tm 23) 151) 151) (tm 22) (tm 23)),
 o2 25 (.indexArr 16 1 (tm 7) (tm 15)),
 ⟨none, .store 1 (tm 25) (tm 24), none, [], true⟩]) (.seq (.regionD [
 o1 26 (.mov (tm 4)),
 o1 27 (.mov (tm 4)),
 o1 28 (.indexArr 16 1 (tm 7) (tm 27)),
 o1 29 (.load none (tm 28)),
 o1 30 (.mov (tm 1)),
 o1 31 (.indexArr 16 1 (tm 7) (tm 30)),
 o1 32 (.load none (tm 31)),
 o1 33 (.bin .xor (so (.binOp .xor 151 (tm 29) (tm 32) 151) 151) (tm 29) (tm 32)),
 ⟨some 34, .callV (.func 177) [(tm 33), (.const (.int .u64 16))], none, [(some 26, .mov (tm 4), none)], false⟩,
 o2 35 (.indexArr 16 1 (tm 7) (tm 26)),
 ⟨none, .store 1 (tm 35) (tm 34), none, [], true⟩]) (.seq (.regionD [
 o1 36 (.mov (tm 3)),
 o1 37 (.mov (tm 3)),
 o1 38 (.indexArr 16 1 (tm 7) (tm 37)),
 o1 39 (.load none (tm 38)),
 o1 40 (.mov (tm 4)),
 o1 41 (.indexArr 16 1 (tm 7) (tm 40)),
 o1 42 (.load none (tm 41)),
 o1 43 (.bin .add (so (.binOp .add 151 (tm 39) (tm 42) 151) 151) (tm 39) (tm 42)),
 o2 44 (.indexArr 16 1 (tm 7) (tm 36)),
 ⟨none, .store 1 (tm 44) (tm 43), none, [], true⟩]) (.seq (.regionD [
 o1 45 (.mov (tm 2)),
 o1 46 (.mov (tm 2)),
 o1 47 (.indexArr 16 1 (tm 7) (tm 46)),
 o1 48 (.load none (tm 47)),
 o1 49 (.mov (tm 3)),
 o1 50 (.indexArr 16 1 (tm 7) (tm 49)),
 o1 51 (.load none (tm 50)),
 o1 52 (.bin .xor (so (.binOp .xor 151 (tm 48) (tm 51) 151) 151) (tm 48) (tm 51)),
 ⟨some 53, .callV (.func 177) [(tm 52), (.const (.int .u64 12))], none, [(some 45, .mov (tm 2), none)], false⟩,
 o2 54 (.indexArr 16 1 (tm 7) (tm 45)),
 ⟨none, .store 1 (tm 54) (tm 53), none, [], true⟩]) (.seq (.regionD [
 o1 55 (.mov (tm 1)),
 o1 56 (.mov (tm 1)),
 o1 57 (.indexArr 16 1 (tm 7) (tm 56)),
 o1 58 (.load none (tm 57)),
 o1 59 (.mov (tm 2)),
 o1 60 (.indexArr 16 1 (tm 7) (tm 59)),
 o1 61 (.load none (tm 60)),
 o1 62 (.bin .add (so (.binOp .add 151 (tm 58) (tm 61) 151) 151) (tm 58) (tm 61)),
 o1 63 (.mov (tm 6)),
 o1 64 (.bin .add (so (.binOp .add 151 (tm 62) (tm 63) 151) 151) (tm 62) (tm 63)),
 o2 65 (.indexArr 16 1 (tm 7) (tm 55)),
 ⟨none, .store 1 (tm 65) (tm 64), none, [], true⟩]) (.seq (.regionD [
 o1 66 (.mov (tm 4)),
 o1 67 (.mov (tm 4)),
 o1 68 (.indexArr 16 1 (tm 7) (tm 67)),
 o1 69 (.load none (tm 68)),
 o1 70 (.mov (tm 1)),
 o1 71 (.indexArr 16 1 (tm 7) (tm 70)),
 o1 72 (.load none (tm 71)),
 o1 73 (.bin .xor (so (.binOp .xor 151 (tm 69) (tm 72) 151) 151) (tm 69) (tm 72)),
 ⟨some 74, .callV (.func 177) [(tm 73), (.const (.int .u64 8))], none, [(some 66, .mov (tm 4), none)], false⟩,
 o2 75 (.indexArr 16 1 (tm 7) (tm 66)),
 ⟨none, .store 1 (tm 75) (tm 74), none, [], true⟩]) (.seq (.regionD [
 o1 76 (.mov (tm 3)),
 o1 77 (.mov (tm 3)),
 o1 78 (.indexArr 16 1 (tm 7) (tm 77)),
 o1 79 (.load none (tm 78)),
 o1 80 (.mov (tm 4)),
 o1 81 (.indexArr 16 1 (tm 7) (tm 80)),
 o1 82 (.load none (tm 81)),
 o1 83 (.bin .add (so (.binOp .add 151 (tm 79) (tm 82) 151) 151) (tm 79) (tm 82)),
 o2 84 (.indexArr 16 1 (tm 7) (tm 76)),
 ⟨none, .store 1 (tm 84) (tm 83), none, [], true⟩]) (.seq (.regionD [
 o1 85 (.mov (tm 2)),
 o1 86 (.mov (tm 2)),
 o1 87 (.indexArr 16 1 (tm 7) (tm 86)),
 o1 88 (.load none (tm 87)),
 o1 89 (.mov (tm 3)),
 o1 90 (.indexArr 16 1 (tm 7) (tm 89)),
 o1 91 (.load none (tm 90)),
 o1 92 (.bin .xor (so (.binOp .xor 151 (tm 88) (tm 91) 151) 151) (tm 88) (tm 91)),
 ⟨some 93, .callV (.func 177) [(tm 92), (.const (.int .u64 7))], none, [(some 85, .mov (tm 2), none)], false⟩,
 o2 94 (.indexArr 16 1 (tm 7) (tm 85)),
 ⟨none, .store 1 (tm 94) (tm 93), none, [], true⟩]) (.seq (.region [
 o1 95 (.load (some 16) (tm 7)),
 o3 (.store 16 (tm 14) (tm 95))]) .ret))))))))))
def zjcQ : AFunc := ⟨96, [(14, some (some 16))], zjcQ_c, none⟩
theorem zjcQ_t0 : tableOf Tryz.prog 164 = some zjcQ := by kernel_rfl
theorem zjcQ_t : T0 164 = some zjcQ := withKept_t rfl (withTrue_t rfl zjcQ_t0)
theorem zjcQ_runs {v0 v1 v2 v3 v4 v5 v6 : Value} {h : Heap} {R : RP} {X : XP} (k : RunC Tryz.prog T0 zjcQ_c ⟨[v0, v1, v2, v3, v4, v5, v6, U, U, U, U, U, U, U, U, U, U, U, U, U, U, U, U, U, U, U, U, U, U, U, U, U, U, U, U, U, U, U, U, U, U, U, U, U, U, U, U, U, U, U, U, U, U, U, U, U, U, U, U, U, U, U, U, U, U, U, U, U, U, U, U, U, U, U, U, U, U, U, U, U, U, U, U, U, U, U, U, U, U, U, U, U, U, U, U, U], [], h, none⟩ (bodyQ Tryz.prog T0 [(14, some (some 16))] R X)) :
 Runs Tryz.prog T0 (.fn 164) [v0, v1, v2, v3, v4, v5, v6] h R X := Runs.fn zjcQ_t rfl k
abbrev fn_zpbQ : FuncId := 167
def zpbQ_c : ACode :=
 (.seq (.region [
 o1 1 (.box 25 (tm 0)),
 o1 2 (.mov (.const (.bool false)))]) (.seq (.region [
 o1 3 (.fieldAddr 0 (tm 1)),
 o1 4 (.load none (tm 3)),
 o1 5 (.callV (.func 168) [(tm 4)]),
 o1 2 (.mov (tm 5))]) .ret))
def zpbQ : AFunc := ⟨6, [(2, none)], zpbQ_c, none⟩
theorem zpbQ_t0 : tableOf Tryz.prog 167 = some zpbQ := by kernel_rfl
theorem zpbQ_t : T0 167 = some zpbQ := withKept_t rfl (withTrue_t rfl zpbQ_t0)
theorem zpbQ_runs {v0 : Value} {h : Heap} {R : RP} {X : XP} (k : RunC Tryz.prog T0 zpbQ_c ⟨[v0, U, U, U, U, U], [], h, none⟩ (bodyQ Tryz.prog T0 [(2, none)] R X)) :
 Runs Tryz.prog T0 (.fn 167) [v0] h R X := Runs.fn zpbQ_t rfl k
abbrev fn_zkbQ : FuncId := 168
def zkbQ_c : ACode :=
 (.seq (.region [
 o1 2 (.mov (.const (.bool false)))]) (.seq (.region [
 o1 3 (.mov (tm 0)),
 o1 4 (.lenStr (tm 3)),
 o1 5 (.bin .geq (so (.binOp .geq 3 (tm 4) (.const (.int .i64 1)) 3) 4) (tm 4) (.const (.int .i64 1))),
 o1 6 (.mov (tm 5)),
 o4 7 (.mov (tm 0)) 6,
 o4 8 (.lenStr (tm 7)) 6,
 o4 9 (.bin .leq (so (.binOp .leq 3 (tm 8) (.const (.int .i64 32)) 3) 4) (tm 8) (.const (.int .i64 32))) 6,
 o1 10 (.pick (tm 6) (tm 9) (.const (.bool false))),
 o1 11 (.mov (tm 10)),
 o4 12 (.mov (tm 0)) 11,
 o4 13 (.callV (.func 178) [(tm 12), (.func 179)]) 11,
 o1 14 (.pick (tm 11) (tm 13) (.const (.bool false))),
 o1 2 (.mov (tm 14))]) .ret))
def zkbQ : AFunc := ⟨15, [(2, none)], zkbQ_c, none⟩
theorem zkbQ_t0 : tableOf Tryz.prog 168 = some zkbQ := by kernel_rfl
theorem zkbQ_t : T0 168 = some zkbQ := withKept_t rfl (withTrue_t rfl zkbQ_t0)
theorem zkbQ_runs {v0 : Value} {h : Heap} {R : RP} {X : XP} (k : RunC Tryz.prog T0 zkbQ_c ⟨[v0, U, U, U, U, U, U, U, U, U, U, U, U, U, U], [], h, none⟩ (bodyQ Tryz.prog T0 [(2, none)] R X)) :
 Runs Tryz.prog T0 (.fn 168) [v0] h R X := Runs.fn zkbQ_t rfl k
abbrev fn_zqbQ : FuncId := 169
def zqbQ_c : ACode :=
 (.seq (.region [
 o1 1 (.box 25 (tm 0)),
 o1 2 (.mov (.const (.bool false)))]) (.seq (.region [
 o1 3 (.fieldAddr 1 (tm 1)),
 o1 4 (.load none (tm 3)),
 o1 5 (.bin .geq (so (.binOp .geq 3 (tm 4) (.const (.int .i64 1)) 3) 4) (tm 4) (.const (.int .i64 1))),
 o1 6 (.mov (tm 5)),
 o4 7 (.fieldAddr 1 (tm 1)) 6,
 o4 8 (.load none (tm 7)) 6,
 o4 9 (.bin .leq (so (.binOp .leq 3 (tm 8) (.const (.int .i64 1073741824)) 3) 4) (tm 8) (.const (.int .i64 1073741824))) 6,
 o1 10 (.pick (tm 6) (tm 9) (.const (.bool false))),
 o1 2 (.mov (tm 10))]) .ret))
def zqbQ : AFunc := ⟨11, [(2, none)], zqbQ_c, none⟩
theorem zqbQ_t0 : tableOf Tryz.prog 169 = some zqbQ := by kernel_rfl
theorem zqbQ_t : T0 169 = some zqbQ := withKept_t rfl (withTrue_t rfl zqbQ_t0)
theorem zqbQ_runs {v0 : Value} {h : Heap} {R : RP} {X : XP} (k : RunC Tryz.prog T0 zqbQ_c ⟨[v0, U, U, U, U, U, U, U, U, U, U], [], h, none⟩ (bodyQ Tryz.prog T0 [(2, none)] R X)) :
 Runs Tryz.prog T0 (.fn 169) [v0] h R X := Runs.fn zqbQ_t rfl k
abbrev fn_zrbQ : FuncId := 170
def zrbQ_c : ACode :=
 (.seq (.region [
 o1 1 (.box 25 (tm 0)),
 o1 2 (.mov (.const (.bool false)))]) (.seq (.region [
 o1 3 (.fieldAddr 2 (tm 1)),
 o1 4 (.load none (tm 3)),
 o1 5 (.bin .geq (so (.binOp .geq 3 (tm 4) k0 3) 4) (tm 4) k0),
 o1 6 (.mov (tm 5)),
 o4 7 (.fieldAddr 2 (tm 1)) 6,
 o4 8 (.load none (tm 7)) 6,
 o4 9 (.bin .leq (so (.binOp .leq 3 (tm 8) (.const (.int .i64 1099511627776)) 3) 4) (tm 8) (.const (.int .i64 1099511627776))) 6,
 o1 10 (.pick (tm 6) (tm 9) (.const (.bool false))),
 o1 2 (.mov (tm 10))]) .ret))
def zrbQ : AFunc := ⟨11, [(2, none)], zrbQ_c, none⟩
theorem zrbQ_t0 : tableOf Tryz.prog 170 = some zrbQ := by kernel_rfl
theorem zrbQ_t : T0 170 = some zrbQ := withKept_t rfl (withTrue_t rfl zrbQ_t0)
theorem zrbQ_runs {v0 : Value} {h : Heap} {R : RP} {X : XP} (k : RunC Tryz.prog T0 zrbQ_c ⟨[v0, U, U, U, U, U, U, U, U, U, U], [], h, none⟩ (bodyQ Tryz.prog T0 [(2, none)] R X)) :
 Runs Tryz.prog T0 (.fn 170) [v0] h R X := Runs.fn zrbQ_t rfl k
abbrev fn_zgbQ : FuncId := 171
def zgbQ_c : ACode :=
 (.seq (.region [
 o1 2 (.box 109 (tm 0)),
 o1 3 (.mov k0)]) (.seq (.block 0 (.seq (.region [
 o1 5 (.fieldAddr 0 (tm 2)),
 o1 6 (.load none (tm 5)),
 o1 7 (.bin .lss (so (.binOp .lss 3 (tm 6) k0 3) 4) (tm 6) k0),
 o1 8 (.mov (tm 7)),
 o5 9 (.fieldAddr 0 (tm 2)) 8,
 o5 10 (.load none (tm 9)) 8,
 o5 11 (.bin .geq (so (.binOp .geq 3 (tm 10) (.const (.int .i64 64)) 3) 4) (tm 10) (.const (.int .i64 64))) 8,
 o1 12 (.pick (tm 8) (.const (.bool true)) (tm 11)),
 o1 4 (.mov (tm 12))]) (.cond (tm 4)
 (.seq (.region [
 o1 3 (.mov (.const (.int .i64 3)))]) .ret)
 (.seq (.region [
 o1 14 (.fieldAddr 0 (tm 2)),
 o1 15 (.load none (tm 14)),
 o1 16 (.load none (tm 1)),
 o1 17 (.bin .leq (so (.binOp .leq 3 (tm 15) (tm 16) 3) 4) (tm 15) (tm 16)),
 o1 13 (.mov (tm 17))]) (.cond (tm 13)
 (.seq (.region [
 o1 3 (.mov (.const (.int .i64 9)))]) .ret)
 .skip))))) (.seq (.region [
 o1 18 (.fieldAddr 0 (tm 2)),
 o1 19 (.load none (tm 18)),
 o3 (.store 1 (tm 1) (tm 19))]) (.seq (.region [
 o1 3 (.mov k0)]) .ret))))
def zgbQ : AFunc := ⟨20, [(3, none)], zgbQ_c, none⟩
theorem zgbQ_t0 : tableOf Tryz.prog 171 = some zgbQ := by kernel_rfl
theorem zgbQ_t : T0 171 = some zgbQ := withKept_t rfl (withTrue_t rfl zgbQ_t0)
theorem zgbQ_runs {v0 v1 : Value} {h : Heap} {R : RP} {X : XP} (k : RunC Tryz.prog T0 zgbQ_c ⟨[v0, v1, U, U, U, U, U, U, U, U, U, U, U, U, U, U, U, U, U, U], [], h, none⟩ (bodyQ Tryz.prog T0 [(3, none)] R X)) :
 Runs Tryz.prog T0 (.fn 171) [v0, v1] h R X := Runs.fn zgbQ_t rfl k
abbrev fn_zsdQ : FuncId := 172
def zsdQ_c : ACode :=
 (.seq (.region [
 o1 4 (.mov (.const (.slice none 0 0)))]) (.seq (.seq (.region [
 o1 5 (.mov (tm 1)),
 o1 6 (.bin .lss (so (.binOp .lss 3 (tm 5) k0 3) 4) (tm 5) k0)]) (.cond (tm 6)
 (.region [
 o1 7 (.mkIface 9 (.const (.string ⟨⟨[99, 97, 110, 110, 111, 116, 32, 98, 101, 32, 110, 101, 103, 97, 116, 105, 118, 101]⟩⟩))),
 o3 (.panic (tm 7))])
 .skip)) (.seq (.seq (.region [
 o1 8 (.mov (tm 1)),
 o1 9 (.mov (tm 0)),
 o1 10 (.cap (tm 9)),
 o1 11 (.mov (tm 0)),
 o1 12 (.lenSl (tm 11)),
 o1 13 (.bin .sub (so (.binOp .sub 3 (tm 10) (tm 12) 3) 3) (tm 10) (tm 12)),
 o1 14 (.bin .sub (so (.binOp .sub 3 (tm 8) (tm 13) 3) 3) (tm 8) (tm 13)),
 o1 1 (.mov (tm 14))]) (.seq (.region [
 o1 15 (.mov (tm 1)),
 o1 16 (.bin .gtr (so (.binOp .gtr 3 (tm 15) k0 3) 4) (tm 15) k0)]) (.cond (tm 16)
 (.region [
 o1 17 (.mov (tm 0)),
 o1 18 (.mov (tm 0)),
 o1 19 (.cap (tm 18)),
 o1 20 (.sliceSl 1 (tm 17) none (some (tm 19)) none),
 o1 21 (.mov (tm 1)),
 o1 22 (.append 5 1 1 [(.int .u8 0)] true (tm 20) (tm 21)),
 o1 23 (.mov (tm 0)),
 o1 24 (.lenSl (tm 23)),
 o1 25 (.sliceSl 1 (tm 22) none (some (tm 24)) none),
 o1 0 (.mov (tm 25))])
 .skip))) (.seq (.region [
 o1 26 (.mov (tm 0)),
 o1 4 (.mov (tm 26))]) .ret))))
def zsdQ : AFunc := ⟨27, [(4, none)], zsdQ_c, none⟩
theorem zsdQ_t0 : tableOf Tryz.prog 172 = some zsdQ := by kernel_rfl
theorem zsdQ_t : T0 172 = some zsdQ := withKept_t rfl (withTrue_t rfl zsdQ_t0)
theorem zsdQ_runs {v0 v1 : Value} {h : Heap} {R : RP} {X : XP} (k : RunC Tryz.prog T0 zsdQ_c ⟨[v0, v1, U, U, U, U, U, U, U, U, U, U, U, U, U, U, U, U, U, U, U, U, U, U, U, U, U], [], h, none⟩ (bodyQ Tryz.prog T0 [(4, none)] R X)) :
 Runs Tryz.prog T0 (.fn 172) [v0, v1] h R X := Runs.fn zsdQ_t rfl k
abbrev fn_zudQ : FuncId := 174
def zudQ_l0 : ACode :=
 (.seq (.region [
 o1 176 (.nextStr (tm 175)),
 o1 177 (.extract 0 (tm 176))]) (.seq (.cond (tm 177)
 .skip
 (.exit 9)) (.block 10 (.seq (.region [
 o1 178 (.extract 1 (tm 176)),
 o1 179 (.extract 2 (tm 176)),
 o1 5 (.mov (tm 178)),
 o1 6 (.mov (tm 179))]) (.seq (.region [
 o1 180 (.mov (tm 6)),
 o1 181 (.bin .eql (so (.binOp .eql 21 (tm 180) (.const (.int .i32 65533)) 21) 4) (tm 180) (.const (.int .i32 65533)))]) (.cond (tm 181)
 (.seq (.region [
 o1 182 (.mov (tm 5)),
 o1 4 (.mov (tm 182))]) .ret)
 .skip))))))
def zudQ_l1 : ACode :=
 (.seq (.seq (.region [
 o1 48 (.mov (tm 12)),
 o1 49 (.mov (tm 7)),
 o1 50 (.lenStr (tm 49)),
 o1 51 (.bin .lss (so (.binOp .lss 3 (tm 48) (tm 50) 3) 4) (tm 48) (tm 50))]) (.cond (tm 51)
 .skip
 (.exit 3))) (.seq (.block 4 (.seq (.regionD [
 o1 54 (.mov (tm 0)),
 o1 55 (.mov (tm 9)),
 o1 56 (.mov (tm 12)),
 o1 57 (.bin .sub (so (.binOp .sub 3 (tm 55) (tm 56) 3) 3) (tm 55) (tm 56)),
 o1 58 (.raw (so (.index 9 (tm 54) (tm 57)) 5)),
 o1 59 (.mov (tm 7)),
 o1 60 (.mov (tm 8)),
 o1 61 (.mov (tm 12)),
 o1 62 (.bin .sub (so (.binOp .sub 3 (tm 60) (tm 61) 3) 3) (tm 60) (tm 61)),
 o1 63 (.raw (so (.index 9 (tm 59) (tm 62)) 5)),
 o2 64 (.bin .neq (so (.binOp .neq 5 (tm 58) (tm 63) 5) 4) (tm 58) (tm 63))]) (.cond (tm 64)
 .stuck
 .skip))) (.region [
 o1 52 (.mov (tm 12)),
 o1 53 (.bin .add (so (.binOp .add 3 (tm 52) (.const (.int .i64 1)) 3) 3) (tm 52) (.const (.int .i64 1))),
 o1 12 (.mov (tm 53))])))
def zudQ_l2 : ACode :=
 (.seq (.seq (.region [
 o1 23 (.mov (tm 9)),
 o1 24 (.mov (tm 0)),
 o1 25 (.lenStr (tm 24)),
 o1 26 (.bin .lss (so (.binOp .lss 3 (tm 23) (tm 25) 3) 4) (tm 23) (tm 25))]) (.cond (tm 26)
 .skip
 (.exit 1))) (.block 2 (.scope (.seq (.seq (.regionD [
 o1 27 (.mov (tm 0)),
 o1 28 (.mov (tm 9)),
 o1 29 (.raw (so (.index 9 (tm 27) (tm 28)) 5)),
 o1 30 (.mov (tm 7)),
 o1 31 (.mov (tm 8)),
 o1 32 (.raw (so (.index 9 (tm 30) (tm 31)) 5)),
 o2 33 (.bin .neq (so (.binOp .neq 5 (tm 29) (tm 32) 5) 4) (tm 29) (tm 32))]) (.cond (tm 33)
 (.seq (.regionD [
 o1 34 (.mov (tm 0)),
 o1 35 (.mov (tm 9)),
 o1 36 (.bin .add (so (.binOp .add 3 (tm 35) (.const (.int .i64 1)) 3) 3) (tm 35) (.const (.int .i64 1))),
 o1 37 (.sliceStr (tm 34) (some (tm 36)) none),
 o1 38 (.mov (tm 7)),
 o1 39 (.mov (tm 8)),
 o1 40 (.raw (so (.index 9 (tm 38) (tm 39)) 5)),
 o2 41 (.callV (.func 180) [(tm 37), (tm 40)]),
 o2 11 (.mov (tm 41))]) (.seq (.seq (.region [
 o1 42 (.mov (tm 11)),
 o1 43 (.bin .lss (so (.binOp .lss 3 (tm 42) k0 3) 4) (tm 42) k0)]) (.cond (tm 43)
 (.seq (.region [
 o1 4 (.mov (.const (.int .i64 (-1))))]) .ret)
 .skip)) (.region [
 o1 44 (.mov (tm 9)),
 o1 45 (.mov (tm 11)),
 o1 46 (.bin .add (so (.binOp .add 3 (tm 45) (.const (.int .i64 1)) 3) 3) (tm 45) (.const (.int .i64 1))),
 o1 47 (.bin .add (so (.binOp .add 3 (tm 44) (tm 46) 3) 3) (tm 44) (tm 46)),
 o1 9 (.mov (tm 47))])))
 .skip)) (.seq (.seq (.region [
 o1 12 (.mov (.const (.int .i64 1)))]) (.block 3 (.loop zudQ_l1))) (.seq (.seq (.region [
 o1 65 (.mov (tm 9)),
 o1 66 (.mov (tm 8)),
 o1 67 (.bin .sub (so (.binOp .sub 3 (tm 65) (tm 66) 3) 3) (tm 65) (tm 66)),
 o1 4 (.mov (tm 67))]) .ret) (.seq .skip (.seq (.region [
 o1 68 (.mov (tm 10)),
 o1 69 (.bin .add (so (.binOp .add 3 (tm 68) (.const (.int .i64 1)) 3) 3) (tm 68) (.const (.int .i64 1))),
 o1 10 (.mov (tm 69))]) (.seq (.region [
 o1 70 (.mov (tm 9)),
 o1 71 (.bin .add (so (.binOp .add 3 (tm 70) (.const (.int .i64 1)) 3) 3) (tm 70) (.const (.int .i64 1))),
 o1 9 (.mov (tm 71))]) (.seq (.region [
 o1 72 (.mov (.const (.bool true))),
 o4 73 (.mov (tm 10)) 72,
 o4 74 (.mov (tm 9)) 72,
 o4 75 (.callV (.func 182) [(tm 74)]) 72,
 o4 76 (.bin .gtr (so (.binOp .gtr 3 (tm 73) (tm 75) 3) 4) (tm 73) (tm 75)) 72,
 o1 77 (.pick (tm 72) (tm 76) (.const (.bool false))),
 o1 78 (.mov (tm 77)),
 o4 79 (.mov (tm 9)) 78,
 o4 80 (.mov (tm 0)) 78,
 o4 81 (.lenStr (tm 80)) 78,
 o4 82 (.bin .lss (so (.binOp .lss 3 (tm 79) (tm 81) 3) 4) (tm 79) (tm 81)) 78,
 o1 83 (.pick (tm 78) (tm 82) (.const (.bool false))),
 o1 84 (.mov (tm 83)),
 o5 85 (.mov (.const (.bool false))) 84,
 o4 86 (.mov (tm 10)) 85,
 o4 87 (.mov (tm 9)) 85,
 o4 88 (.bin .shr (so (.binOp .shr 3 (tm 87) (.const (.int .u64 4)) 155) 3) (tm 87) (.const (.int .u64 4))) 85,
 o4 89 (.bin .add (so (.binOp .add 3 (.const (.int .i64 4)) (tm 88) 3) 3) (.const (.int .i64 4)) (tm 88)) 85,
 o4 90 (.bin .geq (so (.binOp .geq 3 (tm 86) (tm 89) 3) 4) (tm 86) (tm 89)) 85,
 o5 91 (.pick (tm 85) (tm 90) (.const (.bool false))) 84,
 o5 92 (.mov (tm 91)) 84,
 o4 93 (.mov (tm 9)) 92,
 o4 94 (.mov (tm 0)) 92,
 o4 95 (.lenStr (tm 94)) 92,
 o4 96 (.bin .lss (so (.binOp .lss 3 (tm 93) (tm 95) 3) 4) (tm 93) (tm 95)) 92,
 o5 97 (.pick (tm 92) (tm 96) (.const (.bool false))) 84,
 o1 98 (.pick (tm 84) (.const (.bool true)) (tm 97))]) (.cond (tm 98)
 .stuck
 .skip)))))))))))
def zudQ_l3 : ACode :=
 (.seq (.seq (.region [
 o1 140 (.mov (tm 16)),
 o1 141 (.mov (tm 7)),
 o1 142 (.lenStr (tm 141)),
 o1 143 (.bin .lss (so (.binOp .lss 3 (tm 140) (tm 142) 3) 4) (tm 140) (tm 142))]) (.cond (tm 143)
 .skip
 (.exit 7))) (.seq (.block 8 (.seq (.regionD [
 o1 146 (.mov (tm 0)),
 o1 147 (.mov (tm 9)),
 o1 148 (.mov (tm 16)),
 o1 149 (.bin .sub (so (.binOp .sub 3 (tm 147) (tm 148) 3) 3) (tm 147) (tm 148)),
 o1 150 (.raw (so (.index 9 (tm 146) (tm 149)) 5)),
 o1 151 (.mov (tm 7)),
 o1 152 (.mov (tm 8)),
 o1 153 (.mov (tm 16)),
 o1 154 (.bin .sub (so (.binOp .sub 3 (tm 152) (tm 153) 3) 3) (tm 152) (tm 153)),
 o1 155 (.raw (so (.index 9 (tm 151) (tm 154)) 5)),
 o2 156 (.bin .neq (so (.binOp .neq 5 (tm 150) (tm 155) 5) 4) (tm 150) (tm 155))]) (.cond (tm 156)
 (.exit 6)
 .skip))) (.region [
 o1 144 (.mov (tm 16)),
 o1 145 (.bin .add (so (.binOp .add 3 (tm 144) (.const (.int .i64 1)) 3) 3) (tm 144) (.const (.int .i64 1))),
 o1 16 (.mov (tm 145))])))
def zudQ_l4 : ACode :=
 (.seq (.seq (.region [
 o1 121 (.mov (tm 9)),
 o1 122 (.mov (tm 0)),
 o1 123 (.lenStr (tm 122)),
 o1 124 (.bin .lss (so (.binOp .lss 3 (tm 121) (tm 123) 3) 4) (tm 121) (tm 123))]) (.cond (tm 124)
 .skip
 (.exit 5))) (.seq (.block 6 (.seq (.region [
 o1 127 (.mov (tm 0)),
 o1 128 (.mov (tm 9)),
 o1 129 (.raw (so (.index 9 (tm 127) (tm 128)) 5)),
 o1 130 (.mov (tm 14)),
 o1 131 (.bin .eql (so (.binOp .eql 5 (tm 129) (tm 130) 5) 4) (tm 129) (tm 130)),
 o1 132 (.mov (tm 131)),
 o4 133 (.mov (tm 0)) 132,
 o4 134 (.mov (tm 9)) 132,
 o4 135 (.bin .sub (so (.binOp .sub 3 (tm 134) (.const (.int .i64 1)) 3) 3) (tm 134) (.const (.int .i64 1))) 132,
 o4 136 (.raw (so (.index 9 (tm 133) (tm 135)) 5)) 132,
 o4 137 (.mov (tm 15)) 132,
 o4 138 (.bin .eql (so (.binOp .eql 5 (tm 136) (tm 137) 5) 4) (tm 136) (tm 137)) 132,
 o1 139 (.pick (tm 132) (tm 138) (.const (.bool false)))]) (.cond (tm 139)
 (.seq (.seq (.region [
 o1 16 (.mov (.const (.int .i64 2)))]) (.block 7 (.loop zudQ_l3))) (.seq (.region [
 o1 157 (.mov (tm 9)),
 o1 158 (.mov (tm 8)),
 o1 159 (.bin .sub (so (.binOp .sub 3 (tm 157) (tm 158) 3) 3) (tm 157) (tm 158)),
 o1 4 (.mov (tm 159))]) .ret))
 .skip))) (.region [
 o1 125 (.mov (tm 9)),
 o1 126 (.bin .add (so (.binOp .add 3 (tm 125) (.const (.int .i64 1)) 3) 3) (tm 125) (.const (.int .i64 1))),
 o1 9 (.mov (tm 126))])))
def zudQ_c : ACode :=
 (.seq (.region [
 o1 4 (.mov k0)]) (.block 0 (.seq (.region [
 o1 161 (.mov (tm 1)),
 o1 162 (.bin .leq (so (.binOp .leq 21 (.const (.int .i32 0)) (tm 161) 21) 4) (.const (.int .i32 0)) (tm 161)),
 o1 163 (.mov (tm 162)),
 o4 164 (.mov (tm 1)) 163,
 o4 165 (.bin .lss (so (.binOp .lss 21 (tm 164) (.const (.int .i32 128)) 21) 4) (tm 164) (.const (.int .i32 128))) 163,
 o1 166 (.pick (tm 163) (tm 165) (.const (.bool false))),
 o1 160 (.mov (tm 166))]) (.cond (tm 160)
 (.seq (.region [
 o1 167 (.mov (tm 0)),
 o1 168 (.mov (tm 1)),
 o1 169 (.conv .u8 (so (.convert 21 5 (tm 168)) 5) (tm 168)),
 o1 170 (.callV (.func 180) [(tm 167), (tm 169)]),
 o1 4 (.mov (tm 170))]) .ret)
 (.seq (.region [
 o1 172 (.mov (tm 1)),
 o1 173 (.bin .eql (so (.binOp .eql 21 (tm 172) (.const (.int .i32 65533)) 21) 4) (tm 172) (.const (.int .i32 65533))),
 o1 171 (.mov (tm 173))]) (.cond (tm 171)
 (.seq (.seq (.region [
 o1 174 (.mov (tm 0)),
 o1 175 (.rangeStr (tm 174))]) (.block 9 (.loop zudQ_l0))) (.seq (.region [
 o1 4 (.mov (.const (.int .i64 (-1))))]) .ret))
 (.seq (.region [
 o1 184 (.mov (tm 1)),
 o1 185 (.callV (.func 181) [(tm 184)]),
 o1 186 (.raw (so (.unOp .not 4 (tm 185)) 4)),
 o1 183 (.mov (tm 186))]) (.cond (tm 183)
 (.seq (.region [
 o1 4 (.mov (.const (.int .i64 (-1))))]) .ret)
 (.scope (.seq (.region [
 o1 17 (.mov (tm 1)),
 o1 18 (.raw (so (.convert 21 9 (tm 17)) 9)),
 o1 7 (.mov (tm 18))]) (.seq (.region [
 o1 19 (.mov (tm 7)),
 o1 20 (.lenStr (tm 19)),
 o1 21 (.bin .sub (so (.binOp .sub 3 (tm 20) (.const (.int .i64 1)) 3) 3) (tm 20) (.const (.int .i64 1))),
 o1 8 (.mov (tm 21))]) (.seq (.region [
 o1 22 (.mov (tm 8)),
 o1 9 (.mov (tm 22))]) (.seq (.region [
 o1 10 (.mov k0)]) (.seq (.block 1 (.loop zudQ_l2)) (.seq (.seq (.region [
 o1 4 (.mov (.const (.int .i64 (-1))))]) .ret) (.seq .skip (.seq (.cond (.const (.bool true))
 (.seq (.region [
 o1 99 (.mov (tm 0)),
 o1 100 (.mov (tm 9)),
 o1 101 (.mov (tm 8)),
 o1 102 (.bin .sub (so (.binOp .sub 3 (tm 100) (tm 101) 3) 3) (tm 100) (tm 101)),
 o1 103 (.sliceStr (tm 99) (some (tm 102)) none),
 o1 104 (.mov (tm 1)),
 o1 105 (.raw (so (.convert 21 9 (tm 104)) 9)),
 o1 106 (.callV (.func 183) [(tm 103), (tm 105)]),
 o1 13 (.mov (tm 106))]) (.seq (.region [
 o1 107 (.mov (tm 13)),
 o1 108 (.bin .geq (so (.binOp .geq 3 (tm 107) k0 3) 4) (tm 107) k0)]) (.cond (tm 108)
 (.seq (.region [
 o1 109 (.mov (tm 9)),
 o1 110 (.mov (tm 13)),
 o1 111 (.bin .add (so (.binOp .add 3 (tm 109) (tm 110) 3) 3) (tm 109) (tm 110)),
 o1 112 (.mov (tm 8)),
 o1 113 (.bin .sub (so (.binOp .sub 3 (tm 111) (tm 112) 3) 3) (tm 111) (tm 112)),
 o1 4 (.mov (tm 113))]) .ret)
 .skip)))
 (.scope (.seq (.region [
 o1 114 (.mov (tm 7)),
 o1 115 (.mov (tm 8)),
 o1 116 (.raw (so (.index 9 (tm 114) (tm 115)) 5)),
 o1 14 (.mov (tm 116))]) (.seq (.region [
 o1 117 (.mov (tm 7)),
 o1 118 (.mov (tm 8)),
 o1 119 (.bin .sub (so (.binOp .sub 3 (tm 118) (.const (.int .i64 1)) 3) 3) (tm 118) (.const (.int .i64 1))),
 o1 120 (.raw (so (.index 9 (tm 117) (tm 119)) 5)),
 o1 15 (.mov (tm 120))]) (.seq .skip (.block 5 (.loop zudQ_l4))))))) (.seq (.region [
 o1 4 (.mov (.const (.int .i64 (-1))))]) .ret))))))))))))))))))
def zudQ : AFunc := ⟨187, [(4, none)], zudQ_c, none⟩
theorem zudQ_t0 : tableOf Tryz.prog 174 = some zudQ := by kernel_rfl
theorem zudQ_t : T0 174 = some zudQ := withKept_t rfl (withTrue_t rfl zudQ_t0)
theorem zudQ_runs {v0 v1 : Value} {h : Heap} {R : RP} {X : XP} (k : RunC Tryz.prog T0 zudQ_c ⟨[v0, v1, U, U, U, U, U, U, U, U, U, U, U, U, U, U, U, U, U, U, U, U, U, U, U, U, U, U, U, U, U, U, U, U, U, U, U, U, U, U, U, U, U, U, U, U, U, U, U, U, U, U, U, U, U, U, U, U, U, U, U, U, U, U, U, U, U, U, U, U, U, U, U, U, U, U, U, U, U, U, U, U, U, U, U, U, U, U, U, U, U, U, U, U, U, U, U, U, U, U, U, U, U, U, U, U, U, U, U, U, U, U, U, U, U, U, U, U, U, U, U, U, U, U, U, U, U, U, U, U, U, U, U, U, U, U, U, U, U, U, U, U, U, U, U, U, U, U, U, U, U, U, U, U, U, U, U, U, U, U, U, U, U, U, U, U, U, U, U, U, U, U, U, U, U, U, U, U, U, U, U, U, U, U, U, U, U], [], h, none⟩ (bodyQ Tryz.prog T0 [(4, none)] R X)) :
 Runs Tryz.prog T0 (.fn 174) [v0, v1] h R X := Runs.fn zudQ_t rfl k
abbrev fn_zlcQ : FuncId := 177
def zlcQ_c : ACode :=
 (.seq (.region [
 o1 4 (.mov (.const (.int .u32 0)))]) (.seq (.region [
 o1 5 (.mov (tm 0)),
 o1 6 (.mov (tm 1)),
 o1 7 (.bin .shr (so (.binOp .shr 151 (tm 5) (tm 6) 155) 151) (tm 5) (tm 6)),
 o1 8 (.mov (tm 0)),
 o1 9 (.mov (tm 1)),
 o1 10 (.bin .sub (so (.binOp .sub 155 (.const (.int .u64 32)) (tm 9) 155) 155) (.const (.int .u64 32)) (tm 9)),
 o1 11 (.bin .shl (so (.binOp .shl 151 (tm 8) (tm 10) 155) 151) (tm 8) (tm 10)),
 o1 12 (.bin .or (so (.binOp .or 151 (tm 7) (tm 11) 151) 151) (tm 7) (tm 11)),
 o1 4 (.mov (tm 12))]) .ret))
def zlcQ : AFunc := ⟨13, [(4, none)], zlcQ_c, none⟩
theorem zlcQ_t0 : tableOf Tryz.prog 177 = some zlcQ := by kernel_rfl
theorem zlcQ_t : T0 177 = some zlcQ := withKept_t rfl (withTrue_t rfl zlcQ_t0)
theorem zlcQ_runs {v0 v1 : Value} {h : Heap} {R : RP} {X : XP} (k : RunC Tryz.prog T0 zlcQ_c ⟨[v0, v1, U, U, U, U, U, U, U, U, U, U, U], [], h, none⟩ (bodyQ Tryz.prog T0 [(4, none)] R X)) :
 Runs Tryz.prog T0 (.fn 177) [v0, v1] h R X := Runs.fn zlcQ_t rfl k
abbrev fn_zlbQ : FuncId := 178
def zlbQ_l0 : ACode :=
 (.seq (.region [
 o1 9 (.nextStr (tm 8)),
 o1 10 (.extract 0 (tm 9))]) (.seq (.cond (tm 10)
 .skip
 (.exit 0)) (.block 1 (.seq (.region [
 o1 11 (.extract 2 (tm 9)),
 o1 6 (.mov (tm 11))]) (.seq (.region [
 o1 12 (.mov (tm 1)),
 o1 13 (.mov (tm 6)),
 o1 14 (.callV (tm 12) [(tm 13)]),
 o1 15 (.raw (so (.unOp .not 4 (tm 14)) 4))]) (.cond (tm 15)
 (.seq (.region [
 o1 4 (.mov (.const (.bool false)))]) .ret)
 .skip))))))
def zlbQ_c : ACode :=
 (.seq (.region [
 o1 4 (.mov (.const (.bool false)))]) (.seq (.seq (.region [
 o1 7 (.mov (tm 0)),
 o1 8 (.rangeStr (tm 7))]) (.block 0 (.loop zlbQ_l0))) (.seq (.region [
 o1 4 (.mov (.const (.bool true)))]) .ret)))
def zlbQ : AFunc := ⟨16, [(4, none)], zlbQ_c, none⟩
theorem zlbQ_t0 : tableOf Tryz.prog 178 = some zlbQ := by kernel_rfl
theorem zlbQ_t : T0 178 = some zlbQ := withKept_t rfl (withTrue_t rfl zlbQ_t0)
theorem zlbQ_runs {v0 v1 : Value} {h : Heap} {R : RP} {X : XP} (k : RunC Tryz.prog T0 zlbQ_c ⟨[v0, v1, U, U, U, U, U, U, U, U, U, U, U, U, U, U], [], h, none⟩ (bodyQ Tryz.prog T0 [(4, none)] R X)) :
 Runs Tryz.prog T0 (.fn 178) [v0, v1] h R X := Runs.fn zlbQ_t rfl k
abbrev zlbQ_l0_M : List Nat := [0, 0, 0, 0, 1, 0, 1, 0, 0, 1, 1, 1, 1, 1, 1, 1]
abbrev fn_znbQ : FuncId := 179
def znbQ_c : ACode :=
 (.seq (.region [
 o1 2 (.mov (.const (.bool false)))]) (.seq (.region [
 o1 3 (.mov (tm 0)),
 o1 4 (.bin .geq (so (.binOp .geq 21 (tm 3) (.const (.int .i32 97)) 21) 4) (tm 3) (.const (.int .i32 97))),
 o1 5 (.mov (tm 4)),
 o4 6 (.mov (tm 0)) 5,
 o4 7 (.bin .leq (so (.binOp .leq 21 (tm 6) (.const (.int .i32 122)) 21) 4) (tm 6) (.const (.int .i32 122))) 5,
 o1 8 (.pick (tm 5) (tm 7) (.const (.bool false))),
 o1 9 (.mov (tm 8)),
 o5 10 (.mov (tm 0)) 9,
 o5 11 (.bin .geq (so (.binOp .geq 21 (tm 10) (.const (.int .i32 48)) 21) 4) (tm 10) (.const (.int .i32 48))) 9,
 o5 12 (.mov (tm 11)) 9,
 o4 13 (.mov (tm 0)) 12,
 o4 14 (.bin .leq (so (.binOp .leq 21 (tm 13) (.const (.int .i32 57)) 21) 4) (tm 13) (.const (.int .i32 57))) 12,
 o5 15 (.pick (tm 12) (tm 14) (.const (.bool false))) 9,
 o1 16 (.pick (tm 9) (.const (.bool true)) (tm 15)),
 o1 17 (.mov (tm 16)),
 o5 18 (.mov (tm 0)) 17,
 o5 19 (.bin .eql (so (.binOp .eql 21 (tm 18) (.const (.int .i32 45)) 21) 4) (tm 18) (.const (.int .i32 45))) 17,
 o1 20 (.pick (tm 17) (.const (.bool true)) (tm 19)),
 o1 2 (.mov (tm 20))]) .ret))
def znbQ : AFunc := ⟨21, [(2, none)], znbQ_c, none⟩
theorem znbQ_t0 : tableOf Tryz.prog 179 = some znbQ := by kernel_rfl
theorem znbQ_t : T0 179 = some znbQ := withKept_t rfl (withTrue_t rfl znbQ_t0)
theorem znbQ_runs {v0 : Value} {h : Heap} {R : RP} {X : XP} (k : RunC Tryz.prog T0 znbQ_c ⟨[v0, U, U, U, U, U, U, U, U, U, U, U, U, U, U, U, U, U, U, U, U], [], h, none⟩ (bodyQ Tryz.prog T0 [(2, none)] R X)) :
 Runs Tryz.prog T0 (.fn 179) [v0] h R X := Runs.fn znbQ_t rfl k
abbrev fn_ztdQ : FuncId := 180
def ztdQ_c : ACode :=
 (.seq (.region [
 o1 4 (.mov k0)]) (.seq (.region [
 o1 5 (.mov (tm 0)),
 o1 6 (.mov (tm 1)),
 o1 7 (.callV (.func 185) [(tm 5), (tm 6)]),
 o1 4 (.mov (tm 7))]) .ret))
def ztdQ : AFunc := ⟨8, [(4, none)], ztdQ_c, none⟩
theorem ztdQ_t0 : tableOf Tryz.prog 180 = some ztdQ := by kernel_rfl
theorem ztdQ_t : T0 180 = some ztdQ := withKept_t rfl (withTrue_t rfl ztdQ_t0)
theorem ztdQ_runs {v0 v1 : Value} {h : Heap} {R : RP} {X : XP} (k : RunC Tryz.prog T0 ztdQ_c ⟨[v0, v1, U, U, U, U, U, U], [], h, none⟩ (bodyQ Tryz.prog T0 [(4, none)] R X)) :
 Runs Tryz.prog T0 (.fn 180) [v0, v1] h R X := Runs.fn ztdQ_t rfl k
abbrev fn_zvdQ : FuncId := 181
def zvdQ_c : ACode :=
 (.seq (.region [
 o1 2 (.mov (.const (.bool false)))]) (.seq (.block 0 (.seq (.region [
 o1 4 (.mov (tm 0)),
 o1 5 (.bin .leq (so (.binOp .leq 21 (.const (.int .i32 0)) (tm 4) 21) 4) (.const (.int .i32 0)) (tm 4)),
 o1 6 (.mov (tm 5)),
 o4 7 (.mov (tm 0)) 6,
 o4 8 (.bin .lss (so (.binOp .lss 21 (tm 7) (.const (.int .i32 55296)) 21) 4) (tm 7) (.const (.int .i32 55296))) 6,
 o1 9 (.pick (tm 6) (tm 8) (.const (.bool false))),
 o1 3 (.mov (tm 9))]) (.cond (tm 3)
 (.seq (.region [
 o1 2 (.mov (.const (.bool true)))]) .ret)
 (.seq (.region [
 o1 11 (.mov (tm 0)),
 o1 12 (.bin .lss (so (.binOp .lss 21 (.const (.int .i32 57343)) (tm 11) 21) 4) (.const (.int .i32 57343)) (tm 11)),
 o1 13 (.mov (tm 12)),
 o4 14 (.mov (tm 0)) 13,
 o4 15 (.bin .leq (so (.binOp .leq 21 (tm 14) (.const (.int .i32 1114111)) 21) 4) (tm 14) (.const (.int .i32 1114111))) 13,
 o1 16 (.pick (tm 13) (tm 15) (.const (.bool false))),
 o1 10 (.mov (tm 16))]) (.cond (tm 10)
 (.seq (.region [
 o1 2 (.mov (.const (.bool true)))]) .ret)
 .skip))))) (.seq (.region [
 o1 2 (.mov (.const (.bool false)))]) .ret)))
def zvdQ : AFunc := ⟨17, [(2, none)], zvdQ_c, none⟩
theorem zvdQ_t0 : tableOf Tryz.prog 181 = some zvdQ := by kernel_rfl
theorem zvdQ_t : T0 181 = some zvdQ := withKept_t rfl (withTrue_t rfl zvdQ_t0)
theorem zvdQ_runs {v0 : Value} {h : Heap} {R : RP} {X : XP} (k : RunC Tryz.prog T0 zvdQ_c ⟨[v0, U, U, U, U, U, U, U, U, U, U, U, U, U, U, U, U], [], h, none⟩ (bodyQ Tryz.prog T0 [(2, none)] R X)) :
 Runs Tryz.prog T0 (.fn 181) [v0] h R X := Runs.fn zvdQ_t rfl k
abbrev fn_zsbQ : FuncId := 182
def zsbQ_c : ACode :=
 (.seq (.region [
 o1 2 (.mov k0)]) (.seq (.region [
 o1 3 (.mov (tm 0)),
 o1 4 (.bin .add (so (.binOp .add 3 (tm 3) (.const (.int .i64 16)) 3) 3) (tm 3) (.const (.int .i64 16))),
 o1 5 (.bin .quo (so (.binOp .quo 3 (tm 4) (.const (.int .i64 8)) 3) 3) (tm 4) (.const (.int .i64 8))),
 o1 2 (.mov (tm 5))]) .ret))
def zsbQ : AFunc := ⟨6, [(2, none)], zsbQ_c, none⟩
theorem zsbQ_t0 : tableOf Tryz.prog 182 = some zsbQ := by kernel_rfl
theorem zsbQ_t : T0 182 = some zsbQ := withKept_t rfl (withTrue_t rfl zsbQ_t0)
theorem zsbQ_runs {v0 : Value} {h : Heap} {R : RP} {X : XP} (k : RunC Tryz.prog T0 zsbQ_c ⟨[v0, U, U, U, U, U], [], h, none⟩ (bodyQ Tryz.prog T0 [(2, none)] R X)) :
 Runs Tryz.prog T0 (.fn 182) [v0] h R X := Runs.fn zsbQ_t rfl k
abbrev fn_ztbQ : FuncId := 185
def ztbQ_c : ACode :=
 (.seq (.region [
 o1 4 (.mov k0)]) (.seq (.region [
 o1 5 (.mov (tm 0)),
 o1 6 (.mov (tm 1)),
 o1 7 (.ext .indexByte (.func 186) [(tm 5), (tm 6)]),
 o1 4 (.mov (tm 7))]) .ret))
def ztbQ : AFunc := ⟨8, [(4, none)], ztbQ_c, none⟩
theorem ztbQ_t0 : tableOf Tryz.prog 185 = some ztbQ := by kernel_rfl
theorem ztbQ_t : T0 185 = some ztbQ := withKept_t rfl (withTrue_t rfl ztbQ_t0)
theorem ztbQ_runs {v0 v1 : Value} {h : Heap} {R : RP} {X : XP} (k : RunC Tryz.prog T0 ztbQ_c ⟨[v0, v1, U, U, U, U, U, U], [], h, none⟩ (bodyQ Tryz.prog T0 [(4, none)] R X)) :
 Runs Tryz.prog T0 (.fn 185) [v0, v1] h R X := Runs.fn ztbQ_t rfl k
end Go.Proofs.YtbmpalbdbcjieaaGreat.A
