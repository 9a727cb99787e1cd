/- Contracts of functions, over the machine. -/
import Derived.Test.YtagmnpeilgnbdaaQSigsBack4
import Derived.Test.YtagmnpeilgnbdaaRows
import Derived.Test.YtagmnpeilgnbdaaVL
set_option linter.unusedSimpArgs false
set_option linter.unusedSectionVars false
noncomputable section
set_option maxRecDepth 100000
set_option linter.unusedVariables false
namespace Go.Proofs.Ytagmnpeilgnbdaa.R
open Go Go.Vm
open Go.Proofs.Ytagmnpeilgnbdaa.A
abbrev ty_internal_abi_BoundsErrorCode : TypeId := 6
abbrev ty_runtime_boundsError : TypeId := 8
abbrev ty_runtime_errorString : TypeId := 10
abbrev ty_runtime_plainError : TypeId := 11
abbrev ty_runtime_errorAddressString : TypeId := 14
abbrev ty_internal_runtime_maps_unhashableTypeError : TypeId := 19
abbrev ty_api_Errno : TypeId := 25
abbrev ty_api_Key : TypeId := 33
abbrev ty_api_Hash : TypeId := 35
abbrev ty_api_Sig : TypeId := 38
abbrev ty_sigs_Table : TypeId := 43
abbrev ty_api_Fault : TypeId := 62
abbrev ty_lr08_Table : TypeId := 67
abbrev ty_sigs_held : TypeId := 69
abbrev ty_sigs_sig : TypeId := 70
abbrev ty_iter_Seq_api_Key_ : TypeId := 84
abbrev ty_wire_Writer : TypeId := 97
abbrev ty_iter_Seq_sigs_sig_ : TypeId := 102
abbrev ty_wire_Reader : TypeId := 110
abbrev ty_lr04_Writer : TypeId := 129
abbrev ty_wire_wrong : TypeId := 147
abbrev ty_slices_sortedHint : TypeId := 150
abbrev ty_slices_xorshift : TypeId := 160
abbrev ty_runtime_TypeAssertionError : TypeId := 170
abbrev ty_runtime_PanicNilError : TypeId := 173
abbrev ty_internal_abi_TFlag : TypeId := 174
abbrev ty_internal_abi_Kind : TypeId := 175
abbrev ty_internal_abi_NameOff : TypeId := 178
abbrev ty_internal_abi_TypeOff : TypeId := 179
abbrev ty_internal_abi_Type : TypeId := 181
instance : IsIface Try.prog 20 := ⟨by kernel_rfl⟩
abbrev prims : List FuncId := []
abbrev kepts : List FuncId := []
def T0 : Table := withKept (withTrue Try.prog prims) kepts
instance : IsBoolT Try.prog 4 := ⟨by kernel_rfl⟩
instance : TLeaves Try.prog 7 (.i .i64 :: (.i .i64 :: (.b :: (.i .u8 :: [])))) := ⟨by kernel_rfl, by kernel_rfl, by kernel_rfl⟩
instance : TLeaves Try.prog 8 (.i .i64 :: (.i .i64 :: (.b :: (.i .u8 :: [])))) := ⟨by kernel_rfl, by kernel_rfl, by kernel_rfl⟩
instance : TLeaves Try.prog 32 (u8s 4) := ⟨by kernel_rfl, by kernel_rfl, by kernel_rfl⟩
instance : TLeaves Try.prog 33 (u8s 4) := ⟨by kernel_rfl, by kernel_rfl, by kernel_rfl⟩
instance : TLeaves Try.prog 34 (u8s 32) := ⟨by kernel_rfl, by kernel_rfl, by kernel_rfl⟩
instance : TLeaves Try.prog 35 (u8s 32) := ⟨by kernel_rfl, by kernel_rfl, by kernel_rfl⟩
instance : TLeaves Try.prog 37 (u8s 32 ++ (u8s 4 ++ (.i .u64 :: []))) := ⟨by kernel_rfl, by kernel_rfl, by kernel_rfl⟩
instance : TLeaves Try.prog 38 (u8s 32 ++ (u8s 4 ++ (.i .u64 :: []))) := ⟨by kernel_rfl, by kernel_rfl, by kernel_rfl⟩
instance : TLeaves Try.prog 61 (.i .i64 :: (.i .i64 :: [])) := ⟨by kernel_rfl, by kernel_rfl, by kernel_rfl⟩
instance : TLeaves Try.prog 62 (.i .i64 :: (.i .i64 :: [])) := ⟨by kernel_rfl, by kernel_rfl, by kernel_rfl⟩
instance : TLeaves Try.prog 70 (u8s 32 ++ (u8s 4 ++ (.i .u64 :: []))) := ⟨by kernel_rfl, by kernel_rfl, by kernel_rfl⟩
instance : TLeaves Try.prog 105 (u8s 4 ++ (u8s 4)) := ⟨by kernel_rfl, by kernel_rfl, by kernel_rfl⟩
instance : TLeaves Try.prog 134 (u8s 4 ++ (u8s 4 ++ (.i .u8 :: []))) := ⟨by kernel_rfl, by kernel_rfl, by kernel_rfl⟩
instance : TLeaves Try.prog 146 (.i .i64 :: (.i .i64 :: [])) := ⟨by kernel_rfl, by kernel_rfl, by kernel_rfl⟩
instance : TLeaves Try.prog 147 (.i .i64 :: (.i .i64 :: [])) := ⟨by kernel_rfl, by kernel_rfl, by kernel_rfl⟩
abbrev fn_zkQ : FuncId := 5
def zkQ_c : ACode :=
  (.seq (.region [
      ⟨(some 0), .mov (.const (.bool false)), none, [], false⟩]) (.seq (.region [
      ⟨(some 16), .callV (.func 19) [], none, [], false⟩,
      ⟨(some 15), .mov (.tmp 16), none, [], false⟩,
      ⟨(some 17), .extract 0 (.tmp 15), none, [], false⟩,
      ⟨(some 18), .extract 1 (.tmp 15), none, [], false⟩,
      ⟨(some 19), .extract 2 (.tmp 15), none, [], false⟩,
      ⟨(some 1), .alloc 38 (z32 ++ [(.int .u8 0), (.int .u8 0), (.int .u8 0), (.int .u8 0), (.int .u64 0)]), none, [], false⟩,
      ⟨(some 2), .alloc 38 (z32 ++ [(.int .u8 0), (.int .u8 0), (.int .u8 0), (.int .u8 0), (.int .u64 0)]), none, [], false⟩,
      ⟨(some 3), .alloc 38 (z32 ++ [(.int .u8 0), (.int .u8 0), (.int .u8 0), (.int .u8 0), (.int .u64 0)]), none, [], false⟩,
      ⟨none, .store 37 (.tmp 1) (.tmp 17), none, [], false⟩,
      ⟨none, .store 37 (.tmp 2) (.tmp 18), none, [], false⟩,
      ⟨none, .store 37 (.tmp 3) (.tmp 19), none, [], false⟩]) (.seq (.region [
      ⟨(some 21), .callV (.func 9) [(.const (.int .i64 2))], none, [], false⟩,
      ⟨(some 20), .mov (.tmp 21), none, [], false⟩,
      ⟨(some 22), .extract 0 (.tmp 20), none, [], false⟩,
      ⟨(some 23), .extract 1 (.tmp 20), none, [], false⟩,
      ⟨(some 4), .mov (.tmp 22), none, [], false⟩,
      ⟨(some 5), .mov (.tmp 23), none, [], false⟩]) (.seq (.region [
      ⟨(some 25), .callV (.func 9) [(.const (.int .i64 (-1)))], none, [], false⟩,
      ⟨(some 24), .mov (.tmp 25), none, [], false⟩,
      ⟨(some 26), .extract 0 (.tmp 24), none, [], false⟩,
      ⟨(some 27), .extract 1 (.tmp 24), none, [], false⟩,
      ⟨(some 6), .mov (.tmp 26), none, [], false⟩,
      ⟨(some 7), .mov (.tmp 27), none, [], false⟩]) (.seq (.region [
      ⟨(some 29), .callV (.func 9) [(.const (.int .i64 4097))], none, [], false⟩,
      ⟨(some 28), .mov (.tmp 29), none, [], false⟩,
      ⟨(some 30), .extract 0 (.tmp 28), none, [], false⟩,
      ⟨(some 31), .extract 1 (.tmp 28), none, [], false⟩,
      ⟨(some 8), .mov (.tmp 30), none, [], false⟩,
      ⟨(some 9), .mov (.tmp 31), none, [], false⟩]) (.seq (.seq (.region [
      ⟨(some 32), .mov (.tmp 5), none, [], false⟩,
      ⟨(some 33), .bin .neq (so (.binOp .neq 25 (.tmp 32) (.const (.int .i64 0)) 25) 4) (.tmp 32) (.const (.int .i64 0)), none, [], false⟩,
      ⟨(some 34), .mov (.tmp 33), none, [], false⟩,
      ⟨(some 35), .mov (.tmp 4), (some (34, false)), [], false⟩,
      ⟨(some 36), .eq .ptr false (so (.binOp .eql 24 (.tmp 35) (.const (.pointer none)) 24) 4) (.tmp 35) (.const (.pointer none)), (some (34, false)), [], false⟩,
      ⟨(some 37), .pick (.tmp 34) (.const (.bool true)) (.tmp 36), none, [], false⟩]) (.cond (.tmp 37)
    (.seq (.region [
      ⟨(some 0), .mov (.const (.bool false)), none, [], false⟩]) .ret)
    .skip)) (.seq (.region [
      ⟨(some 39), .mov (.tmp 4), none, [], false⟩,
      ⟨(some 40), .callV (.func 14) [(.tmp 39)], none, [], false⟩,
      ⟨(some 38), .mov (.tmp 40), none, [], false⟩,
      ⟨(some 41), .extract 0 (.tmp 38), none, [], false⟩,
      ⟨(some 42), .extract 1 (.tmp 38), none, [], false⟩,
      ⟨(some 10), .mov (.tmp 41), none, [], false⟩,
      ⟨(some 11), .mov (.tmp 42), none, [], false⟩]) (.seq (.seq (.region [
      ⟨(some 43), .mov (.tmp 11), none, [], false⟩,
      ⟨(some 44), .bin .neq (so (.binOp .neq 25 (.tmp 43) (.const (.int .i64 0)) 25) 4) (.tmp 43) (.const (.int .i64 0)), none, [], false⟩,
      ⟨(some 45), .mov (.tmp 44), none, [], false⟩,
      ⟨(some 46), .mov (.tmp 10), (some (45, false)), [], false⟩,
      ⟨(some 47), .buildSlice 5 [(.int .u8 0)] 1 [(0, 1, (.const (.int .u8 0)))], (some (45, false)), [], false⟩,
      ⟨(some 48), .callV (.func 20) [(.tmp 46), (.tmp 47)], (some (45, false)), [], false⟩,
      ⟨(some 49), .raw (so (.unOp .not 4 (.tmp 48)) 4), (some (45, false)), [], false⟩,
      ⟨(some 50), .pick (.tmp 45) (.const (.bool true)) (.tmp 49), none, [], false⟩,
      ⟨(some 51), .mov (.tmp 50), none, [], false⟩,
      ⟨(some 52), .mov (.tmp 4), (some (51, false)), [], false⟩,
      ⟨(some 53), .load (some 37) (.tmp 1), (some (51, false)), [], false⟩,
      ⟨(some 54), .callV (.func 11) [(.tmp 52), (.tmp 53)], (some (51, false)), [], false⟩,
      ⟨(some 55), .bin .neq (so (.binOp .neq 25 (.tmp 54) (.const (.int .i64 0)) 25) 4) (.tmp 54) (.const (.int .i64 0)), (some (51, false)), [], false⟩,
      ⟨(some 56), .pick (.tmp 51) (.const (.bool true)) (.tmp 55), none, [], false⟩,
      ⟨(some 57), .mov (.tmp 56), none, [], false⟩,
      ⟨(some 58), .mov (.tmp 4), (some (57, false)), [], false⟩,
      ⟨(some 59), .load (some 37) (.tmp 2), (some (57, false)), [], false⟩,
      ⟨(some 60), .callV (.func 11) [(.tmp 58), (.tmp 59)], (some (57, false)), [], false⟩,
      ⟨(some 61), .bin .neq (so (.binOp .neq 25 (.tmp 60) (.const (.int .i64 0)) 25) 4) (.tmp 60) (.const (.int .i64 0)), (some (57, false)), [], false⟩,
      ⟨(some 62), .pick (.tmp 57) (.const (.bool true)) (.tmp 61), none, [], false⟩]) (.cond (.tmp 62)
    (.seq (.region [
      ⟨(some 0), .mov (.const (.bool false)), none, [], false⟩]) .ret)
    .skip)) (.seq (.region [
      ⟨(some 64), .mov (.tmp 4), none, [], false⟩,
      ⟨(some 65), .callV (.func 14) [(.tmp 64)], none, [], false⟩,
      ⟨(some 63), .mov (.tmp 65), none, [], false⟩,
      ⟨(some 66), .extract 0 (.tmp 63), none, [], false⟩,
      ⟨(some 67), .extract 1 (.tmp 63), none, [], false⟩,
      ⟨(some 12), .mov (.tmp 66), none, [], false⟩,
      ⟨(some 13), .mov (.tmp 67), none, [], false⟩]) (.seq (.seq (.region [
      ⟨(some 68), .mov (.tmp 13), none, [], false⟩,
      ⟨(some 69), .bin .neq (so (.binOp .neq 25 (.tmp 68) (.const (.int .i64 0)) 25) 4) (.tmp 68) (.const (.int .i64 0)), none, [], false⟩,
      ⟨(some 70), .mov (.tmp 69), none, [], false⟩,
      ⟨(some 71), .mov (.tmp 12), (some (70, false)), [], false⟩,
      ⟨(some 72), .lenSl (.tmp 71), (some (70, false)), [], false⟩,
      ⟨(some 73), .bin .neq (so (.binOp .neq 3 (.tmp 72) (.const (.int .i64 90)) 3) 4) (.tmp 72) (.const (.int .i64 90)), (some (70, false)), [], false⟩,
      ⟨(some 74), .pick (.tmp 70) (.const (.bool true)) (.tmp 73), none, [], false⟩]) (.cond (.tmp 74)
    (.seq (.region [
      ⟨(some 0), .mov (.const (.bool false)), none, [], false⟩]) .ret)
    .skip)) (.seq (.regionD [
      ⟨(some 76), .mov (.tmp 12), none, [], false⟩,
      ⟨(some 77), .sliceSl 1 (.tmp 76) none (some (.const (.int .i64 2))) none, none, [], false⟩,
      ⟨(some 79), .mov (.tmp 12), none, [], false⟩,
      ⟨(some 80), .sliceSl 1 (.tmp 79) (some (.const (.int .i64 46))) none none, none, [], false⟩,
      ⟨(some 82), .mov (.tmp 12), none, [], false⟩,
      ⟨(some 83), .sliceSl 1 (.tmp 82) (some (.const (.int .i64 2))) (some (.const (.int .i64 46))) none, none, [], false⟩,
      ⟨(some 75), .buildSlice 5 [] 0 [], none, [((some 83), .sliceSl 1 (.tmp 82) (some (.const (.int .i64 2))) (some (.const (.int .i64 46))) none, none), ((some 82), .mov (.tmp 12), none), ((some 80), .sliceSl 1 (.tmp 79) (some (.const (.int .i64 46))) none none, none), ((some 79), .mov (.tmp 12), none), ((some 77), .sliceSl 1 (.tmp 76) none (some (.const (.int .i64 2))) none, none), ((some 76), .mov (.tmp 12), none)], false⟩,
      ⟨(some 78), .append 5 1 1 [(.int .u8 0)] false (.tmp 75) (.tmp 77), none, [((some 83), .sliceSl 1 (.tmp 82) (some (.const (.int .i64 2))) (some (.const (.int .i64 46))) none, none), ((some 82), .mov (.tmp 12), none), ((some 80), .sliceSl 1 (.tmp 79) (some (.const (.int .i64 46))) none none, none), ((some 79), .mov (.tmp 12), none)], false⟩,
      ⟨(some 81), .append 5 1 1 [(.int .u8 0)] false (.tmp 78) (.tmp 80), none, [((some 83), .sliceSl 1 (.tmp 82) (some (.const (.int .i64 2))) (some (.const (.int .i64 46))) none, none), ((some 82), .mov (.tmp 12), none)], false⟩,
      ⟨(some 84), .append 5 1 1 [(.int .u8 0)] false (.tmp 81) (.tmp 83), none, [], true⟩,
      ⟨(some 14), .mov (.tmp 84), none, [], true⟩]) (.seq (.regionM [[
      ⟨(some 85), .callV (.func 8) [], none, [], true⟩,
      ⟨(some 86), .mov (.tmp 85), none, [], true⟩,
      ⟨(some 87), .mov (.tmp 7), (some (86, true)), [], true⟩,
      ⟨(some 88), .bin .eql (so (.binOp .eql 25 (.tmp 87) (.const (.int .i64 3)) 25) 4) (.tmp 87) (.const (.int .i64 3)), (some (86, true)), [], true⟩,
      ⟨(some 89), .pick (.tmp 86) (.tmp 88) (.const (.bool false)), none, [], true⟩,
      ⟨(some 90), .mov (.tmp 89), none, [], true⟩,
      ⟨(some 91), .mov (.tmp 9), (some (90, true)), [], true⟩,
      ⟨(some 92), .bin .eql (so (.binOp .eql 25 (.tmp 91) (.const (.int .i64 3)) 25) 4) (.tmp 91) (.const (.int .i64 3)), (some (90, true)), [], true⟩,
      ⟨(some 93), .pick (.tmp 90) (.tmp 92) (.const (.bool false)), none, [], true⟩,
      ⟨(some 94), .mov (.tmp 93), none, [], true⟩,
      ⟨(some 95), .mov (.tmp 4), (some (94, true)), [], false⟩,
      ⟨(some 97), .load (some 37) (.tmp 2), (some (94, true)), [], false⟩,
      ⟨(some 98), .load (some 37) (.tmp 1), (some (94, true)), [], false⟩,
      ⟨(some 96), .callV (.func 18) [(.tmp 95)], (some (94, true)), [((some 98), .load (some 37) (.tmp 1), (some (94, true))), ((some 97), .load (some 37) (.tmp 2), (some (94, true)))], false⟩,
      ⟨(some 99), .buildSlice 38 (z32 ++ ((.int .u8 0) :: ((.int .u8 0) :: ((.int .u8 0) :: ((.int .u8 0) :: ((.int .u64 0) :: (z32 ++ [(.int .u8 0), (.int .u8 0), (.int .u8 0), (.int .u8 0), (.int .u64 0)]))))))) 2 [(0, 37, (.tmp 97)), (37, 37, (.tmp 98))], (some (94, true)), [((some 95), .mov (.tmp 4), (some (94, true)))], false⟩,
      ⟨(some 100), .callV (.func 21) [(.tmp 96), (.tmp 99)], (some (94, true)), [], true⟩,
      ⟨(some 101), .pick (.tmp 94) (.tmp 100) (.const (.bool false)), none, [], true⟩,
      ⟨(some 102), .mov (.tmp 101), none, [], true⟩,
      ⟨(some 103), .mov (.tmp 4), (some (102, true)), [], false⟩,
      ⟨(some 104), .build z32 [], (some (102, true)), [], false⟩,
      ⟨(some 106), .build [(.int .u8 0), (.int .u8 0), (.int .u8 0), (.int .u8 0)] [(3, 1, (.const (.int .u8 1)))], (some (102, true)), [], false⟩,
      ⟨(some 105), .callV (.func 16) [(.tmp 103), (.tmp 104)], (some (102, true)), [((some 106), .build [(.int .u8 0), (.int .u8 0), (.int .u8 0), (.int .u8 0)] [(3, 1, (.const (.int .u8 1)))], (some (102, true)))], false⟩,
      ⟨(some 107), .buildSlice 33 [(.int .u8 0), (.int .u8 0), (.int .u8 0), (.int .u8 0)] 1 [(0, 4, (.tmp 106))], (some (102, true)), [((some 104), .build z32 [], (some (102, true))), ((some 103), .mov (.tmp 4), (some (102, true)))], false⟩,
      ⟨(some 108), .callV (.func 22) [(.tmp 105), (.tmp 107)], (some (102, true)), [], true⟩,
      ⟨(some 109), .pick (.tmp 102) (.tmp 108) (.const (.bool false)), none, [], true⟩,
      ⟨(some 110), .mov (.tmp 109), none, [], true⟩,
      ⟨(some 111), .buildSlice 5 [(.int .u8 0), (.int .u8 0)] 2 [(0, 1, (.const (.int .u8 1))), (1, 1, (.const (.int .u8 2)))], (some (110, true)), [], true⟩,
      ⟨(some 112), .callV (.func 23) [(.tmp 111), (.const (.int .i64 6)), (.const (.int .i64 2))], (some (110, true)), [], true⟩,
      ⟨(some 113), .pick (.tmp 110) (.tmp 112) (.const (.bool false)), none, [], true⟩,
      ⟨(some 114), .mov (.tmp 113), none, [], true⟩,
      ⟨(some 115), .mov (.tmp 14), (some (114, true)), [], true⟩,
      ⟨(some 116), .callV (.func 23) [(.tmp 115), (.const (.int .i64 9)), (.const (.int .i64 46))], (some (114, true)), [], true⟩,
      ⟨(some 117), .pick (.tmp 114) (.tmp 116) (.const (.bool false)), none, [], true⟩,
      ⟨(some 0), .mov (.tmp 117), none, [], true⟩],
    [
      ⟨(some 85), .callV (.func 8) [], none, [], true⟩,
      ⟨(some 86), .mov (.tmp 85), none, [], true⟩,
      ⟨(some 87), .mov (.tmp 7), (some (86, true)), [], true⟩,
      ⟨(some 88), .bin .eql (so (.binOp .eql 25 (.tmp 87) (.const (.int .i64 3)) 25) 4) (.tmp 87) (.const (.int .i64 3)), (some (86, true)), [], true⟩,
      ⟨(some 89), .pick (.tmp 86) (.tmp 88) (.const (.bool false)), none, [], true⟩,
      ⟨(some 90), .mov (.tmp 89), none, [], true⟩,
      ⟨(some 91), .mov (.tmp 9), (some (90, true)), [], true⟩,
      ⟨(some 92), .bin .eql (so (.binOp .eql 25 (.tmp 91) (.const (.int .i64 3)) 25) 4) (.tmp 91) (.const (.int .i64 3)), (some (90, true)), [], true⟩,
      ⟨(some 93), .pick (.tmp 90) (.tmp 92) (.const (.bool false)), none, [], true⟩,
      ⟨(some 94), .mov (.tmp 93), none, [], true⟩,
      ⟨(some 95), .mov (.tmp 4), (some (94, true)), [], false⟩,
      ⟨(some 97), .load (some 37) (.tmp 2), (some (94, true)), [], false⟩,
      ⟨(some 98), .load (some 37) (.tmp 1), (some (94, true)), [], false⟩,
      ⟨(some 96), .callV (.func 18) [(.tmp 95)], (some (94, true)), [((some 98), .load (some 37) (.tmp 1), (some (94, true))), ((some 97), .load (some 37) (.tmp 2), (some (94, true)))], false⟩,
      ⟨(some 99), .buildSlice 38 (z32 ++ ((.int .u8 0) :: ((.int .u8 0) :: ((.int .u8 0) :: ((.int .u8 0) :: ((.int .u64 0) :: (z32 ++ [(.int .u8 0), (.int .u8 0), (.int .u8 0), (.int .u8 0), (.int .u64 0)]))))))) 2 [(0, 37, (.tmp 97)), (37, 37, (.tmp 98))], (some (94, true)), [((some 95), .mov (.tmp 4), (some (94, true)))], false⟩,
      ⟨(some 100), .callV (.func 21) [(.tmp 96), (.tmp 99)], (some (94, true)), [], true⟩,
      ⟨(some 101), .pick (.tmp 94) (.tmp 100) (.const (.bool false)), none, [], true⟩,
      ⟨(some 102), .mov (.tmp 101), none, [], true⟩,
      ⟨(some 103), .mov (.tmp 4), (some (102, true)), [], false⟩,
      ⟨(some 104), .build z32 [], (some (102, true)), [], false⟩,
      ⟨(some 106), .build [(.int .u8 0), (.int .u8 0), (.int .u8 0), (.int .u8 0)] [(3, 1, (.const (.int .u8 1)))], (some (102, true)), [], false⟩,
      ⟨(some 107), .buildSlice 33 [(.int .u8 0), (.int .u8 0), (.int .u8 0), (.int .u8 0)] 1 [(0, 4, (.tmp 106))], (some (102, true)), [((some 104), .build z32 [], (some (102, true))), ((some 103), .mov (.tmp 4), (some (102, true)))], false⟩,
      ⟨(some 105), .callV (.func 16) [(.tmp 103), (.tmp 104)], (some (102, true)), [((some 106), .build [(.int .u8 0), (.int .u8 0), (.int .u8 0), (.int .u8 0)] [(3, 1, (.const (.int .u8 1)))], (some (102, true)))], false⟩,
      ⟨(some 108), .callV (.func 22) [(.tmp 105), (.tmp 107)], (some (102, true)), [], true⟩,
      ⟨(some 109), .pick (.tmp 102) (.tmp 108) (.const (.bool false)), none, [], true⟩,
      ⟨(some 110), .mov (.tmp 109), none, [], true⟩,
      ⟨(some 111), .buildSlice 5 [(.int .u8 0), (.int .u8 0)] 2 [(0, 1, (.const (.int .u8 1))), (1, 1, (.const (.int .u8 2)))], (some (110, true)), [], true⟩,
      ⟨(some 112), .callV (.func 23) [(.tmp 111), (.const (.int .i64 6)), (.const (.int .i64 2))], (some (110, true)), [], true⟩,
      ⟨(some 113), .pick (.tmp 110) (.tmp 112) (.const (.bool false)), none, [], true⟩,
      ⟨(some 114), .mov (.tmp 113), none, [], true⟩,
      ⟨(some 115), .mov (.tmp 14), (some (114, true)), [], true⟩,
      ⟨(some 116), .callV (.func 23) [(.tmp 115), (.const (.int .i64 9)), (.const (.int .i64 46))], (some (114, true)), [], true⟩,
      ⟨(some 117), .pick (.tmp 114) (.tmp 116) (.const (.bool false)), none, [], true⟩,
      ⟨(some 0), .mov (.tmp 117), none, [], true⟩],
    [
      ⟨(some 85), .callV (.func 8) [], none, [], true⟩,
      ⟨(some 86), .mov (.tmp 85), none, [], true⟩,
      ⟨(some 87), .mov (.tmp 7), (some (86, true)), [], true⟩,
      ⟨(some 88), .bin .eql (so (.binOp .eql 25 (.tmp 87) (.const (.int .i64 3)) 25) 4) (.tmp 87) (.const (.int .i64 3)), (some (86, true)), [], true⟩,
      ⟨(some 89), .pick (.tmp 86) (.tmp 88) (.const (.bool false)), none, [], true⟩,
      ⟨(some 90), .mov (.tmp 89), none, [], true⟩,
      ⟨(some 91), .mov (.tmp 9), (some (90, true)), [], true⟩,
      ⟨(some 92), .bin .eql (so (.binOp .eql 25 (.tmp 91) (.const (.int .i64 3)) 25) 4) (.tmp 91) (.const (.int .i64 3)), (some (90, true)), [], true⟩,
      ⟨(some 93), .pick (.tmp 90) (.tmp 92) (.const (.bool false)), none, [], true⟩,
      ⟨(some 94), .mov (.tmp 93), none, [], true⟩,
      ⟨(some 95), .mov (.tmp 4), (some (94, true)), [], false⟩,
      ⟨(some 97), .load (some 37) (.tmp 2), (some (94, true)), [], false⟩,
      ⟨(some 98), .load (some 37) (.tmp 1), (some (94, true)), [], false⟩,
      ⟨(some 99), .buildSlice 38 (z32 ++ ((.int .u8 0) :: ((.int .u8 0) :: ((.int .u8 0) :: ((.int .u8 0) :: ((.int .u64 0) :: (z32 ++ [(.int .u8 0), (.int .u8 0), (.int .u8 0), (.int .u8 0), (.int .u64 0)]))))))) 2 [(0, 37, (.tmp 97)), (37, 37, (.tmp 98))], (some (94, true)), [((some 95), .mov (.tmp 4), (some (94, true)))], false⟩,
      ⟨(some 96), .callV (.func 18) [(.tmp 95)], (some (94, true)), [((some 98), .load (some 37) (.tmp 1), (some (94, true))), ((some 97), .load (some 37) (.tmp 2), (some (94, true)))], false⟩,
      ⟨(some 100), .callV (.func 21) [(.tmp 96), (.tmp 99)], (some (94, true)), [], true⟩,
      ⟨(some 101), .pick (.tmp 94) (.tmp 100) (.const (.bool false)), none, [], true⟩,
      ⟨(some 102), .mov (.tmp 101), none, [], true⟩,
      ⟨(some 103), .mov (.tmp 4), (some (102, true)), [], false⟩,
      ⟨(some 104), .build z32 [], (some (102, true)), [], false⟩,
      ⟨(some 106), .build [(.int .u8 0), (.int .u8 0), (.int .u8 0), (.int .u8 0)] [(3, 1, (.const (.int .u8 1)))], (some (102, true)), [], false⟩,
      ⟨(some 105), .callV (.func 16) [(.tmp 103), (.tmp 104)], (some (102, true)), [((some 106), .build [(.int .u8 0), (.int .u8 0), (.int .u8 0), (.int .u8 0)] [(3, 1, (.const (.int .u8 1)))], (some (102, true)))], false⟩,
      ⟨(some 107), .buildSlice 33 [(.int .u8 0), (.int .u8 0), (.int .u8 0), (.int .u8 0)] 1 [(0, 4, (.tmp 106))], (some (102, true)), [((some 104), .build z32 [], (some (102, true))), ((some 103), .mov (.tmp 4), (some (102, true)))], false⟩,
      ⟨(some 108), .callV (.func 22) [(.tmp 105), (.tmp 107)], (some (102, true)), [], true⟩,
      ⟨(some 109), .pick (.tmp 102) (.tmp 108) (.const (.bool false)), none, [], true⟩,
      ⟨(some 110), .mov (.tmp 109), none, [], true⟩,
      ⟨(some 111), .buildSlice 5 [(.int .u8 0), (.int .u8 0)] 2 [(0, 1, (.const (.int .u8 1))), (1, 1, (.const (.int .u8 2)))], (some (110, true)), [], true⟩,
      ⟨(some 112), .callV (.func 23) [(.tmp 111), (.const (.int .i64 6)), (.const (.int .i64 2))], (some (110, true)), [], true⟩,
      ⟨(some 113), .pick (.tmp 110) (.tmp 112) (.const (.bool false)), none, [], true⟩,
      ⟨(some 114), .mov (.tmp 113), none, [], true⟩,
      ⟨(some 115), .mov (.tmp 14), (some (114, true)), [], true⟩,
      ⟨(some 116), .callV (.func 23) [(.tmp 115), (.const (.int .i64 9)), (.const (.int .i64 46))], (some (114, true)), [], true⟩,
      ⟨(some 117), .pick (.tmp 114) (.tmp 116) (.const (.bool false)), none, [], true⟩,
      ⟨(some 0), .mov (.tmp 117), none, [], true⟩],
    [
      ⟨(some 85), .callV (.func 8) [], none, [], true⟩,
      ⟨(some 86), .mov (.tmp 85), none, [], true⟩,
      ⟨(some 87), .mov (.tmp 7), (some (86, true)), [], true⟩,
      ⟨(some 88), .bin .eql (so (.binOp .eql 25 (.tmp 87) (.const (.int .i64 3)) 25) 4) (.tmp 87) (.const (.int .i64 3)), (some (86, true)), [], true⟩,
      ⟨(some 89), .pick (.tmp 86) (.tmp 88) (.const (.bool false)), none, [], true⟩,
      ⟨(some 90), .mov (.tmp 89), none, [], true⟩,
      ⟨(some 91), .mov (.tmp 9), (some (90, true)), [], true⟩,
      ⟨(some 92), .bin .eql (so (.binOp .eql 25 (.tmp 91) (.const (.int .i64 3)) 25) 4) (.tmp 91) (.const (.int .i64 3)), (some (90, true)), [], true⟩,
      ⟨(some 93), .pick (.tmp 90) (.tmp 92) (.const (.bool false)), none, [], true⟩,
      ⟨(some 94), .mov (.tmp 93), none, [], true⟩,
      ⟨(some 95), .mov (.tmp 4), (some (94, true)), [], false⟩,
      ⟨(some 97), .load (some 37) (.tmp 2), (some (94, true)), [], false⟩,
      ⟨(some 98), .load (some 37) (.tmp 1), (some (94, true)), [], false⟩,
      ⟨(some 99), .buildSlice 38 (z32 ++ ((.int .u8 0) :: ((.int .u8 0) :: ((.int .u8 0) :: ((.int .u8 0) :: ((.int .u64 0) :: (z32 ++ [(.int .u8 0), (.int .u8 0), (.int .u8 0), (.int .u8 0), (.int .u64 0)]))))))) 2 [(0, 37, (.tmp 97)), (37, 37, (.tmp 98))], (some (94, true)), [((some 95), .mov (.tmp 4), (some (94, true)))], false⟩,
      ⟨(some 96), .callV (.func 18) [(.tmp 95)], (some (94, true)), [((some 98), .load (some 37) (.tmp 1), (some (94, true))), ((some 97), .load (some 37) (.tmp 2), (some (94, true)))], false⟩,
      ⟨(some 100), .callV (.func 21) [(.tmp 96), (.tmp 99)], (some (94, true)), [], true⟩,
      ⟨(some 101), .pick (.tmp 94) (.tmp 100) (.const (.bool false)), none, [], true⟩,
      ⟨(some 102), .mov (.tmp 101), none, [], true⟩,
      ⟨(some 103), .mov (.tmp 4), (some (102, true)), [], false⟩,
      ⟨(some 104), .build z32 [], (some (102, true)), [], false⟩,
      ⟨(some 106), .build [(.int .u8 0), (.int .u8 0), (.int .u8 0), (.int .u8 0)] [(3, 1, (.const (.int .u8 1)))], (some (102, true)), [], false⟩,
      ⟨(some 107), .buildSlice 33 [(.int .u8 0), (.int .u8 0), (.int .u8 0), (.int .u8 0)] 1 [(0, 4, (.tmp 106))], (some (102, true)), [((some 104), .build z32 [], (some (102, true))), ((some 103), .mov (.tmp 4), (some (102, true)))], false⟩,
      ⟨(some 105), .callV (.func 16) [(.tmp 103), (.tmp 104)], (some (102, true)), [((some 106), .build [(.int .u8 0), (.int .u8 0), (.int .u8 0), (.int .u8 0)] [(3, 1, (.const (.int .u8 1)))], (some (102, true)))], false⟩,
      ⟨(some 108), .callV (.func 22) [(.tmp 105), (.tmp 107)], (some (102, true)), [], true⟩,
      ⟨(some 109), .pick (.tmp 102) (.tmp 108) (.const (.bool false)), none, [], true⟩,
      ⟨(some 110), .mov (.tmp 109), none, [], true⟩,
      ⟨(some 111), .buildSlice 5 [(.int .u8 0), (.int .u8 0)] 2 [(0, 1, (.const (.int .u8 1))), (1, 1, (.const (.int .u8 2)))], (some (110, true)), [], true⟩,
      ⟨(some 112), .callV (.func 23) [(.tmp 111), (.const (.int .i64 6)), (.const (.int .i64 2))], (some (110, true)), [], true⟩,
      ⟨(some 113), .pick (.tmp 110) (.tmp 112) (.const (.bool false)), none, [], true⟩,
      ⟨(some 114), .mov (.tmp 113), none, [], true⟩,
      ⟨(some 115), .mov (.tmp 14), (some (114, true)), [], true⟩,
      ⟨(some 116), .callV (.func 23) [(.tmp 115), (.const (.int .i64 9)), (.const (.int .i64 46))], (some (114, true)), [], true⟩,
      ⟨(some 117), .pick (.tmp 114) (.tmp 116) (.const (.bool false)), none, [], true⟩,
      ⟨(some 0), .mov (.tmp 117), none, [], true⟩]]) .ret))))))))))))
def zkQ : AFunc := ⟨118, [(0, none)], zkQ_c, none⟩
theorem zkQ_t0 : tableOf Try.prog 5 = some zkQ := by kernel_rfl
abbrev fn_zmQ : FuncId := 8
def zmQ_c : ACode :=
  (.seq (.region [
      ⟨(some 0), .mov (.const (.bool false)), none, [], false⟩]) (.seq (.region [
      ⟨(some 7), .callV (.func 19) [], none, [], false⟩,
      ⟨(some 6), .mov (.tmp 7), none, [], false⟩,
      ⟨(some 8), .extract 0 (.tmp 6), none, [], false⟩,
      ⟨(some 9), .extract 1 (.tmp 6), none, [], false⟩,
      ⟨(some 10), .extract 2 (.tmp 6), none, [], false⟩,
      ⟨(some 1), .alloc 38 (z32 ++ [(.int .u8 0), (.int .u8 0), (.int .u8 0), (.int .u8 0), (.int .u64 0)]), none, [], false⟩,
      ⟨(some 2), .alloc 38 (z32 ++ [(.int .u8 0), (.int .u8 0), (.int .u8 0), (.int .u8 0), (.int .u64 0)]), none, [], false⟩,
      ⟨(some 3), .alloc 38 (z32 ++ [(.int .u8 0), (.int .u8 0), (.int .u8 0), (.int .u8 0), (.int .u64 0)]), none, [], false⟩,
      ⟨none, .store 37 (.tmp 1) (.tmp 8), none, [], false⟩,
      ⟨none, .store 37 (.tmp 2) (.tmp 9), none, [], false⟩,
      ⟨none, .store 37 (.tmp 3) (.tmp 10), none, [], false⟩]) (.seq (.region [
      ⟨(some 12), .callV (.func 9) [(.const (.int .i64 2))], none, [], false⟩,
      ⟨(some 11), .mov (.tmp 12), none, [], false⟩,
      ⟨(some 13), .extract 0 (.tmp 11), none, [], false⟩,
      ⟨(some 14), .extract 1 (.tmp 11), none, [], false⟩,
      ⟨(some 4), .mov (.tmp 13), none, [], false⟩,
      ⟨(some 5), .mov (.tmp 14), none, [], false⟩]) (.seq (.region [
      ⟨(some 15), .mov (.tmp 5), none, [], false⟩,
      ⟨(some 16), .bin .eql (so (.binOp .eql 25 (.tmp 15) (.const (.int .i64 0)) 25) 4) (.tmp 15) (.const (.int .i64 0)), none, [], false⟩,
      ⟨(some 17), .mov (.tmp 16), none, [], false⟩,
      ⟨(some 18), .mov (.tmp 4), (some (17, true)), [], false⟩,
      ⟨(some 19), .eq .ptr true (so (.binOp .neq 24 (.tmp 18) (.const (.pointer none)) 24) 4) (.tmp 18) (.const (.pointer none)), (some (17, true)), [], false⟩,
      ⟨(some 20), .pick (.tmp 17) (.tmp 19) (.const (.bool false)), none, [], false⟩,
      ⟨(some 21), .mov (.tmp 20), none, [], false⟩,
      ⟨(some 22), .mov (.tmp 4), (some (21, true)), [], false⟩,
      ⟨(some 23), .load (some 37) (.tmp 1), (some (21, true)), [], false⟩,
      ⟨(some 24), .callV (.func 11) [(.tmp 22), (.tmp 23)], (some (21, true)), [], false⟩,
      ⟨(some 25), .bin .eql (so (.binOp .eql 25 (.tmp 24) (.const (.int .i64 0)) 25) 4) (.tmp 24) (.const (.int .i64 0)), (some (21, true)), [], false⟩,
      ⟨(some 26), .pick (.tmp 21) (.tmp 25) (.const (.bool false)), none, [], false⟩,
      ⟨(some 27), .mov (.tmp 26), none, [], false⟩,
      ⟨(some 28), .mov (.tmp 4), (some (27, true)), [], false⟩,
      ⟨(some 29), .load (some 37) (.tmp 1), (some (27, true)), [], false⟩,
      ⟨(some 30), .callV (.func 11) [(.tmp 28), (.tmp 29)], (some (27, true)), [], false⟩,
      ⟨(some 31), .bin .eql (so (.binOp .eql 25 (.tmp 30) (.const (.int .i64 8)) 25) 4) (.tmp 30) (.const (.int .i64 8)), (some (27, true)), [], false⟩,
      ⟨(some 32), .pick (.tmp 27) (.tmp 31) (.const (.bool false)), none, [], false⟩,
      ⟨(some 33), .mov (.tmp 32), none, [], false⟩,
      ⟨(some 34), .mov (.tmp 4), (some (33, true)), [], false⟩,
      ⟨(some 35), .load (some 37) (.tmp 2), (some (33, true)), [], false⟩,
      ⟨(some 36), .callV (.func 11) [(.tmp 34), (.tmp 35)], (some (33, true)), [], false⟩,
      ⟨(some 37), .bin .eql (so (.binOp .eql 25 (.tmp 36) (.const (.int .i64 0)) 25) 4) (.tmp 36) (.const (.int .i64 0)), (some (33, true)), [], false⟩,
      ⟨(some 38), .pick (.tmp 33) (.tmp 37) (.const (.bool false)), none, [], false⟩,
      ⟨(some 39), .mov (.tmp 38), none, [], false⟩,
      ⟨(some 40), .mov (.tmp 4), (some (39, true)), [], false⟩,
      ⟨(some 41), .load (some 37) (.tmp 3), (some (39, true)), [], false⟩,
      ⟨(some 42), .callV (.func 11) [(.tmp 40), (.tmp 41)], (some (39, true)), [], false⟩,
      ⟨(some 43), .bin .eql (so (.binOp .eql 25 (.tmp 42) (.const (.int .i64 7)) 25) 4) (.tmp 42) (.const (.int .i64 7)), (some (39, true)), [], false⟩,
      ⟨(some 44), .pick (.tmp 39) (.tmp 43) (.const (.bool false)), none, [], false⟩,
      ⟨(some 45), .mov (.tmp 44), none, [], false⟩,
      ⟨(some 46), .mov (.tmp 4), (some (45, true)), [], false⟩,
      ⟨(some 47), .load (some 37) (.tmp 2), (some (45, true)), [], false⟩,
      ⟨(some 48), .callV (.func 15) [(.tmp 46), (.tmp 47)], (some (45, true)), [], false⟩,
      ⟨(some 49), .pick (.tmp 45) (.tmp 48) (.const (.bool false)), none, [], false⟩,
      ⟨(some 50), .mov (.tmp 49), none, [], false⟩,
      ⟨(some 51), .mov (.tmp 4), (some (50, true)), [], false⟩,
      ⟨(some 52), .load (some 37) (.tmp 3), (some (50, true)), [], false⟩,
      ⟨(some 53), .callV (.func 15) [(.tmp 51), (.tmp 52)], (some (50, true)), [], false⟩,
      ⟨(some 54), .raw (so (.unOp .not 4 (.tmp 53)) 4), (some (50, true)), [], false⟩,
      ⟨(some 55), .pick (.tmp 50) (.tmp 54) (.const (.bool false)), none, [], false⟩,
      ⟨(some 56), .mov (.tmp 55), none, [], false⟩,
      ⟨(some 57), .mov (.tmp 4), (some (56, true)), [], false⟩,
      ⟨(some 58), .callV (.func 17) [(.tmp 57)], (some (56, true)), [], false⟩,
      ⟨(some 59), .bin .eql (so (.binOp .eql 3 (.tmp 58) (.const (.int .i64 2)) 3) 4) (.tmp 58) (.const (.int .i64 2)), (some (56, true)), [], false⟩,
      ⟨(some 60), .pick (.tmp 56) (.tmp 59) (.const (.bool false)), none, [], false⟩,
      ⟨(some 0), .mov (.tmp 60), none, [], false⟩]) .ret))))
def zmQ : AFunc := ⟨61, [(0, none)], zmQ_c, none⟩
theorem zmQ_t0 : tableOf Try.prog 8 = some zmQ := by kernel_rfl
def zpQ_c : ACode :=
  (.seq (.region [
      ⟨(some 0), .alloc 38 (z32 ++ [(.int .u8 0), (.int .u8 0), (.int .u8 0), (.int .u8 0), (.int .u64 0)]), none, [], false⟩,
      ⟨(some 1), .alloc 38 (z32 ++ [(.int .u8 0), (.int .u8 0), (.int .u8 0), (.int .u8 0), (.int .u64 0)]), none, [], false⟩,
      ⟨(some 2), .alloc 38 (z32 ++ [(.int .u8 0), (.int .u8 0), (.int .u8 0), (.int .u8 0), (.int .u64 0)]), none, [], false⟩]) (.seq (.region [
      ⟨(some 3), .build [(.int .u8 0), (.int .u8 0), (.int .u8 0), (.int .u8 0)] [(3, 1, (.const (.int .u8 1)))], none, [], false⟩,
      ⟨(some 4), .build (z32 ++ [(.int .u8 0), (.int .u8 0), (.int .u8 0), (.int .u8 0), (.int .u64 0)]) [(0, 4, (.tmp 3)), (36, 1, (.const (.int .u64 7)))], none, [], false⟩,
      ⟨(some 5), .build [(.int .u8 0), (.int .u8 0), (.int .u8 0), (.int .u8 0)] [(3, 1, (.const (.int .u8 1)))], none, [], false⟩,
      ⟨(some 6), .build (z32 ++ [(.int .u8 0), (.int .u8 0), (.int .u8 0), (.int .u8 0), (.int .u64 0)]) [(0, 4, (.tmp 5)), (36, 1, (.const (.int .u64 5)))], none, [], false⟩,
      ⟨(some 7), .build [(.int .u8 0), (.int .u8 0), (.int .u8 0), (.int .u8 0)] [(3, 1, (.const (.int .u8 2)))], none, [], false⟩,
      ⟨(some 8), .build (z32 ++ [(.int .u8 0), (.int .u8 0), (.int .u8 0), (.int .u8 0), (.int .u64 0)]) [(0, 4, (.tmp 7)), (36, 1, (.const (.int .u64 1)))], none, [], false⟩,
      ⟨none, .store 37 (.tmp 0) (.tmp 4), none, [], false⟩,
      ⟨none, .store 37 (.tmp 1) (.tmp 6), none, [], false⟩,
      ⟨none, .store 37 (.tmp 2) (.tmp 8), none, [], false⟩]) .ret))
def zpQ : AFunc := ⟨9, [(0, some (some 37)), (1, some (some 37)), (2, some (some 37))], zpQ_c, none⟩
theorem zpQ_t0 : tableOf Try.prog 19 = some zpQ := by kernel_rfl
def zqQ_c : ACode :=
  (.seq (.region [
      ⟨(some 6), .mov (.const (.bool false)), none, [], false⟩]) (.seq (.region [
      ⟨(some 10), .mov (.tmp 0), none, [], false⟩,
      ⟨(some 11), .callV (.func 25) [(.tmp 10)], none, [], false⟩,
      ⟨(some 9), .mov (.tmp 11), none, [], false⟩,
      ⟨(some 12), .extract 0 (.tmp 9), none, [], false⟩,
      ⟨(some 13), .extract 1 (.tmp 9), none, [], false⟩,
      ⟨(some 8), .alloc 62 [(.int .i64 0), (.int .i64 0)], none, [], false⟩,
      ⟨(some 7), .mov (.tmp 12), none, [], false⟩,
      ⟨none, .store 2 (.tmp 8) (.tmp 13), none, [], false⟩]) (.seq (.region [
      ⟨(some 14), .mov (.tmp 7), none, [], false⟩,
      ⟨(some 15), .eq .ptr false (so (.binOp .eql 24 (.tmp 14) (.const (.pointer none)) 24) 4) (.tmp 14) (.const (.pointer none)), none, [], false⟩,
      ⟨(some 16), .mov (.tmp 15), none, [], false⟩,
      ⟨(some 17), .load (some 2) (.tmp 8), (some (16, true)), [], false⟩,
      ⟨(some 18), .mov (.tmp 1), (some (16, true)), [], false⟩,
      ⟨(some 19), .mov (.tmp 2), (some (16, true)), [], false⟩,
      ⟨(some 20), .build [(.int .i64 0), (.int .i64 0)] [(0, 1, (.tmp 18)), (1, 1, (.tmp 19))], (some (16, true)), [], false⟩,
      ⟨(some 21), .bin .eql (so (.binOp .eql 62 (.tmp 17) (.tmp 20) 62) 4) (.tmp 17) (.tmp 20), (some (16, true)), [], false⟩,
      ⟨(some 22), .pick (.tmp 16) (.tmp 21) (.const (.bool false)), none, [], false⟩,
      ⟨(some 6), .mov (.tmp 22), none, [], false⟩]) .ret)))
def zqQ : AFunc := ⟨23, [(6, none)], zqQ_c, none⟩
theorem zqQ_t0 : tableOf Try.prog 23 = some zqQ := by kernel_rfl
def table : TT :=
  (.node (.node (.node (.node (.node (.node (.node .nil 5 zkQ .nil) 8 zmQ .nil) 9 zmbQ (.node (.node .nil 11 znbQ .nil) 14 zobQ .nil)) 15 zpbQ (.node (.node (.node .nil 16 zsbQ .nil) 17 zqbQ .nil) 18 zrbQ (.node .nil 19 zpQ .nil))) 20 zgQ (.node (.node (.node (.node .nil 21 zhQ .nil) 22 znQ .nil) 23 zqQ (.node (.node .nil 25 zlbQ .nil) 26 ztbQ .nil)) 32 zvcQ (.node (.node (.node .nil 33 zndQ .nil) 34 zwbQ .nil) 35 zmdQ (.node .nil 36 zldQ .nil)))) 37 zodQ (.node (.node (.node (.node (.node .nil 38 zkdQ .nil) 39 zubQ .nil) 40 zucQ (.node (.node .nil 41 zddQ .nil) 42 zedQ .nil)) 43 zadQ (.node (.node (.node .nil 44 zxcQ .nil) 45 zfdQ .nil) 46 zwcQ (.node .nil 47 zxbQ .nil))) 54 zpdQ (.node (.node (.node (.node .nil 55 zsdQ .nil) 56 zecQ .nil) 57 zgbQ (.node .nil 58 zaeQ .nil)) 59 zzbQ (.node (.node (.node .nil 60 zvbQ .nil) 61 zvdQ .nil) 62 zidQ (.node .nil 63 zudQ .nil))))) 64 zbdQ (.node (.node (.node (.node (.node (.node .nil 65 zydQ .nil) 66 zcdQ .nil) 67 ztdQ (.node (.node .nil 68 zycQ .nil) 69 zxdQ .nil)) 70 zzcQ (.node (.node (.node .nil 71 zwdQ .nil) 72 zgdQ .nil) 73 zzdQ (.node .nil 74 zqdQ .nil))) 75 zcQ (.node (.node (.node (.node .nil 76 zaQ .nil) 77 zbQ .nil) 81 zbcQ (.node .nil 82 zacQ .nil)) 83 zdcQ (.node (.node (.node .nil 84 zhbQ .nil) 85 zhdQ .nil) 86 zrdQ (.node .nil 87 zjdQ .nil)))) 89 zdQ (.node (.node (.node (.node (.node .nil 90 zccQ .nil) 91 zybQ .nil) 92 zqcQ (.node (.node .nil 93 zibQ .nil) 94 zicQ .nil)) 95 zhcQ (.node (.node (.node .nil 96 zfcQ .nil) 97 zgcQ .nil) 98 zrcQ (.node .nil 99 zncQ .nil))) 100 zpcQ (.node (.node (.node (.node .nil 101 zocQ .nil) 102 zjbQ .nil) 103 zkbQ (.node .nil 104 zscQ .nil)) 105 zlcQ (.node (.node (.node .nil 106 ztcQ .nil) 107 zjcQ .nil) 108 zkcQ (.node .nil 109 zmcQ .nil))))))
theorem table_all : table.All Try.prog := ⟨zbdQ_t0, ⟨zodQ_t0, ⟨zgQ_t0, ⟨zpbQ_t0, ⟨zmbQ_t0, ⟨zmQ_t0, ⟨zkQ_t0, trivial, trivial⟩, trivial⟩, ⟨zobQ_t0, ⟨znbQ_t0, trivial, trivial⟩, trivial⟩⟩, ⟨zrbQ_t0, ⟨zqbQ_t0, ⟨zsbQ_t0, trivial, trivial⟩, trivial⟩, ⟨zpQ_t0, trivial, trivial⟩⟩⟩, ⟨zvcQ_t0, ⟨zqQ_t0, ⟨znQ_t0, ⟨zhQ_t0, trivial, trivial⟩, trivial⟩, ⟨ztbQ_t0, ⟨zlbQ_t0, trivial, trivial⟩, trivial⟩⟩, ⟨zmdQ_t0, ⟨zwbQ_t0, ⟨zndQ_t0, trivial, trivial⟩, trivial⟩, ⟨zldQ_t0, trivial, trivial⟩⟩⟩⟩, ⟨zpdQ_t0, ⟨zadQ_t0, ⟨zucQ_t0, ⟨zubQ_t0, ⟨zkdQ_t0, trivial, trivial⟩, trivial⟩, ⟨zedQ_t0, ⟨zddQ_t0, trivial, trivial⟩, trivial⟩⟩, ⟨zwcQ_t0, ⟨zfdQ_t0, ⟨zxcQ_t0, trivial, trivial⟩, trivial⟩, ⟨zxbQ_t0, trivial, trivial⟩⟩⟩, ⟨zzbQ_t0, ⟨zgbQ_t0, ⟨zecQ_t0, ⟨zsdQ_t0, trivial, trivial⟩, trivial⟩, ⟨zaeQ_t0, trivial, trivial⟩⟩, ⟨zidQ_t0, ⟨zvdQ_t0, ⟨zvbQ_t0, trivial, trivial⟩, trivial⟩, ⟨zudQ_t0, trivial, trivial⟩⟩⟩⟩⟩, ⟨zdQ_t0, ⟨zcQ_t0, ⟨zzcQ_t0, ⟨ztdQ_t0, ⟨zcdQ_t0, ⟨zydQ_t0, trivial, trivial⟩, trivial⟩, ⟨zxdQ_t0, ⟨zycQ_t0, trivial, trivial⟩, trivial⟩⟩, ⟨zzdQ_t0, ⟨zgdQ_t0, ⟨zwdQ_t0, trivial, trivial⟩, trivial⟩, ⟨zqdQ_t0, trivial, trivial⟩⟩⟩, ⟨zdcQ_t0, ⟨zbcQ_t0, ⟨zbQ_t0, ⟨zaQ_t0, trivial, trivial⟩, trivial⟩, ⟨zacQ_t0, trivial, trivial⟩⟩, ⟨zrdQ_t0, ⟨zhdQ_t0, ⟨zhbQ_t0, trivial, trivial⟩, trivial⟩, ⟨zjdQ_t0, trivial, trivial⟩⟩⟩⟩, ⟨zpcQ_t0, ⟨zhcQ_t0, ⟨zqcQ_t0, ⟨zybQ_t0, ⟨zccQ_t0, trivial, trivial⟩, trivial⟩, ⟨zicQ_t0, ⟨zibQ_t0, trivial, trivial⟩, trivial⟩⟩, ⟨zrcQ_t0, ⟨zgcQ_t0, ⟨zfcQ_t0, trivial, trivial⟩, trivial⟩, ⟨zncQ_t0, trivial, trivial⟩⟩⟩, ⟨zlcQ_t0, ⟨zkbQ_t0, ⟨zjbQ_t0, ⟨zocQ_t0, trivial, trivial⟩, trivial⟩, ⟨zscQ_t0, trivial, trivial⟩⟩, ⟨zkcQ_t0, ⟨zjcQ_t0, ⟨ztcQ_t0, trivial, trivial⟩, trivial⟩, ⟨zmcQ_t0, trivial, trivial⟩⟩⟩⟩⟩⟩
end Go.Proofs.Ytagmnpeilgnbdaa.R

namespace Go.Proofs.Ytagmnpeilgnbdaa.R
open Go Go.Vm
set_option maxRecDepth 100000
def rep (n : Nat) (v : Value) (l : List Value) : List Value := List.replicate n v ++ l
def ob_1 : AObj := .cells ((.int .u8 0) :: (.int .u8 0) :: (.int .u8 0) :: (.int .u8 1) :: rep 32 (.int .u8 0) ((.int .u64 7) :: [])) 0
def ob_2 : AObj := .cells ((.int .u8 0) :: (.int .u8 0) :: (.int .u8 0) :: (.int .u8 2) :: rep 32 (.int .u8 0) ((.int .u64 1) :: [])) 0
def ob_3 : AObj := .cells ((.int .u8 0) :: (.int .u8 0) :: (.int .u8 0) :: (.int .u8 1) :: rep 32 (.int .u8 0) ((.int .u64 5) :: [])) 0
def va_4 : Value := .agg ⟨(.int .u8 0) :: (.int .u8 0) :: (.int .u8 0) :: (.int .u8 1) :: rep 32 (.int .u8 0) ((.int .u64 7) :: [])⟩
def va_5 : Value := .agg ⟨(.int .u8 0) :: (.int .u8 0) :: (.int .u8 0) :: (.int .u8 1) :: rep 32 (.int .u8 0) ((.int .u64 5) :: [])⟩
def ob_6 : AObj := .cells ((.int .u8 1) :: (.int .u8 2) :: (.int .u8 0) :: (.int .u8 0) :: (.int .u8 0) :: (.int .u8 1) :: rep 39 (.int .u8 0) ((.int .u8 5) :: (.int .u8 0) :: (.int .u8 0) :: (.int .u8 0) :: (.int .u8 1) :: rep 39 (.int .u8 0) ((.int .u8 7) :: []))) 1
def ob_7 : AObj := .cells ((.int .u8 1) :: (.int .u8 2) :: (.int .u8 0) :: (.int .u8 0) :: (.int .u8 0) :: (.int .u8 1) :: rep 39 (.int .u8 0) ((.int .u8 7) :: (.int .u8 0) :: (.int .u8 0) :: (.int .u8 0) :: (.int .u8 1) :: rep 39 (.int .u8 0) ((.int .u8 5) :: []))) 1
def ob_8 : AObj := .cells ((.int .u8 0) :: (.int .u8 0) :: (.int .u8 0) :: (.int .u8 1) :: rep 32 (.int .u8 0) ((.int .u64 5) :: (.int .u8 0) :: (.int .u8 0) :: (.int .u8 0) :: (.int .u8 1) :: rep 32 (.int .u8 0) ((.int .u64 7) :: []))) 37
def ob_9 : AObj := .cells ((.int .u8 0) :: (.int .u8 0) :: (.int .u8 0) :: (.int .u8 1) :: rep 32 (.int .u8 0) ((.int .u64 5) :: (.int .u8 0) :: (.int .u8 0) :: (.int .u8 0) :: (.int .u8 1) :: rep 32 (.int .u8 0) ((.int .u64 7) :: []))) 0
def ob_10 : AObj := .cells ((.int .u8 0) :: (.int .u8 0) :: (.int .u8 0) :: (.int .u8 1) :: []) 4
def ob_11 : AObj := .cells ((.int .u8 0) :: (.int .u8 0) :: (.int .u8 0) :: (.int .u8 1) :: []) 0
def tr_1 : Tr := .node .dead .nil .nil
def tr_2 : Tr := .node .dead tr_1 .nil
def tr_3 : Tr := .node ob_2 (.node (.map [] 0) tr_1 .nil) tr_2
def tr_4 : Tr := .node .dead (.node (.cells [(.int .u8 0)] 1) .nil .nil) .nil
def tr_5 : Tr := .node ob_3 (.node ob_1 (.node (.cells [(.int .i64 2), (.map (some 7))] 0) tr_1 .nil) tr_4) (.node ob_2 tr_2 tr_1)
def tr_6 : Tr := .node .dead (.node (.cells [(.int .u8 0)] 0) .nil .nil) .nil
def tr_7 : Tr := .node ob_3 tr_2 tr_6
def tr_8 : Tr := .node ob_1 (.node (.cells [(.int .i64 2), (.map (some 7))] 0) tr_1 tr_1) tr_4
def tr_9 : Tr := .node .dead (.node ob_1 (.node ob_2 (.node (.map [⟨va_4, (.agg ⟨[]⟩), 0⟩] 1) tr_1 tr_1) tr_2) tr_7) (.node ob_3 tr_8 (.node ob_2 tr_2 tr_2))
def tr_10 : Tr := .node .dead tr_1 tr_1
def tr_11 : Tr := .node .dead (.node ob_1 (.node ob_2 (.node (.map [⟨va_4, (.agg ⟨[]⟩), 0⟩, ⟨va_5, (.agg ⟨[]⟩), 1⟩] 2) tr_1 tr_1) tr_10) (.node ob_3 tr_10 tr_6)) (.node ob_3 tr_8 (.node ob_2 tr_10 tr_2))
def tr_12 : Tr := .node .dead tr_2 tr_2
def tr_13 : Tr := .node .dead tr_2 tr_1
def tr_14 : Tr := .node (.map [⟨va_4, (.agg ⟨[]⟩), 0⟩, ⟨va_5, (.agg ⟨[]⟩), 1⟩] 2) tr_12 tr_13
def tr_15 : Tr := .node .dead tr_13 tr_13
def tr_16 : Tr := .node .dead (.node (.cells [(.int .u8 0)] 0) tr_2 tr_1) tr_13
def tr_17 : Tr := .node ob_6 .nil .nil
def tr_18 : Tr := .node .dead tr_17 .nil
def tr_19 : Tr := .node (.cells [(.int .i64 2), (.map (some 7))] 0) (.node .dead tr_2 tr_18) tr_13
def tr_20 : Tr := .node .dead tr_12 tr_13
def tr_21 : Tr := .node (.cells [] 0) .nil .nil
def tr_22 : Tr := .node .dead tr_21 .nil
def tr_23 : Tr := .node ob_7 .nil .nil
def tr_24 : Tr := .node .dead tr_23 .nil
def tr_25 : Tr := .node .dead tr_10 tr_2
def tr_26 : Tr := .node .dead tr_25 tr_25
def tr_27 : Tr := .node ob_2 (.node (.map [⟨va_4, (.agg ⟨[]⟩), 0⟩, ⟨va_5, (.agg ⟨[]⟩), 1⟩] 2) tr_25 tr_25) tr_26
def tr_28 : Tr := .node .dead (.node .dead tr_10 tr_22) tr_25
def tr_29 : Tr := .node (.cells [(.int .u8 0)] 0) tr_10 tr_2
def tr_30 : Tr := .node ob_3 (.node ob_1 (.node (.cells [(.int .i64 2), (.map (some 7))] 0) (.node .dead tr_10 tr_18) tr_25) (.node .dead (.node (.cells [(.int .u8 0)] 1) tr_10 tr_24) tr_25)) (.node ob_2 tr_26 (.node .dead tr_25 tr_12))
def tr_31 : Tr := .node .dead (.node ob_1 tr_27 (.node ob_3 tr_28 (.node .dead tr_29 tr_12))) tr_30
def tr_32 : Tr := .node .dead tr_13 tr_10
def tr_33 : Tr := .node .dead tr_10 tr_10
def tr_34 : Tr := .node (.map [⟨va_4, (.agg ⟨[]⟩), 0⟩, ⟨va_5, (.agg ⟨[]⟩), 1⟩] 2) tr_32 tr_33
def tr_35 : Tr := .node .dead tr_33 tr_33
def tr_36 : Tr := .node .dead (.node .dead tr_13 (.node .dead tr_21 tr_1)) tr_33
def tr_37 : Tr := .node (.cells [(.int .u8 0)] 0) tr_10 tr_10
def tr_38 : Tr := .node ob_3 tr_36 (.node .dead tr_37 tr_33)
def tr_39 : Tr := .node (.cells [(.int .i64 2), (.map (some 7))] 0) (.node .dead tr_13 (.node .dead tr_17 tr_1)) tr_33
def tr_40 : Tr := .node .dead tr_23 tr_1
def tr_41 : Tr := .node ob_1 tr_39 (.node .dead (.node (.cells [(.int .u8 0)] 1) tr_10 tr_40) tr_33)
def tr_42 : Tr := .node ob_8 .nil .nil
def tr_43 : Tr := .node .dead tr_42 .nil
def tr_44 : Tr := .node .dead tr_43 tr_1
def tr_45 : Tr := .node .dead (.node .dead tr_44 tr_10) tr_33
def tr_46 : Tr := .node ob_2 tr_45 tr_35
def tr_47 : Tr := .node ob_3 tr_41 tr_46
def tr_48 : Tr := .node ob_9 .nil .nil
def tr_49 : Tr := .node .dead tr_48 .nil
def tr_50 : Tr := .node .dead tr_49 tr_1
def tr_51 : Tr := .node ob_1 (.node ob_2 tr_34 (.node .dead (.node .dead tr_50 tr_10) tr_33)) tr_38
def tr_52 : Tr := .node (.map [⟨va_4, (.agg ⟨[]⟩), 0⟩, ⟨va_5, (.agg ⟨[]⟩), 1⟩] 2) tr_20 tr_15
def tr_53 : Tr := .node ob_2 tr_52 (.node .dead (.node .dead tr_50 tr_13) tr_15)
def tr_54 : Tr := .node (.cells [] 0) tr_1 .nil
def tr_55 : Tr := .node .dead tr_54 tr_1
def tr_56 : Tr := .node .dead (.node .dead tr_13 tr_55) tr_15
def tr_57 : Tr := .node (.cells [(.int .u8 0)] 0) tr_13 tr_13
def tr_58 : Tr := .node ob_10 .nil .nil
def tr_59 : Tr := .node .dead (.node .dead tr_58 .nil) tr_1
def tr_60 : Tr := .node .dead tr_13 tr_59
def tr_61 : Tr := .node .dead tr_57 tr_60
def tr_62 : Tr := .node ob_6 tr_1 .nil
def tr_63 : Tr := .node .dead tr_62 tr_1
def tr_64 : Tr := .node ob_7 tr_1 .nil
def tr_65 : Tr := .node .dead tr_64 tr_1
def tr_66 : Tr := .node .dead (.node (.cells [(.int .u8 0)] 1) tr_13 tr_65) tr_15
def tr_67 : Tr := .node ob_1 (.node (.cells [(.int .i64 2), (.map (some 7))] 0) (.node .dead tr_13 tr_63) tr_15) tr_66
def tr_68 : Tr := .node .dead (.node .dead tr_44 tr_13) tr_15
def tr_69 : Tr := .node .dead tr_15 tr_15
def tr_70 : Tr := .node ob_2 tr_68 tr_69
def tr_71 : Tr := .node (.cells [(.int .u8 1), (.int .u8 2)] 0) .nil .nil
def tr_72 : Tr := .node .dead tr_2 (.node .dead tr_71 .nil)
def tr_73 : Tr := .node .dead (.node .dead tr_72 tr_55) tr_15
def tr_74 : Tr := .node ob_11 .nil .nil
def tr_75 : Tr := .node .dead tr_74 .nil
def tr_76 : Tr := .node .dead tr_2 tr_75
def tr_77 : Tr := .node ob_1 (.node (.cells [(.int .i64 2), (.map (some 7))] 0) (.node .dead tr_76 tr_63) tr_15) tr_66
def tr_78 : Tr := .node .dead tr_12 tr_12
def tr_79 : Tr := .node (.map [⟨va_4, (.agg ⟨[]⟩), 0⟩, ⟨va_5, (.agg ⟨[]⟩), 1⟩] 2) tr_78 tr_78
def tr_80 : Tr := .node ob_2 tr_79 (.node .dead (.node .dead (.node .dead tr_49 tr_2) tr_12) tr_20)
def tr_81 : Tr := .node .dead (.node .dead tr_72 (.node .dead tr_54 tr_2)) tr_20
def tr_82 : Tr := .node (.cells [(.int .u8 0)] 0) tr_12 tr_12
def tr_83 : Tr := .node .dead tr_12 tr_59
def tr_84 : Tr := .node ob_1 tr_80 (.node ob_3 tr_81 (.node .dead tr_82 tr_83))
def tr_85 : Tr := .node .dead tr_62 tr_2
def tr_86 : Tr := .node .dead tr_76 tr_85
def tr_87 : Tr := .node .dead tr_64 tr_2
def tr_88 : Tr := .node .dead (.node (.cells [(.int .u8 0)] 1) tr_12 tr_87) tr_20
def tr_89 : Tr := .node ob_1 (.node (.cells [(.int .i64 2), (.map (some 7))] 0) tr_86 tr_20) tr_88
def tr_90 : Tr := .node .dead (.node .dead (.node .dead tr_43 tr_2) tr_12) tr_20
def tr_91 : Tr := .node .dead tr_78 tr_20
def tr_92 : Tr := .node ob_2 tr_90 tr_91
def tr_93 : Tr := .node .dead (.node (.cells [(.int .i64 6), (.int .i64 2)] 0) .nil .nil) .nil
def tr_94 : Tr := .node .dead tr_12 (.node .dead tr_2 tr_93)
def tr_95 : Tr := .node ob_1 (.node (.cells [(.int .i64 2), (.map (some 7))] 0) tr_86 tr_94) tr_88
def tr_96 : Tr := .node .dead tr_33 tr_25
def tr_97 : Tr := .node (.map [⟨va_4, (.agg ⟨[]⟩), 0⟩, ⟨va_5, (.agg ⟨[]⟩), 1⟩] 2) tr_96 tr_26
def tr_98 : Tr := .node ob_2 tr_97 (.node .dead (.node .dead (.node .dead (.node .dead tr_48 tr_1) tr_10) tr_25) tr_26)
def tr_99 : Tr := .node .dead (.node .dead (.node .dead tr_10 (.node .dead tr_71 tr_1)) (.node .dead (.node (.cells [] 0) tr_1 tr_1) tr_2)) tr_26
def tr_100 : Tr := .node (.cells [(.int .u8 0)] 0) tr_25 tr_25
def tr_101 : Tr := .node .dead (.node .dead tr_58 tr_1) tr_2
def tr_102 : Tr := .node .dead tr_25 tr_101
def tr_103 : Tr := .node .dead tr_74 tr_1
def tr_104 : Tr := .node .dead (.node ob_6 tr_1 tr_1) tr_2
def tr_105 : Tr := .node .dead tr_25 (.node .dead tr_10 tr_93)
def tr_106 : Tr := .node .dead (.node ob_7 tr_1 tr_1) tr_2
def tr_107 : Tr := .node ob_1 (.node (.cells [(.int .i64 2), (.map (some 7))] 0) (.node .dead (.node .dead tr_10 tr_103) tr_104) tr_105) (.node .dead (.node (.cells [(.int .u8 0)] 1) tr_33 tr_106) tr_26)
def tr_108 : Tr := .node .dead (.node .dead (.node .dead (.node .dead tr_42 tr_1) tr_10) tr_25) tr_26
def tr_109 : Tr := .node .dead tr_26 tr_26
def tr_110 : Tr := .node .dead tr_75 tr_1
def tr_111 : Tr := .node ob_1 tr_39 (.node .dead (.node (.cells [(.int .u8 0)] 1) tr_110 tr_40) tr_33)
def tr_112 : Tr := .node .dead tr_57 tr_15
def tr_113 : Tr := .node ob_1 (.node (.cells [(.int .i64 2), (.map (some 7))] 0) (.node .dead tr_12 tr_63) tr_15) (.node .dead (.node (.cells [(.int .u8 0)] 1) tr_110 tr_65) tr_15)
def tr_114 : Tr := .node .dead tr_15 tr_60
def tr_115 : Tr := .node ob_3 tr_113 (.node ob_2 tr_68 tr_114)
def tr_116 : Tr := .node ob_1 tr_80 (.node ob_3 tr_81 (.node .dead tr_82 tr_20))
def tr_117 : Tr := .node .dead tr_12 tr_85
def tr_118 : Tr := .node .dead (.node (.cells [(.int .u8 0)] 1) (.node .dead tr_75 tr_2) tr_87) tr_20
def tr_119 : Tr := .node ob_1 (.node (.cells [(.int .i64 2), (.map (some 7))] 0) tr_117 tr_20) tr_118
def tr_120 : Tr := .node .dead tr_78 tr_83
def tr_121 : Tr := .node ob_2 tr_90 tr_120
def tr_122 : Tr := .node ob_1 (.node (.cells [(.int .i64 2), (.map (some 7))] 0) tr_117 tr_94) tr_118
def tr_123 : Tr := .node ob_1 (.node (.cells [(.int .i64 2), (.map (some 7))] 0) (.node .dead tr_33 tr_104) tr_105) (.node .dead (.node (.cells [(.int .u8 0)] 1) (.node .dead tr_103 tr_10) tr_106) tr_26)
def tr_124 : Tr := .node .dead tr_26 tr_102
def tr_125 : Tr := .node .dead tr_1 tr_48
def tr_126 : Tr := .node ob_1 (.node ob_2 tr_34 tr_45) (.node ob_3 tr_36 (.node .dead tr_37 (.node .dead tr_125 tr_10)))
def tr_127 : Tr := .node ob_2 (.node .dead tr_32 tr_33) tr_35
def tr_128 : Tr := .node .dead tr_126 (.node ob_3 tr_41 tr_127)
def tr_129 : Tr := .node ob_2 tr_52 tr_68
def tr_130 : Tr := .node .dead tr_2 tr_48
def tr_131 : Tr := .node .dead tr_57 (.node .dead tr_130 tr_59)
def tr_132 : Tr := .node ob_2 tr_69 tr_69
def tr_133 : Tr := .node ob_2 tr_79 tr_90
def tr_134 : Tr := .node ob_9 tr_1 .nil
def tr_135 : Tr := .node .dead tr_2 tr_134
def tr_136 : Tr := .node ob_1 tr_133 (.node ob_3 tr_81 (.node .dead tr_82 (.node .dead tr_135 tr_59)))
def tr_137 : Tr := .node ob_2 tr_91 tr_91
def tr_138 : Tr := .node ob_2 tr_97 tr_108
def tr_139 : Tr := .node .dead tr_10 tr_134
def tr_140 : Tr := .node .dead tr_96 tr_26
def tr_141 : Tr := .node .dead tr_57 (.node .dead tr_130 tr_13)
def tr_142 : Tr := .node ob_3 tr_113 (.node ob_2 tr_69 tr_114)
def tr_143 : Tr := .node ob_1 tr_133 (.node ob_3 tr_81 (.node .dead tr_82 (.node .dead tr_135 tr_13)))
def tr_144 : Tr := .node ob_2 tr_91 tr_120
end Go.Proofs.Ytagmnpeilgnbdaa.R

namespace Go.Proofs.Ytagmnpeilgnbdaa.R
open Go Go.Vm
set_option maxRecDepth 100000
def ma_1 : List Value := [(.pointer (some ⟨8, 0, none⟩))]
def mh_1 : Heap := ⟨9, (.node .dead (.node ob_1 (.node ob_2 (.node (.map [] 0) .nil .nil) .nil) (.node ob_3 .nil .nil)) (.node ob_3 (.node ob_1 (.node (.cells [(.int .i64 2), (.map (some 7))] 0) .nil .nil) .nil) (.node ob_2 .nil .nil)))⟩
def mo_1 : List CO := [(.ret (.tuple ⟨[(.slice (some ⟨20, 0, (some 0)⟩) 1 1), (.int .i64 0)]⟩) ⟨21, (.node .dead (.node ob_1 tr_3 (.node ob_3 tr_2 tr_1)) tr_5)⟩)]
theorem me_1 : fewOK (xcall Try.prog table.get 1000 60 (.fn 14) ma_1 mh_1) mo_1 = true := by kernel_rfl
def ma_2 : List Value := [(.pointer (some ⟨8, 0, none⟩)), va_4]
def mh_2 : Heap := ⟨22, (.node .dead (.node ob_1 tr_3 tr_7) tr_5)⟩
def mo_2 : List CO := [(.ret (.int .i64 0) ⟨25, tr_9⟩)]
theorem me_2 : fewOK (xcall Try.prog table.get 1000 60 (.fn 11) ma_2 mh_2) mo_2 = true := by kernel_rfl
def ma_3 : List Value := [(.pointer (some ⟨8, 0, none⟩)), va_5]
def mh_3 : Heap := ⟨25, tr_9⟩
def mo_3 : List CO := [(.ret (.int .i64 0) ⟨28, tr_11⟩)]
theorem me_3 : fewOK (xcall Try.prog table.get 1000 60 (.fn 11) ma_3 mh_3) mo_3 = true := by kernel_rfl
def ma_4 : List Value := [(.pointer (some ⟨8, 0, none⟩))]
def mh_4 : Heap := ⟨28, tr_11⟩
def mo_4 : List CO := [(.ret (.tuple ⟨[(.slice (some ⟨80, 0, (some 0)⟩) 90 90), (.int .i64 0)]⟩) ⟨81, (.node .dead (.node ob_1 (.node ob_2 tr_14 tr_15) (.node ob_3 tr_15 tr_16)) (.node ob_3 (.node ob_1 tr_19 (.node .dead (.node (.cells [(.int .u8 0)] 1) tr_2 tr_1) tr_13)) (.node ob_2 tr_15 tr_15)))⟩)]
theorem me_4 : fewOK (xcall Try.prog table.get 1000 60 (.fn 14) ma_4 mh_4) mo_4 = true := by kernel_rfl
end Go.Proofs.Ytagmnpeilgnbdaa.R

namespace Go.Proofs.Ytagmnpeilgnbdaa.R
open Go Go.Vm
set_option maxRecDepth 100000
def ma_5 : List Value := []
def mh_5 : Heap := ⟨85, (.node .dead (.node ob_1 (.node ob_2 tr_14 tr_20) (.node ob_3 (.node .dead (.node .dead tr_2 tr_22) tr_13) tr_16)) (.node ob_3 (.node ob_1 tr_19 (.node .dead (.node (.cells [(.int .u8 0)] 1) tr_2 tr_24) tr_13)) (.node ob_2 tr_20 tr_15)))⟩
def mo_5 : List CO := [(.ret (.bool true) ⟨109, tr_31⟩)]
theorem me_5 : fewOK (xcall Try.prog table.get 1000 60 (.fn 8) ma_5 mh_5) mo_5 = true := by kernel_rfl
def ma_6 : List Value := [(.pointer (some ⟨8, 0, none⟩))]
def mh_6 : Heap := ⟨109, tr_31⟩
def mo_6 : List CO := [(.ret (.slice (some ⟨130, 0, (some 0)⟩) 2 2) ⟨131, (.node .dead (.node ob_1 (.node ob_2 tr_34 tr_35) tr_38) tr_47)⟩)]
theorem me_6 : fewOK (xcall Try.prog table.get 1000 60 (.fn 18) ma_6 mh_6) mo_6 = true := by kernel_rfl
def ma_7 : List Value := [(.pointer (some ⟨8, 0, none⟩)), (.agg ⟨z32⟩)]
def mh_7 : Heap := ⟨132, (.node .dead tr_51 tr_47)⟩
def mo_7 : List CO := [(.ret (.slice (some ⟨157, 0, (some 0)⟩) 1 1) ⟨160, (.node .dead (.node ob_1 tr_53 (.node ob_3 tr_56 tr_61)) (.node ob_3 tr_67 tr_70))⟩)]
theorem me_7 : fewOK (xcall Try.prog table.get 1000 60 (.fn 16) ma_7 mh_7) mo_7 = true := by kernel_rfl
def ma_8 : List Value := [(.slice (some ⟨161, 0, none⟩) 2 2)]
def mh_8 : Heap := ⟨162, (.node .dead (.node ob_1 tr_53 (.node ob_3 tr_73 tr_61)) (.node ob_3 tr_77 tr_70))⟩
def mo_8 : List CO := [(.ret (.tuple ⟨[(.pointer none), (.agg ⟨[(.int .i64 6), (.int .i64 2)]⟩)]⟩) ⟨184, (.node .dead tr_84 (.node ob_3 tr_89 tr_92))⟩)]
theorem me_8 : fewOK (xcall Try.prog table.get 1000 60 (.fn 25) ma_8 mh_8) mo_8 = true := by kernel_rfl
end Go.Proofs.Ytagmnpeilgnbdaa.R

namespace Go.Proofs.Ytagmnpeilgnbdaa.R
open Go Go.Vm
set_option maxRecDepth 100000
def ma_9 : List Value := [(.slice (some ⟨84, 0, (some 0)⟩) 90 90)]
def mh_9 : Heap := ⟨185, (.node .dead tr_84 (.node ob_3 tr_95 tr_92))⟩
def mo_9 : List CO := [(.ret (.tuple ⟨[(.pointer none), (.agg ⟨[(.int .i64 9), (.int .i64 46)]⟩)]⟩) ⟨229, (.node .dead (.node ob_1 tr_98 (.node ob_3 tr_99 (.node .dead tr_100 tr_102))) (.node ob_3 tr_107 (.node ob_2 tr_108 tr_109)))⟩)]
theorem me_9 : fewOK (xcall Try.prog table.get 1000 60 (.fn 25) ma_9 mh_9) mo_9 = true := by kernel_rfl
def ma_10 : List Value := [(.pointer (some ⟨8, 0, none⟩)), (.agg ⟨z32⟩)]
def mh_10 : Heap := ⟨133, (.node .dead tr_51 (.node ob_3 tr_111 tr_46))⟩
def mo_10 : List CO := [(.ret (.slice (some ⟨158, 0, (some 0)⟩) 1 1) ⟨161, (.node .dead (.node ob_1 tr_53 (.node ob_3 tr_56 tr_112)) tr_115)⟩)]
theorem me_10 : fewOK (xcall Try.prog table.get 1000 60 (.fn 16) ma_10 mh_10) mo_10 = true := by kernel_rfl
def ma_11 : List Value := [(.slice (some ⟨161, 0, none⟩) 2 2)]
def mh_11 : Heap := ⟨162, (.node .dead (.node ob_1 tr_53 (.node ob_3 tr_73 tr_112)) tr_115)⟩
def mo_11 : List CO := [(.ret (.tuple ⟨[(.pointer none), (.agg ⟨[(.int .i64 6), (.int .i64 2)]⟩)]⟩) ⟨184, (.node .dead tr_116 (.node ob_3 tr_119 tr_121))⟩)]
theorem me_11 : fewOK (xcall Try.prog table.get 1000 60 (.fn 25) ma_11 mh_11) mo_11 = true := by kernel_rfl
def ma_12 : List Value := [(.slice (some ⟨84, 0, (some 0)⟩) 90 90)]
def mh_12 : Heap := ⟨185, (.node .dead tr_116 (.node ob_3 tr_122 tr_121))⟩
def mo_12 : List CO := [(.ret (.tuple ⟨[(.pointer none), (.agg ⟨[(.int .i64 9), (.int .i64 46)]⟩)]⟩) ⟨229, (.node .dead (.node ob_1 tr_98 (.node ob_3 tr_99 (.node .dead tr_100 tr_26))) (.node ob_3 tr_123 (.node ob_2 tr_108 tr_124)))⟩)]
theorem me_12 : fewOK (xcall Try.prog table.get 1000 60 (.fn 25) ma_12 mh_12) mo_12 = true := by kernel_rfl
end Go.Proofs.Ytagmnpeilgnbdaa.R

namespace Go.Proofs.Ytagmnpeilgnbdaa.R
open Go Go.Vm
set_option maxRecDepth 100000
def ma_13 : List Value := [(.pointer (some ⟨8, 0, none⟩))]
def mh_13 : Heap := ⟨110, (.node .dead (.node ob_1 tr_27 (.node ob_3 tr_28 (.node .dead tr_29 (.node .dead tr_125 tr_2)))) tr_30)⟩
def mo_13 : List CO := [(.ret (.slice (some ⟨131, 0, (some 0)⟩) 2 2) ⟨132, tr_128⟩)]
theorem me_13 : fewOK (xcall Try.prog table.get 1000 60 (.fn 18) ma_13 mh_13) mo_13 = true := by kernel_rfl
def ma_14 : List Value := [(.pointer (some ⟨8, 0, none⟩)), (.agg ⟨z32⟩)]
def mh_14 : Heap := ⟨132, tr_128⟩
def mo_14 : List CO := [(.ret (.slice (some ⟨157, 0, (some 0)⟩) 1 1) ⟨160, (.node .dead (.node ob_1 tr_129 (.node ob_3 tr_56 tr_131)) (.node ob_3 tr_67 tr_132))⟩)]
theorem me_14 : fewOK (xcall Try.prog table.get 1000 60 (.fn 16) ma_14 mh_14) mo_14 = true := by kernel_rfl
def ma_15 : List Value := [(.slice (some ⟨161, 0, none⟩) 2 2)]
def mh_15 : Heap := ⟨162, (.node .dead (.node ob_1 tr_129 (.node ob_3 tr_73 tr_131)) (.node ob_3 tr_77 tr_132))⟩
def mo_15 : List CO := [(.ret (.tuple ⟨[(.pointer none), (.agg ⟨[(.int .i64 6), (.int .i64 2)]⟩)]⟩) ⟨184, (.node .dead tr_136 (.node ob_3 tr_89 tr_137))⟩)]
theorem me_15 : fewOK (xcall Try.prog table.get 1000 60 (.fn 25) ma_15 mh_15) mo_15 = true := by kernel_rfl
def ma_16 : List Value := [(.slice (some ⟨84, 0, (some 0)⟩) 90 90)]
def mh_16 : Heap := ⟨185, (.node .dead tr_136 (.node ob_3 tr_95 tr_137))⟩
def mo_16 : List CO := [(.ret (.tuple ⟨[(.pointer none), (.agg ⟨[(.int .i64 9), (.int .i64 46)]⟩)]⟩) ⟨229, (.node .dead (.node ob_1 tr_138 (.node ob_3 tr_99 (.node .dead tr_100 (.node .dead tr_139 tr_101)))) (.node ob_3 tr_107 (.node ob_2 tr_140 tr_109)))⟩)]
theorem me_16 : fewOK (xcall Try.prog table.get 1000 60 (.fn 25) ma_16 mh_16) mo_16 = true := by kernel_rfl
end Go.Proofs.Ytagmnpeilgnbdaa.R

namespace Go.Proofs.Ytagmnpeilgnbdaa.R
open Go Go.Vm
set_option maxRecDepth 100000
def ma_17 : List Value := [(.pointer (some ⟨8, 0, none⟩)), (.agg ⟨z32⟩)]
def mh_17 : Heap := ⟨133, (.node .dead tr_126 (.node ob_3 tr_111 tr_127))⟩
def mo_17 : List CO := [(.ret (.slice (some ⟨158, 0, (some 0)⟩) 1 1) ⟨161, (.node .dead (.node ob_1 tr_129 (.node ob_3 tr_56 tr_141)) tr_142)⟩)]
theorem me_17 : fewOK (xcall Try.prog table.get 1000 60 (.fn 16) ma_17 mh_17) mo_17 = true := by kernel_rfl
def ma_18 : List Value := [(.slice (some ⟨161, 0, none⟩) 2 2)]
def mh_18 : Heap := ⟨162, (.node .dead (.node ob_1 tr_129 (.node ob_3 tr_73 tr_141)) tr_142)⟩
def mo_18 : List CO := [(.ret (.tuple ⟨[(.pointer none), (.agg ⟨[(.int .i64 6), (.int .i64 2)]⟩)]⟩) ⟨184, (.node .dead tr_143 (.node ob_3 tr_119 tr_144))⟩)]
theorem me_18 : fewOK (xcall Try.prog table.get 1000 60 (.fn 25) ma_18 mh_18) mo_18 = true := by kernel_rfl
def ma_19 : List Value := [(.slice (some ⟨84, 0, (some 0)⟩) 90 90)]
def mh_19 : Heap := ⟨185, (.node .dead tr_143 (.node ob_3 tr_122 tr_144))⟩
def mo_19 : List CO := [(.ret (.tuple ⟨[(.pointer none), (.agg ⟨[(.int .i64 9), (.int .i64 46)]⟩)]⟩) ⟨229, (.node .dead (.node ob_1 tr_138 (.node ob_3 tr_99 (.node .dead tr_100 (.node .dead tr_139 tr_25)))) (.node ob_3 tr_123 (.node ob_2 tr_140 tr_124)))⟩)]
theorem me_19 : fewOK (xcall Try.prog table.get 1000 60 (.fn 25) ma_19 mh_19) mo_19 = true := by kernel_rfl
end Go.Proofs.Ytagmnpeilgnbdaa.R

namespace Go.Proofs.Ytagmnpeilgnbdaa.R
open Go Go.Vm
set_option maxRecDepth 100000
def memo_8 : Memo := [(ma_5, mh_5, mo_5)]
theorem memo_8_ok : MemoF Try.prog 8 memo_8 := MemoF.cons (TT.table_ok table_all) me_5 (MemoF.nil)
def memo_11 : Memo := [(ma_2, mh_2, mo_2), (ma_3, mh_3, mo_3)]
theorem memo_11_ok : MemoF Try.prog 11 memo_11 := MemoF.cons (TT.table_ok table_all) me_2 (MemoF.cons (TT.table_ok table_all) me_3 (MemoF.nil))
def memo_14 : Memo := [(ma_1, mh_1, mo_1), (ma_4, mh_4, mo_4)]
theorem memo_14_ok : MemoF Try.prog 14 memo_14 := MemoF.cons (TT.table_ok table_all) me_1 (MemoF.cons (TT.table_ok table_all) me_4 (MemoF.nil))
def memo_16 : Memo := [(ma_7, mh_7, mo_7), (ma_10, mh_10, mo_10), (ma_14, mh_14, mo_14), (ma_17, mh_17, mo_17)]
theorem memo_16_ok : MemoF Try.prog 16 memo_16 := MemoF.cons (TT.table_ok table_all) me_7 (MemoF.cons (TT.table_ok table_all) me_10 (MemoF.cons (TT.table_ok table_all) me_14 (MemoF.cons (TT.table_ok table_all) me_17 (MemoF.nil))))
def memo_18 : Memo := [(ma_6, mh_6, mo_6), (ma_13, mh_13, mo_13)]
theorem memo_18_ok : MemoF Try.prog 18 memo_18 := MemoF.cons (TT.table_ok table_all) me_6 (MemoF.cons (TT.table_ok table_all) me_13 (MemoF.nil))
def memo_25 : Memo := [(ma_8, mh_8, mo_8), (ma_9, mh_9, mo_9), (ma_11, mh_11, mo_11), (ma_12, mh_12, mo_12), (ma_15, mh_15, mo_15), (ma_16, mh_16, mo_16), (ma_18, mh_18, mo_18), (ma_19, mh_19, mo_19)]
theorem memo_25_ok : MemoF Try.prog 25 memo_25 := MemoF.cons (TT.table_ok table_all) me_8 (MemoF.cons (TT.table_ok table_all) me_9 (MemoF.cons (TT.table_ok table_all) me_11 (MemoF.cons (TT.table_ok table_all) me_12 (MemoF.cons (TT.table_ok table_all) me_15 (MemoF.cons (TT.table_ok table_all) me_16 (MemoF.cons (TT.table_ok table_all) me_18 (MemoF.cons (TT.table_ok table_all) me_19 (MemoF.nil))))))))
def tab : Table := (withMemo (withMemo (withMemo (withMemo (withMemo (withMemo table.get 8 memo_8) 11 memo_11) 14 memo_14) 16 memo_16) 18 memo_18) 25 memo_25)
theorem tab_ok : TableOK Try.prog tab := (withMemoF_ok (Checked.mixed Try.checked) (withMemoF_ok (Checked.mixed Try.checked) (withMemoF_ok (Checked.mixed Try.checked) (withMemoF_ok (Checked.mixed Try.checked) (withMemoF_ok (Checked.mixed Try.checked) (withMemoF_ok (Checked.mixed Try.checked) (TT.table_ok table_all) memo_8_ok) memo_11_ok) memo_14_ok) memo_16_ok) memo_18_ok) memo_25_ok)
end Go.Proofs.Ytagmnpeilgnbdaa.R

namespace Go.Proofs.Ytagmnpeilgnbdaa.A
open Go Go.Vm
set_option maxRecDepth 100000
theorem ran_5 : allTrue (xcall Try.prog R.tab 1000 60 (.fn 5) [] Heap.init) = true := by kernel_rfl
theorem has_5 : (tableOf Try.prog 5).isSome = true := by kernel_rfl
theorem ran_8 : allTrue (xcall Try.prog (tableOf Try.prog) 1000 60 (.fn 8) [] Heap.init) = true := by kernel_rfl
theorem has_8 : (tableOf Try.prog 8).isSome = true := by kernel_rfl
theorem known : KnownAll Try.prog prims := ⟨⟨Option.isSome_iff_exists.1 has_5, fun w => known_calls (Checked.mixed Try.checked) R.tab_ok ran_5 w⟩, ⟨⟨Option.isSome_iff_exists.1 has_8, fun w => known_calls (Checked.mixed Try.checked) tableOf_ok ran_8 w⟩, trivial⟩⟩
theorem T0_ok : TableOK Try.prog T0 := withKept_ok (withTrue_ok known) fun k hk => by simp at hk
end Go.Proofs.Ytagmnpeilgnbdaa.A
