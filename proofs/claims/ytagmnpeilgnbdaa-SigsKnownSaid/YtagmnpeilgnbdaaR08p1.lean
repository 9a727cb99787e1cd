/- Functions of the program, as the machine has them: written by a program of mine (GenVm.lean), each held against the given program by the kernel. -/
import Derived.Test.YtagmnpeilgnbdaaRows
import Derived.Test.YtagmnpeilgnbdaaVJ
set_option maxRecDepth 100000
set_option linter.unusedVariables false
namespace Go.Proofs.Ytagmnpeilgnbdaa.R
open Go Go.Vm

abbrev ty_internal_abi_BoundsErrorCode : TypeId := 6
abbrev ty_runtime_boundsError : TypeId := 8
abbrev ty_runtime_errorString : TypeId := 10
abbrev ty_runtime_plainError : TypeId := 11
abbrev ty_runtime_errorAddressString : TypeId := 14
abbrev ty_internal_runtime_maps_unhashableTypeError : TypeId := 19
abbrev ty_api_Errno : TypeId := 25
abbrev ty_api_Key : TypeId := 33
abbrev ty_api_Hash : TypeId := 35
abbrev ty_api_Sig : TypeId := 38
abbrev ty_sigs_Table : TypeId := 43
abbrev ty_api_Fault : TypeId := 62
abbrev ty_landfallref08_Table : TypeId := 67
abbrev ty_sigs_held : TypeId := 69
abbrev ty_sigs_sig : TypeId := 70
abbrev ty_iter_Seq_api_Key_ : TypeId := 84
abbrev ty_wire_Writer : TypeId := 97
abbrev ty_iter_Seq_sigs_sig_ : TypeId := 102
abbrev ty_wire_Reader : TypeId := 110
abbrev ty_landfallref04_Writer : TypeId := 129
abbrev ty_wire_wrong : TypeId := 147
abbrev ty_slices_sortedHint : TypeId := 150
abbrev ty_slices_xorshift : TypeId := 160
abbrev ty_runtime_TypeAssertionError : TypeId := 170
abbrev ty_runtime_PanicNilError : TypeId := 173
abbrev ty_internal_abi_TFlag : TypeId := 174
abbrev ty_internal_abi_Kind : TypeId := 175
abbrev ty_internal_abi_NameOff : TypeId := 178
abbrev ty_internal_abi_TypeOff : TypeId := 179
abbrev ty_internal_abi_Type : TypeId := 181
instance : IsIface Try.prog 20 := ⟨by kernel_rfl⟩
/-- functions that are known to come to true -/
abbrev prims : List FuncId := []
abbrev kepts : List FuncId := []
noncomputable def T0 : Table := withKept (withTrue Try.prog prims) kepts
instance : IsBoolT Try.prog 4 := ⟨by kernel_rfl⟩
instance : TLeaves Try.prog 7 (.i .i64 :: (.i .i64 :: (.b :: (.i .u8 :: [])))) := ⟨by kernel_rfl, by kernel_rfl, by kernel_rfl⟩
instance : TLeaves Try.prog 8 (.i .i64 :: (.i .i64 :: (.b :: (.i .u8 :: [])))) := ⟨by kernel_rfl, by kernel_rfl, by kernel_rfl⟩
instance : TLeaves Try.prog 32 (u8s 4) := ⟨by kernel_rfl, by kernel_rfl, by kernel_rfl⟩
instance : TLeaves Try.prog 33 (u8s 4) := ⟨by kernel_rfl, by kernel_rfl, by kernel_rfl⟩
instance : TLeaves Try.prog 34 (u8s 32) := ⟨by kernel_rfl, by kernel_rfl, by kernel_rfl⟩
instance : TLeaves Try.prog 35 (u8s 32) := ⟨by kernel_rfl, by kernel_rfl, by kernel_rfl⟩
instance : TLeaves Try.prog 37 (u8s 32 ++ (u8s 4 ++ (.i .u64 :: []))) := ⟨by kernel_rfl, by kernel_rfl, by kernel_rfl⟩
instance : TLeaves Try.prog 38 (u8s 32 ++ (u8s 4 ++ (.i .u64 :: []))) := ⟨by kernel_rfl, by kernel_rfl, by kernel_rfl⟩
instance : TLeaves Try.prog 61 (.i .i64 :: (.i .i64 :: [])) := ⟨by kernel_rfl, by kernel_rfl, by kernel_rfl⟩
instance : TLeaves Try.prog 62 (.i .i64 :: (.i .i64 :: [])) := ⟨by kernel_rfl, by kernel_rfl, by kernel_rfl⟩
instance : TLeaves Try.prog 70 (u8s 32 ++ (u8s 4 ++ (.i .u64 :: []))) := ⟨by kernel_rfl, by kernel_rfl, by kernel_rfl⟩
instance : TLeaves Try.prog 105 (u8s 4 ++ (u8s 4)) := ⟨by kernel_rfl, by kernel_rfl, by kernel_rfl⟩
instance : TLeaves Try.prog 134 (u8s 4 ++ (u8s 4 ++ (.i .u8 :: []))) := ⟨by kernel_rfl, by kernel_rfl, by kernel_rfl⟩
instance : TLeaves Try.prog 146 (.i .i64 :: (.i .i64 :: [])) := ⟨by kernel_rfl, by kernel_rfl, by kernel_rfl⟩
instance : TLeaves Try.prog 147 (.i .i64 :: (.i .i64 :: [])) := ⟨by kernel_rfl, by kernel_rfl, by kernel_rfl⟩

/-! 5 landfall/landfalllaw08.SigsKnown -/
abbrev fn_landfalllaw08_SigsKnown : FuncId := 5
noncomputable def landfalllaw08_SigsKnown_c : ACode :=
  (.seq (.region [
      ⟨(some 0), .mov (.const (.bool false)), none, [], false⟩]) (.seq (.region [
      ⟨(some 16), .callV (.func 19) [], none, [], false⟩,
      ⟨(some 15), .mov (.tmp 16), none, [], false⟩,
      ⟨(some 17), .extract 0 (.tmp 15), none, [], false⟩,
      ⟨(some 18), .extract 1 (.tmp 15), none, [], false⟩,
      ⟨(some 19), .extract 2 (.tmp 15), none, [], false⟩,
      ⟨(some 1), .alloc 38 (z32 ++ [(.int .u8 0), (.int .u8 0), (.int .u8 0), (.int .u8 0), (.int .u64 0)]), none, [], false⟩,
      ⟨(some 2), .alloc 38 (z32 ++ [(.int .u8 0), (.int .u8 0), (.int .u8 0), (.int .u8 0), (.int .u64 0)]), none, [], false⟩,
      ⟨(some 3), .alloc 38 (z32 ++ [(.int .u8 0), (.int .u8 0), (.int .u8 0), (.int .u8 0), (.int .u64 0)]), none, [], false⟩,
      ⟨none, .store 37 (.tmp 1) (.tmp 17), none, [], false⟩,
      ⟨none, .store 37 (.tmp 2) (.tmp 18), none, [], false⟩,
      ⟨none, .store 37 (.tmp 3) (.tmp 19), none, [], false⟩]) (.seq (.region [
      ⟨(some 21), .callV (.func 9) [(.const (.int .i64 2))], none, [], false⟩,
      ⟨(some 20), .mov (.tmp 21), none, [], false⟩,
      ⟨(some 22), .extract 0 (.tmp 20), none, [], false⟩,
      ⟨(some 23), .extract 1 (.tmp 20), none, [], false⟩,
      ⟨(some 4), .mov (.tmp 22), none, [], false⟩,
      ⟨(some 5), .mov (.tmp 23), none, [], false⟩]) (.seq (.region [
      ⟨(some 25), .callV (.func 9) [(.const (.int .i64 (-1)))], none, [], false⟩,
      ⟨(some 24), .mov (.tmp 25), none, [], false⟩,
      ⟨(some 26), .extract 0 (.tmp 24), none, [], false⟩,
      ⟨(some 27), .extract 1 (.tmp 24), none, [], false⟩,
      ⟨(some 6), .mov (.tmp 26), none, [], false⟩,
      ⟨(some 7), .mov (.tmp 27), none, [], false⟩]) (.seq (.region [
      ⟨(some 29), .callV (.func 9) [(.const (.int .i64 4097))], none, [], false⟩,
      ⟨(some 28), .mov (.tmp 29), none, [], false⟩,
      ⟨(some 30), .extract 0 (.tmp 28), none, [], false⟩,
      ⟨(some 31), .extract 1 (.tmp 28), none, [], false⟩,
      ⟨(some 8), .mov (.tmp 30), none, [], false⟩,
      ⟨(some 9), .mov (.tmp 31), none, [], false⟩]) (.seq (.seq (.region [
      ⟨(some 32), .mov (.tmp 5), none, [], false⟩,
      ⟨(some 33), .bin .neq (so (.binOp .neq 25 (.tmp 32) (.const (.int .i64 0)) 25) 4) (.tmp 32) (.const (.int .i64 0)), none, [], false⟩,
      ⟨(some 34), .mov (.tmp 33), none, [], false⟩,
      ⟨(some 35), .mov (.tmp 4), (some (34, false)), [], false⟩,
      ⟨(some 36), .eq .ptr false (so (.binOp .eql 24 (.tmp 35) (.const (.pointer none)) 24) 4) (.tmp 35) (.const (.pointer none)), (some (34, false)), [], false⟩,
      ⟨(some 37), .pick (.tmp 34) (.const (.bool true)) (.tmp 36), none, [], false⟩]) (.cond (.tmp 37)
    (.seq (.region [
      ⟨(some 0), .mov (.const (.bool false)), none, [], false⟩]) .ret)
    .skip)) (.seq (.region [
      ⟨(some 39), .mov (.tmp 4), none, [], false⟩,
      ⟨(some 40), .callV (.func 14) [(.tmp 39)], none, [], false⟩,
      ⟨(some 38), .mov (.tmp 40), none, [], false⟩,
      ⟨(some 41), .extract 0 (.tmp 38), none, [], false⟩,
      ⟨(some 42), .extract 1 (.tmp 38), none, [], false⟩,
      ⟨(some 10), .mov (.tmp 41), none, [], false⟩,
      ⟨(some 11), .mov (.tmp 42), none, [], false⟩]) (.seq (.seq (.region [
      ⟨(some 43), .mov (.tmp 11), none, [], false⟩,
      ⟨(some 44), .bin .neq (so (.binOp .neq 25 (.tmp 43) (.const (.int .i64 0)) 25) 4) (.tmp 43) (.const (.int .i64 0)), none, [], false⟩,
      ⟨(some 45), .mov (.tmp 44), none, [], false⟩,
      ⟨(some 46), .mov (.tmp 10), (some (45, false)), [], false⟩,
      ⟨(some 47), .buildSlice 5 [(.int .u8 0)] 1 [(0, 1, (.const (.int .u8 0)))], (some (45, false)), [], false⟩,
      ⟨(some 48), .callV (.func 20) [(.tmp 46), (.tmp 47)], (some (45, false)), [], false⟩,
      ⟨(some 49), .raw (so (.unOp .not 4 (.tmp 48)) 4), (some (45, false)), [], false⟩,
      ⟨(some 50), .pick (.tmp 45) (.const (.bool true)) (.tmp 49), none, [], false⟩,
      ⟨(some 51), .mov (.tmp 50), none, [], false⟩,
      ⟨(some 52), .mov (.tmp 4), (some (51, false)), [], false⟩,
      ⟨(some 53), .load (some 37) (.tmp 1), (some (51, false)), [], false⟩,
      ⟨(some 54), .callV (.func 11) [(.tmp 52), (.tmp 53)], (some (51, false)), [], false⟩,
      ⟨(some 55), .bin .neq (so (.binOp .neq 25 (.tmp 54) (.const (.int .i64 0)) 25) 4) (.tmp 54) (.const (.int .i64 0)), (some (51, false)), [], false⟩,
      ⟨(some 56), .pick (.tmp 51) (.const (.bool true)) (.tmp 55), none, [], false⟩,
      ⟨(some 57), .mov (.tmp 56), none, [], false⟩,
      ⟨(some 58), .mov (.tmp 4), (some (57, false)), [], false⟩,
      ⟨(some 59), .load (some 37) (.tmp 2), (some (57, false)), [], false⟩,
      ⟨(some 60), .callV (.func 11) [(.tmp 58), (.tmp 59)], (some (57, false)), [], false⟩,
      ⟨(some 61), .bin .neq (so (.binOp .neq 25 (.tmp 60) (.const (.int .i64 0)) 25) 4) (.tmp 60) (.const (.int .i64 0)), (some (57, false)), [], false⟩,
      ⟨(some 62), .pick (.tmp 57) (.const (.bool true)) (.tmp 61), none, [], false⟩]) (.cond (.tmp 62)
    (.seq (.region [
      ⟨(some 0), .mov (.const (.bool false)), none, [], false⟩]) .ret)
    .skip)) (.seq (.region [
      ⟨(some 64), .mov (.tmp 4), none, [], false⟩,
      ⟨(some 65), .callV (.func 14) [(.tmp 64)], none, [], false⟩,
      ⟨(some 63), .mov (.tmp 65), none, [], false⟩,
      ⟨(some 66), .extract 0 (.tmp 63), none, [], false⟩,
      ⟨(some 67), .extract 1 (.tmp 63), none, [], false⟩,
      ⟨(some 12), .mov (.tmp 66), none, [], false⟩,
      ⟨(some 13), .mov (.tmp 67), none, [], false⟩]) (.seq (.seq (.region [
      ⟨(some 68), .mov (.tmp 13), none, [], false⟩,
      ⟨(some 69), .bin .neq (so (.binOp .neq 25 (.tmp 68) (.const (.int .i64 0)) 25) 4) (.tmp 68) (.const (.int .i64 0)), none, [], false⟩,
      ⟨(some 70), .mov (.tmp 69), none, [], false⟩,
      ⟨(some 71), .mov (.tmp 12), (some (70, false)), [], false⟩,
      ⟨(some 72), .lenSl (.tmp 71), (some (70, false)), [], false⟩,
      ⟨(some 73), .bin .neq (so (.binOp .neq 3 (.tmp 72) (.const (.int .i64 90)) 3) 4) (.tmp 72) (.const (.int .i64 90)), (some (70, false)), [], false⟩,
      ⟨(some 74), .pick (.tmp 70) (.const (.bool true)) (.tmp 73), none, [], false⟩]) (.cond (.tmp 74)
    (.seq (.region [
      ⟨(some 0), .mov (.const (.bool false)), none, [], false⟩]) .ret)
    .skip)) (.seq (.regionD [
      ⟨(some 76), .mov (.tmp 12), none, [], false⟩,
      ⟨(some 77), .sliceSl 1 (.tmp 76) none (some (.const (.int .i64 2))) none, none, [], false⟩,
      ⟨(some 79), .mov (.tmp 12), none, [], false⟩,
      ⟨(some 80), .sliceSl 1 (.tmp 79) (some (.const (.int .i64 46))) none none, none, [], false⟩,
      ⟨(some 82), .mov (.tmp 12), none, [], false⟩,
      ⟨(some 83), .sliceSl 1 (.tmp 82) (some (.const (.int .i64 2))) (some (.const (.int .i64 46))) none, none, [], false⟩,
      ⟨(some 75), .buildSlice 5 [] 0 [], none, [((some 83), .sliceSl 1 (.tmp 82) (some (.const (.int .i64 2))) (some (.const (.int .i64 46))) none, none), ((some 82), .mov (.tmp 12), none), ((some 80), .sliceSl 1 (.tmp 79) (some (.const (.int .i64 46))) none none, none), ((some 79), .mov (.tmp 12), none), ((some 77), .sliceSl 1 (.tmp 76) none (some (.const (.int .i64 2))) none, none), ((some 76), .mov (.tmp 12), none)], false⟩,
      ⟨(some 78), .append 5 1 1 [(.int .u8 0)] false (.tmp 75) (.tmp 77), none, [((some 83), .sliceSl 1 (.tmp 82) (some (.const (.int .i64 2))) (some (.const (.int .i64 46))) none, none), ((some 82), .mov (.tmp 12), none), ((some 80), .sliceSl 1 (.tmp 79) (some (.const (.int .i64 46))) none none, none), ((some 79), .mov (.tmp 12), none)], false⟩,
      ⟨(some 81), .append 5 1 1 [(.int .u8 0)] false (.tmp 78) (.tmp 80), none, [((some 83), .sliceSl 1 (.tmp 82) (some (.const (.int .i64 2))) (some (.const (.int .i64 46))) none, none), ((some 82), .mov (.tmp 12), none)], false⟩,
      ⟨(some 84), .append 5 1 1 [(.int .u8 0)] false (.tmp 81) (.tmp 83), none, [], true⟩,
      ⟨(some 14), .mov (.tmp 84), none, [], true⟩]) (.seq (.regionM [[
      ⟨(some 85), .callV (.func 8) [], none, [], true⟩,
      ⟨(some 86), .mov (.tmp 85), none, [], true⟩,
      ⟨(some 87), .mov (.tmp 7), (some (86, true)), [], true⟩,
      ⟨(some 88), .bin .eql (so (.binOp .eql 25 (.tmp 87) (.const (.int .i64 3)) 25) 4) (.tmp 87) (.const (.int .i64 3)), (some (86, true)), [], true⟩,
      ⟨(some 89), .pick (.tmp 86) (.tmp 88) (.const (.bool false)), none, [], true⟩,
      ⟨(some 90), .mov (.tmp 89), none, [], true⟩,
      ⟨(some 91), .mov (.tmp 9), (some (90, true)), [], true⟩,
      ⟨(some 92), .bin .eql (so (.binOp .eql 25 (.tmp 91) (.const (.int .i64 3)) 25) 4) (.tmp 91) (.const (.int .i64 3)), (some (90, true)), [], true⟩,
      ⟨(some 93), .pick (.tmp 90) (.tmp 92) (.const (.bool false)), none, [], true⟩,
      ⟨(some 94), .mov (.tmp 93), none, [], true⟩,
      ⟨(some 95), .mov (.tmp 4), (some (94, true)), [], false⟩,
      ⟨(some 97), .load (some 37) (.tmp 2), (some (94, true)), [], false⟩,
      ⟨(some 98), .load (some 37) (.tmp 1), (some (94, true)), [], false⟩,
      ⟨(some 96), .callV (.func 18) [(.tmp 95)], (some (94, true)), [((some 98), .load (some 37) (.tmp 1), (some (94, true))), ((some 97), .load (some 37) (.tmp 2), (some (94, true)))], false⟩,
      ⟨(some 99), .buildSlice 38 (z32 ++ ((.int .u8 0) :: ((.int .u8 0) :: ((.int .u8 0) :: ((.int .u8 0) :: ((.int .u64 0) :: (z32 ++ [(.int .u8 0), (.int .u8 0), (.int .u8 0), (.int .u8 0), (.int .u64 0)]))))))) 2 [(0, 37, (.tmp 97)), (37, 37, (.tmp 98))], (some (94, true)), [((some 95), .mov (.tmp 4), (some (94, true)))], false⟩,
      ⟨(some 100), .callV (.func 21) [(.tmp 96), (.tmp 99)], (some (94, true)), [], true⟩,
      ⟨(some 101), .pick (.tmp 94) (.tmp 100) (.const (.bool false)), none, [], true⟩,
      ⟨(some 102), .mov (.tmp 101), none, [], true⟩,
      ⟨(some 103), .mov (.tmp 4), (some (102, true)), [], false⟩,
      ⟨(some 104), .build z32 [], (some (102, true)), [], false⟩,
      ⟨(some 106), .build [(.int .u8 0), (.int .u8 0), (.int .u8 0), (.int .u8 0)] [(3, 1, (.const (.int .u8 1)))], (some (102, true)), [], false⟩,
      ⟨(some 105), .callV (.func 16) [(.tmp 103), (.tmp 104)], (some (102, true)), [((some 106), .build [(.int .u8 0), (.int .u8 0), (.int .u8 0), (.int .u8 0)] [(3, 1, (.const (.int .u8 1)))], (some (102, true)))], false⟩,
      ⟨(some 107), .buildSlice 33 [(.int .u8 0), (.int .u8 0), (.int .u8 0), (.int .u8 0)] 1 [(0, 4, (.tmp 106))], (some (102, true)), [((some 104), .build z32 [], (some (102, true))), ((some 103), .mov (.tmp 4), (some (102, true)))], false⟩,
      ⟨(some 108), .callV (.func 22) [(.tmp 105), (.tmp 107)], (some (102, true)), [], true⟩,
      ⟨(some 109), .pick (.tmp 102) (.tmp 108) (.const (.bool false)), none, [], true⟩,
      ⟨(some 110), .mov (.tmp 109), none, [], true⟩,
      ⟨(some 111), .buildSlice 5 [(.int .u8 0), (.int .u8 0)] 2 [(0, 1, (.const (.int .u8 1))), (1, 1, (.const (.int .u8 2)))], (some (110, true)), [], true⟩,
      ⟨(some 112), .callV (.func 23) [(.tmp 111), (.const (.int .i64 6)), (.const (.int .i64 2))], (some (110, true)), [], true⟩,
      ⟨(some 113), .pick (.tmp 110) (.tmp 112) (.const (.bool false)), none, [], true⟩,
      ⟨(some 114), .mov (.tmp 113), none, [], true⟩,
      ⟨(some 115), .mov (.tmp 14), (some (114, true)), [], true⟩,
      ⟨(some 116), .callV (.func 23) [(.tmp 115), (.const (.int .i64 9)), (.const (.int .i64 46))], (some (114, true)), [], true⟩,
      ⟨(some 117), .pick (.tmp 114) (.tmp 116) (.const (.bool false)), none, [], true⟩,
      ⟨(some 0), .mov (.tmp 117), none, [], true⟩],
    [
      ⟨(some 85), .callV (.func 8) [], none, [], true⟩,
      ⟨(some 86), .mov (.tmp 85), none, [], true⟩,
      ⟨(some 87), .mov (.tmp 7), (some (86, true)), [], true⟩,
      ⟨(some 88), .bin .eql (so (.binOp .eql 25 (.tmp 87) (.const (.int .i64 3)) 25) 4) (.tmp 87) (.const (.int .i64 3)), (some (86, true)), [], true⟩,
      ⟨(some 89), .pick (.tmp 86) (.tmp 88) (.const (.bool false)), none, [], true⟩,
      ⟨(some 90), .mov (.tmp 89), none, [], true⟩,
      ⟨(some 91), .mov (.tmp 9), (some (90, true)), [], true⟩,
      ⟨(some 92), .bin .eql (so (.binOp .eql 25 (.tmp 91) (.const (.int .i64 3)) 25) 4) (.tmp 91) (.const (.int .i64 3)), (some (90, true)), [], true⟩,
      ⟨(some 93), .pick (.tmp 90) (.tmp 92) (.const (.bool false)), none, [], true⟩,
      ⟨(some 94), .mov (.tmp 93), none, [], true⟩,
      ⟨(some 95), .mov (.tmp 4), (some (94, true)), [], false⟩,
      ⟨(some 97), .load (some 37) (.tmp 2), (some (94, true)), [], false⟩,
      ⟨(some 98), .load (some 37) (.tmp 1), (some (94, true)), [], false⟩,
      ⟨(some 96), .callV (.func 18) [(.tmp 95)], (some (94, true)), [((some 98), .load (some 37) (.tmp 1), (some (94, true))), ((some 97), .load (some 37) (.tmp 2), (some (94, true)))], false⟩,
      ⟨(some 99), .buildSlice 38 (z32 ++ ((.int .u8 0) :: ((.int .u8 0) :: ((.int .u8 0) :: ((.int .u8 0) :: ((.int .u64 0) :: (z32 ++ [(.int .u8 0), (.int .u8 0), (.int .u8 0), (.int .u8 0), (.int .u64 0)]))))))) 2 [(0, 37, (.tmp 97)), (37, 37, (.tmp 98))], (some (94, true)), [((some 95), .mov (.tmp 4), (some (94, true)))], false⟩,
      ⟨(some 100), .callV (.func 21) [(.tmp 96), (.tmp 99)], (some (94, true)), [], true⟩,
      ⟨(some 101), .pick (.tmp 94) (.tmp 100) (.const (.bool false)), none, [], true⟩,
      ⟨(some 102), .mov (.tmp 101), none, [], true⟩,
      ⟨(some 103), .mov (.tmp 4), (some (102, true)), [], false⟩,
      ⟨(some 104), .build z32 [], (some (102, true)), [], false⟩,
      ⟨(some 106), .build [(.int .u8 0), (.int .u8 0), (.int .u8 0), (.int .u8 0)] [(3, 1, (.const (.int .u8 1)))], (some (102, true)), [], false⟩,
      ⟨(some 107), .buildSlice 33 [(.int .u8 0), (.int .u8 0), (.int .u8 0), (.int .u8 0)] 1 [(0, 4, (.tmp 106))], (some (102, true)), [((some 104), .build z32 [], (some (102, true))), ((some 103), .mov (.tmp 4), (some (102, true)))], false⟩,
      ⟨(some 105), .callV (.func 16) [(.tmp 103), (.tmp 104)], (some (102, true)), [((some 106), .build [(.int .u8 0), (.int .u8 0), (.int .u8 0), (.int .u8 0)] [(3, 1, (.const (.int .u8 1)))], (some (102, true)))], false⟩,
      ⟨(some 108), .callV (.func 22) [(.tmp 105), (.tmp 107)], (some (102, true)), [], true⟩,
      ⟨(some 109), .pick (.tmp 102) (.tmp 108) (.const (.bool false)), none, [], true⟩,
      ⟨(some 110), .mov (.tmp 109), none, [], true⟩,
      ⟨(some 111), .buildSlice 5 [(.int .u8 0), (.int .u8 0)] 2 [(0, 1, (.const (.int .u8 1))), (1, 1, (.const (.int .u8 2)))], (some (110, true)), [], true⟩,
      ⟨(some 112), .callV (.func 23) [(.tmp 111), (.const (.int .i64 6)), (.const (.int .i64 2))], (some (110, true)), [], true⟩,
      ⟨(some 113), .pick (.tmp 110) (.tmp 112) (.const (.bool false)), none, [], true⟩,
      ⟨(some 114), .mov (.tmp 113), none, [], true⟩,
      ⟨(some 115), .mov (.tmp 14), (some (114, true)), [], true⟩,
      ⟨(some 116), .callV (.func 23) [(.tmp 115), (.const (.int .i64 9)), (.const (.int .i64 46))], (some (114, true)), [], true⟩,
      ⟨(some 117), .pick (.tmp 114) (.tmp 116) (.const (.bool false)), none, [], true⟩,
      ⟨(some 0), .mov (.tmp 117), none, [], true⟩],
    [
      ⟨(some 85), .callV (.func 8) [], none, [], true⟩,
      ⟨(some 86), .mov (.tmp 85), none, [], true⟩,
      ⟨(some 87), .mov (.tmp 7), (some (86, true)), [], true⟩,
      ⟨(some 88), .bin .eql (so (.binOp .eql 25 (.tmp 87) (.const (.int .i64 3)) 25) 4) (.tmp 87) (.const (.int .i64 3)), (some (86, true)), [], true⟩,
      ⟨(some 89), .pick (.tmp 86) (.tmp 88) (.const (.bool false)), none, [], true⟩,
      ⟨(some 90), .mov (.tmp 89), none, [], true⟩,
      ⟨(some 91), .mov (.tmp 9), (some (90, true)), [], true⟩,
      ⟨(some 92), .bin .eql (so (.binOp .eql 25 (.tmp 91) (.const (.int .i64 3)) 25) 4) (.tmp 91) (.const (.int .i64 3)), (some (90, true)), [], true⟩,
      ⟨(some 93), .pick (.tmp 90) (.tmp 92) (.const (.bool false)), none, [], true⟩,
      ⟨(some 94), .mov (.tmp 93), none, [], true⟩,
      ⟨(some 95), .mov (.tmp 4), (some (94, true)), [], false⟩,
      ⟨(some 97), .load (some 37) (.tmp 2), (some (94, true)), [], false⟩,
      ⟨(some 98), .load (some 37) (.tmp 1), (some (94, true)), [], false⟩,
      ⟨(some 99), .buildSlice 38 (z32 ++ ((.int .u8 0) :: ((.int .u8 0) :: ((.int .u8 0) :: ((.int .u8 0) :: ((.int .u64 0) :: (z32 ++ [(.int .u8 0), (.int .u8 0), (.int .u8 0), (.int .u8 0), (.int .u64 0)]))))))) 2 [(0, 37, (.tmp 97)), (37, 37, (.tmp 98))], (some (94, true)), [((some 95), .mov (.tmp 4), (some (94, true)))], false⟩,
      ⟨(some 96), .callV (.func 18) [(.tmp 95)], (some (94, true)), [((some 98), .load (some 37) (.tmp 1), (some (94, true))), ((some 97), .load (some 37) (.tmp 2), (some (94, true)))], false⟩,
      ⟨(some 100), .callV (.func 21) [(.tmp 96), (.tmp 99)], (some (94, true)), [], true⟩,
      ⟨(some 101), .pick (.tmp 94) (.tmp 100) (.const (.bool false)), none, [], true⟩,
      ⟨(some 102), .mov (.tmp 101), none, [], true⟩,
      ⟨(some 103), .mov (.tmp 4), (some (102, true)), [], false⟩,
      ⟨(some 104), .build z32 [], (some (102, true)), [], false⟩,
      ⟨(some 106), .build [(.int .u8 0), (.int .u8 0), (.int .u8 0), (.int .u8 0)] [(3, 1, (.const (.int .u8 1)))], (some (102, true)), [], false⟩,
      ⟨(some 105), .callV (.func 16) [(.tmp 103), (.tmp 104)], (some (102, true)), [((some 106), .build [(.int .u8 0), (.int .u8 0), (.int .u8 0), (.int .u8 0)] [(3, 1, (.const (.int .u8 1)))], (some (102, true)))], false⟩,
      ⟨(some 107), .buildSlice 33 [(.int .u8 0), (.int .u8 0), (.int .u8 0), (.int .u8 0)] 1 [(0, 4, (.tmp 106))], (some (102, true)), [((some 104), .build z32 [], (some (102, true))), ((some 103), .mov (.tmp 4), (some (102, true)))], false⟩,
      ⟨(some 108), .callV (.func 22) [(.tmp 105), (.tmp 107)], (some (102, true)), [], true⟩,
      ⟨(some 109), .pick (.tmp 102) (.tmp 108) (.const (.bool false)), none, [], true⟩,
      ⟨(some 110), .mov (.tmp 109), none, [], true⟩,
      ⟨(some 111), .buildSlice 5 [(.int .u8 0), (.int .u8 0)] 2 [(0, 1, (.const (.int .u8 1))), (1, 1, (.const (.int .u8 2)))], (some (110, true)), [], true⟩,
      ⟨(some 112), .callV (.func 23) [(.tmp 111), (.const (.int .i64 6)), (.const (.int .i64 2))], (some (110, true)), [], true⟩,
      ⟨(some 113), .pick (.tmp 110) (.tmp 112) (.const (.bool false)), none, [], true⟩,
      ⟨(some 114), .mov (.tmp 113), none, [], true⟩,
      ⟨(some 115), .mov (.tmp 14), (some (114, true)), [], true⟩,
      ⟨(some 116), .callV (.func 23) [(.tmp 115), (.const (.int .i64 9)), (.const (.int .i64 46))], (some (114, true)), [], true⟩,
      ⟨(some 117), .pick (.tmp 114) (.tmp 116) (.const (.bool false)), none, [], true⟩,
      ⟨(some 0), .mov (.tmp 117), none, [], true⟩],
    [
      ⟨(some 85), .callV (.func 8) [], none, [], true⟩,
      ⟨(some 86), .mov (.tmp 85), none, [], true⟩,
      ⟨(some 87), .mov (.tmp 7), (some (86, true)), [], true⟩,
      ⟨(some 88), .bin .eql (so (.binOp .eql 25 (.tmp 87) (.const (.int .i64 3)) 25) 4) (.tmp 87) (.const (.int .i64 3)), (some (86, true)), [], true⟩,
      ⟨(some 89), .pick (.tmp 86) (.tmp 88) (.const (.bool false)), none, [], true⟩,
      ⟨(some 90), .mov (.tmp 89), none, [], true⟩,
      ⟨(some 91), .mov (.tmp 9), (some (90, true)), [], true⟩,
      ⟨(some 92), .bin .eql (so (.binOp .eql 25 (.tmp 91) (.const (.int .i64 3)) 25) 4) (.tmp 91) (.const (.int .i64 3)), (some (90, true)), [], true⟩,
      ⟨(some 93), .pick (.tmp 90) (.tmp 92) (.const (.bool false)), none, [], true⟩,
      ⟨(some 94), .mov (.tmp 93), none, [], true⟩,
      ⟨(some 95), .mov (.tmp 4), (some (94, true)), [], false⟩,
      ⟨(some 97), .load (some 37) (.tmp 2), (some (94, true)), [], false⟩,
      ⟨(some 98), .load (some 37) (.tmp 1), (some (94, true)), [], false⟩,
      ⟨(some 99), .buildSlice 38 (z32 ++ ((.int .u8 0) :: ((.int .u8 0) :: ((.int .u8 0) :: ((.int .u8 0) :: ((.int .u64 0) :: (z32 ++ [(.int .u8 0), (.int .u8 0), (.int .u8 0), (.int .u8 0), (.int .u64 0)]))))))) 2 [(0, 37, (.tmp 97)), (37, 37, (.tmp 98))], (some (94, true)), [((some 95), .mov (.tmp 4), (some (94, true)))], false⟩,
      ⟨(some 96), .callV (.func 18) [(.tmp 95)], (some (94, true)), [((some 98), .load (some 37) (.tmp 1), (some (94, true))), ((some 97), .load (some 37) (.tmp 2), (some (94, true)))], false⟩,
      ⟨(some 100), .callV (.func 21) [(.tmp 96), (.tmp 99)], (some (94, true)), [], true⟩,
      ⟨(some 101), .pick (.tmp 94) (.tmp 100) (.const (.bool false)), none, [], true⟩,
      ⟨(some 102), .mov (.tmp 101), none, [], true⟩,
      ⟨(some 103), .mov (.tmp 4), (some (102, true)), [], false⟩,
      ⟨(some 104), .build z32 [], (some (102, true)), [], false⟩,
      ⟨(some 106), .build [(.int .u8 0), (.int .u8 0), (.int .u8 0), (.int .u8 0)] [(3, 1, (.const (.int .u8 1)))], (some (102, true)), [], false⟩,
      ⟨(some 107), .buildSlice 33 [(.int .u8 0), (.int .u8 0), (.int .u8 0), (.int .u8 0)] 1 [(0, 4, (.tmp 106))], (some (102, true)), [((some 104), .build z32 [], (some (102, true))), ((some 103), .mov (.tmp 4), (some (102, true)))], false⟩,
      ⟨(some 105), .callV (.func 16) [(.tmp 103), (.tmp 104)], (some (102, true)), [((some 106), .build [(.int .u8 0), (.int .u8 0), (.int .u8 0), (.int .u8 0)] [(3, 1, (.const (.int .u8 1)))], (some (102, true)))], false⟩,
      ⟨(some 108), .callV (.func 22) [(.tmp 105), (.tmp 107)], (some (102, true)), [], true⟩,
      ⟨(some 109), .pick (.tmp 102) (.tmp 108) (.const (.bool false)), none, [], true⟩,
      ⟨(some 110), .mov (.tmp 109), none, [], true⟩,
      ⟨(some 111), .buildSlice 5 [(.int .u8 0), (.int .u8 0)] 2 [(0, 1, (.const (.int .u8 1))), (1, 1, (.const (.int .u8 2)))], (some (110, true)), [], true⟩,
      ⟨(some 112), .callV (.func 23) [(.tmp 111), (.const (.int .i64 6)), (.const (.int .i64 2))], (some (110, true)), [], true⟩,
      ⟨(some 113), .pick (.tmp 110) (.tmp 112) (.const (.bool false)), none, [], true⟩,
      ⟨(some 114), .mov (.tmp 113), none, [], true⟩,
      ⟨(some 115), .mov (.tmp 14), (some (114, true)), [], true⟩,
      ⟨(some 116), .callV (.func 23) [(.tmp 115), (.const (.int .i64 9)), (.const (.int .i64 46))], (some (114, true)), [], true⟩,
      ⟨(some 117), .pick (.tmp 114) (.tmp 116) (.const (.bool false)), none, [], true⟩,
      ⟨(some 0), .mov (.tmp 117), none, [], true⟩]]) .ret))))))))))))
noncomputable def landfalllaw08_SigsKnown : AFunc := ⟨118, [(0, none)], landfalllaw08_SigsKnown_c, none⟩
theorem landfalllaw08_SigsKnown_t0 : tableOf Try.prog 5 = some landfalllaw08_SigsKnown := by kernel_rfl
theorem landfalllaw08_SigsKnown_t : T0 5 = some landfalllaw08_SigsKnown := withKept_t rfl (withTrue_t rfl landfalllaw08_SigsKnown_t0)


/-! 8 landfall/landfalllaw08.awake -/
abbrev fn_landfalllaw08_awake : FuncId := 8
noncomputable def landfalllaw08_awake_c : ACode :=
  (.seq (.region [
      ⟨(some 0), .mov (.const (.bool false)), none, [], false⟩]) (.seq (.region [
      ⟨(some 7), .callV (.func 19) [], none, [], false⟩,
      ⟨(some 6), .mov (.tmp 7), none, [], false⟩,
      ⟨(some 8), .extract 0 (.tmp 6), none, [], false⟩,
      ⟨(some 9), .extract 1 (.tmp 6), none, [], false⟩,
      ⟨(some 10), .extract 2 (.tmp 6), none, [], false⟩,
      ⟨(some 1), .alloc 38 (z32 ++ [(.int .u8 0), (.int .u8 0), (.int .u8 0), (.int .u8 0), (.int .u64 0)]), none, [], false⟩,
      ⟨(some 2), .alloc 38 (z32 ++ [(.int .u8 0), (.int .u8 0), (.int .u8 0), (.int .u8 0), (.int .u64 0)]), none, [], false⟩,
      ⟨(some 3), .alloc 38 (z32 ++ [(.int .u8 0), (.int .u8 0), (.int .u8 0), (.int .u8 0), (.int .u64 0)]), none, [], false⟩,
      ⟨none, .store 37 (.tmp 1) (.tmp 8), none, [], false⟩,
      ⟨none, .store 37 (.tmp 2) (.tmp 9), none, [], false⟩,
      ⟨none, .store 37 (.tmp 3) (.tmp 10), none, [], false⟩]) (.seq (.region [
      ⟨(some 12), .callV (.func 9) [(.const (.int .i64 2))], none, [], false⟩,
      ⟨(some 11), .mov (.tmp 12), none, [], false⟩,
      ⟨(some 13), .extract 0 (.tmp 11), none, [], false⟩,
      ⟨(some 14), .extract 1 (.tmp 11), none, [], false⟩,
      ⟨(some 4), .mov (.tmp 13), none, [], false⟩,
      ⟨(some 5), .mov (.tmp 14), none, [], false⟩]) (.seq (.region [
      ⟨(some 15), .mov (.tmp 5), none, [], false⟩,
      ⟨(some 16), .bin .eql (so (.binOp .eql 25 (.tmp 15) (.const (.int .i64 0)) 25) 4) (.tmp 15) (.const (.int .i64 0)), none, [], false⟩,
      ⟨(some 17), .mov (.tmp 16), none, [], false⟩,
      ⟨(some 18), .mov (.tmp 4), (some (17, true)), [], false⟩,
      ⟨(some 19), .eq .ptr true (so (.binOp .neq 24 (.tmp 18) (.const (.pointer none)) 24) 4) (.tmp 18) (.const (.pointer none)), (some (17, true)), [], false⟩,
      ⟨(some 20), .pick (.tmp 17) (.tmp 19) (.const (.bool false)), none, [], false⟩,
      ⟨(some 21), .mov (.tmp 20), none, [], false⟩,
      ⟨(some 22), .mov (.tmp 4), (some (21, true)), [], false⟩,
      ⟨(some 23), .load (some 37) (.tmp 1), (some (21, true)), [], false⟩,
      ⟨(some 24), .callV (.func 11) [(.tmp 22), (.tmp 23)], (some (21, true)), [], false⟩,
      ⟨(some 25), .bin .eql (so (.binOp .eql 25 (.tmp 24) (.const (.int .i64 0)) 25) 4) (.tmp 24) (.const (.int .i64 0)), (some (21, true)), [], false⟩,
      ⟨(some 26), .pick (.tmp 21) (.tmp 25) (.const (.bool false)), none, [], false⟩,
      ⟨(some 27), .mov (.tmp 26), none, [], false⟩,
      ⟨(some 28), .mov (.tmp 4), (some (27, true)), [], false⟩,
      ⟨(some 29), .load (some 37) (.tmp 1), (some (27, true)), [], false⟩,
      ⟨(some 30), .callV (.func 11) [(.tmp 28), (.tmp 29)], (some (27, true)), [], false⟩,
      ⟨(some 31), .bin .eql (so (.binOp .eql 25 (.tmp 30) (.const (.int .i64 8)) 25) 4) (.tmp 30) (.const (.int .i64 8)), (some (27, true)), [], false⟩,
      ⟨(some 32), .pick (.tmp 27) (.tmp 31) (.const (.bool false)), none, [], false⟩,
      ⟨(some 33), .mov (.tmp 32), none, [], false⟩,
      ⟨(some 34), .mov (.tmp 4), (some (33, true)), [], false⟩,
      ⟨(some 35), .load (some 37) (.tmp 2), (some (33, true)), [], false⟩,
      ⟨(some 36), .callV (.func 11) [(.tmp 34), (.tmp 35)], (some (33, true)), [], false⟩,
      ⟨(some 37), .bin .eql (so (.binOp .eql 25 (.tmp 36) (.const (.int .i64 0)) 25) 4) (.tmp 36) (.const (.int .i64 0)), (some (33, true)), [], false⟩,
      ⟨(some 38), .pick (.tmp 33) (.tmp 37) (.const (.bool false)), none, [], false⟩,
      ⟨(some 39), .mov (.tmp 38), none, [], false⟩,
      ⟨(some 40), .mov (.tmp 4), (some (39, true)), [], false⟩,
      ⟨(some 41), .load (some 37) (.tmp 3), (some (39, true)), [], false⟩,
      ⟨(some 42), .callV (.func 11) [(.tmp 40), (.tmp 41)], (some (39, true)), [], false⟩,
      ⟨(some 43), .bin .eql (so (.binOp .eql 25 (.tmp 42) (.const (.int .i64 7)) 25) 4) (.tmp 42) (.const (.int .i64 7)), (some (39, true)), [], false⟩,
      ⟨(some 44), .pick (.tmp 39) (.tmp 43) (.const (.bool false)), none, [], false⟩,
      ⟨(some 45), .mov (.tmp 44), none, [], false⟩,
      ⟨(some 46), .mov (.tmp 4), (some (45, true)), [], false⟩,
      ⟨(some 47), .load (some 37) (.tmp 2), (some (45, true)), [], false⟩,
      ⟨(some 48), .callV (.func 15) [(.tmp 46), (.tmp 47)], (some (45, true)), [], false⟩,
      ⟨(some 49), .pick (.tmp 45) (.tmp 48) (.const (.bool false)), none, [], false⟩,
      ⟨(some 50), .mov (.tmp 49), none, [], false⟩,
      ⟨(some 51), .mov (.tmp 4), (some (50, true)), [], false⟩,
      ⟨(some 52), .load (some 37) (.tmp 3), (some (50, true)), [], false⟩,
      ⟨(some 53), .callV (.func 15) [(.tmp 51), (.tmp 52)], (some (50, true)), [], false⟩,
      ⟨(some 54), .raw (so (.unOp .not 4 (.tmp 53)) 4), (some (50, true)), [], false⟩,
      ⟨(some 55), .pick (.tmp 50) (.tmp 54) (.const (.bool false)), none, [], false⟩,
      ⟨(some 56), .mov (.tmp 55), none, [], false⟩,
      ⟨(some 57), .mov (.tmp 4), (some (56, true)), [], false⟩,
      ⟨(some 58), .callV (.func 17) [(.tmp 57)], (some (56, true)), [], false⟩,
      ⟨(some 59), .bin .eql (so (.binOp .eql 3 (.tmp 58) (.const (.int .i64 2)) 3) 4) (.tmp 58) (.const (.int .i64 2)), (some (56, true)), [], false⟩,
      ⟨(some 60), .pick (.tmp 56) (.tmp 59) (.const (.bool false)), none, [], false⟩,
      ⟨(some 0), .mov (.tmp 60), none, [], false⟩]) .ret))))
noncomputable def landfalllaw08_awake : AFunc := ⟨61, [(0, none)], landfalllaw08_awake_c, none⟩
theorem landfalllaw08_awake_t0 : tableOf Try.prog 8 = some landfalllaw08_awake := by kernel_rfl
theorem landfalllaw08_awake_t : T0 8 = some landfalllaw08_awake := withKept_t rfl (withTrue_t rfl landfalllaw08_awake_t0)


/-! 9 landfall/sigs.New -/
abbrev fn_sigs_New : FuncId := 9
noncomputable def sigs_New_c : ACode :=
  (.seq (.region [
      ⟨(some 2), .mov (.const (.pointer none)), none, [], false⟩,
      ⟨(some 3), .mov (.const (.int .i64 0)), none, [], false⟩]) (.seq (.seq (.region [
      ⟨(some 4), .mov (.tmp 0), none, [], false⟩,
      ⟨(some 5), .bin .lss (so (.binOp .lss 3 (.tmp 4) (.const (.int .i64 0)) 3) 4) (.tmp 4) (.const (.int .i64 0)), none, [], false⟩,
      ⟨(some 6), .mov (.tmp 5), none, [], false⟩,
      ⟨(some 7), .mov (.tmp 0), (some (6, false)), [], false⟩,
      ⟨(some 8), .bin .gtr (so (.binOp .gtr 3 (.tmp 7) (.const (.int .i64 4096)) 3) 4) (.tmp 7) (.const (.int .i64 4096)), (some (6, false)), [], false⟩,
      ⟨(some 9), .pick (.tmp 6) (.const (.bool true)) (.tmp 8), none, [], false⟩]) (.cond (.tmp 9)
    (.seq (.region [
      ⟨(some 2), .mov (.const (.pointer none)), none, [], false⟩,
      ⟨(some 3), .mov (.const (.int .i64 3)), none, [], false⟩]) .ret)
    .skip)) (.seq (.region [
      ⟨(some 10), .mov (.tmp 0), none, [], false⟩,
      ⟨(some 11), .mkMap, none, [], false⟩,
      ⟨(some 12), .build [(.int .i64 0), (.map none)] [(0, 1, (.tmp 10)), (1, 1, (.tmp 11))], none, [], false⟩,
      ⟨(some 13), .box 43 (.tmp 12), none, [], false⟩,
      ⟨(some 2), .mov (.tmp 13), none, [], false⟩,
      ⟨(some 3), .mov (.const (.int .i64 0)), none, [], false⟩]) .ret)))
noncomputable def sigs_New : AFunc := ⟨14, [(2, none), (3, none)], sigs_New_c, none⟩
theorem sigs_New_t0 : tableOf Try.prog 9 = some sigs_New := by kernel_rfl
theorem sigs_New_t : T0 9 = some sigs_New := withKept_t rfl (withTrue_t rfl sigs_New_t0)


/-! 11 (*landfall/sigs.Table).Add -/
abbrev fn_sigs_Table_Add : FuncId := 11
noncomputable def sigs_Table_Add_c : ACode :=
  (.seq (.region [
      ⟨(some 3), .box 38 (.tmp 1), none, [], false⟩,
      ⟨(some 4), .mov (.const (.int .i64 0)), none, [], false⟩]) (.seq (.block 0 (.seq (.region [
      ⟨(some 6), .mov (.tmp 0), none, [], false⟩,
      ⟨(some 7), .callV (.func 26) [(.tmp 6)], none, [], false⟩,
      ⟨(some 5), .mov (.tmp 7), none, [], false⟩]) (.cond (.tmp 5)
    (.seq (.region [
      ⟨(some 4), .mov (.const (.int .i64 1)), none, [], false⟩]) .ret)
    (.seq (.region [
      ⟨(some 9), .mov (.tmp 0), none, [], false⟩,
      ⟨(some 10), .load (some 37) (.tmp 3), none, [], false⟩,
      ⟨(some 11), .callV (.func 15) [(.tmp 9), (.tmp 10)], none, [], false⟩,
      ⟨(some 8), .mov (.tmp 11), none, [], false⟩]) (.cond (.tmp 8)
    (.seq (.region [
      ⟨(some 4), .mov (.const (.int .i64 8)), none, [], false⟩]) .ret)
    (.seq (.regionD [
      ⟨(some 13), .mov (.tmp 0), none, [], false⟩,
      ⟨(some 14), .nilCheck (.tmp 13), none, [], false⟩,
      ⟨(some 15), .fieldAddr 1 (.tmp 14), none, [], false⟩,
      ⟨(some 16), .load none (.tmp 15), none, [], false⟩,
      ⟨(some 17), .lenMap (.tmp 16), none, [], false⟩,
      ⟨(some 18), .mov (.tmp 0), none, [], false⟩,
      ⟨(some 19), .nilCheck (.tmp 18), none, [], false⟩,
      ⟨(some 20), .fieldAddr 0 (.tmp 19), none, [], false⟩,
      ⟨(some 21), .load none (.tmp 20), none, [], false⟩,
      ⟨(some 22), .bin .geq (so (.binOp .geq 3 (.tmp 17) (.tmp 21) 3) 4) (.tmp 17) (.tmp 21), none, [], true⟩,
      ⟨(some 12), .mov (.tmp 22), none, [], true⟩]) (.cond (.tmp 12)
    (.seq (.region [
      ⟨(some 4), .mov (.const (.int .i64 7)), none, [], false⟩]) .ret)
    .skip))))))) (.seq (.regionD [
      ⟨(some 23), .mov (.tmp 0), none, [], false⟩,
      ⟨(some 24), .nilCheck (.tmp 23), none, [], false⟩,
      ⟨(some 25), .fieldAddr 1 (.tmp 24), none, [], false⟩,
      ⟨(some 26), .load none (.tmp 25), none, [], false⟩,
      ⟨(some 27), .load (some 37) (.tmp 3), none, [], false⟩,
      ⟨(some 28), .build [] [], none, [], false⟩,
      ⟨none, .mapUpdate (.slice 70) (.tmp 26) (.tmp 27) (.tmp 28), none, [], true⟩]) (.seq (.region [
      ⟨(some 4), .mov (.const (.int .i64 0)), none, [], false⟩]) .ret))))
noncomputable def sigs_Table_Add : AFunc := ⟨29, [(4, none)], sigs_Table_Add_c, none⟩
theorem sigs_Table_Add_t0 : tableOf Try.prog 11 = some sigs_Table_Add := by kernel_rfl
theorem sigs_Table_Add_t : T0 11 = some sigs_Table_Add := withKept_t rfl (withTrue_t rfl sigs_Table_Add_t0)


/-! 14 (*landfall/sigs.Table).Encode -/
abbrev fn_sigs_Table_Encode : FuncId := 14
noncomputable def sigs_Table_Encode_l0 : ACode :=
  (.seq (.region [
      ⟨(some 25), .bin .lss (so (.binOp .lss 3 (.tmp 24) (.tmp 23) 3) 0) (.tmp 24) (.tmp 23), none, [], false⟩]) (.seq (.cond (.tmp 25)
    .skip
    (.exit 0)) (.seq (.block 1 (.seq (.region [
      ⟨(some 26), .indexSl 37 (.tmp 22) (.tmp 24), none, [], false⟩,
      ⟨(some 27), .load (some 37) (.tmp 26), none, [], false⟩,
      ⟨(some 7), .alloc 70 (z32 ++ [(.int .u8 0), (.int .u8 0), (.int .u8 0), (.int .u8 0), (.int .u64 0)]), none, [], false⟩,
      ⟨none, .store 37 (.tmp 7) (.tmp 27), none, [], false⟩]) (.seq (.region [
      ⟨(some 28), .mov (.tmp 4), none, [], false⟩,
      ⟨(some 29), .fieldAddr 0 (.tmp 7), none, [], false⟩,
      ⟨(some 30), .load (some 4) (.tmp 29), none, [], false⟩,
      ⟨(some 31), .callV (.func 35) [(.tmp 28), (.tmp 30)], none, [], false⟩]) (.seq (.region [
      ⟨(some 32), .mov (.tmp 4), none, [], false⟩,
      ⟨(some 33), .fieldAddr 4 (.tmp 7), none, [], false⟩,
      ⟨(some 34), .load (some 32) (.tmp 33), none, [], false⟩,
      ⟨(some 35), .callV (.func 36) [(.tmp 32), (.tmp 34)], none, [], false⟩]) (.region [
      ⟨(some 36), .mov (.tmp 4), none, [], false⟩,
      ⟨(some 37), .fieldAddr 36 (.tmp 7), none, [], false⟩,
      ⟨(some 38), .load none (.tmp 37), none, [], false⟩,
      ⟨(some 39), .callV (.func 37) [(.tmp 36), (.tmp 38)], none, [], false⟩]))))) (.region [
      ⟨(some 40), .bin .add (so (.binOp .add 3 (.tmp 24) (.const (.int .i64 1)) 3) 3) (.tmp 24) (.const (.int .i64 1)), none, [], false⟩,
      ⟨(some 24), .mov (.tmp 40), none, [], false⟩]))))
noncomputable def sigs_Table_Encode_c : ACode :=
  (.seq (.region [
      ⟨(some 2), .mov (.const (.slice none 0 0)), none, [], false⟩,
      ⟨(some 3), .mov (.const (.int .i64 0)), none, [], false⟩]) (.seq (.seq (.region [
      ⟨(some 8), .mov (.tmp 0), none, [], false⟩,
      ⟨(some 9), .callV (.func 26) [(.tmp 8)], none, [], false⟩]) (.cond (.tmp 9)
    (.seq (.region [
      ⟨(some 2), .mov (.const (.slice none 0 0)), none, [], false⟩,
      ⟨(some 3), .mov (.const (.int .i64 1)), none, [], false⟩]) .ret)
    .skip)) (.seq (.region [
      ⟨(some 11), .callV (.func 32) [(.const (.int .i64 1048576))], none, [], false⟩,
      ⟨(some 10), .mov (.tmp 11), none, [], false⟩,
      ⟨(some 12), .extract 0 (.tmp 10), none, [], false⟩,
      ⟨(some 13), .extract 1 (.tmp 10), none, [], false⟩,
      ⟨(some 4), .mov (.tmp 12), none, [], false⟩,
      ⟨(some 5), .mov (.tmp 13), none, [], false⟩]) (.seq (.region [
      ⟨(some 14), .mov (.tmp 4), none, [], false⟩,
      ⟨(some 15), .mov (.tmp 0), none, [], false⟩,
      ⟨(some 16), .nilCheck (.tmp 15), none, [], false⟩,
      ⟨(some 17), .fieldAddr 1 (.tmp 16), none, [], false⟩,
      ⟨(some 18), .load none (.tmp 17), none, [], false⟩,
      ⟨(some 19), .lenMap (.tmp 18), none, [], false⟩,
      ⟨(some 20), .callV (.func 33) [(.tmp 14), (.tmp 19)], none, [], false⟩]) (.seq (.seq (.region [
      ⟨(some 21), .mov (.tmp 0), none, [], false⟩,
      ⟨(some 22), .callV (.func 34) [(.tmp 21)], none, [], false⟩,
      ⟨(some 23), .lenSl (.tmp 22), none, [], false⟩,
      ⟨(some 24), .mov (.const (.int .i64 0)), none, [], false⟩]) (.block 0 (.loop sigs_Table_Encode_l0))) (.seq (.region [
      ⟨(some 41), .mov (.tmp 4), none, [], false⟩,
      ⟨(some 42), .callV (.func 38) [(.tmp 41)], none, [], false⟩,
      ⟨(some 43), .extract 0 (.tmp 42), none, [], false⟩,
      ⟨(some 44), .extract 1 (.tmp 42), none, [], false⟩,
      ⟨(some 2), .mov (.tmp 43), none, [], false⟩,
      ⟨(some 3), .mov (.tmp 44), none, [], false⟩]) .ret))))))
noncomputable def sigs_Table_Encode : AFunc := ⟨45, [(2, none), (3, none)], sigs_Table_Encode_c, none⟩
theorem sigs_Table_Encode_t0 : tableOf Try.prog 14 = some sigs_Table_Encode := by kernel_rfl
theorem sigs_Table_Encode_t : T0 14 = some sigs_Table_Encode := withKept_t rfl (withTrue_t rfl sigs_Table_Encode_t0)


/-! 15 (*landfall/sigs.Table).Has -/
abbrev fn_sigs_Table_Has : FuncId := 15
noncomputable def sigs_Table_Has_c : ACode :=
  (.seq (.region [
      ⟨(some 3), .box 38 (.tmp 1), none, [], false⟩,
      ⟨(some 4), .mov (.const (.bool false)), none, [], false⟩]) (.seq (.seq (.region [
      ⟨(some 7), .mov (.tmp 0), none, [], false⟩,
      ⟨(some 8), .callV (.func 26) [(.tmp 7)], none, [], false⟩]) (.cond (.tmp 8)
    (.seq (.region [
      ⟨(some 4), .mov (.const (.bool false)), none, [], false⟩]) .ret)
    .skip)) (.seq (.regionD [
      ⟨(some 10), .mov (.tmp 0), none, [], false⟩,
      ⟨(some 11), .nilCheck (.tmp 10), none, [], false⟩,
      ⟨(some 12), .fieldAddr 1 (.tmp 11), none, [], false⟩,
      ⟨(some 13), .load none (.tmp 12), none, [], false⟩,
      ⟨(some 14), .load (some 37) (.tmp 3), none, [], false⟩,
      ⟨(some 15), .lookup (.slice 70) (.agg ⟨[]⟩) true (.tmp 13) (.tmp 14), none, [], false⟩,
      ⟨(some 9), .mov (.tmp 15), none, [], false⟩,
      ⟨(some 16), .extract 0 (.tmp 9), none, [], false⟩,
      ⟨(some 17), .extract 1 (.tmp 9), none, [], false⟩,
      ⟨(some 5), .alloc 69 [], none, [((some 17), .extract 1 (.tmp 9), none), ((some 16), .extract 0 (.tmp 9), none), ((some 9), .mov (.tmp 15), none), ((some 15), .lookup (.slice 70) (.agg ⟨[]⟩) true (.tmp 13) (.tmp 14), none), ((some 14), .load (some 37) (.tmp 3), none), ((some 13), .load none (.tmp 12), none), ((some 12), .fieldAddr 1 (.tmp 11), none), ((some 11), .nilCheck (.tmp 10), none), ((some 10), .mov (.tmp 0), none)], false⟩,
      ⟨none, .store 0 (.tmp 5) (.tmp 16), none, [((some 17), .extract 1 (.tmp 9), none)], false⟩,
      ⟨(some 6), .mov (.tmp 17), none, [], true⟩]) (.seq (.region [
      ⟨(some 18), .mov (.tmp 6), none, [], false⟩,
      ⟨(some 4), .mov (.tmp 18), none, [], false⟩]) .ret))))
noncomputable def sigs_Table_Has : AFunc := ⟨19, [(4, none)], sigs_Table_Has_c, none⟩
theorem sigs_Table_Has_t0 : tableOf Try.prog 15 = some sigs_Table_Has := by kernel_rfl
theorem sigs_Table_Has_t : T0 15 = some sigs_Table_Has := withKept_t rfl (withTrue_t rfl sigs_Table_Has_t0)


/-! 16 (*landfall/sigs.Table).Who -/
abbrev fn_sigs_Table_Who : FuncId := 16
noncomputable def sigs_Table_Who_ra0 : Code := (rangeParts (subCode ((Try.prog.funcs[16]?).bind (·.body)) [true, true, false, true, false])).1
noncomputable def sigs_Table_Who_rb0 : Code := (rangeParts (subCode ((Try.prog.funcs[16]?).bind (·.body)) [true, true, false, true, false])).2
noncomputable def sigs_Table_Who_a0 : ACode :=
  (.region [
      ⟨(some 5), .alloc 33 [(.int .u8 0), (.int .u8 0), (.int .u8 0), (.int .u8 0)], none, [], false⟩,
      ⟨none, .store 4 (.tmp 5) (.tmp 11), none, [], false⟩])
noncomputable def sigs_Table_Who_b0 : ACode :=
  (.block 1 (.seq (.regionD [
      ⟨(some 12), .load none (.tmp 4), none, [], true⟩,
      ⟨(some 13), .lenSl (.tmp 12), none, [], true⟩,
      ⟨(some 14), .bin .eql (so (.binOp .eql 3 (.tmp 13) (.const (.int .i64 0)) 3) 4) (.tmp 13) (.const (.int .i64 0)), none, [], true⟩,
      ⟨(some 15), .mov (.tmp 14), none, [], true⟩,
      ⟨(some 16), .load none (.tmp 4), (some (15, false)), [], false⟩,
      ⟨(some 17), .load none (.tmp 4), (some (15, false)), [], false⟩,
      ⟨(some 18), .lenSl (.tmp 17), (some (15, false)), [], false⟩,
      ⟨(some 19), .bin .sub (so (.binOp .sub 3 (.tmp 18) (.const (.int .i64 1)) 3) 3) (.tmp 18) (.const (.int .i64 1)), (some (15, false)), [], false⟩,
      ⟨(some 20), .indexSl 4 (.tmp 16) (.tmp 19), (some (15, false)), [], false⟩,
      ⟨(some 21), .load (some 4) (.tmp 20), (some (15, false)), [], false⟩,
      ⟨(some 22), .load (some 4) (.tmp 5), (some (15, false)), [], false⟩,
      ⟨(some 23), .bin .neq (so (.binOp .neq 33 (.tmp 21) (.tmp 22) 33) 4) (.tmp 21) (.tmp 22), (some (15, false)), [], true⟩,
      ⟨(some 24), .pick (.tmp 15) (.const (.bool true)) (.tmp 23), none, [], true⟩]) (.cond (.tmp 24)
    (.region [
      ⟨(some 25), .load none (.tmp 4), none, [], false⟩,
      ⟨(some 26), .load (some 4) (.tmp 5), none, [], false⟩,
      ⟨(some 27), .buildSlice 33 [(.int .u8 0), (.int .u8 0), (.int .u8 0), (.int .u8 0)] 1 [(0, 4, (.tmp 26))], none, [], false⟩,
      ⟨(some 28), .append 33 4 4 [(.int .u8 0), (.int .u8 0), (.int .u8 0), (.int .u8 0)] false (.tmp 25) (.tmp 27), none, [], false⟩,
      ⟨none, .store 1 (.tmp 4) (.tmp 28), none, [], false⟩])
    .skip)))
theorem sigs_Table_Who_ca0 : comp Try.prog sigs_Table_Who_ra0 = some sigs_Table_Who_a0 := by kernel_rfl
theorem sigs_Table_Who_cb0 : comp Try.prog sigs_Table_Who_rb0 = some sigs_Table_Who_b0 := by kernel_rfl
theorem sigs_Table_Who_na0 : noDefer sigs_Table_Who_ra0 = true := by kernel_rfl
theorem sigs_Table_Who_nb0 : noDefer sigs_Table_Who_rb0 = true := by kernel_rfl
noncomputable def sigs_Table_Who_c : ACode :=
  (.seq (.region [
      ⟨(some 3), .box 35 (.tmp 1), none, [], false⟩,
      ⟨(some 4), .alloc 49 [(.slice none 0 0)], none, [], false⟩]) (.seq (.seq (.region [
      ⟨(some 6), .mov (.tmp 0), none, [], false⟩,
      ⟨(some 7), .callV (.func 26) [(.tmp 6)], none, [], false⟩]) (.cond (.tmp 7)
    (.seq (.region [
      ⟨none, .store 1 (.tmp 4) (.const (.slice none 0 0)), none, [], false⟩]) .ret)
    .skip)) (.seq (.seq (.region [
      ⟨(some 8), .mov (.tmp 0), none, [], false⟩,
      ⟨(some 9), .load (some 32) (.tmp 3), none, [], false⟩,
      ⟨(some 10), .callV (.func 39) [(.tmp 8), (.tmp 9)], none, [], false⟩]) (.block 0 (.rangeFunc (.tmp 10) [11] sigs_Table_Who_ra0 sigs_Table_Who_rb0))) (.seq (.region [
      ⟨(some 29), .load none (.tmp 4), none, [], false⟩,
      ⟨none, .store 1 (.tmp 4) (.tmp 29), none, [], false⟩]) .ret))))
noncomputable def sigs_Table_Who : AFunc := ⟨30, [(4, some none)], sigs_Table_Who_c, none⟩
theorem sigs_Table_Who_t0 : tableOf Try.prog 16 = some sigs_Table_Who := by kernel_rfl
theorem sigs_Table_Who_t : T0 16 = some sigs_Table_Who := withKept_t rfl (withTrue_t rfl sigs_Table_Who_t0)


/-! 17 (*landfall/sigs.Table).Len -/
abbrev fn_sigs_Table_Len : FuncId := 17
noncomputable def sigs_Table_Len_c : ACode :=
  (.seq (.region [
      ⟨(some 2), .mov (.const (.int .i64 0)), none, [], false⟩]) (.seq (.seq (.region [
      ⟨(some 3), .mov (.tmp 0), none, [], false⟩,
      ⟨(some 4), .callV (.func 26) [(.tmp 3)], none, [], false⟩]) (.cond (.tmp 4)
    (.seq (.region [
      ⟨(some 2), .mov (.const (.int .i64 0)), none, [], false⟩]) .ret)
    .skip)) (.seq (.region [
      ⟨(some 5), .mov (.tmp 0), none, [], false⟩,
      ⟨(some 6), .nilCheck (.tmp 5), none, [], false⟩,
      ⟨(some 7), .fieldAddr 1 (.tmp 6), none, [], false⟩,
      ⟨(some 8), .load none (.tmp 7), none, [], false⟩,
      ⟨(some 9), .lenMap (.tmp 8), none, [], false⟩,
      ⟨(some 2), .mov (.tmp 9), none, [], false⟩]) .ret)))
noncomputable def sigs_Table_Len : AFunc := ⟨10, [(2, none)], sigs_Table_Len_c, none⟩
theorem sigs_Table_Len_t0 : tableOf Try.prog 17 = some sigs_Table_Len := by kernel_rfl
theorem sigs_Table_Len_t : T0 17 = some sigs_Table_Len := withKept_t rfl (withTrue_t rfl sigs_Table_Len_t0)


/-! 18 (*landfall/sigs.Table).List -/
abbrev fn_sigs_Table_List : FuncId := 18
noncomputable def sigs_Table_List_l0 : ACode :=
  (.seq (.region [
      ⟨(some 11), .bin .lss (so (.binOp .lss 3 (.tmp 10) (.tmp 9) 3) 0) (.tmp 10) (.tmp 9), none, [], false⟩]) (.seq (.cond (.tmp 11)
    .skip
    (.exit 0)) (.seq (.block 1 (.seq (.region [
      ⟨(some 12), .indexSl 37 (.tmp 8) (.tmp 10), none, [], false⟩,
      ⟨(some 13), .load (some 37) (.tmp 12), none, [], false⟩,
      ⟨(some 4), .alloc 70 (z32 ++ [(.int .u8 0), (.int .u8 0), (.int .u8 0), (.int .u8 0), (.int .u64 0)]), none, [], false⟩,
      ⟨none, .store 37 (.tmp 4) (.tmp 13), none, [], false⟩]) (.region [
      ⟨(some 14), .mov (.tmp 2), none, [], false⟩,
      ⟨(some 15), .load (some 37) (.tmp 4), none, [], false⟩,
      ⟨(some 16), .buildSlice 38 (z32 ++ [(.int .u8 0), (.int .u8 0), (.int .u8 0), (.int .u8 0), (.int .u64 0)]) 1 [(0, 37, (.tmp 15))], none, [], false⟩,
      ⟨(some 17), .append 38 37 48 (z32 ++ [(.int .u8 0), (.int .u8 0), (.int .u8 0), (.int .u8 0), (.int .u64 0)]) false (.tmp 14) (.tmp 16), none, [], false⟩,
      ⟨(some 2), .mov (.tmp 17), none, [], false⟩]))) (.region [
      ⟨(some 18), .bin .add (so (.binOp .add 3 (.tmp 10) (.const (.int .i64 1)) 3) 3) (.tmp 10) (.const (.int .i64 1)), none, [], false⟩,
      ⟨(some 10), .mov (.tmp 18), none, [], false⟩]))))
noncomputable def sigs_Table_List_c : ACode :=
  (.seq (.region [
      ⟨(some 2), .mov (.const (.slice none 0 0)), none, [], false⟩]) (.seq (.seq (.region [
      ⟨(some 5), .mov (.tmp 0), none, [], false⟩,
      ⟨(some 6), .callV (.func 26) [(.tmp 5)], none, [], false⟩]) (.cond (.tmp 6)
    (.seq (.region [
      ⟨(some 2), .mov (.const (.slice none 0 0)), none, [], false⟩]) .ret)
    .skip)) (.seq (.seq (.region [
      ⟨(some 7), .mov (.tmp 0), none, [], false⟩,
      ⟨(some 8), .callV (.func 34) [(.tmp 7)], none, [], false⟩,
      ⟨(some 9), .lenSl (.tmp 8), none, [], false⟩,
      ⟨(some 10), .mov (.const (.int .i64 0)), none, [], false⟩]) (.block 0 (.loop sigs_Table_List_l0))) (.seq (.region [
      ⟨(some 19), .mov (.tmp 2), none, [], false⟩,
      ⟨(some 2), .mov (.tmp 19), none, [], false⟩]) .ret))))
noncomputable def sigs_Table_List : AFunc := ⟨20, [(2, none)], sigs_Table_List_c, none⟩
theorem sigs_Table_List_t0 : tableOf Try.prog 18 = some sigs_Table_List := by kernel_rfl
theorem sigs_Table_List_t : T0 18 = some sigs_Table_List := withKept_t rfl (withTrue_t rfl sigs_Table_List_t0)


/-! 19 landfall/landfalllaw08.three -/
abbrev fn_landfalllaw08_three : FuncId := 19
noncomputable def landfalllaw08_three_c : ACode :=
  (.seq (.region [
      ⟨(some 0), .alloc 38 (z32 ++ [(.int .u8 0), (.int .u8 0), (.int .u8 0), (.int .u8 0), (.int .u64 0)]), none, [], false⟩,
      ⟨(some 1), .alloc 38 (z32 ++ [(.int .u8 0), (.int .u8 0), (.int .u8 0), (.int .u8 0), (.int .u64 0)]), none, [], false⟩,
      ⟨(some 2), .alloc 38 (z32 ++ [(.int .u8 0), (.int .u8 0), (.int .u8 0), (.int .u8 0), (.int .u64 0)]), none, [], false⟩]) (.seq (.region [
      ⟨(some 3), .build [(.int .u8 0), (.int .u8 0), (.int .u8 0), (.int .u8 0)] [(3, 1, (.const (.int .u8 1)))], none, [], false⟩,
      ⟨(some 4), .build (z32 ++ [(.int .u8 0), (.int .u8 0), (.int .u8 0), (.int .u8 0), (.int .u64 0)]) [(0, 4, (.tmp 3)), (36, 1, (.const (.int .u64 7)))], none, [], false⟩,
      ⟨(some 5), .build [(.int .u8 0), (.int .u8 0), (.int .u8 0), (.int .u8 0)] [(3, 1, (.const (.int .u8 1)))], none, [], false⟩,
      ⟨(some 6), .build (z32 ++ [(.int .u8 0), (.int .u8 0), (.int .u8 0), (.int .u8 0), (.int .u64 0)]) [(0, 4, (.tmp 5)), (36, 1, (.const (.int .u64 5)))], none, [], false⟩,
      ⟨(some 7), .build [(.int .u8 0), (.int .u8 0), (.int .u8 0), (.int .u8 0)] [(3, 1, (.const (.int .u8 2)))], none, [], false⟩,
      ⟨(some 8), .build (z32 ++ [(.int .u8 0), (.int .u8 0), (.int .u8 0), (.int .u8 0), (.int .u64 0)]) [(0, 4, (.tmp 7)), (36, 1, (.const (.int .u64 1)))], none, [], false⟩,
      ⟨none, .store 37 (.tmp 0) (.tmp 4), none, [], false⟩,
      ⟨none, .store 37 (.tmp 1) (.tmp 6), none, [], false⟩,
      ⟨none, .store 37 (.tmp 2) (.tmp 8), none, [], false⟩]) .ret))
noncomputable def landfalllaw08_three : AFunc := ⟨9, [(0, some (some 37)), (1, some (some 37)), (2, some (some 37))], landfalllaw08_three_c, none⟩
theorem landfalllaw08_three_t0 : tableOf Try.prog 19 = some landfalllaw08_three := by kernel_rfl
theorem landfalllaw08_three_t : T0 19 = some landfalllaw08_three := withKept_t rfl (withTrue_t rfl landfalllaw08_three_t0)


/-! 20 landfall/landfallkit.SameBytes -/
abbrev fn_landfallkit_SameBytes : FuncId := 20
noncomputable def landfallkit_SameBytes_c : ACode :=
  (.seq (.region [
      ⟨(some 4), .mov (.const (.bool false)), none, [], false⟩]) (.seq (.region [
      ⟨(some 5), .mov (.tmp 0), none, [], false⟩,
      ⟨(some 6), .bytesToStr (.tmp 5), none, [], false⟩,
      ⟨(some 7), .mov (.tmp 1), none, [], false⟩,
      ⟨(some 8), .bytesToStr (.tmp 7), none, [], false⟩,
      ⟨(some 9), .bin .eql (so (.binOp .eql 9 (.tmp 6) (.tmp 8) 9) 4) (.tmp 6) (.tmp 8), none, [], false⟩,
      ⟨(some 4), .mov (.tmp 9), none, [], false⟩]) .ret))
noncomputable def landfallkit_SameBytes : AFunc := ⟨10, [(4, none)], landfallkit_SameBytes_c, none⟩
theorem landfallkit_SameBytes_t0 : tableOf Try.prog 20 = some landfallkit_SameBytes := by kernel_rfl
theorem landfallkit_SameBytes_t : T0 20 = some landfallkit_SameBytes := withKept_t rfl (withTrue_t rfl landfallkit_SameBytes_t0)


/-! 21 landfall/landfallkit.SameSigs -/
abbrev fn_landfallkit_SameSigs : FuncId := 21
noncomputable def landfallkit_SameSigs_l0 : ACode :=
  (.seq (.seq (.region [
      ⟨(some 12), .mov (.tmp 5), none, [], false⟩,
      ⟨(some 13), .mov (.tmp 12), none, [], false⟩,
      ⟨(some 14), .mov (.tmp 6), (some (13, true)), [], false⟩,
      ⟨(some 15), .mov (.tmp 0), (some (13, true)), [], false⟩,
      ⟨(some 16), .lenSl (.tmp 15), (some (13, true)), [], false⟩,
      ⟨(some 17), .bin .lss (so (.binOp .lss 3 (.tmp 14) (.tmp 16) 3) 4) (.tmp 14) (.tmp 16), (some (13, true)), [], false⟩,
      ⟨(some 18), .pick (.tmp 13) (.tmp 17) (.const (.bool false)), none, [], false⟩]) (.cond (.tmp 18)
    .skip
    (.exit 0))) (.seq (.block 1 (.regionD [
      ⟨(some 21), .mov (.tmp 0), none, [], false⟩,
      ⟨(some 22), .mov (.tmp 6), none, [], false⟩,
      ⟨(some 23), .indexSl 37 (.tmp 21) (.tmp 22), none, [], false⟩,
      ⟨(some 24), .load (some 37) (.tmp 23), none, [], false⟩,
      ⟨(some 25), .mov (.tmp 1), none, [], false⟩,
      ⟨(some 26), .mov (.tmp 6), none, [], false⟩,
      ⟨(some 27), .indexSl 37 (.tmp 25) (.tmp 26), none, [], false⟩,
      ⟨(some 28), .load (some 37) (.tmp 27), none, [], false⟩,
      ⟨(some 29), .bin .eql (so (.binOp .eql 38 (.tmp 24) (.tmp 28) 38) 4) (.tmp 24) (.tmp 28), none, [], true⟩,
      ⟨(some 5), .mov (.tmp 29), none, [], true⟩])) (.region [
      ⟨(some 19), .mov (.tmp 6), none, [], false⟩,
      ⟨(some 20), .bin .add (so (.binOp .add 3 (.tmp 19) (.const (.int .i64 1)) 3) 3) (.tmp 19) (.const (.int .i64 1)), none, [], false⟩,
      ⟨(some 6), .mov (.tmp 20), none, [], false⟩])))
noncomputable def landfallkit_SameSigs_c : ACode :=
  (.seq (.region [
      ⟨(some 4), .mov (.const (.bool false)), none, [], false⟩]) (.seq (.region [
      ⟨(some 7), .mov (.tmp 0), none, [], false⟩,
      ⟨(some 8), .lenSl (.tmp 7), none, [], false⟩,
      ⟨(some 9), .mov (.tmp 1), none, [], false⟩,
      ⟨(some 10), .lenSl (.tmp 9), none, [], false⟩,
      ⟨(some 11), .bin .eql (so (.binOp .eql 3 (.tmp 8) (.tmp 10) 3) 4) (.tmp 8) (.tmp 10), none, [], false⟩,
      ⟨(some 5), .mov (.tmp 11), none, [], false⟩]) (.seq (.seq (.region [
      ⟨(some 6), .mov (.const (.int .i64 0)), none, [], false⟩]) (.block 0 (.loop landfallkit_SameSigs_l0))) (.seq (.region [
      ⟨(some 30), .mov (.tmp 5), none, [], false⟩,
      ⟨(some 4), .mov (.tmp 30), none, [], false⟩]) .ret))))
noncomputable def landfallkit_SameSigs : AFunc := ⟨31, [(4, none)], landfallkit_SameSigs_c, none⟩
theorem landfallkit_SameSigs_t0 : tableOf Try.prog 21 = some landfallkit_SameSigs := by kernel_rfl
theorem landfallkit_SameSigs_t : T0 21 = some landfallkit_SameSigs := withKept_t rfl (withTrue_t rfl landfallkit_SameSigs_t0)


/-! 22 landfall/landfalllaw08.sameKeys -/
abbrev fn_landfalllaw08_sameKeys : FuncId := 22
noncomputable def landfalllaw08_sameKeys_l0 : ACode :=
  (.seq (.seq (.region [
      ⟨(some 12), .mov (.tmp 5), none, [], false⟩,
      ⟨(some 13), .mov (.tmp 12), none, [], false⟩,
      ⟨(some 14), .mov (.tmp 6), (some (13, true)), [], false⟩,
      ⟨(some 15), .mov (.tmp 0), (some (13, true)), [], false⟩,
      ⟨(some 16), .lenSl (.tmp 15), (some (13, true)), [], false⟩,
      ⟨(some 17), .bin .lss (so (.binOp .lss 3 (.tmp 14) (.tmp 16) 3) 4) (.tmp 14) (.tmp 16), (some (13, true)), [], false⟩,
      ⟨(some 18), .pick (.tmp 13) (.tmp 17) (.const (.bool false)), none, [], false⟩]) (.cond (.tmp 18)
    .skip
    (.exit 0))) (.seq (.block 1 (.regionD [
      ⟨(some 21), .mov (.tmp 0), none, [], false⟩,
      ⟨(some 22), .mov (.tmp 6), none, [], false⟩,
      ⟨(some 23), .indexSl 4 (.tmp 21) (.tmp 22), none, [], false⟩,
      ⟨(some 24), .load (some 4) (.tmp 23), none, [], false⟩,
      ⟨(some 25), .mov (.tmp 1), none, [], false⟩,
      ⟨(some 26), .mov (.tmp 6), none, [], false⟩,
      ⟨(some 27), .indexSl 4 (.tmp 25) (.tmp 26), none, [], false⟩,
      ⟨(some 28), .load (some 4) (.tmp 27), none, [], false⟩,
      ⟨(some 29), .bin .eql (so (.binOp .eql 33 (.tmp 24) (.tmp 28) 33) 4) (.tmp 24) (.tmp 28), none, [], true⟩,
      ⟨(some 5), .mov (.tmp 29), none, [], true⟩])) (.region [
      ⟨(some 19), .mov (.tmp 6), none, [], false⟩,
      ⟨(some 20), .bin .add (so (.binOp .add 3 (.tmp 19) (.const (.int .i64 1)) 3) 3) (.tmp 19) (.const (.int .i64 1)), none, [], false⟩,
      ⟨(some 6), .mov (.tmp 20), none, [], false⟩])))
noncomputable def landfalllaw08_sameKeys_c : ACode :=
  (.seq (.region [
      ⟨(some 4), .mov (.const (.bool false)), none, [], false⟩]) (.seq (.region [
      ⟨(some 7), .mov (.tmp 0), none, [], false⟩,
      ⟨(some 8), .lenSl (.tmp 7), none, [], false⟩,
      ⟨(some 9), .mov (.tmp 1), none, [], false⟩,
      ⟨(some 10), .lenSl (.tmp 9), none, [], false⟩,
      ⟨(some 11), .bin .eql (so (.binOp .eql 3 (.tmp 8) (.tmp 10) 3) 4) (.tmp 8) (.tmp 10), none, [], false⟩,
      ⟨(some 5), .mov (.tmp 11), none, [], false⟩]) (.seq (.seq (.region [
      ⟨(some 6), .mov (.const (.int .i64 0)), none, [], false⟩]) (.block 0 (.loop landfalllaw08_sameKeys_l0))) (.seq (.region [
      ⟨(some 30), .mov (.tmp 5), none, [], false⟩,
      ⟨(some 4), .mov (.tmp 30), none, [], false⟩]) .ret))))
noncomputable def landfalllaw08_sameKeys : AFunc := ⟨31, [(4, none)], landfalllaw08_sameKeys_c, none⟩
theorem landfalllaw08_sameKeys_t0 : tableOf Try.prog 22 = some landfalllaw08_sameKeys := by kernel_rfl
theorem landfalllaw08_sameKeys_t : T0 22 = some landfalllaw08_sameKeys := withKept_t rfl (withTrue_t rfl landfalllaw08_sameKeys_t0)


/-! 23 landfall/landfalllaw08.wrong -/
abbrev fn_landfalllaw08_wrong : FuncId := 23
noncomputable def landfalllaw08_wrong_c : ACode :=
  (.seq (.region [
      ⟨(some 6), .mov (.const (.bool false)), none, [], false⟩]) (.seq (.region [
      ⟨(some 10), .mov (.tmp 0), none, [], false⟩,
      ⟨(some 11), .callV (.func 25) [(.tmp 10)], none, [], false⟩,
      ⟨(some 9), .mov (.tmp 11), none, [], false⟩,
      ⟨(some 12), .extract 0 (.tmp 9), none, [], false⟩,
      ⟨(some 13), .extract 1 (.tmp 9), none, [], false⟩,
      ⟨(some 8), .alloc 62 [(.int .i64 0), (.int .i64 0)], none, [], false⟩,
      ⟨(some 7), .mov (.tmp 12), none, [], false⟩,
      ⟨none, .store 2 (.tmp 8) (.tmp 13), none, [], false⟩]) (.seq (.region [
      ⟨(some 14), .mov (.tmp 7), none, [], false⟩,
      ⟨(some 15), .eq .ptr false (so (.binOp .eql 24 (.tmp 14) (.const (.pointer none)) 24) 4) (.tmp 14) (.const (.pointer none)), none, [], false⟩,
      ⟨(some 16), .mov (.tmp 15), none, [], false⟩,
      ⟨(some 17), .load (some 2) (.tmp 8), (some (16, true)), [], false⟩,
      ⟨(some 18), .mov (.tmp 1), (some (16, true)), [], false⟩,
      ⟨(some 19), .mov (.tmp 2), (some (16, true)), [], false⟩,
      ⟨(some 20), .build [(.int .i64 0), (.int .i64 0)] [(0, 1, (.tmp 18)), (1, 1, (.tmp 19))], (some (16, true)), [], false⟩,
      ⟨(some 21), .bin .eql (so (.binOp .eql 62 (.tmp 17) (.tmp 20) 62) 4) (.tmp 17) (.tmp 20), (some (16, true)), [], false⟩,
      ⟨(some 22), .pick (.tmp 16) (.tmp 21) (.const (.bool false)), none, [], false⟩,
      ⟨(some 6), .mov (.tmp 22), none, [], false⟩]) .ret)))
noncomputable def landfalllaw08_wrong : AFunc := ⟨23, [(6, none)], landfalllaw08_wrong_c, none⟩
theorem landfalllaw08_wrong_t0 : tableOf Try.prog 23 = some landfalllaw08_wrong := by kernel_rfl
theorem landfalllaw08_wrong_t : T0 23 = some landfalllaw08_wrong := withKept_t rfl (withTrue_t rfl landfalllaw08_wrong_t0)


/-! 25 landfall/sigs.Decode -/
abbrev fn_sigs_Decode : FuncId := 25
noncomputable def sigs_Decode_l0 : ACode :=
  (.seq (.region [
      ⟨(some 27), .bin .lss (so (.binOp .lss 3 (.tmp 26) (.tmp 25) 3) 4) (.tmp 26) (.tmp 25), none, [], false⟩]) (.seq (.cond (.tmp 27)
    .skip
    (.exit 0)) (.seq (.block 1 (.seq (.region [
      ⟨(some 28), .mov (.tmp 26), none, [], false⟩,
      ⟨(some 9), .mov (.tmp 28), none, [], false⟩]) (.seq (.region [
      ⟨(some 29), .mov (.tmp 0), none, [], false⟩,
      ⟨(some 30), .lenSl (.tmp 29), none, [], false⟩,
      ⟨(some 31), .mov (.tmp 4), none, [], false⟩,
      ⟨(some 32), .callV (.func 42) [(.tmp 31)], none, [], false⟩,
      ⟨(some 33), .bin .sub (so (.binOp .sub 3 (.tmp 30) (.tmp 32) 3) 3) (.tmp 30) (.tmp 32), none, [], false⟩,
      ⟨(some 10), .mov (.tmp 33), none, [], false⟩]) (.seq (.region [
      ⟨(some 34), .mov (.tmp 4), none, [], false⟩,
      ⟨(some 35), .callV (.func 43) [(.tmp 34)], none, [], false⟩,
      ⟨(some 36), .mov (.tmp 4), none, [], false⟩,
      ⟨(some 37), .callV (.func 44) [(.tmp 36)], none, [], false⟩,
      ⟨(some 38), .mov (.tmp 4), none, [], false⟩,
      ⟨(some 39), .callV (.func 45) [(.tmp 38)], none, [], false⟩,
      ⟨(some 40), .build (z32 ++ [(.int .u8 0), (.int .u8 0), (.int .u8 0), (.int .u8 0), (.int .u64 0)]) [(0, 4, (.tmp 35)), (4, 32, (.tmp 37)), (36, 1, (.tmp 39))], none, [], false⟩,
      ⟨(some 11), .alloc 70 (z32 ++ [(.int .u8 0), (.int .u8 0), (.int .u8 0), (.int .u8 0), (.int .u64 0)]), none, [], false⟩,
      ⟨none, .store 37 (.tmp 11) (.tmp 40), none, [], false⟩]) (.seq (.seq (.region [
      ⟨(some 41), .mov (.tmp 4), none, [], false⟩,
      ⟨(some 42), .callV (.func 46) [(.tmp 41)], none, [], false⟩,
      ⟨(some 12), .alloc 62 [(.int .i64 0), (.int .i64 0)], none, [], false⟩,
      ⟨none, .store 2 (.tmp 12) (.tmp 42), none, [], false⟩]) (.seq (.region [
      ⟨(some 43), .fieldAddr 0 (.tmp 12), none, [], false⟩,
      ⟨(some 44), .load none (.tmp 43), none, [], false⟩,
      ⟨(some 45), .bin .neq (so (.binOp .neq 25 (.tmp 44) (.const (.int .i64 0)) 25) 4) (.tmp 44) (.const (.int .i64 0)), none, [], false⟩,
      ⟨(some 46), .mov (.tmp 45), none, [], false⟩,
      ⟨(some 47), .fieldAddr 0 (.tmp 12), (some (46, true)), [], false⟩,
      ⟨(some 48), .load none (.tmp 47), (some (46, true)), [], false⟩,
      ⟨(some 49), .bin .neq (so (.binOp .neq 25 (.tmp 48) (.const (.int .i64 4)) 25) 4) (.tmp 48) (.const (.int .i64 4)), (some (46, true)), [], false⟩,
      ⟨(some 50), .pick (.tmp 46) (.tmp 49) (.const (.bool false)), none, [], false⟩]) (.cond (.tmp 50)
    (.seq (.regionD [
      ⟨(some 51), .load (some 2) (.tmp 12), none, [], false⟩,
      ⟨(some 2), .mov (.const (.pointer none)), none, [], false⟩,
      ⟨none, .store 2 (.tmp 3) (.tmp 51), none, [], true⟩]) .ret)
    .skip))) (.seq (.seq (.region [
      ⟨(some 52), .mov (.tmp 9), none, [], false⟩,
      ⟨(some 53), .bin .gtr (so (.binOp .gtr 3 (.tmp 52) (.const (.int .i64 0)) 3) 4) (.tmp 52) (.const (.int .i64 0)), none, [], false⟩,
      ⟨(some 54), .mov (.tmp 53), none, [], false⟩,
      ⟨(some 55), .load (some 37) (.tmp 8), (some (54, true)), [], false⟩,
      ⟨(some 56), .load (some 37) (.tmp 11), (some (54, true)), [], false⟩,
      ⟨(some 57), .callV (.func 47) [(.tmp 55), (.tmp 56)], (some (54, true)), [], false⟩,
      ⟨(some 58), .bin .geq (so (.binOp .geq 3 (.tmp 57) (.const (.int .i64 0)) 3) 4) (.tmp 57) (.const (.int .i64 0)), (some (54, true)), [], false⟩,
      ⟨(some 59), .pick (.tmp 54) (.tmp 58) (.const (.bool false)), none, [], false⟩]) (.cond (.tmp 59)
    (.seq (.region [
      ⟨(some 60), .mov (.tmp 10), none, [], false⟩,
      ⟨(some 61), .build [(.int .i64 0), (.int .i64 0)] [(0, 1, (.const (.int .i64 9))), (1, 1, (.tmp 60))], none, [], false⟩,
      ⟨(some 2), .mov (.const (.pointer none)), none, [], false⟩,
      ⟨none, .store 2 (.tmp 3) (.tmp 61), none, [], false⟩]) .ret)
    .skip)) (.seq (.region [
      ⟨(some 62), .load (some 37) (.tmp 11), none, [], false⟩,
      ⟨none, .store 37 (.tmp 8) (.tmp 62), none, [], false⟩]) (.regionD [
      ⟨(some 63), .mov (.tmp 6), none, [], false⟩,
      ⟨(some 64), .nilCheck (.tmp 63), none, [], false⟩,
      ⟨(some 65), .fieldAddr 1 (.tmp 64), none, [], false⟩,
      ⟨(some 66), .load none (.tmp 65), none, [], false⟩,
      ⟨(some 67), .load (some 37) (.tmp 11), none, [], false⟩,
      ⟨(some 68), .build [] [], none, [], false⟩,
      ⟨none, .mapUpdate (.slice 70) (.tmp 66) (.tmp 67) (.tmp 68), none, [], true⟩])))))))) (.region [
      ⟨(some 69), .bin .add (so (.binOp .add 3 (.tmp 26) (.const (.int .i64 1)) 3) 3) (.tmp 26) (.const (.int .i64 1)), none, [], false⟩,
      ⟨(some 26), .mov (.tmp 69), none, [], false⟩]))))
noncomputable def sigs_Decode_c : ACode :=
  (.seq (.region [
      ⟨(some 2), .mov (.const (.pointer none)), none, [], false⟩,
      ⟨(some 3), .alloc 62 [(.int .i64 0), (.int .i64 0)], none, [], false⟩]) (.seq (.region [
      ⟨(some 14), .mov (.tmp 0), none, [], false⟩,
      ⟨(some 15), .callV (.func 40) [(.tmp 14)], none, [], false⟩,
      ⟨(some 4), .mov (.tmp 15), none, [], false⟩]) (.seq (.region [
      ⟨(some 16), .mov (.tmp 4), none, [], false⟩,
      ⟨(some 17), .callV (.func 41) [(.tmp 16)], none, [], false⟩,
      ⟨(some 5), .mov (.tmp 17), none, [], false⟩]) (.seq (.seq (.region [
      ⟨(some 18), .mov (.tmp 5), none, [], false⟩,
      ⟨(some 19), .bin .gtr (so (.binOp .gtr 3 (.tmp 18) (.const (.int .i64 4096)) 3) 4) (.tmp 18) (.const (.int .i64 4096)), none, [], false⟩]) (.cond (.tmp 19)
    (.seq (.region [
      ⟨(some 20), .build [(.int .i64 0), (.int .i64 0)] [(0, 1, (.const (.int .i64 4)))], none, [], false⟩,
      ⟨(some 2), .mov (.const (.pointer none)), none, [], false⟩,
      ⟨none, .store 2 (.tmp 3) (.tmp 20), none, [], false⟩]) .ret)
    .skip)) (.seq (.region [
      ⟨(some 22), .callV (.func 9) [(.const (.int .i64 4096))], none, [], false⟩,
      ⟨(some 21), .mov (.tmp 22), none, [], false⟩,
      ⟨(some 23), .extract 0 (.tmp 21), none, [], false⟩,
      ⟨(some 24), .extract 1 (.tmp 21), none, [], false⟩,
      ⟨(some 6), .mov (.tmp 23), none, [], false⟩,
      ⟨(some 7), .mov (.tmp 24), none, [], false⟩]) (.seq (.region [
      ⟨(some 8), .alloc 70 (z32 ++ [(.int .u8 0), (.int .u8 0), (.int .u8 0), (.int .u8 0), (.int .u64 0)]), none, [], false⟩]) (.seq (.seq (.region [
      ⟨(some 25), .mov (.tmp 5), none, [], false⟩,
      ⟨(some 26), .mov (.const (.int .i64 0)), none, [], false⟩]) (.block 0 (.loop sigs_Decode_l0))) (.seq (.seq (.region [
      ⟨(some 70), .mov (.tmp 4), none, [], false⟩,
      ⟨(some 71), .callV (.func 46) [(.tmp 70)], none, [], false⟩,
      ⟨(some 13), .alloc 62 [(.int .i64 0), (.int .i64 0)], none, [], false⟩,
      ⟨none, .store 2 (.tmp 13) (.tmp 71), none, [], false⟩]) (.seq (.region [
      ⟨(some 72), .load (some 2) (.tmp 13), none, [], false⟩,
      ⟨(some 73), .build [(.int .i64 0), (.int .i64 0)] [], none, [], false⟩,
      ⟨(some 74), .bin .neq (so (.binOp .neq 62 (.tmp 72) (.tmp 73) 62) 4) (.tmp 72) (.tmp 73), none, [], false⟩]) (.cond (.tmp 74)
    (.seq (.regionD [
      ⟨(some 75), .load (some 2) (.tmp 13), none, [], false⟩,
      ⟨(some 2), .mov (.const (.pointer none)), none, [], false⟩,
      ⟨none, .store 2 (.tmp 3) (.tmp 75), none, [], true⟩]) .ret)
    .skip))) (.seq (.region [
      ⟨(some 76), .mov (.tmp 6), none, [], false⟩,
      ⟨(some 77), .build [(.int .i64 0), (.int .i64 0)] [], none, [], false⟩,
      ⟨(some 2), .mov (.tmp 76), none, [], false⟩,
      ⟨none, .store 2 (.tmp 3) (.tmp 77), none, [], false⟩]) .ret)))))))))
noncomputable def sigs_Decode : AFunc := ⟨78, [(2, none), (3, some (some 2))], sigs_Decode_c, none⟩
theorem sigs_Decode_t0 : tableOf Try.prog 25 = some sigs_Decode := by kernel_rfl
theorem sigs_Decode_t : T0 25 = some sigs_Decode := withKept_t rfl (withTrue_t rfl sigs_Decode_t0)


/-! 26 (*landfall/sigs.Table).none -/
abbrev fn_sigs_Table_none : FuncId := 26
noncomputable def sigs_Table_none_c : ACode :=
  (.seq (.region [
      ⟨(some 2), .mov (.const (.bool false)), none, [], false⟩]) (.seq (.region [
      ⟨(some 3), .mov (.tmp 0), none, [], false⟩,
      ⟨(some 4), .eq .ptr false (so (.binOp .eql 24 (.tmp 3) (.const (.pointer none)) 24) 4) (.tmp 3) (.const (.pointer none)), none, [], false⟩,
      ⟨(some 5), .mov (.tmp 4), none, [], false⟩,
      ⟨(some 6), .mov (.tmp 0), (some (5, false)), [], false⟩,
      ⟨(some 7), .nilCheck (.tmp 6), (some (5, false)), [], false⟩,
      ⟨(some 8), .fieldAddr 1 (.tmp 7), (some (5, false)), [], false⟩,
      ⟨(some 9), .load none (.tmp 8), (some (5, false)), [], false⟩,
      ⟨(some 10), .eq .map false (so (.binOp .eql 41 (.tmp 9) (.const (.map none)) 41) 4) (.tmp 9) (.const (.map none)), (some (5, false)), [], false⟩,
      ⟨(some 11), .pick (.tmp 5) (.const (.bool true)) (.tmp 10), none, [], false⟩,
      ⟨(some 2), .mov (.tmp 11), none, [], false⟩]) .ret))
noncomputable def sigs_Table_none : AFunc := ⟨12, [(2, none)], sigs_Table_none_c, none⟩
theorem sigs_Table_none_t0 : tableOf Try.prog 26 = some sigs_Table_none := by kernel_rfl
theorem sigs_Table_none_t : T0 26 = some sigs_Table_none := withKept_t rfl (withTrue_t rfl sigs_Table_none_t0)


/-! 32 landfall/wire.NewWriter -/
abbrev fn_wire_NewWriter : FuncId := 32
noncomputable def wire_NewWriter_c : ACode :=
  (.seq (.region [
      ⟨(some 2), .mov (.const (.pointer none)), none, [], false⟩,
      ⟨(some 3), .mov (.const (.int .i64 0)), none, [], false⟩]) (.seq (.seq (.region [
      ⟨(some 4), .mov (.tmp 0), none, [], false⟩,
      ⟨(some 5), .bin .lss (so (.binOp .lss 3 (.tmp 4) (.const (.int .i64 0)) 3) 4) (.tmp 4) (.const (.int .i64 0)), none, [], false⟩,
      ⟨(some 6), .mov (.tmp 5), none, [], false⟩,
      ⟨(some 7), .mov (.tmp 0), (some (6, false)), [], false⟩,
      ⟨(some 8), .bin .gtr (so (.binOp .gtr 3 (.tmp 7) (.const (.int .i64 1048576)) 3) 4) (.tmp 7) (.const (.int .i64 1048576)), (some (6, false)), [], false⟩,
      ⟨(some 9), .pick (.tmp 6) (.const (.bool true)) (.tmp 8), none, [], false⟩]) (.cond (.tmp 9)
    (.seq (.region [
      ⟨(some 2), .mov (.const (.pointer none)), none, [], false⟩,
      ⟨(some 3), .mov (.const (.int .i64 3)), none, [], false⟩]) .ret)
    .skip)) (.seq (.region [
      ⟨(some 10), .mov (.tmp 0), none, [], false⟩,
      ⟨(some 11), .build [(.int .i64 0), (.slice none 0 0), (.int .i64 0), (.bool false)] [(0, 1, (.tmp 10)), (3, 1, (.const (.bool true)))], none, [], false⟩,
      ⟨(some 12), .box 97 (.tmp 11), none, [], false⟩,
      ⟨(some 2), .mov (.tmp 12), none, [], false⟩,
      ⟨(some 3), .mov (.const (.int .i64 0)), none, [], false⟩]) .ret)))
noncomputable def wire_NewWriter : AFunc := ⟨13, [(2, none), (3, none)], wire_NewWriter_c, none⟩
theorem wire_NewWriter_t0 : tableOf Try.prog 32 = some wire_NewWriter := by kernel_rfl
theorem wire_NewWriter_t : T0 32 = some wire_NewWriter := withKept_t rfl (withTrue_t rfl wire_NewWriter_t0)


/-! 33 (*landfall/wire.Writer).Num -/
abbrev fn_wire_Writer_Num : FuncId := 33
noncomputable def wire_Writer_Num_c : ACode :=
  (.seq (.region [
      ⟨(some 4), .mov (.const (.int .i64 0)), none, [], false⟩]) (.seq (.region [
      ⟨(some 5), .mov (.tmp 0), none, [], false⟩,
      ⟨(some 6), .mov (.tmp 1), none, [], false⟩,
      ⟨(some 7), .bin .geq (so (.binOp .geq 3 (.tmp 6) (.const (.int .i64 0)) 3) 4) (.tmp 6) (.const (.int .i64 0)), none, [], false⟩,
      ⟨(some 8), .mov (.tmp 1), none, [], false⟩,
      ⟨(some 9), .raw (so (.call ⟨.builtin .max, #[(.tmp 8), (.const (.int .i64 0))], #[3, 3]⟩) 3), none, [], false⟩,
      ⟨(some 10), .callV (.func 55) [(.tmp 9)], none, [], false⟩,
      ⟨(some 11), .buildSlice 45 [(.slice none 0 0)] 1 [(0, 1, (.tmp 10))], none, [], false⟩,
      ⟨(some 12), .callV (.func 54) [(.tmp 5), (.tmp 7), (.tmp 11)], none, [], false⟩,
      ⟨(some 4), .mov (.tmp 12), none, [], false⟩]) .ret))
noncomputable def wire_Writer_Num : AFunc := ⟨13, [(4, none)], wire_Writer_Num_c, none⟩
theorem wire_Writer_Num_t0 : tableOf Try.prog 33 = some wire_Writer_Num := by kernel_rfl
theorem wire_Writer_Num_t : T0 33 = some wire_Writer_Num := withKept_t rfl (withTrue_t rfl wire_Writer_Num_t0)


/-! 34 (*landfall/sigs.Table).sorted -/
abbrev fn_sigs_Table_sorted : FuncId := 34
noncomputable def sigs_Table_sorted_c : ACode :=
  (.seq (.region [
      ⟨(some 2), .mov (.const (.slice none 0 0)), none, [], false⟩]) (.seq (.region [
      ⟨(some 3), .mov (.tmp 0), none, [], false⟩,
      ⟨(some 4), .nilCheck (.tmp 3), none, [], false⟩,
      ⟨(some 5), .fieldAddr 1 (.tmp 4), none, [], false⟩,
      ⟨(some 6), .load none (.tmp 5), none, [], false⟩,
      ⟨(some 7), .callV (.func 57) [(.tmp 6)], none, [], false⟩,
      ⟨(some 8), .callV (.func 56) [(.tmp 7), (.func 47)], none, [], false⟩,
      ⟨(some 2), .mov (.tmp 8), none, [], false⟩]) .ret))
noncomputable def sigs_Table_sorted : AFunc := ⟨9, [(2, none)], sigs_Table_sorted_c, none⟩
theorem sigs_Table_sorted_t0 : tableOf Try.prog 34 = some sigs_Table_sorted := by kernel_rfl
theorem sigs_Table_sorted_t : T0 34 = some sigs_Table_sorted := withKept_t rfl (withTrue_t rfl sigs_Table_sorted_t0)


/-! 35 (*landfall/wire.Writer).Key -/
abbrev fn_wire_Writer_Key : FuncId := 35
noncomputable def wire_Writer_Key_c : ACode :=
  (.seq (.region [
      ⟨(some 3), .box 33 (.tmp 1), none, [], false⟩,
      ⟨(some 4), .mov (.const (.int .i64 0)), none, [], false⟩]) (.seq (.region [
      ⟨(some 5), .mov (.tmp 0), none, [], false⟩,
      ⟨(some 6), .sliceArr 4 1 (.tmp 3) none none, none, [], false⟩,
      ⟨(some 7), .buildSlice 45 [(.slice none 0 0)] 1 [(0, 1, (.tmp 6))], none, [], false⟩,
      ⟨(some 8), .callV (.func 54) [(.tmp 5), (.const (.bool true)), (.tmp 7)], none, [], false⟩,
      ⟨(some 4), .mov (.tmp 8), none, [], false⟩]) .ret))
noncomputable def wire_Writer_Key : AFunc := ⟨9, [(4, none)], wire_Writer_Key_c, none⟩
theorem wire_Writer_Key_t0 : tableOf Try.prog 35 = some wire_Writer_Key := by kernel_rfl
theorem wire_Writer_Key_t : T0 35 = some wire_Writer_Key := withKept_t rfl (withTrue_t rfl wire_Writer_Key_t0)


/-! 36 (*landfall/wire.Writer).Hash -/
abbrev fn_wire_Writer_Hash : FuncId := 36
noncomputable def wire_Writer_Hash_c : ACode :=
  (.seq (.region [
      ⟨(some 3), .box 35 (.tmp 1), none, [], false⟩,
      ⟨(some 4), .mov (.const (.int .i64 0)), none, [], false⟩]) (.seq (.region [
      ⟨(some 5), .mov (.tmp 0), none, [], false⟩,
      ⟨(some 6), .sliceArr 32 1 (.tmp 3) none none, none, [], false⟩,
      ⟨(some 7), .buildSlice 45 [(.slice none 0 0)] 1 [(0, 1, (.tmp 6))], none, [], false⟩,
      ⟨(some 8), .callV (.func 54) [(.tmp 5), (.const (.bool true)), (.tmp 7)], none, [], false⟩,
      ⟨(some 4), .mov (.tmp 8), none, [], false⟩]) .ret))
noncomputable def wire_Writer_Hash : AFunc := ⟨9, [(4, none)], wire_Writer_Hash_c, none⟩
theorem wire_Writer_Hash_t0 : tableOf Try.prog 36 = some wire_Writer_Hash := by kernel_rfl
theorem wire_Writer_Hash_t : T0 36 = some wire_Writer_Hash := withKept_t rfl (withTrue_t rfl wire_Writer_Hash_t0)


/-! 37 (*landfall/wire.Writer).Word -/
abbrev fn_wire_Writer_Word : FuncId := 37
noncomputable def wire_Writer_Word_c : ACode :=
  (.seq (.region [
      ⟨(some 4), .mov (.const (.int .i64 0)), none, [], false⟩]) (.seq (.region [
      ⟨(some 6), .mov (.tmp 1), none, [], false⟩,
      ⟨(some 7), .callV (.func 58) [(.tmp 6)], none, [], false⟩,
      ⟨(some 5), .alloc 105 [(.int .u8 0), (.int .u8 0), (.int .u8 0), (.int .u8 0), (.int .u8 0), (.int .u8 0), (.int .u8 0), (.int .u8 0)], none, [], false⟩,
      ⟨none, .store 8 (.tmp 5) (.tmp 7), none, [], false⟩]) (.seq (.region [
      ⟨(some 8), .mov (.tmp 0), none, [], false⟩,
      ⟨(some 9), .sliceArr 8 1 (.tmp 5) none none, none, [], false⟩,
      ⟨(some 10), .buildSlice 45 [(.slice none 0 0)] 1 [(0, 1, (.tmp 9))], none, [], false⟩,
      ⟨(some 11), .callV (.func 54) [(.tmp 8), (.const (.bool true)), (.tmp 10)], none, [], false⟩,
      ⟨(some 4), .mov (.tmp 11), none, [], false⟩]) .ret)))
noncomputable def wire_Writer_Word : AFunc := ⟨12, [(4, none)], wire_Writer_Word_c, none⟩
theorem wire_Writer_Word_t0 : tableOf Try.prog 37 = some wire_Writer_Word := by kernel_rfl
theorem wire_Writer_Word_t : T0 37 = some wire_Writer_Word := withKept_t rfl (withTrue_t rfl wire_Writer_Word_t0)


/-! 38 (*landfall/wire.Writer).Done -/
abbrev fn_wire_Writer_Done : FuncId := 38
noncomputable def wire_Writer_Done_c : ACode :=
  (.seq (.region [
      ⟨(some 2), .mov (.const (.slice none 0 0)), none, [], false⟩,
      ⟨(some 3), .mov (.const (.int .i64 0)), none, [], false⟩]) (.seq (.block 0 (.seq (.region [
      ⟨(some 5), .mov (.tmp 0), none, [], false⟩,
      ⟨(some 6), .eq .ptr false (so (.binOp .eql 73 (.tmp 5) (.const (.pointer none)) 73) 4) (.tmp 5) (.const (.pointer none)), none, [], false⟩,
      ⟨(some 7), .mov (.tmp 6), none, [], false⟩,
      ⟨(some 8), .mov (.tmp 0), (some (7, false)), [], false⟩,
      ⟨(some 9), .nilCheck (.tmp 8), (some (7, false)), [], false⟩,
      ⟨(some 10), .fieldAddr 3 (.tmp 9), (some (7, false)), [], false⟩,
      ⟨(some 11), .load none (.tmp 10), (some (7, false)), [], false⟩,
      ⟨(some 12), .raw (so (.unOp .not 4 (.tmp 11)) 4), (some (7, false)), [], false⟩,
      ⟨(some 13), .pick (.tmp 7) (.const (.bool true)) (.tmp 12), none, [], false⟩,
      ⟨(some 4), .mov (.tmp 13), none, [], false⟩]) (.cond (.tmp 4)
    (.seq (.region [
      ⟨(some 2), .mov (.const (.slice none 0 0)), none, [], false⟩,
      ⟨(some 3), .mov (.const (.int .i64 1)), none, [], false⟩]) .ret)
    (.seq (.region [
      ⟨(some 15), .mov (.tmp 0), none, [], false⟩,
      ⟨(some 16), .nilCheck (.tmp 15), none, [], false⟩,
      ⟨(some 17), .fieldAddr 2 (.tmp 16), none, [], false⟩,
      ⟨(some 18), .load none (.tmp 17), none, [], false⟩,
      ⟨(some 19), .bin .neq (so (.binOp .neq 25 (.tmp 18) (.const (.int .i64 0)) 25) 4) (.tmp 18) (.const (.int .i64 0)), none, [], false⟩,
      ⟨(some 14), .mov (.tmp 19), none, [], false⟩]) (.cond (.tmp 14)
    (.seq (.regionD [
      ⟨(some 20), .mov (.tmp 0), none, [], false⟩,
      ⟨(some 21), .nilCheck (.tmp 20), none, [], false⟩,
      ⟨(some 22), .fieldAddr 2 (.tmp 21), none, [], false⟩,
      ⟨(some 23), .load none (.tmp 22), none, [], false⟩,
      ⟨(some 2), .mov (.const (.slice none 0 0)), none, [], false⟩,
      ⟨(some 3), .mov (.tmp 23), none, [], true⟩]) .ret)
    .skip))))) (.seq (.region [
      ⟨(some 24), .mov (.tmp 0), none, [], false⟩,
      ⟨(some 25), .nilCheck (.tmp 24), none, [], false⟩,
      ⟨(some 26), .fieldAddr 1 (.tmp 25), none, [], false⟩,
      ⟨(some 27), .load none (.tmp 26), none, [], false⟩,
      ⟨(some 28), .callV (.func 59) [(.tmp 27)], none, [], false⟩,
      ⟨(some 2), .mov (.tmp 28), none, [], false⟩,
      ⟨(some 3), .mov (.const (.int .i64 0)), none, [], false⟩]) .ret)))
noncomputable def wire_Writer_Done : AFunc := ⟨29, [(2, none), (3, none)], wire_Writer_Done_c, none⟩
theorem wire_Writer_Done_t0 : tableOf Try.prog 38 = some wire_Writer_Done := by kernel_rfl
theorem wire_Writer_Done_t : T0 38 = some wire_Writer_Done := withKept_t rfl (withTrue_t rfl wire_Writer_Done_t0)


/-! 39 (*landfall/sigs.Table).over -/
abbrev fn_sigs_Table_over : FuncId := 39
noncomputable def sigs_Table_over_c : ACode :=
  (.seq (.region [
      ⟨(some 2), .box 24 (.tmp 0), none, [], false⟩,
      ⟨(some 3), .box 35 (.tmp 1), none, [], false⟩,
      ⟨(some 4), .mov (.const .nilFunc), none, [], false⟩]) (.seq (.region [
      ⟨(some 5), .mkFunc (.func 60) [] [(.tmp 2), (.tmp 3)], none, [], false⟩,
      ⟨(some 4), .mov (.tmp 5), none, [], false⟩]) .ret))
noncomputable def sigs_Table_over : AFunc := ⟨6, [(4, none)], sigs_Table_over_c, none⟩
theorem sigs_Table_over_t0 : tableOf Try.prog 39 = some sigs_Table_over := by kernel_rfl
theorem sigs_Table_over_t : T0 39 = some sigs_Table_over := withKept_t rfl (withTrue_t rfl sigs_Table_over_t0)


/-! 40 landfall/wire.NewReader -/
abbrev fn_wire_NewReader : FuncId := 40
noncomputable def wire_NewReader_c : ACode :=
  (.seq (.region [
      ⟨(some 2), .mov (.const (.pointer none)), none, [], false⟩]) (.seq (.region [
      ⟨(some 3), .mov (.tmp 0), none, [], false⟩,
      ⟨(some 4), .callV (.func 59) [(.tmp 3)], none, [], false⟩,
      ⟨(some 5), .build [(.slice none 0 0), (.int .i64 0), (.int .i64 0), (.int .i64 0), (.bool false)] [(0, 1, (.tmp 4)), (4, 1, (.const (.bool true)))], none, [], false⟩,
      ⟨(some 6), .box 110 (.tmp 5), none, [], false⟩,
      ⟨(some 2), .mov (.tmp 6), none, [], false⟩]) .ret))
noncomputable def wire_NewReader : AFunc := ⟨7, [(2, none)], wire_NewReader_c, none⟩
theorem wire_NewReader_t0 : tableOf Try.prog 40 = some wire_NewReader := by kernel_rfl
theorem wire_NewReader_t : T0 40 = some wire_NewReader := withKept_t rfl (withTrue_t rfl wire_NewReader_t0)


/-! 41 (*landfall/wire.Reader).Num -/
abbrev fn_wire_Reader_Num : FuncId := 41
noncomputable def wire_Reader_Num_c : ACode :=
  (.seq (.region [
      ⟨(some 2), .mov (.const (.int .i64 0)), none, [], false⟩]) (.seq (.region [
      ⟨(some 3), .mov (.tmp 0), none, [], false⟩,
      ⟨(some 4), .mov (.tmp 0), none, [], false⟩,
      ⟨(some 5), .mkFunc (.func 62) [(.tmp 4)] [], none, [], false⟩,
      ⟨(some 6), .callV (.func 61) [(.tmp 3), (.tmp 5)], none, [], false⟩,
      ⟨(some 2), .mov (.tmp 6), none, [], false⟩]) .ret))
noncomputable def wire_Reader_Num : AFunc := ⟨7, [(2, none)], wire_Reader_Num_c, none⟩
theorem wire_Reader_Num_t0 : tableOf Try.prog 41 = some wire_Reader_Num := by kernel_rfl
theorem wire_Reader_Num_t : T0 41 = some wire_Reader_Num := withKept_t rfl (withTrue_t rfl wire_Reader_Num_t0)


/-! 42 (*landfall/wire.Reader).Rest -/
abbrev fn_wire_Reader_Rest : FuncId := 42
noncomputable def wire_Reader_Rest_c : ACode :=
  (.seq (.region [
      ⟨(some 2), .mov (.const (.int .i64 0)), none, [], false⟩]) (.seq (.seq (.region [
      ⟨(some 3), .mov (.tmp 0), none, [], false⟩,
      ⟨(some 4), .eq .ptr false (so (.binOp .eql 86 (.tmp 3) (.const (.pointer none)) 86) 4) (.tmp 3) (.const (.pointer none)), none, [], false⟩,
      ⟨(some 5), .mov (.tmp 4), none, [], false⟩,
      ⟨(some 6), .mov (.tmp 0), (some (5, false)), [], false⟩,
      ⟨(some 7), .nilCheck (.tmp 6), (some (5, false)), [], false⟩,
      ⟨(some 8), .fieldAddr 4 (.tmp 7), (some (5, false)), [], false⟩,
      ⟨(some 9), .load none (.tmp 8), (some (5, false)), [], false⟩,
      ⟨(some 10), .raw (so (.unOp .not 4 (.tmp 9)) 4), (some (5, false)), [], false⟩,
      ⟨(some 11), .pick (.tmp 5) (.const (.bool true)) (.tmp 10), none, [], false⟩,
      ⟨(some 12), .mov (.tmp 11), none, [], false⟩,
      ⟨(some 13), .mov (.tmp 0), (some (12, false)), [], false⟩,
      ⟨(some 14), .nilCheck (.tmp 13), (some (12, false)), [], false⟩,
      ⟨(some 15), .fieldAddr 2 (.tmp 14), (some (12, false)), [], false⟩,
      ⟨(some 16), .fieldAddr 0 (.tmp 15), (some (12, false)), [], false⟩,
      ⟨(some 17), .load none (.tmp 16), (some (12, false)), [], false⟩,
      ⟨(some 18), .bin .neq (so (.binOp .neq 25 (.tmp 17) (.const (.int .i64 0)) 25) 4) (.tmp 17) (.const (.int .i64 0)), (some (12, false)), [], false⟩,
      ⟨(some 19), .pick (.tmp 12) (.const (.bool true)) (.tmp 18), none, [], false⟩]) (.cond (.tmp 19)
    (.seq (.region [
      ⟨(some 2), .mov (.const (.int .i64 0)), none, [], false⟩]) .ret)
    .skip)) (.seq (.regionD [
      ⟨(some 20), .mov (.tmp 0), none, [], false⟩,
      ⟨(some 21), .nilCheck (.tmp 20), none, [], false⟩,
      ⟨(some 22), .fieldAddr 0 (.tmp 21), none, [], false⟩,
      ⟨(some 23), .load none (.tmp 22), none, [], false⟩,
      ⟨(some 24), .lenSl (.tmp 23), none, [], false⟩,
      ⟨(some 25), .mov (.tmp 0), none, [], false⟩,
      ⟨(some 26), .nilCheck (.tmp 25), none, [], false⟩,
      ⟨(some 27), .fieldAddr 1 (.tmp 26), none, [], false⟩,
      ⟨(some 28), .load none (.tmp 27), none, [], false⟩,
      ⟨(some 29), .bin .sub (so (.binOp .sub 3 (.tmp 24) (.tmp 28) 3) 3) (.tmp 24) (.tmp 28), none, [], true⟩,
      ⟨(some 2), .mov (.tmp 29), none, [], true⟩]) .ret)))
noncomputable def wire_Reader_Rest : AFunc := ⟨30, [(2, none)], wire_Reader_Rest_c, none⟩
theorem wire_Reader_Rest_t0 : tableOf Try.prog 42 = some wire_Reader_Rest := by kernel_rfl
theorem wire_Reader_Rest_t : T0 42 = some wire_Reader_Rest := withKept_t rfl (withTrue_t rfl wire_Reader_Rest_t0)


/-! 43 (*landfall/wire.Reader).Key -/
abbrev fn_wire_Reader_Key : FuncId := 43
noncomputable def wire_Reader_Key_c : ACode :=
  (.seq (.region [
      ⟨(some 1), .box 86 (.tmp 0), none, [], false⟩,
      ⟨(some 2), .alloc 33 [(.int .u8 0), (.int .u8 0), (.int .u8 0), (.int .u8 0)], none, [], false⟩]) (.seq (.region [
      ⟨(some 3), .load none (.tmp 1), none, [], false⟩,
      ⟨(some 4), .mkFunc (.func 64) [] [(.tmp 1)], none, [], false⟩,
      ⟨(some 5), .callV (.func 63) [(.tmp 3), (.tmp 4)], none, [], false⟩,
      ⟨none, .store 4 (.tmp 2) (.tmp 5), none, [], false⟩]) .ret))
noncomputable def wire_Reader_Key : AFunc := ⟨6, [(2, some (some 4))], wire_Reader_Key_c, none⟩
theorem wire_Reader_Key_t0 : tableOf Try.prog 43 = some wire_Reader_Key := by kernel_rfl
theorem wire_Reader_Key_t : T0 43 = some wire_Reader_Key := withKept_t rfl (withTrue_t rfl wire_Reader_Key_t0)


/-! 44 (*landfall/wire.Reader).Hash -/
abbrev fn_wire_Reader_Hash : FuncId := 44
noncomputable def wire_Reader_Hash_c : ACode :=
  (.seq (.region [
      ⟨(some 1), .box 86 (.tmp 0), none, [], false⟩,
      ⟨(some 2), .alloc 35 z32, none, [], false⟩]) (.seq (.region [
      ⟨(some 3), .load none (.tmp 1), none, [], false⟩,
      ⟨(some 4), .mkFunc (.func 68) [] [(.tmp 1)], none, [], false⟩,
      ⟨(some 5), .callV (.func 67) [(.tmp 3), (.tmp 4)], none, [], false⟩,
      ⟨none, .store 32 (.tmp 2) (.tmp 5), none, [], false⟩]) .ret))
noncomputable def wire_Reader_Hash : AFunc := ⟨6, [(2, some (some 32))], wire_Reader_Hash_c, none⟩
theorem wire_Reader_Hash_t0 : tableOf Try.prog 44 = some wire_Reader_Hash := by kernel_rfl
theorem wire_Reader_Hash_t : T0 44 = some wire_Reader_Hash := withKept_t rfl (withTrue_t rfl wire_Reader_Hash_t0)


/-! 45 (*landfall/wire.Reader).Word -/
abbrev fn_wire_Reader_Word : FuncId := 45
noncomputable def wire_Reader_Word_c : ACode :=
  (.seq (.region [
      ⟨(some 1), .box 86 (.tmp 0), none, [], false⟩,
      ⟨(some 2), .mov (.const (.int .u64 0)), none, [], false⟩]) (.seq (.region [
      ⟨(some 3), .load none (.tmp 1), none, [], false⟩,
      ⟨(some 4), .mkFunc (.func 72) [] [(.tmp 1)], none, [], false⟩,
      ⟨(some 5), .callV (.func 71) [(.tmp 3), (.tmp 4)], none, [], false⟩,
      ⟨(some 2), .mov (.tmp 5), none, [], false⟩]) .ret))
noncomputable def wire_Reader_Word : AFunc := ⟨6, [(2, none)], wire_Reader_Word_c, none⟩
theorem wire_Reader_Word_t0 : tableOf Try.prog 45 = some wire_Reader_Word := by kernel_rfl
theorem wire_Reader_Word_t : T0 45 = some wire_Reader_Word := withKept_t rfl (withTrue_t rfl wire_Reader_Word_t0)


/-! 46 (*landfall/wire.Reader).End -/
abbrev fn_wire_Reader_End : FuncId := 46
noncomputable def wire_Reader_End_c : ACode :=
  (.seq (.region [
      ⟨(some 2), .alloc 62 [(.int .i64 0), (.int .i64 0)], none, [], false⟩]) (.seq (.block 0 (.seq (.region [
      ⟨(some 4), .mov (.tmp 0), none, [], false⟩,
      ⟨(some 5), .eq .ptr false (so (.binOp .eql 86 (.tmp 4) (.const (.pointer none)) 86) 4) (.tmp 4) (.const (.pointer none)), none, [], false⟩,
      ⟨(some 6), .mov (.tmp 5), none, [], false⟩,
      ⟨(some 7), .mov (.tmp 0), (some (6, false)), [], false⟩,
      ⟨(some 8), .nilCheck (.tmp 7), (some (6, false)), [], false⟩,
      ⟨(some 9), .fieldAddr 4 (.tmp 8), (some (6, false)), [], false⟩,
      ⟨(some 10), .load none (.tmp 9), (some (6, false)), [], false⟩,
      ⟨(some 11), .raw (so (.unOp .not 4 (.tmp 10)) 4), (some (6, false)), [], false⟩,
      ⟨(some 12), .pick (.tmp 6) (.const (.bool true)) (.tmp 11), none, [], false⟩,
      ⟨(some 3), .mov (.tmp 12), none, [], false⟩]) (.cond (.tmp 3)
    (.seq (.region [
      ⟨(some 13), .build [(.int .i64 0), (.int .i64 0)] [(0, 1, (.const (.int .i64 1)))], none, [], false⟩,
      ⟨none, .store 2 (.tmp 2) (.tmp 13), none, [], false⟩]) .ret)
    (.seq (.regionD [
      ⟨(some 15), .mov (.tmp 0), none, [], true⟩,
      ⟨(some 16), .nilCheck (.tmp 15), none, [], true⟩,
      ⟨(some 17), .fieldAddr 2 (.tmp 16), none, [], true⟩,
      ⟨(some 18), .fieldAddr 0 (.tmp 17), none, [], true⟩,
      ⟨(some 19), .load none (.tmp 18), none, [], true⟩,
      ⟨(some 20), .bin .eql (so (.binOp .eql 25 (.tmp 19) (.const (.int .i64 0)) 25) 4) (.tmp 19) (.const (.int .i64 0)), none, [], true⟩,
      ⟨(some 21), .mov (.tmp 20), none, [], true⟩,
      ⟨(some 22), .mov (.tmp 0), (some (21, true)), [], false⟩,
      ⟨(some 23), .nilCheck (.tmp 22), (some (21, true)), [], false⟩,
      ⟨(some 24), .fieldAddr 1 (.tmp 23), (some (21, true)), [], false⟩,
      ⟨(some 25), .load none (.tmp 24), (some (21, true)), [], false⟩,
      ⟨(some 26), .mov (.tmp 0), (some (21, true)), [], false⟩,
      ⟨(some 27), .nilCheck (.tmp 26), (some (21, true)), [], false⟩,
      ⟨(some 28), .fieldAddr 0 (.tmp 27), (some (21, true)), [], false⟩,
      ⟨(some 29), .load none (.tmp 28), (some (21, true)), [], false⟩,
      ⟨(some 30), .lenSl (.tmp 29), (some (21, true)), [], false⟩,
      ⟨(some 31), .bin .lss (so (.binOp .lss 3 (.tmp 25) (.tmp 30) 3) 4) (.tmp 25) (.tmp 30), (some (21, true)), [], true⟩,
      ⟨(some 32), .pick (.tmp 21) (.tmp 31) (.const (.bool false)), none, [], true⟩,
      ⟨(some 14), .mov (.tmp 32), none, [], true⟩]) (.cond (.tmp 14)
    (.seq (.region [
      ⟨(some 33), .mov (.tmp 0), none, [], false⟩,
      ⟨(some 34), .nilCheck (.tmp 33), none, [], false⟩,
      ⟨(some 35), .fieldAddr 1 (.tmp 34), none, [], false⟩,
      ⟨(some 36), .load none (.tmp 35), none, [], false⟩,
      ⟨(some 37), .build [(.int .i64 0), (.int .i64 0)] [(0, 1, (.const (.int .i64 4))), (1, 1, (.tmp 36))], none, [], false⟩,
      ⟨none, .store 2 (.tmp 2) (.tmp 37), none, [], false⟩]) .ret)
    .skip))))) (.seq (.region [
      ⟨(some 38), .mov (.tmp 0), none, [], false⟩,
      ⟨(some 39), .nilCheck (.tmp 38), none, [], false⟩,
      ⟨(some 40), .fieldAddr 2 (.tmp 39), none, [], false⟩,
      ⟨(some 41), .load (some 2) (.tmp 40), none, [], false⟩,
      ⟨none, .store 2 (.tmp 2) (.tmp 41), none, [], false⟩]) .ret)))
noncomputable def wire_Reader_End : AFunc := ⟨42, [(2, some (some 2))], wire_Reader_End_c, none⟩
theorem wire_Reader_End_t0 : tableOf Try.prog 46 = some wire_Reader_End := by kernel_rfl
theorem wire_Reader_End_t : T0 46 = some wire_Reader_End := withKept_t rfl (withTrue_t rfl wire_Reader_End_t0)


/-! 47 (landfall/sigs.sig).compare -/
abbrev fn_sigs_sig_compare : FuncId := 47
noncomputable def sigs_sig_compare_c : ACode :=
  (.seq (.region [
      ⟨(some 2), .box 70 (.tmp 0), none, [], false⟩,
      ⟨(some 3), .box 70 (.tmp 1), none, [], false⟩,
      ⟨(some 4), .mov (.const (.int .i64 0)), none, [], false⟩]) (.seq (.regionD [
      ⟨(some 5), .fieldAddr 0 (.tmp 2), none, [], false⟩,
      ⟨(some 6), .sliceArr 4 1 (.tmp 5) none none, none, [], false⟩,
      ⟨(some 7), .fieldAddr 0 (.tmp 3), none, [], false⟩,
      ⟨(some 8), .sliceArr 4 1 (.tmp 7) none none, none, [], false⟩,
      ⟨(some 10), .fieldAddr 4 (.tmp 2), none, [], false⟩,
      ⟨(some 11), .sliceArr 32 1 (.tmp 10) none none, none, [], false⟩,
      ⟨(some 12), .fieldAddr 4 (.tmp 3), none, [], false⟩,
      ⟨(some 13), .sliceArr 32 1 (.tmp 12) none none, none, [], false⟩,
      ⟨(some 15), .fieldAddr 36 (.tmp 2), none, [], false⟩,
      ⟨(some 16), .load none (.tmp 15), none, [], false⟩,
      ⟨(some 17), .fieldAddr 36 (.tmp 3), none, [], false⟩,
      ⟨(some 18), .load none (.tmp 17), none, [], false⟩,
      ⟨(some 9), .callV (.func 76) [(.tmp 6), (.tmp 8)], none, [((some 18), .load none (.tmp 17), none), ((some 17), .fieldAddr 36 (.tmp 3), none), ((some 16), .load none (.tmp 15), none), ((some 15), .fieldAddr 36 (.tmp 2), none), ((some 13), .sliceArr 32 1 (.tmp 12) none none, none), ((some 12), .fieldAddr 4 (.tmp 3), none), ((some 11), .sliceArr 32 1 (.tmp 10) none none, none), ((some 10), .fieldAddr 4 (.tmp 2), none)], false⟩,
      ⟨(some 14), .callV (.func 76) [(.tmp 11), (.tmp 13)], none, [((some 18), .load none (.tmp 17), none), ((some 17), .fieldAddr 36 (.tmp 3), none), ((some 16), .load none (.tmp 15), none), ((some 15), .fieldAddr 36 (.tmp 2), none)], false⟩,
      ⟨(some 19), .callV (.func 77) [(.tmp 16), (.tmp 18)], none, [], true⟩,
      ⟨(some 20), .buildSlice 3 [(.int .i64 0), (.int .i64 0), (.int .i64 0)] 3 [(0, 1, (.tmp 9)), (1, 1, (.tmp 14)), (2, 1, (.tmp 19))], none, [], true⟩,
      ⟨(some 21), .callV (.func 75) [(.tmp 20)], none, [], true⟩,
      ⟨(some 4), .mov (.tmp 21), none, [], true⟩]) .ret))
noncomputable def sigs_sig_compare : AFunc := ⟨22, [(4, none)], sigs_sig_compare_c, none⟩
theorem sigs_sig_compare_t0 : tableOf Try.prog 47 = some sigs_sig_compare := by kernel_rfl
theorem sigs_sig_compare_t : T0 47 = some sigs_sig_compare := withKept_t rfl (withTrue_t rfl sigs_sig_compare_t0)


/-! 54 (*landfall/wire.Writer).put -/
abbrev fn_wire_Writer_put : FuncId := 54
noncomputable def wire_Writer_put_c : ACode :=
  (.seq (.region [
      ⟨(some 6), .mov (.const (.int .i64 0)), none, [], false⟩]) (.seq (.seq (.region [
      ⟨(some 8), .mov (.tmp 0), none, [], false⟩,
      ⟨(some 9), .eq .ptr false (so (.binOp .eql 73 (.tmp 8) (.const (.pointer none)) 73) 4) (.tmp 8) (.const (.pointer none)), none, [], false⟩,
      ⟨(some 10), .mov (.tmp 9), none, [], false⟩,
      ⟨(some 11), .mov (.tmp 0), (some (10, false)), [], false⟩,
      ⟨(some 12), .nilCheck (.tmp 11), (some (10, false)), [], false⟩,
      ⟨(some 13), .fieldAddr 3 (.tmp 12), (some (10, false)), [], false⟩,
      ⟨(some 14), .load none (.tmp 13), (some (10, false)), [], false⟩,
      ⟨(some 15), .raw (so (.unOp .not 4 (.tmp 14)) 4), (some (10, false)), [], false⟩,
      ⟨(some 16), .pick (.tmp 10) (.const (.bool true)) (.tmp 15), none, [], false⟩]) (.cond (.tmp 16)
    (.seq (.region [
      ⟨(some 6), .mov (.const (.int .i64 1)), none, [], false⟩]) .ret)
    .skip)) (.seq (.region [
      ⟨(some 17), .mov (.tmp 2), none, [], false⟩,
      ⟨(some 18), .callV (.func 81) [(.tmp 17)], none, [], false⟩,
      ⟨(some 7), .mov (.tmp 18), none, [], false⟩]) (.seq (.block 0 (.seq (.region [
      ⟨(some 29), .mov (.tmp 0), none, [], false⟩,
      ⟨(some 30), .nilCheck (.tmp 29), none, [], false⟩,
      ⟨(some 31), .fieldAddr 2 (.tmp 30), none, [], false⟩,
      ⟨(some 32), .load none (.tmp 31), none, [], false⟩,
      ⟨(some 33), .bin .neq (so (.binOp .neq 25 (.tmp 32) (.const (.int .i64 0)) 25) 4) (.tmp 32) (.const (.int .i64 0)), none, [], false⟩,
      ⟨(some 28), .mov (.tmp 33), none, [], false⟩]) (.cond (.tmp 28)
    .skip
    (.seq (.region [
      ⟨(some 35), .mov (.tmp 1), none, [], false⟩,
      ⟨(some 36), .raw (so (.unOp .not 4 (.tmp 35)) 4), none, [], false⟩,
      ⟨(some 34), .mov (.tmp 36), none, [], false⟩]) (.cond (.tmp 34)
    (.region [
      ⟨(some 37), .mov (.tmp 0), none, [], false⟩,
      ⟨(some 38), .nilCheck (.tmp 37), none, [], false⟩,
      ⟨(some 39), .fieldAddr 2 (.tmp 38), none, [], false⟩,
      ⟨none, .store 1 (.tmp 39) (.const (.int .i64 3)), none, [], false⟩])
    (.seq (.regionD [
      ⟨(some 41), .mov (.tmp 0), none, [], false⟩,
      ⟨(some 42), .nilCheck (.tmp 41), none, [], false⟩,
      ⟨(some 43), .fieldAddr 1 (.tmp 42), none, [], false⟩,
      ⟨(some 44), .load none (.tmp 43), none, [], false⟩,
      ⟨(some 45), .lenSl (.tmp 44), none, [], false⟩,
      ⟨(some 46), .mov (.tmp 7), none, [], false⟩,
      ⟨(some 47), .lenSl (.tmp 46), none, [], false⟩,
      ⟨(some 48), .bin .add (so (.binOp .add 3 (.tmp 45) (.tmp 47) 3) 3) (.tmp 45) (.tmp 47), none, [], false⟩,
      ⟨(some 49), .mov (.tmp 0), none, [], false⟩,
      ⟨(some 50), .nilCheck (.tmp 49), none, [], false⟩,
      ⟨(some 51), .fieldAddr 0 (.tmp 50), none, [], false⟩,
      ⟨(some 52), .load none (.tmp 51), none, [], false⟩,
      ⟨(some 53), .bin .gtr (so (.binOp .gtr 3 (.tmp 48) (.tmp 52) 3) 4) (.tmp 48) (.tmp 52), none, [], true⟩,
      ⟨(some 40), .mov (.tmp 53), none, [], true⟩]) (.cond (.tmp 40)
    (.region [
      ⟨(some 54), .mov (.tmp 0), none, [], false⟩,
      ⟨(some 55), .nilCheck (.tmp 54), none, [], false⟩,
      ⟨(some 56), .fieldAddr 2 (.tmp 55), none, [], false⟩,
      ⟨none, .store 1 (.tmp 56) (.const (.int .i64 4)), none, [], false⟩])
    (.region [
      ⟨(some 19), .mov (.tmp 0), none, [], false⟩,
      ⟨(some 20), .mov (.tmp 0), none, [], false⟩,
      ⟨(some 21), .nilCheck (.tmp 20), none, [], false⟩,
      ⟨(some 22), .fieldAddr 1 (.tmp 21), none, [], false⟩,
      ⟨(some 23), .load none (.tmp 22), none, [], false⟩,
      ⟨(some 24), .mov (.tmp 7), none, [], false⟩,
      ⟨(some 25), .append 5 1 1 [(.int .u8 0)] false (.tmp 23) (.tmp 24), none, [], false⟩,
      ⟨(some 26), .nilCheck (.tmp 19), none, [], false⟩,
      ⟨(some 27), .fieldAddr 1 (.tmp 26), none, [], false⟩,
      ⟨none, .store 1 (.tmp 27) (.tmp 25), none, [], false⟩])))))))) (.seq (.region [
      ⟨(some 57), .mov (.tmp 0), none, [], false⟩,
      ⟨(some 58), .nilCheck (.tmp 57), none, [], false⟩,
      ⟨(some 59), .fieldAddr 2 (.tmp 58), none, [], false⟩,
      ⟨(some 60), .load none (.tmp 59), none, [], false⟩,
      ⟨(some 6), .mov (.tmp 60), none, [], false⟩]) .ret)))))
noncomputable def wire_Writer_put : AFunc := ⟨61, [(6, none)], wire_Writer_put_c, none⟩
theorem wire_Writer_put_t0 : tableOf Try.prog 54 = some wire_Writer_put := by kernel_rfl
theorem wire_Writer_put_t : T0 54 = some wire_Writer_put := withKept_t rfl (withTrue_t rfl wire_Writer_put_t0)


/-! 55 landfall/wire.number -/
abbrev fn_wire_number : FuncId := 55
noncomputable def wire_number_l0 : ACode :=
  (.seq (.seq (.region [
      ⟨(some 5), .mov (.tmp 0), none, [], false⟩,
      ⟨(some 6), .bin .gtr (so (.binOp .gtr 3 (.tmp 5) (.const (.int .i64 0)) 3) 4) (.tmp 5) (.const (.int .i64 0)), none, [], false⟩]) (.cond (.tmp 6)
    .skip
    (.exit 0))) (.seq (.block 1 (.seq (.region [
      ⟨(some 9), .mov (.tmp 4), none, [], false⟩,
      ⟨(some 10), .bin .sub (so (.binOp .sub 3 (.const (.int .i64 8)) (.tmp 9) 3) 3) (.const (.int .i64 8)) (.tmp 9), none, [], false⟩,
      ⟨(some 11), .mov (.tmp 0), none, [], false⟩,
      ⟨(some 12), .conv .u8 (so (.convert 3 5 (.tmp 11)) 5) (.tmp 11), none, [], false⟩,
      ⟨(some 13), .indexArr 9 1 (.tmp 3) (.tmp 10), none, [], false⟩,
      ⟨none, .store 1 (.tmp 13) (.tmp 12), none, [], false⟩]) (.region [
      ⟨(some 14), .mov (.tmp 4), none, [], false⟩,
      ⟨(some 15), .bin .add (so (.binOp .add 3 (.tmp 14) (.const (.int .i64 1)) 3) 3) (.tmp 14) (.const (.int .i64 1)), none, [], false⟩,
      ⟨(some 4), .mov (.tmp 15), none, [], false⟩]))) (.region [
      ⟨(some 7), .mov (.tmp 0), none, [], false⟩,
      ⟨(some 8), .bin .shr (so (.binOp .shr 3 (.tmp 7) (.const (.int .u64 8)) 135) 3) (.tmp 7) (.const (.int .u64 8)), none, [], false⟩,
      ⟨(some 0), .mov (.tmp 8), none, [], false⟩])))
noncomputable def wire_number_c : ACode :=
  (.seq (.region [
      ⟨(some 2), .mov (.const (.slice none 0 0)), none, [], false⟩]) (.seq (.region [
      ⟨(some 3), .alloc 134 [(.int .u8 0), (.int .u8 0), (.int .u8 0), (.int .u8 0), (.int .u8 0), (.int .u8 0), (.int .u8 0), (.int .u8 0), (.int .u8 0)], none, [], false⟩]) (.seq (.region [
      ⟨(some 4), .mov (.const (.int .i64 0)), none, [], false⟩]) (.seq (.block 0 (.loop wire_number_l0)) (.seq (.region [
      ⟨(some 16), .mov (.tmp 4), none, [], false⟩,
      ⟨(some 17), .bin .sub (so (.binOp .sub 3 (.const (.int .i64 8)) (.tmp 16) 3) 3) (.const (.int .i64 8)) (.tmp 16), none, [], false⟩,
      ⟨(some 18), .mov (.tmp 4), none, [], false⟩,
      ⟨(some 19), .conv .u8 (so (.convert 3 5 (.tmp 18)) 5) (.tmp 18), none, [], false⟩,
      ⟨(some 20), .indexArr 9 1 (.tmp 3) (.tmp 17), none, [], false⟩,
      ⟨none, .store 1 (.tmp 20) (.tmp 19), none, [], false⟩]) (.seq (.region [
      ⟨(some 21), .mov (.tmp 4), none, [], false⟩,
      ⟨(some 22), .bin .sub (so (.binOp .sub 3 (.const (.int .i64 8)) (.tmp 21) 3) 3) (.const (.int .i64 8)) (.tmp 21), none, [], false⟩,
      ⟨(some 23), .sliceArr 9 1 (.tmp 3) (some (.tmp 22)) none, none, [], false⟩,
      ⟨(some 2), .mov (.tmp 23), none, [], false⟩]) .ret))))))
noncomputable def wire_number : AFunc := ⟨24, [(2, none)], wire_number_c, none⟩
theorem wire_number_t0 : tableOf Try.prog 55 = some wire_number := by kernel_rfl
theorem wire_number_t : T0 55 = some wire_number := withKept_t rfl (withTrue_t rfl wire_number_t0)


/-! 56 slices.SortedFunc[landfall/sigs.sig] -/
abbrev fn_slices_SortedFunc_sigs_sig_ : FuncId := 56
noncomputable def slices_SortedFunc_sigs_sig__c : ACode :=
  (.seq (.region [
      ⟨(some 4), .mov (.const (.slice none 0 0)), none, [], false⟩]) (.seq (.region [
      ⟨(some 6), .mov (.tmp 0), none, [], false⟩,
      ⟨(some 7), .callV (.func 82) [(.tmp 6)], none, [], false⟩,
      ⟨(some 5), .mov (.tmp 7), none, [], false⟩]) (.seq (.region [
      ⟨(some 8), .mov (.tmp 5), none, [], false⟩,
      ⟨(some 9), .mov (.tmp 1), none, [], false⟩,
      ⟨(some 10), .callV (.func 83) [(.tmp 8), (.tmp 9)], none, [], false⟩]) (.seq (.region [
      ⟨(some 11), .mov (.tmp 5), none, [], false⟩,
      ⟨(some 4), .mov (.tmp 11), none, [], false⟩]) .ret))))
noncomputable def slices_SortedFunc_sigs_sig_ : AFunc := ⟨12, [(4, none)], slices_SortedFunc_sigs_sig__c, none⟩
theorem slices_SortedFunc_sigs_sig__t0 : tableOf Try.prog 56 = some slices_SortedFunc_sigs_sig_ := by kernel_rfl
theorem slices_SortedFunc_sigs_sig__t : T0 56 = some slices_SortedFunc_sigs_sig_ := withKept_t rfl (withTrue_t rfl slices_SortedFunc_sigs_sig__t0)


/-! 57 maps.Keys[map[landfall/sigs.sig]landfall/sigs.held,landfall/sigs.sig,landfall/sigs.held] -/
abbrev fn_maps_Keys_map_sigs_sig_sigs_held_sigs_sig_sigs_held_ : FuncId := 57
noncomputable def maps_Keys_map_sigs_sig_sigs_held_sigs_sig_sigs_held__c : ACode :=
  (.seq (.region [
      ⟨(some 1), .box 41 (.tmp 0), none, [], false⟩,
      ⟨(some 2), .mov (.const .nilFunc), none, [], false⟩]) (.seq (.region [
      ⟨(some 3), .mkFunc (.func 84) [] [(.tmp 1)], none, [], false⟩,
      ⟨(some 2), .mov (.tmp 3), none, [], false⟩]) .ret))
noncomputable def maps_Keys_map_sigs_sig_sigs_held_sigs_sig_sigs_held_ : AFunc := ⟨4, [(2, none)], maps_Keys_map_sigs_sig_sigs_held_sigs_sig_sigs_held__c, none⟩
theorem maps_Keys_map_sigs_sig_sigs_held_sigs_sig_sigs_held__t0 : tableOf Try.prog 57 = some maps_Keys_map_sigs_sig_sigs_held_sigs_sig_sigs_held_ := by kernel_rfl
theorem maps_Keys_map_sigs_sig_sigs_held_sigs_sig_sigs_held__t : T0 57 = some maps_Keys_map_sigs_sig_sigs_held_sigs_sig_sigs_held_ := withKept_t rfl (withTrue_t rfl maps_Keys_map_sigs_sig_sigs_held_sigs_sig_sigs_held__t0)


/-! 58 landfall/wire.word -/
abbrev fn_wire_word : FuncId := 58
noncomputable def wire_word_l0 : ACode :=
  (.seq (.region [
      ⟨(some 6), .bin .lss (so (.binOp .lss 3 (.tmp 5) (.const (.int .i64 8)) 3) 4) (.tmp 5) (.const (.int .i64 8)), none, [], false⟩]) (.seq (.cond (.tmp 6)
    .skip
    (.exit 0)) (.seq (.block 1 (.seq (.region [
      ⟨(some 7), .mov (.tmp 5), none, [], false⟩,
      ⟨(some 4), .mov (.tmp 7), none, [], false⟩]) (.region [
      ⟨(some 8), .mov (.tmp 4), none, [], false⟩,
      ⟨(some 9), .bin .sub (so (.binOp .sub 3 (.const (.int .i64 7)) (.tmp 8) 3) 3) (.const (.int .i64 7)) (.tmp 8), none, [], false⟩,
      ⟨(some 10), .mov (.tmp 0), none, [], false⟩,
      ⟨(some 11), .mov (.tmp 4), none, [], false⟩,
      ⟨(some 12), .bin .mul (so (.binOp .mul 3 (.const (.int .i64 8)) (.tmp 11) 3) 3) (.const (.int .i64 8)) (.tmp 11), none, [], false⟩,
      ⟨(some 13), .bin .shr (so (.binOp .shr 36 (.tmp 10) (.tmp 12) 3) 36) (.tmp 10) (.tmp 12), none, [], false⟩,
      ⟨(some 14), .conv .u8 (so (.convert 36 5 (.tmp 13)) 5) (.tmp 13), none, [], false⟩,
      ⟨(some 15), .indexArr 8 1 (.tmp 3) (.tmp 9), none, [], false⟩,
      ⟨none, .store 1 (.tmp 15) (.tmp 14), none, [], false⟩]))) (.region [
      ⟨(some 16), .bin .add (so (.binOp .add 3 (.tmp 5) (.const (.int .i64 1)) 3) 3) (.tmp 5) (.const (.int .i64 1)), none, [], false⟩,
      ⟨(some 5), .mov (.tmp 16), none, [], false⟩]))))
noncomputable def wire_word_c : ACode :=
  (.seq (.region [
      ⟨(some 2), .alloc 105 [(.int .u8 0), (.int .u8 0), (.int .u8 0), (.int .u8 0), (.int .u8 0), (.int .u8 0), (.int .u8 0), (.int .u8 0)], none, [], false⟩]) (.seq (.region [
      ⟨(some 3), .alloc 105 [(.int .u8 0), (.int .u8 0), (.int .u8 0), (.int .u8 0), (.int .u8 0), (.int .u8 0), (.int .u8 0), (.int .u8 0)], none, [], false⟩]) (.seq (.seq (.region [
      ⟨(some 5), .mov (.const (.int .i64 0)), none, [], false⟩]) (.block 0 (.loop wire_word_l0))) (.seq (.region [
      ⟨(some 17), .load (some 8) (.tmp 3), none, [], false⟩,
      ⟨none, .store 8 (.tmp 2) (.tmp 17), none, [], false⟩]) .ret))))
noncomputable def wire_word : AFunc := ⟨18, [(2, some (some 8))], wire_word_c, none⟩
theorem wire_word_t0 : tableOf Try.prog 58 = some wire_word := by kernel_rfl
theorem wire_word_t : T0 58 = some wire_word := withKept_t rfl (withTrue_t rfl wire_word_t0)


/-! 59 slices.Clone[[]byte,byte] -/
abbrev fn_slices_Clone___byte_byte_ : FuncId := 59
noncomputable def slices_Clone___byte_byte__c : ACode :=
  (.seq (.region [
      ⟨(some 2), .mov (.const (.slice none 0 0)), none, [], false⟩]) (.seq (.seq (.region [
      ⟨(some 3), .mov (.tmp 0), none, [], false⟩,
      ⟨(some 4), .eq .slice false (so (.binOp .eql 45 (.tmp 3) (.const (.slice none 0 0)) 45) 4) (.tmp 3) (.const (.slice none 0 0)), none, [], false⟩]) (.cond (.tmp 4)
    (.seq (.region [
      ⟨(some 2), .mov (.const (.slice none 0 0)), none, [], false⟩]) .ret)
    .skip)) (.seq (.region [
      ⟨(some 5), .buildSlice 5 [] 0 [], none, [], false⟩,
      ⟨(some 6), .mov (.tmp 0), none, [], false⟩,
      ⟨(some 7), .append 5 1 1 [(.int .u8 0)] false (.tmp 5) (.tmp 6), none, [], false⟩,
      ⟨(some 2), .mov (.tmp 7), none, [], false⟩]) .ret)))
noncomputable def slices_Clone___byte_byte_ : AFunc := ⟨8, [(2, none)], slices_Clone___byte_byte__c, none⟩
theorem slices_Clone___byte_byte__t0 : tableOf Try.prog 59 = some slices_Clone___byte_byte_ := by kernel_rfl
theorem slices_Clone___byte_byte__t : T0 59 = some slices_Clone___byte_byte_ := withKept_t rfl (withTrue_t rfl slices_Clone___byte_byte__t0)


/-! 60 (*landfall/sigs.Table).over$1 -/
abbrev fn_sigs_Table_over_1 : FuncId := 60
noncomputable def sigs_Table_over_1_l0 : ACode :=
  (.seq (.region [
      ⟨(some 10), .bin .lss (so (.binOp .lss 3 (.tmp 9) (.tmp 8) 3) 0) (.tmp 9) (.tmp 8), none, [], false⟩]) (.seq (.cond (.tmp 10)
    .skip
    (.exit 0)) (.seq (.block 1 (.seq (.region [
      ⟨(some 11), .indexSl 37 (.tmp 7) (.tmp 9), none, [], false⟩,
      ⟨(some 12), .load (some 37) (.tmp 11), none, [], false⟩,
      ⟨(some 5), .alloc 70 (z32 ++ [(.int .u8 0), (.int .u8 0), (.int .u8 0), (.int .u8 0), (.int .u64 0)]), none, [], false⟩,
      ⟨none, .store 37 (.tmp 5) (.tmp 12), none, [], false⟩]) (.seq (.region [
      ⟨(some 13), .fieldAddr 4 (.tmp 5), none, [], false⟩,
      ⟨(some 14), .load (some 32) (.tmp 13), none, [], false⟩,
      ⟨(some 15), .load (some 32) (.tmp 2), none, [], false⟩,
      ⟨(some 16), .bin .eql (so (.binOp .eql 35 (.tmp 14) (.tmp 15) 35) 4) (.tmp 14) (.tmp 15), none, [], false⟩,
      ⟨(some 17), .mov (.tmp 16), none, [], false⟩,
      ⟨(some 18), .mov (.tmp 0), (some (17, true)), [], false⟩,
      ⟨(some 19), .fieldAddr 0 (.tmp 5), (some (17, true)), [], false⟩,
      ⟨(some 20), .load (some 4) (.tmp 19), (some (17, true)), [], false⟩,
      ⟨(some 21), .callV (.tmp 18) [(.tmp 20)], (some (17, true)), [], false⟩,
      ⟨(some 22), .raw (so (.unOp .not 4 (.tmp 21)) 4), (some (17, true)), [], false⟩,
      ⟨(some 23), .pick (.tmp 17) (.tmp 22) (.const (.bool false)), none, [], false⟩]) (.cond (.tmp 23)
    .ret
    .skip)))) (.region [
      ⟨(some 24), .bin .add (so (.binOp .add 3 (.tmp 9) (.const (.int .i64 1)) 3) 3) (.tmp 9) (.const (.int .i64 1)), none, [], false⟩,
      ⟨(some 9), .mov (.tmp 24), none, [], false⟩]))))
noncomputable def sigs_Table_over_1_c : ACode :=
  (.seq (.region [
      ⟨(some 6), .load none (.tmp 1), none, [], false⟩,
      ⟨(some 7), .callV (.func 34) [(.tmp 6)], none, [], false⟩,
      ⟨(some 8), .lenSl (.tmp 7), none, [], false⟩,
      ⟨(some 9), .mov (.const (.int .i64 0)), none, [], false⟩]) (.block 0 (.loop sigs_Table_over_1_l0)))
noncomputable def sigs_Table_over_1 : AFunc := ⟨25, [], sigs_Table_over_1_c, none⟩
theorem sigs_Table_over_1_t0 : tableOf Try.prog 60 = some sigs_Table_over_1 := by kernel_rfl
theorem sigs_Table_over_1_t : T0 60 = some sigs_Table_over_1 := withKept_t rfl (withTrue_t rfl sigs_Table_over_1_t0)


/-! 61 landfall/wire.reads[int] -/
abbrev fn_wire_reads_int_ : FuncId := 61
noncomputable def wire_reads_int__c : ACode :=
  (.seq (.region [
      ⟨(some 4), .mov (.const (.int .i64 0)), none, [], false⟩]) (.seq (.seq (.region [
      ⟨(some 5), .mov (.tmp 0), none, [], false⟩,
      ⟨(some 6), .eq .ptr false (so (.binOp .eql 86 (.tmp 5) (.const (.pointer none)) 86) 4) (.tmp 5) (.const (.pointer none)), none, [], false⟩,
      ⟨(some 7), .mov (.tmp 6), none, [], false⟩,
      ⟨(some 8), .mov (.tmp 0), (some (7, false)), [], false⟩,
      ⟨(some 9), .nilCheck (.tmp 8), (some (7, false)), [], false⟩,
      ⟨(some 10), .fieldAddr 4 (.tmp 9), (some (7, false)), [], false⟩,
      ⟨(some 11), .load none (.tmp 10), (some (7, false)), [], false⟩,
      ⟨(some 12), .raw (so (.unOp .not 4 (.tmp 11)) 4), (some (7, false)), [], false⟩,
      ⟨(some 13), .pick (.tmp 7) (.const (.bool true)) (.tmp 12), none, [], false⟩,
      ⟨(some 14), .mov (.tmp 13), none, [], false⟩,
      ⟨(some 15), .mov (.tmp 0), (some (14, false)), [], false⟩,
      ⟨(some 16), .nilCheck (.tmp 15), (some (14, false)), [], false⟩,
      ⟨(some 17), .fieldAddr 2 (.tmp 16), (some (14, false)), [], false⟩,
      ⟨(some 18), .fieldAddr 0 (.tmp 17), (some (14, false)), [], false⟩,
      ⟨(some 19), .load none (.tmp 18), (some (14, false)), [], false⟩,
      ⟨(some 20), .bin .neq (so (.binOp .neq 25 (.tmp 19) (.const (.int .i64 0)) 25) 4) (.tmp 19) (.const (.int .i64 0)), (some (14, false)), [], false⟩,
      ⟨(some 21), .pick (.tmp 14) (.const (.bool true)) (.tmp 20), none, [], false⟩]) (.cond (.tmp 21)
    (.seq (.region [
      ⟨(some 22), .mov (.tmp 4), none, [], false⟩,
      ⟨(some 4), .mov (.tmp 22), none, [], false⟩]) .ret)
    .skip)) (.seq (.region [
      ⟨(some 23), .mov (.tmp 0), none, [], false⟩,
      ⟨none, .defer (.func 85) [(.tmp 23)], none, [], false⟩]) (.seq (.region [
      ⟨(some 24), .mov (.tmp 1), none, [], false⟩,
      ⟨(some 25), .mov (.tmp 0), none, [], false⟩,
      ⟨(some 26), .nilCheck (.tmp 25), none, [], false⟩,
      ⟨(some 27), .fieldAddr 1 (.tmp 26), none, [], false⟩,
      ⟨(some 28), .load none (.tmp 27), none, [], false⟩,
      ⟨(some 29), .callV (.tmp 24) [(.tmp 28)], none, [], false⟩,
      ⟨(some 4), .mov (.tmp 29), none, [], false⟩]) .ret))))
noncomputable def wire_reads_int_ : AFunc := ⟨30, [(4, none)], wire_reads_int__c, none⟩
theorem wire_reads_int__t0 : tableOf Try.prog 61 = some wire_reads_int_ := by kernel_rfl
theorem wire_reads_int__t : T0 61 = some wire_reads_int_ := withKept_t rfl (withTrue_t rfl wire_reads_int__t0)


/-! 62 (*landfall/wire.Reader).num -/
abbrev fn_wire_Reader_num : FuncId := 62
noncomputable def wire_Reader_num_c : ACode :=
  (.seq (.region [
      ⟨(some 4), .mov (.const (.int .i64 0)), none, [], false⟩]) (.seq (.region [
      ⟨(some 8), .mov (.tmp 0), none, [], false⟩,
      ⟨(some 9), .mov (.tmp 1), none, [], false⟩,
      ⟨(some 10), .callV (.func 73) [(.tmp 8), (.const (.int .i64 1)), (.tmp 9), (.func 74)], none, [], false⟩,
      ⟨(some 11), .conv .i64 (so (.convert 36 3 (.tmp 10)) 3) (.tmp 10), none, [], false⟩,
      ⟨(some 5), .alloc 3 [(.int .i64 0)], none, [], false⟩,
      ⟨none, .store 1 (.tmp 5) (.tmp 11), none, [], false⟩]) (.seq (.region [
      ⟨(some 12), .load none (.tmp 5), none, [], false⟩,
      ⟨(some 13), .bin .leq (so (.binOp .leq 3 (.tmp 12) (.const (.int .i64 8)) 3) 4) (.tmp 12) (.const (.int .i64 8)), none, [], false⟩,
      ⟨(some 14), .mov (.tmp 1), none, [], false⟩,
      ⟨(some 15), .callV (.func 86) [(.tmp 13), (.const (.int .i64 5)), (.tmp 14)], none, [], false⟩]) (.seq (.region [
      ⟨(some 6), .alloc 5 [(.int .u8 0)], none, [], false⟩,
      ⟨none, .store 1 (.tmp 6) (.const (.int .u8 1)), none, [], false⟩]) (.seq (.region [
      ⟨(some 16), .mov (.tmp 0), none, [], false⟩,
      ⟨(some 17), .load none (.tmp 5), none, [], false⟩,
      ⟨(some 18), .mov (.tmp 1), none, [], false⟩,
      ⟨(some 19), .mkFunc (.func 87) [] [(.tmp 5), (.tmp 6)], none, [], false⟩,
      ⟨(some 20), .callV (.func 73) [(.tmp 16), (.tmp 17), (.tmp 18), (.tmp 19)], none, [], false⟩,
      ⟨(some 7), .mov (.tmp 20), none, [], false⟩]) (.seq (.region [
      ⟨(some 21), .load none (.tmp 6), none, [], false⟩,
      ⟨(some 22), .bin .neq (so (.binOp .neq 5 (.tmp 21) (.const (.int .u8 0)) 5) 4) (.tmp 21) (.const (.int .u8 0)), none, [], false⟩,
      ⟨(some 23), .mov (.tmp 22), none, [], false⟩,
      ⟨(some 24), .mov (.tmp 7), (some (23, true)), [], false⟩,
      ⟨(some 25), .bin .leq (so (.binOp .leq 36 (.tmp 24) (.const (.int .u64 9223372036854775807)) 36) 4) (.tmp 24) (.const (.int .u64 9223372036854775807)), (some (23, true)), [], false⟩,
      ⟨(some 26), .pick (.tmp 23) (.tmp 25) (.const (.bool false)), none, [], false⟩,
      ⟨(some 27), .mov (.tmp 1), none, [], false⟩,
      ⟨(some 28), .callV (.func 86) [(.tmp 26), (.const (.int .i64 5)), (.tmp 27)], none, [], false⟩]) (.seq (.region [
      ⟨(some 29), .mov (.tmp 7), none, [], false⟩,
      ⟨(some 30), .conv .i64 (so (.convert 36 3 (.tmp 29)) 3) (.tmp 29), none, [], false⟩,
      ⟨(some 4), .mov (.tmp 30), none, [], false⟩]) .ret)))))))
noncomputable def wire_Reader_num : AFunc := ⟨31, [(4, none)], wire_Reader_num_c, none⟩
theorem wire_Reader_num_t0 : tableOf Try.prog 62 = some wire_Reader_num := by kernel_rfl
theorem wire_Reader_num_t : T0 62 = some wire_Reader_num := withKept_t rfl (withTrue_t rfl wire_Reader_num_t0)


/-! 63 landfall/wire.reads[landfall/api.Key] -/
abbrev fn_wire_reads_api_Key_ : FuncId := 63
noncomputable def wire_reads_api_Key__c : ACode :=
  (.seq (.region [
      ⟨(some 4), .alloc 33 [(.int .u8 0), (.int .u8 0), (.int .u8 0), (.int .u8 0)], none, [], false⟩]) (.seq (.seq (.region [
      ⟨(some 5), .mov (.tmp 0), none, [], false⟩,
      ⟨(some 6), .eq .ptr false (so (.binOp .eql 86 (.tmp 5) (.const (.pointer none)) 86) 4) (.tmp 5) (.const (.pointer none)), none, [], false⟩,
      ⟨(some 7), .mov (.tmp 6), none, [], false⟩,
      ⟨(some 8), .mov (.tmp 0), (some (7, false)), [], false⟩,
      ⟨(some 9), .nilCheck (.tmp 8), (some (7, false)), [], false⟩,
      ⟨(some 10), .fieldAddr 4 (.tmp 9), (some (7, false)), [], false⟩,
      ⟨(some 11), .load none (.tmp 10), (some (7, false)), [], false⟩,
      ⟨(some 12), .raw (so (.unOp .not 4 (.tmp 11)) 4), (some (7, false)), [], false⟩,
      ⟨(some 13), .pick (.tmp 7) (.const (.bool true)) (.tmp 12), none, [], false⟩,
      ⟨(some 14), .mov (.tmp 13), none, [], false⟩,
      ⟨(some 15), .mov (.tmp 0), (some (14, false)), [], false⟩,
      ⟨(some 16), .nilCheck (.tmp 15), (some (14, false)), [], false⟩,
      ⟨(some 17), .fieldAddr 2 (.tmp 16), (some (14, false)), [], false⟩,
      ⟨(some 18), .fieldAddr 0 (.tmp 17), (some (14, false)), [], false⟩,
      ⟨(some 19), .load none (.tmp 18), (some (14, false)), [], false⟩,
      ⟨(some 20), .bin .neq (so (.binOp .neq 25 (.tmp 19) (.const (.int .i64 0)) 25) 4) (.tmp 19) (.const (.int .i64 0)), (some (14, false)), [], false⟩,
      ⟨(some 21), .pick (.tmp 14) (.const (.bool true)) (.tmp 20), none, [], false⟩]) (.cond (.tmp 21)
    (.seq (.region [
      ⟨(some 22), .load (some 4) (.tmp 4), none, [], false⟩,
      ⟨none, .store 4 (.tmp 4) (.tmp 22), none, [], false⟩]) .ret)
    .skip)) (.seq (.region [
      ⟨(some 23), .mov (.tmp 0), none, [], false⟩,
      ⟨none, .defer (.func 85) [(.tmp 23)], none, [], false⟩]) (.seq (.region [
      ⟨(some 24), .mov (.tmp 1), none, [], false⟩,
      ⟨(some 25), .mov (.tmp 0), none, [], false⟩,
      ⟨(some 26), .nilCheck (.tmp 25), none, [], false⟩,
      ⟨(some 27), .fieldAddr 1 (.tmp 26), none, [], false⟩,
      ⟨(some 28), .load none (.tmp 27), none, [], false⟩,
      ⟨(some 29), .callV (.tmp 24) [(.tmp 28)], none, [], false⟩,
      ⟨none, .store 4 (.tmp 4) (.tmp 29), none, [], false⟩]) .ret))))
noncomputable def wire_reads_api_Key_ : AFunc := ⟨30, [(4, some (some 4))], wire_reads_api_Key__c, none⟩
theorem wire_reads_api_Key__t0 : tableOf Try.prog 63 = some wire_reads_api_Key_ := by kernel_rfl
theorem wire_reads_api_Key__t : T0 63 = some wire_reads_api_Key_ := withKept_t rfl (withTrue_t rfl wire_reads_api_Key__t0)


/-! 64 (*landfall/wire.Reader).Key$1 -/
abbrev fn_wire_Reader_Key_1 : FuncId := 64
noncomputable def wire_Reader_Key_1_c : ACode :=
  (.seq (.region [
      ⟨(some 3), .alloc 33 [(.int .u8 0), (.int .u8 0), (.int .u8 0), (.int .u8 0)], none, [], false⟩]) (.seq (.region [
      ⟨(some 4), .load none (.tmp 1), none, [], false⟩,
      ⟨(some 5), .mov (.tmp 0), none, [], false⟩,
      ⟨(some 6), .callV (.func 65) [(.tmp 4), (.const (.int .i64 4)), (.tmp 5), (.func 66)], none, [], false⟩,
      ⟨none, .store 4 (.tmp 3) (.tmp 6), none, [], false⟩]) .ret))
noncomputable def wire_Reader_Key_1 : AFunc := ⟨7, [(3, some (some 4))], wire_Reader_Key_1_c, none⟩
theorem wire_Reader_Key_1_t0 : tableOf Try.prog 64 = some wire_Reader_Key_1 := by kernel_rfl
theorem wire_Reader_Key_1_t : T0 64 = some wire_Reader_Key_1 := withKept_t rfl (withTrue_t rfl wire_Reader_Key_1_t0)


/-! 65 landfall/wire.take[landfall/api.Key] -/
abbrev fn_wire_take_api_Key_ : FuncId := 65
noncomputable def wire_take_api_Key__c : ACode :=
  (.seq (.region [
      ⟨(some 8), .alloc 33 [(.int .u8 0), (.int .u8 0), (.int .u8 0), (.int .u8 0)], none, [], false⟩]) (.seq (.regionD [
      ⟨(some 9), .mov (.tmp 1), none, [], false⟩,
      ⟨(some 10), .mov (.tmp 0), none, [], false⟩,
      ⟨(some 11), .nilCheck (.tmp 10), none, [], false⟩,
      ⟨(some 12), .fieldAddr 0 (.tmp 11), none, [], false⟩,
      ⟨(some 13), .load none (.tmp 12), none, [], false⟩,
      ⟨(some 14), .lenSl (.tmp 13), none, [], false⟩,
      ⟨(some 15), .mov (.tmp 0), none, [], false⟩,
      ⟨(some 16), .nilCheck (.tmp 15), none, [], false⟩,
      ⟨(some 17), .fieldAddr 1 (.tmp 16), none, [], false⟩,
      ⟨(some 18), .load none (.tmp 17), none, [], false⟩,
      ⟨(some 19), .bin .sub (so (.binOp .sub 3 (.tmp 14) (.tmp 18) 3) 3) (.tmp 14) (.tmp 18), none, [], false⟩,
      ⟨(some 20), .bin .leq (so (.binOp .leq 3 (.tmp 9) (.tmp 19) 3) 4) (.tmp 9) (.tmp 19), none, [], false⟩,
      ⟨(some 21), .mov (.tmp 2), none, [], false⟩,
      ⟨(some 22), .callV (.func 86) [(.tmp 20), (.const (.int .i64 6)), (.tmp 21)], none, [], true⟩]) (.seq (.region [
      ⟨(some 23), .mov (.tmp 0), none, [], false⟩,
      ⟨(some 24), .nilCheck (.tmp 23), none, [], false⟩,
      ⟨(some 25), .fieldAddr 1 (.tmp 24), none, [], false⟩,
      ⟨(some 26), .load none (.tmp 25), none, [], false⟩,
      ⟨(some 27), .mov (.tmp 1), none, [], false⟩,
      ⟨(some 28), .bin .add (so (.binOp .add 3 (.tmp 26) (.tmp 27) 3) 3) (.tmp 26) (.tmp 27), none, [], false⟩,
      ⟨(some 29), .nilCheck (.tmp 23), none, [], false⟩,
      ⟨(some 30), .fieldAddr 1 (.tmp 29), none, [], false⟩,
      ⟨none, .store 1 (.tmp 30) (.tmp 28), none, [], false⟩]) (.seq (.regionD [
      ⟨(some 31), .mov (.tmp 3), none, [], false⟩,
      ⟨(some 32), .mov (.tmp 0), none, [], false⟩,
      ⟨(some 33), .nilCheck (.tmp 32), none, [], false⟩,
      ⟨(some 34), .fieldAddr 0 (.tmp 33), none, [], false⟩,
      ⟨(some 35), .load none (.tmp 34), none, [], false⟩,
      ⟨(some 36), .mov (.tmp 0), none, [], false⟩,
      ⟨(some 37), .nilCheck (.tmp 36), none, [], false⟩,
      ⟨(some 38), .fieldAddr 1 (.tmp 37), none, [], false⟩,
      ⟨(some 39), .load none (.tmp 38), none, [], false⟩,
      ⟨(some 40), .mov (.tmp 1), none, [], false⟩,
      ⟨(some 41), .bin .sub (so (.binOp .sub 3 (.tmp 39) (.tmp 40) 3) 3) (.tmp 39) (.tmp 40), none, [], false⟩,
      ⟨(some 42), .mov (.tmp 0), none, [], false⟩,
      ⟨(some 43), .nilCheck (.tmp 42), none, [], false⟩,
      ⟨(some 44), .fieldAddr 1 (.tmp 43), none, [], false⟩,
      ⟨(some 45), .load none (.tmp 44), none, [], false⟩,
      ⟨(some 46), .sliceSl 1 (.tmp 35) (some (.tmp 41)) (some (.tmp 45)) none, none, [], false⟩,
      ⟨(some 47), .callV (.tmp 31) [(.tmp 46)], none, [], true⟩,
      ⟨none, .store 4 (.tmp 8) (.tmp 47), none, [], true⟩]) .ret))))
noncomputable def wire_take_api_Key_ : AFunc := ⟨48, [(8, some (some 4))], wire_take_api_Key__c, none⟩
theorem wire_take_api_Key__t0 : tableOf Try.prog 65 = some wire_take_api_Key_ := by kernel_rfl
theorem wire_take_api_Key__t : T0 65 = some wire_take_api_Key_ := withKept_t rfl (withTrue_t rfl wire_take_api_Key__t0)


/-! 66 (*landfall/wire.Reader).Key$1$1 -/
abbrev fn_wire_Reader_Key_1_1 : FuncId := 66
noncomputable def wire_Reader_Key_1_1_c : ACode :=
  (.seq (.region [
      ⟨(some 2), .alloc 33 [(.int .u8 0), (.int .u8 0), (.int .u8 0), (.int .u8 0)], none, [], false⟩]) (.seq (.region [
      ⟨(some 3), .mov (.tmp 0), none, [], false⟩,
      ⟨(some 4), .arrayAt 4 (.tmp 3), none, [], false⟩,
      ⟨(some 5), .load (some 4) (.tmp 4), none, [], false⟩,
      ⟨none, .store 4 (.tmp 2) (.tmp 5), none, [], false⟩]) .ret))
noncomputable def wire_Reader_Key_1_1 : AFunc := ⟨6, [(2, some (some 4))], wire_Reader_Key_1_1_c, none⟩
theorem wire_Reader_Key_1_1_t0 : tableOf Try.prog 66 = some wire_Reader_Key_1_1 := by kernel_rfl
theorem wire_Reader_Key_1_1_t : T0 66 = some wire_Reader_Key_1_1 := withKept_t rfl (withTrue_t rfl wire_Reader_Key_1_1_t0)


/-! 67 landfall/wire.reads[landfall/api.Hash] -/
abbrev fn_wire_reads_api_Hash_ : FuncId := 67
noncomputable def wire_reads_api_Hash__c : ACode :=
  (.seq (.region [
      ⟨(some 4), .alloc 35 z32, none, [], false⟩]) (.seq (.seq (.region [
      ⟨(some 5), .mov (.tmp 0), none, [], false⟩,
      ⟨(some 6), .eq .ptr false (so (.binOp .eql 86 (.tmp 5) (.const (.pointer none)) 86) 4) (.tmp 5) (.const (.pointer none)), none, [], false⟩,
      ⟨(some 7), .mov (.tmp 6), none, [], false⟩,
      ⟨(some 8), .mov (.tmp 0), (some (7, false)), [], false⟩,
      ⟨(some 9), .nilCheck (.tmp 8), (some (7, false)), [], false⟩,
      ⟨(some 10), .fieldAddr 4 (.tmp 9), (some (7, false)), [], false⟩,
      ⟨(some 11), .load none (.tmp 10), (some (7, false)), [], false⟩,
      ⟨(some 12), .raw (so (.unOp .not 4 (.tmp 11)) 4), (some (7, false)), [], false⟩,
      ⟨(some 13), .pick (.tmp 7) (.const (.bool true)) (.tmp 12), none, [], false⟩,
      ⟨(some 14), .mov (.tmp 13), none, [], false⟩,
      ⟨(some 15), .mov (.tmp 0), (some (14, false)), [], false⟩,
      ⟨(some 16), .nilCheck (.tmp 15), (some (14, false)), [], false⟩,
      ⟨(some 17), .fieldAddr 2 (.tmp 16), (some (14, false)), [], false⟩,
      ⟨(some 18), .fieldAddr 0 (.tmp 17), (some (14, false)), [], false⟩,
      ⟨(some 19), .load none (.tmp 18), (some (14, false)), [], false⟩,
      ⟨(some 20), .bin .neq (so (.binOp .neq 25 (.tmp 19) (.const (.int .i64 0)) 25) 4) (.tmp 19) (.const (.int .i64 0)), (some (14, false)), [], false⟩,
      ⟨(some 21), .pick (.tmp 14) (.const (.bool true)) (.tmp 20), none, [], false⟩]) (.cond (.tmp 21)
    (.seq (.region [
      ⟨(some 22), .load (some 32) (.tmp 4), none, [], false⟩,
      ⟨none, .store 32 (.tmp 4) (.tmp 22), none, [], false⟩]) .ret)
    .skip)) (.seq (.region [
      ⟨(some 23), .mov (.tmp 0), none, [], false⟩,
      ⟨none, .defer (.func 85) [(.tmp 23)], none, [], false⟩]) (.seq (.region [
      ⟨(some 24), .mov (.tmp 1), none, [], false⟩,
      ⟨(some 25), .mov (.tmp 0), none, [], false⟩,
      ⟨(some 26), .nilCheck (.tmp 25), none, [], false⟩,
      ⟨(some 27), .fieldAddr 1 (.tmp 26), none, [], false⟩,
      ⟨(some 28), .load none (.tmp 27), none, [], false⟩,
      ⟨(some 29), .callV (.tmp 24) [(.tmp 28)], none, [], false⟩,
      ⟨none, .store 32 (.tmp 4) (.tmp 29), none, [], false⟩]) .ret))))
noncomputable def wire_reads_api_Hash_ : AFunc := ⟨30, [(4, some (some 32))], wire_reads_api_Hash__c, none⟩
theorem wire_reads_api_Hash__t0 : tableOf Try.prog 67 = some wire_reads_api_Hash_ := by kernel_rfl
theorem wire_reads_api_Hash__t : T0 67 = some wire_reads_api_Hash_ := withKept_t rfl (withTrue_t rfl wire_reads_api_Hash__t0)


/-! 68 (*landfall/wire.Reader).Hash$1 -/
abbrev fn_wire_Reader_Hash_1 : FuncId := 68
noncomputable def wire_Reader_Hash_1_c : ACode :=
  (.seq (.region [
      ⟨(some 3), .alloc 35 z32, none, [], false⟩]) (.seq (.region [
      ⟨(some 4), .load none (.tmp 1), none, [], false⟩,
      ⟨(some 5), .mov (.tmp 0), none, [], false⟩,
      ⟨(some 6), .callV (.func 69) [(.tmp 4), (.const (.int .i64 32)), (.tmp 5), (.func 70)], none, [], false⟩,
      ⟨none, .store 32 (.tmp 3) (.tmp 6), none, [], false⟩]) .ret))
noncomputable def wire_Reader_Hash_1 : AFunc := ⟨7, [(3, some (some 32))], wire_Reader_Hash_1_c, none⟩
theorem wire_Reader_Hash_1_t0 : tableOf Try.prog 68 = some wire_Reader_Hash_1 := by kernel_rfl
theorem wire_Reader_Hash_1_t : T0 68 = some wire_Reader_Hash_1 := withKept_t rfl (withTrue_t rfl wire_Reader_Hash_1_t0)


/-! 69 landfall/wire.take[landfall/api.Hash] -/
abbrev fn_wire_take_api_Hash_ : FuncId := 69
noncomputable def wire_take_api_Hash__c : ACode :=
  (.seq (.region [
      ⟨(some 8), .alloc 35 z32, none, [], false⟩]) (.seq (.regionD [
      ⟨(some 9), .mov (.tmp 1), none, [], false⟩,
      ⟨(some 10), .mov (.tmp 0), none, [], false⟩,
      ⟨(some 11), .nilCheck (.tmp 10), none, [], false⟩,
      ⟨(some 12), .fieldAddr 0 (.tmp 11), none, [], false⟩,
      ⟨(some 13), .load none (.tmp 12), none, [], false⟩,
      ⟨(some 14), .lenSl (.tmp 13), none, [], false⟩,
      ⟨(some 15), .mov (.tmp 0), none, [], false⟩,
      ⟨(some 16), .nilCheck (.tmp 15), none, [], false⟩,
      ⟨(some 17), .fieldAddr 1 (.tmp 16), none, [], false⟩,
      ⟨(some 18), .load none (.tmp 17), none, [], false⟩,
      ⟨(some 19), .bin .sub (so (.binOp .sub 3 (.tmp 14) (.tmp 18) 3) 3) (.tmp 14) (.tmp 18), none, [], false⟩,
      ⟨(some 20), .bin .leq (so (.binOp .leq 3 (.tmp 9) (.tmp 19) 3) 4) (.tmp 9) (.tmp 19), none, [], false⟩,
      ⟨(some 21), .mov (.tmp 2), none, [], false⟩,
      ⟨(some 22), .callV (.func 86) [(.tmp 20), (.const (.int .i64 6)), (.tmp 21)], none, [], true⟩]) (.seq (.region [
      ⟨(some 23), .mov (.tmp 0), none, [], false⟩,
      ⟨(some 24), .nilCheck (.tmp 23), none, [], false⟩,
      ⟨(some 25), .fieldAddr 1 (.tmp 24), none, [], false⟩,
      ⟨(some 26), .load none (.tmp 25), none, [], false⟩,
      ⟨(some 27), .mov (.tmp 1), none, [], false⟩,
      ⟨(some 28), .bin .add (so (.binOp .add 3 (.tmp 26) (.tmp 27) 3) 3) (.tmp 26) (.tmp 27), none, [], false⟩,
      ⟨(some 29), .nilCheck (.tmp 23), none, [], false⟩,
      ⟨(some 30), .fieldAddr 1 (.tmp 29), none, [], false⟩,
      ⟨none, .store 1 (.tmp 30) (.tmp 28), none, [], false⟩]) (.seq (.regionD [
      ⟨(some 31), .mov (.tmp 3), none, [], false⟩,
      ⟨(some 32), .mov (.tmp 0), none, [], false⟩,
      ⟨(some 33), .nilCheck (.tmp 32), none, [], false⟩,
      ⟨(some 34), .fieldAddr 0 (.tmp 33), none, [], false⟩,
      ⟨(some 35), .load none (.tmp 34), none, [], false⟩,
      ⟨(some 36), .mov (.tmp 0), none, [], false⟩,
      ⟨(some 37), .nilCheck (.tmp 36), none, [], false⟩,
      ⟨(some 38), .fieldAddr 1 (.tmp 37), none, [], false⟩,
      ⟨(some 39), .load none (.tmp 38), none, [], false⟩,
      ⟨(some 40), .mov (.tmp 1), none, [], false⟩,
      ⟨(some 41), .bin .sub (so (.binOp .sub 3 (.tmp 39) (.tmp 40) 3) 3) (.tmp 39) (.tmp 40), none, [], false⟩,
      ⟨(some 42), .mov (.tmp 0), none, [], false⟩,
      ⟨(some 43), .nilCheck (.tmp 42), none, [], false⟩,
      ⟨(some 44), .fieldAddr 1 (.tmp 43), none, [], false⟩,
      ⟨(some 45), .load none (.tmp 44), none, [], false⟩,
      ⟨(some 46), .sliceSl 1 (.tmp 35) (some (.tmp 41)) (some (.tmp 45)) none, none, [], false⟩,
      ⟨(some 47), .callV (.tmp 31) [(.tmp 46)], none, [], true⟩,
      ⟨none, .store 32 (.tmp 8) (.tmp 47), none, [], true⟩]) .ret))))
noncomputable def wire_take_api_Hash_ : AFunc := ⟨48, [(8, some (some 32))], wire_take_api_Hash__c, none⟩
theorem wire_take_api_Hash__t0 : tableOf Try.prog 69 = some wire_take_api_Hash_ := by kernel_rfl
theorem wire_take_api_Hash__t : T0 69 = some wire_take_api_Hash_ := withKept_t rfl (withTrue_t rfl wire_take_api_Hash__t0)


/-! 70 (*landfall/wire.Reader).Hash$1$1 -/
abbrev fn_wire_Reader_Hash_1_1 : FuncId := 70
noncomputable def wire_Reader_Hash_1_1_c : ACode :=
  (.seq (.region [
      ⟨(some 2), .alloc 35 z32, none, [], false⟩]) (.seq (.region [
      ⟨(some 3), .mov (.tmp 0), none, [], false⟩,
      ⟨(some 4), .arrayAt 32 (.tmp 3), none, [], false⟩,
      ⟨(some 5), .load (some 32) (.tmp 4), none, [], false⟩,
      ⟨none, .store 32 (.tmp 2) (.tmp 5), none, [], false⟩]) .ret))
noncomputable def wire_Reader_Hash_1_1 : AFunc := ⟨6, [(2, some (some 32))], wire_Reader_Hash_1_1_c, none⟩
theorem wire_Reader_Hash_1_1_t0 : tableOf Try.prog 70 = some wire_Reader_Hash_1_1 := by kernel_rfl
theorem wire_Reader_Hash_1_1_t : T0 70 = some wire_Reader_Hash_1_1 := withKept_t rfl (withTrue_t rfl wire_Reader_Hash_1_1_t0)


/-! 71 landfall/wire.reads[uint64] -/
abbrev fn_wire_reads_uint64_ : FuncId := 71
noncomputable def wire_reads_uint64__c : ACode :=
  (.seq (.region [
      ⟨(some 4), .mov (.const (.int .u64 0)), none, [], false⟩]) (.seq (.seq (.region [
      ⟨(some 5), .mov (.tmp 0), none, [], false⟩,
      ⟨(some 6), .eq .ptr false (so (.binOp .eql 86 (.tmp 5) (.const (.pointer none)) 86) 4) (.tmp 5) (.const (.pointer none)), none, [], false⟩,
      ⟨(some 7), .mov (.tmp 6), none, [], false⟩,
      ⟨(some 8), .mov (.tmp 0), (some (7, false)), [], false⟩,
      ⟨(some 9), .nilCheck (.tmp 8), (some (7, false)), [], false⟩,
      ⟨(some 10), .fieldAddr 4 (.tmp 9), (some (7, false)), [], false⟩,
      ⟨(some 11), .load none (.tmp 10), (some (7, false)), [], false⟩,
      ⟨(some 12), .raw (so (.unOp .not 4 (.tmp 11)) 4), (some (7, false)), [], false⟩,
      ⟨(some 13), .pick (.tmp 7) (.const (.bool true)) (.tmp 12), none, [], false⟩,
      ⟨(some 14), .mov (.tmp 13), none, [], false⟩,
      ⟨(some 15), .mov (.tmp 0), (some (14, false)), [], false⟩,
      ⟨(some 16), .nilCheck (.tmp 15), (some (14, false)), [], false⟩,
      ⟨(some 17), .fieldAddr 2 (.tmp 16), (some (14, false)), [], false⟩,
      ⟨(some 18), .fieldAddr 0 (.tmp 17), (some (14, false)), [], false⟩,
      ⟨(some 19), .load none (.tmp 18), (some (14, false)), [], false⟩,
      ⟨(some 20), .bin .neq (so (.binOp .neq 25 (.tmp 19) (.const (.int .i64 0)) 25) 4) (.tmp 19) (.const (.int .i64 0)), (some (14, false)), [], false⟩,
      ⟨(some 21), .pick (.tmp 14) (.const (.bool true)) (.tmp 20), none, [], false⟩]) (.cond (.tmp 21)
    (.seq (.region [
      ⟨(some 22), .mov (.tmp 4), none, [], false⟩,
      ⟨(some 4), .mov (.tmp 22), none, [], false⟩]) .ret)
    .skip)) (.seq (.region [
      ⟨(some 23), .mov (.tmp 0), none, [], false⟩,
      ⟨none, .defer (.func 85) [(.tmp 23)], none, [], false⟩]) (.seq (.region [
      ⟨(some 24), .mov (.tmp 1), none, [], false⟩,
      ⟨(some 25), .mov (.tmp 0), none, [], false⟩,
      ⟨(some 26), .nilCheck (.tmp 25), none, [], false⟩,
      ⟨(some 27), .fieldAddr 1 (.tmp 26), none, [], false⟩,
      ⟨(some 28), .load none (.tmp 27), none, [], false⟩,
      ⟨(some 29), .callV (.tmp 24) [(.tmp 28)], none, [], false⟩,
      ⟨(some 4), .mov (.tmp 29), none, [], false⟩]) .ret))))
noncomputable def wire_reads_uint64_ : AFunc := ⟨30, [(4, none)], wire_reads_uint64__c, none⟩
theorem wire_reads_uint64__t0 : tableOf Try.prog 71 = some wire_reads_uint64_ := by kernel_rfl
theorem wire_reads_uint64__t : T0 71 = some wire_reads_uint64_ := withKept_t rfl (withTrue_t rfl wire_reads_uint64__t0)


/-! 72 (*landfall/wire.Reader).Word$1 -/
abbrev fn_wire_Reader_Word_1 : FuncId := 72
noncomputable def wire_Reader_Word_1_c : ACode :=
  (.seq (.region [
      ⟨(some 3), .mov (.const (.int .u64 0)), none, [], false⟩]) (.seq (.region [
      ⟨(some 4), .load none (.tmp 1), none, [], false⟩,
      ⟨(some 5), .mov (.tmp 0), none, [], false⟩,
      ⟨(some 6), .callV (.func 73) [(.tmp 4), (.const (.int .i64 8)), (.tmp 5), (.func 74)], none, [], false⟩,
      ⟨(some 3), .mov (.tmp 6), none, [], false⟩]) .ret))
noncomputable def wire_Reader_Word_1 : AFunc := ⟨7, [(3, none)], wire_Reader_Word_1_c, none⟩
theorem wire_Reader_Word_1_t0 : tableOf Try.prog 72 = some wire_Reader_Word_1 := by kernel_rfl
theorem wire_Reader_Word_1_t : T0 72 = some wire_Reader_Word_1 := withKept_t rfl (withTrue_t rfl wire_Reader_Word_1_t0)


/-! 73 landfall/wire.take[uint64] -/
abbrev fn_wire_take_uint64_ : FuncId := 73
noncomputable def wire_take_uint64__c : ACode :=
  (.seq (.region [
      ⟨(some 8), .mov (.const (.int .u64 0)), none, [], false⟩]) (.seq (.regionD [
      ⟨(some 9), .mov (.tmp 1), none, [], false⟩,
      ⟨(some 10), .mov (.tmp 0), none, [], false⟩,
      ⟨(some 11), .nilCheck (.tmp 10), none, [], false⟩,
      ⟨(some 12), .fieldAddr 0 (.tmp 11), none, [], false⟩,
      ⟨(some 13), .load none (.tmp 12), none, [], false⟩,
      ⟨(some 14), .lenSl (.tmp 13), none, [], false⟩,
      ⟨(some 15), .mov (.tmp 0), none, [], false⟩,
      ⟨(some 16), .nilCheck (.tmp 15), none, [], false⟩,
      ⟨(some 17), .fieldAddr 1 (.tmp 16), none, [], false⟩,
      ⟨(some 18), .load none (.tmp 17), none, [], false⟩,
      ⟨(some 19), .bin .sub (so (.binOp .sub 3 (.tmp 14) (.tmp 18) 3) 3) (.tmp 14) (.tmp 18), none, [], false⟩,
      ⟨(some 20), .bin .leq (so (.binOp .leq 3 (.tmp 9) (.tmp 19) 3) 4) (.tmp 9) (.tmp 19), none, [], false⟩,
      ⟨(some 21), .mov (.tmp 2), none, [], false⟩,
      ⟨(some 22), .callV (.func 86) [(.tmp 20), (.const (.int .i64 6)), (.tmp 21)], none, [], true⟩]) (.seq (.region [
      ⟨(some 23), .mov (.tmp 0), none, [], false⟩,
      ⟨(some 24), .nilCheck (.tmp 23), none, [], false⟩,
      ⟨(some 25), .fieldAddr 1 (.tmp 24), none, [], false⟩,
      ⟨(some 26), .load none (.tmp 25), none, [], false⟩,
      ⟨(some 27), .mov (.tmp 1), none, [], false⟩,
      ⟨(some 28), .bin .add (so (.binOp .add 3 (.tmp 26) (.tmp 27) 3) 3) (.tmp 26) (.tmp 27), none, [], false⟩,
      ⟨(some 29), .nilCheck (.tmp 23), none, [], false⟩,
      ⟨(some 30), .fieldAddr 1 (.tmp 29), none, [], false⟩,
      ⟨none, .store 1 (.tmp 30) (.tmp 28), none, [], false⟩]) (.seq (.regionD [
      ⟨(some 31), .mov (.tmp 3), none, [], false⟩,
      ⟨(some 32), .mov (.tmp 0), none, [], false⟩,
      ⟨(some 33), .nilCheck (.tmp 32), none, [], false⟩,
      ⟨(some 34), .fieldAddr 0 (.tmp 33), none, [], false⟩,
      ⟨(some 35), .load none (.tmp 34), none, [], false⟩,
      ⟨(some 36), .mov (.tmp 0), none, [], false⟩,
      ⟨(some 37), .nilCheck (.tmp 36), none, [], false⟩,
      ⟨(some 38), .fieldAddr 1 (.tmp 37), none, [], false⟩,
      ⟨(some 39), .load none (.tmp 38), none, [], false⟩,
      ⟨(some 40), .mov (.tmp 1), none, [], false⟩,
      ⟨(some 41), .bin .sub (so (.binOp .sub 3 (.tmp 39) (.tmp 40) 3) 3) (.tmp 39) (.tmp 40), none, [], false⟩,
      ⟨(some 42), .mov (.tmp 0), none, [], false⟩,
      ⟨(some 43), .nilCheck (.tmp 42), none, [], false⟩,
      ⟨(some 44), .fieldAddr 1 (.tmp 43), none, [], false⟩,
      ⟨(some 45), .load none (.tmp 44), none, [], false⟩,
      ⟨(some 46), .sliceSl 1 (.tmp 35) (some (.tmp 41)) (some (.tmp 45)) none, none, [], false⟩,
      ⟨(some 47), .callV (.tmp 31) [(.tmp 46)], none, [], true⟩,
      ⟨(some 8), .mov (.tmp 47), none, [], true⟩]) .ret))))
noncomputable def wire_take_uint64_ : AFunc := ⟨48, [(8, none)], wire_take_uint64__c, none⟩
theorem wire_take_uint64__t0 : tableOf Try.prog 73 = some wire_take_uint64_ := by kernel_rfl
theorem wire_take_uint64__t : T0 73 = some wire_take_uint64_ := withKept_t rfl (withTrue_t rfl wire_take_uint64__t0)


/-! 74 landfall/wire.big -/
abbrev fn_wire_big : FuncId := 74
noncomputable def wire_big_l0 : ACode :=
  (.seq (.region [
      ⟨(some 8), .bin .lss (so (.binOp .lss 3 (.tmp 7) (.tmp 6) 3) 0) (.tmp 7) (.tmp 6), none, [], false⟩]) (.seq (.cond (.tmp 8)
    .skip
    (.exit 0)) (.seq (.block 1 (.seq (.region [
      ⟨(some 9), .indexSl 1 (.tmp 5) (.tmp 7), none, [], false⟩,
      ⟨(some 10), .load none (.tmp 9), none, [], false⟩,
      ⟨(some 4), .mov (.tmp 10), none, [], false⟩]) (.region [
      ⟨(some 11), .mov (.tmp 2), none, [], false⟩,
      ⟨(some 12), .bin .shl (so (.binOp .shl 36 (.tmp 11) (.const (.int .u64 8)) 135) 36) (.tmp 11) (.const (.int .u64 8)), none, [], false⟩,
      ⟨(some 13), .mov (.tmp 4), none, [], false⟩,
      ⟨(some 14), .conv .u64 (so (.convert 5 36 (.tmp 13)) 36) (.tmp 13), none, [], false⟩,
      ⟨(some 15), .bin .or (so (.binOp .or 36 (.tmp 12) (.tmp 14) 36) 36) (.tmp 12) (.tmp 14), none, [], false⟩,
      ⟨(some 2), .mov (.tmp 15), none, [], false⟩]))) (.region [
      ⟨(some 16), .bin .add (so (.binOp .add 3 (.tmp 7) (.const (.int .i64 1)) 3) 3) (.tmp 7) (.const (.int .i64 1)), none, [], false⟩,
      ⟨(some 7), .mov (.tmp 16), none, [], false⟩]))))
noncomputable def wire_big_c : ACode :=
  (.seq (.region [
      ⟨(some 2), .mov (.const (.int .u64 0)), none, [], false⟩]) (.seq (.seq (.region [
      ⟨(some 5), .mov (.tmp 0), none, [], false⟩,
      ⟨(some 6), .lenSl (.tmp 5), none, [], false⟩,
      ⟨(some 7), .mov (.const (.int .i64 0)), none, [], false⟩]) (.block 0 (.loop wire_big_l0))) (.seq (.region [
      ⟨(some 17), .mov (.tmp 2), none, [], false⟩,
      ⟨(some 2), .mov (.tmp 17), none, [], false⟩]) .ret)))
noncomputable def wire_big : AFunc := ⟨18, [(2, none)], wire_big_c, none⟩
theorem wire_big_t0 : tableOf Try.prog 74 = some wire_big := by kernel_rfl
theorem wire_big_t : T0 74 = some wire_big := withKept_t rfl (withTrue_t rfl wire_big_t0)


/-! 75 cmp.Or[int] -/
abbrev fn_cmp_Or_int_ : FuncId := 75
noncomputable def cmp_Or_int__l0 : ACode :=
  (.seq (.region [
      ⟨(some 9), .bin .lss (so (.binOp .lss 3 (.tmp 8) (.tmp 7) 3) 0) (.tmp 8) (.tmp 7), none, [], false⟩]) (.seq (.cond (.tmp 9)
    .skip
    (.exit 0)) (.seq (.block 1 (.seq (.region [
      ⟨(some 10), .indexSl 1 (.tmp 6) (.tmp 8), none, [], false⟩,
      ⟨(some 11), .load none (.tmp 10), none, [], false⟩,
      ⟨(some 5), .mov (.tmp 11), none, [], false⟩]) (.seq (.region [
      ⟨(some 12), .mov (.tmp 5), none, [], false⟩,
      ⟨(some 13), .mov (.tmp 3), none, [], false⟩,
      ⟨(some 14), .bin .neq (so (.binOp .neq 3 (.tmp 12) (.tmp 13) 3) 4) (.tmp 12) (.tmp 13), none, [], false⟩]) (.cond (.tmp 14)
    (.seq (.region [
      ⟨(some 15), .mov (.tmp 5), none, [], false⟩,
      ⟨(some 2), .mov (.tmp 15), none, [], false⟩]) .ret)
    .skip)))) (.region [
      ⟨(some 16), .bin .add (so (.binOp .add 3 (.tmp 8) (.const (.int .i64 1)) 3) 3) (.tmp 8) (.const (.int .i64 1)), none, [], false⟩,
      ⟨(some 8), .mov (.tmp 16), none, [], false⟩]))))
noncomputable def cmp_Or_int__c : ACode :=
  (.seq (.region [
      ⟨(some 2), .mov (.const (.int .i64 0)), none, [], false⟩]) (.seq (.region [
      ⟨(some 3), .mov (.const (.int .i64 0)), none, [], false⟩]) (.seq (.seq (.region [
      ⟨(some 6), .mov (.tmp 0), none, [], false⟩,
      ⟨(some 7), .lenSl (.tmp 6), none, [], false⟩,
      ⟨(some 8), .mov (.const (.int .i64 0)), none, [], false⟩]) (.block 0 (.loop cmp_Or_int__l0))) (.seq (.region [
      ⟨(some 17), .mov (.tmp 3), none, [], false⟩,
      ⟨(some 2), .mov (.tmp 17), none, [], false⟩]) .ret))))
noncomputable def cmp_Or_int_ : AFunc := ⟨18, [(2, none)], cmp_Or_int__c, none⟩
theorem cmp_Or_int__t0 : tableOf Try.prog 75 = some cmp_Or_int_ := by kernel_rfl
theorem cmp_Or_int__t : T0 75 = some cmp_Or_int_ := withKept_t rfl (withTrue_t rfl cmp_Or_int__t0)


/-! 76 bytes.Compare -/
abbrev fn_bytes_Compare : FuncId := 76
noncomputable def bytes_Compare_c : ACode :=
  (.seq (.region [
      ⟨(some 4), .mov (.const (.int .i64 0)), none, [], false⟩]) (.seq (.region [
      ⟨(some 5), .mov (.tmp 0), none, [], false⟩,
      ⟨(some 6), .mov (.tmp 1), none, [], false⟩,
      ⟨(some 7), .ext .compare (.func 88) [(.tmp 5), (.tmp 6)], none, [], false⟩,
      ⟨(some 4), .mov (.tmp 7), none, [], false⟩]) .ret))
noncomputable def bytes_Compare : AFunc := ⟨8, [(4, none)], bytes_Compare_c, none⟩
theorem bytes_Compare_t0 : tableOf Try.prog 76 = some bytes_Compare := by kernel_rfl
theorem bytes_Compare_t : T0 76 = some bytes_Compare := withKept_t rfl (withTrue_t rfl bytes_Compare_t0)


/-! 77 cmp.Compare[uint64] -/
abbrev fn_cmp_Compare_uint64_ : FuncId := 77
noncomputable def cmp_Compare_uint64__c : ACode :=
  (.seq (.region [
      ⟨(some 4), .mov (.const (.int .i64 0)), none, [], false⟩]) (.seq (.region [
      ⟨(some 7), .mov (.tmp 0), none, [], false⟩,
      ⟨(some 8), .callV (.func 89) [(.tmp 7)], none, [], false⟩,
      ⟨(some 5), .mov (.tmp 8), none, [], false⟩]) (.seq (.region [
      ⟨(some 9), .mov (.tmp 1), none, [], false⟩,
      ⟨(some 10), .callV (.func 89) [(.tmp 9)], none, [], false⟩,
      ⟨(some 6), .mov (.tmp 10), none, [], false⟩]) (.seq (.seq (.region [
      ⟨(some 11), .mov (.tmp 5), none, [], false⟩]) (.cond (.tmp 11)
    (.seq (.seq (.region [
      ⟨(some 12), .mov (.tmp 6), none, [], false⟩]) (.cond (.tmp 12)
    (.seq (.region [
      ⟨(some 4), .mov (.const (.int .i64 0)), none, [], false⟩]) .ret)
    .skip)) (.seq (.region [
      ⟨(some 4), .mov (.const (.int .i64 (-1))), none, [], false⟩]) .ret))
    .skip)) (.seq (.seq (.region [
      ⟨(some 13), .mov (.tmp 6), none, [], false⟩]) (.cond (.tmp 13)
    (.seq (.region [
      ⟨(some 4), .mov (.const (.int .i64 1)), none, [], false⟩]) .ret)
    .skip)) (.seq (.seq (.region [
      ⟨(some 14), .mov (.tmp 0), none, [], false⟩,
      ⟨(some 15), .mov (.tmp 1), none, [], false⟩,
      ⟨(some 16), .bin .lss (so (.binOp .lss 36 (.tmp 14) (.tmp 15) 36) 4) (.tmp 14) (.tmp 15), none, [], false⟩]) (.cond (.tmp 16)
    (.seq (.region [
      ⟨(some 4), .mov (.const (.int .i64 (-1))), none, [], false⟩]) .ret)
    .skip)) (.seq (.seq (.region [
      ⟨(some 17), .mov (.tmp 0), none, [], false⟩,
      ⟨(some 18), .mov (.tmp 1), none, [], false⟩,
      ⟨(some 19), .bin .gtr (so (.binOp .gtr 36 (.tmp 17) (.tmp 18) 36) 4) (.tmp 17) (.tmp 18), none, [], false⟩]) (.cond (.tmp 19)
    (.seq (.region [
      ⟨(some 4), .mov (.const (.int .i64 1)), none, [], false⟩]) .ret)
    .skip)) (.seq (.region [
      ⟨(some 4), .mov (.const (.int .i64 0)), none, [], false⟩]) .ret))))))))
noncomputable def cmp_Compare_uint64_ : AFunc := ⟨20, [(4, none)], cmp_Compare_uint64__c, none⟩
theorem cmp_Compare_uint64__t0 : tableOf Try.prog 77 = some cmp_Compare_uint64_ := by kernel_rfl
theorem cmp_Compare_uint64__t : T0 77 = some cmp_Compare_uint64_ := withKept_t rfl (withTrue_t rfl cmp_Compare_uint64__t0)


/-! 81 slices.Concat[[]byte,byte] -/
abbrev fn_slices_Concat___byte_byte_ : FuncId := 81
noncomputable def slices_Concat___byte_byte__l0 : ACode :=
  (.seq (.region [
      ⟨(some 12), .bin .lss (so (.binOp .lss 3 (.tmp 11) (.tmp 10) 3) 0) (.tmp 11) (.tmp 10), none, [], false⟩]) (.seq (.cond (.tmp 12)
    .skip
    (.exit 0)) (.seq (.block 1 (.seq (.region [
      ⟨(some 13), .indexSl 1 (.tmp 9) (.tmp 11), none, [], false⟩,
      ⟨(some 14), .load none (.tmp 13), none, [], false⟩,
      ⟨(some 5), .mov (.tmp 14), none, [], false⟩]) (.seq (.region [
      ⟨(some 15), .mov (.tmp 3), none, [], false⟩,
      ⟨(some 16), .mov (.tmp 5), none, [], false⟩,
      ⟨(some 17), .lenSl (.tmp 16), none, [], false⟩,
      ⟨(some 18), .bin .add (so (.binOp .add 3 (.tmp 15) (.tmp 17) 3) 3) (.tmp 15) (.tmp 17), none, [], false⟩,
      ⟨(some 3), .mov (.tmp 18), none, [], false⟩]) (.seq (.region [
      ⟨(some 19), .mov (.tmp 3), none, [], false⟩,
      ⟨(some 20), .bin .lss (so (.binOp .lss 3 (.tmp 19) (.const (.int .i64 0)) 3) 4) (.tmp 19) (.const (.int .i64 0)), none, [], false⟩]) (.cond (.tmp 20)
    (.region [
      ⟨(some 21), .mkIface 9 (.const (.string ⟨⟨[108, 101, 110, 32, 111, 117, 116, 32, 111, 102, 32, 114, 97, 110, 103, 101]⟩⟩)), none, [], false⟩,
      ⟨none, .panic (.tmp 21), none, [], false⟩])
    .skip))))) (.region [
      ⟨(some 22), .bin .add (so (.binOp .add 3 (.tmp 11) (.const (.int .i64 1)) 3) 3) (.tmp 11) (.const (.int .i64 1)), none, [], false⟩,
      ⟨(some 11), .mov (.tmp 22), none, [], false⟩]))))
noncomputable def slices_Concat___byte_byte__l1 : ACode :=
  (.seq (.region [
      ⟨(some 28), .bin .lss (so (.binOp .lss 3 (.tmp 27) (.tmp 26) 3) 0) (.tmp 27) (.tmp 26), none, [], false⟩]) (.seq (.cond (.tmp 28)
    .skip
    (.exit 2)) (.seq (.block 3 (.seq (.region [
      ⟨(some 29), .indexSl 1 (.tmp 25) (.tmp 27), none, [], false⟩,
      ⟨(some 30), .load none (.tmp 29), none, [], false⟩,
      ⟨(some 8), .mov (.tmp 30), none, [], false⟩]) (.region [
      ⟨(some 31), .mov (.tmp 6), none, [], false⟩,
      ⟨(some 32), .mov (.tmp 8), none, [], false⟩,
      ⟨(some 33), .append 5 1 1 [(.int .u8 0)] false (.tmp 31) (.tmp 32), none, [], false⟩,
      ⟨(some 6), .mov (.tmp 33), none, [], false⟩]))) (.region [
      ⟨(some 34), .bin .add (so (.binOp .add 3 (.tmp 27) (.const (.int .i64 1)) 3) 3) (.tmp 27) (.const (.int .i64 1)), none, [], false⟩,
      ⟨(some 27), .mov (.tmp 34), none, [], false⟩]))))
noncomputable def slices_Concat___byte_byte__c : ACode :=
  (.seq (.region [
      ⟨(some 2), .mov (.const (.slice none 0 0)), none, [], false⟩]) (.seq (.region [
      ⟨(some 3), .mov (.const (.int .i64 0)), none, [], false⟩]) (.seq (.seq (.region [
      ⟨(some 9), .mov (.tmp 0), none, [], false⟩,
      ⟨(some 10), .lenSl (.tmp 9), none, [], false⟩,
      ⟨(some 11), .mov (.const (.int .i64 0)), none, [], false⟩]) (.block 0 (.loop slices_Concat___byte_byte__l0))) (.seq (.region [
      ⟨(some 23), .mov (.tmp 3), none, [], false⟩,
      ⟨(some 24), .callV (.func 90) [(.const (.slice none 0 0)), (.tmp 23)], none, [], false⟩,
      ⟨(some 6), .mov (.tmp 24), none, [], false⟩]) (.seq (.seq (.region [
      ⟨(some 25), .mov (.tmp 0), none, [], false⟩,
      ⟨(some 26), .lenSl (.tmp 25), none, [], false⟩,
      ⟨(some 27), .mov (.const (.int .i64 0)), none, [], false⟩]) (.block 2 (.loop slices_Concat___byte_byte__l1))) (.seq (.region [
      ⟨(some 35), .mov (.tmp 6), none, [], false⟩,
      ⟨(some 2), .mov (.tmp 35), none, [], false⟩]) .ret))))))
noncomputable def slices_Concat___byte_byte_ : AFunc := ⟨36, [(2, none)], slices_Concat___byte_byte__c, none⟩
theorem slices_Concat___byte_byte__t0 : tableOf Try.prog 81 = some slices_Concat___byte_byte_ := by kernel_rfl
theorem slices_Concat___byte_byte__t : T0 81 = some slices_Concat___byte_byte_ := withKept_t rfl (withTrue_t rfl slices_Concat___byte_byte__t0)


/-! 82 slices.Collect[landfall/sigs.sig] -/
abbrev fn_slices_Collect_sigs_sig_ : FuncId := 82
noncomputable def slices_Collect_sigs_sig__c : ACode :=
  (.seq (.region [
      ⟨(some 2), .mov (.const (.slice none 0 0)), none, [], false⟩]) (.seq (.region [
      ⟨(some 3), .mov (.tmp 0), none, [], false⟩,
      ⟨(some 4), .callV (.func 91) [(.const (.slice none 0 0)), (.tmp 3)], none, [], false⟩,
      ⟨(some 2), .mov (.tmp 4), none, [], false⟩]) .ret))
noncomputable def slices_Collect_sigs_sig_ : AFunc := ⟨5, [(2, none)], slices_Collect_sigs_sig__c, none⟩
theorem slices_Collect_sigs_sig__t0 : tableOf Try.prog 82 = some slices_Collect_sigs_sig_ := by kernel_rfl
theorem slices_Collect_sigs_sig__t : T0 82 = some slices_Collect_sigs_sig_ := withKept_t rfl (withTrue_t rfl slices_Collect_sigs_sig__t0)


/-! 83 slices.SortFunc[[]landfall/sigs.sig,landfall/sigs.sig] -/
abbrev fn_slices_SortFunc___sigs_sig_sigs_sig_ : FuncId := 83
noncomputable def slices_SortFunc___sigs_sig_sigs_sig__c : ACode :=
  (.seq (.region [
      ⟨(some 5), .mov (.tmp 0), none, [], false⟩,
      ⟨(some 6), .lenSl (.tmp 5), none, [], false⟩,
      ⟨(some 4), .mov (.tmp 6), none, [], false⟩]) (.region [
      ⟨(some 7), .mov (.tmp 0), none, [], false⟩,
      ⟨(some 8), .mov (.tmp 4), none, [], false⟩,
      ⟨(some 9), .mov (.tmp 4), none, [], false⟩,
      ⟨(some 10), .conv .u64 (so (.convert 3 135 (.tmp 9)) 135) (.tmp 9), none, [], false⟩,
      ⟨(some 11), .callV (.func 93) [(.tmp 10)], none, [], false⟩,
      ⟨(some 12), .mov (.tmp 1), none, [], false⟩,
      ⟨(some 13), .callV (.func 92) [(.tmp 7), (.const (.int .i64 0)), (.tmp 8), (.tmp 11), (.tmp 12)], none, [], false⟩]))
noncomputable def slices_SortFunc___sigs_sig_sigs_sig_ : AFunc := ⟨14, [], slices_SortFunc___sigs_sig_sigs_sig__c, none⟩
theorem slices_SortFunc___sigs_sig_sigs_sig__t0 : tableOf Try.prog 83 = some slices_SortFunc___sigs_sig_sigs_sig_ := by kernel_rfl
theorem slices_SortFunc___sigs_sig_sigs_sig__t : T0 83 = some slices_SortFunc___sigs_sig_sigs_sig_ := withKept_t rfl (withTrue_t rfl slices_SortFunc___sigs_sig_sigs_sig__t0)


/-! 84 maps.Keys[map[landfall/sigs.sig]landfall/sigs.held,landfall/sigs.sig,landfall/sigs.held]$1 -/
abbrev fn_maps_Keys_map_sigs_sig_sigs_held_sigs_sig_sigs_held__1 : FuncId := 84
noncomputable def maps_Keys_map_sigs_sig_sigs_held_sigs_sig_sigs_held__1_l0 : ACode :=
  (.seq (.region [
      ⟨(some 6), .nextMap (.tmp 5), none, [], false⟩,
      ⟨(some 7), .extract 0 (.tmp 6), none, [], false⟩]) (.seq (.cond (.tmp 7)
    .skip
    (.exit 0)) (.block 1 (.seq (.region [
      ⟨(some 8), .entryMap (.tmp 5), none, [], false⟩,
      ⟨(some 9), .extract 0 (.tmp 8), none, [], false⟩,
      ⟨(some 3), .alloc 70 (z32 ++ [(.int .u8 0), (.int .u8 0), (.int .u8 0), (.int .u8 0), (.int .u64 0)]), none, [], false⟩,
      ⟨none, .store 37 (.tmp 3) (.tmp 9), none, [], false⟩]) (.seq (.region [
      ⟨(some 10), .mov (.tmp 0), none, [], false⟩,
      ⟨(some 11), .load (some 37) (.tmp 3), none, [], false⟩,
      ⟨(some 12), .callV (.tmp 10) [(.tmp 11)], none, [], false⟩,
      ⟨(some 13), .raw (so (.unOp .not 4 (.tmp 12)) 4), none, [], false⟩]) (.cond (.tmp 13)
    .ret
    .skip))))))
noncomputable def maps_Keys_map_sigs_sig_sigs_held_sigs_sig_sigs_held__1_c : ACode :=
  (.seq (.region [
      ⟨(some 4), .load none (.tmp 1), none, [], false⟩,
      ⟨(some 5), .rangeMap (.tmp 4), none, [], false⟩]) (.block 0 (.loop maps_Keys_map_sigs_sig_sigs_held_sigs_sig_sigs_held__1_l0)))
noncomputable def maps_Keys_map_sigs_sig_sigs_held_sigs_sig_sigs_held__1 : AFunc := ⟨14, [], maps_Keys_map_sigs_sig_sigs_held_sigs_sig_sigs_held__1_c, none⟩
theorem maps_Keys_map_sigs_sig_sigs_held_sigs_sig_sigs_held__1_t0 : tableOf Try.prog 84 = some maps_Keys_map_sigs_sig_sigs_held_sigs_sig_sigs_held__1 := by kernel_rfl
theorem maps_Keys_map_sigs_sig_sigs_held_sigs_sig_sigs_held__1_t : T0 84 = some maps_Keys_map_sigs_sig_sigs_held_sigs_sig_sigs_held__1 := withKept_t rfl (withTrue_t rfl maps_Keys_map_sigs_sig_sigs_held_sigs_sig_sigs_held__1_t0)


/-! 85 (*landfall/wire.Reader).caught -/
abbrev fn_wire_Reader_caught : FuncId := 85
noncomputable def wire_Reader_caught_c : ACode :=
  (.seq (.region [
      ⟨(some 5), .recover, none, [], false⟩,
      ⟨(some 2), .mov (.tmp 5), none, [], false⟩]) (.seq (.region [
      ⟨(some 6), .mov (.tmp 2), none, [], false⟩,
      ⟨(some 7), .eq .iface true (so (.binOp .neq 20 (.tmp 6) (.const .nilIface) 20) 4) (.tmp 6) (.const .nilIface), none, [], false⟩]) (.cond (.tmp 7)
    (.seq (.region [
      ⟨(some 9), .mov (.tmp 2), none, [], false⟩,
      ⟨(some 10), .assertTo 147 (.agg ⟨[(.int .i64 0), (.int .i64 0)]⟩) true (.tmp 9), none, [], false⟩,
      ⟨(some 8), .mov (.tmp 10), none, [], false⟩,
      ⟨(some 11), .extract 0 (.tmp 8), none, [], false⟩,
      ⟨(some 12), .extract 1 (.tmp 8), none, [], false⟩,
      ⟨(some 3), .alloc 147 [(.int .i64 0), (.int .i64 0)], none, [], false⟩,
      ⟨none, .store 2 (.tmp 3) (.tmp 11), none, [], false⟩,
      ⟨(some 4), .mov (.tmp 12), none, [], false⟩]) (.seq (.seq (.region [
      ⟨(some 13), .mov (.tmp 4), none, [], false⟩,
      ⟨(some 14), .raw (so (.unOp .not 4 (.tmp 13)) 4), none, [], false⟩]) (.cond (.tmp 14)
    (.region [
      ⟨(some 15), .mov (.tmp 2), none, [], false⟩,
      ⟨none, .panic (.tmp 15), none, [], false⟩])
    .skip)) (.region [
      ⟨(some 16), .mov (.tmp 0), none, [], false⟩,
      ⟨(some 17), .fieldAddr 0 (.tmp 3), none, [], false⟩,
      ⟨(some 18), .load (some 2) (.tmp 17), none, [], false⟩,
      ⟨(some 19), .nilCheck (.tmp 16), none, [], false⟩,
      ⟨(some 20), .fieldAddr 2 (.tmp 19), none, [], false⟩,
      ⟨none, .store 2 (.tmp 20) (.tmp 18), none, [], false⟩])))
    .skip)))
noncomputable def wire_Reader_caught : AFunc := ⟨21, [], wire_Reader_caught_c, none⟩
theorem wire_Reader_caught_t0 : tableOf Try.prog 85 = some wire_Reader_caught := by kernel_rfl
theorem wire_Reader_caught_t : T0 85 = some wire_Reader_caught := withKept_t rfl (withTrue_t rfl wire_Reader_caught_t0)


/-! 86 landfall/wire.must -/
abbrev fn_wire_must : FuncId := 86
noncomputable def wire_must_c : ACode :=
  (.seq (.region [
      ⟨(some 6), .mov (.tmp 0), none, [], false⟩,
      ⟨(some 7), .raw (so (.unOp .not 4 (.tmp 6)) 4), none, [], false⟩]) (.cond (.tmp 7)
    (.region [
      ⟨(some 8), .mov (.tmp 1), none, [], false⟩,
      ⟨(some 9), .mov (.tmp 2), none, [], false⟩,
      ⟨(some 10), .build [(.int .i64 0), (.int .i64 0)] [(0, 1, (.tmp 8)), (1, 1, (.tmp 9))], none, [], false⟩,
      ⟨(some 11), .build [(.int .i64 0), (.int .i64 0)] [(0, 2, (.tmp 10))], none, [], false⟩,
      ⟨(some 12), .mkIface 147 (.tmp 11), none, [], false⟩,
      ⟨none, .panic (.tmp 12), none, [], false⟩])
    .skip))
noncomputable def wire_must : AFunc := ⟨13, [], wire_must_c, none⟩
theorem wire_must_t0 : tableOf Try.prog 86 = some wire_must := by kernel_rfl
theorem wire_must_t : T0 86 = some wire_must := withKept_t rfl (withTrue_t rfl wire_must_t0)


/-! 87 (*landfall/wire.Reader).num$1 -/
abbrev fn_wire_Reader_num_1 : FuncId := 87
noncomputable def wire_Reader_num_1_c : ACode :=
  (.seq (.region [
      ⟨(some 4), .mov (.const (.int .u64 0)), none, [], false⟩]) (.seq (.seq (.region [
      ⟨(some 5), .load none (.tmp 1), none, [], false⟩,
      ⟨(some 6), .bin .gtr (so (.binOp .gtr 3 (.tmp 5) (.const (.int .i64 0)) 3) 4) (.tmp 5) (.const (.int .i64 0)), none, [], false⟩]) (.cond (.tmp 6)
    (.region [
      ⟨(some 7), .mov (.tmp 0), none, [], false⟩,
      ⟨(some 8), .indexSl 1 (.tmp 7) (.const (.int .i64 0)), none, [], false⟩,
      ⟨(some 9), .load none (.tmp 8), none, [], false⟩,
      ⟨none, .store 1 (.tmp 2) (.tmp 9), none, [], false⟩])
    .skip)) (.seq (.region [
      ⟨(some 10), .mov (.tmp 0), none, [], false⟩,
      ⟨(some 11), .callV (.func 74) [(.tmp 10)], none, [], false⟩,
      ⟨(some 4), .mov (.tmp 11), none, [], false⟩]) .ret)))
noncomputable def wire_Reader_num_1 : AFunc := ⟨12, [(4, none)], wire_Reader_num_1_c, none⟩
theorem wire_Reader_num_1_t0 : tableOf Try.prog 87 = some wire_Reader_num_1 := by kernel_rfl
theorem wire_Reader_num_1_t : T0 87 = some wire_Reader_num_1 := withKept_t rfl (withTrue_t rfl wire_Reader_num_1_t0)


/-! 89 cmp.isNaN[uint64] -/
abbrev fn_cmp_isNaN_uint64_ : FuncId := 89
noncomputable def cmp_isNaN_uint64__c : ACode :=
  (.seq (.region [
      ⟨(some 2), .mov (.const (.bool false)), none, [], false⟩]) (.seq (.region [
      ⟨(some 3), .mov (.tmp 0), none, [], false⟩,
      ⟨(some 4), .mov (.tmp 0), none, [], false⟩,
      ⟨(some 5), .bin .neq (so (.binOp .neq 36 (.tmp 3) (.tmp 4) 36) 4) (.tmp 3) (.tmp 4), none, [], false⟩,
      ⟨(some 2), .mov (.tmp 5), none, [], false⟩]) .ret))
noncomputable def cmp_isNaN_uint64_ : AFunc := ⟨6, [(2, none)], cmp_isNaN_uint64__c, none⟩
theorem cmp_isNaN_uint64__t0 : tableOf Try.prog 89 = some cmp_isNaN_uint64_ := by kernel_rfl
theorem cmp_isNaN_uint64__t : T0 89 = some cmp_isNaN_uint64_ := withKept_t rfl (withTrue_t rfl cmp_isNaN_uint64__t0)


/-! 90 slices.Grow[[]byte,byte] -/
abbrev fn_slices_Grow___byte_byte_ : FuncId := 90
noncomputable def slices_Grow___byte_byte__c : ACode :=
  (.seq (.region [
      ⟨(some 4), .mov (.const (.slice none 0 0)), none, [], false⟩]) (.seq (.seq (.region [
      ⟨(some 5), .mov (.tmp 1), none, [], false⟩,
      ⟨(some 6), .bin .lss (so (.binOp .lss 3 (.tmp 5) (.const (.int .i64 0)) 3) 4) (.tmp 5) (.const (.int .i64 0)), none, [], false⟩]) (.cond (.tmp 6)
    (.region [
      ⟨(some 7), .mkIface 9 (.const (.string ⟨⟨[99, 97, 110, 110, 111, 116, 32, 98, 101, 32, 110, 101, 103, 97, 116, 105, 118, 101]⟩⟩)), none, [], false⟩,
      ⟨none, .panic (.tmp 7), none, [], false⟩])
    .skip)) (.seq (.seq (.region [
      ⟨(some 8), .mov (.tmp 1), none, [], false⟩,
      ⟨(some 9), .mov (.tmp 0), none, [], false⟩,
      ⟨(some 10), .cap (.tmp 9), none, [], false⟩,
      ⟨(some 11), .mov (.tmp 0), none, [], false⟩,
      ⟨(some 12), .lenSl (.tmp 11), none, [], false⟩,
      ⟨(some 13), .bin .sub (so (.binOp .sub 3 (.tmp 10) (.tmp 12) 3) 3) (.tmp 10) (.tmp 12), none, [], false⟩,
      ⟨(some 14), .bin .sub (so (.binOp .sub 3 (.tmp 8) (.tmp 13) 3) 3) (.tmp 8) (.tmp 13), none, [], false⟩,
      ⟨(some 1), .mov (.tmp 14), none, [], false⟩]) (.seq (.region [
      ⟨(some 15), .mov (.tmp 1), none, [], false⟩,
      ⟨(some 16), .bin .gtr (so (.binOp .gtr 3 (.tmp 15) (.const (.int .i64 0)) 3) 4) (.tmp 15) (.const (.int .i64 0)), none, [], false⟩]) (.cond (.tmp 16)
    (.region [
      ⟨(some 17), .mov (.tmp 0), none, [], false⟩,
      ⟨(some 18), .mov (.tmp 0), none, [], false⟩,
      ⟨(some 19), .cap (.tmp 18), none, [], false⟩,
      ⟨(some 20), .sliceSl 1 (.tmp 17) none (some (.tmp 19)) none, none, [], false⟩,
      ⟨(some 21), .mov (.tmp 1), none, [], false⟩,
      ⟨(some 22), .append 5 1 1 [(.int .u8 0)] true (.tmp 20) (.tmp 21), none, [], false⟩,
      ⟨(some 23), .mov (.tmp 0), none, [], false⟩,
      ⟨(some 24), .lenSl (.tmp 23), none, [], false⟩,
      ⟨(some 25), .sliceSl 1 (.tmp 22) none (some (.tmp 24)) none, none, [], false⟩,
      ⟨(some 0), .mov (.tmp 25), none, [], false⟩])
    .skip))) (.seq (.region [
      ⟨(some 26), .mov (.tmp 0), none, [], false⟩,
      ⟨(some 4), .mov (.tmp 26), none, [], false⟩]) .ret))))
noncomputable def slices_Grow___byte_byte_ : AFunc := ⟨27, [(4, none)], slices_Grow___byte_byte__c, none⟩
theorem slices_Grow___byte_byte__t0 : tableOf Try.prog 90 = some slices_Grow___byte_byte_ := by kernel_rfl
theorem slices_Grow___byte_byte__t : T0 90 = some slices_Grow___byte_byte_ := withKept_t rfl (withTrue_t rfl slices_Grow___byte_byte__t0)


/-! 91 slices.AppendSeq[[]landfall/sigs.sig,landfall/sigs.sig] -/
abbrev fn_slices_AppendSeq___sigs_sig_sigs_sig_ : FuncId := 91
noncomputable def slices_AppendSeq___sigs_sig_sigs_sig__ra0 : Code := (rangeParts (subCode ((Try.prog.funcs[91]?).bind (·.body)) [true, false, true, false])).1
noncomputable def slices_AppendSeq___sigs_sig_sigs_sig__rb0 : Code := (rangeParts (subCode ((Try.prog.funcs[91]?).bind (·.body)) [true, false, true, false])).2
noncomputable def slices_AppendSeq___sigs_sig_sigs_sig__a0 : ACode :=
  (.region [
      ⟨(some 5), .alloc 70 (z32 ++ [(.int .u8 0), (.int .u8 0), (.int .u8 0), (.int .u8 0), (.int .u64 0)]), none, [], false⟩,
      ⟨none, .store 37 (.tmp 5) (.tmp 7), none, [], false⟩])
noncomputable def slices_AppendSeq___sigs_sig_sigs_sig__b0 : ACode :=
  (.block 1 (.region [
      ⟨(some 8), .load none (.tmp 2), none, [], false⟩,
      ⟨(some 9), .load (some 37) (.tmp 5), none, [], false⟩,
      ⟨(some 10), .buildSlice 70 (z32 ++ [(.int .u8 0), (.int .u8 0), (.int .u8 0), (.int .u8 0), (.int .u64 0)]) 1 [(0, 37, (.tmp 9))], none, [], false⟩,
      ⟨(some 11), .append 70 37 48 (z32 ++ [(.int .u8 0), (.int .u8 0), (.int .u8 0), (.int .u8 0), (.int .u64 0)]) false (.tmp 8) (.tmp 10), none, [], false⟩,
      ⟨none, .store 1 (.tmp 2) (.tmp 11), none, [], false⟩]))
theorem slices_AppendSeq___sigs_sig_sigs_sig__ca0 : comp Try.prog slices_AppendSeq___sigs_sig_sigs_sig__ra0 = some slices_AppendSeq___sigs_sig_sigs_sig__a0 := by kernel_rfl
theorem slices_AppendSeq___sigs_sig_sigs_sig__cb0 : comp Try.prog slices_AppendSeq___sigs_sig_sigs_sig__rb0 = some slices_AppendSeq___sigs_sig_sigs_sig__b0 := by kernel_rfl
theorem slices_AppendSeq___sigs_sig_sigs_sig__na0 : noDefer slices_AppendSeq___sigs_sig_sigs_sig__ra0 = true := by kernel_rfl
theorem slices_AppendSeq___sigs_sig_sigs_sig__nb0 : noDefer slices_AppendSeq___sigs_sig_sigs_sig__rb0 = true := by kernel_rfl
noncomputable def slices_AppendSeq___sigs_sig_sigs_sig__c : ACode :=
  (.seq (.region [
      ⟨(some 2), .box 77 (.tmp 0), none, [], false⟩,
      ⟨(some 4), .mov (.const (.slice none 0 0)), none, [], false⟩]) (.seq (.seq (.region [
      ⟨(some 6), .mov (.tmp 1), none, [], false⟩]) (.block 0 (.rangeFunc (.tmp 6) [7] slices_AppendSeq___sigs_sig_sigs_sig__ra0 slices_AppendSeq___sigs_sig_sigs_sig__rb0))) (.seq (.region [
      ⟨(some 12), .load none (.tmp 2), none, [], false⟩,
      ⟨(some 4), .mov (.tmp 12), none, [], false⟩]) .ret)))
noncomputable def slices_AppendSeq___sigs_sig_sigs_sig_ : AFunc := ⟨13, [(4, none)], slices_AppendSeq___sigs_sig_sigs_sig__c, none⟩
theorem slices_AppendSeq___sigs_sig_sigs_sig__t0 : tableOf Try.prog 91 = some slices_AppendSeq___sigs_sig_sigs_sig_ := by kernel_rfl
theorem slices_AppendSeq___sigs_sig_sigs_sig__t : T0 91 = some slices_AppendSeq___sigs_sig_sigs_sig_ := withKept_t rfl (withTrue_t rfl slices_AppendSeq___sigs_sig_sigs_sig__t0)


/-! 92 slices.pdqsortCmpFunc[landfall/sigs.sig] -/
abbrev fn_slices_pdqsortCmpFunc_sigs_sig_ : FuncId := 92
noncomputable def slices_pdqsortCmpFunc_sigs_sig__l0 : ACode :=
  (.block 1 (.seq (.region [
      ⟨(some 21), .mov (.tmp 2), none, [], false⟩,
      ⟨(some 22), .mov (.tmp 1), none, [], false⟩,
      ⟨(some 23), .bin .sub (so (.binOp .sub 3 (.tmp 21) (.tmp 22) 3) 3) (.tmp 21) (.tmp 22), none, [], false⟩,
      ⟨(some 12), .mov (.tmp 23), none, [], false⟩]) (.seq (.seq (.region [
      ⟨(some 24), .mov (.tmp 12), none, [], false⟩,
      ⟨(some 25), .bin .leq (so (.binOp .leq 3 (.tmp 24) (.const (.int .i64 12)) 3) 4) (.tmp 24) (.const (.int .i64 12)), none, [], false⟩]) (.cond (.tmp 25)
    (.seq (.region [
      ⟨(some 26), .mov (.tmp 0), none, [], false⟩,
      ⟨(some 27), .mov (.tmp 1), none, [], false⟩,
      ⟨(some 28), .mov (.tmp 2), none, [], false⟩,
      ⟨(some 29), .mov (.tmp 4), none, [], false⟩,
      ⟨(some 30), .callV (.func 94) [(.tmp 26), (.tmp 27), (.tmp 28), (.tmp 29)], none, [], false⟩]) .ret)
    .skip)) (.seq (.seq (.region [
      ⟨(some 31), .mov (.tmp 3), none, [], false⟩,
      ⟨(some 32), .bin .eql (so (.binOp .eql 3 (.tmp 31) (.const (.int .i64 0)) 3) 4) (.tmp 31) (.const (.int .i64 0)), none, [], false⟩]) (.cond (.tmp 32)
    (.seq (.region [
      ⟨(some 33), .mov (.tmp 0), none, [], false⟩,
      ⟨(some 34), .mov (.tmp 1), none, [], false⟩,
      ⟨(some 35), .mov (.tmp 2), none, [], false⟩,
      ⟨(some 36), .mov (.tmp 4), none, [], false⟩,
      ⟨(some 37), .callV (.func 95) [(.tmp 33), (.tmp 34), (.tmp 35), (.tmp 36)], none, [], false⟩]) .ret)
    .skip)) (.seq (.seq (.region [
      ⟨(some 38), .mov (.tmp 10), none, [], false⟩,
      ⟨(some 39), .raw (so (.unOp .not 4 (.tmp 38)) 4), none, [], false⟩]) (.cond (.tmp 39)
    (.seq (.region [
      ⟨(some 40), .mov (.tmp 0), none, [], false⟩,
      ⟨(some 41), .mov (.tmp 1), none, [], false⟩,
      ⟨(some 42), .mov (.tmp 2), none, [], false⟩,
      ⟨(some 43), .mov (.tmp 4), none, [], false⟩,
      ⟨(some 44), .callV (.func 96) [(.tmp 40), (.tmp 41), (.tmp 42), (.tmp 43)], none, [], false⟩]) (.region [
      ⟨(some 45), .mov (.tmp 3), none, [], false⟩,
      ⟨(some 46), .bin .sub (so (.binOp .sub 3 (.tmp 45) (.const (.int .i64 1)) 3) 3) (.tmp 45) (.const (.int .i64 1)), none, [], false⟩,
      ⟨(some 3), .mov (.tmp 46), none, [], false⟩]))
    .skip)) (.seq (.region [
      ⟨(some 48), .mov (.tmp 0), none, [], false⟩,
      ⟨(some 49), .mov (.tmp 1), none, [], false⟩,
      ⟨(some 50), .mov (.tmp 2), none, [], false⟩,
      ⟨(some 51), .mov (.tmp 4), none, [], false⟩,
      ⟨(some 52), .callV (.func 97) [(.tmp 48), (.tmp 49), (.tmp 50), (.tmp 51)], none, [], false⟩,
      ⟨(some 47), .mov (.tmp 52), none, [], false⟩,
      ⟨(some 53), .extract 0 (.tmp 47), none, [], false⟩,
      ⟨(some 54), .extract 1 (.tmp 47), none, [], false⟩,
      ⟨(some 13), .mov (.tmp 53), none, [], false⟩,
      ⟨(some 14), .mov (.tmp 54), none, [], false⟩]) (.seq (.seq (.region [
      ⟨(some 55), .mov (.tmp 14), none, [], false⟩,
      ⟨(some 56), .bin .eql (so (.binOp .eql 150 (.tmp 55) (.const (.int .i64 2)) 150) 4) (.tmp 55) (.const (.int .i64 2)), none, [], false⟩]) (.cond (.tmp 56)
    (.seq (.region [
      ⟨(some 57), .mov (.tmp 0), none, [], false⟩,
      ⟨(some 58), .mov (.tmp 1), none, [], false⟩,
      ⟨(some 59), .mov (.tmp 2), none, [], false⟩,
      ⟨(some 60), .mov (.tmp 4), none, [], false⟩,
      ⟨(some 61), .callV (.func 98) [(.tmp 57), (.tmp 58), (.tmp 59), (.tmp 60)], none, [], false⟩]) (.seq (.region [
      ⟨(some 62), .mov (.tmp 2), none, [], false⟩,
      ⟨(some 63), .bin .sub (so (.binOp .sub 3 (.tmp 62) (.const (.int .i64 1)) 3) 3) (.tmp 62) (.const (.int .i64 1)), none, [], false⟩,
      ⟨(some 64), .mov (.tmp 13), none, [], false⟩,
      ⟨(some 65), .mov (.tmp 1), none, [], false⟩,
      ⟨(some 66), .bin .sub (so (.binOp .sub 3 (.tmp 64) (.tmp 65) 3) 3) (.tmp 64) (.tmp 65), none, [], false⟩,
      ⟨(some 67), .bin .sub (so (.binOp .sub 3 (.tmp 63) (.tmp 66) 3) 3) (.tmp 63) (.tmp 66), none, [], false⟩,
      ⟨(some 13), .mov (.tmp 67), none, [], false⟩]) (.region [
      ⟨(some 14), .mov (.const (.int .i64 1)), none, [], false⟩])))
    .skip)) (.seq (.seq (.region [
      ⟨(some 68), .mov (.tmp 10), none, [], false⟩,
      ⟨(some 69), .mov (.tmp 68), none, [], false⟩,
      ⟨(some 70), .mov (.tmp 11), (some (69, true)), [], false⟩,
      ⟨(some 71), .pick (.tmp 69) (.tmp 70) (.const (.bool false)), none, [], false⟩,
      ⟨(some 72), .mov (.tmp 71), none, [], false⟩,
      ⟨(some 73), .mov (.tmp 14), (some (72, true)), [], false⟩,
      ⟨(some 74), .bin .eql (so (.binOp .eql 150 (.tmp 73) (.const (.int .i64 1)) 150) 4) (.tmp 73) (.const (.int .i64 1)), (some (72, true)), [], false⟩,
      ⟨(some 75), .pick (.tmp 72) (.tmp 74) (.const (.bool false)), none, [], false⟩]) (.cond (.tmp 75)
    (.seq (.region [
      ⟨(some 76), .mov (.tmp 0), none, [], false⟩,
      ⟨(some 77), .mov (.tmp 1), none, [], false⟩,
      ⟨(some 78), .mov (.tmp 2), none, [], false⟩,
      ⟨(some 79), .mov (.tmp 4), none, [], false⟩,
      ⟨(some 80), .callV (.func 99) [(.tmp 76), (.tmp 77), (.tmp 78), (.tmp 79)], none, [], false⟩]) (.cond (.tmp 80)
    .ret
    .skip))
    .skip)) (.seq (.seq (.regionD [
      ⟨(some 81), .mov (.tmp 1), none, [], true⟩,
      ⟨(some 82), .bin .gtr (so (.binOp .gtr 3 (.tmp 81) (.const (.int .i64 0)) 3) 4) (.tmp 81) (.const (.int .i64 0)), none, [], true⟩,
      ⟨(some 83), .mov (.tmp 82), none, [], true⟩,
      ⟨(some 84), .mov (.tmp 4), (some (83, true)), [], false⟩,
      ⟨(some 85), .mov (.tmp 0), (some (83, true)), [], false⟩,
      ⟨(some 86), .mov (.tmp 1), (some (83, true)), [], false⟩,
      ⟨(some 87), .bin .sub (so (.binOp .sub 3 (.tmp 86) (.const (.int .i64 1)) 3) 3) (.tmp 86) (.const (.int .i64 1)), (some (83, true)), [], false⟩,
      ⟨(some 88), .indexSl 37 (.tmp 85) (.tmp 87), (some (83, true)), [], false⟩,
      ⟨(some 89), .load (some 37) (.tmp 88), (some (83, true)), [], false⟩,
      ⟨(some 90), .mov (.tmp 0), (some (83, true)), [], false⟩,
      ⟨(some 91), .mov (.tmp 13), (some (83, true)), [], false⟩,
      ⟨(some 92), .indexSl 37 (.tmp 90) (.tmp 91), (some (83, true)), [], false⟩,
      ⟨(some 93), .load (some 37) (.tmp 92), (some (83, true)), [], false⟩,
      ⟨(some 94), .callV (.tmp 84) [(.tmp 89), (.tmp 93)], (some (83, true)), [], true⟩,
      ⟨(some 95), .bin .lss (so (.binOp .lss 3 (.tmp 94) (.const (.int .i64 0)) 3) 4) (.tmp 94) (.const (.int .i64 0)), (some (83, true)), [], true⟩,
      ⟨(some 96), .raw (so (.unOp .not 4 (.tmp 95)) 4), (some (83, true)), [], true⟩,
      ⟨(some 97), .pick (.tmp 83) (.tmp 96) (.const (.bool false)), none, [], true⟩]) (.cond (.tmp 97)
    (.seq (.region [
      ⟨(some 98), .mov (.tmp 0), none, [], false⟩,
      ⟨(some 99), .mov (.tmp 1), none, [], false⟩,
      ⟨(some 100), .mov (.tmp 2), none, [], false⟩,
      ⟨(some 101), .mov (.tmp 13), none, [], false⟩,
      ⟨(some 102), .mov (.tmp 4), none, [], false⟩,
      ⟨(some 103), .callV (.func 100) [(.tmp 98), (.tmp 99), (.tmp 100), (.tmp 101), (.tmp 102)], none, [], false⟩,
      ⟨(some 15), .mov (.tmp 103), none, [], false⟩]) (.seq (.region [
      ⟨(some 104), .mov (.tmp 15), none, [], false⟩,
      ⟨(some 1), .mov (.tmp 104), none, [], false⟩]) (.exit 1)))
    .skip)) (.seq (.region [
      ⟨(some 106), .mov (.tmp 0), none, [], false⟩,
      ⟨(some 107), .mov (.tmp 1), none, [], false⟩,
      ⟨(some 108), .mov (.tmp 2), none, [], false⟩,
      ⟨(some 109), .mov (.tmp 13), none, [], false⟩,
      ⟨(some 110), .mov (.tmp 4), none, [], false⟩,
      ⟨(some 111), .callV (.func 101) [(.tmp 106), (.tmp 107), (.tmp 108), (.tmp 109), (.tmp 110)], none, [], false⟩,
      ⟨(some 105), .mov (.tmp 111), none, [], false⟩,
      ⟨(some 112), .extract 0 (.tmp 105), none, [], false⟩,
      ⟨(some 113), .extract 1 (.tmp 105), none, [], false⟩,
      ⟨(some 16), .mov (.tmp 112), none, [], false⟩,
      ⟨(some 17), .mov (.tmp 113), none, [], false⟩]) (.seq (.region [
      ⟨(some 114), .mov (.tmp 17), none, [], false⟩,
      ⟨(some 11), .mov (.tmp 114), none, [], false⟩]) (.seq (.region [
      ⟨(some 115), .mov (.tmp 16), none, [], false⟩,
      ⟨(some 116), .mov (.tmp 1), none, [], false⟩,
      ⟨(some 117), .bin .sub (so (.binOp .sub 3 (.tmp 115) (.tmp 116) 3) 3) (.tmp 115) (.tmp 116), none, [], false⟩,
      ⟨(some 118), .mov (.tmp 2), none, [], false⟩,
      ⟨(some 119), .mov (.tmp 16), none, [], false⟩,
      ⟨(some 120), .bin .sub (so (.binOp .sub 3 (.tmp 118) (.tmp 119) 3) 3) (.tmp 118) (.tmp 119), none, [], false⟩,
      ⟨(some 18), .mov (.tmp 117), none, [], false⟩,
      ⟨(some 19), .mov (.tmp 120), none, [], false⟩]) (.seq (.region [
      ⟨(some 121), .mov (.tmp 12), none, [], false⟩,
      ⟨(some 122), .bin .quo (so (.binOp .quo 3 (.tmp 121) (.const (.int .i64 8)) 3) 3) (.tmp 121) (.const (.int .i64 8)), none, [], false⟩,
      ⟨(some 20), .mov (.tmp 122), none, [], false⟩]) (.seq (.region [
      ⟨(some 123), .mov (.tmp 18), none, [], false⟩,
      ⟨(some 124), .mov (.tmp 19), none, [], false⟩,
      ⟨(some 125), .bin .lss (so (.binOp .lss 3 (.tmp 123) (.tmp 124) 3) 4) (.tmp 123) (.tmp 124), none, [], false⟩]) (.cond (.tmp 125)
    (.seq (.region [
      ⟨(some 126), .mov (.tmp 18), none, [], false⟩,
      ⟨(some 127), .mov (.tmp 20), none, [], false⟩,
      ⟨(some 128), .bin .geq (so (.binOp .geq 3 (.tmp 126) (.tmp 127) 3) 4) (.tmp 126) (.tmp 127), none, [], false⟩,
      ⟨(some 10), .mov (.tmp 128), none, [], false⟩]) (.seq (.region [
      ⟨(some 129), .mov (.tmp 0), none, [], false⟩,
      ⟨(some 130), .mov (.tmp 1), none, [], false⟩,
      ⟨(some 131), .mov (.tmp 16), none, [], false⟩,
      ⟨(some 132), .mov (.tmp 3), none, [], false⟩,
      ⟨(some 133), .mov (.tmp 4), none, [], false⟩,
      ⟨(some 134), .callV (.func 92) [(.tmp 129), (.tmp 130), (.tmp 131), (.tmp 132), (.tmp 133)], none, [], false⟩]) (.region [
      ⟨(some 135), .mov (.tmp 16), none, [], false⟩,
      ⟨(some 136), .bin .add (so (.binOp .add 3 (.tmp 135) (.const (.int .i64 1)) 3) 3) (.tmp 135) (.const (.int .i64 1)), none, [], false⟩,
      ⟨(some 1), .mov (.tmp 136), none, [], false⟩])))
    (.seq (.region [
      ⟨(some 137), .mov (.tmp 19), none, [], false⟩,
      ⟨(some 138), .mov (.tmp 20), none, [], false⟩,
      ⟨(some 139), .bin .geq (so (.binOp .geq 3 (.tmp 137) (.tmp 138) 3) 4) (.tmp 137) (.tmp 138), none, [], false⟩,
      ⟨(some 10), .mov (.tmp 139), none, [], false⟩]) (.seq (.region [
      ⟨(some 140), .mov (.tmp 0), none, [], false⟩,
      ⟨(some 141), .mov (.tmp 16), none, [], false⟩,
      ⟨(some 142), .bin .add (so (.binOp .add 3 (.tmp 141) (.const (.int .i64 1)) 3) 3) (.tmp 141) (.const (.int .i64 1)), none, [], false⟩,
      ⟨(some 143), .mov (.tmp 2), none, [], false⟩,
      ⟨(some 144), .mov (.tmp 3), none, [], false⟩,
      ⟨(some 145), .mov (.tmp 4), none, [], false⟩,
      ⟨(some 146), .callV (.func 92) [(.tmp 140), (.tmp 142), (.tmp 143), (.tmp 144), (.tmp 145)], none, [], false⟩]) (.region [
      ⟨(some 147), .mov (.tmp 16), none, [], false⟩,
      ⟨(some 2), .mov (.tmp 147), none, [], false⟩]))))))))))))))))))
noncomputable def slices_pdqsortCmpFunc_sigs_sig__c : ACode :=
  (.seq (.region [
      ⟨(some 10), .mov (.const (.bool true)), none, [], false⟩]) (.seq (.region [
      ⟨(some 11), .mov (.const (.bool true)), none, [], false⟩]) (.block 0 (.loop slices_pdqsortCmpFunc_sigs_sig__l0))))
noncomputable def slices_pdqsortCmpFunc_sigs_sig_ : AFunc := ⟨148, [], slices_pdqsortCmpFunc_sigs_sig__c, none⟩
theorem slices_pdqsortCmpFunc_sigs_sig__t0 : tableOf Try.prog 92 = some slices_pdqsortCmpFunc_sigs_sig_ := by kernel_rfl
theorem slices_pdqsortCmpFunc_sigs_sig__t : T0 92 = some slices_pdqsortCmpFunc_sigs_sig_ := withKept_t rfl (withTrue_t rfl slices_pdqsortCmpFunc_sigs_sig__t0)


/-! 93 math/bits.Len -/
abbrev fn_math_bits_Len : FuncId := 93
noncomputable def math_bits_Len_c : ACode :=
  (.seq (.region [
      ⟨(some 2), .mov (.const (.int .i64 0)), none, [], false⟩]) (.seq (.cond (.const (.bool false))
    (.seq (.region [
      ⟨(some 3), .mov (.tmp 0), none, [], false⟩,
      ⟨(some 4), .conv .u32 (so (.convert 135 158 (.tmp 3)) 158) (.tmp 3), none, [], false⟩,
      ⟨(some 5), .callV (.func 102) [(.tmp 4)], none, [], false⟩,
      ⟨(some 2), .mov (.tmp 5), none, [], false⟩]) .ret)
    .skip) (.seq (.region [
      ⟨(some 6), .mov (.tmp 0), none, [], false⟩,
      ⟨(some 7), .callV (.func 103) [(.tmp 6)], none, [], false⟩,
      ⟨(some 2), .mov (.tmp 7), none, [], false⟩]) .ret)))
noncomputable def math_bits_Len : AFunc := ⟨8, [(2, none)], math_bits_Len_c, none⟩
theorem math_bits_Len_t0 : tableOf Try.prog 93 = some math_bits_Len := by kernel_rfl
theorem math_bits_Len_t : T0 93 = some math_bits_Len := withKept_t rfl (withTrue_t rfl math_bits_Len_t0)


/-! 94 slices.insertionSortCmpFunc[landfall/sigs.sig] -/
abbrev fn_slices_insertionSortCmpFunc_sigs_sig_ : FuncId := 94
noncomputable def slices_insertionSortCmpFunc_sigs_sig__l0 : ACode :=
  (.seq (.seq (.regionD [
      ⟨(some 18), .mov (.tmp 9), none, [], false⟩,
      ⟨(some 19), .mov (.tmp 1), none, [], false⟩,
      ⟨(some 20), .bin .gtr (so (.binOp .gtr 3 (.tmp 18) (.tmp 19) 3) 4) (.tmp 18) (.tmp 19), none, [], true⟩,
      ⟨(some 21), .mov (.tmp 20), none, [], true⟩,
      ⟨(some 22), .mov (.tmp 3), (some (21, true)), [], false⟩,
      ⟨(some 23), .mov (.tmp 0), (some (21, true)), [], false⟩,
      ⟨(some 24), .mov (.tmp 9), (some (21, true)), [], false⟩,
      ⟨(some 25), .indexSl 37 (.tmp 23) (.tmp 24), (some (21, true)), [], false⟩,
      ⟨(some 26), .load (some 37) (.tmp 25), (some (21, true)), [], false⟩,
      ⟨(some 27), .mov (.tmp 0), (some (21, true)), [], false⟩,
      ⟨(some 28), .mov (.tmp 9), (some (21, true)), [], false⟩,
      ⟨(some 29), .bin .sub (so (.binOp .sub 3 (.tmp 28) (.const (.int .i64 1)) 3) 3) (.tmp 28) (.const (.int .i64 1)), (some (21, true)), [], false⟩,
      ⟨(some 30), .indexSl 37 (.tmp 27) (.tmp 29), (some (21, true)), [], false⟩,
      ⟨(some 31), .load (some 37) (.tmp 30), (some (21, true)), [], false⟩,
      ⟨(some 32), .callV (.tmp 22) [(.tmp 26), (.tmp 31)], (some (21, true)), [], true⟩,
      ⟨(some 33), .bin .lss (so (.binOp .lss 3 (.tmp 32) (.const (.int .i64 0)) 3) 4) (.tmp 32) (.const (.int .i64 0)), (some (21, true)), [], true⟩,
      ⟨(some 34), .pick (.tmp 21) (.tmp 33) (.const (.bool false)), none, [], true⟩]) (.cond (.tmp 34)
    .skip
    (.exit 2))) (.seq (.block 3 (.regionD [
      ⟨(some 37), .mov (.tmp 0), none, [], false⟩,
      ⟨(some 38), .mov (.tmp 9), none, [], false⟩,
      ⟨(some 39), .mov (.tmp 0), none, [], false⟩,
      ⟨(some 40), .mov (.tmp 9), none, [], false⟩,
      ⟨(some 41), .bin .sub (so (.binOp .sub 3 (.tmp 40) (.const (.int .i64 1)) 3) 3) (.tmp 40) (.const (.int .i64 1)), none, [], false⟩,
      ⟨(some 42), .mov (.tmp 0), none, [], false⟩,
      ⟨(some 43), .mov (.tmp 9), none, [], false⟩,
      ⟨(some 44), .bin .sub (so (.binOp .sub 3 (.tmp 43) (.const (.int .i64 1)) 3) 3) (.tmp 43) (.const (.int .i64 1)), none, [], false⟩,
      ⟨(some 45), .indexSl 37 (.tmp 42) (.tmp 44), none, [], false⟩,
      ⟨(some 46), .load (some 37) (.tmp 45), none, [], false⟩,
      ⟨(some 47), .mov (.tmp 0), none, [], false⟩,
      ⟨(some 48), .mov (.tmp 9), none, [], false⟩,
      ⟨(some 49), .indexSl 37 (.tmp 47) (.tmp 48), none, [], false⟩,
      ⟨(some 50), .load (some 37) (.tmp 49), none, [], false⟩,
      ⟨(some 51), .indexSl 37 (.tmp 37) (.tmp 38), none, [], false⟩,
      ⟨none, .store 37 (.tmp 51) (.tmp 46), none, [((some 41), .bin .sub (so (.binOp .sub 3 (.tmp 40) (.const (.int .i64 1)) 3) 3) (.tmp 40) (.const (.int .i64 1)), none), ((some 40), .mov (.tmp 9), none), ((some 39), .mov (.tmp 0), none)], false⟩,
      ⟨(some 52), .indexSl 37 (.tmp 39) (.tmp 41), none, [], true⟩,
      ⟨none, .store 37 (.tmp 52) (.tmp 50), none, [], true⟩])) (.region [
      ⟨(some 35), .mov (.tmp 9), none, [], false⟩,
      ⟨(some 36), .bin .sub (so (.binOp .sub 3 (.tmp 35) (.const (.int .i64 1)) 3) 3) (.tmp 35) (.const (.int .i64 1)), none, [], false⟩,
      ⟨(some 9), .mov (.tmp 36), none, [], false⟩])))
noncomputable def slices_insertionSortCmpFunc_sigs_sig__l1 : ACode :=
  (.seq (.seq (.region [
      ⟨(some 12), .mov (.tmp 8), none, [], false⟩,
      ⟨(some 13), .mov (.tmp 2), none, [], false⟩,
      ⟨(some 14), .bin .lss (so (.binOp .lss 3 (.tmp 12) (.tmp 13) 3) 4) (.tmp 12) (.tmp 13), none, [], false⟩]) (.cond (.tmp 14)
    .skip
    (.exit 0))) (.seq (.block 1 (.seq (.region [
      ⟨(some 17), .mov (.tmp 8), none, [], false⟩,
      ⟨(some 9), .mov (.tmp 17), none, [], false⟩]) (.block 2 (.loop slices_insertionSortCmpFunc_sigs_sig__l0)))) (.region [
      ⟨(some 15), .mov (.tmp 8), none, [], false⟩,
      ⟨(some 16), .bin .add (so (.binOp .add 3 (.tmp 15) (.const (.int .i64 1)) 3) 3) (.tmp 15) (.const (.int .i64 1)), none, [], false⟩,
      ⟨(some 8), .mov (.tmp 16), none, [], false⟩])))
noncomputable def slices_insertionSortCmpFunc_sigs_sig__c : ACode :=
  (.seq (.region [
      ⟨(some 10), .mov (.tmp 1), none, [], false⟩,
      ⟨(some 11), .bin .add (so (.binOp .add 3 (.tmp 10) (.const (.int .i64 1)) 3) 3) (.tmp 10) (.const (.int .i64 1)), none, [], false⟩,
      ⟨(some 8), .mov (.tmp 11), none, [], false⟩]) (.block 0 (.loop slices_insertionSortCmpFunc_sigs_sig__l1)))
noncomputable def slices_insertionSortCmpFunc_sigs_sig_ : AFunc := ⟨53, [], slices_insertionSortCmpFunc_sigs_sig__c, none⟩
theorem slices_insertionSortCmpFunc_sigs_sig__t0 : tableOf Try.prog 94 = some slices_insertionSortCmpFunc_sigs_sig_ := by kernel_rfl
theorem slices_insertionSortCmpFunc_sigs_sig__t : T0 94 = some slices_insertionSortCmpFunc_sigs_sig_ := withKept_t rfl (withTrue_t rfl slices_insertionSortCmpFunc_sigs_sig__t0)


/-! 95 slices.heapSortCmpFunc[landfall/sigs.sig] -/
abbrev fn_slices_heapSortCmpFunc_sigs_sig_ : FuncId := 95
noncomputable def slices_heapSortCmpFunc_sigs_sig__l0 : ACode :=
  (.seq (.seq (.region [
      ⟨(some 20), .mov (.tmp 11), none, [], false⟩,
      ⟨(some 21), .bin .geq (so (.binOp .geq 3 (.tmp 20) (.const (.int .i64 0)) 3) 4) (.tmp 20) (.const (.int .i64 0)), none, [], false⟩]) (.cond (.tmp 21)
    .skip
    (.exit 0))) (.seq (.block 1 (.region [
      ⟨(some 24), .mov (.tmp 0), none, [], false⟩,
      ⟨(some 25), .mov (.tmp 11), none, [], false⟩,
      ⟨(some 26), .mov (.tmp 10), none, [], false⟩,
      ⟨(some 27), .mov (.tmp 8), none, [], false⟩,
      ⟨(some 28), .mov (.tmp 3), none, [], false⟩,
      ⟨(some 29), .callV (.func 104) [(.tmp 24), (.tmp 25), (.tmp 26), (.tmp 27), (.tmp 28)], none, [], false⟩])) (.region [
      ⟨(some 22), .mov (.tmp 11), none, [], false⟩,
      ⟨(some 23), .bin .sub (so (.binOp .sub 3 (.tmp 22) (.const (.int .i64 1)) 3) 3) (.tmp 22) (.const (.int .i64 1)), none, [], false⟩,
      ⟨(some 11), .mov (.tmp 23), none, [], false⟩])))
noncomputable def slices_heapSortCmpFunc_sigs_sig__l1 : ACode :=
  (.seq (.seq (.region [
      ⟨(some 32), .mov (.tmp 12), none, [], false⟩,
      ⟨(some 33), .bin .geq (so (.binOp .geq 3 (.tmp 32) (.const (.int .i64 0)) 3) 4) (.tmp 32) (.const (.int .i64 0)), none, [], false⟩]) (.cond (.tmp 33)
    .skip
    (.exit 2))) (.seq (.block 3 (.seq (.regionD [
      ⟨(some 36), .mov (.tmp 0), none, [], false⟩,
      ⟨(some 37), .mov (.tmp 8), none, [], false⟩,
      ⟨(some 38), .mov (.tmp 0), none, [], false⟩,
      ⟨(some 39), .mov (.tmp 8), none, [], false⟩,
      ⟨(some 40), .mov (.tmp 12), none, [], false⟩,
      ⟨(some 41), .bin .add (so (.binOp .add 3 (.tmp 39) (.tmp 40) 3) 3) (.tmp 39) (.tmp 40), none, [], false⟩,
      ⟨(some 42), .mov (.tmp 0), none, [], false⟩,
      ⟨(some 43), .mov (.tmp 8), none, [], false⟩,
      ⟨(some 44), .mov (.tmp 12), none, [], false⟩,
      ⟨(some 45), .bin .add (so (.binOp .add 3 (.tmp 43) (.tmp 44) 3) 3) (.tmp 43) (.tmp 44), none, [], false⟩,
      ⟨(some 46), .indexSl 37 (.tmp 42) (.tmp 45), none, [], false⟩,
      ⟨(some 47), .load (some 37) (.tmp 46), none, [], false⟩,
      ⟨(some 48), .mov (.tmp 0), none, [], false⟩,
      ⟨(some 49), .mov (.tmp 8), none, [], false⟩,
      ⟨(some 50), .indexSl 37 (.tmp 48) (.tmp 49), none, [], false⟩,
      ⟨(some 51), .load (some 37) (.tmp 50), none, [], false⟩,
      ⟨(some 52), .indexSl 37 (.tmp 36) (.tmp 37), none, [], false⟩,
      ⟨none, .store 37 (.tmp 52) (.tmp 47), none, [((some 41), .bin .add (so (.binOp .add 3 (.tmp 39) (.tmp 40) 3) 3) (.tmp 39) (.tmp 40), none), ((some 40), .mov (.tmp 12), none), ((some 39), .mov (.tmp 8), none), ((some 38), .mov (.tmp 0), none)], false⟩,
      ⟨(some 53), .indexSl 37 (.tmp 38) (.tmp 41), none, [], true⟩,
      ⟨none, .store 37 (.tmp 53) (.tmp 51), none, [], true⟩]) (.region [
      ⟨(some 54), .mov (.tmp 0), none, [], false⟩,
      ⟨(some 55), .mov (.tmp 9), none, [], false⟩,
      ⟨(some 56), .mov (.tmp 12), none, [], false⟩,
      ⟨(some 57), .mov (.tmp 8), none, [], false⟩,
      ⟨(some 58), .mov (.tmp 3), none, [], false⟩,
      ⟨(some 59), .callV (.func 104) [(.tmp 54), (.tmp 55), (.tmp 56), (.tmp 57), (.tmp 58)], none, [], false⟩]))) (.region [
      ⟨(some 34), .mov (.tmp 12), none, [], false⟩,
      ⟨(some 35), .bin .sub (so (.binOp .sub 3 (.tmp 34) (.const (.int .i64 1)) 3) 3) (.tmp 34) (.const (.int .i64 1)), none, [], false⟩,
      ⟨(some 12), .mov (.tmp 35), none, [], false⟩])))
noncomputable def slices_heapSortCmpFunc_sigs_sig__c : ACode :=
  (.seq (.region [
      ⟨(some 13), .mov (.tmp 1), none, [], false⟩,
      ⟨(some 8), .mov (.tmp 13), none, [], false⟩]) (.seq (.region [
      ⟨(some 9), .mov (.const (.int .i64 0)), none, [], false⟩]) (.seq (.region [
      ⟨(some 14), .mov (.tmp 2), none, [], false⟩,
      ⟨(some 15), .mov (.tmp 1), none, [], false⟩,
      ⟨(some 16), .bin .sub (so (.binOp .sub 3 (.tmp 14) (.tmp 15) 3) 3) (.tmp 14) (.tmp 15), none, [], false⟩,
      ⟨(some 10), .mov (.tmp 16), none, [], false⟩]) (.seq (.seq (.region [
      ⟨(some 17), .mov (.tmp 10), none, [], false⟩,
      ⟨(some 18), .bin .sub (so (.binOp .sub 3 (.tmp 17) (.const (.int .i64 1)) 3) 3) (.tmp 17) (.const (.int .i64 1)), none, [], false⟩,
      ⟨(some 19), .bin .quo (so (.binOp .quo 3 (.tmp 18) (.const (.int .i64 2)) 3) 3) (.tmp 18) (.const (.int .i64 2)), none, [], false⟩,
      ⟨(some 11), .mov (.tmp 19), none, [], false⟩]) (.block 0 (.loop slices_heapSortCmpFunc_sigs_sig__l0))) (.seq (.region [
      ⟨(some 30), .mov (.tmp 10), none, [], false⟩,
      ⟨(some 31), .bin .sub (so (.binOp .sub 3 (.tmp 30) (.const (.int .i64 1)) 3) 3) (.tmp 30) (.const (.int .i64 1)), none, [], false⟩,
      ⟨(some 12), .mov (.tmp 31), none, [], false⟩]) (.block 2 (.loop slices_heapSortCmpFunc_sigs_sig__l1)))))))
noncomputable def slices_heapSortCmpFunc_sigs_sig_ : AFunc := ⟨60, [], slices_heapSortCmpFunc_sigs_sig__c, none⟩
theorem slices_heapSortCmpFunc_sigs_sig__t0 : tableOf Try.prog 95 = some slices_heapSortCmpFunc_sigs_sig_ := by kernel_rfl
theorem slices_heapSortCmpFunc_sigs_sig__t : T0 95 = some slices_heapSortCmpFunc_sigs_sig_ := withKept_t rfl (withTrue_t rfl slices_heapSortCmpFunc_sigs_sig__t0)


/-! 96 slices.breakPatternsCmpFunc[landfall/sigs.sig] -/
abbrev fn_slices_breakPatternsCmpFunc_sigs_sig_ : FuncId := 96
noncomputable def slices_breakPatternsCmpFunc_sigs_sig__l0 : ACode :=
  (.seq (.seq (.region [
      ⟨(some 28), .mov (.tmp 11), none, [], false⟩,
      ⟨(some 29), .mov (.tmp 1), none, [], false⟩,
      ⟨(some 30), .mov (.tmp 8), none, [], false⟩,
      ⟨(some 31), .bin .quo (so (.binOp .quo 3 (.tmp 30) (.const (.int .i64 4)) 3) 3) (.tmp 30) (.const (.int .i64 4)), none, [], false⟩,
      ⟨(some 32), .bin .mul (so (.binOp .mul 3 (.tmp 31) (.const (.int .i64 2)) 3) 3) (.tmp 31) (.const (.int .i64 2)), none, [], false⟩,
      ⟨(some 33), .bin .add (so (.binOp .add 3 (.tmp 29) (.tmp 32) 3) 3) (.tmp 29) (.tmp 32), none, [], false⟩,
      ⟨(some 34), .bin .add (so (.binOp .add 3 (.tmp 33) (.const (.int .i64 1)) 3) 3) (.tmp 33) (.const (.int .i64 1)), none, [], false⟩,
      ⟨(some 35), .bin .leq (so (.binOp .leq 3 (.tmp 28) (.tmp 34) 3) 4) (.tmp 28) (.tmp 34), none, [], false⟩]) (.cond (.tmp 35)
    .skip
    (.exit 0))) (.seq (.block 1 (.seq (.region [
      ⟨(some 38), .callV (.func 106) [(.tmp 9)], none, [], false⟩,
      ⟨(some 39), .mov (.tmp 10), none, [], false⟩,
      ⟨(some 40), .bin .sub (so (.binOp .sub 135 (.tmp 39) (.const (.int .u64 1)) 135) 135) (.tmp 39) (.const (.int .u64 1)), none, [], false⟩,
      ⟨(some 41), .bin .and (so (.binOp .and 135 (.tmp 38) (.tmp 40) 135) 135) (.tmp 38) (.tmp 40), none, [], false⟩,
      ⟨(some 42), .conv .i64 (so (.convert 135 3 (.tmp 41)) 3) (.tmp 41), none, [], false⟩,
      ⟨(some 12), .mov (.tmp 42), none, [], false⟩]) (.seq (.seq (.region [
      ⟨(some 43), .mov (.tmp 12), none, [], false⟩,
      ⟨(some 44), .mov (.tmp 8), none, [], false⟩,
      ⟨(some 45), .bin .geq (so (.binOp .geq 3 (.tmp 43) (.tmp 44) 3) 4) (.tmp 43) (.tmp 44), none, [], false⟩]) (.cond (.tmp 45)
    (.region [
      ⟨(some 46), .mov (.tmp 12), none, [], false⟩,
      ⟨(some 47), .mov (.tmp 8), none, [], false⟩,
      ⟨(some 48), .bin .sub (so (.binOp .sub 3 (.tmp 46) (.tmp 47) 3) 3) (.tmp 46) (.tmp 47), none, [], false⟩,
      ⟨(some 12), .mov (.tmp 48), none, [], false⟩])
    .skip)) (.regionD [
      ⟨(some 49), .mov (.tmp 0), none, [], false⟩,
      ⟨(some 50), .mov (.tmp 11), none, [], false⟩,
      ⟨(some 51), .mov (.tmp 0), none, [], false⟩,
      ⟨(some 52), .mov (.tmp 1), none, [], false⟩,
      ⟨(some 53), .mov (.tmp 12), none, [], false⟩,
      ⟨(some 54), .bin .add (so (.binOp .add 3 (.tmp 52) (.tmp 53) 3) 3) (.tmp 52) (.tmp 53), none, [], false⟩,
      ⟨(some 55), .mov (.tmp 0), none, [], false⟩,
      ⟨(some 56), .mov (.tmp 1), none, [], false⟩,
      ⟨(some 57), .mov (.tmp 12), none, [], false⟩,
      ⟨(some 58), .bin .add (so (.binOp .add 3 (.tmp 56) (.tmp 57) 3) 3) (.tmp 56) (.tmp 57), none, [], false⟩,
      ⟨(some 59), .indexSl 37 (.tmp 55) (.tmp 58), none, [], false⟩,
      ⟨(some 60), .load (some 37) (.tmp 59), none, [], false⟩,
      ⟨(some 61), .mov (.tmp 0), none, [], false⟩,
      ⟨(some 62), .mov (.tmp 11), none, [], false⟩,
      ⟨(some 63), .indexSl 37 (.tmp 61) (.tmp 62), none, [], false⟩,
      ⟨(some 64), .load (some 37) (.tmp 63), none, [], false⟩,
      ⟨(some 65), .indexSl 37 (.tmp 49) (.tmp 50), none, [], false⟩,
      ⟨none, .store 37 (.tmp 65) (.tmp 60), none, [((some 54), .bin .add (so (.binOp .add 3 (.tmp 52) (.tmp 53) 3) 3) (.tmp 52) (.tmp 53), none), ((some 53), .mov (.tmp 12), none), ((some 52), .mov (.tmp 1), none), ((some 51), .mov (.tmp 0), none)], false⟩,
      ⟨(some 66), .indexSl 37 (.tmp 51) (.tmp 54), none, [], true⟩,
      ⟨none, .store 37 (.tmp 66) (.tmp 64), none, [], true⟩])))) (.region [
      ⟨(some 36), .mov (.tmp 11), none, [], false⟩,
      ⟨(some 37), .bin .add (so (.binOp .add 3 (.tmp 36) (.const (.int .i64 1)) 3) 3) (.tmp 36) (.const (.int .i64 1)), none, [], false⟩,
      ⟨(some 11), .mov (.tmp 37), none, [], false⟩])))
noncomputable def slices_breakPatternsCmpFunc_sigs_sig__c : ACode :=
  (.seq (.region [
      ⟨(some 13), .mov (.tmp 2), none, [], false⟩,
      ⟨(some 14), .mov (.tmp 1), none, [], false⟩,
      ⟨(some 15), .bin .sub (so (.binOp .sub 3 (.tmp 13) (.tmp 14) 3) 3) (.tmp 13) (.tmp 14), none, [], false⟩,
      ⟨(some 8), .mov (.tmp 15), none, [], false⟩]) (.seq (.region [
      ⟨(some 16), .mov (.tmp 8), none, [], false⟩,
      ⟨(some 17), .bin .geq (so (.binOp .geq 3 (.tmp 16) (.const (.int .i64 8)) 3) 4) (.tmp 16) (.const (.int .i64 8)), none, [], false⟩]) (.cond (.tmp 17)
    (.seq (.region [
      ⟨(some 18), .mov (.tmp 8), none, [], false⟩,
      ⟨(some 19), .conv .u64 (so (.convert 3 160 (.tmp 18)) 160) (.tmp 18), none, [], false⟩,
      ⟨(some 9), .alloc 160 [(.int .u64 0)], none, [], false⟩,
      ⟨none, .store 1 (.tmp 9) (.tmp 19), none, [], false⟩]) (.seq (.region [
      ⟨(some 20), .mov (.tmp 8), none, [], false⟩,
      ⟨(some 21), .callV (.func 105) [(.tmp 20)], none, [], false⟩,
      ⟨(some 10), .mov (.tmp 21), none, [], false⟩]) (.seq (.region [
      ⟨(some 22), .mov (.tmp 1), none, [], false⟩,
      ⟨(some 23), .mov (.tmp 8), none, [], false⟩,
      ⟨(some 24), .bin .quo (so (.binOp .quo 3 (.tmp 23) (.const (.int .i64 4)) 3) 3) (.tmp 23) (.const (.int .i64 4)), none, [], false⟩,
      ⟨(some 25), .bin .mul (so (.binOp .mul 3 (.tmp 24) (.const (.int .i64 2)) 3) 3) (.tmp 24) (.const (.int .i64 2)), none, [], false⟩,
      ⟨(some 26), .bin .add (so (.binOp .add 3 (.tmp 22) (.tmp 25) 3) 3) (.tmp 22) (.tmp 25), none, [], false⟩,
      ⟨(some 27), .bin .sub (so (.binOp .sub 3 (.tmp 26) (.const (.int .i64 1)) 3) 3) (.tmp 26) (.const (.int .i64 1)), none, [], false⟩,
      ⟨(some 11), .mov (.tmp 27), none, [], false⟩]) (.block 0 (.loop slices_breakPatternsCmpFunc_sigs_sig__l0)))))
    .skip)))
noncomputable def slices_breakPatternsCmpFunc_sigs_sig_ : AFunc := ⟨67, [], slices_breakPatternsCmpFunc_sigs_sig__c, none⟩
theorem slices_breakPatternsCmpFunc_sigs_sig__t0 : tableOf Try.prog 96 = some slices_breakPatternsCmpFunc_sigs_sig_ := by kernel_rfl
theorem slices_breakPatternsCmpFunc_sigs_sig__t : T0 96 = some slices_breakPatternsCmpFunc_sigs_sig_ := withKept_t rfl (withTrue_t rfl slices_breakPatternsCmpFunc_sigs_sig__t0)


/-! 97 slices.choosePivotCmpFunc[landfall/sigs.sig] -/
abbrev fn_slices_choosePivotCmpFunc_sigs_sig_ : FuncId := 97
noncomputable def slices_choosePivotCmpFunc_sigs_sig__c : ACode :=
  (.seq (.region [
      ⟨(some 8), .mov (.const (.int .i64 0)), none, [], false⟩,
      ⟨(some 9), .mov (.const (.int .i64 0)), none, [], false⟩]) (.seq (.region [
      ⟨(some 15), .mov (.tmp 2), none, [], false⟩,
      ⟨(some 16), .mov (.tmp 1), none, [], false⟩,
      ⟨(some 17), .bin .sub (so (.binOp .sub 3 (.tmp 15) (.tmp 16) 3) 3) (.tmp 15) (.tmp 16), none, [], false⟩,
      ⟨(some 10), .mov (.tmp 17), none, [], false⟩]) (.seq (.region [
      ⟨(some 11), .alloc 3 [(.int .i64 0)], none, [], false⟩]) (.seq (.region [
      ⟨(some 18), .mov (.tmp 1), none, [], false⟩,
      ⟨(some 19), .mov (.tmp 10), none, [], false⟩,
      ⟨(some 20), .bin .quo (so (.binOp .quo 3 (.tmp 19) (.const (.int .i64 4)) 3) 3) (.tmp 19) (.const (.int .i64 4)), none, [], false⟩,
      ⟨(some 21), .bin .mul (so (.binOp .mul 3 (.tmp 20) (.const (.int .i64 1)) 3) 3) (.tmp 20) (.const (.int .i64 1)), none, [], false⟩,
      ⟨(some 22), .bin .add (so (.binOp .add 3 (.tmp 18) (.tmp 21) 3) 3) (.tmp 18) (.tmp 21), none, [], false⟩,
      ⟨(some 12), .mov (.tmp 22), none, [], false⟩]) (.seq (.region [
      ⟨(some 23), .mov (.tmp 1), none, [], false⟩,
      ⟨(some 24), .mov (.tmp 10), none, [], false⟩,
      ⟨(some 25), .bin .quo (so (.binOp .quo 3 (.tmp 24) (.const (.int .i64 4)) 3) 3) (.tmp 24) (.const (.int .i64 4)), none, [], false⟩,
      ⟨(some 26), .bin .mul (so (.binOp .mul 3 (.tmp 25) (.const (.int .i64 2)) 3) 3) (.tmp 25) (.const (.int .i64 2)), none, [], false⟩,
      ⟨(some 27), .bin .add (so (.binOp .add 3 (.tmp 23) (.tmp 26) 3) 3) (.tmp 23) (.tmp 26), none, [], false⟩,
      ⟨(some 13), .mov (.tmp 27), none, [], false⟩]) (.seq (.region [
      ⟨(some 28), .mov (.tmp 1), none, [], false⟩,
      ⟨(some 29), .mov (.tmp 10), none, [], false⟩,
      ⟨(some 30), .bin .quo (so (.binOp .quo 3 (.tmp 29) (.const (.int .i64 4)) 3) 3) (.tmp 29) (.const (.int .i64 4)), none, [], false⟩,
      ⟨(some 31), .bin .mul (so (.binOp .mul 3 (.tmp 30) (.const (.int .i64 3)) 3) 3) (.tmp 30) (.const (.int .i64 3)), none, [], false⟩,
      ⟨(some 32), .bin .add (so (.binOp .add 3 (.tmp 28) (.tmp 31) 3) 3) (.tmp 28) (.tmp 31), none, [], false⟩,
      ⟨(some 14), .mov (.tmp 32), none, [], false⟩]) (.seq (.seq (.region [
      ⟨(some 33), .mov (.tmp 10), none, [], false⟩,
      ⟨(some 34), .bin .geq (so (.binOp .geq 3 (.tmp 33) (.const (.int .i64 8)) 3) 4) (.tmp 33) (.const (.int .i64 8)), none, [], false⟩]) (.cond (.tmp 34)
    (.seq (.seq (.region [
      ⟨(some 35), .mov (.tmp 10), none, [], false⟩,
      ⟨(some 36), .bin .geq (so (.binOp .geq 3 (.tmp 35) (.const (.int .i64 50)) 3) 4) (.tmp 35) (.const (.int .i64 50)), none, [], false⟩]) (.cond (.tmp 36)
    (.seq (.region [
      ⟨(some 37), .mov (.tmp 0), none, [], false⟩,
      ⟨(some 38), .mov (.tmp 12), none, [], false⟩,
      ⟨(some 39), .mov (.tmp 3), none, [], false⟩,
      ⟨(some 40), .callV (.func 107) [(.tmp 37), (.tmp 38), (.tmp 11), (.tmp 39)], none, [], false⟩,
      ⟨(some 12), .mov (.tmp 40), none, [], false⟩]) (.seq (.region [
      ⟨(some 41), .mov (.tmp 0), none, [], false⟩,
      ⟨(some 42), .mov (.tmp 13), none, [], false⟩,
      ⟨(some 43), .mov (.tmp 3), none, [], false⟩,
      ⟨(some 44), .callV (.func 107) [(.tmp 41), (.tmp 42), (.tmp 11), (.tmp 43)], none, [], false⟩,
      ⟨(some 13), .mov (.tmp 44), none, [], false⟩]) (.region [
      ⟨(some 45), .mov (.tmp 0), none, [], false⟩,
      ⟨(some 46), .mov (.tmp 14), none, [], false⟩,
      ⟨(some 47), .mov (.tmp 3), none, [], false⟩,
      ⟨(some 48), .callV (.func 107) [(.tmp 45), (.tmp 46), (.tmp 11), (.tmp 47)], none, [], false⟩,
      ⟨(some 14), .mov (.tmp 48), none, [], false⟩])))
    .skip)) (.region [
      ⟨(some 49), .mov (.tmp 0), none, [], false⟩,
      ⟨(some 50), .mov (.tmp 12), none, [], false⟩,
      ⟨(some 51), .mov (.tmp 13), none, [], false⟩,
      ⟨(some 52), .mov (.tmp 14), none, [], false⟩,
      ⟨(some 53), .mov (.tmp 3), none, [], false⟩,
      ⟨(some 54), .callV (.func 108) [(.tmp 49), (.tmp 50), (.tmp 51), (.tmp 52), (.tmp 11), (.tmp 53)], none, [], false⟩,
      ⟨(some 13), .mov (.tmp 54), none, [], false⟩]))
    .skip)) (.seq (.region [
      ⟨(some 55), .load none (.tmp 11), none, [], false⟩]) (.block 0 (.seq (.region [
      ⟨(some 58), .bin .eql (so (.binOp .eql 3 (.tmp 55) (.const (.int .i64 0)) 3) 4) (.tmp 55) (.const (.int .i64 0)), none, [], false⟩,
      ⟨(some 57), .mov (.tmp 58), none, [], false⟩]) (.cond (.tmp 57)
    (.seq (.region [
      ⟨(some 59), .mov (.tmp 13), none, [], false⟩,
      ⟨(some 8), .mov (.tmp 59), none, [], false⟩,
      ⟨(some 9), .mov (.const (.int .i64 1)), none, [], false⟩]) .ret)
    (.seq (.region [
      ⟨(some 61), .bin .eql (so (.binOp .eql 3 (.tmp 55) (.const (.int .i64 12)) 3) 4) (.tmp 55) (.const (.int .i64 12)), none, [], false⟩,
      ⟨(some 60), .mov (.tmp 61), none, [], false⟩]) (.cond (.tmp 60)
    (.seq (.region [
      ⟨(some 62), .mov (.tmp 13), none, [], false⟩,
      ⟨(some 8), .mov (.tmp 62), none, [], false⟩,
      ⟨(some 9), .mov (.const (.int .i64 2)), none, [], false⟩]) .ret)
    (.seq (.region [
      ⟨(some 56), .mov (.tmp 13), none, [], false⟩,
      ⟨(some 8), .mov (.tmp 56), none, [], false⟩,
      ⟨(some 9), .mov (.const (.int .i64 0)), none, [], false⟩]) .ret))))))))))))))
noncomputable def slices_choosePivotCmpFunc_sigs_sig_ : AFunc := ⟨63, [(8, none), (9, none)], slices_choosePivotCmpFunc_sigs_sig__c, none⟩
theorem slices_choosePivotCmpFunc_sigs_sig__t0 : tableOf Try.prog 97 = some slices_choosePivotCmpFunc_sigs_sig_ := by kernel_rfl
theorem slices_choosePivotCmpFunc_sigs_sig__t : T0 97 = some slices_choosePivotCmpFunc_sigs_sig_ := withKept_t rfl (withTrue_t rfl slices_choosePivotCmpFunc_sigs_sig__t0)


/-! 98 slices.reverseRangeCmpFunc[landfall/sigs.sig] -/
abbrev fn_slices_reverseRangeCmpFunc_sigs_sig_ : FuncId := 98
noncomputable def slices_reverseRangeCmpFunc_sigs_sig__l0 : ACode :=
  (.seq (.seq (.region [
      ⟨(some 13), .mov (.tmp 8), none, [], false⟩,
      ⟨(some 14), .mov (.tmp 9), none, [], false⟩,
      ⟨(some 15), .bin .lss (so (.binOp .lss 3 (.tmp 13) (.tmp 14) 3) 4) (.tmp 13) (.tmp 14), none, [], false⟩]) (.cond (.tmp 15)
    .skip
    (.exit 0))) (.block 1 (.seq (.regionD [
      ⟨(some 16), .mov (.tmp 0), none, [], false⟩,
      ⟨(some 17), .mov (.tmp 8), none, [], false⟩,
      ⟨(some 18), .mov (.tmp 0), none, [], false⟩,
      ⟨(some 19), .mov (.tmp 9), none, [], false⟩,
      ⟨(some 20), .mov (.tmp 0), none, [], false⟩,
      ⟨(some 21), .mov (.tmp 9), none, [], false⟩,
      ⟨(some 22), .indexSl 37 (.tmp 20) (.tmp 21), none, [], false⟩,
      ⟨(some 23), .load (some 37) (.tmp 22), none, [], false⟩,
      ⟨(some 24), .mov (.tmp 0), none, [], false⟩,
      ⟨(some 25), .mov (.tmp 8), none, [], false⟩,
      ⟨(some 26), .indexSl 37 (.tmp 24) (.tmp 25), none, [], false⟩,
      ⟨(some 27), .load (some 37) (.tmp 26), none, [], false⟩,
      ⟨(some 28), .indexSl 37 (.tmp 16) (.tmp 17), none, [], false⟩,
      ⟨none, .store 37 (.tmp 28) (.tmp 23), none, [((some 19), .mov (.tmp 9), none), ((some 18), .mov (.tmp 0), none)], false⟩,
      ⟨(some 29), .indexSl 37 (.tmp 18) (.tmp 19), none, [], true⟩,
      ⟨none, .store 37 (.tmp 29) (.tmp 27), none, [], true⟩]) (.seq (.region [
      ⟨(some 30), .mov (.tmp 8), none, [], false⟩,
      ⟨(some 31), .bin .add (so (.binOp .add 3 (.tmp 30) (.const (.int .i64 1)) 3) 3) (.tmp 30) (.const (.int .i64 1)), none, [], false⟩,
      ⟨(some 8), .mov (.tmp 31), none, [], false⟩]) (.region [
      ⟨(some 32), .mov (.tmp 9), none, [], false⟩,
      ⟨(some 33), .bin .sub (so (.binOp .sub 3 (.tmp 32) (.const (.int .i64 1)) 3) 3) (.tmp 32) (.const (.int .i64 1)), none, [], false⟩,
      ⟨(some 9), .mov (.tmp 33), none, [], false⟩])))))
noncomputable def slices_reverseRangeCmpFunc_sigs_sig__c : ACode :=
  (.seq (.region [
      ⟨(some 10), .mov (.tmp 1), none, [], false⟩,
      ⟨(some 8), .mov (.tmp 10), none, [], false⟩]) (.seq (.region [
      ⟨(some 11), .mov (.tmp 2), none, [], false⟩,
      ⟨(some 12), .bin .sub (so (.binOp .sub 3 (.tmp 11) (.const (.int .i64 1)) 3) 3) (.tmp 11) (.const (.int .i64 1)), none, [], false⟩,
      ⟨(some 9), .mov (.tmp 12), none, [], false⟩]) (.block 0 (.loop slices_reverseRangeCmpFunc_sigs_sig__l0))))
noncomputable def slices_reverseRangeCmpFunc_sigs_sig_ : AFunc := ⟨34, [], slices_reverseRangeCmpFunc_sigs_sig__c, none⟩
theorem slices_reverseRangeCmpFunc_sigs_sig__t0 : tableOf Try.prog 98 = some slices_reverseRangeCmpFunc_sigs_sig_ := by kernel_rfl
theorem slices_reverseRangeCmpFunc_sigs_sig__t : T0 98 = some slices_reverseRangeCmpFunc_sigs_sig_ := withKept_t rfl (withTrue_t rfl slices_reverseRangeCmpFunc_sigs_sig__t0)


/-! 99 slices.partialInsertionSortCmpFunc[landfall/sigs.sig] -/
abbrev fn_slices_partialInsertionSortCmpFunc_sigs_sig_ : FuncId := 99
noncomputable def slices_partialInsertionSortCmpFunc_sigs_sig__l0 : ACode :=
  (.seq (.seq (.regionD [
      ⟨(some 19), .mov (.tmp 9), none, [], false⟩,
      ⟨(some 20), .mov (.tmp 2), none, [], false⟩,
      ⟨(some 21), .bin .lss (so (.binOp .lss 3 (.tmp 19) (.tmp 20) 3) 4) (.tmp 19) (.tmp 20), none, [], true⟩,
      ⟨(some 22), .mov (.tmp 21), none, [], true⟩,
      ⟨(some 23), .mov (.tmp 3), (some (22, true)), [], false⟩,
      ⟨(some 24), .mov (.tmp 0), (some (22, true)), [], false⟩,
      ⟨(some 25), .mov (.tmp 9), (some (22, true)), [], false⟩,
      ⟨(some 26), .indexSl 37 (.tmp 24) (.tmp 25), (some (22, true)), [], false⟩,
      ⟨(some 27), .load (some 37) (.tmp 26), (some (22, true)), [], false⟩,
      ⟨(some 28), .mov (.tmp 0), (some (22, true)), [], false⟩,
      ⟨(some 29), .mov (.tmp 9), (some (22, true)), [], false⟩,
      ⟨(some 30), .bin .sub (so (.binOp .sub 3 (.tmp 29) (.const (.int .i64 1)) 3) 3) (.tmp 29) (.const (.int .i64 1)), (some (22, true)), [], false⟩,
      ⟨(some 31), .indexSl 37 (.tmp 28) (.tmp 30), (some (22, true)), [], false⟩,
      ⟨(some 32), .load (some 37) (.tmp 31), (some (22, true)), [], false⟩,
      ⟨(some 33), .callV (.tmp 23) [(.tmp 27), (.tmp 32)], (some (22, true)), [], true⟩,
      ⟨(some 34), .bin .lss (so (.binOp .lss 3 (.tmp 33) (.const (.int .i64 0)) 3) 4) (.tmp 33) (.const (.int .i64 0)), (some (22, true)), [], true⟩,
      ⟨(some 35), .raw (so (.unOp .not 4 (.tmp 34)) 4), (some (22, true)), [], true⟩,
      ⟨(some 36), .pick (.tmp 22) (.tmp 35) (.const (.bool false)), none, [], true⟩]) (.cond (.tmp 36)
    .skip
    (.exit 2))) (.block 3 (.region [
      ⟨(some 37), .mov (.tmp 9), none, [], false⟩,
      ⟨(some 38), .bin .add (so (.binOp .add 3 (.tmp 37) (.const (.int .i64 1)) 3) 3) (.tmp 37) (.const (.int .i64 1)), none, [], false⟩,
      ⟨(some 9), .mov (.tmp 38), none, [], false⟩])))
noncomputable def slices_partialInsertionSortCmpFunc_sigs_sig__l1 : ACode :=
  (.seq (.seq (.region [
      ⟨(some 68), .mov (.tmp 11), none, [], false⟩,
      ⟨(some 69), .bin .geq (so (.binOp .geq 3 (.tmp 68) (.const (.int .i64 1)) 3) 4) (.tmp 68) (.const (.int .i64 1)), none, [], false⟩]) (.cond (.tmp 69)
    .skip
    (.exit 4))) (.seq (.block 5 (.seq (.seq (.regionD [
      ⟨(some 72), .mov (.tmp 3), none, [], false⟩,
      ⟨(some 73), .mov (.tmp 0), none, [], false⟩,
      ⟨(some 74), .mov (.tmp 11), none, [], false⟩,
      ⟨(some 75), .indexSl 37 (.tmp 73) (.tmp 74), none, [], false⟩,
      ⟨(some 76), .load (some 37) (.tmp 75), none, [], false⟩,
      ⟨(some 77), .mov (.tmp 0), none, [], false⟩,
      ⟨(some 78), .mov (.tmp 11), none, [], false⟩,
      ⟨(some 79), .bin .sub (so (.binOp .sub 3 (.tmp 78) (.const (.int .i64 1)) 3) 3) (.tmp 78) (.const (.int .i64 1)), none, [], false⟩,
      ⟨(some 80), .indexSl 37 (.tmp 77) (.tmp 79), none, [], false⟩,
      ⟨(some 81), .load (some 37) (.tmp 80), none, [], false⟩,
      ⟨(some 82), .callV (.tmp 72) [(.tmp 76), (.tmp 81)], none, [], true⟩,
      ⟨(some 83), .bin .lss (so (.binOp .lss 3 (.tmp 82) (.const (.int .i64 0)) 3) 4) (.tmp 82) (.const (.int .i64 0)), none, [], true⟩,
      ⟨(some 84), .raw (so (.unOp .not 4 (.tmp 83)) 4), none, [], true⟩]) (.cond (.tmp 84)
    (.exit 4)
    .skip)) (.regionD [
      ⟨(some 85), .mov (.tmp 0), none, [], false⟩,
      ⟨(some 86), .mov (.tmp 11), none, [], false⟩,
      ⟨(some 87), .mov (.tmp 0), none, [], false⟩,
      ⟨(some 88), .mov (.tmp 11), none, [], false⟩,
      ⟨(some 89), .bin .sub (so (.binOp .sub 3 (.tmp 88) (.const (.int .i64 1)) 3) 3) (.tmp 88) (.const (.int .i64 1)), none, [], false⟩,
      ⟨(some 90), .mov (.tmp 0), none, [], false⟩,
      ⟨(some 91), .mov (.tmp 11), none, [], false⟩,
      ⟨(some 92), .bin .sub (so (.binOp .sub 3 (.tmp 91) (.const (.int .i64 1)) 3) 3) (.tmp 91) (.const (.int .i64 1)), none, [], false⟩,
      ⟨(some 93), .indexSl 37 (.tmp 90) (.tmp 92), none, [], false⟩,
      ⟨(some 94), .load (some 37) (.tmp 93), none, [], false⟩,
      ⟨(some 95), .mov (.tmp 0), none, [], false⟩,
      ⟨(some 96), .mov (.tmp 11), none, [], false⟩,
      ⟨(some 97), .indexSl 37 (.tmp 95) (.tmp 96), none, [], false⟩,
      ⟨(some 98), .load (some 37) (.tmp 97), none, [], false⟩,
      ⟨(some 99), .indexSl 37 (.tmp 85) (.tmp 86), none, [], false⟩,
      ⟨none, .store 37 (.tmp 99) (.tmp 94), none, [((some 89), .bin .sub (so (.binOp .sub 3 (.tmp 88) (.const (.int .i64 1)) 3) 3) (.tmp 88) (.const (.int .i64 1)), none), ((some 88), .mov (.tmp 11), none), ((some 87), .mov (.tmp 0), none)], false⟩,
      ⟨(some 100), .indexSl 37 (.tmp 87) (.tmp 89), none, [], true⟩,
      ⟨none, .store 37 (.tmp 100) (.tmp 98), none, [], true⟩]))) (.region [
      ⟨(some 70), .mov (.tmp 11), none, [], false⟩,
      ⟨(some 71), .bin .sub (so (.binOp .sub 3 (.tmp 70) (.const (.int .i64 1)) 3) 3) (.tmp 70) (.const (.int .i64 1)), none, [], false⟩,
      ⟨(some 11), .mov (.tmp 71), none, [], false⟩])))
noncomputable def slices_partialInsertionSortCmpFunc_sigs_sig__l2 : ACode :=
  (.seq (.seq (.region [
      ⟨(some 107), .mov (.tmp 12), none, [], false⟩,
      ⟨(some 108), .mov (.tmp 2), none, [], false⟩,
      ⟨(some 109), .bin .lss (so (.binOp .lss 3 (.tmp 107) (.tmp 108) 3) 4) (.tmp 107) (.tmp 108), none, [], false⟩]) (.cond (.tmp 109)
    .skip
    (.exit 6))) (.seq (.block 7 (.seq (.seq (.regionD [
      ⟨(some 112), .mov (.tmp 3), none, [], false⟩,
      ⟨(some 113), .mov (.tmp 0), none, [], false⟩,
      ⟨(some 114), .mov (.tmp 12), none, [], false⟩,
      ⟨(some 115), .indexSl 37 (.tmp 113) (.tmp 114), none, [], false⟩,
      ⟨(some 116), .load (some 37) (.tmp 115), none, [], false⟩,
      ⟨(some 117), .mov (.tmp 0), none, [], false⟩,
      ⟨(some 118), .mov (.tmp 12), none, [], false⟩,
      ⟨(some 119), .bin .sub (so (.binOp .sub 3 (.tmp 118) (.const (.int .i64 1)) 3) 3) (.tmp 118) (.const (.int .i64 1)), none, [], false⟩,
      ⟨(some 120), .indexSl 37 (.tmp 117) (.tmp 119), none, [], false⟩,
      ⟨(some 121), .load (some 37) (.tmp 120), none, [], false⟩,
      ⟨(some 122), .callV (.tmp 112) [(.tmp 116), (.tmp 121)], none, [], true⟩,
      ⟨(some 123), .bin .lss (so (.binOp .lss 3 (.tmp 122) (.const (.int .i64 0)) 3) 4) (.tmp 122) (.const (.int .i64 0)), none, [], true⟩,
      ⟨(some 124), .raw (so (.unOp .not 4 (.tmp 123)) 4), none, [], true⟩]) (.cond (.tmp 124)
    (.exit 6)
    .skip)) (.regionD [
      ⟨(some 125), .mov (.tmp 0), none, [], false⟩,
      ⟨(some 126), .mov (.tmp 12), none, [], false⟩,
      ⟨(some 127), .mov (.tmp 0), none, [], false⟩,
      ⟨(some 128), .mov (.tmp 12), none, [], false⟩,
      ⟨(some 129), .bin .sub (so (.binOp .sub 3 (.tmp 128) (.const (.int .i64 1)) 3) 3) (.tmp 128) (.const (.int .i64 1)), none, [], false⟩,
      ⟨(some 130), .mov (.tmp 0), none, [], false⟩,
      ⟨(some 131), .mov (.tmp 12), none, [], false⟩,
      ⟨(some 132), .bin .sub (so (.binOp .sub 3 (.tmp 131) (.const (.int .i64 1)) 3) 3) (.tmp 131) (.const (.int .i64 1)), none, [], false⟩,
      ⟨(some 133), .indexSl 37 (.tmp 130) (.tmp 132), none, [], false⟩,
      ⟨(some 134), .load (some 37) (.tmp 133), none, [], false⟩,
      ⟨(some 135), .mov (.tmp 0), none, [], false⟩,
      ⟨(some 136), .mov (.tmp 12), none, [], false⟩,
      ⟨(some 137), .indexSl 37 (.tmp 135) (.tmp 136), none, [], false⟩,
      ⟨(some 138), .load (some 37) (.tmp 137), none, [], false⟩,
      ⟨(some 139), .indexSl 37 (.tmp 125) (.tmp 126), none, [], false⟩,
      ⟨none, .store 37 (.tmp 139) (.tmp 134), none, [((some 129), .bin .sub (so (.binOp .sub 3 (.tmp 128) (.const (.int .i64 1)) 3) 3) (.tmp 128) (.const (.int .i64 1)), none), ((some 128), .mov (.tmp 12), none), ((some 127), .mov (.tmp 0), none)], false⟩,
      ⟨(some 140), .indexSl 37 (.tmp 127) (.tmp 129), none, [], true⟩,
      ⟨none, .store 37 (.tmp 140) (.tmp 138), none, [], true⟩]))) (.region [
      ⟨(some 110), .mov (.tmp 12), none, [], false⟩,
      ⟨(some 111), .bin .add (so (.binOp .add 3 (.tmp 110) (.const (.int .i64 1)) 3) 3) (.tmp 110) (.const (.int .i64 1)), none, [], false⟩,
      ⟨(some 12), .mov (.tmp 111), none, [], false⟩])))
noncomputable def slices_partialInsertionSortCmpFunc_sigs_sig__l3 : ACode :=
  (.seq (.seq (.region [
      ⟨(some 15), .mov (.tmp 10), none, [], false⟩,
      ⟨(some 16), .bin .lss (so (.binOp .lss 3 (.tmp 15) (.const (.int .i64 5)) 3) 4) (.tmp 15) (.const (.int .i64 5)), none, [], false⟩]) (.cond (.tmp 16)
    .skip
    (.exit 0))) (.seq (.block 1 (.seq (.block 2 (.loop slices_partialInsertionSortCmpFunc_sigs_sig__l0)) (.seq (.seq (.region [
      ⟨(some 39), .mov (.tmp 9), none, [], false⟩,
      ⟨(some 40), .mov (.tmp 2), none, [], false⟩,
      ⟨(some 41), .bin .eql (so (.binOp .eql 3 (.tmp 39) (.tmp 40) 3) 4) (.tmp 39) (.tmp 40), none, [], false⟩]) (.cond (.tmp 41)
    (.seq (.region [
      ⟨(some 8), .mov (.const (.bool true)), none, [], false⟩]) .ret)
    .skip)) (.seq (.seq (.region [
      ⟨(some 42), .mov (.tmp 2), none, [], false⟩,
      ⟨(some 43), .mov (.tmp 1), none, [], false⟩,
      ⟨(some 44), .bin .sub (so (.binOp .sub 3 (.tmp 42) (.tmp 43) 3) 3) (.tmp 42) (.tmp 43), none, [], false⟩,
      ⟨(some 45), .bin .lss (so (.binOp .lss 3 (.tmp 44) (.const (.int .i64 50)) 3) 4) (.tmp 44) (.const (.int .i64 50)), none, [], false⟩]) (.cond (.tmp 45)
    (.seq (.region [
      ⟨(some 8), .mov (.const (.bool false)), none, [], false⟩]) .ret)
    .skip)) (.seq (.regionD [
      ⟨(some 46), .mov (.tmp 0), none, [], false⟩,
      ⟨(some 47), .mov (.tmp 9), none, [], false⟩,
      ⟨(some 48), .mov (.tmp 0), none, [], false⟩,
      ⟨(some 49), .mov (.tmp 9), none, [], false⟩,
      ⟨(some 50), .bin .sub (so (.binOp .sub 3 (.tmp 49) (.const (.int .i64 1)) 3) 3) (.tmp 49) (.const (.int .i64 1)), none, [], false⟩,
      ⟨(some 51), .mov (.tmp 0), none, [], false⟩,
      ⟨(some 52), .mov (.tmp 9), none, [], false⟩,
      ⟨(some 53), .bin .sub (so (.binOp .sub 3 (.tmp 52) (.const (.int .i64 1)) 3) 3) (.tmp 52) (.const (.int .i64 1)), none, [], false⟩,
      ⟨(some 54), .indexSl 37 (.tmp 51) (.tmp 53), none, [], false⟩,
      ⟨(some 55), .load (some 37) (.tmp 54), none, [], false⟩,
      ⟨(some 56), .mov (.tmp 0), none, [], false⟩,
      ⟨(some 57), .mov (.tmp 9), none, [], false⟩,
      ⟨(some 58), .indexSl 37 (.tmp 56) (.tmp 57), none, [], false⟩,
      ⟨(some 59), .load (some 37) (.tmp 58), none, [], false⟩,
      ⟨(some 60), .indexSl 37 (.tmp 46) (.tmp 47), none, [], false⟩,
      ⟨none, .store 37 (.tmp 60) (.tmp 55), none, [((some 50), .bin .sub (so (.binOp .sub 3 (.tmp 49) (.const (.int .i64 1)) 3) 3) (.tmp 49) (.const (.int .i64 1)), none), ((some 49), .mov (.tmp 9), none), ((some 48), .mov (.tmp 0), none)], false⟩,
      ⟨(some 61), .indexSl 37 (.tmp 48) (.tmp 50), none, [], true⟩,
      ⟨none, .store 37 (.tmp 61) (.tmp 59), none, [], true⟩]) (.seq (.seq (.region [
      ⟨(some 62), .mov (.tmp 9), none, [], false⟩,
      ⟨(some 63), .mov (.tmp 1), none, [], false⟩,
      ⟨(some 64), .bin .sub (so (.binOp .sub 3 (.tmp 62) (.tmp 63) 3) 3) (.tmp 62) (.tmp 63), none, [], false⟩,
      ⟨(some 65), .bin .geq (so (.binOp .geq 3 (.tmp 64) (.const (.int .i64 2)) 3) 4) (.tmp 64) (.const (.int .i64 2)), none, [], false⟩]) (.cond (.tmp 65)
    (.seq (.region [
      ⟨(some 66), .mov (.tmp 9), none, [], false⟩,
      ⟨(some 67), .bin .sub (so (.binOp .sub 3 (.tmp 66) (.const (.int .i64 1)) 3) 3) (.tmp 66) (.const (.int .i64 1)), none, [], false⟩,
      ⟨(some 11), .mov (.tmp 67), none, [], false⟩]) (.block 4 (.loop slices_partialInsertionSortCmpFunc_sigs_sig__l1)))
    .skip)) (.seq (.region [
      ⟨(some 101), .mov (.tmp 2), none, [], false⟩,
      ⟨(some 102), .mov (.tmp 9), none, [], false⟩,
      ⟨(some 103), .bin .sub (so (.binOp .sub 3 (.tmp 101) (.tmp 102) 3) 3) (.tmp 101) (.tmp 102), none, [], false⟩,
      ⟨(some 104), .bin .geq (so (.binOp .geq 3 (.tmp 103) (.const (.int .i64 2)) 3) 4) (.tmp 103) (.const (.int .i64 2)), none, [], false⟩]) (.cond (.tmp 104)
    (.seq (.region [
      ⟨(some 105), .mov (.tmp 9), none, [], false⟩,
      ⟨(some 106), .bin .add (so (.binOp .add 3 (.tmp 105) (.const (.int .i64 1)) 3) 3) (.tmp 105) (.const (.int .i64 1)), none, [], false⟩,
      ⟨(some 12), .mov (.tmp 106), none, [], false⟩]) (.block 6 (.loop slices_partialInsertionSortCmpFunc_sigs_sig__l2)))
    .skip)))))))) (.region [
      ⟨(some 17), .mov (.tmp 10), none, [], false⟩,
      ⟨(some 18), .bin .add (so (.binOp .add 3 (.tmp 17) (.const (.int .i64 1)) 3) 3) (.tmp 17) (.const (.int .i64 1)), none, [], false⟩,
      ⟨(some 10), .mov (.tmp 18), none, [], false⟩])))
noncomputable def slices_partialInsertionSortCmpFunc_sigs_sig__c : ACode :=
  (.seq (.region [
      ⟨(some 8), .mov (.const (.bool false)), none, [], false⟩]) (.seq (.region [
      ⟨(some 13), .mov (.tmp 1), none, [], false⟩,
      ⟨(some 14), .bin .add (so (.binOp .add 3 (.tmp 13) (.const (.int .i64 1)) 3) 3) (.tmp 13) (.const (.int .i64 1)), none, [], false⟩,
      ⟨(some 9), .mov (.tmp 14), none, [], false⟩]) (.seq (.seq (.region [
      ⟨(some 10), .mov (.const (.int .i64 0)), none, [], false⟩]) (.block 0 (.loop slices_partialInsertionSortCmpFunc_sigs_sig__l3))) (.seq (.region [
      ⟨(some 8), .mov (.const (.bool false)), none, [], false⟩]) .ret))))
noncomputable def slices_partialInsertionSortCmpFunc_sigs_sig_ : AFunc := ⟨141, [(8, none)], slices_partialInsertionSortCmpFunc_sigs_sig__c, none⟩
theorem slices_partialInsertionSortCmpFunc_sigs_sig__t0 : tableOf Try.prog 99 = some slices_partialInsertionSortCmpFunc_sigs_sig_ := by kernel_rfl
theorem slices_partialInsertionSortCmpFunc_sigs_sig__t : T0 99 = some slices_partialInsertionSortCmpFunc_sigs_sig_ := withKept_t rfl (withTrue_t rfl slices_partialInsertionSortCmpFunc_sigs_sig__t0)


/-! 100 slices.partitionEqualCmpFunc[landfall/sigs.sig] -/
abbrev fn_slices_partitionEqualCmpFunc_sigs_sig_ : FuncId := 100
noncomputable def slices_partitionEqualCmpFunc_sigs_sig__l0 : ACode :=
  (.seq (.seq (.regionD [
      ⟨(some 31), .mov (.tmp 11), none, [], false⟩,
      ⟨(some 32), .mov (.tmp 12), none, [], false⟩,
      ⟨(some 33), .bin .leq (so (.binOp .leq 3 (.tmp 31) (.tmp 32) 3) 4) (.tmp 31) (.tmp 32), none, [], true⟩,
      ⟨(some 34), .mov (.tmp 33), none, [], true⟩,
      ⟨(some 35), .mov (.tmp 4), (some (34, true)), [], false⟩,
      ⟨(some 36), .mov (.tmp 0), (some (34, true)), [], false⟩,
      ⟨(some 37), .mov (.tmp 1), (some (34, true)), [], false⟩,
      ⟨(some 38), .indexSl 37 (.tmp 36) (.tmp 37), (some (34, true)), [], false⟩,
      ⟨(some 39), .load (some 37) (.tmp 38), (some (34, true)), [], false⟩,
      ⟨(some 40), .mov (.tmp 0), (some (34, true)), [], false⟩,
      ⟨(some 41), .mov (.tmp 11), (some (34, true)), [], false⟩,
      ⟨(some 42), .indexSl 37 (.tmp 40) (.tmp 41), (some (34, true)), [], false⟩,
      ⟨(some 43), .load (some 37) (.tmp 42), (some (34, true)), [], false⟩,
      ⟨(some 44), .callV (.tmp 35) [(.tmp 39), (.tmp 43)], (some (34, true)), [], true⟩,
      ⟨(some 45), .bin .lss (so (.binOp .lss 3 (.tmp 44) (.const (.int .i64 0)) 3) 4) (.tmp 44) (.const (.int .i64 0)), (some (34, true)), [], true⟩,
      ⟨(some 46), .raw (so (.unOp .not 4 (.tmp 45)) 4), (some (34, true)), [], true⟩,
      ⟨(some 47), .pick (.tmp 34) (.tmp 46) (.const (.bool false)), none, [], true⟩]) (.cond (.tmp 47)
    .skip
    (.exit 2))) (.block 3 (.region [
      ⟨(some 48), .mov (.tmp 11), none, [], false⟩,
      ⟨(some 49), .bin .add (so (.binOp .add 3 (.tmp 48) (.const (.int .i64 1)) 3) 3) (.tmp 48) (.const (.int .i64 1)), none, [], false⟩,
      ⟨(some 11), .mov (.tmp 49), none, [], false⟩])))
noncomputable def slices_partitionEqualCmpFunc_sigs_sig__l1 : ACode :=
  (.seq (.seq (.regionD [
      ⟨(some 50), .mov (.tmp 11), none, [], false⟩,
      ⟨(some 51), .mov (.tmp 12), none, [], false⟩,
      ⟨(some 52), .bin .leq (so (.binOp .leq 3 (.tmp 50) (.tmp 51) 3) 4) (.tmp 50) (.tmp 51), none, [], true⟩,
      ⟨(some 53), .mov (.tmp 52), none, [], true⟩,
      ⟨(some 54), .mov (.tmp 4), (some (53, true)), [], false⟩,
      ⟨(some 55), .mov (.tmp 0), (some (53, true)), [], false⟩,
      ⟨(some 56), .mov (.tmp 1), (some (53, true)), [], false⟩,
      ⟨(some 57), .indexSl 37 (.tmp 55) (.tmp 56), (some (53, true)), [], false⟩,
      ⟨(some 58), .load (some 37) (.tmp 57), (some (53, true)), [], false⟩,
      ⟨(some 59), .mov (.tmp 0), (some (53, true)), [], false⟩,
      ⟨(some 60), .mov (.tmp 12), (some (53, true)), [], false⟩,
      ⟨(some 61), .indexSl 37 (.tmp 59) (.tmp 60), (some (53, true)), [], false⟩,
      ⟨(some 62), .load (some 37) (.tmp 61), (some (53, true)), [], false⟩,
      ⟨(some 63), .callV (.tmp 54) [(.tmp 58), (.tmp 62)], (some (53, true)), [], true⟩,
      ⟨(some 64), .bin .lss (so (.binOp .lss 3 (.tmp 63) (.const (.int .i64 0)) 3) 4) (.tmp 63) (.const (.int .i64 0)), (some (53, true)), [], true⟩,
      ⟨(some 65), .pick (.tmp 53) (.tmp 64) (.const (.bool false)), none, [], true⟩]) (.cond (.tmp 65)
    .skip
    (.exit 4))) (.block 5 (.region [
      ⟨(some 66), .mov (.tmp 12), none, [], false⟩,
      ⟨(some 67), .bin .sub (so (.binOp .sub 3 (.tmp 66) (.const (.int .i64 1)) 3) 3) (.tmp 66) (.const (.int .i64 1)), none, [], false⟩,
      ⟨(some 12), .mov (.tmp 67), none, [], false⟩])))
noncomputable def slices_partitionEqualCmpFunc_sigs_sig__l2 : ACode :=
  (.block 1 (.seq (.block 2 (.loop slices_partitionEqualCmpFunc_sigs_sig__l0)) (.seq (.block 4 (.loop slices_partitionEqualCmpFunc_sigs_sig__l1)) (.seq (.seq (.region [
      ⟨(some 68), .mov (.tmp 11), none, [], false⟩,
      ⟨(some 69), .mov (.tmp 12), none, [], false⟩,
      ⟨(some 70), .bin .gtr (so (.binOp .gtr 3 (.tmp 68) (.tmp 69) 3) 4) (.tmp 68) (.tmp 69), none, [], false⟩]) (.cond (.tmp 70)
    (.exit 0)
    .skip)) (.seq (.regionD [
      ⟨(some 71), .mov (.tmp 0), none, [], false⟩,
      ⟨(some 72), .mov (.tmp 11), none, [], false⟩,
      ⟨(some 73), .mov (.tmp 0), none, [], false⟩,
      ⟨(some 74), .mov (.tmp 12), none, [], false⟩,
      ⟨(some 75), .mov (.tmp 0), none, [], false⟩,
      ⟨(some 76), .mov (.tmp 12), none, [], false⟩,
      ⟨(some 77), .indexSl 37 (.tmp 75) (.tmp 76), none, [], false⟩,
      ⟨(some 78), .load (some 37) (.tmp 77), none, [], false⟩,
      ⟨(some 79), .mov (.tmp 0), none, [], false⟩,
      ⟨(some 80), .mov (.tmp 11), none, [], false⟩,
      ⟨(some 81), .indexSl 37 (.tmp 79) (.tmp 80), none, [], false⟩,
      ⟨(some 82), .load (some 37) (.tmp 81), none, [], false⟩,
      ⟨(some 83), .indexSl 37 (.tmp 71) (.tmp 72), none, [], false⟩,
      ⟨none, .store 37 (.tmp 83) (.tmp 78), none, [((some 74), .mov (.tmp 12), none), ((some 73), .mov (.tmp 0), none)], false⟩,
      ⟨(some 84), .indexSl 37 (.tmp 73) (.tmp 74), none, [], true⟩,
      ⟨none, .store 37 (.tmp 84) (.tmp 82), none, [], true⟩]) (.seq (.region [
      ⟨(some 85), .mov (.tmp 11), none, [], false⟩,
      ⟨(some 86), .bin .add (so (.binOp .add 3 (.tmp 85) (.const (.int .i64 1)) 3) 3) (.tmp 85) (.const (.int .i64 1)), none, [], false⟩,
      ⟨(some 11), .mov (.tmp 86), none, [], false⟩]) (.region [
      ⟨(some 87), .mov (.tmp 12), none, [], false⟩,
      ⟨(some 88), .bin .sub (so (.binOp .sub 3 (.tmp 87) (.const (.int .i64 1)) 3) 3) (.tmp 87) (.const (.int .i64 1)), none, [], false⟩,
      ⟨(some 12), .mov (.tmp 88), none, [], false⟩])))))))
noncomputable def slices_partitionEqualCmpFunc_sigs_sig__c : ACode :=
  (.seq (.region [
      ⟨(some 10), .mov (.const (.int .i64 0)), none, [], false⟩]) (.seq (.regionD [
      ⟨(some 13), .mov (.tmp 0), none, [], false⟩,
      ⟨(some 14), .mov (.tmp 1), none, [], false⟩,
      ⟨(some 15), .mov (.tmp 0), none, [], false⟩,
      ⟨(some 16), .mov (.tmp 3), none, [], false⟩,
      ⟨(some 17), .mov (.tmp 0), none, [], false⟩,
      ⟨(some 18), .mov (.tmp 3), none, [], false⟩,
      ⟨(some 19), .indexSl 37 (.tmp 17) (.tmp 18), none, [], false⟩,
      ⟨(some 20), .load (some 37) (.tmp 19), none, [], false⟩,
      ⟨(some 21), .mov (.tmp 0), none, [], false⟩,
      ⟨(some 22), .mov (.tmp 1), none, [], false⟩,
      ⟨(some 23), .indexSl 37 (.tmp 21) (.tmp 22), none, [], false⟩,
      ⟨(some 24), .load (some 37) (.tmp 23), none, [], false⟩,
      ⟨(some 25), .indexSl 37 (.tmp 13) (.tmp 14), none, [], false⟩,
      ⟨none, .store 37 (.tmp 25) (.tmp 20), none, [((some 16), .mov (.tmp 3), none), ((some 15), .mov (.tmp 0), none)], false⟩,
      ⟨(some 26), .indexSl 37 (.tmp 15) (.tmp 16), none, [], true⟩,
      ⟨none, .store 37 (.tmp 26) (.tmp 24), none, [], true⟩]) (.seq (.region [
      ⟨(some 27), .mov (.tmp 1), none, [], false⟩,
      ⟨(some 28), .bin .add (so (.binOp .add 3 (.tmp 27) (.const (.int .i64 1)) 3) 3) (.tmp 27) (.const (.int .i64 1)), none, [], false⟩,
      ⟨(some 29), .mov (.tmp 2), none, [], false⟩,
      ⟨(some 30), .bin .sub (so (.binOp .sub 3 (.tmp 29) (.const (.int .i64 1)) 3) 3) (.tmp 29) (.const (.int .i64 1)), none, [], false⟩,
      ⟨(some 11), .mov (.tmp 28), none, [], false⟩,
      ⟨(some 12), .mov (.tmp 30), none, [], false⟩]) (.seq (.block 0 (.loop slices_partitionEqualCmpFunc_sigs_sig__l2)) (.seq (.region [
      ⟨(some 89), .mov (.tmp 11), none, [], false⟩,
      ⟨(some 10), .mov (.tmp 89), none, [], false⟩]) .ret)))))
noncomputable def slices_partitionEqualCmpFunc_sigs_sig_ : AFunc := ⟨90, [(10, none)], slices_partitionEqualCmpFunc_sigs_sig__c, none⟩
theorem slices_partitionEqualCmpFunc_sigs_sig__t0 : tableOf Try.prog 100 = some slices_partitionEqualCmpFunc_sigs_sig_ := by kernel_rfl
theorem slices_partitionEqualCmpFunc_sigs_sig__t : T0 100 = some slices_partitionEqualCmpFunc_sigs_sig_ := withKept_t rfl (withTrue_t rfl slices_partitionEqualCmpFunc_sigs_sig__t0)


end Go.Proofs.Ytagmnpeilgnbdaa.R
