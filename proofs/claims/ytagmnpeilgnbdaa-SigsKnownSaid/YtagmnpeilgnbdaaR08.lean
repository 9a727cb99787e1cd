/- Functions of the program, as the machine has them: written by a program of mine (GenVm.lean), each held against the given program by the kernel. -/
import Derived.Test.YtagmnpeilgnbdaaR08p1
set_option maxRecDepth 100000
set_option linter.unusedVariables false
namespace Go.Proofs.Ytagmnpeilgnbdaa.R
open Go Go.Vm

/-! 101 slices.partitionCmpFunc[landfall/sigs.sig] -/
abbrev fn_slices_partitionCmpFunc_sigs_sig_ : FuncId := 101
noncomputable def slices_partitionCmpFunc_sigs_sig__l0 : ACode :=
  (.seq (.seq (.regionD [
      ⟨(some 32), .mov (.tmp 12), none, [], false⟩,
      ⟨(some 33), .mov (.tmp 13), none, [], false⟩,
      ⟨(some 34), .bin .leq (so (.binOp .leq 3 (.tmp 32) (.tmp 33) 3) 4) (.tmp 32) (.tmp 33), none, [], true⟩,
      ⟨(some 35), .mov (.tmp 34), none, [], true⟩,
      ⟨(some 36), .mov (.tmp 4), (some (35, true)), [], false⟩,
      ⟨(some 37), .mov (.tmp 0), (some (35, true)), [], false⟩,
      ⟨(some 38), .mov (.tmp 12), (some (35, true)), [], false⟩,
      ⟨(some 39), .indexSl 37 (.tmp 37) (.tmp 38), (some (35, true)), [], false⟩,
      ⟨(some 40), .load (some 37) (.tmp 39), (some (35, true)), [], false⟩,
      ⟨(some 41), .mov (.tmp 0), (some (35, true)), [], false⟩,
      ⟨(some 42), .mov (.tmp 1), (some (35, true)), [], false⟩,
      ⟨(some 43), .indexSl 37 (.tmp 41) (.tmp 42), (some (35, true)), [], false⟩,
      ⟨(some 44), .load (some 37) (.tmp 43), (some (35, true)), [], false⟩,
      ⟨(some 45), .callV (.tmp 36) [(.tmp 40), (.tmp 44)], (some (35, true)), [], true⟩,
      ⟨(some 46), .bin .lss (so (.binOp .lss 3 (.tmp 45) (.const (.int .i64 0)) 3) 4) (.tmp 45) (.const (.int .i64 0)), (some (35, true)), [], true⟩,
      ⟨(some 47), .pick (.tmp 35) (.tmp 46) (.const (.bool false)), none, [], true⟩]) (.cond (.tmp 47)
    .skip
    (.exit 0))) (.block 1 (.region [
      ⟨(some 48), .mov (.tmp 12), none, [], false⟩,
      ⟨(some 49), .bin .add (so (.binOp .add 3 (.tmp 48) (.const (.int .i64 1)) 3) 3) (.tmp 48) (.const (.int .i64 1)), none, [], false⟩,
      ⟨(some 12), .mov (.tmp 49), none, [], false⟩])))
noncomputable def slices_partitionCmpFunc_sigs_sig__l1 : ACode :=
  (.seq (.seq (.regionD [
      ⟨(some 50), .mov (.tmp 12), none, [], false⟩,
      ⟨(some 51), .mov (.tmp 13), none, [], false⟩,
      ⟨(some 52), .bin .leq (so (.binOp .leq 3 (.tmp 50) (.tmp 51) 3) 4) (.tmp 50) (.tmp 51), none, [], true⟩,
      ⟨(some 53), .mov (.tmp 52), none, [], true⟩,
      ⟨(some 54), .mov (.tmp 4), (some (53, true)), [], false⟩,
      ⟨(some 55), .mov (.tmp 0), (some (53, true)), [], false⟩,
      ⟨(some 56), .mov (.tmp 13), (some (53, true)), [], false⟩,
      ⟨(some 57), .indexSl 37 (.tmp 55) (.tmp 56), (some (53, true)), [], false⟩,
      ⟨(some 58), .load (some 37) (.tmp 57), (some (53, true)), [], false⟩,
      ⟨(some 59), .mov (.tmp 0), (some (53, true)), [], false⟩,
      ⟨(some 60), .mov (.tmp 1), (some (53, true)), [], false⟩,
      ⟨(some 61), .indexSl 37 (.tmp 59) (.tmp 60), (some (53, true)), [], false⟩,
      ⟨(some 62), .load (some 37) (.tmp 61), (some (53, true)), [], false⟩,
      ⟨(some 63), .callV (.tmp 54) [(.tmp 58), (.tmp 62)], (some (53, true)), [], true⟩,
      ⟨(some 64), .bin .lss (so (.binOp .lss 3 (.tmp 63) (.const (.int .i64 0)) 3) 4) (.tmp 63) (.const (.int .i64 0)), (some (53, true)), [], true⟩,
      ⟨(some 65), .raw (so (.unOp .not 4 (.tmp 64)) 4), (some (53, true)), [], true⟩,
      ⟨(some 66), .pick (.tmp 53) (.tmp 65) (.const (.bool false)), none, [], true⟩]) (.cond (.tmp 66)
    .skip
    (.exit 2))) (.block 3 (.region [
      ⟨(some 67), .mov (.tmp 13), none, [], false⟩,
      ⟨(some 68), .bin .sub (so (.binOp .sub 3 (.tmp 67) (.const (.int .i64 1)) 3) 3) (.tmp 67) (.const (.int .i64 1)), none, [], false⟩,
      ⟨(some 13), .mov (.tmp 68), none, [], false⟩])))
noncomputable def slices_partitionCmpFunc_sigs_sig__l2 : ACode :=
  (.seq (.seq (.regionD [
      ⟨(some 105), .mov (.tmp 12), none, [], false⟩,
      ⟨(some 106), .mov (.tmp 13), none, [], false⟩,
      ⟨(some 107), .bin .leq (so (.binOp .leq 3 (.tmp 105) (.tmp 106) 3) 4) (.tmp 105) (.tmp 106), none, [], true⟩,
      ⟨(some 108), .mov (.tmp 107), none, [], true⟩,
      ⟨(some 109), .mov (.tmp 4), (some (108, true)), [], false⟩,
      ⟨(some 110), .mov (.tmp 0), (some (108, true)), [], false⟩,
      ⟨(some 111), .mov (.tmp 12), (some (108, true)), [], false⟩,
      ⟨(some 112), .indexSl 37 (.tmp 110) (.tmp 111), (some (108, true)), [], false⟩,
      ⟨(some 113), .load (some 37) (.tmp 112), (some (108, true)), [], false⟩,
      ⟨(some 114), .mov (.tmp 0), (some (108, true)), [], false⟩,
      ⟨(some 115), .mov (.tmp 1), (some (108, true)), [], false⟩,
      ⟨(some 116), .indexSl 37 (.tmp 114) (.tmp 115), (some (108, true)), [], false⟩,
      ⟨(some 117), .load (some 37) (.tmp 116), (some (108, true)), [], false⟩,
      ⟨(some 118), .callV (.tmp 109) [(.tmp 113), (.tmp 117)], (some (108, true)), [], true⟩,
      ⟨(some 119), .bin .lss (so (.binOp .lss 3 (.tmp 118) (.const (.int .i64 0)) 3) 4) (.tmp 118) (.const (.int .i64 0)), (some (108, true)), [], true⟩,
      ⟨(some 120), .pick (.tmp 108) (.tmp 119) (.const (.bool false)), none, [], true⟩]) (.cond (.tmp 120)
    .skip
    (.exit 6))) (.block 7 (.region [
      ⟨(some 121), .mov (.tmp 12), none, [], false⟩,
      ⟨(some 122), .bin .add (so (.binOp .add 3 (.tmp 121) (.const (.int .i64 1)) 3) 3) (.tmp 121) (.const (.int .i64 1)), none, [], false⟩,
      ⟨(some 12), .mov (.tmp 122), none, [], false⟩])))
noncomputable def slices_partitionCmpFunc_sigs_sig__l3 : ACode :=
  (.seq (.seq (.regionD [
      ⟨(some 123), .mov (.tmp 12), none, [], false⟩,
      ⟨(some 124), .mov (.tmp 13), none, [], false⟩,
      ⟨(some 125), .bin .leq (so (.binOp .leq 3 (.tmp 123) (.tmp 124) 3) 4) (.tmp 123) (.tmp 124), none, [], true⟩,
      ⟨(some 126), .mov (.tmp 125), none, [], true⟩,
      ⟨(some 127), .mov (.tmp 4), (some (126, true)), [], false⟩,
      ⟨(some 128), .mov (.tmp 0), (some (126, true)), [], false⟩,
      ⟨(some 129), .mov (.tmp 13), (some (126, true)), [], false⟩,
      ⟨(some 130), .indexSl 37 (.tmp 128) (.tmp 129), (some (126, true)), [], false⟩,
      ⟨(some 131), .load (some 37) (.tmp 130), (some (126, true)), [], false⟩,
      ⟨(some 132), .mov (.tmp 0), (some (126, true)), [], false⟩,
      ⟨(some 133), .mov (.tmp 1), (some (126, true)), [], false⟩,
      ⟨(some 134), .indexSl 37 (.tmp 132) (.tmp 133), (some (126, true)), [], false⟩,
      ⟨(some 135), .load (some 37) (.tmp 134), (some (126, true)), [], false⟩,
      ⟨(some 136), .callV (.tmp 127) [(.tmp 131), (.tmp 135)], (some (126, true)), [], true⟩,
      ⟨(some 137), .bin .lss (so (.binOp .lss 3 (.tmp 136) (.const (.int .i64 0)) 3) 4) (.tmp 136) (.const (.int .i64 0)), (some (126, true)), [], true⟩,
      ⟨(some 138), .raw (so (.unOp .not 4 (.tmp 137)) 4), (some (126, true)), [], true⟩,
      ⟨(some 139), .pick (.tmp 126) (.tmp 138) (.const (.bool false)), none, [], true⟩]) (.cond (.tmp 139)
    .skip
    (.exit 8))) (.block 9 (.region [
      ⟨(some 140), .mov (.tmp 13), none, [], false⟩,
      ⟨(some 141), .bin .sub (so (.binOp .sub 3 (.tmp 140) (.const (.int .i64 1)) 3) 3) (.tmp 140) (.const (.int .i64 1)), none, [], false⟩,
      ⟨(some 13), .mov (.tmp 141), none, [], false⟩])))
noncomputable def slices_partitionCmpFunc_sigs_sig__l4 : ACode :=
  (.block 5 (.seq (.block 6 (.loop slices_partitionCmpFunc_sigs_sig__l2)) (.seq (.block 8 (.loop slices_partitionCmpFunc_sigs_sig__l3)) (.seq (.seq (.region [
      ⟨(some 142), .mov (.tmp 12), none, [], false⟩,
      ⟨(some 143), .mov (.tmp 13), none, [], false⟩,
      ⟨(some 144), .bin .gtr (so (.binOp .gtr 3 (.tmp 142) (.tmp 143) 3) 4) (.tmp 142) (.tmp 143), none, [], false⟩]) (.cond (.tmp 144)
    (.exit 4)
    .skip)) (.seq (.regionD [
      ⟨(some 145), .mov (.tmp 0), none, [], false⟩,
      ⟨(some 146), .mov (.tmp 12), none, [], false⟩,
      ⟨(some 147), .mov (.tmp 0), none, [], false⟩,
      ⟨(some 148), .mov (.tmp 13), none, [], false⟩,
      ⟨(some 149), .mov (.tmp 0), none, [], false⟩,
      ⟨(some 150), .mov (.tmp 13), none, [], false⟩,
      ⟨(some 151), .indexSl 37 (.tmp 149) (.tmp 150), none, [], false⟩,
      ⟨(some 152), .load (some 37) (.tmp 151), none, [], false⟩,
      ⟨(some 153), .mov (.tmp 0), none, [], false⟩,
      ⟨(some 154), .mov (.tmp 12), none, [], false⟩,
      ⟨(some 155), .indexSl 37 (.tmp 153) (.tmp 154), none, [], false⟩,
      ⟨(some 156), .load (some 37) (.tmp 155), none, [], false⟩,
      ⟨(some 157), .indexSl 37 (.tmp 145) (.tmp 146), none, [], false⟩,
      ⟨none, .store 37 (.tmp 157) (.tmp 152), none, [((some 148), .mov (.tmp 13), none), ((some 147), .mov (.tmp 0), none)], false⟩,
      ⟨(some 158), .indexSl 37 (.tmp 147) (.tmp 148), none, [], true⟩,
      ⟨none, .store 37 (.tmp 158) (.tmp 156), none, [], true⟩]) (.seq (.region [
      ⟨(some 159), .mov (.tmp 12), none, [], false⟩,
      ⟨(some 160), .bin .add (so (.binOp .add 3 (.tmp 159) (.const (.int .i64 1)) 3) 3) (.tmp 159) (.const (.int .i64 1)), none, [], false⟩,
      ⟨(some 12), .mov (.tmp 160), none, [], false⟩]) (.region [
      ⟨(some 161), .mov (.tmp 13), none, [], false⟩,
      ⟨(some 162), .bin .sub (so (.binOp .sub 3 (.tmp 161) (.const (.int .i64 1)) 3) 3) (.tmp 161) (.const (.int .i64 1)), none, [], false⟩,
      ⟨(some 13), .mov (.tmp 162), none, [], false⟩])))))))
noncomputable def slices_partitionCmpFunc_sigs_sig__c : ACode :=
  (.seq (.region [
      ⟨(some 10), .mov (.const (.int .i64 0)), none, [], false⟩,
      ⟨(some 11), .mov (.const (.bool false)), none, [], false⟩]) (.seq (.regionD [
      ⟨(some 14), .mov (.tmp 0), none, [], false⟩,
      ⟨(some 15), .mov (.tmp 1), none, [], false⟩,
      ⟨(some 16), .mov (.tmp 0), none, [], false⟩,
      ⟨(some 17), .mov (.tmp 3), none, [], false⟩,
      ⟨(some 18), .mov (.tmp 0), none, [], false⟩,
      ⟨(some 19), .mov (.tmp 3), none, [], false⟩,
      ⟨(some 20), .indexSl 37 (.tmp 18) (.tmp 19), none, [], false⟩,
      ⟨(some 21), .load (some 37) (.tmp 20), none, [], false⟩,
      ⟨(some 22), .mov (.tmp 0), none, [], false⟩,
      ⟨(some 23), .mov (.tmp 1), none, [], false⟩,
      ⟨(some 24), .indexSl 37 (.tmp 22) (.tmp 23), none, [], false⟩,
      ⟨(some 25), .load (some 37) (.tmp 24), none, [], false⟩,
      ⟨(some 26), .indexSl 37 (.tmp 14) (.tmp 15), none, [], false⟩,
      ⟨none, .store 37 (.tmp 26) (.tmp 21), none, [((some 17), .mov (.tmp 3), none), ((some 16), .mov (.tmp 0), none)], false⟩,
      ⟨(some 27), .indexSl 37 (.tmp 16) (.tmp 17), none, [], true⟩,
      ⟨none, .store 37 (.tmp 27) (.tmp 25), none, [], true⟩]) (.seq (.region [
      ⟨(some 28), .mov (.tmp 1), none, [], false⟩,
      ⟨(some 29), .bin .add (so (.binOp .add 3 (.tmp 28) (.const (.int .i64 1)) 3) 3) (.tmp 28) (.const (.int .i64 1)), none, [], false⟩,
      ⟨(some 30), .mov (.tmp 2), none, [], false⟩,
      ⟨(some 31), .bin .sub (so (.binOp .sub 3 (.tmp 30) (.const (.int .i64 1)) 3) 3) (.tmp 30) (.const (.int .i64 1)), none, [], false⟩,
      ⟨(some 12), .mov (.tmp 29), none, [], false⟩,
      ⟨(some 13), .mov (.tmp 31), none, [], false⟩]) (.seq (.block 0 (.loop slices_partitionCmpFunc_sigs_sig__l0)) (.seq (.block 2 (.loop slices_partitionCmpFunc_sigs_sig__l1)) (.seq (.seq (.region [
      ⟨(some 69), .mov (.tmp 12), none, [], false⟩,
      ⟨(some 70), .mov (.tmp 13), none, [], false⟩,
      ⟨(some 71), .bin .gtr (so (.binOp .gtr 3 (.tmp 69) (.tmp 70) 3) 4) (.tmp 69) (.tmp 70), none, [], false⟩]) (.cond (.tmp 71)
    (.seq (.regionD [
      ⟨(some 72), .mov (.tmp 0), none, [], false⟩,
      ⟨(some 73), .mov (.tmp 13), none, [], false⟩,
      ⟨(some 74), .mov (.tmp 0), none, [], false⟩,
      ⟨(some 75), .mov (.tmp 1), none, [], false⟩,
      ⟨(some 76), .mov (.tmp 0), none, [], false⟩,
      ⟨(some 77), .mov (.tmp 1), none, [], false⟩,
      ⟨(some 78), .indexSl 37 (.tmp 76) (.tmp 77), none, [], false⟩,
      ⟨(some 79), .load (some 37) (.tmp 78), none, [], false⟩,
      ⟨(some 80), .mov (.tmp 0), none, [], false⟩,
      ⟨(some 81), .mov (.tmp 13), none, [], false⟩,
      ⟨(some 82), .indexSl 37 (.tmp 80) (.tmp 81), none, [], false⟩,
      ⟨(some 83), .load (some 37) (.tmp 82), none, [], false⟩,
      ⟨(some 84), .indexSl 37 (.tmp 72) (.tmp 73), none, [], false⟩,
      ⟨none, .store 37 (.tmp 84) (.tmp 79), none, [((some 75), .mov (.tmp 1), none), ((some 74), .mov (.tmp 0), none)], false⟩,
      ⟨(some 85), .indexSl 37 (.tmp 74) (.tmp 75), none, [], true⟩,
      ⟨none, .store 37 (.tmp 85) (.tmp 83), none, [], true⟩]) (.seq (.region [
      ⟨(some 86), .mov (.tmp 13), none, [], false⟩,
      ⟨(some 10), .mov (.tmp 86), none, [], false⟩,
      ⟨(some 11), .mov (.const (.bool true)), none, [], false⟩]) .ret))
    .skip)) (.seq (.regionD [
      ⟨(some 87), .mov (.tmp 0), none, [], false⟩,
      ⟨(some 88), .mov (.tmp 12), none, [], false⟩,
      ⟨(some 89), .mov (.tmp 0), none, [], false⟩,
      ⟨(some 90), .mov (.tmp 13), none, [], false⟩,
      ⟨(some 91), .mov (.tmp 0), none, [], false⟩,
      ⟨(some 92), .mov (.tmp 13), none, [], false⟩,
      ⟨(some 93), .indexSl 37 (.tmp 91) (.tmp 92), none, [], false⟩,
      ⟨(some 94), .load (some 37) (.tmp 93), none, [], false⟩,
      ⟨(some 95), .mov (.tmp 0), none, [], false⟩,
      ⟨(some 96), .mov (.tmp 12), none, [], false⟩,
      ⟨(some 97), .indexSl 37 (.tmp 95) (.tmp 96), none, [], false⟩,
      ⟨(some 98), .load (some 37) (.tmp 97), none, [], false⟩,
      ⟨(some 99), .indexSl 37 (.tmp 87) (.tmp 88), none, [], false⟩,
      ⟨none, .store 37 (.tmp 99) (.tmp 94), none, [((some 90), .mov (.tmp 13), none), ((some 89), .mov (.tmp 0), none)], false⟩,
      ⟨(some 100), .indexSl 37 (.tmp 89) (.tmp 90), none, [], true⟩,
      ⟨none, .store 37 (.tmp 100) (.tmp 98), none, [], true⟩]) (.seq (.region [
      ⟨(some 101), .mov (.tmp 12), none, [], false⟩,
      ⟨(some 102), .bin .add (so (.binOp .add 3 (.tmp 101) (.const (.int .i64 1)) 3) 3) (.tmp 101) (.const (.int .i64 1)), none, [], false⟩,
      ⟨(some 12), .mov (.tmp 102), none, [], false⟩]) (.seq (.region [
      ⟨(some 103), .mov (.tmp 13), none, [], false⟩,
      ⟨(some 104), .bin .sub (so (.binOp .sub 3 (.tmp 103) (.const (.int .i64 1)) 3) 3) (.tmp 103) (.const (.int .i64 1)), none, [], false⟩,
      ⟨(some 13), .mov (.tmp 104), none, [], false⟩]) (.seq (.block 4 (.loop slices_partitionCmpFunc_sigs_sig__l4)) (.seq (.regionD [
      ⟨(some 163), .mov (.tmp 0), none, [], false⟩,
      ⟨(some 164), .mov (.tmp 13), none, [], false⟩,
      ⟨(some 165), .mov (.tmp 0), none, [], false⟩,
      ⟨(some 166), .mov (.tmp 1), none, [], false⟩,
      ⟨(some 167), .mov (.tmp 0), none, [], false⟩,
      ⟨(some 168), .mov (.tmp 1), none, [], false⟩,
      ⟨(some 169), .indexSl 37 (.tmp 167) (.tmp 168), none, [], false⟩,
      ⟨(some 170), .load (some 37) (.tmp 169), none, [], false⟩,
      ⟨(some 171), .mov (.tmp 0), none, [], false⟩,
      ⟨(some 172), .mov (.tmp 13), none, [], false⟩,
      ⟨(some 173), .indexSl 37 (.tmp 171) (.tmp 172), none, [], false⟩,
      ⟨(some 174), .load (some 37) (.tmp 173), none, [], false⟩,
      ⟨(some 175), .indexSl 37 (.tmp 163) (.tmp 164), none, [], false⟩,
      ⟨none, .store 37 (.tmp 175) (.tmp 170), none, [((some 166), .mov (.tmp 1), none), ((some 165), .mov (.tmp 0), none)], false⟩,
      ⟨(some 176), .indexSl 37 (.tmp 165) (.tmp 166), none, [], true⟩,
      ⟨none, .store 37 (.tmp 176) (.tmp 174), none, [], true⟩]) (.seq (.region [
      ⟨(some 177), .mov (.tmp 13), none, [], false⟩,
      ⟨(some 10), .mov (.tmp 177), none, [], false⟩,
      ⟨(some 11), .mov (.const (.bool false)), none, [], false⟩]) .ret))))))))))))
noncomputable def slices_partitionCmpFunc_sigs_sig_ : AFunc := ⟨178, [(10, none), (11, none)], slices_partitionCmpFunc_sigs_sig__c, none⟩
theorem slices_partitionCmpFunc_sigs_sig__t0 : tableOf Try.prog 101 = some slices_partitionCmpFunc_sigs_sig_ := by kernel_rfl
theorem slices_partitionCmpFunc_sigs_sig__t : T0 101 = some slices_partitionCmpFunc_sigs_sig_ := withKept_t rfl (withTrue_t rfl slices_partitionCmpFunc_sigs_sig__t0)


/-! 102 math/bits.Len32 -/
abbrev fn_math_bits_Len32 : FuncId := 102
noncomputable def math_bits_Len32_c : ACode :=
  (.seq (.region [
      ⟨(some 2), .mov (.const (.int .i64 0)), none, [], false⟩]) (.seq (.seq (.region [
      ⟨(some 3), .mov (.tmp 0), none, [], false⟩,
      ⟨(some 4), .bin .geq (so (.binOp .geq 158 (.tmp 3) (.const (.int .u32 65536)) 158) 4) (.tmp 3) (.const (.int .u32 65536)), none, [], false⟩]) (.cond (.tmp 4)
    (.seq (.region [
      ⟨(some 5), .mov (.tmp 0), none, [], false⟩,
      ⟨(some 6), .bin .shr (so (.binOp .shr 158 (.tmp 5) (.const (.int .u64 16)) 135) 158) (.tmp 5) (.const (.int .u64 16)), none, [], false⟩,
      ⟨(some 0), .mov (.tmp 6), none, [], false⟩]) (.region [
      ⟨(some 2), .mov (.const (.int .i64 16)), none, [], false⟩]))
    .skip)) (.seq (.seq (.region [
      ⟨(some 7), .mov (.tmp 0), none, [], false⟩,
      ⟨(some 8), .bin .geq (so (.binOp .geq 158 (.tmp 7) (.const (.int .u32 256)) 158) 4) (.tmp 7) (.const (.int .u32 256)), none, [], false⟩]) (.cond (.tmp 8)
    (.seq (.region [
      ⟨(some 9), .mov (.tmp 0), none, [], false⟩,
      ⟨(some 10), .bin .shr (so (.binOp .shr 158 (.tmp 9) (.const (.int .u64 8)) 135) 158) (.tmp 9) (.const (.int .u64 8)), none, [], false⟩,
      ⟨(some 0), .mov (.tmp 10), none, [], false⟩]) (.region [
      ⟨(some 11), .mov (.tmp 2), none, [], false⟩,
      ⟨(some 12), .bin .add (so (.binOp .add 3 (.tmp 11) (.const (.int .i64 8)) 3) 3) (.tmp 11) (.const (.int .i64 8)), none, [], false⟩,
      ⟨(some 2), .mov (.tmp 12), none, [], false⟩]))
    .skip)) (.seq (.region [
      ⟨(some 13), .mov (.tmp 2), none, [], false⟩,
      ⟨(some 14), .mov (.tmp 0), none, [], false⟩,
      ⟨(some 15), .conv .u8 (so (.convert 158 5 (.tmp 14)) 5) (.tmp 14), none, [], false⟩,
      ⟨(some 16), .raw (so (.index 9 (.const (.string ⟨⟨[0, 1, 2, 2, 3, 3, 3, 3, 4, 4, 4, 4, 4, 4, 4, 4, 5, 5, 5, 5, 5, 5, 5, 5, 5, 5, 5, 5, 5, 5, 5, 5, 6, 6, 6, 6, 6, 6, 6, 6, 6, 6, 6, 6, 6, 6, 6, 6, 6, 6, 6, 6, 6, 6, 6, 6, 6, 6, 6, 6, 6, 6, 6, 6, 7, 7, 7, 7, 7, 7, 7, 7, 7, 7, 7, 7, 7, 7, 7, 7, 7, 7, 7, 7, 7, 7, 7, 7, 7, 7, 7, 7, 7, 7, 7, 7, 7, 7, 7, 7, 7, 7, 7, 7, 7, 7, 7, 7, 7, 7, 7, 7, 7, 7, 7, 7, 7, 7, 7, 7, 7, 7, 7, 7, 7, 7, 7, 7, 8, 8, 8, 8, 8, 8, 8, 8, 8, 8, 8, 8, 8, 8, 8, 8, 8, 8, 8, 8, 8, 8, 8, 8, 8, 8, 8, 8, 8, 8, 8, 8, 8, 8, 8, 8, 8, 8, 8, 8, 8, 8, 8, 8, 8, 8, 8, 8, 8, 8, 8, 8, 8, 8, 8, 8, 8, 8, 8, 8, 8, 8, 8, 8, 8, 8, 8, 8, 8, 8, 8, 8, 8, 8, 8, 8, 8, 8, 8, 8, 8, 8, 8, 8, 8, 8, 8, 8, 8, 8, 8, 8, 8, 8, 8, 8, 8, 8, 8, 8, 8, 8, 8, 8, 8, 8, 8, 8, 8, 8, 8, 8, 8, 8, 8, 8, 8, 8, 8, 8, 8, 8, 8, 8, 8, 8, 8, 8]⟩⟩)) (.tmp 15)) 5), none, [], false⟩,
      ⟨(some 17), .conv .i64 (so (.convert 5 3 (.tmp 16)) 3) (.tmp 16), none, [], false⟩,
      ⟨(some 18), .bin .add (so (.binOp .add 3 (.tmp 13) (.tmp 17) 3) 3) (.tmp 13) (.tmp 17), none, [], false⟩,
      ⟨(some 2), .mov (.tmp 18), none, [], false⟩]) .ret))))
noncomputable def math_bits_Len32 : AFunc := ⟨19, [(2, none)], math_bits_Len32_c, none⟩
theorem math_bits_Len32_t0 : tableOf Try.prog 102 = some math_bits_Len32 := by kernel_rfl
theorem math_bits_Len32_t : T0 102 = some math_bits_Len32 := withKept_t rfl (withTrue_t rfl math_bits_Len32_t0)


/-! 103 math/bits.Len64 -/
abbrev fn_math_bits_Len64 : FuncId := 103
noncomputable def math_bits_Len64_c : ACode :=
  (.seq (.region [
      ⟨(some 2), .mov (.const (.int .i64 0)), none, [], false⟩]) (.seq (.seq (.region [
      ⟨(some 3), .mov (.tmp 0), none, [], false⟩,
      ⟨(some 4), .bin .geq (so (.binOp .geq 36 (.tmp 3) (.const (.int .u64 4294967296)) 36) 4) (.tmp 3) (.const (.int .u64 4294967296)), none, [], false⟩]) (.cond (.tmp 4)
    (.seq (.region [
      ⟨(some 5), .mov (.tmp 0), none, [], false⟩,
      ⟨(some 6), .bin .shr (so (.binOp .shr 36 (.tmp 5) (.const (.int .u64 32)) 135) 36) (.tmp 5) (.const (.int .u64 32)), none, [], false⟩,
      ⟨(some 0), .mov (.tmp 6), none, [], false⟩]) (.region [
      ⟨(some 2), .mov (.const (.int .i64 32)), none, [], false⟩]))
    .skip)) (.seq (.seq (.region [
      ⟨(some 7), .mov (.tmp 0), none, [], false⟩,
      ⟨(some 8), .bin .geq (so (.binOp .geq 36 (.tmp 7) (.const (.int .u64 65536)) 36) 4) (.tmp 7) (.const (.int .u64 65536)), none, [], false⟩]) (.cond (.tmp 8)
    (.seq (.region [
      ⟨(some 9), .mov (.tmp 0), none, [], false⟩,
      ⟨(some 10), .bin .shr (so (.binOp .shr 36 (.tmp 9) (.const (.int .u64 16)) 135) 36) (.tmp 9) (.const (.int .u64 16)), none, [], false⟩,
      ⟨(some 0), .mov (.tmp 10), none, [], false⟩]) (.region [
      ⟨(some 11), .mov (.tmp 2), none, [], false⟩,
      ⟨(some 12), .bin .add (so (.binOp .add 3 (.tmp 11) (.const (.int .i64 16)) 3) 3) (.tmp 11) (.const (.int .i64 16)), none, [], false⟩,
      ⟨(some 2), .mov (.tmp 12), none, [], false⟩]))
    .skip)) (.seq (.seq (.region [
      ⟨(some 13), .mov (.tmp 0), none, [], false⟩,
      ⟨(some 14), .bin .geq (so (.binOp .geq 36 (.tmp 13) (.const (.int .u64 256)) 36) 4) (.tmp 13) (.const (.int .u64 256)), none, [], false⟩]) (.cond (.tmp 14)
    (.seq (.region [
      ⟨(some 15), .mov (.tmp 0), none, [], false⟩,
      ⟨(some 16), .bin .shr (so (.binOp .shr 36 (.tmp 15) (.const (.int .u64 8)) 135) 36) (.tmp 15) (.const (.int .u64 8)), none, [], false⟩,
      ⟨(some 0), .mov (.tmp 16), none, [], false⟩]) (.region [
      ⟨(some 17), .mov (.tmp 2), none, [], false⟩,
      ⟨(some 18), .bin .add (so (.binOp .add 3 (.tmp 17) (.const (.int .i64 8)) 3) 3) (.tmp 17) (.const (.int .i64 8)), none, [], false⟩,
      ⟨(some 2), .mov (.tmp 18), none, [], false⟩]))
    .skip)) (.seq (.region [
      ⟨(some 19), .mov (.tmp 2), none, [], false⟩,
      ⟨(some 20), .mov (.tmp 0), none, [], false⟩,
      ⟨(some 21), .conv .u8 (so (.convert 36 5 (.tmp 20)) 5) (.tmp 20), none, [], false⟩,
      ⟨(some 22), .raw (so (.index 9 (.const (.string ⟨⟨[0, 1, 2, 2, 3, 3, 3, 3, 4, 4, 4, 4, 4, 4, 4, 4, 5, 5, 5, 5, 5, 5, 5, 5, 5, 5, 5, 5, 5, 5, 5, 5, 6, 6, 6, 6, 6, 6, 6, 6, 6, 6, 6, 6, 6, 6, 6, 6, 6, 6, 6, 6, 6, 6, 6, 6, 6, 6, 6, 6, 6, 6, 6, 6, 7, 7, 7, 7, 7, 7, 7, 7, 7, 7, 7, 7, 7, 7, 7, 7, 7, 7, 7, 7, 7, 7, 7, 7, 7, 7, 7, 7, 7, 7, 7, 7, 7, 7, 7, 7, 7, 7, 7, 7, 7, 7, 7, 7, 7, 7, 7, 7, 7, 7, 7, 7, 7, 7, 7, 7, 7, 7, 7, 7, 7, 7, 7, 7, 8, 8, 8, 8, 8, 8, 8, 8, 8, 8, 8, 8, 8, 8, 8, 8, 8, 8, 8, 8, 8, 8, 8, 8, 8, 8, 8, 8, 8, 8, 8, 8, 8, 8, 8, 8, 8, 8, 8, 8, 8, 8, 8, 8, 8, 8, 8, 8, 8, 8, 8, 8, 8, 8, 8, 8, 8, 8, 8, 8, 8, 8, 8, 8, 8, 8, 8, 8, 8, 8, 8, 8, 8, 8, 8, 8, 8, 8, 8, 8, 8, 8, 8, 8, 8, 8, 8, 8, 8, 8, 8, 8, 8, 8, 8, 8, 8, 8, 8, 8, 8, 8, 8, 8, 8, 8, 8, 8, 8, 8, 8, 8, 8, 8, 8, 8, 8, 8, 8, 8, 8, 8, 8, 8, 8, 8, 8, 8]⟩⟩)) (.tmp 21)) 5), none, [], false⟩,
      ⟨(some 23), .conv .i64 (so (.convert 5 3 (.tmp 22)) 3) (.tmp 22), none, [], false⟩,
      ⟨(some 24), .bin .add (so (.binOp .add 3 (.tmp 19) (.tmp 23) 3) 3) (.tmp 19) (.tmp 23), none, [], false⟩,
      ⟨(some 2), .mov (.tmp 24), none, [], false⟩]) .ret)))))
noncomputable def math_bits_Len64 : AFunc := ⟨25, [(2, none)], math_bits_Len64_c, none⟩
theorem math_bits_Len64_t0 : tableOf Try.prog 103 = some math_bits_Len64 := by kernel_rfl
theorem math_bits_Len64_t : T0 103 = some math_bits_Len64 := withKept_t rfl (withTrue_t rfl math_bits_Len64_t0)


/-! 104 slices.siftDownCmpFunc[landfall/sigs.sig] -/
abbrev fn_slices_siftDownCmpFunc_sigs_sig_ : FuncId := 104
noncomputable def slices_siftDownCmpFunc_sigs_sig__l0 : ACode :=
  (.block 1 (.seq (.region [
      ⟨(some 13), .mov (.tmp 10), none, [], false⟩,
      ⟨(some 14), .bin .mul (so (.binOp .mul 3 (.const (.int .i64 2)) (.tmp 13) 3) 3) (.const (.int .i64 2)) (.tmp 13), none, [], false⟩,
      ⟨(some 15), .bin .add (so (.binOp .add 3 (.tmp 14) (.const (.int .i64 1)) 3) 3) (.tmp 14) (.const (.int .i64 1)), none, [], false⟩,
      ⟨(some 11), .mov (.tmp 15), none, [], false⟩]) (.seq (.seq (.region [
      ⟨(some 16), .mov (.tmp 11), none, [], false⟩,
      ⟨(some 17), .mov (.tmp 2), none, [], false⟩,
      ⟨(some 18), .bin .geq (so (.binOp .geq 3 (.tmp 16) (.tmp 17) 3) 4) (.tmp 16) (.tmp 17), none, [], false⟩]) (.cond (.tmp 18)
    (.exit 0)
    .skip)) (.seq (.seq (.regionD [
      ⟨(some 19), .mov (.tmp 11), none, [], false⟩,
      ⟨(some 20), .bin .add (so (.binOp .add 3 (.tmp 19) (.const (.int .i64 1)) 3) 3) (.tmp 19) (.const (.int .i64 1)), none, [], false⟩,
      ⟨(some 21), .mov (.tmp 2), none, [], false⟩,
      ⟨(some 22), .bin .lss (so (.binOp .lss 3 (.tmp 20) (.tmp 21) 3) 4) (.tmp 20) (.tmp 21), none, [], true⟩,
      ⟨(some 23), .mov (.tmp 22), none, [], true⟩,
      ⟨(some 24), .mov (.tmp 4), (some (23, true)), [], false⟩,
      ⟨(some 25), .mov (.tmp 0), (some (23, true)), [], false⟩,
      ⟨(some 26), .mov (.tmp 3), (some (23, true)), [], false⟩,
      ⟨(some 27), .mov (.tmp 11), (some (23, true)), [], false⟩,
      ⟨(some 28), .bin .add (so (.binOp .add 3 (.tmp 26) (.tmp 27) 3) 3) (.tmp 26) (.tmp 27), (some (23, true)), [], false⟩,
      ⟨(some 29), .indexSl 37 (.tmp 25) (.tmp 28), (some (23, true)), [], false⟩,
      ⟨(some 30), .load (some 37) (.tmp 29), (some (23, true)), [], false⟩,
      ⟨(some 31), .mov (.tmp 0), (some (23, true)), [], false⟩,
      ⟨(some 32), .mov (.tmp 3), (some (23, true)), [], false⟩,
      ⟨(some 33), .mov (.tmp 11), (some (23, true)), [], false⟩,
      ⟨(some 34), .bin .add (so (.binOp .add 3 (.tmp 32) (.tmp 33) 3) 3) (.tmp 32) (.tmp 33), (some (23, true)), [], false⟩,
      ⟨(some 35), .bin .add (so (.binOp .add 3 (.tmp 34) (.const (.int .i64 1)) 3) 3) (.tmp 34) (.const (.int .i64 1)), (some (23, true)), [], false⟩,
      ⟨(some 36), .indexSl 37 (.tmp 31) (.tmp 35), (some (23, true)), [], false⟩,
      ⟨(some 37), .load (some 37) (.tmp 36), (some (23, true)), [], false⟩,
      ⟨(some 38), .callV (.tmp 24) [(.tmp 30), (.tmp 37)], (some (23, true)), [], true⟩,
      ⟨(some 39), .bin .lss (so (.binOp .lss 3 (.tmp 38) (.const (.int .i64 0)) 3) 4) (.tmp 38) (.const (.int .i64 0)), (some (23, true)), [], true⟩,
      ⟨(some 40), .pick (.tmp 23) (.tmp 39) (.const (.bool false)), none, [], true⟩]) (.cond (.tmp 40)
    (.region [
      ⟨(some 41), .mov (.tmp 11), none, [], false⟩,
      ⟨(some 42), .bin .add (so (.binOp .add 3 (.tmp 41) (.const (.int .i64 1)) 3) 3) (.tmp 41) (.const (.int .i64 1)), none, [], false⟩,
      ⟨(some 11), .mov (.tmp 42), none, [], false⟩])
    .skip)) (.seq (.seq (.regionD [
      ⟨(some 43), .mov (.tmp 4), none, [], false⟩,
      ⟨(some 44), .mov (.tmp 0), none, [], false⟩,
      ⟨(some 45), .mov (.tmp 3), none, [], false⟩,
      ⟨(some 46), .mov (.tmp 10), none, [], false⟩,
      ⟨(some 47), .bin .add (so (.binOp .add 3 (.tmp 45) (.tmp 46) 3) 3) (.tmp 45) (.tmp 46), none, [], false⟩,
      ⟨(some 48), .indexSl 37 (.tmp 44) (.tmp 47), none, [], false⟩,
      ⟨(some 49), .load (some 37) (.tmp 48), none, [], false⟩,
      ⟨(some 50), .mov (.tmp 0), none, [], false⟩,
      ⟨(some 51), .mov (.tmp 3), none, [], false⟩,
      ⟨(some 52), .mov (.tmp 11), none, [], false⟩,
      ⟨(some 53), .bin .add (so (.binOp .add 3 (.tmp 51) (.tmp 52) 3) 3) (.tmp 51) (.tmp 52), none, [], false⟩,
      ⟨(some 54), .indexSl 37 (.tmp 50) (.tmp 53), none, [], false⟩,
      ⟨(some 55), .load (some 37) (.tmp 54), none, [], false⟩,
      ⟨(some 56), .callV (.tmp 43) [(.tmp 49), (.tmp 55)], none, [], true⟩,
      ⟨(some 57), .bin .lss (so (.binOp .lss 3 (.tmp 56) (.const (.int .i64 0)) 3) 4) (.tmp 56) (.const (.int .i64 0)), none, [], true⟩,
      ⟨(some 58), .raw (so (.unOp .not 4 (.tmp 57)) 4), none, [], true⟩]) (.cond (.tmp 58)
    .ret
    .skip)) (.seq (.regionD [
      ⟨(some 59), .mov (.tmp 0), none, [], false⟩,
      ⟨(some 60), .mov (.tmp 3), none, [], false⟩,
      ⟨(some 61), .mov (.tmp 10), none, [], false⟩,
      ⟨(some 62), .bin .add (so (.binOp .add 3 (.tmp 60) (.tmp 61) 3) 3) (.tmp 60) (.tmp 61), none, [], false⟩,
      ⟨(some 63), .mov (.tmp 0), none, [], false⟩,
      ⟨(some 64), .mov (.tmp 3), none, [], false⟩,
      ⟨(some 65), .mov (.tmp 11), none, [], false⟩,
      ⟨(some 66), .bin .add (so (.binOp .add 3 (.tmp 64) (.tmp 65) 3) 3) (.tmp 64) (.tmp 65), none, [], false⟩,
      ⟨(some 67), .mov (.tmp 0), none, [], false⟩,
      ⟨(some 68), .mov (.tmp 3), none, [], false⟩,
      ⟨(some 69), .mov (.tmp 11), none, [], false⟩,
      ⟨(some 70), .bin .add (so (.binOp .add 3 (.tmp 68) (.tmp 69) 3) 3) (.tmp 68) (.tmp 69), none, [], false⟩,
      ⟨(some 71), .indexSl 37 (.tmp 67) (.tmp 70), none, [], false⟩,
      ⟨(some 72), .load (some 37) (.tmp 71), none, [], false⟩,
      ⟨(some 73), .mov (.tmp 0), none, [], false⟩,
      ⟨(some 74), .mov (.tmp 3), none, [], false⟩,
      ⟨(some 75), .mov (.tmp 10), none, [], false⟩,
      ⟨(some 76), .bin .add (so (.binOp .add 3 (.tmp 74) (.tmp 75) 3) 3) (.tmp 74) (.tmp 75), none, [], false⟩,
      ⟨(some 77), .indexSl 37 (.tmp 73) (.tmp 76), none, [], false⟩,
      ⟨(some 78), .load (some 37) (.tmp 77), none, [], false⟩,
      ⟨(some 79), .indexSl 37 (.tmp 59) (.tmp 62), none, [], false⟩,
      ⟨none, .store 37 (.tmp 79) (.tmp 72), none, [((some 66), .bin .add (so (.binOp .add 3 (.tmp 64) (.tmp 65) 3) 3) (.tmp 64) (.tmp 65), none), ((some 65), .mov (.tmp 11), none), ((some 64), .mov (.tmp 3), none), ((some 63), .mov (.tmp 0), none)], false⟩,
      ⟨(some 80), .indexSl 37 (.tmp 63) (.tmp 66), none, [], true⟩,
      ⟨none, .store 37 (.tmp 80) (.tmp 78), none, [], true⟩]) (.region [
      ⟨(some 81), .mov (.tmp 11), none, [], false⟩,
      ⟨(some 10), .mov (.tmp 81), none, [], false⟩])))))))
noncomputable def slices_siftDownCmpFunc_sigs_sig__c : ACode :=
  (.seq (.region [
      ⟨(some 12), .mov (.tmp 1), none, [], false⟩,
      ⟨(some 10), .mov (.tmp 12), none, [], false⟩]) (.block 0 (.loop slices_siftDownCmpFunc_sigs_sig__l0)))
noncomputable def slices_siftDownCmpFunc_sigs_sig_ : AFunc := ⟨82, [], slices_siftDownCmpFunc_sigs_sig__c, none⟩
theorem slices_siftDownCmpFunc_sigs_sig__t0 : tableOf Try.prog 104 = some slices_siftDownCmpFunc_sigs_sig_ := by kernel_rfl
theorem slices_siftDownCmpFunc_sigs_sig__t : T0 104 = some slices_siftDownCmpFunc_sigs_sig_ := withKept_t rfl (withTrue_t rfl slices_siftDownCmpFunc_sigs_sig__t0)


/-! 105 slices.nextPowerOfTwo -/
abbrev fn_slices_nextPowerOfTwo : FuncId := 105
noncomputable def slices_nextPowerOfTwo_c : ACode :=
  (.seq (.region [
      ⟨(some 2), .mov (.const (.int .u64 0)), none, [], false⟩]) (.seq (.region [
      ⟨(some 3), .mov (.tmp 0), none, [], false⟩,
      ⟨(some 4), .conv .u64 (so (.convert 3 135 (.tmp 3)) 135) (.tmp 3), none, [], false⟩,
      ⟨(some 5), .callV (.func 93) [(.tmp 4)], none, [], false⟩,
      ⟨(some 6), .bin .shl (so (.binOp .shl 135 (.const (.int .u64 1)) (.tmp 5) 3) 135) (.const (.int .u64 1)) (.tmp 5), none, [], false⟩,
      ⟨(some 2), .mov (.tmp 6), none, [], false⟩]) .ret))
noncomputable def slices_nextPowerOfTwo : AFunc := ⟨7, [(2, none)], slices_nextPowerOfTwo_c, none⟩
theorem slices_nextPowerOfTwo_t0 : tableOf Try.prog 105 = some slices_nextPowerOfTwo := by kernel_rfl
theorem slices_nextPowerOfTwo_t : T0 105 = some slices_nextPowerOfTwo := withKept_t rfl (withTrue_t rfl slices_nextPowerOfTwo_t0)


/-! 106 (*slices.xorshift).Next -/
abbrev fn_slices_xorshift_Next : FuncId := 106
noncomputable def slices_xorshift_Next_c : ACode :=
  (.seq (.region [
      ⟨(some 2), .mov (.const (.int .u64 0)), none, [], false⟩]) (.seq (.regionD [
      ⟨(some 3), .mov (.tmp 0), none, [], false⟩,
      ⟨(some 4), .nilCheck (.tmp 3), none, [], false⟩,
      ⟨(some 5), .load none (.tmp 4), none, [], false⟩,
      ⟨(some 6), .mov (.tmp 0), none, [], false⟩,
      ⟨(some 7), .nilCheck (.tmp 6), none, [], false⟩,
      ⟨(some 8), .load none (.tmp 7), none, [], false⟩,
      ⟨(some 9), .bin .shl (so (.binOp .shl 160 (.tmp 8) (.const (.int .u64 13)) 135) 160) (.tmp 8) (.const (.int .u64 13)), none, [], false⟩,
      ⟨(some 10), .bin .xor (so (.binOp .xor 160 (.tmp 5) (.tmp 9) 160) 160) (.tmp 5) (.tmp 9), none, [], true⟩,
      ⟨(some 11), .nilCheck (.tmp 3), none, [], true⟩,
      ⟨none, .store 1 (.tmp 11) (.tmp 10), none, [], true⟩]) (.seq (.regionD [
      ⟨(some 12), .mov (.tmp 0), none, [], false⟩,
      ⟨(some 13), .nilCheck (.tmp 12), none, [], false⟩,
      ⟨(some 14), .load none (.tmp 13), none, [], false⟩,
      ⟨(some 15), .mov (.tmp 0), none, [], false⟩,
      ⟨(some 16), .nilCheck (.tmp 15), none, [], false⟩,
      ⟨(some 17), .load none (.tmp 16), none, [], false⟩,
      ⟨(some 18), .bin .shr (so (.binOp .shr 160 (.tmp 17) (.const (.int .u64 7)) 135) 160) (.tmp 17) (.const (.int .u64 7)), none, [], false⟩,
      ⟨(some 19), .bin .xor (so (.binOp .xor 160 (.tmp 14) (.tmp 18) 160) 160) (.tmp 14) (.tmp 18), none, [], true⟩,
      ⟨(some 20), .nilCheck (.tmp 12), none, [], true⟩,
      ⟨none, .store 1 (.tmp 20) (.tmp 19), none, [], true⟩]) (.seq (.regionD [
      ⟨(some 21), .mov (.tmp 0), none, [], false⟩,
      ⟨(some 22), .nilCheck (.tmp 21), none, [], false⟩,
      ⟨(some 23), .load none (.tmp 22), none, [], false⟩,
      ⟨(some 24), .mov (.tmp 0), none, [], false⟩,
      ⟨(some 25), .nilCheck (.tmp 24), none, [], false⟩,
      ⟨(some 26), .load none (.tmp 25), none, [], false⟩,
      ⟨(some 27), .bin .shl (so (.binOp .shl 160 (.tmp 26) (.const (.int .u64 17)) 135) 160) (.tmp 26) (.const (.int .u64 17)), none, [], false⟩,
      ⟨(some 28), .bin .xor (so (.binOp .xor 160 (.tmp 23) (.tmp 27) 160) 160) (.tmp 23) (.tmp 27), none, [], true⟩,
      ⟨(some 29), .nilCheck (.tmp 21), none, [], true⟩,
      ⟨none, .store 1 (.tmp 29) (.tmp 28), none, [], true⟩]) (.seq (.region [
      ⟨(some 30), .mov (.tmp 0), none, [], false⟩,
      ⟨(some 31), .nilCheck (.tmp 30), none, [], false⟩,
      ⟨(some 32), .load none (.tmp 31), none, [], false⟩,
      ⟨(some 2), .mov (.tmp 32), none, [], false⟩]) .ret)))))
noncomputable def slices_xorshift_Next : AFunc := ⟨33, [(2, none)], slices_xorshift_Next_c, none⟩
theorem slices_xorshift_Next_t0 : tableOf Try.prog 106 = some slices_xorshift_Next := by kernel_rfl
theorem slices_xorshift_Next_t : T0 106 = some slices_xorshift_Next := withKept_t rfl (withTrue_t rfl slices_xorshift_Next_t0)


/-! 107 slices.medianAdjacentCmpFunc[landfall/sigs.sig] -/
abbrev fn_slices_medianAdjacentCmpFunc_sigs_sig_ : FuncId := 107
noncomputable def slices_medianAdjacentCmpFunc_sigs_sig__c : ACode :=
  (.seq (.region [
      ⟨(some 8), .mov (.const (.int .i64 0)), none, [], false⟩]) (.seq (.region [
      ⟨(some 9), .mov (.tmp 0), none, [], false⟩,
      ⟨(some 10), .mov (.tmp 1), none, [], false⟩,
      ⟨(some 11), .bin .sub (so (.binOp .sub 3 (.tmp 10) (.const (.int .i64 1)) 3) 3) (.tmp 10) (.const (.int .i64 1)), none, [], false⟩,
      ⟨(some 12), .mov (.tmp 1), none, [], false⟩,
      ⟨(some 13), .mov (.tmp 1), none, [], false⟩,
      ⟨(some 14), .bin .add (so (.binOp .add 3 (.tmp 13) (.const (.int .i64 1)) 3) 3) (.tmp 13) (.const (.int .i64 1)), none, [], false⟩,
      ⟨(some 15), .mov (.tmp 2), none, [], false⟩,
      ⟨(some 16), .mov (.tmp 3), none, [], false⟩,
      ⟨(some 17), .callV (.func 108) [(.tmp 9), (.tmp 11), (.tmp 12), (.tmp 14), (.tmp 15), (.tmp 16)], none, [], false⟩,
      ⟨(some 8), .mov (.tmp 17), none, [], false⟩]) .ret))
noncomputable def slices_medianAdjacentCmpFunc_sigs_sig_ : AFunc := ⟨18, [(8, none)], slices_medianAdjacentCmpFunc_sigs_sig__c, none⟩
theorem slices_medianAdjacentCmpFunc_sigs_sig__t0 : tableOf Try.prog 107 = some slices_medianAdjacentCmpFunc_sigs_sig_ := by kernel_rfl
theorem slices_medianAdjacentCmpFunc_sigs_sig__t : T0 107 = some slices_medianAdjacentCmpFunc_sigs_sig_ := withKept_t rfl (withTrue_t rfl slices_medianAdjacentCmpFunc_sigs_sig__t0)


/-! 108 slices.medianCmpFunc[landfall/sigs.sig] -/
abbrev fn_slices_medianCmpFunc_sigs_sig_ : FuncId := 108
noncomputable def slices_medianCmpFunc_sigs_sig__c : ACode :=
  (.seq (.region [
      ⟨(some 12), .mov (.const (.int .i64 0)), none, [], false⟩]) (.seq (.region [
      ⟨(some 14), .mov (.tmp 0), none, [], false⟩,
      ⟨(some 15), .mov (.tmp 1), none, [], false⟩,
      ⟨(some 16), .mov (.tmp 2), none, [], false⟩,
      ⟨(some 17), .mov (.tmp 4), none, [], false⟩,
      ⟨(some 18), .mov (.tmp 5), none, [], false⟩,
      ⟨(some 19), .callV (.func 109) [(.tmp 14), (.tmp 15), (.tmp 16), (.tmp 17), (.tmp 18)], none, [], false⟩,
      ⟨(some 13), .mov (.tmp 19), none, [], false⟩,
      ⟨(some 20), .extract 0 (.tmp 13), none, [], false⟩,
      ⟨(some 21), .extract 1 (.tmp 13), none, [], false⟩,
      ⟨(some 1), .mov (.tmp 20), none, [], false⟩,
      ⟨(some 2), .mov (.tmp 21), none, [], false⟩]) (.seq (.region [
      ⟨(some 23), .mov (.tmp 0), none, [], false⟩,
      ⟨(some 24), .mov (.tmp 2), none, [], false⟩,
      ⟨(some 25), .mov (.tmp 3), none, [], false⟩,
      ⟨(some 26), .mov (.tmp 4), none, [], false⟩,
      ⟨(some 27), .mov (.tmp 5), none, [], false⟩,
      ⟨(some 28), .callV (.func 109) [(.tmp 23), (.tmp 24), (.tmp 25), (.tmp 26), (.tmp 27)], none, [], false⟩,
      ⟨(some 22), .mov (.tmp 28), none, [], false⟩,
      ⟨(some 29), .extract 0 (.tmp 22), none, [], false⟩,
      ⟨(some 30), .extract 1 (.tmp 22), none, [], false⟩,
      ⟨(some 2), .mov (.tmp 29), none, [], false⟩,
      ⟨(some 3), .mov (.tmp 30), none, [], false⟩]) (.seq (.region [
      ⟨(some 32), .mov (.tmp 0), none, [], false⟩,
      ⟨(some 33), .mov (.tmp 1), none, [], false⟩,
      ⟨(some 34), .mov (.tmp 2), none, [], false⟩,
      ⟨(some 35), .mov (.tmp 4), none, [], false⟩,
      ⟨(some 36), .mov (.tmp 5), none, [], false⟩,
      ⟨(some 37), .callV (.func 109) [(.tmp 32), (.tmp 33), (.tmp 34), (.tmp 35), (.tmp 36)], none, [], false⟩,
      ⟨(some 31), .mov (.tmp 37), none, [], false⟩,
      ⟨(some 38), .extract 0 (.tmp 31), none, [], false⟩,
      ⟨(some 39), .extract 1 (.tmp 31), none, [], false⟩,
      ⟨(some 1), .mov (.tmp 38), none, [], false⟩,
      ⟨(some 2), .mov (.tmp 39), none, [], false⟩]) (.seq (.region [
      ⟨(some 40), .mov (.tmp 2), none, [], false⟩,
      ⟨(some 12), .mov (.tmp 40), none, [], false⟩]) .ret)))))
noncomputable def slices_medianCmpFunc_sigs_sig_ : AFunc := ⟨41, [(12, none)], slices_medianCmpFunc_sigs_sig__c, none⟩
theorem slices_medianCmpFunc_sigs_sig__t0 : tableOf Try.prog 108 = some slices_medianCmpFunc_sigs_sig_ := by kernel_rfl
theorem slices_medianCmpFunc_sigs_sig__t : T0 108 = some slices_medianCmpFunc_sigs_sig_ := withKept_t rfl (withTrue_t rfl slices_medianCmpFunc_sigs_sig__t0)


/-! 109 slices.order2CmpFunc[landfall/sigs.sig] -/
abbrev fn_slices_order2CmpFunc_sigs_sig_ : FuncId := 109
noncomputable def slices_order2CmpFunc_sigs_sig__c : ACode :=
  (.seq (.region [
      ⟨(some 10), .mov (.const (.int .i64 0)), none, [], false⟩,
      ⟨(some 11), .mov (.const (.int .i64 0)), none, [], false⟩]) (.seq (.seq (.regionD [
      ⟨(some 12), .mov (.tmp 4), none, [], false⟩,
      ⟨(some 13), .mov (.tmp 0), none, [], false⟩,
      ⟨(some 14), .mov (.tmp 2), none, [], false⟩,
      ⟨(some 15), .indexSl 37 (.tmp 13) (.tmp 14), none, [], false⟩,
      ⟨(some 16), .load (some 37) (.tmp 15), none, [], false⟩,
      ⟨(some 17), .mov (.tmp 0), none, [], false⟩,
      ⟨(some 18), .mov (.tmp 1), none, [], false⟩,
      ⟨(some 19), .indexSl 37 (.tmp 17) (.tmp 18), none, [], false⟩,
      ⟨(some 20), .load (some 37) (.tmp 19), none, [], false⟩,
      ⟨(some 21), .callV (.tmp 12) [(.tmp 16), (.tmp 20)], none, [], true⟩,
      ⟨(some 22), .bin .lss (so (.binOp .lss 3 (.tmp 21) (.const (.int .i64 0)) 3) 4) (.tmp 21) (.const (.int .i64 0)), none, [], true⟩]) (.cond (.tmp 22)
    (.seq (.region [
      ⟨(some 23), .mov (.tmp 3), none, [], false⟩,
      ⟨(some 24), .nilCheck (.tmp 23), none, [], false⟩,
      ⟨(some 25), .load none (.tmp 24), none, [], false⟩,
      ⟨(some 26), .bin .add (so (.binOp .add 3 (.tmp 25) (.const (.int .i64 1)) 3) 3) (.tmp 25) (.const (.int .i64 1)), none, [], false⟩,
      ⟨(some 27), .nilCheck (.tmp 23), none, [], false⟩,
      ⟨none, .store 1 (.tmp 27) (.tmp 26), none, [], false⟩]) (.seq (.region [
      ⟨(some 28), .mov (.tmp 2), none, [], false⟩,
      ⟨(some 29), .mov (.tmp 1), none, [], false⟩,
      ⟨(some 10), .mov (.tmp 28), none, [], false⟩,
      ⟨(some 11), .mov (.tmp 29), none, [], false⟩]) .ret))
    .skip)) (.seq (.region [
      ⟨(some 30), .mov (.tmp 1), none, [], false⟩,
      ⟨(some 31), .mov (.tmp 2), none, [], false⟩,
      ⟨(some 10), .mov (.tmp 30), none, [], false⟩,
      ⟨(some 11), .mov (.tmp 31), none, [], false⟩]) .ret)))
noncomputable def slices_order2CmpFunc_sigs_sig_ : AFunc := ⟨32, [(10, none), (11, none)], slices_order2CmpFunc_sigs_sig__c, none⟩
theorem slices_order2CmpFunc_sigs_sig__t0 : tableOf Try.prog 109 = some slices_order2CmpFunc_sigs_sig_ := by kernel_rfl
theorem slices_order2CmpFunc_sigs_sig__t : T0 109 = some slices_order2CmpFunc_sigs_sig_ := withKept_t rfl (withTrue_t rfl slices_order2CmpFunc_sigs_sig__t0)


noncomputable def table : TT :=
  (.node (.node (.node (.node (.node (.node (.node .nil 5 landfalllaw08_SigsKnown .nil) 8 landfalllaw08_awake .nil) 9 sigs_New (.node (.node .nil 11 sigs_Table_Add .nil) 14 sigs_Table_Encode .nil)) 15 sigs_Table_Has (.node (.node (.node .nil 16 sigs_Table_Who .nil) 17 sigs_Table_Len .nil) 18 sigs_Table_List (.node .nil 19 landfalllaw08_three .nil))) 20 landfallkit_SameBytes (.node (.node (.node (.node .nil 21 landfallkit_SameSigs .nil) 22 landfalllaw08_sameKeys .nil) 23 landfalllaw08_wrong (.node (.node .nil 25 sigs_Decode .nil) 26 sigs_Table_none .nil)) 32 wire_NewWriter (.node (.node (.node .nil 33 wire_Writer_Num .nil) 34 sigs_Table_sorted .nil) 35 wire_Writer_Key (.node .nil 36 wire_Writer_Hash .nil)))) 37 wire_Writer_Word (.node (.node (.node (.node (.node .nil 38 wire_Writer_Done .nil) 39 sigs_Table_over .nil) 40 wire_NewReader (.node (.node .nil 41 wire_Reader_Num .nil) 42 wire_Reader_Rest .nil)) 43 wire_Reader_Key (.node (.node (.node .nil 44 wire_Reader_Hash .nil) 45 wire_Reader_Word .nil) 46 wire_Reader_End (.node .nil 47 sigs_sig_compare .nil))) 54 wire_Writer_put (.node (.node (.node (.node .nil 55 wire_number .nil) 56 slices_SortedFunc_sigs_sig_ .nil) 57 maps_Keys_map_sigs_sig_sigs_held_sigs_sig_sigs_held_ (.node .nil 58 wire_word .nil)) 59 slices_Clone___byte_byte_ (.node (.node (.node .nil 60 sigs_Table_over_1 .nil) 61 wire_reads_int_ .nil) 62 wire_Reader_num (.node .nil 63 wire_reads_api_Key_ .nil))))) 64 wire_Reader_Key_1 (.node (.node (.node (.node (.node (.node .nil 65 wire_take_api_Key_ .nil) 66 wire_Reader_Key_1_1 .nil) 67 wire_reads_api_Hash_ (.node (.node .nil 68 wire_Reader_Hash_1 .nil) 69 wire_take_api_Hash_ .nil)) 70 wire_Reader_Hash_1_1 (.node (.node (.node .nil 71 wire_reads_uint64_ .nil) 72 wire_Reader_Word_1 .nil) 73 wire_take_uint64_ (.node .nil 74 wire_big .nil))) 75 cmp_Or_int_ (.node (.node (.node (.node .nil 76 bytes_Compare .nil) 77 cmp_Compare_uint64_ .nil) 81 slices_Concat___byte_byte_ (.node .nil 82 slices_Collect_sigs_sig_ .nil)) 83 slices_SortFunc___sigs_sig_sigs_sig_ (.node (.node (.node .nil 84 maps_Keys_map_sigs_sig_sigs_held_sigs_sig_sigs_held__1 .nil) 85 wire_Reader_caught .nil) 86 wire_must (.node .nil 87 wire_Reader_num_1 .nil)))) 89 cmp_isNaN_uint64_ (.node (.node (.node (.node (.node .nil 90 slices_Grow___byte_byte_ .nil) 91 slices_AppendSeq___sigs_sig_sigs_sig_ .nil) 92 slices_pdqsortCmpFunc_sigs_sig_ (.node (.node .nil 93 math_bits_Len .nil) 94 slices_insertionSortCmpFunc_sigs_sig_ .nil)) 95 slices_heapSortCmpFunc_sigs_sig_ (.node (.node (.node .nil 96 slices_breakPatternsCmpFunc_sigs_sig_ .nil) 97 slices_choosePivotCmpFunc_sigs_sig_ .nil) 98 slices_reverseRangeCmpFunc_sigs_sig_ (.node .nil 99 slices_partialInsertionSortCmpFunc_sigs_sig_ .nil))) 100 slices_partitionEqualCmpFunc_sigs_sig_ (.node (.node (.node (.node .nil 101 slices_partitionCmpFunc_sigs_sig_ .nil) 102 math_bits_Len32 .nil) 103 math_bits_Len64 (.node .nil 104 slices_siftDownCmpFunc_sigs_sig_ .nil)) 105 slices_nextPowerOfTwo (.node (.node (.node .nil 106 slices_xorshift_Next .nil) 107 slices_medianAdjacentCmpFunc_sigs_sig_ .nil) 108 slices_medianCmpFunc_sigs_sig_ (.node .nil 109 slices_order2CmpFunc_sigs_sig_ .nil))))))
theorem table_all : table.All Try.prog := ⟨wire_Reader_Key_1_t0, ⟨wire_Writer_Word_t0, ⟨landfallkit_SameBytes_t0, ⟨sigs_Table_Has_t0, ⟨sigs_New_t0, ⟨landfalllaw08_awake_t0, ⟨landfalllaw08_SigsKnown_t0, trivial, trivial⟩, trivial⟩, ⟨sigs_Table_Encode_t0, ⟨sigs_Table_Add_t0, trivial, trivial⟩, trivial⟩⟩, ⟨sigs_Table_List_t0, ⟨sigs_Table_Len_t0, ⟨sigs_Table_Who_t0, trivial, trivial⟩, trivial⟩, ⟨landfalllaw08_three_t0, trivial, trivial⟩⟩⟩, ⟨wire_NewWriter_t0, ⟨landfalllaw08_wrong_t0, ⟨landfalllaw08_sameKeys_t0, ⟨landfallkit_SameSigs_t0, trivial, trivial⟩, trivial⟩, ⟨sigs_Table_none_t0, ⟨sigs_Decode_t0, trivial, trivial⟩, trivial⟩⟩, ⟨wire_Writer_Key_t0, ⟨sigs_Table_sorted_t0, ⟨wire_Writer_Num_t0, trivial, trivial⟩, trivial⟩, ⟨wire_Writer_Hash_t0, trivial, trivial⟩⟩⟩⟩, ⟨wire_Writer_put_t0, ⟨wire_Reader_Key_t0, ⟨wire_NewReader_t0, ⟨sigs_Table_over_t0, ⟨wire_Writer_Done_t0, trivial, trivial⟩, trivial⟩, ⟨wire_Reader_Rest_t0, ⟨wire_Reader_Num_t0, trivial, trivial⟩, trivial⟩⟩, ⟨wire_Reader_End_t0, ⟨wire_Reader_Word_t0, ⟨wire_Reader_Hash_t0, trivial, trivial⟩, trivial⟩, ⟨sigs_sig_compare_t0, trivial, trivial⟩⟩⟩, ⟨slices_Clone___byte_byte__t0, ⟨maps_Keys_map_sigs_sig_sigs_held_sigs_sig_sigs_held__t0, ⟨slices_SortedFunc_sigs_sig__t0, ⟨wire_number_t0, trivial, trivial⟩, trivial⟩, ⟨wire_word_t0, trivial, trivial⟩⟩, ⟨wire_Reader_num_t0, ⟨wire_reads_int__t0, ⟨sigs_Table_over_1_t0, trivial, trivial⟩, trivial⟩, ⟨wire_reads_api_Key__t0, trivial, trivial⟩⟩⟩⟩⟩, ⟨cmp_isNaN_uint64__t0, ⟨cmp_Or_int__t0, ⟨wire_Reader_Hash_1_1_t0, ⟨wire_reads_api_Hash__t0, ⟨wire_Reader_Key_1_1_t0, ⟨wire_take_api_Key__t0, trivial, trivial⟩, trivial⟩, ⟨wire_take_api_Hash__t0, ⟨wire_Reader_Hash_1_t0, trivial, trivial⟩, trivial⟩⟩, ⟨wire_take_uint64__t0, ⟨wire_Reader_Word_1_t0, ⟨wire_reads_uint64__t0, trivial, trivial⟩, trivial⟩, ⟨wire_big_t0, trivial, trivial⟩⟩⟩, ⟨slices_SortFunc___sigs_sig_sigs_sig__t0, ⟨slices_Concat___byte_byte__t0, ⟨cmp_Compare_uint64__t0, ⟨bytes_Compare_t0, trivial, trivial⟩, trivial⟩, ⟨slices_Collect_sigs_sig__t0, trivial, trivial⟩⟩, ⟨wire_must_t0, ⟨wire_Reader_caught_t0, ⟨maps_Keys_map_sigs_sig_sigs_held_sigs_sig_sigs_held__1_t0, trivial, trivial⟩, trivial⟩, ⟨wire_Reader_num_1_t0, trivial, trivial⟩⟩⟩⟩, ⟨slices_partitionEqualCmpFunc_sigs_sig__t0, ⟨slices_heapSortCmpFunc_sigs_sig__t0, ⟨slices_pdqsortCmpFunc_sigs_sig__t0, ⟨slices_AppendSeq___sigs_sig_sigs_sig__t0, ⟨slices_Grow___byte_byte__t0, trivial, trivial⟩, trivial⟩, ⟨slices_insertionSortCmpFunc_sigs_sig__t0, ⟨math_bits_Len_t0, trivial, trivial⟩, trivial⟩⟩, ⟨slices_reverseRangeCmpFunc_sigs_sig__t0, ⟨slices_choosePivotCmpFunc_sigs_sig__t0, ⟨slices_breakPatternsCmpFunc_sigs_sig__t0, trivial, trivial⟩, trivial⟩, ⟨slices_partialInsertionSortCmpFunc_sigs_sig__t0, trivial, trivial⟩⟩⟩, ⟨slices_nextPowerOfTwo_t0, ⟨math_bits_Len64_t0, ⟨math_bits_Len32_t0, ⟨slices_partitionCmpFunc_sigs_sig__t0, trivial, trivial⟩, trivial⟩, ⟨slices_siftDownCmpFunc_sigs_sig__t0, trivial, trivial⟩⟩, ⟨slices_medianCmpFunc_sigs_sig__t0, ⟨slices_medianAdjacentCmpFunc_sigs_sig__t0, ⟨slices_xorshift_Next_t0, trivial, trivial⟩, trivial⟩, ⟨slices_order2CmpFunc_sigs_sig__t0, trivial, trivial⟩⟩⟩⟩⟩⟩
end Go.Proofs.Ytagmnpeilgnbdaa.R
