/- Functions of the program, as the machine has them: written by a program of mine (GenVm.lean), each held against the given program by the kernel. -/
import Derived.Test.YtcapkoclbmaahaaHHcp1
set_option maxRecDepth 100000
set_option linter.unusedVariables false
namespace Go.Proofs.Ytcapkoclbmaahaa.A
open Go Go.Vm

/-! 98 strings.IndexRune -/
abbrev fn_strings_IndexRune : FuncId := 98
noncomputable def strings_IndexRune_l0 : ACode :=
  (.seq (.region [
      ⟨(some 176), .nextStr (.tmp 175), none, [], false⟩,
      ⟨(some 177), .extract 0 (.tmp 176), none, [], false⟩]) (.seq (.cond (.tmp 177)
    .skip
    (.exit 9)) (.block 10 (.seq (.region [
      ⟨(some 178), .extract 1 (.tmp 176), none, [], false⟩,
      ⟨(some 179), .extract 2 (.tmp 176), none, [], false⟩,
      ⟨(some 5), .mov (.tmp 178), none, [], false⟩,
      ⟨(some 6), .mov (.tmp 179), none, [], false⟩]) (.seq (.region [
      ⟨(some 180), .mov (.tmp 6), none, [], false⟩,
      ⟨(some 181), .bin .eql (so (.binOp .eql 21 (.tmp 180) (.const (.int .i32 65533)) 21) 4) (.tmp 180) (.const (.int .i32 65533)), none, [], false⟩]) (.cond (.tmp 181)
    (.seq (.region [
      ⟨(some 182), .mov (.tmp 5), none, [], false⟩,
      ⟨(some 4), .mov (.tmp 182), none, [], false⟩]) .ret)
    .skip))))))
noncomputable def strings_IndexRune_l1 : ACode :=
  (.seq (.seq (.region [
      ⟨(some 48), .mov (.tmp 12), none, [], false⟩,
      ⟨(some 49), .mov (.tmp 7), none, [], false⟩,
      ⟨(some 50), .lenStr (.tmp 49), none, [], false⟩,
      ⟨(some 51), .bin .lss (so (.binOp .lss 3 (.tmp 48) (.tmp 50) 3) 4) (.tmp 48) (.tmp 50), none, [], false⟩]) (.cond (.tmp 51)
    .skip
    (.exit 3))) (.seq (.block 4 (.seq (.regionD [
      ⟨(some 54), .mov (.tmp 0), none, [], false⟩,
      ⟨(some 55), .mov (.tmp 9), none, [], false⟩,
      ⟨(some 56), .mov (.tmp 12), none, [], false⟩,
      ⟨(some 57), .bin .sub (so (.binOp .sub 3 (.tmp 55) (.tmp 56) 3) 3) (.tmp 55) (.tmp 56), none, [], false⟩,
      ⟨(some 58), .raw (so (.index 9 (.tmp 54) (.tmp 57)) 5), none, [], false⟩,
      ⟨(some 59), .mov (.tmp 7), none, [], false⟩,
      ⟨(some 60), .mov (.tmp 8), none, [], false⟩,
      ⟨(some 61), .mov (.tmp 12), none, [], false⟩,
      ⟨(some 62), .bin .sub (so (.binOp .sub 3 (.tmp 60) (.tmp 61) 3) 3) (.tmp 60) (.tmp 61), none, [], false⟩,
      ⟨(some 63), .raw (so (.index 9 (.tmp 59) (.tmp 62)) 5), none, [], false⟩,
      ⟨(some 64), .bin .neq (so (.binOp .neq 5 (.tmp 58) (.tmp 63) 5) 4) (.tmp 58) (.tmp 63), none, [], true⟩]) (.cond (.tmp 64)
    .stuck
    .skip))) (.region [
      ⟨(some 52), .mov (.tmp 12), none, [], false⟩,
      ⟨(some 53), .bin .add (so (.binOp .add 3 (.tmp 52) (.const (.int .i64 1)) 3) 3) (.tmp 52) (.const (.int .i64 1)), none, [], false⟩,
      ⟨(some 12), .mov (.tmp 53), none, [], false⟩])))
noncomputable def strings_IndexRune_l2 : ACode :=
  (.seq (.seq (.region [
      ⟨(some 23), .mov (.tmp 9), none, [], false⟩,
      ⟨(some 24), .mov (.tmp 0), none, [], false⟩,
      ⟨(some 25), .lenStr (.tmp 24), none, [], false⟩,
      ⟨(some 26), .bin .lss (so (.binOp .lss 3 (.tmp 23) (.tmp 25) 3) 4) (.tmp 23) (.tmp 25), none, [], false⟩]) (.cond (.tmp 26)
    .skip
    (.exit 1))) (.block 2 (.scope (.seq (.seq (.regionD [
      ⟨(some 27), .mov (.tmp 0), none, [], false⟩,
      ⟨(some 28), .mov (.tmp 9), none, [], false⟩,
      ⟨(some 29), .raw (so (.index 9 (.tmp 27) (.tmp 28)) 5), none, [], false⟩,
      ⟨(some 30), .mov (.tmp 7), none, [], false⟩,
      ⟨(some 31), .mov (.tmp 8), none, [], false⟩,
      ⟨(some 32), .raw (so (.index 9 (.tmp 30) (.tmp 31)) 5), none, [], false⟩,
      ⟨(some 33), .bin .neq (so (.binOp .neq 5 (.tmp 29) (.tmp 32) 5) 4) (.tmp 29) (.tmp 32), none, [], true⟩]) (.cond (.tmp 33)
    (.seq (.regionD [
      ⟨(some 34), .mov (.tmp 0), none, [], false⟩,
      ⟨(some 35), .mov (.tmp 9), none, [], false⟩,
      ⟨(some 36), .bin .add (so (.binOp .add 3 (.tmp 35) (.const (.int .i64 1)) 3) 3) (.tmp 35) (.const (.int .i64 1)), none, [], false⟩,
      ⟨(some 37), .sliceStr (.tmp 34) (some (.tmp 36)) none, none, [], false⟩,
      ⟨(some 38), .mov (.tmp 7), none, [], false⟩,
      ⟨(some 39), .mov (.tmp 8), none, [], false⟩,
      ⟨(some 40), .raw (so (.index 9 (.tmp 38) (.tmp 39)) 5), none, [], false⟩,
      ⟨(some 41), .callV (.func 103) [(.tmp 37), (.tmp 40)], none, [], true⟩,
      ⟨(some 11), .mov (.tmp 41), none, [], true⟩]) (.seq (.seq (.region [
      ⟨(some 42), .mov (.tmp 11), none, [], false⟩,
      ⟨(some 43), .bin .lss (so (.binOp .lss 3 (.tmp 42) (.const (.int .i64 0)) 3) 4) (.tmp 42) (.const (.int .i64 0)), none, [], false⟩]) (.cond (.tmp 43)
    (.seq (.region [
      ⟨(some 4), .mov (.const (.int .i64 (-1))), none, [], false⟩]) .ret)
    .skip)) (.region [
      ⟨(some 44), .mov (.tmp 9), none, [], false⟩,
      ⟨(some 45), .mov (.tmp 11), none, [], false⟩,
      ⟨(some 46), .bin .add (so (.binOp .add 3 (.tmp 45) (.const (.int .i64 1)) 3) 3) (.tmp 45) (.const (.int .i64 1)), none, [], false⟩,
      ⟨(some 47), .bin .add (so (.binOp .add 3 (.tmp 44) (.tmp 46) 3) 3) (.tmp 44) (.tmp 46), none, [], false⟩,
      ⟨(some 9), .mov (.tmp 47), none, [], false⟩])))
    .skip)) (.seq (.seq (.region [
      ⟨(some 12), .mov (.const (.int .i64 1)), none, [], false⟩]) (.block 3 (.loop strings_IndexRune_l1))) (.seq (.seq (.region [
      ⟨(some 65), .mov (.tmp 9), none, [], false⟩,
      ⟨(some 66), .mov (.tmp 8), none, [], false⟩,
      ⟨(some 67), .bin .sub (so (.binOp .sub 3 (.tmp 65) (.tmp 66) 3) 3) (.tmp 65) (.tmp 66), none, [], false⟩,
      ⟨(some 4), .mov (.tmp 67), none, [], false⟩]) .ret) (.seq .skip (.seq (.region [
      ⟨(some 68), .mov (.tmp 10), none, [], false⟩,
      ⟨(some 69), .bin .add (so (.binOp .add 3 (.tmp 68) (.const (.int .i64 1)) 3) 3) (.tmp 68) (.const (.int .i64 1)), none, [], false⟩,
      ⟨(some 10), .mov (.tmp 69), none, [], false⟩]) (.seq (.region [
      ⟨(some 70), .mov (.tmp 9), none, [], false⟩,
      ⟨(some 71), .bin .add (so (.binOp .add 3 (.tmp 70) (.const (.int .i64 1)) 3) 3) (.tmp 70) (.const (.int .i64 1)), none, [], false⟩,
      ⟨(some 9), .mov (.tmp 71), none, [], false⟩]) (.seq (.region [
      ⟨(some 72), .mov (.const (.bool true)), none, [], false⟩,
      ⟨(some 73), .mov (.tmp 10), (some (72, true)), [], false⟩,
      ⟨(some 74), .mov (.tmp 9), (some (72, true)), [], false⟩,
      ⟨(some 75), .callV (.func 105) [(.tmp 74)], (some (72, true)), [], false⟩,
      ⟨(some 76), .bin .gtr (so (.binOp .gtr 3 (.tmp 73) (.tmp 75) 3) 4) (.tmp 73) (.tmp 75), (some (72, true)), [], false⟩,
      ⟨(some 77), .pick (.tmp 72) (.tmp 76) (.const (.bool false)), none, [], false⟩,
      ⟨(some 78), .mov (.tmp 77), none, [], false⟩,
      ⟨(some 79), .mov (.tmp 9), (some (78, true)), [], false⟩,
      ⟨(some 80), .mov (.tmp 0), (some (78, true)), [], false⟩,
      ⟨(some 81), .lenStr (.tmp 80), (some (78, true)), [], false⟩,
      ⟨(some 82), .bin .lss (so (.binOp .lss 3 (.tmp 79) (.tmp 81) 3) 4) (.tmp 79) (.tmp 81), (some (78, true)), [], false⟩,
      ⟨(some 83), .pick (.tmp 78) (.tmp 82) (.const (.bool false)), none, [], false⟩,
      ⟨(some 84), .mov (.tmp 83), none, [], false⟩,
      ⟨(some 85), .mov (.const (.bool false)), (some (84, false)), [], false⟩,
      ⟨(some 86), .mov (.tmp 10), (some (85, true)), [], false⟩,
      ⟨(some 87), .mov (.tmp 9), (some (85, true)), [], false⟩,
      ⟨(some 88), .bin .shr (so (.binOp .shr 3 (.tmp 87) (.const (.int .u64 4)) 104) 3) (.tmp 87) (.const (.int .u64 4)), (some (85, true)), [], false⟩,
      ⟨(some 89), .bin .add (so (.binOp .add 3 (.const (.int .i64 4)) (.tmp 88) 3) 3) (.const (.int .i64 4)) (.tmp 88), (some (85, true)), [], false⟩,
      ⟨(some 90), .bin .geq (so (.binOp .geq 3 (.tmp 86) (.tmp 89) 3) 4) (.tmp 86) (.tmp 89), (some (85, true)), [], false⟩,
      ⟨(some 91), .pick (.tmp 85) (.tmp 90) (.const (.bool false)), (some (84, false)), [], false⟩,
      ⟨(some 92), .mov (.tmp 91), (some (84, false)), [], false⟩,
      ⟨(some 93), .mov (.tmp 9), (some (92, true)), [], false⟩,
      ⟨(some 94), .mov (.tmp 0), (some (92, true)), [], false⟩,
      ⟨(some 95), .lenStr (.tmp 94), (some (92, true)), [], false⟩,
      ⟨(some 96), .bin .lss (so (.binOp .lss 3 (.tmp 93) (.tmp 95) 3) 4) (.tmp 93) (.tmp 95), (some (92, true)), [], false⟩,
      ⟨(some 97), .pick (.tmp 92) (.tmp 96) (.const (.bool false)), (some (84, false)), [], false⟩,
      ⟨(some 98), .pick (.tmp 84) (.const (.bool true)) (.tmp 97), none, [], false⟩]) (.cond (.tmp 98)
    .stuck
    .skip)))))))))))
noncomputable def strings_IndexRune_l3 : ACode :=
  (.seq (.seq (.region [
      ⟨(some 140), .mov (.tmp 16), none, [], false⟩,
      ⟨(some 141), .mov (.tmp 7), none, [], false⟩,
      ⟨(some 142), .lenStr (.tmp 141), none, [], false⟩,
      ⟨(some 143), .bin .lss (so (.binOp .lss 3 (.tmp 140) (.tmp 142) 3) 4) (.tmp 140) (.tmp 142), none, [], false⟩]) (.cond (.tmp 143)
    .skip
    (.exit 7))) (.seq (.block 8 (.seq (.regionD [
      ⟨(some 146), .mov (.tmp 0), none, [], false⟩,
      ⟨(some 147), .mov (.tmp 9), none, [], false⟩,
      ⟨(some 148), .mov (.tmp 16), none, [], false⟩,
      ⟨(some 149), .bin .sub (so (.binOp .sub 3 (.tmp 147) (.tmp 148) 3) 3) (.tmp 147) (.tmp 148), none, [], false⟩,
      ⟨(some 150), .raw (so (.index 9 (.tmp 146) (.tmp 149)) 5), none, [], false⟩,
      ⟨(some 151), .mov (.tmp 7), none, [], false⟩,
      ⟨(some 152), .mov (.tmp 8), none, [], false⟩,
      ⟨(some 153), .mov (.tmp 16), none, [], false⟩,
      ⟨(some 154), .bin .sub (so (.binOp .sub 3 (.tmp 152) (.tmp 153) 3) 3) (.tmp 152) (.tmp 153), none, [], false⟩,
      ⟨(some 155), .raw (so (.index 9 (.tmp 151) (.tmp 154)) 5), none, [], false⟩,
      ⟨(some 156), .bin .neq (so (.binOp .neq 5 (.tmp 150) (.tmp 155) 5) 4) (.tmp 150) (.tmp 155), none, [], true⟩]) (.cond (.tmp 156)
    (.exit 6)
    .skip))) (.region [
      ⟨(some 144), .mov (.tmp 16), none, [], false⟩,
      ⟨(some 145), .bin .add (so (.binOp .add 3 (.tmp 144) (.const (.int .i64 1)) 3) 3) (.tmp 144) (.const (.int .i64 1)), none, [], false⟩,
      ⟨(some 16), .mov (.tmp 145), none, [], false⟩])))
noncomputable def strings_IndexRune_l4 : ACode :=
  (.seq (.seq (.region [
      ⟨(some 121), .mov (.tmp 9), none, [], false⟩,
      ⟨(some 122), .mov (.tmp 0), none, [], false⟩,
      ⟨(some 123), .lenStr (.tmp 122), none, [], false⟩,
      ⟨(some 124), .bin .lss (so (.binOp .lss 3 (.tmp 121) (.tmp 123) 3) 4) (.tmp 121) (.tmp 123), none, [], false⟩]) (.cond (.tmp 124)
    .skip
    (.exit 5))) (.seq (.block 6 (.seq (.region [
      ⟨(some 127), .mov (.tmp 0), none, [], false⟩,
      ⟨(some 128), .mov (.tmp 9), none, [], false⟩,
      ⟨(some 129), .raw (so (.index 9 (.tmp 127) (.tmp 128)) 5), none, [], false⟩,
      ⟨(some 130), .mov (.tmp 14), none, [], false⟩,
      ⟨(some 131), .bin .eql (so (.binOp .eql 5 (.tmp 129) (.tmp 130) 5) 4) (.tmp 129) (.tmp 130), none, [], false⟩,
      ⟨(some 132), .mov (.tmp 131), none, [], false⟩,
      ⟨(some 133), .mov (.tmp 0), (some (132, true)), [], false⟩,
      ⟨(some 134), .mov (.tmp 9), (some (132, true)), [], false⟩,
      ⟨(some 135), .bin .sub (so (.binOp .sub 3 (.tmp 134) (.const (.int .i64 1)) 3) 3) (.tmp 134) (.const (.int .i64 1)), (some (132, true)), [], false⟩,
      ⟨(some 136), .raw (so (.index 9 (.tmp 133) (.tmp 135)) 5), (some (132, true)), [], false⟩,
      ⟨(some 137), .mov (.tmp 15), (some (132, true)), [], false⟩,
      ⟨(some 138), .bin .eql (so (.binOp .eql 5 (.tmp 136) (.tmp 137) 5) 4) (.tmp 136) (.tmp 137), (some (132, true)), [], false⟩,
      ⟨(some 139), .pick (.tmp 132) (.tmp 138) (.const (.bool false)), none, [], false⟩]) (.cond (.tmp 139)
    (.seq (.seq (.region [
      ⟨(some 16), .mov (.const (.int .i64 2)), none, [], false⟩]) (.block 7 (.loop strings_IndexRune_l3))) (.seq (.region [
      ⟨(some 157), .mov (.tmp 9), none, [], false⟩,
      ⟨(some 158), .mov (.tmp 8), none, [], false⟩,
      ⟨(some 159), .bin .sub (so (.binOp .sub 3 (.tmp 157) (.tmp 158) 3) 3) (.tmp 157) (.tmp 158), none, [], false⟩,
      ⟨(some 4), .mov (.tmp 159), none, [], false⟩]) .ret))
    .skip))) (.region [
      ⟨(some 125), .mov (.tmp 9), none, [], false⟩,
      ⟨(some 126), .bin .add (so (.binOp .add 3 (.tmp 125) (.const (.int .i64 1)) 3) 3) (.tmp 125) (.const (.int .i64 1)), none, [], false⟩,
      ⟨(some 9), .mov (.tmp 126), none, [], false⟩])))
noncomputable def strings_IndexRune_c : ACode :=
  (.seq (.region [
      ⟨(some 4), .mov (.const (.int .i64 0)), none, [], false⟩]) (.block 0 (.seq (.region [
      ⟨(some 161), .mov (.tmp 1), none, [], false⟩,
      ⟨(some 162), .bin .leq (so (.binOp .leq 21 (.const (.int .i32 0)) (.tmp 161) 21) 4) (.const (.int .i32 0)) (.tmp 161), none, [], false⟩,
      ⟨(some 163), .mov (.tmp 162), none, [], false⟩,
      ⟨(some 164), .mov (.tmp 1), (some (163, true)), [], false⟩,
      ⟨(some 165), .bin .lss (so (.binOp .lss 21 (.tmp 164) (.const (.int .i32 128)) 21) 4) (.tmp 164) (.const (.int .i32 128)), (some (163, true)), [], false⟩,
      ⟨(some 166), .pick (.tmp 163) (.tmp 165) (.const (.bool false)), none, [], false⟩,
      ⟨(some 160), .mov (.tmp 166), none, [], false⟩]) (.cond (.tmp 160)
    (.seq (.region [
      ⟨(some 167), .mov (.tmp 0), none, [], false⟩,
      ⟨(some 168), .mov (.tmp 1), none, [], false⟩,
      ⟨(some 169), .conv .u8 (so (.convert 21 5 (.tmp 168)) 5) (.tmp 168), none, [], false⟩,
      ⟨(some 170), .callV (.func 103) [(.tmp 167), (.tmp 169)], none, [], false⟩,
      ⟨(some 4), .mov (.tmp 170), none, [], false⟩]) .ret)
    (.seq (.region [
      ⟨(some 172), .mov (.tmp 1), none, [], false⟩,
      ⟨(some 173), .bin .eql (so (.binOp .eql 21 (.tmp 172) (.const (.int .i32 65533)) 21) 4) (.tmp 172) (.const (.int .i32 65533)), none, [], false⟩,
      ⟨(some 171), .mov (.tmp 173), none, [], false⟩]) (.cond (.tmp 171)
    (.seq (.seq (.region [
      ⟨(some 174), .mov (.tmp 0), none, [], false⟩,
      ⟨(some 175), .rangeStr (.tmp 174), none, [], false⟩]) (.block 9 (.loop strings_IndexRune_l0))) (.seq (.region [
      ⟨(some 4), .mov (.const (.int .i64 (-1))), none, [], false⟩]) .ret))
    (.seq (.region [
      ⟨(some 184), .mov (.tmp 1), none, [], false⟩,
      ⟨(some 185), .callV (.func 104) [(.tmp 184)], none, [], false⟩,
      ⟨(some 186), .raw (so (.unOp .not 4 (.tmp 185)) 4), none, [], false⟩,
      ⟨(some 183), .mov (.tmp 186), none, [], false⟩]) (.cond (.tmp 183)
    (.seq (.region [
      ⟨(some 4), .mov (.const (.int .i64 (-1))), none, [], false⟩]) .ret)
    (.scope (.seq (.region [
      ⟨(some 17), .mov (.tmp 1), none, [], false⟩,
      ⟨(some 18), .raw (so (.convert 21 9 (.tmp 17)) 9), none, [], false⟩,
      ⟨(some 7), .mov (.tmp 18), none, [], false⟩]) (.seq (.region [
      ⟨(some 19), .mov (.tmp 7), none, [], false⟩,
      ⟨(some 20), .lenStr (.tmp 19), none, [], false⟩,
      ⟨(some 21), .bin .sub (so (.binOp .sub 3 (.tmp 20) (.const (.int .i64 1)) 3) 3) (.tmp 20) (.const (.int .i64 1)), none, [], false⟩,
      ⟨(some 8), .mov (.tmp 21), none, [], false⟩]) (.seq (.region [
      ⟨(some 22), .mov (.tmp 8), none, [], false⟩,
      ⟨(some 9), .mov (.tmp 22), none, [], false⟩]) (.seq (.region [
      ⟨(some 10), .mov (.const (.int .i64 0)), none, [], false⟩]) (.seq (.block 1 (.loop strings_IndexRune_l2)) (.seq (.seq (.region [
      ⟨(some 4), .mov (.const (.int .i64 (-1))), none, [], false⟩]) .ret) (.seq .skip (.seq (.cond (.const (.bool true))
    (.seq (.region [
      ⟨(some 99), .mov (.tmp 0), none, [], false⟩,
      ⟨(some 100), .mov (.tmp 9), none, [], false⟩,
      ⟨(some 101), .mov (.tmp 8), none, [], false⟩,
      ⟨(some 102), .bin .sub (so (.binOp .sub 3 (.tmp 100) (.tmp 101) 3) 3) (.tmp 100) (.tmp 101), none, [], false⟩,
      ⟨(some 103), .sliceStr (.tmp 99) (some (.tmp 102)) none, none, [], false⟩,
      ⟨(some 104), .mov (.tmp 1), none, [], false⟩,
      ⟨(some 105), .raw (so (.convert 21 9 (.tmp 104)) 9), none, [], false⟩,
      ⟨(some 106), .callV (.func 106) [(.tmp 103), (.tmp 105)], none, [], false⟩,
      ⟨(some 13), .mov (.tmp 106), none, [], false⟩]) (.seq (.region [
      ⟨(some 107), .mov (.tmp 13), none, [], false⟩,
      ⟨(some 108), .bin .geq (so (.binOp .geq 3 (.tmp 107) (.const (.int .i64 0)) 3) 4) (.tmp 107) (.const (.int .i64 0)), none, [], false⟩]) (.cond (.tmp 108)
    (.seq (.region [
      ⟨(some 109), .mov (.tmp 9), none, [], false⟩,
      ⟨(some 110), .mov (.tmp 13), none, [], false⟩,
      ⟨(some 111), .bin .add (so (.binOp .add 3 (.tmp 109) (.tmp 110) 3) 3) (.tmp 109) (.tmp 110), none, [], false⟩,
      ⟨(some 112), .mov (.tmp 8), none, [], false⟩,
      ⟨(some 113), .bin .sub (so (.binOp .sub 3 (.tmp 111) (.tmp 112) 3) 3) (.tmp 111) (.tmp 112), none, [], false⟩,
      ⟨(some 4), .mov (.tmp 113), none, [], false⟩]) .ret)
    .skip)))
    (.scope (.seq (.region [
      ⟨(some 114), .mov (.tmp 7), none, [], false⟩,
      ⟨(some 115), .mov (.tmp 8), none, [], false⟩,
      ⟨(some 116), .raw (so (.index 9 (.tmp 114) (.tmp 115)) 5), none, [], false⟩,
      ⟨(some 14), .mov (.tmp 116), none, [], false⟩]) (.seq (.region [
      ⟨(some 117), .mov (.tmp 7), none, [], false⟩,
      ⟨(some 118), .mov (.tmp 8), none, [], false⟩,
      ⟨(some 119), .bin .sub (so (.binOp .sub 3 (.tmp 118) (.const (.int .i64 1)) 3) 3) (.tmp 118) (.const (.int .i64 1)), none, [], false⟩,
      ⟨(some 120), .raw (so (.index 9 (.tmp 117) (.tmp 119)) 5), none, [], false⟩,
      ⟨(some 15), .mov (.tmp 120), none, [], false⟩]) (.seq .skip (.block 5 (.loop strings_IndexRune_l4))))))) (.seq (.region [
      ⟨(some 4), .mov (.const (.int .i64 (-1))), none, [], false⟩]) .ret))))))))))))))))))
noncomputable def strings_IndexRune : AFunc := ⟨187, [(4, none)], strings_IndexRune_c, none⟩
theorem strings_IndexRune_t0 : tableOf Try.prog 98 = some strings_IndexRune := by kernel_rfl
theorem strings_IndexRune_t : T0 98 = some strings_IndexRune := withKept_t rfl (withTrue_t rfl strings_IndexRune_t0)
theorem strings_IndexRune_runs {v0 v1 : Value} {h : Heap} {R : RP} {X : XP} (k : RunC Try.prog T0 strings_IndexRune_c ⟨[v0, v1, undef, undef, undef, undef, undef, undef, undef, undef, undef, undef, undef, undef, undef, undef, undef, undef, undef, undef, undef, undef, undef, undef, undef, undef, undef, undef, undef, undef, undef, undef, undef, undef, undef, undef, undef, undef, undef, undef, undef, undef, undef, undef, undef, undef, undef, undef, undef, undef, undef, undef, undef, undef, undef, undef, undef, undef, undef, undef, undef, undef, undef, undef, undef, undef, undef, undef, undef, undef, undef, undef, undef, undef, undef, undef, undef, undef, undef, undef, undef, undef, undef, undef, undef, undef, undef, undef, undef, undef, undef, undef, undef, undef, undef, undef, undef, undef, undef, undef, undef, undef, undef, undef, undef, undef, undef, undef, undef, undef, undef, undef, undef, undef, undef, undef, undef, undef, undef, undef, undef, undef, undef, undef, undef, undef, undef, undef, undef, undef, undef, undef, undef, undef, undef, undef, undef, undef, undef, undef, undef, undef, undef, undef, undef, undef, undef, undef, undef, undef, undef, undef, undef, undef, undef, undef, undef, undef, undef, undef, undef, undef, undef, undef, undef, undef, undef, undef, undef, undef, undef, undef, undef, undef, undef, undef, undef, undef, undef, undef, undef, undef, undef, undef, undef, undef, undef], [], h, none⟩ (bodyQ Try.prog T0 [(4, none)] R X)) :
    Runs Try.prog T0 (.fn 98) [v0, v1] h R X := Runs.fn strings_IndexRune_t rfl k
/-! 99 landfall/blake.mix -/
abbrev fn_blake_mix : FuncId := 99
noncomputable def blake_mix_c : ACode :=
  (.seq (.region [
      ⟨(some 3), .box 135 (.tmp 0), none, [], false⟩]) (.seq (.regionD [
      ⟨(some 10), .indexArr 4 1 (.tmp 3) (.const (.int .i64 0)), none, [], false⟩,
      ⟨(some 11), .load none (.tmp 10), none, [], false⟩,
      ⟨(some 12), .indexArr 4 1 (.tmp 3) (.const (.int .i64 1)), none, [], false⟩,
      ⟨(some 13), .load none (.tmp 12), none, [], false⟩,
      ⟨(some 14), .indexArr 4 1 (.tmp 3) (.const (.int .i64 2)), none, [], false⟩,
      ⟨(some 15), .load none (.tmp 14), none, [], false⟩,
      ⟨(some 16), .indexArr 4 1 (.tmp 3) (.const (.int .i64 3)), none, [], false⟩,
      ⟨(some 17), .load none (.tmp 16), none, [], false⟩,
      ⟨(some 6), .mov (.tmp 11), none, [], false⟩,
      ⟨(some 7), .mov (.tmp 13), none, [], false⟩,
      ⟨(some 8), .mov (.tmp 15), none, [], false⟩,
      ⟨(some 9), .mov (.tmp 17), none, [], true⟩]) (.seq (.regionD [
      ⟨(some 18), .mov (.tmp 6), none, [], false⟩,
      ⟨(some 19), .nilCheck (.tmp 18), none, [], false⟩,
      ⟨(some 20), .load none (.tmp 19), none, [], false⟩,
      ⟨(some 21), .mov (.tmp 7), none, [], false⟩,
      ⟨(some 22), .nilCheck (.tmp 21), none, [], false⟩,
      ⟨(some 23), .load none (.tmp 22), none, [], false⟩,
      ⟨(some 24), .mov (.tmp 1), none, [], false⟩,
      ⟨(some 25), .bin .add (so (.binOp .add 100 (.tmp 23) (.tmp 24) 100) 100) (.tmp 23) (.tmp 24), none, [], false⟩,
      ⟨(some 26), .bin .add (so (.binOp .add 100 (.tmp 20) (.tmp 25) 100) 100) (.tmp 20) (.tmp 25), none, [], true⟩,
      ⟨(some 27), .nilCheck (.tmp 18), none, [], true⟩,
      ⟨none, .store 1 (.tmp 27) (.tmp 26), none, [], true⟩]) (.seq (.regionD [
      ⟨(some 28), .mov (.tmp 9), none, [], false⟩,
      ⟨(some 29), .mov (.tmp 9), none, [], false⟩,
      ⟨(some 30), .nilCheck (.tmp 29), none, [], false⟩,
      ⟨(some 31), .load none (.tmp 30), none, [], false⟩,
      ⟨(some 32), .mov (.tmp 6), none, [], false⟩,
      ⟨(some 33), .nilCheck (.tmp 32), none, [], false⟩,
      ⟨(some 34), .load none (.tmp 33), none, [], false⟩,
      ⟨(some 35), .bin .xor (so (.binOp .xor 100 (.tmp 31) (.tmp 34) 100) 100) (.tmp 31) (.tmp 34), none, [], false⟩,
      ⟨(some 36), .callV (.func 107) [(.tmp 35), (.const (.int .i64 (-16)))], none, [((some 28), .mov (.tmp 9), none)], false⟩,
      ⟨(some 37), .nilCheck (.tmp 28), none, [], true⟩,
      ⟨none, .store 1 (.tmp 37) (.tmp 36), none, [], true⟩]) (.seq (.regionD [
      ⟨(some 38), .mov (.tmp 8), none, [], false⟩,
      ⟨(some 39), .nilCheck (.tmp 38), none, [], false⟩,
      ⟨(some 40), .load none (.tmp 39), none, [], false⟩,
      ⟨(some 41), .mov (.tmp 9), none, [], false⟩,
      ⟨(some 42), .nilCheck (.tmp 41), none, [], false⟩,
      ⟨(some 43), .load none (.tmp 42), none, [], false⟩,
      ⟨(some 44), .bin .add (so (.binOp .add 100 (.tmp 40) (.tmp 43) 100) 100) (.tmp 40) (.tmp 43), none, [], true⟩,
      ⟨(some 45), .nilCheck (.tmp 38), none, [], true⟩,
      ⟨none, .store 1 (.tmp 45) (.tmp 44), none, [], true⟩]) (.seq (.regionD [
      ⟨(some 46), .mov (.tmp 7), none, [], false⟩,
      ⟨(some 47), .mov (.tmp 7), none, [], false⟩,
      ⟨(some 48), .nilCheck (.tmp 47), none, [], false⟩,
      ⟨(some 49), .load none (.tmp 48), none, [], false⟩,
      ⟨(some 50), .mov (.tmp 8), none, [], false⟩,
      ⟨(some 51), .nilCheck (.tmp 50), none, [], false⟩,
      ⟨(some 52), .load none (.tmp 51), none, [], false⟩,
      ⟨(some 53), .bin .xor (so (.binOp .xor 100 (.tmp 49) (.tmp 52) 100) 100) (.tmp 49) (.tmp 52), none, [], false⟩,
      ⟨(some 54), .callV (.func 107) [(.tmp 53), (.const (.int .i64 (-12)))], none, [((some 46), .mov (.tmp 7), none)], false⟩,
      ⟨(some 55), .nilCheck (.tmp 46), none, [], true⟩,
      ⟨none, .store 1 (.tmp 55) (.tmp 54), none, [], true⟩]) (.seq (.regionD [
      ⟨(some 56), .mov (.tmp 6), none, [], false⟩,
      ⟨(some 57), .nilCheck (.tmp 56), none, [], false⟩,
      ⟨(some 58), .load none (.tmp 57), none, [], false⟩,
      ⟨(some 59), .mov (.tmp 7), none, [], false⟩,
      ⟨(some 60), .nilCheck (.tmp 59), none, [], false⟩,
      ⟨(some 61), .load none (.tmp 60), none, [], false⟩,
      ⟨(some 62), .mov (.tmp 2), none, [], false⟩,
      ⟨(some 63), .bin .add (so (.binOp .add 100 (.tmp 61) (.tmp 62) 100) 100) (.tmp 61) (.tmp 62), none, [], false⟩,
      ⟨(some 64), .bin .add (so (.binOp .add 100 (.tmp 58) (.tmp 63) 100) 100) (.tmp 58) (.tmp 63), none, [], true⟩,
      ⟨(some 65), .nilCheck (.tmp 56), none, [], true⟩,
      ⟨none, .store 1 (.tmp 65) (.tmp 64), none, [], true⟩]) (.seq (.regionD [
      ⟨(some 66), .mov (.tmp 9), none, [], false⟩,
      ⟨(some 67), .mov (.tmp 9), none, [], false⟩,
      ⟨(some 68), .nilCheck (.tmp 67), none, [], false⟩,
      ⟨(some 69), .load none (.tmp 68), none, [], false⟩,
      ⟨(some 70), .mov (.tmp 6), none, [], false⟩,
      ⟨(some 71), .nilCheck (.tmp 70), none, [], false⟩,
      ⟨(some 72), .load none (.tmp 71), none, [], false⟩,
      ⟨(some 73), .bin .xor (so (.binOp .xor 100 (.tmp 69) (.tmp 72) 100) 100) (.tmp 69) (.tmp 72), none, [], false⟩,
      ⟨(some 74), .callV (.func 107) [(.tmp 73), (.const (.int .i64 (-8)))], none, [((some 66), .mov (.tmp 9), none)], false⟩,
      ⟨(some 75), .nilCheck (.tmp 66), none, [], true⟩,
      ⟨none, .store 1 (.tmp 75) (.tmp 74), none, [], true⟩]) (.seq (.regionD [
      ⟨(some 76), .mov (.tmp 8), none, [], false⟩,
      ⟨(some 77), .nilCheck (.tmp 76), none, [], false⟩,
      ⟨(some 78), .load none (.tmp 77), none, [], false⟩,
      ⟨(some 79), .mov (.tmp 9), none, [], false⟩,
      ⟨(some 80), .nilCheck (.tmp 79), none, [], false⟩,
      ⟨(some 81), .load none (.tmp 80), none, [], false⟩,
      ⟨(some 82), .bin .add (so (.binOp .add 100 (.tmp 78) (.tmp 81) 100) 100) (.tmp 78) (.tmp 81), none, [], true⟩,
      ⟨(some 83), .nilCheck (.tmp 76), none, [], true⟩,
      ⟨none, .store 1 (.tmp 83) (.tmp 82), none, [], true⟩]) (.regionD [
      ⟨(some 84), .mov (.tmp 7), none, [], false⟩,
      ⟨(some 85), .mov (.tmp 7), none, [], false⟩,
      ⟨(some 86), .nilCheck (.tmp 85), none, [], false⟩,
      ⟨(some 87), .load none (.tmp 86), none, [], false⟩,
      ⟨(some 88), .mov (.tmp 8), none, [], false⟩,
      ⟨(some 89), .nilCheck (.tmp 88), none, [], false⟩,
      ⟨(some 90), .load none (.tmp 89), none, [], false⟩,
      ⟨(some 91), .bin .xor (so (.binOp .xor 100 (.tmp 87) (.tmp 90) 100) 100) (.tmp 87) (.tmp 90), none, [], false⟩,
      ⟨(some 92), .callV (.func 107) [(.tmp 91), (.const (.int .i64 (-7)))], none, [((some 84), .mov (.tmp 7), none)], false⟩,
      ⟨(some 93), .nilCheck (.tmp 84), none, [], true⟩,
      ⟨none, .store 1 (.tmp 93) (.tmp 92), none, [], true⟩]))))))))))
noncomputable def blake_mix : AFunc := ⟨94, [], blake_mix_c, none⟩
theorem blake_mix_t0 : tableOf Try.prog 99 = some blake_mix := by kernel_rfl
theorem blake_mix_t : T0 99 = some blake_mix := withKept_t rfl (withTrue_t rfl blake_mix_t0)
theorem blake_mix_runs {v0 v1 v2 : Value} {h : Heap} {R : RP} {X : XP} (k : RunC Try.prog T0 blake_mix_c ⟨[v0, v1, v2, undef, undef, undef, undef, undef, undef, undef, undef, undef, undef, undef, undef, undef, undef, undef, undef, undef, undef, undef, undef, undef, undef, undef, undef, undef, undef, undef, undef, undef, undef, undef, undef, undef, undef, undef, undef, undef, undef, undef, undef, undef, undef, undef, undef, undef, undef, undef, undef, undef, undef, undef, undef, undef, undef, undef, undef, undef, undef, undef, undef, undef, undef, undef, undef, undef, undef, undef, undef, undef, undef, undef, undef, undef, undef, undef, undef, undef, undef, undef, undef, undef, undef, undef, undef, undef, undef, undef, undef, undef, undef, undef], [], h, none⟩ (bodyQ Try.prog T0 [] R X)) :
    Runs Try.prog T0 (.fn 99) [v0, v1, v2] h R X := Runs.fn blake_mix_t rfl k


/-! 100 (*landfall/blake.counter).Len -/
abbrev fn_blake_counter_Len : FuncId := 100
noncomputable def blake_counter_Len_c : ACode :=
  (.seq (.region [
      ⟨(some 2), .mov (.const (.int .i64 0)), none, [], false⟩]) (.seq (.seq (.region [
      ⟨(some 3), .mov (.tmp 0), none, [], false⟩,
      ⟨(some 4), .eq .ptr false (so (.binOp .eql 107 (.tmp 3) (.const (.pointer none)) 107) 4) (.tmp 3) (.const (.pointer none)), none, [], false⟩]) (.cond (.tmp 4)
    (.seq (.region [
      ⟨(some 2), .mov (.const (.int .i64 0)), none, [], false⟩]) .ret)
    .skip)) (.seq (.region [
      ⟨(some 5), .mov (.tmp 0), none, [], false⟩,
      ⟨(some 6), .nilCheck (.tmp 5), none, [], false⟩,
      ⟨(some 7), .fieldAddr 0 (.tmp 6), none, [], false⟩,
      ⟨(some 8), .load none (.tmp 7), none, [], false⟩,
      ⟨(some 2), .mov (.tmp 8), none, [], false⟩]) .ret)))
noncomputable def blake_counter_Len : AFunc := ⟨9, [(2, none)], blake_counter_Len_c, none⟩
theorem blake_counter_Len_t0 : tableOf Try.prog 100 = some blake_counter_Len := by kernel_rfl
theorem blake_counter_Len_t : T0 100 = some blake_counter_Len := withKept_t rfl (withTrue_t rfl blake_counter_Len_t0)
theorem blake_counter_Len_runs {v0 : Value} {h : Heap} {R : RP} {X : XP} (k : RunC Try.prog T0 blake_counter_Len_c ⟨[v0, undef, undef, undef, undef, undef, undef, undef, undef], [], h, none⟩ (bodyQ Try.prog T0 [(2, none)] R X)) :
    Runs Try.prog T0 (.fn 100) [v0] h R X := Runs.fn blake_counter_Len_t rfl k


/-! 101 slices.Grow[[]byte,byte] -/
abbrev fn_slices_Grow___byte_byte_ : FuncId := 101
noncomputable def slices_Grow___byte_byte__c : ACode :=
  (.seq (.region [
      ⟨(some 4), .mov (.const (.slice none 0 0)), none, [], false⟩]) (.seq (.seq (.region [
      ⟨(some 5), .mov (.tmp 1), none, [], false⟩,
      ⟨(some 6), .bin .lss (so (.binOp .lss 3 (.tmp 5) (.const (.int .i64 0)) 3) 4) (.tmp 5) (.const (.int .i64 0)), none, [], false⟩]) (.cond (.tmp 6)
    (.region [
      ⟨(some 7), .mkIface 9 (.const (.string ⟨⟨[99, 97, 110, 110, 111, 116, 32, 98, 101, 32, 110, 101, 103, 97, 116, 105, 118, 101]⟩⟩)), none, [], false⟩,
      ⟨none, .panic (.tmp 7), none, [], false⟩])
    .skip)) (.seq (.seq (.region [
      ⟨(some 8), .mov (.tmp 1), none, [], false⟩,
      ⟨(some 9), .mov (.tmp 0), none, [], false⟩,
      ⟨(some 10), .cap (.tmp 9), none, [], false⟩,
      ⟨(some 11), .mov (.tmp 0), none, [], false⟩,
      ⟨(some 12), .lenSl (.tmp 11), none, [], false⟩,
      ⟨(some 13), .bin .sub (so (.binOp .sub 3 (.tmp 10) (.tmp 12) 3) 3) (.tmp 10) (.tmp 12), none, [], false⟩,
      ⟨(some 14), .bin .sub (so (.binOp .sub 3 (.tmp 8) (.tmp 13) 3) 3) (.tmp 8) (.tmp 13), none, [], false⟩,
      ⟨(some 1), .mov (.tmp 14), none, [], false⟩]) (.seq (.region [
      ⟨(some 15), .mov (.tmp 1), none, [], false⟩,
      ⟨(some 16), .bin .gtr (so (.binOp .gtr 3 (.tmp 15) (.const (.int .i64 0)) 3) 4) (.tmp 15) (.const (.int .i64 0)), none, [], false⟩]) (.cond (.tmp 16)
    (.region [
      ⟨(some 17), .mov (.tmp 0), none, [], false⟩,
      ⟨(some 18), .mov (.tmp 0), none, [], false⟩,
      ⟨(some 19), .cap (.tmp 18), none, [], false⟩,
      ⟨(some 20), .sliceSl 1 (.tmp 17) none (some (.tmp 19)) none, none, [], false⟩,
      ⟨(some 21), .mov (.tmp 1), none, [], false⟩,
      ⟨(some 22), .append 5 1 1 [(.int .u8 0)] true (.tmp 20) (.tmp 21), none, [], false⟩,
      ⟨(some 23), .mov (.tmp 0), none, [], false⟩,
      ⟨(some 24), .lenSl (.tmp 23), none, [], false⟩,
      ⟨(some 25), .sliceSl 1 (.tmp 22) none (some (.tmp 24)) none, none, [], false⟩,
      ⟨(some 0), .mov (.tmp 25), none, [], false⟩])
    .skip))) (.seq (.region [
      ⟨(some 26), .mov (.tmp 0), none, [], false⟩,
      ⟨(some 4), .mov (.tmp 26), none, [], false⟩]) .ret))))
noncomputable def slices_Grow___byte_byte_ : AFunc := ⟨27, [(4, none)], slices_Grow___byte_byte__c, none⟩
theorem slices_Grow___byte_byte__t0 : tableOf Try.prog 101 = some slices_Grow___byte_byte_ := by kernel_rfl
theorem slices_Grow___byte_byte__t : T0 101 = some slices_Grow___byte_byte_ := withKept_t rfl (withTrue_t rfl slices_Grow___byte_byte__t0)
theorem slices_Grow___byte_byte__runs {v0 v1 : Value} {h : Heap} {R : RP} {X : XP} (k : RunC Try.prog T0 slices_Grow___byte_byte__c ⟨[v0, v1, undef, undef, undef, undef, undef, undef, undef, undef, undef, undef, undef, undef, undef, undef, undef, undef, undef, undef, undef, undef, undef, undef, undef, undef, undef], [], h, none⟩ (bodyQ Try.prog T0 [(4, none)] R X)) :
    Runs Try.prog T0 (.fn 101) [v0, v1] h R X := Runs.fn slices_Grow___byte_byte__t rfl k


/-! 103 strings.IndexByte -/
abbrev fn_strings_IndexByte : FuncId := 103
noncomputable def strings_IndexByte_c : ACode :=
  (.seq (.region [
      ⟨(some 4), .mov (.const (.int .i64 0)), none, [], false⟩]) (.seq (.region [
      ⟨(some 5), .mov (.tmp 0), none, [], false⟩,
      ⟨(some 6), .mov (.tmp 1), none, [], false⟩,
      ⟨(some 7), .callV (.func 108) [(.tmp 5), (.tmp 6)], none, [], false⟩,
      ⟨(some 4), .mov (.tmp 7), none, [], false⟩]) .ret))
noncomputable def strings_IndexByte : AFunc := ⟨8, [(4, none)], strings_IndexByte_c, none⟩
theorem strings_IndexByte_t0 : tableOf Try.prog 103 = some strings_IndexByte := by kernel_rfl
theorem strings_IndexByte_t : T0 103 = some strings_IndexByte := withKept_t rfl (withTrue_t rfl strings_IndexByte_t0)
theorem strings_IndexByte_runs {v0 v1 : Value} {h : Heap} {R : RP} {X : XP} (k : RunC Try.prog T0 strings_IndexByte_c ⟨[v0, v1, undef, undef, undef, undef, undef, undef], [], h, none⟩ (bodyQ Try.prog T0 [(4, none)] R X)) :
    Runs Try.prog T0 (.fn 103) [v0, v1] h R X := Runs.fn strings_IndexByte_t rfl k


/-! 104 unicode/utf8.ValidRune -/
abbrev fn_unicode_utf8_ValidRune : FuncId := 104
noncomputable def unicode_utf8_ValidRune_c : ACode :=
  (.seq (.region [
      ⟨(some 2), .mov (.const (.bool false)), none, [], false⟩]) (.seq (.block 0 (.seq (.region [
      ⟨(some 4), .mov (.tmp 0), none, [], false⟩,
      ⟨(some 5), .bin .leq (so (.binOp .leq 21 (.const (.int .i32 0)) (.tmp 4) 21) 4) (.const (.int .i32 0)) (.tmp 4), none, [], false⟩,
      ⟨(some 6), .mov (.tmp 5), none, [], false⟩,
      ⟨(some 7), .mov (.tmp 0), (some (6, true)), [], false⟩,
      ⟨(some 8), .bin .lss (so (.binOp .lss 21 (.tmp 7) (.const (.int .i32 55296)) 21) 4) (.tmp 7) (.const (.int .i32 55296)), (some (6, true)), [], false⟩,
      ⟨(some 9), .pick (.tmp 6) (.tmp 8) (.const (.bool false)), none, [], false⟩,
      ⟨(some 3), .mov (.tmp 9), none, [], false⟩]) (.cond (.tmp 3)
    (.seq (.region [
      ⟨(some 2), .mov (.const (.bool true)), none, [], false⟩]) .ret)
    (.seq (.region [
      ⟨(some 11), .mov (.tmp 0), none, [], false⟩,
      ⟨(some 12), .bin .lss (so (.binOp .lss 21 (.const (.int .i32 57343)) (.tmp 11) 21) 4) (.const (.int .i32 57343)) (.tmp 11), none, [], false⟩,
      ⟨(some 13), .mov (.tmp 12), none, [], false⟩,
      ⟨(some 14), .mov (.tmp 0), (some (13, true)), [], false⟩,
      ⟨(some 15), .bin .leq (so (.binOp .leq 21 (.tmp 14) (.const (.int .i32 1114111)) 21) 4) (.tmp 14) (.const (.int .i32 1114111)), (some (13, true)), [], false⟩,
      ⟨(some 16), .pick (.tmp 13) (.tmp 15) (.const (.bool false)), none, [], false⟩,
      ⟨(some 10), .mov (.tmp 16), none, [], false⟩]) (.cond (.tmp 10)
    (.seq (.region [
      ⟨(some 2), .mov (.const (.bool true)), none, [], false⟩]) .ret)
    .skip))))) (.seq (.region [
      ⟨(some 2), .mov (.const (.bool false)), none, [], false⟩]) .ret)))
noncomputable def unicode_utf8_ValidRune : AFunc := ⟨17, [(2, none)], unicode_utf8_ValidRune_c, none⟩
theorem unicode_utf8_ValidRune_t0 : tableOf Try.prog 104 = some unicode_utf8_ValidRune := by kernel_rfl
theorem unicode_utf8_ValidRune_t : T0 104 = some unicode_utf8_ValidRune := withKept_t rfl (withTrue_t rfl unicode_utf8_ValidRune_t0)
theorem unicode_utf8_ValidRune_runs {v0 : Value} {h : Heap} {R : RP} {X : XP} (k : RunC Try.prog T0 unicode_utf8_ValidRune_c ⟨[v0, undef, undef, undef, undef, undef, undef, undef, undef, undef, undef, undef, undef, undef, undef, undef, undef], [], h, none⟩ (bodyQ Try.prog T0 [(2, none)] R X)) :
    Runs Try.prog T0 (.fn 104) [v0] h R X := Runs.fn unicode_utf8_ValidRune_t rfl k


/-! 105 internal/bytealg.Cutover -/
abbrev fn_internal_bytealg_Cutover : FuncId := 105
noncomputable def internal_bytealg_Cutover_c : ACode :=
  (.seq (.region [
      ⟨(some 2), .mov (.const (.int .i64 0)), none, [], false⟩]) (.seq (.region [
      ⟨(some 3), .mov (.tmp 0), none, [], false⟩,
      ⟨(some 4), .bin .add (so (.binOp .add 3 (.tmp 3) (.const (.int .i64 16)) 3) 3) (.tmp 3) (.const (.int .i64 16)), none, [], false⟩,
      ⟨(some 5), .bin .quo (so (.binOp .quo 3 (.tmp 4) (.const (.int .i64 8)) 3) 3) (.tmp 4) (.const (.int .i64 8)), none, [], false⟩,
      ⟨(some 2), .mov (.tmp 5), none, [], false⟩]) .ret))
noncomputable def internal_bytealg_Cutover : AFunc := ⟨6, [(2, none)], internal_bytealg_Cutover_c, none⟩
theorem internal_bytealg_Cutover_t0 : tableOf Try.prog 105 = some internal_bytealg_Cutover := by kernel_rfl
theorem internal_bytealg_Cutover_t : T0 105 = some internal_bytealg_Cutover := withKept_t rfl (withTrue_t rfl internal_bytealg_Cutover_t0)
theorem internal_bytealg_Cutover_runs {v0 : Value} {h : Heap} {R : RP} {X : XP} (k : RunC Try.prog T0 internal_bytealg_Cutover_c ⟨[v0, undef, undef, undef, undef, undef], [], h, none⟩ (bodyQ Try.prog T0 [(2, none)] R X)) :
    Runs Try.prog T0 (.fn 105) [v0] h R X := Runs.fn internal_bytealg_Cutover_t rfl k


/-! 107 math/bits.RotateLeft32 -/
abbrev fn_math_bits_RotateLeft32 : FuncId := 107
noncomputable def math_bits_RotateLeft32_c : ACode :=
  (.seq (.region [
      ⟨(some 4), .mov (.const (.int .u32 0)), none, [], false⟩]) (.seq (.region [
      ⟨(some 6), .mov (.tmp 1), none, [], false⟩,
      ⟨(some 7), .conv .u64 (so (.convert 3 104 (.tmp 6)) 104) (.tmp 6), none, [], false⟩,
      ⟨(some 8), .bin .and (so (.binOp .and 104 (.tmp 7) (.const (.int .u64 31)) 104) 104) (.tmp 7) (.const (.int .u64 31)), none, [], false⟩,
      ⟨(some 5), .mov (.tmp 8), none, [], false⟩]) (.seq (.region [
      ⟨(some 9), .mov (.tmp 0), none, [], false⟩,
      ⟨(some 10), .mov (.tmp 5), none, [], false⟩,
      ⟨(some 11), .bin .shl (so (.binOp .shl 100 (.tmp 9) (.tmp 10) 104) 100) (.tmp 9) (.tmp 10), none, [], false⟩,
      ⟨(some 12), .mov (.tmp 0), none, [], false⟩,
      ⟨(some 13), .mov (.tmp 5), none, [], false⟩,
      ⟨(some 14), .bin .sub (so (.binOp .sub 104 (.const (.int .u64 32)) (.tmp 13) 104) 104) (.const (.int .u64 32)) (.tmp 13), none, [], false⟩,
      ⟨(some 15), .bin .shr (so (.binOp .shr 100 (.tmp 12) (.tmp 14) 104) 100) (.tmp 12) (.tmp 14), none, [], false⟩,
      ⟨(some 16), .bin .or (so (.binOp .or 100 (.tmp 11) (.tmp 15) 100) 100) (.tmp 11) (.tmp 15), none, [], false⟩,
      ⟨(some 4), .mov (.tmp 16), none, [], false⟩]) .ret)))
noncomputable def math_bits_RotateLeft32 : AFunc := ⟨17, [(4, none)], math_bits_RotateLeft32_c, none⟩
theorem math_bits_RotateLeft32_t0 : tableOf Try.prog 107 = some math_bits_RotateLeft32 := by kernel_rfl
theorem math_bits_RotateLeft32_t : T0 107 = some math_bits_RotateLeft32 := withKept_t rfl (withTrue_t rfl math_bits_RotateLeft32_t0)
theorem math_bits_RotateLeft32_runs {v0 v1 : Value} {h : Heap} {R : RP} {X : XP} (k : RunC Try.prog T0 math_bits_RotateLeft32_c ⟨[v0, v1, undef, undef, undef, undef, undef, undef, undef, undef, undef, undef, undef, undef, undef, undef, undef], [], h, none⟩ (bodyQ Try.prog T0 [(4, none)] R X)) :
    Runs Try.prog T0 (.fn 107) [v0, v1] h R X := Runs.fn math_bits_RotateLeft32_t rfl k


/-! 108 internal/stringslite.IndexByte -/
abbrev fn_internal_stringslite_IndexByte : FuncId := 108
noncomputable def internal_stringslite_IndexByte_c : ACode :=
  (.seq (.region [
      ⟨(some 4), .mov (.const (.int .i64 0)), none, [], false⟩]) (.seq (.region [
      ⟨(some 5), .mov (.tmp 0), none, [], false⟩,
      ⟨(some 6), .mov (.tmp 1), none, [], false⟩,
      ⟨(some 7), .ext .indexByte (.func 109) [(.tmp 5), (.tmp 6)], none, [], false⟩,
      ⟨(some 4), .mov (.tmp 7), none, [], false⟩]) .ret))
noncomputable def internal_stringslite_IndexByte : AFunc := ⟨8, [(4, none)], internal_stringslite_IndexByte_c, none⟩
theorem internal_stringslite_IndexByte_t0 : tableOf Try.prog 108 = some internal_stringslite_IndexByte := by kernel_rfl
theorem internal_stringslite_IndexByte_t : T0 108 = some internal_stringslite_IndexByte := withKept_t rfl (withTrue_t rfl internal_stringslite_IndexByte_t0)
theorem internal_stringslite_IndexByte_runs {v0 v1 : Value} {h : Heap} {R : RP} {X : XP} (k : RunC Try.prog T0 internal_stringslite_IndexByte_c ⟨[v0, v1, undef, undef, undef, undef, undef, undef], [], h, none⟩ (bodyQ Try.prog T0 [(4, none)] R X)) :
    Runs Try.prog T0 (.fn 108) [v0, v1] h R X := Runs.fn internal_stringslite_IndexByte_t rfl k



end Go.Proofs.Ytcapkoclbmaahaa.A
