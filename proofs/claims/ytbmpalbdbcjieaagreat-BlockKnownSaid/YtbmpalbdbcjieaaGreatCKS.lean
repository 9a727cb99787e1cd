/- A run that is cut: its pieces. -/
import Derived.Test.YtbmpalbdbcjieaaGreatCK0
namespace Go.Proofs.YtbmpalbdbcjieaaGreat.R
open Go Go.Vm
set_option maxRecDepth 100000
theorem cp_0 : stsOK (xc Tryz.prog cK_call 1000 cK_0 cs_S0_0) [cs_S1_0] = true := by kernel_rfl
theorem cp_1 : stsOK (xc Tryz.prog cK_call 1000 cK_1 cs_S1_0) [cs_S2_0] = true := by kernel_rfl
theorem cp_2 : stsOK (xc Tryz.prog cK_call 1000 cK_2 cs_S2_0) [cs_S3_0] = true := by kernel_rfl
theorem cp_4 : stsOK (xc Tryz.prog cK_call 1000 cK_4 cs_L12_1_3_5_7_8_9_10_11_12_13_14_15) [cs_S5_0] = true := by kernel_rfl
theorem cp_5 : stsOK (xc Tryz.prog cK_call 1000 cK_5 cs_S5_0) [cs_S6_0] = true := by kernel_rfl
theorem cp_6 : stsOK (xc Tryz.prog cK_call 1000 cK_6 cs_S6_0) [cs_S7_0] = true := by kernel_rfl
theorem cp_7 : stsOK (xc Tryz.prog cK_call 1000 cK_7 cs_S7_0) [cs_S8_0] = true := by kernel_rfl
theorem cp_8 : stsOK (xc Tryz.prog cK_call 1000 cK_8 cs_S8_0) [cs_S9_0] = true := by kernel_rfl
theorem cp_9 : stsOK (xc Tryz.prog cK_call 1000 cK_9 cs_S9_0) [cs_S10_0] = true := by kernel_rfl
theorem cp_10 : stsOK (xc Tryz.prog cK_call 1000 cK_10 cs_S10_0) [cs_S11_0] = true := by kernel_rfl
theorem cp_11 : stsOK (xc Tryz.prog cK_call 1000 cK_11 cs_S11_0) [cs_S12_0] = true := by kernel_rfl
theorem cp_12 : stsOK (xc Tryz.prog cK_call 1000 cK_12 cs_S12_0) [cs_S13_0, cs_S13_1, cs_S13_2] = true := by kernel_rfl
theorem cp_3 : stO (readsG Tryz.prog cK_rd { cs_S3_0 with h := asideH (countG cK_wr) (gcH cs_S3_0.h (liveG cs_S3_0.h 4000 (blocksL cs_S3_0.ts) [])) }) cs_L0_ = true := by kernel_rfl
end Go.Proofs.YtbmpalbdbcjieaaGreat.R
