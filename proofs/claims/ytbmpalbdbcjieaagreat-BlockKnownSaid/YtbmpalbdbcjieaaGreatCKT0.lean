/- A run that is cut: one way to its end. -/
import Derived.Test.YtbmpalbdbcjieaaGreatCK0
namespace Go.Proofs.YtbmpalbdbcjieaaGreat.R
open Go Go.Vm
set_option maxRecDepth 100000
theorem cq0_13 : stsOK (xc Tryz.prog cK_call 1000 cK_13 cs_S13_0) [cs_S14_0] = true := by kernel_rfl
theorem cq0_14 : stsOK (xc Tryz.prog cK_call 1000 cK_14 cs_S14_0) [cs_S15_0] = true := by kernel_rfl
theorem cq0_15 : stsOK (xc Tryz.prog cK_call 1000 cK_15 cs_S15_0) [cs_S16_0] = true := by kernel_rfl
theorem cq0_16 : stsOK (xc Tryz.prog cK_call 1000 cK_16 cs_S16_0) [cs_S17_0] = true := by kernel_rfl
theorem cq0_17 : stsOK (xc Tryz.prog cK_call 1000 cK_17 cs_S17_0) [cs_S18_0] = true := by kernel_rfl
theorem cq0_18 : stsOK (xc Tryz.prog cK_call 1000 cK_18 cs_S18_0) [cs_S19_0] = true := by kernel_rfl
theorem cr_0 : allTrue ((xc Tryz.prog cK_call 1000 cK_t19 cs_S19_0).flatMap (finK Tryz.prog tab cK_call cK_f)) = true := by kernel_rfl
theorem cq_0 : allTrue ((xc Tryz.prog cK_call 1000 cK_t13 cs_S13_0).flatMap (finK Tryz.prog tab cK_call cK_f)) = true := by
  rw [show cK_t13 = .seq cK_13 cK_t14 from rfl, xc_cut cq0_13]
  rw [show cK_t14 = .seq cK_14 cK_t15 from rfl, xc_cut cq0_14]
  rw [show cK_t15 = .seq cK_15 cK_t16 from rfl, xc_cut cq0_15]
  rw [show cK_t16 = .seq cK_16 cK_t17 from rfl, xc_cut cq0_16]
  rw [show cK_t17 = .seq cK_17 cK_t18 from rfl, xc_cut cq0_17]
  rw [show cK_t18 = .seq cK_18 cK_t19 from rfl, xc_cut cq0_18]
  exact cr_0
end Go.Proofs.YtbmpalbdbcjieaaGreat.R
