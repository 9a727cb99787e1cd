/- Remembered calls. -/
import Derived.Test.YtlckmpioipiihaaGC0
namespace Go.Proofs.Ytlckmpioipiihaa.R
open Go Go.Vm
set_option maxRecDepth 100000
noncomputable def ma_19 : List Value := [(.pointer (some ⟨367, 0, none⟩)), (.int .i64 7), va_22]
noncomputable def mh_19 : Heap := ⟨808, (.node .dead (.node ob_2 (.node (.cells [(.int .i64 1), (.int .i64 4), (.int .i64 7)] 0) (.node .dead tr_229 (.node .dead (.node .dead tr_230 (.node .dead tr_18 tr_232)) tr_233)) tr_235) tr_238) (.node ob_3 tr_239 (.node .dead tr_241 (.node .dead (.node .dead (.node .dead tr_244 (.node .dead tr_249 tr_10)) tr_246) tr_247))))⟩
noncomputable def mo_19 : List CO := [(.ret (.int .i64 0) ⟨891, tr_265⟩)]
theorem me_19 : fewOK (xcall Try.prog tabS 1000 60 (.fn 9) ma_19 mh_19) mo_19 = true := by kernel_rfl
noncomputable def ma_20 : List Value := [(.pointer (some ⟨367, 0, none⟩))]
noncomputable def mh_20 : Heap := ⟨891, tr_265⟩
noncomputable def mo_20 : List CO := [(.ret (.int .i64 3) ⟨931, tr_281⟩)]
theorem me_20 : fewOK (xcall Try.prog tabS 1000 60 (.fn 11) ma_20 mh_20) mo_20 = true := by kernel_rfl
noncomputable def ma_21 : List Value := [(.pointer (some ⟨367, 0, none⟩)), (.int .i64 1)]
noncomputable def mh_21 : Heap := ⟨931, tr_281⟩
noncomputable def mo_21 : List CO := [(.ret (.int .i64 11) ⟨951, (.node .dead (.node ob_2 (.node (.cells [(.int .i64 1), (.int .i64 4), (.int .i64 7)] 0) (.node .dead (.node .dead tr_266 (.node .dead tr_267 (.node .dead (.node ob_9 tr_4 tr_4) tr_251))) (.node .dead (.node .dead tr_268 (.node .dead tr_101 tr_253)) tr_269)) (.node .dead tr_282 (.node .dead (.node .dead tr_271 tr_46) tr_272))) (.node .dead (.node .dead tr_282 (.node .dead tr_47 tr_273)) tr_283)) (.node ob_3 (.node .dead (.node .dead (.node .dead tr_47 (.node .dead tr_46 (.node .dead tr_97 tr_7))) (.node .dead (.node .dead tr_46 (.node .dead tr_45 tr_32)) tr_48)) tr_283) (.node .dead (.node .dead (.node .dead tr_275 tr_47) (.node .dead tr_47 tr_276)) (.node .dead (.node .dead (.node .dead tr_277 (.node .dead (.node .dead tr_248 (.node .dead tr_220 tr_3)) tr_7)) (.node .dead tr_278 tr_46)) (.node .dead (.node .dead tr_279 tr_46) tr_280)))))⟩)]
theorem me_21 : fewOK (xcall Try.prog tabS 1000 60 (.fn 10) ma_21 mh_21) mo_21 = true := by kernel_rfl
end Go.Proofs.Ytlckmpioipiihaa.R
