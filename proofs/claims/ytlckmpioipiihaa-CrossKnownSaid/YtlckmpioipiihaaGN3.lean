/- Remembered calls. -/
import Derived.Test.YtlckmpioipiihaaGN0
namespace Go.Proofs.Ytlckmpioipiihaa.R
open Go Go.Vm
set_option maxRecDepth 100000
noncomputable def ma_13 : List Value := [(.pointer (some ⟨367, 0, none⟩)), (.int .i64 1)]
noncomputable def mh_13 : Heap := ⟨549, tr_182⟩
noncomputable def mo_13 : List CO := [(.ret (.int .i64 0) ⟨577, tr_198⟩)]
theorem me_13 : fewOK (xcall Try.prog tabS 1000 60 (.fn 10) ma_13 mh_13) mo_13 = true := by kernel_rfl
noncomputable def ma_14 : List Value := [(.pointer (some ⟨367, 0, none⟩))]
noncomputable def mh_14 : Heap := ⟨577, tr_198⟩
noncomputable def mo_14 : List CO := [(.ret (.int .i64 0) ⟨625, tr_213⟩)]
theorem me_14 : fewOK (xcall Try.prog tabS 1000 60 (.fn 11) ma_14 mh_14) mo_14 = true := by kernel_rfl
noncomputable def ma_15 : List Value := [(.pointer (some ⟨55, 0, none⟩)), (.int .i64 7)]
noncomputable def mh_15 : Heap := ⟨625, tr_213⟩
noncomputable def mo_15 : List CO := [(.ret (.int .i64 0) ⟨653, (.node .dead (.node ob_2 tr_218 (.node .dead tr_219 (.node .dead tr_217 tr_220))) (.node ob_3 tr_221 (.node .dead tr_223 (.node .dead tr_225 (.node .dead tr_211 tr_226)))))⟩)]
theorem me_15 : fewOK (xcall Try.prog tabS 1000 60 (.fn 10) ma_15 mh_15) mo_15 = true := by kernel_rfl
noncomputable def ma_16 : List Value := [(.pointer (some ⟨367, 0, none⟩)), (.int .i64 7), va_22]
noncomputable def mh_16 : Heap := ⟨655, (.node .dead (.node ob_2 tr_218 (.node .dead tr_219 (.node .dead tr_217 (.node .dead (.node .dead (.node .dead tr_229 tr_15) tr_71) tr_73)))) (.node ob_3 tr_221 (.node .dead tr_223 (.node .dead tr_225 (.node .dead (.node .dead (.node .dead tr_32 tr_210) tr_71) tr_226)))))⟩
noncomputable def mo_16 : List CO := [(.ret (.int .i64 0) ⟨738, tr_254⟩)]
theorem me_16 : fewOK (xcall Try.prog tabS 1000 60 (.fn 9) ma_16 mh_16) mo_16 = true := by kernel_rfl
noncomputable def ma_17 : List Value := [(.pointer (some ⟨55, 0, none⟩))]
noncomputable def mh_17 : Heap := ⟨738, tr_254⟩
noncomputable def mo_17 : List CO := [(.ret (.tuple ⟨[(.int .i64 (-1)), va_26, (.bool false)]⟩) ⟨763, (.node .dead (.node ob_2 (.node (.cells [(.int .i64 1), (.int .i64 4), (.int .i64 7)] 0) tr_261 (.node .dead tr_262 (.node .dead tr_14 tr_237))) tr_264) tr_270)⟩)]
theorem me_17 : fewOK (xcall Try.prog tabS 1000 60 (.fn 8) ma_17 mh_17) mo_17 = true := by kernel_rfl
noncomputable def ma_18 : List Value := [(.pointer (some ⟨367, 0, none⟩))]
noncomputable def mh_18 : Heap := ⟨764, (.node .dead (.node ob_2 (.node (.cells [(.int .i64 1), (.int .i64 4), (.int .i64 7)] 0) tr_261 (.node .dead tr_262 (.node .dead tr_14 tr_274))) tr_264) tr_270)⟩
noncomputable def mo_18 : List CO := [(.ret (.tuple ⟨[(.int .i64 7), va_28, (.bool true)]⟩) ⟨785, (.node .dead (.node ob_2 (.node (.cells [(.int .i64 1), (.int .i64 4), (.int .i64 7)] 0) tr_277 (.node .dead tr_278 tr_279)) (.node .dead (.node .dead (.node .dead tr_280 tr_14) tr_281) tr_284)) (.node ob_3 tr_288 (.node .dead (.node .dead tr_278 tr_289) tr_293)))⟩)]
theorem me_18 : fewOK (xcall Try.prog tabS 1000 60 (.fn 8) ma_18 mh_18) mo_18 = true := by kernel_rfl
end Go.Proofs.Ytlckmpioipiihaa.R
