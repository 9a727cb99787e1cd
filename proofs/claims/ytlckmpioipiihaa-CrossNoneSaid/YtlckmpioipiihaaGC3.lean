/- Remembered calls. -/
import Derived.Test.YtlckmpioipiihaaGC0
namespace Go.Proofs.Ytlckmpioipiihaa.R
open Go Go.Vm
set_option maxRecDepth 100000
noncomputable def ma_13 : List Value := [(.pointer (some ⟨367, 0, none⟩)), (.int .i64 1)]
noncomputable def mh_13 : Heap := ⟨549, tr_153⟩
noncomputable def mo_13 : List CO := [(.ret (.int .i64 0) ⟨577, tr_164⟩)]
theorem me_13 : fewOK (xcall Try.prog tabS 1000 60 (.fn 10) ma_13 mh_13) mo_13 = true := by kernel_rfl
noncomputable def ma_14 : List Value := [(.pointer (some ⟨367, 0, none⟩))]
noncomputable def mh_14 : Heap := ⟨577, tr_164⟩
noncomputable def mo_14 : List CO := [(.ret (.int .i64 0) ⟨625, tr_180⟩)]
theorem me_14 : fewOK (xcall Try.prog tabS 1000 60 (.fn 11) ma_14 mh_14) mo_14 = true := by kernel_rfl
noncomputable def ma_15 : List Value := [(.pointer (some ⟨55, 0, none⟩)), (.int .i64 1)]
noncomputable def mh_15 : Heap := ⟨625, tr_180⟩
noncomputable def mo_15 : List CO := [(.ret (.slice (some ⟨642, 0, (some 0)⟩) 1 1) ⟨651, (.node .dead (.node ob_2 (.node (.cells [(.int .i64 1), (.int .i64 4), (.int .i64 7)] 0) tr_183 (.node .dead tr_185 (.node .dead tr_65 tr_187))) tr_190) tr_199)⟩)]
theorem me_15 : fewOK (xcall Try.prog tabS 1000 60 (.fn 13) ma_15 mh_15) mo_15 = true := by kernel_rfl
noncomputable def ma_16 : List Value := [(.pointer (some ⟨55, 0, none⟩)), (.int .i64 2)]
noncomputable def mh_16 : Heap := ⟨652, (.node .dead (.node ob_2 (.node (.cells [(.int .i64 1), (.int .i64 4), (.int .i64 7)] 0) tr_183 (.node .dead tr_185 (.node .dead tr_203 tr_187))) tr_190) tr_199)⟩
noncomputable def mo_16 : List CO := [(.ret (.slice (some ⟨665, 0, (some 0)⟩) 1 1) ⟨678, (.node .dead tr_211 (.node ob_3 tr_212 (.node .dead tr_213 (.node .dead (.node .dead tr_198 tr_216) tr_219))))⟩)]
theorem me_16 : fewOK (xcall Try.prog tabS 1000 60 (.fn 13) ma_16 mh_16) mo_16 = true := by kernel_rfl
noncomputable def ma_17 : List Value := [(.pointer (some ⟨55, 0, none⟩)), (.int .i64 7)]
noncomputable def mh_17 : Heap := ⟨679, (.node .dead tr_211 (.node ob_3 tr_212 (.node .dead tr_213 (.node .dead (.node .dead tr_223 tr_216) tr_219))))⟩
noncomputable def mo_17 : List CO := [(.ret (.int .i64 0) ⟨707, tr_228⟩)]
theorem me_17 : fewOK (xcall Try.prog tabS 1000 60 (.fn 10) ma_17 mh_17) mo_17 = true := by kernel_rfl
noncomputable def ma_18 : List Value := [(.pointer (some ⟨55, 0, none⟩))]
noncomputable def mh_18 : Heap := ⟨707, tr_228⟩
noncomputable def mo_18 : List CO := [(.ret (.int .i64 1) ⟨806, (.node .dead (.node ob_2 (.node (.cells [(.int .i64 1), (.int .i64 4), (.int .i64 7)] 0) (.node .dead tr_229 (.node .dead (.node .dead tr_230 (.node .dead tr_10 tr_232)) tr_233)) tr_235) tr_238) (.node ob_3 tr_239 (.node .dead tr_241 (.node .dead (.node .dead (.node .dead tr_244 (.node .dead tr_222 tr_10)) tr_246) tr_247))))⟩)]
theorem me_18 : fewOK (xcall Try.prog tabS 1000 60 (.fn 11) ma_18 mh_18) mo_18 = true := by kernel_rfl
end Go.Proofs.Ytlckmpioipiihaa.R
