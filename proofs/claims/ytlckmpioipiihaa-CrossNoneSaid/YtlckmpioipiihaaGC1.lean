/- Remembered calls. -/
import Derived.Test.YtlckmpioipiihaaGC0
namespace Go.Proofs.Ytlckmpioipiihaa.R
open Go Go.Vm
set_option maxRecDepth 100000
noncomputable def ma_1 : List Value := [va_1, (.slice (some ⟨3, 0, none⟩) 3 3)]
noncomputable def mh_1 : Heap := ⟨4, (.node .dead (.node ob_2 tr_1 .nil) tr_2)⟩
noncomputable def mo_1 : List CO := [(.ret (.tuple ⟨[(.pointer (some ⟨55, 0, none⟩)), (.int .i64 0)]⟩) ⟨56, tr_9⟩)]
theorem me_1 : fewOK (xcall Try.prog tabS 1000 60 (.fn 17) ma_1 mh_1) mo_1 = true := by kernel_rfl
noncomputable def ma_2 : List Value := [(.pointer (some ⟨55, 0, none⟩))]
noncomputable def mh_2 : Heap := ⟨56, tr_9⟩
noncomputable def mo_2 : List CO := [(.ret (.int .i64 0) ⟨94, (.node .dead (.node ob_2 (.node (.cells [(.int .i64 1), (.int .i64 4), (.int .i64 7)] 0) (.node .dead tr_10 tr_11) tr_12) tr_13) (.node ob_3 tr_13 tr_16))⟩)]
theorem me_2 : fewOK (xcall Try.prog tabS 1000 60 (.fn 11) ma_2 mh_2) mo_2 = true := by kernel_rfl
noncomputable def ma_3 : List Value := [(.pointer (some ⟨55, 0, none⟩)), (.int .i64 4), va_5]
noncomputable def mh_3 : Heap := ⟨96, (.node .dead (.node ob_2 (.node (.cells [(.int .i64 1), (.int .i64 4), (.int .i64 7)] 0) (.node .dead tr_18 tr_11) tr_12) tr_13) (.node ob_3 tr_13 (.node .dead tr_12 (.node .dead tr_10 (.node .dead tr_6 (.node .dead (.node ob_6 .nil .nil) .nil))))))⟩
noncomputable def mo_3 : List CO := [(.ret (.int .i64 0) ⟨175, (.node .dead (.node ob_2 (.node (.cells [(.int .i64 1), (.int .i64 4), (.int .i64 7)] 0) (.node .dead tr_21 tr_22) tr_23) tr_24) (.node ob_3 tr_24 tr_26))⟩)]
theorem me_3 : fewOK (xcall Try.prog tabS 1000 60 (.fn 9) ma_3 mh_3) mo_3 = true := by kernel_rfl
noncomputable def ma_4 : List Value := [(.pointer (some ⟨55, 0, none⟩)), (.int .i64 4), va_8]
noncomputable def mh_4 : Heap := ⟨177, (.node .dead (.node ob_2 (.node (.cells [(.int .i64 1), (.int .i64 4), (.int .i64 7)] 0) (.node .dead (.node .dead tr_20 tr_29) tr_22) tr_23) tr_24) (.node ob_3 (.node .dead (.node .dead (.node .dead tr_10 tr_31) tr_15) tr_23) tr_26))⟩
noncomputable def mo_4 : List CO := [(.ret (.int .i64 8) ⟨206, (.node .dead (.node ob_2 (.node (.cells [(.int .i64 1), (.int .i64 4), (.int .i64 7)] 0) (.node .dead (.node .dead tr_32 tr_29) tr_33) tr_35) tr_36) (.node ob_3 tr_37 (.node .dead tr_35 (.node .dead tr_34 (.node .dead tr_10 tr_38)))))⟩)]
theorem me_4 : fewOK (xcall Try.prog tabS 1000 60 (.fn 9) ma_4 mh_4) mo_4 = true := by kernel_rfl
noncomputable def ma_5 : List Value := [(.pointer (some ⟨55, 0, none⟩)), (.int .i64 2), va_10]
noncomputable def mh_5 : Heap := ⟨208, (.node .dead (.node ob_2 (.node (.cells [(.int .i64 1), (.int .i64 4), (.int .i64 7)] 0) (.node .dead (.node .dead tr_32 tr_39) tr_33) tr_35) tr_36) (.node ob_3 tr_37 (.node .dead tr_35 (.node .dead tr_34 (.node .dead tr_42 tr_38)))))⟩
noncomputable def mo_5 : List CO := [(.ret (.int .i64 10) ⟨237, tr_51⟩)]
theorem me_5 : fewOK (xcall Try.prog tabS 1000 60 (.fn 9) ma_5 mh_5) mo_5 = true := by kernel_rfl
noncomputable def ma_6 : List Value := [(.pointer (some ⟨55, 0, none⟩)), (.int .i64 1)]
noncomputable def mh_6 : Heap := ⟨237, tr_51⟩
noncomputable def mo_6 : List CO := [(.ret (.int .i64 0) ⟨265, tr_58⟩)]
theorem me_6 : fewOK (xcall Try.prog tabS 1000 60 (.fn 10) ma_6 mh_6) mo_6 = true := by kernel_rfl
end Go.Proofs.Ytlckmpioipiihaa.R
