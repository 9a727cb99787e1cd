/- Remembered calls. -/
import Derived.Test.YtbmpalbdbcjieaaGreatGHB0
namespace Go.Proofs.YtbmpalbdbcjieaaGreat.R
open Go Go.Vm
set_option maxRecDepth 100000
noncomputable def ma_1 : List Value := [va_1, (.slice (some ⟨2, 0, none⟩) 2 2)]
noncomputable def mh_1 : Heap := ⟨3, (.node .dead tr_1 tr_2)⟩
noncomputable def mo_1 : List CO := [(.ret (.tuple ⟨[va_4, (.int .i64 0)]⟩) ⟨87, (.node .dead (.node ob_2 tr_8 tr_8) (.node ob_3 tr_8 (.node .dead tr_7 (.node .dead tr_11 tr_6))))⟩)]
theorem me_1 : fewOK (xcall Tryz.prog tabS 1000 60 (.fn 9) ma_1 mh_1) mo_1 = true := by kernel_rfl
noncomputable def ma_2 : List Value := [va_6]
noncomputable def mh_2 : Heap := ⟨120, (.node .dead (.node .dead (.node .dead (.node .dead (.node .dead (.node .dead .nil tr_12) tr_14) (.node .dead tr_14 (.node .dead (.node ob_8 .nil .nil) tr_9))) (.node .dead tr_15 (.node .dead tr_16 (.node .dead (.node ob_12 .nil .nil) .nil)))) (.node .dead (.node .dead (.node .dead tr_14 tr_17) (.node .dead tr_18 (.node .dead (.node ob_14 .nil .nil) .nil))) (.node .dead (.node .dead tr_19 tr_14) tr_20))) (.node ob_3 (.node .dead (.node .dead (.node .dead tr_14 tr_18) (.node .dead tr_14 (.node .dead (.node ob_18 .nil .nil) .nil))) (.node .dead tr_15 tr_20)) (.node .dead (.node .dead (.node .dead tr_18 tr_17) (.node .dead tr_16 (.node .dead (.node ob_19 .nil .nil) .nil))) (.node .dead (.node .dead tr_19 (.node .dead tr_9 tr_13)) (.node .dead tr_14 (.node .dead tr_12 .nil))))))⟩
noncomputable def mo_2 : List CO := [(.ret (.int .i64 12) ⟨226, tr_33⟩)]
theorem me_2 : fewOK (xcall Tryz.prog tabS 1000 60 (.fn 21) ma_2 mh_2) mo_2 = true := by kernel_rfl
noncomputable def ma_3 : List Value := [va_20]
noncomputable def mh_3 : Heap := ⟨226, tr_33⟩
noncomputable def mo_3 : List CO := [(.ret (.int .i64 12) ⟨319, tr_59⟩)]
theorem me_3 : fewOK (xcall Tryz.prog tabS 1000 60 (.fn 21) ma_3 mh_3) mo_3 = true := by kernel_rfl
noncomputable def ma_4 : List Value := [va_21]
noncomputable def mh_4 : Heap := ⟨319, tr_59⟩
noncomputable def mo_4 : List CO := [(.ret (.int .i64 3) ⟨336, tr_68⟩)]
theorem me_4 : fewOK (xcall Tryz.prog tabS 1000 60 (.fn 21) ma_4 mh_4) mo_4 = true := by kernel_rfl
noncomputable def ma_5 : List Value := [va_22]
noncomputable def mh_5 : Heap := ⟨336, tr_68⟩
noncomputable def mo_5 : List CO := [(.ret (.int .i64 6) ⟨355, (.node .dead (.node .dead (.node .dead tr_73 (.node .dead tr_75 tr_78)) tr_89) tr_101)⟩)]
theorem me_5 : fewOK (xcall Tryz.prog tabS 1000 60 (.fn 21) ma_5 mh_5) mo_5 = true := by kernel_rfl
noncomputable def ma_6 : List Value := [va_1, (.slice none 0 0)]
noncomputable def mh_6 : Heap := ⟨356, (.node .dead (.node .dead (.node .dead tr_73 tr_105) tr_89) tr_101)⟩
noncomputable def mo_6 : List CO := [(.ret (.tuple ⟨[va_23, (.int .i64 6)]⟩) ⟨360, (.node .dead (.node .dead (.node .dead tr_106 tr_105) (.node .dead tr_85 tr_109)) (.node ob_3 (.node .dead tr_93 tr_112) (.node .dead tr_98 tr_113)))⟩)]
theorem me_6 : fewOK (xcall Tryz.prog tabS 1000 60 (.fn 9) ma_6 mh_6) mo_6 = true := by kernel_rfl
end Go.Proofs.YtbmpalbdbcjieaaGreat.R
