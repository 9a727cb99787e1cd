/- Remembered calls. -/
import Derived.Test.YtlckmpioipiihaaGN0
namespace Go.Proofs.Ytlckmpioipiihaa.R
open Go Go.Vm
set_option maxRecDepth 100000
noncomputable def ma_7 : List Value := [(.pointer (some ⟨55, 0, none⟩))]
noncomputable def mh_7 : Heap := ⟨265, tr_66⟩
noncomputable def mo_7 : List CO := [(.ret (.int .i64 0) ⟨313, (.node .dead (.node ob_2 (.node (.cells [(.int .i64 1), (.int .i64 4), (.int .i64 7)] 0) tr_72 tr_75) tr_76) (.node ob_3 tr_78 (.node .dead tr_75 tr_79)))⟩)]
theorem me_7 : fewOK (xcall Try.prog tabS 1000 60 (.fn 11) ma_7 mh_7) mo_7 = true := by kernel_rfl
noncomputable def ma_8 : List Value := [va_13, (.slice (some ⟨315, 0, none⟩) 3 3)]
noncomputable def mh_8 : Heap := ⟨316, (.node .dead (.node ob_2 (.node (.cells [(.int .i64 1), (.int .i64 4), (.int .i64 7)] 0) tr_72 (.node .dead tr_73 (.node .dead tr_71 tr_82))) (.node .dead (.node .dead tr_73 (.node .dead tr_71 (.node .dead tr_15 tr_85))) tr_75)) (.node ob_3 tr_78 (.node .dead (.node .dead tr_73 (.node .dead tr_71 tr_87)) tr_79)))⟩
noncomputable def mo_8 : List CO := [(.ret (.tuple ⟨[(.pointer (some ⟨367, 0, none⟩)), (.int .i64 0)]⟩) ⟨368, tr_97⟩)]
theorem me_8 : fewOK (xcall Try.prog tabS 1000 60 (.fn 17) ma_8 mh_8) mo_8 = true := by kernel_rfl
noncomputable def ma_9 : List Value := [(.pointer (some ⟨367, 0, none⟩))]
noncomputable def mh_9 : Heap := ⟨368, tr_97⟩
noncomputable def mo_9 : List CO := [(.ret (.int .i64 0) ⟨406, (.node .dead (.node ob_2 (.node (.cells [(.int .i64 1), (.int .i64 4), (.int .i64 7)] 0) (.node .dead tr_99 (.node .dead tr_36 (.node ob_12 tr_11 tr_11))) tr_102) tr_105) (.node ob_3 tr_107 (.node .dead tr_110 (.node .dead tr_103 tr_111))))⟩)]
theorem me_9 : fewOK (xcall Try.prog tabS 1000 60 (.fn 11) ma_9 mh_9) mo_9 = true := by kernel_rfl
noncomputable def ma_10 : List Value := [(.pointer (some ⟨367, 0, none⟩)), (.int .i64 4), va_15]
noncomputable def mh_10 : Heap := ⟨408, (.node .dead (.node ob_2 (.node (.cells [(.int .i64 1), (.int .i64 4), (.int .i64 7)] 0) (.node .dead tr_99 (.node .dead tr_36 (.node ob_12 tr_19 tr_11))) tr_102) tr_105) (.node ob_3 tr_107 (.node .dead tr_110 (.node .dead (.node .dead tr_36 (.node .dead (.node .dead tr_113 tr_7) tr_11)) tr_111))))⟩
noncomputable def mo_10 : List CO := [(.ret (.int .i64 0) ⟨487, (.node .dead (.node ob_2 (.node (.cells [(.int .i64 1), (.int .i64 4), (.int .i64 7)] 0) (.node .dead tr_119 (.node .dead tr_49 tr_121)) tr_126) tr_129) (.node ob_3 (.node .dead (.node .dead tr_131 tr_50) tr_128) tr_137))⟩)]
theorem me_10 : fewOK (xcall Try.prog tabS 1000 60 (.fn 9) ma_10 mh_10) mo_10 = true := by kernel_rfl
noncomputable def ma_11 : List Value := [(.pointer (some ⟨367, 0, none⟩)), (.int .i64 4), va_17]
noncomputable def mh_11 : Heap := ⟨489, (.node .dead (.node ob_2 (.node (.cells [(.int .i64 1), (.int .i64 4), (.int .i64 7)] 0) (.node .dead tr_119 (.node .dead tr_141 tr_121)) tr_126) tr_129) (.node ob_3 (.node .dead (.node .dead tr_131 (.node .dead tr_143 tr_49)) tr_128) tr_137))⟩
noncomputable def mo_11 : List CO := [(.ret (.int .i64 8) ⟨518, (.node .dead (.node ob_2 (.node (.cells [(.int .i64 1), (.int .i64 4), (.int .i64 7)] 0) (.node .dead tr_146 (.node .dead tr_141 tr_147)) tr_150) tr_154) (.node ob_3 tr_156 (.node .dead tr_158 (.node .dead (.node .dead tr_60 tr_159) tr_160))))⟩)]
theorem me_11 : fewOK (xcall Try.prog tabS 1000 60 (.fn 9) ma_11 mh_11) mo_11 = true := by kernel_rfl
noncomputable def ma_12 : List Value := [(.pointer (some ⟨367, 0, none⟩)), (.int .i64 2), va_19]
noncomputable def mh_12 : Heap := ⟨520, (.node .dead (.node ob_2 (.node (.cells [(.int .i64 1), (.int .i64 4), (.int .i64 7)] 0) (.node .dead tr_146 (.node .dead tr_162 tr_147)) tr_150) tr_154) (.node ob_3 tr_156 (.node .dead tr_158 (.node .dead (.node .dead tr_167 tr_159) tr_160))))⟩
noncomputable def mo_12 : List CO := [(.ret (.int .i64 10) ⟨549, tr_182⟩)]
theorem me_12 : fewOK (xcall Try.prog tabS 1000 60 (.fn 9) ma_12 mh_12) mo_12 = true := by kernel_rfl
end Go.Proofs.Ytlckmpioipiihaa.R
