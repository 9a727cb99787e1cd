/- Remembered calls. -/
import Derived.Test.YtlckmpioipiihaaGC0
namespace Go.Proofs.Ytlckmpioipiihaa.R
open Go Go.Vm
set_option maxRecDepth 100000
noncomputable def ma_7 : List Value := [(.pointer (some ⟨55, 0, none⟩))]
noncomputable def mh_7 : Heap := ⟨265, tr_58⟩
noncomputable def mo_7 : List CO := [(.ret (.int .i64 0) ⟨313, (.node .dead (.node ob_2 (.node (.cells [(.int .i64 1), (.int .i64 4), (.int .i64 7)] 0) tr_64 tr_67) tr_68) (.node ob_3 tr_70 (.node .dead tr_67 tr_71)))⟩)]
theorem me_7 : fewOK (xcall Try.prog tabS 1000 60 (.fn 11) ma_7 mh_7) mo_7 = true := by kernel_rfl
noncomputable def ma_8 : List Value := [va_13, (.slice (some ⟨315, 0, none⟩) 3 3)]
noncomputable def mh_8 : Heap := ⟨316, (.node .dead (.node ob_2 (.node (.cells [(.int .i64 1), (.int .i64 4), (.int .i64 7)] 0) tr_64 (.node .dead tr_65 (.node .dead tr_63 (.node .dead tr_14 tr_73)))) (.node .dead (.node .dead tr_65 (.node .dead tr_63 (.node .dead tr_14 tr_76))) tr_67)) (.node ob_3 tr_70 (.node .dead (.node .dead tr_65 (.node .dead tr_63 (.node .dead tr_14 tr_77))) tr_71)))⟩
noncomputable def mo_8 : List CO := [(.ret (.tuple ⟨[(.pointer (some ⟨367, 0, none⟩)), (.int .i64 0)]⟩) ⟨368, tr_83⟩)]
theorem me_8 : fewOK (xcall Try.prog tabS 1000 60 (.fn 17) ma_8 mh_8) mo_8 = true := by kernel_rfl
noncomputable def ma_9 : List Value := [(.pointer (some ⟨367, 0, none⟩))]
noncomputable def mh_9 : Heap := ⟨368, tr_83⟩
noncomputable def mo_9 : List CO := [(.ret (.int .i64 0) ⟨406, (.node .dead (.node ob_2 (.node (.cells [(.int .i64 1), (.int .i64 4), (.int .i64 7)] 0) (.node .dead tr_85 (.node .dead tr_34 (.node ob_12 tr_10 tr_10))) tr_86) tr_89) (.node ob_3 tr_91 (.node .dead tr_93 (.node .dead tr_87 tr_94))))⟩)]
theorem me_9 : fewOK (xcall Try.prog tabS 1000 60 (.fn 11) ma_9 mh_9) mo_9 = true := by kernel_rfl
noncomputable def ma_10 : List Value := [(.pointer (some ⟨367, 0, none⟩)), (.int .i64 4), va_15]
noncomputable def mh_10 : Heap := ⟨408, (.node .dead (.node ob_2 (.node (.cells [(.int .i64 1), (.int .i64 4), (.int .i64 7)] 0) (.node .dead tr_85 (.node .dead tr_34 (.node ob_12 tr_18 tr_10))) tr_86) tr_89) (.node ob_3 tr_91 (.node .dead tr_93 (.node .dead (.node .dead tr_34 (.node .dead (.node .dead tr_96 tr_6) tr_10)) tr_94))))⟩
noncomputable def mo_10 : List CO := [(.ret (.int .i64 0) ⟨487, (.node .dead (.node ob_2 (.node (.cells [(.int .i64 1), (.int .i64 4), (.int .i64 7)] 0) (.node .dead tr_100 (.node .dead tr_46 tr_102)) tr_105) tr_108) (.node ob_3 (.node .dead (.node .dead tr_110 tr_47) tr_107) tr_116))⟩)]
theorem me_10 : fewOK (xcall Try.prog tabS 1000 60 (.fn 9) ma_10 mh_10) mo_10 = true := by kernel_rfl
noncomputable def ma_11 : List Value := [(.pointer (some ⟨367, 0, none⟩)), (.int .i64 4), va_17]
noncomputable def mh_11 : Heap := ⟨489, (.node .dead (.node ob_2 (.node (.cells [(.int .i64 1), (.int .i64 4), (.int .i64 7)] 0) (.node .dead tr_100 (.node .dead tr_120 tr_102)) tr_105) tr_108) (.node ob_3 (.node .dead (.node .dead tr_110 (.node .dead tr_122 tr_46)) tr_107) tr_116))⟩
noncomputable def mo_11 : List CO := [(.ret (.int .i64 8) ⟨518, (.node .dead (.node ob_2 (.node (.cells [(.int .i64 1), (.int .i64 4), (.int .i64 7)] 0) (.node .dead tr_124 (.node .dead tr_120 tr_125)) tr_127) tr_130) (.node ob_3 tr_132 (.node .dead tr_134 (.node .dead (.node .dead tr_55 tr_135) tr_136))))⟩)]
theorem me_11 : fewOK (xcall Try.prog tabS 1000 60 (.fn 9) ma_11 mh_11) mo_11 = true := by kernel_rfl
noncomputable def ma_12 : List Value := [(.pointer (some ⟨367, 0, none⟩)), (.int .i64 2), va_19]
noncomputable def mh_12 : Heap := ⟨520, (.node .dead (.node ob_2 (.node (.cells [(.int .i64 1), (.int .i64 4), (.int .i64 7)] 0) (.node .dead tr_124 (.node .dead tr_138 tr_125)) tr_127) tr_130) (.node ob_3 tr_132 (.node .dead tr_134 (.node .dead (.node .dead tr_143 tr_135) tr_136))))⟩
noncomputable def mo_12 : List CO := [(.ret (.int .i64 10) ⟨549, tr_153⟩)]
theorem me_12 : fewOK (xcall Try.prog tabS 1000 60 (.fn 9) ma_12 mh_12) mo_12 = true := by kernel_rfl
end Go.Proofs.Ytlckmpioipiihaa.R
