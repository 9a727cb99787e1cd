/- Remembered calls. -/
import Derived.Test.YtlckmpioipiihaaGN0
namespace Go.Proofs.Ytlckmpioipiihaa.R
open Go Go.Vm
set_option maxRecDepth 100000
noncomputable def ma_37 : List Value := [(.pointer (some ⟨1599, 0, none⟩)), (.int .i64 4), va_56]
noncomputable def mh_37 : Heap := ⟨1721, (.node .dead (.node ob_2 (.node (.cells [(.int .i64 1), (.int .i64 4), (.int .i64 7)] 0) (.node .dead tr_896 (.node .dead tr_899 tr_950)) tr_906) tr_915) (.node ob_3 (.node .dead (.node .dead tr_920 (.node .dead tr_922 tr_951)) tr_926) tr_945))⟩
noncomputable def mo_37 : List CO := [(.ret (.int .i64 8) ⟨1750, (.node .dead (.node ob_2 (.node (.cells [(.int .i64 1), (.int .i64 4), (.int .i64 7)] 0) (.node .dead tr_953 (.node .dead tr_956 tr_950)) tr_964) tr_978) (.node ob_3 tr_984 (.node .dead tr_991 (.node .dead (.node .dead tr_993 tr_934) tr_997))))⟩)]
theorem me_37 : fewOK (xcall Try.prog tabS 1000 60 (.fn 9) ma_37 mh_37) mo_37 = true := by kernel_rfl
noncomputable def ma_38 : List Value := [(.pointer (some ⟨1599, 0, none⟩)), (.int .i64 2), va_58]
noncomputable def mh_38 : Heap := ⟨1752, (.node .dead (.node ob_2 (.node (.cells [(.int .i64 1), (.int .i64 4), (.int .i64 7)] 0) (.node .dead tr_953 (.node .dead tr_956 tr_1000)) tr_964) tr_978) (.node ob_3 tr_984 (.node .dead tr_991 (.node .dead (.node .dead tr_993 tr_1005) tr_997))))⟩
noncomputable def mo_38 : List CO := [(.ret (.int .i64 10) ⟨1781, tr_1026⟩)]
theorem me_38 : fewOK (xcall Try.prog tabS 1000 60 (.fn 9) ma_38 mh_38) mo_38 = true := by kernel_rfl
noncomputable def ma_39 : List Value := [(.pointer (some ⟨1599, 0, none⟩)), (.int .i64 1)]
noncomputable def mh_39 : Heap := ⟨1781, tr_1026⟩
noncomputable def mo_39 : List CO := [(.ret (.int .i64 0) ⟨1809, tr_1065⟩)]
theorem me_39 : fewOK (xcall Try.prog tabS 1000 60 (.fn 10) ma_39 mh_39) mo_39 = true := by kernel_rfl
noncomputable def ma_40 : List Value := [(.pointer (some ⟨1599, 0, none⟩))]
noncomputable def mh_40 : Heap := ⟨1809, tr_1065⟩
noncomputable def mo_40 : List CO := [(.ret (.int .i64 0) ⟨1857, tr_1109⟩)]
theorem me_40 : fewOK (xcall Try.prog tabS 1000 60 (.fn 11) ma_40 mh_40) mo_40 = true := by kernel_rfl
noncomputable def ma_41 : List Value := [(.pointer (some ⟨1287, 0, none⟩)), (.int .i64 1)]
noncomputable def mh_41 : Heap := ⟨1857, tr_1109⟩
noncomputable def mo_41 : List CO := [(.ret (.slice (some ⟨1874, 0, (some 0)⟩) 1 1) ⟨1883, (.node .dead (.node ob_2 (.node (.cells [(.int .i64 1), (.int .i64 4), (.int .i64 7)] 0) tr_1118 (.node .dead tr_1122 (.node .dead tr_1124 tr_1081))) tr_1133) tr_1156)⟩)]
theorem me_41 : fewOK (xcall Try.prog tabS 1000 60 (.fn 13) ma_41 mh_41) mo_41 = true := by kernel_rfl
noncomputable def ma_42 : List Value := [(.pointer (some ⟨1287, 0, none⟩)), (.int .i64 2)]
noncomputable def mh_42 : Heap := ⟨1884, (.node .dead (.node ob_2 (.node (.cells [(.int .i64 1), (.int .i64 4), (.int .i64 7)] 0) tr_1118 (.node .dead tr_1122 (.node .dead tr_1124 tr_1160))) tr_1133) tr_1156)⟩
noncomputable def mo_42 : List CO := [(.ret (.slice (some ⟨1897, 0, (some 0)⟩) 1 1) ⟨1910, (.node .dead tr_1173 (.node ob_3 tr_1176 (.node .dead tr_1177 (.node .dead (.node .dead tr_1180 tr_1153) tr_1183))))⟩)]
theorem me_42 : fewOK (xcall Try.prog tabS 1000 60 (.fn 13) ma_42 mh_42) mo_42 = true := by kernel_rfl
end Go.Proofs.Ytlckmpioipiihaa.R
