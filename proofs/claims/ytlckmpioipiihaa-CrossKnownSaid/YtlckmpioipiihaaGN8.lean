/- Remembered calls. -/
import Derived.Test.YtlckmpioipiihaaGN0
namespace Go.Proofs.Ytlckmpioipiihaa.R
open Go Go.Vm
set_option maxRecDepth 100000
noncomputable def ma_43 : List Value := [(.pointer (some ⟨1287, 0, none⟩)), (.int .i64 7)]
noncomputable def mh_43 : Heap := ⟨1911, (.node .dead tr_1173 (.node ob_3 tr_1176 (.node .dead tr_1177 (.node .dead (.node .dead tr_1180 tr_1187) tr_1183))))⟩
noncomputable def mo_43 : List CO := [(.ret (.int .i64 0) ⟨1939, tr_1220⟩)]
theorem me_43 : fewOK (xcall Try.prog tabS 1000 60 (.fn 10) ma_43 mh_43) mo_43 = true := by kernel_rfl
noncomputable def ma_44 : List Value := [(.pointer (some ⟨1287, 0, none⟩))]
noncomputable def mh_44 : Heap := ⟨1939, tr_1220⟩
noncomputable def mo_44 : List CO := [(.ret (.int .i64 1) ⟨2038, (.node .dead (.node ob_2 (.node (.cells [(.int .i64 1), (.int .i64 4), (.int .i64 7)] 0) (.node .dead tr_1222 (.node .dead tr_1225 (.node ob_21 tr_1227 (.node .dead tr_1229 tr_49)))) tr_1232) tr_1240) (.node ob_3 tr_1241 (.node .dead tr_1243 (.node .dead (.node .dead tr_1245 (.node .dead tr_1249 (.node .dead tr_60 tr_1186))) tr_1252))))⟩)]
theorem me_44 : fewOK (xcall Try.prog tabS 1000 60 (.fn 11) ma_44 mh_44) mo_44 = true := by kernel_rfl
noncomputable def ma_45 : List Value := [(.pointer (some ⟨1599, 0, none⟩)), (.int .i64 7), va_60]
noncomputable def mh_45 : Heap := ⟨2040, (.node .dead (.node ob_2 (.node (.cells [(.int .i64 1), (.int .i64 4), (.int .i64 7)] 0) (.node .dead tr_1222 (.node .dead tr_1225 (.node ob_21 tr_1227 (.node .dead tr_1229 tr_143)))) tr_1232) tr_1240) (.node ob_3 tr_1241 (.node .dead tr_1243 (.node .dead (.node .dead tr_1245 (.node .dead tr_1249 (.node .dead tr_60 tr_1254))) tr_1252))))⟩
noncomputable def mo_45 : List CO := [(.ret (.int .i64 0) ⟨2123, tr_1293⟩)]
theorem me_45 : fewOK (xcall Try.prog tabS 1000 60 (.fn 9) ma_45 mh_45) mo_45 = true := by kernel_rfl
noncomputable def ma_46 : List Value := [(.pointer (some ⟨1599, 0, none⟩))]
noncomputable def mh_46 : Heap := ⟨2123, tr_1293⟩
noncomputable def mo_46 : List CO := [(.ret (.int .i64 3) ⟨2163, tr_1316⟩)]
theorem me_46 : fewOK (xcall Try.prog tabS 1000 60 (.fn 11) ma_46 mh_46) mo_46 = true := by kernel_rfl
noncomputable def ma_47 : List Value := [(.pointer (some ⟨1599, 0, none⟩)), (.int .i64 1)]
noncomputable def mh_47 : Heap := ⟨2163, tr_1316⟩
noncomputable def mo_47 : List CO := [(.ret (.int .i64 11) ⟨2183, tr_1318⟩)]
theorem me_47 : fewOK (xcall Try.prog tabS 1000 60 (.fn 10) ma_47 mh_47) mo_47 = true := by kernel_rfl
noncomputable def ma_48 : List Value := [(.pointer (some ⟨55, 0, none⟩)), (.int .i64 9)]
noncomputable def mh_48 : Heap := ⟨2183, tr_1318⟩
noncomputable def mo_48 : List CO := [(.ret (.int .i64 0) ⟨2183, tr_1318⟩)]
theorem me_48 : fewOK (xcall Try.prog tabS 1000 60 (.fn 12) ma_48 mh_48) mo_48 = true := by kernel_rfl
end Go.Proofs.Ytlckmpioipiihaa.R
