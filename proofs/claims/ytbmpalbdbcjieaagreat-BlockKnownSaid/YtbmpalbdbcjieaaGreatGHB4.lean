/- Remembered calls. -/
import Derived.Test.YtbmpalbdbcjieaaGreatGHB0
namespace Go.Proofs.YtbmpalbdbcjieaaGreat.R
open Go Go.Vm
set_option maxRecDepth 100000
noncomputable def ma_19 : List Value := [va_41]
noncomputable def mh_19 : Heap := ⟨1301, (.node .dead (.node .dead (.node .dead (.node .dead tr_556 tr_518) tr_563) tr_568) (.node ob_3 (.node .dead tr_571 (.node .dead tr_574 (.node .dead (.node .dead tr_576 tr_545) tr_537))) tr_581))⟩
noncomputable def mo_19 : List CO := [(.ret (.int .i64 3) ⟨1415, tr_620⟩)]
theorem me_19 : fewOK (xcall Tryz.prog tabS 1000 60 (.fn 21) ma_19 mh_19) mo_19 = true := by kernel_rfl
noncomputable def ma_20 : List Value := [va_45]
noncomputable def mh_20 : Heap := ⟨1415, tr_620⟩
noncomputable def mo_20 : List CO := [(.ret (.int .i64 13) ⟨1521, tr_680⟩)]
theorem me_20 : fewOK (xcall Tryz.prog tabS 1000 60 (.fn 21) ma_20 mh_20) mo_20 = true := by kernel_rfl
noncomputable def ma_21 : List Value := [va_4, va_4]
noncomputable def mh_21 : Heap := ⟨1521, tr_680⟩
noncomputable def mo_21 : List CO := [(.ret (.bool true) ⟨1523, (.node .dead (.node .dead tr_641 tr_683) (.node ob_3 tr_667 tr_685))⟩)]
theorem me_21 : fewOK (xcall Tryz.prog tabS 1000 60 (.fn 24) ma_21 mh_21) mo_21 = true := by kernel_rfl
noncomputable def ma_22 : List Value := [va_4, va_46]
noncomputable def mh_22 : Heap := ⟨1534, (.node .dead (.node .dead (.node .dead (.node .dead tr_624 tr_688) tr_692) tr_695) (.node ob_3 tr_699 tr_702))⟩
noncomputable def mo_22 : List CO := [(.ret (.bool false) ⟨1536, (.node .dead (.node .dead (.node .dead (.node .dead tr_703 tr_688) tr_692) tr_695) (.node ob_3 tr_699 tr_704))⟩)]
theorem me_22 : fewOK (xcall Tryz.prog tabS 1000 60 (.fn 24) ma_22 mh_22) mo_22 = true := by kernel_rfl
noncomputable def ma_23 : List Value := [va_4]
noncomputable def mh_23 : Heap := ⟨408, tr_145⟩
noncomputable def mo_23 : List CO := [(.ret (.tuple ⟨[(.slice (some ⟨536, 0, (some 0)⟩) 190 190), (.int .i64 0)]⟩) ⟨537, tr_708⟩)]
theorem me_23 : fewOK (xcall Tryz.prog tabS 1000 60 (.fn 22) ma_23 mh_23) mo_23 = true := by kernel_rfl
noncomputable def ma_24 : List Value := [(.slice none 0 0)]
noncomputable def mh_24 : Heap := ⟨537, tr_708⟩
noncomputable def mo_24 : List CO := [(.ret (.tuple ⟨[va_23, (.agg ⟨[(.int .i64 6), (.int .i64 0)]⟩)]⟩) ⟨549, (.node .dead (.node .dead tr_710 tr_197) (.node ob_3 tr_711 tr_203))⟩)]
theorem me_24 : fewOK (xcall Tryz.prog tabS 1000 60 (.fn 15) ma_24 mh_24) mo_24 = true := by kernel_rfl
end Go.Proofs.YtbmpalbdbcjieaaGreat.R
