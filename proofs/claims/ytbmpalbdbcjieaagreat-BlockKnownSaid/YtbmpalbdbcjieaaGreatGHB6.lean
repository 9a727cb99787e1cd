/- Remembered calls. -/
import Derived.Test.YtbmpalbdbcjieaaGreatGHB0
namespace Go.Proofs.YtbmpalbdbcjieaaGreat.R
open Go Go.Vm
set_option maxRecDepth 100000
noncomputable def ma_31 : List Value := [va_37]
noncomputable def mh_31 : Heap := ⟨1174, (.node .dead (.node .dead (.node .dead tr_731 tr_485) tr_494) (.node ob_3 (.node .dead tr_498 (.node .dead tr_502 (.node .dead (.node .dead tr_484 tr_730) tr_456))) tr_507))⟩
noncomputable def mo_31 : List CO := [(.ret (.int .i64 0) ⟨1290, (.node .dead (.node .dead (.node .dead tr_733 tr_529) tr_538) (.node ob_3 (.node .dead tr_541 (.node .dead tr_544 (.node .dead (.node .dead tr_524 tr_734) tr_537))) tr_553))⟩)]
theorem me_31 : fewOK (xcall Tryz.prog tabS 1000 60 (.fn 21) ma_31 mh_31) mo_31 = true := by kernel_rfl
noncomputable def ma_32 : List Value := [va_41]
noncomputable def mh_32 : Heap := ⟨1301, (.node .dead (.node .dead (.node .dead tr_735 tr_563) tr_568) (.node ob_3 (.node .dead tr_571 (.node .dead tr_574 (.node .dead (.node .dead tr_576 tr_734) tr_537))) tr_581))⟩
noncomputable def mo_32 : List CO := [(.ret (.int .i64 3) ⟨1415, tr_737⟩)]
theorem me_32 : fewOK (xcall Tryz.prog tabS 1000 60 (.fn 21) ma_32 mh_32) mo_32 = true := by kernel_rfl
noncomputable def ma_33 : List Value := [va_45]
noncomputable def mh_33 : Heap := ⟨1415, tr_737⟩
noncomputable def mo_33 : List CO := [(.ret (.int .i64 13) ⟨1521, tr_743⟩)]
theorem me_33 : fewOK (xcall Tryz.prog tabS 1000 60 (.fn 21) ma_33 mh_33) mo_33 = true := by kernel_rfl
noncomputable def ma_34 : List Value := [va_4, va_4]
noncomputable def mh_34 : Heap := ⟨1521, tr_743⟩
noncomputable def mo_34 : List CO := [(.ret (.bool true) ⟨1523, (.node .dead (.node .dead tr_740 tr_683) (.node ob_3 tr_742 tr_685))⟩)]
theorem me_34 : fewOK (xcall Tryz.prog tabS 1000 60 (.fn 24) ma_34 mh_34) mo_34 = true := by kernel_rfl
noncomputable def ma_35 : List Value := [va_4, va_46]
noncomputable def mh_35 : Heap := ⟨1534, (.node .dead (.node .dead (.node .dead tr_745 tr_692) tr_695) (.node ob_3 tr_746 tr_702))⟩
noncomputable def mo_35 : List CO := [(.ret (.bool false) ⟨1536, (.node .dead (.node .dead (.node .dead tr_747 tr_692) tr_695) (.node ob_3 tr_746 tr_704))⟩)]
theorem me_35 : fewOK (xcall Tryz.prog tabS 1000 60 (.fn 24) ma_35 mh_35) mo_35 = true := by kernel_rfl
noncomputable def ma_36 : List Value := [va_4]
noncomputable def mh_36 : Heap := ⟨408, tr_148⟩
noncomputable def mo_36 : List CO := [(.ret (.tuple ⟨[(.slice (some ⟨536, 0, (some 0)⟩) 190 190), (.int .i64 0)]⟩) ⟨537, tr_750⟩)]
theorem me_36 : fewOK (xcall Tryz.prog tabS 1000 60 (.fn 22) ma_36 mh_36) mo_36 = true := by kernel_rfl
end Go.Proofs.YtbmpalbdbcjieaaGreat.R
