/- Remembered calls. -/
import Derived.Test.YtbmpalbdbcjieaaGreatGHB0
namespace Go.Proofs.YtbmpalbdbcjieaaGreat.R
open Go Go.Vm
set_option maxRecDepth 100000
noncomputable def ma_43 : List Value := [va_29]
noncomputable def mh_43 : Heap := ⟨1054, (.node .dead (.node .dead (.node .dead tr_727 (.node .dead tr_397 (.node .dead tr_760 tr_401))) tr_417) (.node ob_3 (.node .dead tr_424 (.node .dead tr_425 (.node .dead tr_761 tr_416))) tr_427))⟩
noncomputable def mo_43 : List CO := [(.ret (.int .i64 0) ⟨1163, (.node .dead (.node .dead (.node .dead tr_729 (.node .dead tr_442 (.node .dead (.node .dead tr_443 tr_762) tr_447))) tr_457) (.node ob_3 (.node .dead tr_461 (.node .dead tr_463 (.node .dead (.node .dead tr_443 tr_763) tr_456))) tr_473))⟩)]
theorem me_43 : fewOK (xcall Tryz.prog tabS 1000 60 (.fn 21) ma_43 mh_43) mo_43 = true := by kernel_rfl
noncomputable def ma_44 : List Value := [va_37]
noncomputable def mh_44 : Heap := ⟨1174, (.node .dead (.node .dead (.node .dead tr_731 (.node .dead tr_480 (.node .dead (.node .dead tr_484 tr_762) tr_447))) tr_494) (.node ob_3 (.node .dead tr_498 (.node .dead tr_502 (.node .dead (.node .dead tr_484 tr_763) tr_456))) tr_507))⟩
noncomputable def mo_44 : List CO := [(.ret (.int .i64 0) ⟨1290, (.node .dead (.node .dead (.node .dead tr_733 (.node .dead tr_523 (.node .dead (.node .dead tr_524 tr_764) tr_528))) tr_538) (.node ob_3 (.node .dead tr_541 (.node .dead tr_544 (.node .dead (.node .dead tr_524 tr_765) tr_537))) tr_553))⟩)]
theorem me_44 : fewOK (xcall Tryz.prog tabS 1000 60 (.fn 21) ma_44 mh_44) mo_44 = true := by kernel_rfl
noncomputable def ma_45 : List Value := [va_41]
noncomputable def mh_45 : Heap := ⟨1301, (.node .dead (.node .dead (.node .dead tr_735 (.node .dead tr_559 (.node .dead (.node .dead tr_562 tr_764) tr_528))) tr_568) (.node ob_3 (.node .dead tr_571 (.node .dead tr_574 (.node .dead (.node .dead tr_576 tr_765) tr_537))) tr_581))⟩
noncomputable def mo_45 : List CO := [(.ret (.int .i64 3) ⟨1415, tr_766⟩)]
theorem me_45 : fewOK (xcall Tryz.prog tabS 1000 60 (.fn 21) ma_45 mh_45) mo_45 = true := by kernel_rfl
noncomputable def ma_46 : List Value := [va_45]
noncomputable def mh_46 : Heap := ⟨1415, tr_766⟩
noncomputable def mo_46 : List CO := [(.ret (.int .i64 13) ⟨1521, tr_771⟩)]
theorem me_46 : fewOK (xcall Tryz.prog tabS 1000 60 (.fn 21) ma_46 mh_46) mo_46 = true := by kernel_rfl
noncomputable def ma_47 : List Value := [va_4, va_4]
noncomputable def mh_47 : Heap := ⟨1521, tr_771⟩
noncomputable def mo_47 : List CO := [(.ret (.bool true) ⟨1523, (.node .dead (.node .dead tr_768 tr_683) (.node ob_3 tr_770 tr_685))⟩)]
theorem me_47 : fewOK (xcall Tryz.prog tabS 1000 60 (.fn 24) ma_47 mh_47) mo_47 = true := by kernel_rfl
noncomputable def ma_48 : List Value := [va_4, va_46]
noncomputable def mh_48 : Heap := ⟨1534, (.node .dead (.node .dead (.node .dead tr_745 tr_772) tr_695) (.node ob_3 tr_773 tr_702))⟩
noncomputable def mo_48 : List CO := [(.ret (.bool false) ⟨1536, (.node .dead (.node .dead (.node .dead tr_747 tr_772) tr_695) (.node ob_3 tr_773 tr_704))⟩)]
theorem me_48 : fewOK (xcall Tryz.prog tabS 1000 60 (.fn 24) ma_48 mh_48) mo_48 = true := by kernel_rfl
end Go.Proofs.YtbmpalbdbcjieaaGreat.R
