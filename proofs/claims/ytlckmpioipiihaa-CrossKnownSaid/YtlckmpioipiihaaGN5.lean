/- Remembered calls. -/
import Derived.Test.YtlckmpioipiihaaGN0
namespace Go.Proofs.Ytlckmpioipiihaa.R
open Go Go.Vm
set_option maxRecDepth 100000
noncomputable def ma_25 : List Value := [va_41, (.slice (some ⟨1166, 0, none⟩) 1 1)]
noncomputable def mh_25 : Heap := ⟨1167, (.node .dead (.node ob_2 tr_481 (.node .dead tr_485 (.node .dead tr_486 (.node .dead (.node .dead tr_501 tr_171) tr_187)))) (.node ob_3 (.node .dead tr_488 (.node .dead tr_489 (.node .dead (.node .dead tr_506 tr_171) tr_187))) (.node .dead tr_491 (.node .dead tr_494 (.node .dead (.node .dead tr_511 tr_171) tr_497)))))⟩
noncomputable def mo_25 : List CO := [(.ret (.tuple ⟨[(.pointer none), (.int .i64 3)]⟩) ⟨1219, tr_541⟩)]
theorem me_25 : fewOK (xcall Try.prog tabS 1000 60 (.fn 17) ma_25 mh_25) mo_25 = true := by kernel_rfl
noncomputable def ma_26 : List Value := [va_43, (.slice none 0 0)]
noncomputable def mh_26 : Heap := ⟨1219, tr_541⟩
noncomputable def mo_26 : List CO := [(.ret (.tuple ⟨[(.pointer none), (.int .i64 3)]⟩) ⟨1233, (.node .dead (.node ob_2 (.node (.cells [(.int .i64 1), (.int .i64 4), (.int .i64 7)] 0) tr_543 (.node .dead (.node .dead tr_544 tr_519) tr_545)) (.node .dead (.node .dead tr_525 tr_547) tr_549)) (.node ob_3 tr_554 (.node .dead (.node .dead tr_535 tr_557) tr_560)))⟩)]
theorem me_26 : fewOK (xcall Try.prog tabS 1000 60 (.fn 17) ma_26 mh_26) mo_26 = true := by kernel_rfl
noncomputable def ma_27 : List Value := [va_44, (.slice (some ⟨1235, 0, none⟩) 3 3)]
noncomputable def mh_27 : Heap := ⟨1236, (.node .dead (.node ob_2 (.node (.cells [(.int .i64 1), (.int .i64 4), (.int .i64 7)] 0) tr_543 (.node .dead (.node .dead tr_544 (.node .dead tr_561 tr_74)) tr_545)) (.node .dead (.node .dead (.node .dead tr_523 (.node .dead tr_566 tr_74)) tr_547) tr_549)) (.node ob_3 tr_554 (.node .dead (.node .dead (.node .dead tr_533 (.node .dead tr_567 tr_74)) tr_557) tr_560)))⟩
noncomputable def mo_27 : List CO := [(.ret (.tuple ⟨[(.pointer (some ⟨1287, 0, none⟩)), (.int .i64 0)]⟩) ⟨1288, tr_596⟩)]
theorem me_27 : fewOK (xcall Try.prog tabS 1000 60 (.fn 17) ma_27 mh_27) mo_27 = true := by kernel_rfl
noncomputable def ma_28 : List Value := [(.pointer (some ⟨1287, 0, none⟩))]
noncomputable def mh_28 : Heap := ⟨1288, tr_596⟩
noncomputable def mo_28 : List CO := [(.ret (.int .i64 0) ⟨1326, (.node .dead (.node ob_2 (.node (.cells [(.int .i64 1), (.int .i64 4), (.int .i64 7)] 0) (.node .dead (.node .dead tr_597 (.node .dead tr_214 tr_571)) tr_599) tr_602) tr_607) (.node ob_3 tr_611 (.node .dead tr_615 (.node .dead tr_617 (.node .dead (.node .dead tr_619 tr_73) tr_620)))))⟩)]
theorem me_28 : fewOK (xcall Try.prog tabS 1000 60 (.fn 11) ma_28 mh_28) mo_28 = true := by kernel_rfl
noncomputable def ma_29 : List Value := [(.pointer (some ⟨1287, 0, none⟩)), (.int .i64 4), va_46]
noncomputable def mh_29 : Heap := ⟨1328, (.node .dead (.node ob_2 (.node (.cells [(.int .i64 1), (.int .i64 4), (.int .i64 7)] 0) (.node .dead (.node .dead tr_597 (.node .dead tr_214 (.node .dead tr_621 tr_570))) tr_599) tr_602) tr_607) (.node ob_3 tr_611 (.node .dead tr_615 (.node .dead tr_617 (.node .dead (.node .dead tr_619 (.node .dead tr_625 tr_71)) tr_620)))))⟩
noncomputable def mo_29 : List CO := [(.ret (.int .i64 0) ⟨1407, (.node .dead (.node ob_2 (.node (.cells [(.int .i64 1), (.int .i64 4), (.int .i64 7)] 0) (.node .dead (.node .dead (.node .dead tr_626 tr_627) tr_632) tr_641) tr_646) tr_654) (.node ob_3 (.node .dead (.node .dead (.node .dead (.node .dead (.node .dead tr_246 tr_16) tr_24) tr_656) tr_661) tr_662) tr_674))⟩)]
theorem me_29 : fewOK (xcall Try.prog tabS 1000 60 (.fn 9) ma_29 mh_29) mo_29 = true := by kernel_rfl
noncomputable def ma_30 : List Value := [(.pointer (some ⟨1287, 0, none⟩)), (.int .i64 4), va_48]
noncomputable def mh_30 : Heap := ⟨1409, (.node .dead (.node ob_2 (.node (.cells [(.int .i64 1), (.int .i64 4), (.int .i64 7)] 0) (.node .dead (.node .dead tr_680 tr_632) tr_641) tr_646) tr_654) (.node ob_3 (.node .dead (.node .dead (.node .dead tr_685 tr_656) tr_661) tr_662) tr_674))⟩
noncomputable def mo_30 : List CO := [(.ret (.int .i64 8) ⟨1438, (.node .dead (.node ob_2 (.node (.cells [(.int .i64 1), (.int .i64 4), (.int .i64 7)] 0) (.node .dead (.node .dead tr_680 tr_687) tr_690) tr_698) tr_708) (.node ob_3 tr_715 (.node .dead tr_723 (.node .dead tr_729 (.node .dead tr_733 tr_673)))))⟩)]
theorem me_30 : fewOK (xcall Try.prog tabS 1000 60 (.fn 9) ma_30 mh_30) mo_30 = true := by kernel_rfl
end Go.Proofs.Ytlckmpioipiihaa.R
