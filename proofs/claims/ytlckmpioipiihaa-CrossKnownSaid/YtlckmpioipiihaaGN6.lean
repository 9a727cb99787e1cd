/- Remembered calls. -/
import Derived.Test.YtlckmpioipiihaaGN0
namespace Go.Proofs.Ytlckmpioipiihaa.R
open Go Go.Vm
set_option maxRecDepth 100000
noncomputable def ma_31 : List Value := [(.pointer (some ⟨1287, 0, none⟩)), (.int .i64 2), va_50]
noncomputable def mh_31 : Heap := ⟨1440, (.node .dead (.node ob_2 (.node (.cells [(.int .i64 1), (.int .i64 4), (.int .i64 7)] 0) (.node .dead (.node .dead tr_735 tr_687) tr_690) tr_698) tr_708) (.node ob_3 tr_715 (.node .dead tr_723 (.node .dead tr_729 (.node .dead tr_733 tr_741)))))⟩
noncomputable def mo_31 : List CO := [(.ret (.int .i64 10) ⟨1469, tr_756⟩)]
theorem me_31 : fewOK (xcall Try.prog tabS 1000 60 (.fn 9) ma_31 mh_31) mo_31 = true := by kernel_rfl
noncomputable def ma_32 : List Value := [(.pointer (some ⟨1287, 0, none⟩)), (.int .i64 1)]
noncomputable def mh_32 : Heap := ⟨1469, tr_756⟩
noncomputable def mo_32 : List CO := [(.ret (.int .i64 0) ⟨1497, tr_779⟩)]
theorem me_32 : fewOK (xcall Try.prog tabS 1000 60 (.fn 10) ma_32 mh_32) mo_32 = true := by kernel_rfl
noncomputable def ma_33 : List Value := [(.pointer (some ⟨1287, 0, none⟩))]
noncomputable def mh_33 : Heap := ⟨1497, tr_779⟩
noncomputable def mo_33 : List CO := [(.ret (.int .i64 0) ⟨1545, (.node .dead (.node ob_2 (.node (.cells [(.int .i64 1), (.int .i64 4), (.int .i64 7)] 0) tr_787 (.node .dead tr_791 (.node .dead tr_262 tr_794))) (.node .dead (.node .dead tr_799 (.node .dead (.node .dead tr_766 tr_14) tr_800)) tr_801)) (.node ob_3 tr_805 (.node .dead (.node .dead tr_808 (.node .dead (.node .dead tr_775 tr_14) tr_809)) tr_815)))⟩)]
theorem me_33 : fewOK (xcall Try.prog tabS 1000 60 (.fn 11) ma_33 mh_33) mo_33 = true := by kernel_rfl
noncomputable def ma_34 : List Value := [va_52, (.slice (some ⟨1547, 0, none⟩) 3 3)]
noncomputable def mh_34 : Heap := ⟨1548, (.node .dead (.node ob_2 (.node (.cells [(.int .i64 1), (.int .i64 4), (.int .i64 7)] 0) tr_787 (.node .dead tr_791 (.node .dead (.node .dead tr_819 tr_14) tr_794))) (.node .dead (.node .dead tr_799 (.node .dead (.node .dead tr_824 tr_14) tr_800)) tr_801)) (.node ob_3 tr_805 (.node .dead (.node .dead tr_808 (.node .dead (.node .dead tr_825 tr_14) tr_809)) tr_815)))⟩
noncomputable def mo_34 : List CO := [(.ret (.tuple ⟨[(.pointer (some ⟨1599, 0, none⟩)), (.int .i64 0)]⟩) ⟨1600, tr_854⟩)]
theorem me_34 : fewOK (xcall Try.prog tabS 1000 60 (.fn 17) ma_34 mh_34) mo_34 = true := by kernel_rfl
noncomputable def ma_35 : List Value := [(.pointer (some ⟨1599, 0, none⟩))]
noncomputable def mh_35 : Heap := ⟨1600, tr_854⟩
noncomputable def mo_35 : List CO := [(.ret (.int .i64 0) ⟨1638, (.node .dead (.node ob_2 (.node (.cells [(.int .i64 1), (.int .i64 4), (.int .i64 7)] 0) (.node .dead tr_855 (.node .dead (.node .dead tr_858 tr_828) tr_862)) tr_865) tr_871) (.node ob_3 tr_874 (.node .dead tr_878 (.node .dead (.node .dead (.node .dead tr_879 tr_103) tr_880) tr_882))))⟩)]
theorem me_35 : fewOK (xcall Try.prog tabS 1000 60 (.fn 11) ma_35 mh_35) mo_35 = true := by kernel_rfl
noncomputable def ma_36 : List Value := [(.pointer (some ⟨1599, 0, none⟩)), (.int .i64 4), va_54]
noncomputable def mh_36 : Heap := ⟨1640, (.node .dead (.node ob_2 (.node (.cells [(.int .i64 1), (.int .i64 4), (.int .i64 7)] 0) (.node .dead tr_855 (.node .dead (.node .dead tr_858 (.node .dead tr_36 tr_883)) tr_862)) tr_865) tr_871) (.node ob_3 tr_874 (.node .dead tr_878 (.node .dead (.node .dead (.node .dead tr_879 (.node .dead tr_36 tr_887)) tr_880) tr_882))))⟩
noncomputable def mo_36 : List CO := [(.ret (.int .i64 0) ⟨1719, (.node .dead (.node ob_2 (.node (.cells [(.int .i64 1), (.int .i64 4), (.int .i64 7)] 0) (.node .dead tr_896 (.node .dead tr_899 (.node ob_21 tr_900 tr_37))) tr_906) tr_915) (.node ob_3 (.node .dead (.node .dead tr_920 (.node .dead tr_922 tr_318)) tr_926) tr_945))⟩)]
theorem me_36 : fewOK (xcall Try.prog tabS 1000 60 (.fn 9) ma_36 mh_36) mo_36 = true := by kernel_rfl
end Go.Proofs.Ytlckmpioipiihaa.R
