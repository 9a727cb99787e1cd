/- Remembered calls. -/
import Derived.Test.YtagmnpeilgnbdaaGX0
namespace Go.Proofs.Ytagmnpeilgnbdaa.R
open Go Go.Vm
set_option maxRecDepth 100000
noncomputable def ma_5 : List Value := []
noncomputable def mh_5 : Heap := ⟨85, (.node .dead (.node ob_1 (.node ob_2 tr_14 tr_20) (.node ob_3 (.node .dead (.node .dead tr_2 tr_22) tr_13) tr_16)) (.node ob_3 (.node ob_1 tr_19 (.node .dead (.node (.cells [(.int .u8 0)] 1) tr_2 tr_24) tr_13)) (.node ob_2 tr_20 tr_15)))⟩
noncomputable def mo_5 : List CO := [(.ret (.bool true) ⟨109, tr_31⟩)]
theorem me_5 : fewOK (xcall Try.prog table.get 1000 60 (.fn 8) ma_5 mh_5) mo_5 = true := by kernel_rfl
noncomputable def ma_6 : List Value := [(.pointer (some ⟨8, 0, none⟩))]
noncomputable def mh_6 : Heap := ⟨109, tr_31⟩
noncomputable def mo_6 : List CO := [(.ret (.slice (some ⟨130, 0, (some 0)⟩) 2 2) ⟨131, (.node .dead (.node ob_1 (.node ob_2 tr_34 tr_35) tr_38) tr_47)⟩)]
theorem me_6 : fewOK (xcall Try.prog table.get 1000 60 (.fn 18) ma_6 mh_6) mo_6 = true := by kernel_rfl
noncomputable def ma_7 : List Value := [(.pointer (some ⟨8, 0, none⟩)), (.agg ⟨z32⟩)]
noncomputable def mh_7 : Heap := ⟨132, (.node .dead tr_51 tr_47)⟩
noncomputable def mo_7 : List CO := [(.ret (.slice (some ⟨157, 0, (some 0)⟩) 1 1) ⟨160, (.node .dead (.node ob_1 tr_53 (.node ob_3 tr_56 tr_61)) (.node ob_3 tr_67 tr_70))⟩)]
theorem me_7 : fewOK (xcall Try.prog table.get 1000 60 (.fn 16) ma_7 mh_7) mo_7 = true := by kernel_rfl
noncomputable def ma_8 : List Value := [(.slice (some ⟨161, 0, none⟩) 2 2)]
noncomputable def mh_8 : Heap := ⟨162, (.node .dead (.node ob_1 tr_53 (.node ob_3 tr_73 tr_61)) (.node ob_3 tr_77 tr_70))⟩
noncomputable def mo_8 : List CO := [(.ret (.tuple ⟨[(.pointer none), (.agg ⟨[(.int .i64 6), (.int .i64 2)]⟩)]⟩) ⟨184, (.node .dead tr_84 (.node ob_3 tr_89 tr_92))⟩)]
theorem me_8 : fewOK (xcall Try.prog table.get 1000 60 (.fn 25) ma_8 mh_8) mo_8 = true := by kernel_rfl
end Go.Proofs.Ytagmnpeilgnbdaa.R
