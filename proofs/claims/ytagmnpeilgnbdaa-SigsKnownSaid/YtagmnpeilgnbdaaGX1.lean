/- Remembered calls. -/
import Derived.Test.YtagmnpeilgnbdaaGX0
namespace Go.Proofs.Ytagmnpeilgnbdaa.R
open Go Go.Vm
set_option maxRecDepth 100000
noncomputable def ma_1 : List Value := [(.pointer (some ⟨8, 0, none⟩))]
noncomputable def mh_1 : Heap := ⟨9, (.node .dead (.node ob_1 (.node ob_2 (.node (.map [] 0) .nil .nil) .nil) (.node ob_3 .nil .nil)) (.node ob_3 (.node ob_1 (.node (.cells [(.int .i64 2), (.map (some 7))] 0) .nil .nil) .nil) (.node ob_2 .nil .nil)))⟩
noncomputable def mo_1 : List CO := [(.ret (.tuple ⟨[(.slice (some ⟨20, 0, (some 0)⟩) 1 1), (.int .i64 0)]⟩) ⟨21, (.node .dead (.node ob_1 tr_3 (.node ob_3 tr_2 tr_1)) tr_5)⟩)]
theorem me_1 : fewOK (xcall Try.prog table.get 1000 60 (.fn 14) ma_1 mh_1) mo_1 = true := by kernel_rfl
noncomputable def ma_2 : List Value := [(.pointer (some ⟨8, 0, none⟩)), va_4]
noncomputable def mh_2 : Heap := ⟨22, (.node .dead (.node ob_1 tr_3 tr_7) tr_5)⟩
noncomputable def mo_2 : List CO := [(.ret (.int .i64 0) ⟨25, tr_9⟩)]
theorem me_2 : fewOK (xcall Try.prog table.get 1000 60 (.fn 11) ma_2 mh_2) mo_2 = true := by kernel_rfl
noncomputable def ma_3 : List Value := [(.pointer (some ⟨8, 0, none⟩)), va_5]
noncomputable def mh_3 : Heap := ⟨25, tr_9⟩
noncomputable def mo_3 : List CO := [(.ret (.int .i64 0) ⟨28, tr_11⟩)]
theorem me_3 : fewOK (xcall Try.prog table.get 1000 60 (.fn 11) ma_3 mh_3) mo_3 = true := by kernel_rfl
noncomputable def ma_4 : List Value := [(.pointer (some ⟨8, 0, none⟩))]
noncomputable def mh_4 : Heap := ⟨28, tr_11⟩
noncomputable def mo_4 : List CO := [(.ret (.tuple ⟨[(.slice (some ⟨80, 0, (some 0)⟩) 90 90), (.int .i64 0)]⟩) ⟨81, (.node .dead (.node ob_1 (.node ob_2 tr_14 tr_15) (.node ob_3 tr_15 tr_16)) (.node ob_3 (.node ob_1 tr_19 (.node .dead (.node (.cells [(.int .u8 0)] 1) tr_2 tr_1) tr_13)) (.node ob_2 tr_15 tr_15)))⟩)]
theorem me_4 : fewOK (xcall Try.prog table.get 1000 60 (.fn 14) ma_4 mh_4) mo_4 = true := by kernel_rfl
end Go.Proofs.Ytagmnpeilgnbdaa.R
