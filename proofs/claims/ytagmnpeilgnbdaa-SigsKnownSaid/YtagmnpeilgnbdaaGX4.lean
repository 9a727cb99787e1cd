/- Remembered calls. -/
import Derived.Test.YtagmnpeilgnbdaaGX0
namespace Go.Proofs.Ytagmnpeilgnbdaa.R
open Go Go.Vm
set_option maxRecDepth 100000
noncomputable def ma_13 : List Value := [(.pointer (some ⟨8, 0, none⟩))]
noncomputable def mh_13 : Heap := ⟨110, (.node .dead (.node ob_1 tr_27 (.node ob_3 tr_28 (.node .dead tr_29 (.node .dead tr_125 tr_2)))) tr_30)⟩
noncomputable def mo_13 : List CO := [(.ret (.slice (some ⟨131, 0, (some 0)⟩) 2 2) ⟨132, tr_128⟩)]
theorem me_13 : fewOK (xcall Try.prog table.get 1000 60 (.fn 18) ma_13 mh_13) mo_13 = true := by kernel_rfl
noncomputable def ma_14 : List Value := [(.pointer (some ⟨8, 0, none⟩)), (.agg ⟨z32⟩)]
noncomputable def mh_14 : Heap := ⟨132, tr_128⟩
noncomputable def mo_14 : List CO := [(.ret (.slice (some ⟨157, 0, (some 0)⟩) 1 1) ⟨160, (.node .dead (.node ob_1 tr_129 (.node ob_3 tr_56 tr_131)) (.node ob_3 tr_67 tr_132))⟩)]
theorem me_14 : fewOK (xcall Try.prog table.get 1000 60 (.fn 16) ma_14 mh_14) mo_14 = true := by kernel_rfl
noncomputable def ma_15 : List Value := [(.slice (some ⟨161, 0, none⟩) 2 2)]
noncomputable def mh_15 : Heap := ⟨162, (.node .dead (.node ob_1 tr_129 (.node ob_3 tr_73 tr_131)) (.node ob_3 tr_77 tr_132))⟩
noncomputable def mo_15 : List CO := [(.ret (.tuple ⟨[(.pointer none), (.agg ⟨[(.int .i64 6), (.int .i64 2)]⟩)]⟩) ⟨184, (.node .dead tr_136 (.node ob_3 tr_89 tr_137))⟩)]
theorem me_15 : fewOK (xcall Try.prog table.get 1000 60 (.fn 25) ma_15 mh_15) mo_15 = true := by kernel_rfl
noncomputable def ma_16 : List Value := [(.slice (some ⟨84, 0, (some 0)⟩) 90 90)]
noncomputable def mh_16 : Heap := ⟨185, (.node .dead tr_136 (.node ob_3 tr_95 tr_137))⟩
noncomputable def mo_16 : List CO := [(.ret (.tuple ⟨[(.pointer none), (.agg ⟨[(.int .i64 9), (.int .i64 46)]⟩)]⟩) ⟨229, (.node .dead (.node ob_1 tr_138 (.node ob_3 tr_99 (.node .dead tr_100 (.node .dead tr_139 tr_101)))) (.node ob_3 tr_107 (.node ob_2 tr_140 tr_109)))⟩)]
theorem me_16 : fewOK (xcall Try.prog table.get 1000 60 (.fn 25) ma_16 mh_16) mo_16 = true := by kernel_rfl
end Go.Proofs.Ytagmnpeilgnbdaa.R
