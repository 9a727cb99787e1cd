/- Remembered calls. -/
import Derived.Test.YtagmnpeilgnbdaaGX0
namespace Go.Proofs.Ytagmnpeilgnbdaa.R
open Go Go.Vm
set_option maxRecDepth 100000
noncomputable def ma_17 : List Value := [(.pointer (some ⟨8, 0, none⟩)), (.agg ⟨z32⟩)]
noncomputable def mh_17 : Heap := ⟨133, (.node .dead tr_126 (.node ob_3 tr_111 tr_127))⟩
noncomputable def mo_17 : List CO := [(.ret (.slice (some ⟨158, 0, (some 0)⟩) 1 1) ⟨161, (.node .dead (.node ob_1 tr_129 (.node ob_3 tr_56 tr_141)) tr_142)⟩)]
theorem me_17 : fewOK (xcall Try.prog table.get 1000 60 (.fn 16) ma_17 mh_17) mo_17 = true := by kernel_rfl
noncomputable def ma_18 : List Value := [(.slice (some ⟨161, 0, none⟩) 2 2)]
noncomputable def mh_18 : Heap := ⟨162, (.node .dead (.node ob_1 tr_129 (.node ob_3 tr_73 tr_141)) tr_142)⟩
noncomputable def mo_18 : List CO := [(.ret (.tuple ⟨[(.pointer none), (.agg ⟨[(.int .i64 6), (.int .i64 2)]⟩)]⟩) ⟨184, (.node .dead tr_143 (.node ob_3 tr_119 tr_144))⟩)]
theorem me_18 : fewOK (xcall Try.prog table.get 1000 60 (.fn 25) ma_18 mh_18) mo_18 = true := by kernel_rfl
noncomputable def ma_19 : List Value := [(.slice (some ⟨84, 0, (some 0)⟩) 90 90)]
noncomputable def mh_19 : Heap := ⟨185, (.node .dead tr_143 (.node ob_3 tr_122 tr_144))⟩
noncomputable def mo_19 : List CO := [(.ret (.tuple ⟨[(.pointer none), (.agg ⟨[(.int .i64 9), (.int .i64 46)]⟩)]⟩) ⟨229, (.node .dead (.node ob_1 tr_138 (.node ob_3 tr_99 (.node .dead tr_100 (.node .dead tr_139 tr_25)))) (.node ob_3 tr_123 (.node ob_2 tr_140 tr_124)))⟩)]
theorem me_19 : fewOK (xcall Try.prog table.get 1000 60 (.fn 25) ma_19 mh_19) mo_19 = true := by kernel_rfl
end Go.Proofs.Ytagmnpeilgnbdaa.R
