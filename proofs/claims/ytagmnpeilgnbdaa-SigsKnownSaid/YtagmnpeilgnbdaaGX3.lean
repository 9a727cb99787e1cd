/- Remembered calls. -/
import Derived.Test.YtagmnpeilgnbdaaGX0
namespace Go.Proofs.Ytagmnpeilgnbdaa.R
open Go Go.Vm
set_option maxRecDepth 100000
noncomputable def ma_9 : List Value := [(.slice (some ⟨84, 0, (some 0)⟩) 90 90)]
noncomputable def mh_9 : Heap := ⟨185, (.node .dead tr_84 (.node ob_3 tr_95 tr_92))⟩
noncomputable def mo_9 : List CO := [(.ret (.tuple ⟨[(.pointer none), (.agg ⟨[(.int .i64 9), (.int .i64 46)]⟩)]⟩) ⟨229, (.node .dead (.node ob_1 tr_98 (.node ob_3 tr_99 (.node .dead tr_100 tr_102))) (.node ob_3 tr_107 (.node ob_2 tr_108 tr_109)))⟩)]
theorem me_9 : fewOK (xcall Try.prog table.get 1000 60 (.fn 25) ma_9 mh_9) mo_9 = true := by kernel_rfl
noncomputable def ma_10 : List Value := [(.pointer (some ⟨8, 0, none⟩)), (.agg ⟨z32⟩)]
noncomputable def mh_10 : Heap := ⟨133, (.node .dead tr_51 (.node ob_3 tr_111 tr_46))⟩
noncomputable def mo_10 : List CO := [(.ret (.slice (some ⟨158, 0, (some 0)⟩) 1 1) ⟨161, (.node .dead (.node ob_1 tr_53 (.node ob_3 tr_56 tr_112)) tr_115)⟩)]
theorem me_10 : fewOK (xcall Try.prog table.get 1000 60 (.fn 16) ma_10 mh_10) mo_10 = true := by kernel_rfl
noncomputable def ma_11 : List Value := [(.slice (some ⟨161, 0, none⟩) 2 2)]
noncomputable def mh_11 : Heap := ⟨162, (.node .dead (.node ob_1 tr_53 (.node ob_3 tr_73 tr_112)) tr_115)⟩
noncomputable def mo_11 : List CO := [(.ret (.tuple ⟨[(.pointer none), (.agg ⟨[(.int .i64 6), (.int .i64 2)]⟩)]⟩) ⟨184, (.node .dead tr_116 (.node ob_3 tr_119 tr_121))⟩)]
theorem me_11 : fewOK (xcall Try.prog table.get 1000 60 (.fn 25) ma_11 mh_11) mo_11 = true := by kernel_rfl
noncomputable def ma_12 : List Value := [(.slice (some ⟨84, 0, (some 0)⟩) 90 90)]
noncomputable def mh_12 : Heap := ⟨185, (.node .dead tr_116 (.node ob_3 tr_122 tr_121))⟩
noncomputable def mo_12 : List CO := [(.ret (.tuple ⟨[(.pointer none), (.agg ⟨[(.int .i64 9), (.int .i64 46)]⟩)]⟩) ⟨229, (.node .dead (.node ob_1 tr_98 (.node ob_3 tr_99 (.node .dead tr_100 tr_26))) (.node ob_3 tr_123 (.node ob_2 tr_108 tr_124)))⟩)]
theorem me_12 : fewOK (xcall Try.prog table.get 1000 60 (.fn 25) ma_12 mh_12) mo_12 = true := by kernel_rfl
end Go.Proofs.Ytagmnpeilgnbdaa.R
