/- Remembered calls. -/
import Derived.Test.YtbmpalbdbcjieaaGreatGHB0
namespace Go.Proofs.YtbmpalbdbcjieaaGreat.R
open Go Go.Vm
set_option maxRecDepth 100000
noncomputable def ma_37 : List Value := [(.slice none 0 0)]
noncomputable def mh_37 : Heap := ⟨537, tr_750⟩
noncomputable def mo_37 : List CO := [(.ret (.tuple ⟨[va_23, (.agg ⟨[(.int .i64 6), (.int .i64 0)]⟩)]⟩) ⟨549, (.node .dead (.node .dead tr_751 tr_197) (.node ob_3 tr_752 tr_203))⟩)]
theorem me_37 : fewOK (xcall Tryz.prog tabS 1000 60 (.fn 15) ma_37 mh_37) mo_37 = true := by kernel_rfl
noncomputable def ma_38 : List Value := [(.slice (some ⟨536, 0, (some 0)⟩) 189 190)]
noncomputable def mh_38 : Heap := ⟨551, (.node .dead (.node .dead tr_751 tr_205) (.node ob_3 tr_752 tr_209))⟩
noncomputable def mo_38 : List CO := [(.ret (.tuple ⟨[va_23, (.agg ⟨[(.int .i64 6), (.int .i64 174)]⟩)]⟩) ⟨653, (.node .dead (.node .dead (.node .dead tr_713 tr_753) tr_234) (.node ob_3 tr_754 tr_246))⟩)]
theorem me_38 : fewOK (xcall Tryz.prog tabS 1000 60 (.fn 15) ma_38 mh_38) mo_38 = true := by kernel_rfl
noncomputable def ma_39 : List Value := [(.slice (some ⟨655, 0, none⟩) 2 2)]
noncomputable def mh_39 : Heap := ⟨656, (.node .dead (.node .dead (.node .dead tr_715 tr_753) tr_253) (.node ob_3 tr_754 tr_259))⟩
noncomputable def mo_39 : List CO := [(.ret (.tuple ⟨[(.slice (some ⟨685, 0, (some 0)⟩) 14 14), (.int .i64 0)]⟩) ⟨686, (.node .dead (.node .dead (.node .dead tr_717 tr_755) tr_276) (.node ob_3 tr_756 tr_286))⟩)]
theorem me_39 : fewOK (xcall Tryz.prog tabS 1000 60 (.fn 23) ma_39 mh_39) mo_39 = true := by kernel_rfl
noncomputable def ma_40 : List Value := [va_1, (.slice (some ⟨687, 0, none⟩) 2 2)]
noncomputable def mh_40 : Heap := ⟨688, (.node .dead (.node .dead (.node .dead tr_719 tr_755) tr_276) (.node ob_3 tr_756 tr_289))⟩
noncomputable def mo_40 : List CO := [(.ret (.tuple ⟨[va_29, (.int .i64 0)]⟩) ⟨772, (.node .dead tr_757 (.node ob_3 (.node .dead tr_310 (.node .dead tr_312 tr_758)) tr_314))⟩)]
theorem me_40 : fewOK (xcall Tryz.prog tabS 1000 60 (.fn 9) ma_40 mh_40) mo_40 = true := by kernel_rfl
noncomputable def ma_41 : List Value := [va_29]
noncomputable def mh_41 : Heap := ⟨773, (.node .dead tr_757 (.node ob_3 (.node .dead tr_310 (.node .dead tr_317 tr_758)) tr_314))⟩
noncomputable def mo_41 : List CO := [(.ret (.tuple ⟨[(.slice (some ⟨901, 0, (some 0)⟩) 190 190), (.int .i64 0)]⟩) ⟨902, tr_759⟩)]
theorem me_41 : fewOK (xcall Tryz.prog tabS 1000 60 (.fn 22) ma_41 mh_41) mo_41 = true := by kernel_rfl
noncomputable def ma_42 : List Value := [(.slice (some ⟨901, 0, (some 0)⟩) 190 190)]
noncomputable def mh_42 : Heap := ⟨902, tr_759⟩
noncomputable def mo_42 : List CO := [(.ret (.tuple ⟨[va_31, (.agg ⟨[(.int .i64 0), (.int .i64 0)]⟩)]⟩) ⟨1040, (.node .dead (.node .dead (.node .dead tr_725 (.node .dead tr_362 (.node .dead tr_760 tr_365))) tr_376) (.node ob_3 (.node .dead tr_379 (.node .dead tr_382 (.node .dead tr_761 tr_375))) tr_389))⟩)]
theorem me_42 : fewOK (xcall Tryz.prog tabS 1000 60 (.fn 15) ma_42 mh_42) mo_42 = true := by kernel_rfl
end Go.Proofs.YtbmpalbdbcjieaaGreat.R
