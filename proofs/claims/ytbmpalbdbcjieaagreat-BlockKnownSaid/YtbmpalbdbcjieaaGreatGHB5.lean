/- Remembered calls. -/
import Derived.Test.YtbmpalbdbcjieaaGreatGHB0
namespace Go.Proofs.YtbmpalbdbcjieaaGreat.R
open Go Go.Vm
set_option maxRecDepth 100000
noncomputable def ma_25 : List Value := [(.slice (some ⟨536, 0, (some 0)⟩) 189 190)]
noncomputable def mh_25 : Heap := ⟨551, (.node .dead (.node .dead tr_710 tr_205) (.node ob_3 tr_711 tr_209))⟩
noncomputable def mo_25 : List CO := [(.ret (.tuple ⟨[va_23, (.agg ⟨[(.int .i64 6), (.int .i64 174)]⟩)]⟩) ⟨653, (.node .dead (.node .dead (.node .dead tr_713 tr_227) tr_234) (.node ob_3 tr_714 tr_246))⟩)]
theorem me_25 : fewOK (xcall Tryz.prog tabS 1000 60 (.fn 15) ma_25 mh_25) mo_25 = true := by kernel_rfl
noncomputable def ma_26 : List Value := [(.slice (some ⟨655, 0, none⟩) 2 2)]
noncomputable def mh_26 : Heap := ⟨656, (.node .dead (.node .dead (.node .dead tr_715 tr_227) tr_253) (.node ob_3 tr_714 tr_259))⟩
noncomputable def mo_26 : List CO := [(.ret (.tuple ⟨[(.slice (some ⟨685, 0, (some 0)⟩) 14 14), (.int .i64 0)]⟩) ⟨686, (.node .dead (.node .dead (.node .dead tr_717 tr_269) tr_276) (.node ob_3 tr_718 tr_286))⟩)]
theorem me_26 : fewOK (xcall Tryz.prog tabS 1000 60 (.fn 23) ma_26 mh_26) mo_26 = true := by kernel_rfl
noncomputable def ma_27 : List Value := [va_1, (.slice (some ⟨687, 0, none⟩) 2 2)]
noncomputable def mh_27 : Heap := ⟨688, (.node .dead (.node .dead (.node .dead tr_719 tr_269) tr_276) (.node ob_3 tr_718 tr_289))⟩
noncomputable def mo_27 : List CO := [(.ret (.tuple ⟨[va_29, (.int .i64 0)]⟩) ⟨772, (.node .dead tr_721 (.node ob_3 (.node .dead tr_310 (.node .dead tr_312 tr_722)) tr_314))⟩)]
theorem me_27 : fewOK (xcall Tryz.prog tabS 1000 60 (.fn 9) ma_27 mh_27) mo_27 = true := by kernel_rfl
noncomputable def ma_28 : List Value := [va_29]
noncomputable def mh_28 : Heap := ⟨773, (.node .dead tr_721 (.node ob_3 (.node .dead tr_310 (.node .dead tr_317 tr_722)) tr_314))⟩
noncomputable def mo_28 : List CO := [(.ret (.tuple ⟨[(.slice (some ⟨901, 0, (some 0)⟩) 190 190), (.int .i64 0)]⟩) ⟨902, tr_724⟩)]
theorem me_28 : fewOK (xcall Tryz.prog tabS 1000 60 (.fn 22) ma_28 mh_28) mo_28 = true := by kernel_rfl
noncomputable def ma_29 : List Value := [(.slice (some ⟨901, 0, (some 0)⟩) 190 190)]
noncomputable def mh_29 : Heap := ⟨902, tr_724⟩
noncomputable def mo_29 : List CO := [(.ret (.tuple ⟨[va_31, (.agg ⟨[(.int .i64 0), (.int .i64 0)]⟩)]⟩) ⟨1040, (.node .dead (.node .dead (.node .dead tr_725 tr_366) tr_376) (.node ob_3 (.node .dead tr_379 (.node .dead tr_382 (.node .dead tr_726 tr_375))) tr_389))⟩)]
theorem me_29 : fewOK (xcall Tryz.prog tabS 1000 60 (.fn 15) ma_29 mh_29) mo_29 = true := by kernel_rfl
noncomputable def ma_30 : List Value := [va_29]
noncomputable def mh_30 : Heap := ⟨1054, (.node .dead (.node .dead (.node .dead tr_727 tr_402) tr_417) (.node ob_3 (.node .dead tr_424 (.node .dead tr_425 (.node .dead tr_726 tr_416))) tr_427))⟩
noncomputable def mo_30 : List CO := [(.ret (.int .i64 0) ⟨1163, (.node .dead (.node .dead (.node .dead tr_729 tr_448) tr_457) (.node ob_3 (.node .dead tr_461 (.node .dead tr_463 (.node .dead (.node .dead tr_443 tr_730) tr_456))) tr_473))⟩)]
theorem me_30 : fewOK (xcall Tryz.prog tabS 1000 60 (.fn 21) ma_30 mh_30) mo_30 = true := by kernel_rfl
end Go.Proofs.YtbmpalbdbcjieaaGreat.R
