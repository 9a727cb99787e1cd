/- Remembered calls. -/
import Derived.Test.YtbmpalbdbcjieaaGreatGHB0
namespace Go.Proofs.YtbmpalbdbcjieaaGreat.R
open Go Go.Vm
set_option maxRecDepth 100000
noncomputable def ma_13 : List Value := [(.slice (some ⟨655, 0, none⟩) 2 2)]
noncomputable def mh_13 : Heap := ⟨656, (.node .dead (.node .dead (.node .dead (.node .dead tr_250 tr_218) tr_227) tr_253) (.node ob_3 tr_239 tr_259))⟩
noncomputable def mo_13 : List CO := [(.ret (.tuple ⟨[(.slice (some ⟨685, 0, (some 0)⟩) 14 14), (.int .i64 0)]⟩) ⟨686, (.node .dead (.node .dead (.node .dead (.node .dead tr_262 tr_265) tr_269) tr_276) (.node ob_3 tr_280 tr_286))⟩)]
theorem me_13 : fewOK (xcall Tryz.prog tabS 1000 60 (.fn 23) ma_13 mh_13) mo_13 = true := by kernel_rfl
noncomputable def ma_14 : List Value := [va_1, (.slice (some ⟨687, 0, none⟩) 2 2)]
noncomputable def mh_14 : Heap := ⟨688, (.node .dead (.node .dead (.node .dead (.node .dead tr_287 tr_265) tr_269) tr_276) (.node ob_3 tr_280 tr_289))⟩
noncomputable def mo_14 : List CO := [(.ret (.tuple ⟨[va_29, (.int .i64 0)]⟩) ⟨772, (.node .dead tr_308 (.node ob_3 (.node .dead tr_310 (.node .dead tr_312 tr_313)) tr_314))⟩)]
theorem me_14 : fewOK (xcall Tryz.prog tabS 1000 60 (.fn 9) ma_14 mh_14) mo_14 = true := by kernel_rfl
noncomputable def ma_15 : List Value := [va_29]
noncomputable def mh_15 : Heap := ⟨773, (.node .dead tr_308 (.node ob_3 (.node .dead tr_310 (.node .dead tr_317 tr_313)) tr_314))⟩
noncomputable def mo_15 : List CO := [(.ret (.tuple ⟨[(.slice (some ⟨901, 0, (some 0)⟩) 190 190), (.int .i64 0)]⟩) ⟨902, tr_347⟩)]
theorem me_15 : fewOK (xcall Tryz.prog tabS 1000 60 (.fn 22) ma_15 mh_15) mo_15 = true := by kernel_rfl
noncomputable def ma_16 : List Value := [(.slice (some ⟨901, 0, (some 0)⟩) 190 190)]
noncomputable def mh_16 : Heap := ⟨902, tr_347⟩
noncomputable def mo_16 : List CO := [(.ret (.tuple ⟨[va_31, (.agg ⟨[(.int .i64 0), (.int .i64 0)]⟩)]⟩) ⟨1040, (.node .dead (.node .dead (.node .dead (.node .dead tr_351 (.node .dead tr_354 (.node .dead (.node ob_8 (.node .dead tr_21 tr_339) tr_162) tr_355))) tr_366) tr_376) (.node ob_3 (.node .dead tr_379 (.node .dead tr_382 (.node .dead tr_383 tr_375))) tr_389))⟩)]
theorem me_16 : fewOK (xcall Tryz.prog tabS 1000 60 (.fn 15) ma_16 mh_16) mo_16 = true := by kernel_rfl
noncomputable def ma_17 : List Value := [va_29]
noncomputable def mh_17 : Heap := ⟨1054, (.node .dead (.node .dead (.node .dead (.node .dead tr_351 (.node .dead tr_354 (.node .dead (.node ob_8 tr_392 tr_162) tr_355))) tr_402) tr_417) (.node ob_3 (.node .dead tr_424 (.node .dead tr_425 (.node .dead tr_383 tr_416))) tr_427))⟩
noncomputable def mo_17 : List CO := [(.ret (.int .i64 0) ⟨1163, (.node .dead (.node .dead (.node .dead (.node .dead tr_432 tr_436) tr_448) tr_457) (.node ob_3 (.node .dead tr_461 (.node .dead tr_463 (.node .dead (.node .dead tr_443 tr_464) tr_456))) tr_473))⟩)]
theorem me_17 : fewOK (xcall Tryz.prog tabS 1000 60 (.fn 21) ma_17 mh_17) mo_17 = true := by kernel_rfl
noncomputable def ma_18 : List Value := [va_37]
noncomputable def mh_18 : Heap := ⟨1174, (.node .dead (.node .dead (.node .dead (.node .dead tr_478 tr_436) tr_485) tr_494) (.node ob_3 (.node .dead tr_498 (.node .dead tr_502 (.node .dead (.node .dead tr_484 tr_464) tr_456))) tr_507))⟩
noncomputable def mo_18 : List CO := [(.ret (.int .i64 0) ⟨1290, (.node .dead (.node .dead (.node .dead (.node .dead tr_512 tr_518) tr_529) tr_538) (.node ob_3 (.node .dead tr_541 (.node .dead tr_544 (.node .dead (.node .dead tr_524 tr_545) tr_537))) tr_553))⟩)]
theorem me_18 : fewOK (xcall Tryz.prog tabS 1000 60 (.fn 21) ma_18 mh_18) mo_18 = true := by kernel_rfl
end Go.Proofs.YtbmpalbdbcjieaaGreat.R
