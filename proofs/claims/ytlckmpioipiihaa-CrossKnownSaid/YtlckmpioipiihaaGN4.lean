/- Remembered calls. -/
import Derived.Test.YtlckmpioipiihaaGN0
namespace Go.Proofs.Ytlckmpioipiihaa.R
open Go Go.Vm
set_option maxRecDepth 100000
noncomputable def ma_19 : List Value := [va_29, (.slice none 0 0)]
noncomputable def mh_19 : Heap := ⟨788, (.node .dead (.node ob_2 (.node (.cells [(.int .i64 1), (.int .i64 4), (.int .i64 7)] 0) tr_277 (.node .dead (.node .dead tr_103 (.node .dead tr_294 tr_13)) tr_279)) (.node .dead (.node .dead (.node .dead tr_280 (.node .dead tr_298 tr_13)) tr_281) tr_284)) (.node ob_3 tr_288 (.node .dead (.node .dead (.node .dead tr_103 (.node .dead tr_302 tr_13)) tr_289) tr_293)))⟩
noncomputable def mo_19 : List CO := [(.ret (.tuple ⟨[(.pointer (some ⟨839, 0, none⟩)), (.int .i64 0)]⟩) ⟨840, (.node .dead (.node ob_2 tr_313 (.node .dead (.node .dead tr_314 (.node .dead tr_37 tr_317)) tr_319)) (.node ob_3 (.node .dead (.node .dead tr_322 (.node .dead (.node .dead tr_36 tr_323) tr_37)) tr_324) (.node .dead (.node .dead tr_325 (.node .dead tr_37 tr_326)) tr_329)))⟩)]
theorem me_19 : fewOK (xcall Try.prog tabS 1000 60 (.fn 17) ma_19 mh_19) mo_19 = true := by kernel_rfl
noncomputable def ma_20 : List Value := [va_33, (.slice (some ⟨842, 0, none⟩) 1 1)]
noncomputable def mh_20 : Heap := ⟨843, (.node .dead (.node ob_2 tr_313 (.node .dead (.node .dead tr_314 (.node .dead tr_331 tr_317)) tr_319)) (.node ob_3 (.node .dead (.node .dead tr_322 (.node .dead (.node .dead tr_334 tr_323) tr_37)) tr_324) (.node .dead (.node .dead tr_325 (.node .dead (.node .dead tr_337 tr_36) tr_326)) tr_329)))⟩
noncomputable def mo_20 : List CO := [(.ret (.tuple ⟨[(.pointer (some ⟨894, 0, none⟩)), (.int .i64 0)]⟩) ⟨895, (.node .dead (.node ob_2 (.node (.cells [(.int .i64 1), (.int .i64 4), (.int .i64 7)] 0) (.node .dead (.node .dead tr_339 tr_343) tr_346) (.node .dead (.node .dead tr_347 tr_349) tr_351)) (.node .dead (.node .dead (.node .dead (.node .dead tr_9 tr_353) tr_354) tr_356) tr_358)) (.node ob_3 (.node .dead (.node .dead (.node .dead tr_347 tr_360) tr_361) (.node .dead tr_357 tr_357)) (.node .dead (.node .dead (.node .dead tr_347 tr_362) tr_363) tr_365)))⟩)]
theorem me_20 : fewOK (xcall Try.prog tabS 1000 60 (.fn 17) ma_20 mh_20) mo_20 = true := by kernel_rfl
noncomputable def ma_21 : List Value := [(.pointer (some ⟨839, 0, none⟩))]
noncomputable def mh_21 : Heap := ⟨901, (.node .dead (.node ob_2 (.node (.cells [(.int .i64 1), (.int .i64 4), (.int .i64 7)] 0) (.node .dead (.node .dead (.node .dead tr_369 tr_338) tr_343) tr_346) (.node .dead (.node .dead tr_373 tr_349) tr_351)) (.node .dead (.node .dead (.node .dead (.node .dead (.node .dead tr_374 tr_8) tr_353) tr_354) tr_356) tr_358)) (.node ob_3 (.node .dead (.node .dead (.node .dead (.node .dead (.node .dead tr_142 tr_8) tr_9) tr_360) tr_361) (.node .dead (.node .dead tr_373 tr_347) tr_357)) (.node .dead (.node .dead (.node .dead (.node .dead tr_369 tr_9) tr_362) tr_363) tr_365)))⟩
noncomputable def mo_21 : List CO := [(.ret (.int .i64 2) ⟨989, tr_404⟩)]
theorem me_21 : fewOK (xcall Try.prog tabS 1000 60 (.fn 11) ma_21 mh_21) mo_21 = true := by kernel_rfl
noncomputable def ma_22 : List Value := [(.pointer (some ⟨894, 0, none⟩)), (.int .i64 1)]
noncomputable def mh_22 : Heap := ⟨989, tr_404⟩
noncomputable def mo_22 : List CO := [(.ret (.int .i64 0) ⟨1013, tr_416⟩)]
theorem me_22 : fewOK (xcall Try.prog tabS 1000 60 (.fn 10) ma_22 mh_22) mo_22 = true := by kernel_rfl
noncomputable def ma_23 : List Value := [(.pointer (some ⟨894, 0, none⟩))]
noncomputable def mh_23 : Heap := ⟨1013, tr_416⟩
noncomputable def mo_23 : List CO := [(.ret (.int .i64 2) ⟨1109, (.node .dead (.node ob_2 (.node (.cells [(.int .i64 1), (.int .i64 4), (.int .i64 7)] 0) (.node .dead tr_420 (.node .dead tr_423 (.node ob_21 tr_424 tr_59))) tr_430) (.node .dead tr_435 (.node .dead tr_177 tr_437))) (.node ob_3 tr_443 (.node .dead tr_448 (.node .dead (.node .dead tr_451 (.node .dead (.node .dead tr_452 tr_48) tr_59)) tr_456))))⟩)]
theorem me_23 : fewOK (xcall Try.prog tabS 1000 60 (.fn 11) ma_23 mh_23) mo_23 = true := by kernel_rfl
noncomputable def ma_24 : List Value := [va_39, (.slice (some ⟨1111, 0, none⟩) 2 2)]
noncomputable def mh_24 : Heap := ⟨1112, (.node .dead (.node ob_2 (.node (.cells [(.int .i64 1), (.int .i64 4), (.int .i64 7)] 0) (.node .dead tr_420 (.node .dead tr_423 (.node ob_21 tr_461 tr_59))) tr_430) (.node .dead tr_435 (.node .dead (.node .dead tr_172 (.node .dead tr_466 tr_59)) tr_437))) (.node ob_3 tr_443 (.node .dead tr_448 (.node .dead (.node .dead tr_451 (.node .dead tr_467 tr_59)) tr_456))))⟩
noncomputable def mo_24 : List CO := [(.ret (.tuple ⟨[(.pointer none), (.int .i64 9)]⟩) ⟨1164, (.node .dead (.node ob_2 tr_481 (.node .dead tr_485 (.node .dead tr_486 (.node .dead (.node .dead tr_436 tr_171) tr_187)))) (.node ob_3 (.node .dead tr_488 (.node .dead tr_489 tr_194)) (.node .dead tr_491 (.node .dead tr_494 (.node .dead (.node .dead tr_455 tr_171) tr_497)))))⟩)]
theorem me_24 : fewOK (xcall Try.prog tabS 1000 60 (.fn 17) ma_24 mh_24) mo_24 = true := by kernel_rfl
end Go.Proofs.Ytlckmpioipiihaa.R
