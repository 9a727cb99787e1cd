/- Contracts: copies, picks; the law HeaderBack. -/
import Derived.Test.YtcapkoclbmaahaaQ1xk
import Derived.Test.YtcapkoclbmaahaaVJ
namespace Go.Proofs.Ytcapkoclbmaahaa.A
open Go Go.Vm
set_option maxRecDepth 10000
set_option linter.unusedVariables false

/-- a header that was handed in -/
theorem fits_flat32 {h : Heap} {m : Nat} {t te : TypeId} {c : List Value} (ht : Try.prog.underlying t = some (.array 32 te)) (hu : Try.prog.underlying te = some (.int .u8)) (hs : Try.prog.cellsOf te = 1) (hs32 : Try.prog.cellsOf t = 32) (hv : Fits Try.prog h (m + 2) t c) : ∃ bs : List UInt8, c = bcells bs ∧ bs.length = 32 := by
  unfold Fits at hv
  rw [ht] at hv
  exact fits_bytes hu hs (by rw [hv.1, hs32, hs]) hv.2

theorem fits_header {h : Heap} {m : Nat} {t ts ti th tb : TypeId} {c : List Value} (f0 : fieldAt Try.prog t 0 = some (0, ts)) (f1 : fieldAt Try.prog t 1 = some (1, ti)) (f2 : fieldAt Try.prog t 2 = some (2, ti)) (f3 : fieldAt Try.prog t 3 = some (3, th)) (f4 : fieldAt Try.prog t 4 = some (35, th)) (f5 : fieldAt Try.prog t 5 = some (67, th)) (f6 : fieldAt Try.prog t 6 = some (99, th))
    (us : Try.prog.underlying ts = some .string) (ui : Try.prog.underlying ti = some (.int .i64)) (uh : Try.prog.underlying th = some (.array 32 tb)) (ub : Try.prog.underlying tb = some (.int .u8)) (c0 : Try.prog.cellsOf ts = 1) (c1 : Try.prog.cellsOf ti = 1) (c3 : Try.prog.cellsOf th = 32) (cb : Try.prog.cellsOf tb = 1) (ct : Try.prog.cellsOf t = 131)
    (hv : Fits Try.prog h (m + 3) t c) : ∃ x : Hd, x.ok ∧ (-9223372036854775808 ≤ x.height ∧ x.height ≤ 9223372036854775807) ∧ (-9223372036854775808 ≤ x.time ∧ x.time ≤ 9223372036854775807) ∧ c = x.cells := by
  have hl := hv.len f0
  rw [ct] at hl
  obtain ⟨s, g0, _⟩ := (hv.field f0).str us
  obtain ⟨a, g1, w1⟩ := (hv.field f1).int ui
  obtain ⟨b, g2, w2⟩ := (hv.field f2).int ui
  obtain ⟨l3, g3, n3⟩ := fits_flat32 uh ub cb c3 (hv.field f3)
  obtain ⟨l4, g4, n4⟩ := fits_flat32 uh ub cb c3 (hv.field f4)
  obtain ⟨l5, g5, n5⟩ := fits_flat32 uh ub cb c3 (hv.field f5)
  obtain ⟨l6, g6, n6⟩ := fits_flat32 uh ub cb c3 (hv.field f6)
  rw [c0] at g0
  rw [c1] at g1 g2
  rw [c3] at g3 g4 g5 g6
  refine ⟨⟨s.data.toList, a, b, l3, l4, l5, l6⟩, ⟨n3, n4, n5, n6⟩, wf_i64 w1, wf_i64 w2, ?_⟩
  rw [← List.drop_zero (l := c), vsplit c 0 1, g0, vsplit c (0 + 1) 1, g1, vsplit c (0 + 1 + 1) 1, g2, vsplit c (0 + 1 + 1 + 1) 32, g3, vsplit c (0 + 1 + 1 + 1 + 32) 32, g4, vsplit c (0 + 1 + 1 + 1 + 32 + 32) 32, g5, vsplit c (0 + 1 + 1 + 1 + 32 + 32 + 32) 32, g6,
    show c.drop (0 + 1 + 1 + 1 + 32 + 32 + 32 + 32) = [] from List.drop_eq_nil_of_le (by omega), List.append_nil]
  rfl
end Go.Proofs.Ytcapkoclbmaahaa.A
