/- The laws of headers over what is handed in. -/
import Derived.Test.YtcapkoclbmaahaaQ2k
namespace Go.Proofs.Ytcapkoclbmaahaa.A
open Go Go.Vm
set_option maxRecDepth 100000
set_option linter.unusedVariables false

theorem hd_fits {h : Heap} {v : Value} (hv : FitsV Try.prog h 8 28 v) : ∃ x : Hd, x.ok ∧ v = .agg ⟨x.cells⟩ := by
  have g0 : fieldAt Try.prog 28 0 = some (0, 9) := by kernel_rfl
  obtain ⟨cs, rfl, hc⟩ := FitsV.agg hv g0
  have g1 : fieldAt Try.prog 28 1 = some (1, 3) := by kernel_rfl
  have g2 : fieldAt Try.prog 28 2 = some (2, 3) := by kernel_rfl
  have g3 : fieldAt Try.prog 28 3 = some (3, 26) := by kernel_rfl
  have g4 : fieldAt Try.prog 28 4 = some (35, 26) := by kernel_rfl
  have g5 : fieldAt Try.prog 28 5 = some (67, 26) := by kernel_rfl
  have g6 : fieldAt Try.prog 28 6 = some (99, 26) := by kernel_rfl
  have u1 : Try.prog.underlying 9 = some .string := by kernel_rfl
  have u2 : Try.prog.underlying 3 = some (.int .i64) := by kernel_rfl
  have u3 : Try.prog.underlying 26 = some (.array 32 5) := by kernel_rfl
  have u4 : Try.prog.underlying 5 = some (.int .u8) := by kernel_rfl
  have c1 : Try.prog.cellsOf 9 = 1 := by kernel_rfl
  have c2 : Try.prog.cellsOf 3 = 1 := by kernel_rfl
  have c3 : Try.prog.cellsOf 26 = 32 := by kernel_rfl
  have c4 : Try.prog.cellsOf 5 = 1 := by kernel_rfl
  have c5 : Try.prog.cellsOf 28 = 131 := by kernel_rfl
  obtain ⟨x, hx, _, _, hcs⟩ := fits_header (m := 5) g0 g1 g2 g3 g4 g5 g6 u1 u2 u3 u4 c1 c2 c3 c4 c5 hc
  exact ⟨x, hx, by rw [hcs]⟩
end Go.Proofs.Ytcapkoclbmaahaa.A
