/- StoreNone: awake is run on the machine, by the kernel, over remembered calls; the law from the values handed in. -/
import Derived.Test.YtmhnddkpiefkhaaNT3
import Derived.Test.YtmhnddkpiefkhaaGS
namespace Go.Proofs.Ytmhnddkpiefkhaa.A
open Go Go.Vm
set_option maxRecDepth 100000
theorem ran_15 : allTrue (xcall Try.prog (R.tab) 1000 60 (.fn 15) [] Heap.init) = true := by kernel_rfl
theorem has_15 : (tableOf  Try.prog 15).isSome = true := by kernel_rfl
theorem known : KnownAll Try.prog prims := ⟨⟨Option.isSome_iff_exists.1 has_15, fun w => known_calls (Checked.mixed Try.checked) R.tab_ok ran_15 w⟩, trivial⟩
theorem T0_ok : TableOK Try.prog T0 := withKept_ok (withTrue_ok known) fun k hk => by simp at hk
theorem StoreNone_run (h : Heap) (vs : List Value) (hf : FitsAll Try.prog h 8 [36, 3] vs) : Runs Try.prog T0 (.fn fn_landfalllaw22_StoreNone) vs h (fun r _ => r = .bool true) (fun _ _ => False) := by
  obtain ⟨v1, _, rfl, h1, hf⟩ := hf.cons
  obtain ⟨v2, _, rfl, h2, hf⟩ := hf.cons
  obtain rfl := hf.nil
  obtain ⟨l, s, a, n, c, b, m, d, rfl, hl, g0, g1, g2⟩ := fits_block h1
  obtain ⟨x, hx, _⟩ := Vm.FitsV.int (k := .i64) h2 (by kernel_rfl)
  obtain ⟨v1, v2, v7, L3, L4, L5, L6, L8, h3, h4, h5, h6, h8, e⟩ := block_form l hl g0 g1 g2
  rw [hx, e]
  exact StoreNone_true h3 h4 h5 h6 h8
end Go.Proofs.Ytmhnddkpiefkhaa.A
