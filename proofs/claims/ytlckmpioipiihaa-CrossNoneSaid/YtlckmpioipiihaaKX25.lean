/- CrossNone: awake is run on the machine, by the kernel, over remembered calls; the law from the values handed in. -/
import Derived.Test.YtlckmpioipiihaaXN4
import Derived.Test.YtlckmpioipiihaaGC
namespace Go.Proofs.Ytlckmpioipiihaa.A
open Go Go.Vm
set_option maxRecDepth 100000
theorem ran_7 : allTrue (xcall Try.prog (R.tab) 1000 60 (.fn 7) [] Heap.init) = true := by kernel_rfl
theorem has_7 : (tableOf  Try.prog 7).isSome = true := by kernel_rfl
theorem known : KnownAll Try.prog prims := ⟨⟨Option.isSome_iff_exists.1 has_7, fun w => known_calls (Checked.mixed Try.checked) R.tab_ok ran_7 w⟩, trivial⟩
theorem T0_ok : TableOK Try.prog T0 := withKept_ok (withTrue_ok known) fun k hk => by simp at hk
theorem CrossNone_run (h : Heap) (vs : List Value) (hf : FitsAll Try.prog h 8 [3, 31] vs) : Runs Try.prog T0 (.fn fn_landfalllaw25_CrossNone) vs h (fun r _ => r = .bool true) (fun _ _ => False) := by
  obtain ⟨v1, _, rfl, h1, hf⟩ := hf.cons
  obtain ⟨v2, _, rfl, h2, hf⟩ := hf.cons
  obtain rfl := hf.nil
  obtain ⟨x, hx, _⟩ := Vm.FitsV.int (k := .i64) h1 (by kernel_rfl)
  obtain ⟨l, s, a, n, c, b, m, d, rfl, hl, g0, g1, g2⟩ := fits_block h2
  obtain ⟨v1, v2, v7, L3, L4, L5, L6, L8, h3, h4, h5, h6, h8, e⟩ := block_form l hl g0 g1 g2
  rw [hx, e]
  exact CrossNone_true h3 h4 h5 h6 h8
end Go.Proofs.Ytlckmpioipiihaa.A
