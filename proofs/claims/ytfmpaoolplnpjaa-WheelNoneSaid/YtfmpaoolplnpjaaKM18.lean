/- WheelNone: awake is run on the machine, by the kernel, over remembered calls; the law from the values handed in. -/
import Derived.Test.YtfmpaoolplnpjaaWN2
import Derived.Test.YtfmpaoolplnpjaaG18
namespace Go.Proofs.Ytfmpaoolplnpjaa.A
open Go Go.Vm
set_option maxRecDepth 100000
theorem ran_17 : allTrue (xcall Try.prog (withMemo R.table.get 33 R.memo_33) 1000 60 (.fn 17) [] Heap.init) = true := by kernel_rfl
theorem has_17 : (tableOf  Try.prog 17).isSome = true := by kernel_rfl
theorem known : KnownAll Try.prog prims := ⟨⟨Option.isSome_iff_exists.1 has_17, fun w => known_calls (Checked.mixed Try.checked) (withMemo_ok (Checked.mixed Try.checked) (Vm.TT.table_ok R.table_all) R.memo_33_ok) ran_17 w⟩, trivial⟩
theorem T0_ok : TableOK Try.prog T0 := withKept_ok (withTrue_ok known) fun k hk => by simp at hk
theorem WheelNone_run (h : Heap) (vs : List Value) (hf : FitsAll Try.prog h 8 [3, 3] vs) : Runs Try.prog T0 (.fn fn_landfalllaw18_WheelNone) vs h (fun r _ => r = .bool true) (fun _ _ => False) := by
  have u2 : Try.prog.underlying 3 = some (.int .i64) := by kernel_rfl
  obtain ⟨v1, _, rfl, h1, hf⟩ := hf.cons
  obtain ⟨v2, _, rfl, h2, hf⟩ := hf.cons
  obtain rfl := hf.nil
  obtain ⟨x, rfl, _⟩ := h1.int u2
  obtain ⟨y, rfl, _⟩ := h2.int u2
  exact WheelNone_true
end Go.Proofs.Ytfmpaoolplnpjaa.A
