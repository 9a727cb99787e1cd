/- The functions that are known to come to true: run on the machine, by the kernel. -/
import Derived.Test.YtoadcfjkkoemdaaMN2
namespace Go.Proofs.Ytoadcfjkkoemdaa.A
open Go Go.Vm
set_option maxRecDepth 100000
theorem ran_16 : allTrue (xcall Try.prog (tableOf Try.prog) 1000 60 (.fn 16) [] Heap.init) = true := by kernel_rfl
theorem has_16 : (tableOf Try.prog 16).isSome = true := by kernel_rfl
theorem known : KnownAll Try.prog prims := ⟨⟨Option.isSome_iff_exists.1 has_16, fun w => known_calls (Checked.mixed Try.checked) tableOf_ok ran_16 w⟩, trivial⟩
theorem T0_ok : TableOK Try.prog T0 := withKept_ok (withTrue_ok known) fun k hk => by simp at hk
end Go.Proofs.Ytoadcfjkkoemdaa.A
