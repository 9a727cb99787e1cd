/- Closed runs, by the kernel. -/
import Derived.Test.YtmfaepkmiceoeaaQValsBack2
set_option linter.unusedVariables false
noncomputable section
namespace Go.Proofs.Ytmfaepkmiceoeaa.A
open Go Go.Vm
set_option maxRecDepth 100000
theorem ran_5 : allTrue (xcall Try.prog (tableOf Try.prog) 1000 60 (.fn 5) [] Heap.init) = true := by kernel_rfl
theorem has_5 : (tableOf Try.prog 5).isSome = true := by kernel_rfl
theorem ran_9 : allTrue (xcall Try.prog (tableOf Try.prog) 1000 60 (.fn 9) [] Heap.init) = true := by kernel_rfl
theorem has_9 : (tableOf Try.prog 9).isSome = true := by kernel_rfl
theorem known : KnownAll Try.prog prims := ⟨⟨Option.isSome_iff_exists.1 has_5, fun w => known_calls (Checked.mixed Try.checked) tableOf_ok ran_5 w⟩, ⟨⟨Option.isSome_iff_exists.1 has_9, fun w => known_calls (Checked.mixed Try.checked) tableOf_ok ran_9 w⟩, trivial⟩⟩
theorem T0_ok : TableOK Try.prog T0 := withKept_ok (withTrue_ok known) fun k hk => by simp at hk
end Go.Proofs.Ytmfaepkmiceoeaa.A
