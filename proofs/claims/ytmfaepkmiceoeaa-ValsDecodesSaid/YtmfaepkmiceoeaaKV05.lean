/- The functions that are known to come to true: run on the machine, by the kernel. -/
import Derived.Test.YtmfaepkmiceoeaaSQd
namespace Go.Proofs.Ytmfaepkmiceoeaa.A
open Go Go.Vm
set_option maxRecDepth 100000
theorem ran_9 : allTrue (xcall Try.prog (tableOf Try.prog) 1000 60 (.fn 9) [] Heap.init) = true := by kernel_rfl
theorem has_9 : (tableOf Try.prog 9).isSome = true := by kernel_rfl
theorem known : KnownAll Try.prog prims := ⟨⟨Option.isSome_iff_exists.1 has_9, fun w => known_calls (Checked.mixed Try.checked) tableOf_ok ran_9 w⟩, trivial⟩
theorem has_15 : (tableOf Try.prog 15).isSome = true := by kernel_rfl
theorem T0_ok : TableOK Try.prog T0 := withKept_ok (withTrue_ok known) fun k hk args args' g h B w0 w hr hv hp => by
  obtain rfl : k = 15 := by simpa using hk
  obtain ⟨af, haf⟩ := Option.isSome_iff_exists.1 has_15
  exact ⟨fnOK_of haf, kept_ok (Checked.mixed Try.checked) (fnOK_of haf) (fun h q c' l u h1 h2 h3 h4 h5 => Kept_code h1 h2 h3 h4 h5) args args' g h B w0 w hr hv hp⟩
end Go.Proofs.Ytmfaepkmiceoeaa.A
