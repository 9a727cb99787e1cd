/- The functions that are known to come to true: run on the machine, by the kernel. -/
import Derived.Test.YtfpnmcogfamhaaaGreatQE
namespace Go.Proofs.YtfpnmcogfamhaaaGreat.A
open Go Go.Vm
set_option maxRecDepth 100000
theorem ran_6 : allTrue (xcall Tryz.prog (tableOf Tryz.prog) 1000 60 (.fn 6) [] Heap.init) = true := by kernel_rfl
theorem has_6 : (tableOf Tryz.prog 6).isSome = true := by kernel_rfl
theorem known : KnownAll Tryz.prog prims := ⟨⟨Option.isSome_iff_exists.1 has_6, fun w => known_calls (Checked.mixed Tryz.checked) tableOf_ok ran_6 w⟩, trivial⟩
theorem has_12 : (tableOf Tryz.prog 12).isSome = true := by kernel_rfl
theorem T0_ok : TableOK Tryz.prog T0 := withKept_ok (withTrue_ok known) fun k hk args args' g h B w0 w hr hv hp => by
  obtain rfl : k = 12 := by simpa using hk
  obtain ⟨af, haf⟩ := Option.isSome_iff_exists.1 has_12
  exact ⟨fnOK_of haf, kept_ok (Checked.mixed Tryz.checked) (fnOK_of haf) (fun h q c' l u h1 h2 h3 h4 h5 => Kept_code h1 h2 h3 h4 h5) args args' g h B w0 w hr hv hp⟩
end Go.Proofs.YtfpnmcogfamhaaaGreat.A
