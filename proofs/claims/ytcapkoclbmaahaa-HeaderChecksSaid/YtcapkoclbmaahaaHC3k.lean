/- The law HeaderChecks over what is handed in. -/
import Derived.Test.YtcapkoclbmaahaaR06k
namespace Go.Proofs.Ytcapkoclbmaahaa.A
open Go Go.Vm
set_option maxRecDepth 100000
set_option linter.unusedVariables false
theorem HeaderChecks_run (h : Heap) (vs : List Value) (hf : FitsAll Try.prog h 8 [28] vs) : Runs Try.prog T0 (.fn fn_landfalllaw06_HeaderChecks) vs h (fun r _ => r = .bool true) (fun _ _ => False) := by
  obtain ⟨v1, _, rfl, h1, hf⟩ := hf.cons
  obtain rfl := hf.nil
  obtain ⟨x, hx, rfl⟩ := hd_fits h1
  exact HeaderChecks_true hx
end Go.Proofs.Ytcapkoclbmaahaa.A
