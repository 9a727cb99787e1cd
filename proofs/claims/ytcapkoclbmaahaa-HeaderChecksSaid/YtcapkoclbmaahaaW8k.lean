/- Contracts of the program's reader of bytes (wire), 8: hashes, made, ended. -/
import Derived.Test.YtcapkoclbmaahaaW7k
namespace Go.Proofs.Ytcapkoclbmaahaa.A
open Go Go.Vm
set_option maxRecDepth 10000
set_option linter.unusedVariables false

theorem l32 {l : List UInt8} (h : l.length = 32) : L32 (bcells l) := ⟨by simpa [bcells] using h⟩

end Go.Proofs.Ytcapkoclbmaahaa.A
