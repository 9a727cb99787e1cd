/- Contracts of the program's reader of bytes (wire), 6: copies. -/
import Derived.Test.YtcapkoclbmaahaaW3k
namespace Go.Proofs.Ytcapkoclbmaahaa.A
open Go Go.Vm
set_option maxRecDepth 10000
set_option linter.unusedVariables false

end Go.Proofs.Ytcapkoclbmaahaa.A
