import Derived.Test.YtolcmehndambmaaWidth
set_option linter.unusedVariables false
set_option linter.unusedSimpArgs false
namespace Go.Proofs.Ytolcmehndambmaa
open Go.RowKit

end Go.Proofs.Ytolcmehndambmaa
