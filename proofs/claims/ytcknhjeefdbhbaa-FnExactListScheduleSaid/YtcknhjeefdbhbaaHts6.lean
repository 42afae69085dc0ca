import Derived.Test.YtcknhjeefdbhbaaHts5
set_option linter.unusedVariables false
set_option linter.unusedSimpArgs false
namespace Go.Proofs.Ytcknhjeefdbhbaa
open Go.RowKit

end Go.Proofs.Ytcknhjeefdbhbaa
