import Derived.Test.YthgfcoafngddgaaShuf4
set_option linter.unusedVariables false
set_option linter.unusedSimpArgs false
namespace Go.Proofs.Ythgfcoafngddgaa
open Go.RowKit

end Go.Proofs.Ythgfcoafngddgaa
