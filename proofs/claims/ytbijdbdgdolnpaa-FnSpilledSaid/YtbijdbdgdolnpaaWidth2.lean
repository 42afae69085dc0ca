import Derived.Test.YtbijdbdgdolnpaaWidth
set_option linter.unusedVariables false
set_option linter.unusedSimpArgs false
namespace Go.Proofs.Ytbijdbdgdolnpaa
open Go.RowKit

end Go.Proofs.Ytbijdbdgdolnpaa
