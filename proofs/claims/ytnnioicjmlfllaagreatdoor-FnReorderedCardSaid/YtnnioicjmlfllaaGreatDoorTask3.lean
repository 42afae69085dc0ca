import Derived.Test.YtnnioicjmlfllaaGreatDoorTask2
set_option linter.unusedVariables false
set_option linter.unusedSimpArgs false
namespace Go.Proofs.YtnnioicjmlfllaaGreatDoor
open Go.RowKit


end Go.Proofs.YtnnioicjmlfllaaGreatDoor
