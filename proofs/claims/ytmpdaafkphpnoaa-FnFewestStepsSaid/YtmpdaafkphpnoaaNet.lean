import Derived.Test.YtmpdaafkphpnoaaRws3
import Derived.Test.YtmpdaafkphpnoaaFn
set_option linter.unusedVariables false
set_option linter.unusedSimpArgs false
namespace Go.Proofs.Ytmpdaafkphpnoaa
open Go.RowKit

/-- The number of which a number of lanes is the power of 2. -/
def dep (n : Int) : Int := if n = 2 then 1 else if n = 4 then 2 else if n = 8 then 3 else 4





end Go.Proofs.Ytmpdaafkphpnoaa
