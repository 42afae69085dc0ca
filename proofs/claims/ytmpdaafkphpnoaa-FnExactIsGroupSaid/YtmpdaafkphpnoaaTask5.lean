import Derived.Test.YtmpdaafkphpnoaaTask4
import Derived.Test.YtmpdaafkphpnoaaSetn
import Derived.Test.YtmpdaafkphpnoaaFn
set_option linter.unusedVariables false
set_option linter.unusedSimpArgs false
namespace Go.Proofs.Ytmpdaafkphpnoaa
open Go.RowKit

end Go.Proofs.Ytmpdaafkphpnoaa
