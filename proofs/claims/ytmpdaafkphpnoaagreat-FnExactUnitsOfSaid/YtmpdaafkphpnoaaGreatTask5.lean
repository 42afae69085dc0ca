import Derived.Test.YtmpdaafkphpnoaaGreatTask4
import Derived.Test.YtmpdaafkphpnoaaGreatSetn
import Derived.Test.YtmpdaafkphpnoaaGreatFn
set_option linter.unusedVariables false
set_option linter.unusedSimpArgs false
namespace Go.Proofs.YtmpdaafkphpnoaaGreat
open Go.RowKit

end Go.Proofs.YtmpdaafkphpnoaaGreat
