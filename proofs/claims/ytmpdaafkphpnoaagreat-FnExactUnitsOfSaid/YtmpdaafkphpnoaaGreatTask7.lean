import Derived.Test.YtmpdaafkphpnoaaGreatTask6
set_option linter.unusedVariables false
set_option linter.unusedSimpArgs false
namespace Go.Proofs.YtmpdaafkphpnoaaGreat
open Go.RowKit


end Go.Proofs.YtmpdaafkphpnoaaGreat
