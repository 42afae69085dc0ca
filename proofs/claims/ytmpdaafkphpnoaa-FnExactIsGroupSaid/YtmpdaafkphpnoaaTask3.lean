import Derived.Test.YtmpdaafkphpnoaaTask2
set_option linter.unusedVariables false
set_option linter.unusedSimpArgs false
namespace Go.Proofs.Ytmpdaafkphpnoaa
open Go.RowKit


end Go.Proofs.Ytmpdaafkphpnoaa
