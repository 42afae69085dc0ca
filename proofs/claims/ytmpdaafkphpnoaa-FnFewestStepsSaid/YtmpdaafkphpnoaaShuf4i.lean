import Derived.Test.YtmpdaafkphpnoaaShuf4
set_option linter.unusedVariables false
set_option linter.unusedSimpArgs false
namespace Go.Proofs.Ytmpdaafkphpnoaa
open Go.RowKit

abbrev WN (w : World) (lanes by_ : Int) : World := (w.alloc (.cells #[.int .i64 lanes] 2)).alloc (.cells #[.int .i64 by_] 2)
end Go.Proofs.Ytmpdaafkphpnoaa
