import Derived.Test.YtmpdaafkphpnoaaGreatTask3
set_option linter.unusedVariables false
set_option linter.unusedSimpArgs false
namespace Go.Proofs.YtmpdaafkphpnoaaGreat
open Go.RowKit

theorem task_eq (a b : TaskV) : decide (a = b) = (decide (a.port = b.port) && (decide (a.lat = b.lat) && decide (a.needs = b.needs))) := by
  cases a; cases b; rw [Bool.eq_iff_iff]; simp

end Go.Proofs.YtmpdaafkphpnoaaGreat
