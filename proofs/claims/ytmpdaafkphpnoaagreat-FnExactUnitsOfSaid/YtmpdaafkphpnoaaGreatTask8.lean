import Derived.Test.YtmpdaafkphpnoaaGreatTask7
set_option linter.unusedVariables false
set_option linter.unusedSimpArgs false
namespace Go.Proofs.YtmpdaafkphpnoaaGreat
open Go.RowKit

theorem taskB_eq (k : Nat) (t : TaskV) : taskB k t = (inB t.port 0 2 && (inB t.lat 1 6 && (setN t.needs t.needs.length && t.needs.all (fun x => inB x 0 ((k : Int) - 1))))) := by
  unfold taskB; rw [risN_eq, allN_ints t.needs (fun x => inB x 0 ((k : Int) - 1))]

end Go.Proofs.YtmpdaafkphpnoaaGreat
