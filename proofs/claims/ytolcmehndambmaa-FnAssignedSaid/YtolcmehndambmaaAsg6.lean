import Derived.Test.YtolcmehndambmaaAsg2
import Derived.Test.YtolcmehndambmaaAsg3
import Derived.Test.YtolcmehndambmaaReg
import Derived.Test.YtolcmehndambmaaShuf3
import Derived.Test.YtolcmehndambmaaCalm
set_option linter.unusedVariables false
set_option linter.unusedSimpArgs false
namespace Go.Proofs.Ytolcmehndambmaa
open Go.RowKit

theorem meet_iff {a b : PI} (ha : a.1 < a.2) (hb : b.1 < b.2) : meetB a b = (decide (a.1 < b.2) && decide (b.1 < a.2)) := by
  unfold meetB
  rw [Bool.eq_iff_iff, Bool.and_eq_true, decide_eq_true_eq, decide_eq_true_eq, decide_eq_true_eq]
  omega
end Go.Proofs.Ytolcmehndambmaa
