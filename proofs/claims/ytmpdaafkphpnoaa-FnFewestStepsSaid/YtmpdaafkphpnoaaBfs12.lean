import Derived.Test.YtmpdaafkphpnoaaBfs11
import Derived.Deep.RegionHeld3
set_option linter.unusedVariables false
set_option linter.unusedSimpArgs false
namespace Go.Proofs.Ytmpdaafkphpnoaa
open Go.RowKit

/-- What the reference's search hands back. -/
def Rq (O : List PQ) (goal : List Int) (L : Nat) (T : List PQ) : Prop := (∃ N, O = T ++ N) ∧ L ≤ T.length ∧ ((∃ f, L = f + 1 ∧ (qel T f).2 = goal ∧ ∀ i, i < f → (qel T i).2 ≠ goal) ∨ (L = T.length ∧ T = O ∧ ∀ i, i < L → (qel T i).2 ≠ goal))

end Go.Proofs.Ytmpdaafkphpnoaa
