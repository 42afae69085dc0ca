import Derived.Test.YtmpdaafkphpnoaaCat
set_option linter.unusedVariables false
set_option linter.unusedSimpArgs false
namespace Go.Proofs.Ytmpdaafkphpnoaa
open Go.RowKit

/-- How many numbers the first k rows have. -/
def tot (xss : List (List Int)) (k : Nat) : Nat := (xss.take k).flatten.length
theorem flat_step {xss : List (List Int)} {k : Nat} (hk : k < xss.length) : (xss.take (k + 1)).flatten = (xss.take k).flatten ++ rw_ xss k := by
  rw [List.take_add_one, rw_get hk]; simp
theorem tot_step {xss : List (List Int)} {k : Nat} (hk : k < xss.length) : tot xss (k + 1) = tot xss k + (rw_ xss k).length := by unfold tot; rw [flat_step hk]; simp
theorem tot_le {xss : List (List Int)} {k : Nat} : tot xss k ≤ xss.flatten.length := by
  unfold tot
  have : xss.flatten = (xss.take k).flatten ++ (xss.drop k).flatten := by rw [← List.flatten_append, List.take_append_drop]
  rw [this]; simp
theorem rw_drop {xss : List (List Int)} {k : Nat} (hk : k < xss.length) : xss.drop k = rw_ xss k :: xss.drop (k + 1) := by
  rw [List.drop_eq_getElem_cons hk]; congr 1; have := rw_get hk; rw [List.getElem?_eq_getElem hk] at this; exact Option.some.inj this


end Go.Proofs.Ytmpdaafkphpnoaa
