import Derived.Test.YtnnioicjmlfllaaGreatDoorRws2
set_option linter.unusedVariables false
set_option linter.unusedSimpArgs false
namespace Go.Proofs.YtnnioicjmlfllaaGreatDoor
open Go.RowKit

theorem rw_ext {xs ys : List (List Int)} (h : xs.length = ys.length) (he : ∀ k, k < xs.length → rw_ xs k = rw_ ys k) : xs = ys := by
  apply List.ext_getElem? ; intro k
  by_cases hk : k < xs.length
  · rw [rw_get hk, rw_get (by omega), he k hk]
  · rw [List.getElem?_eq_none (by omega), List.getElem?_eq_none (by omega)]
theorem big_of {xss : List (List Int)} (h : rsz xss ≤ 1048576) : BigR xss := ⟨by have := rsz_len h; omega, fun k hk => by have := rsz_row h hk; omega⟩
end Go.Proofs.YtnnioicjmlfllaaGreatDoor
