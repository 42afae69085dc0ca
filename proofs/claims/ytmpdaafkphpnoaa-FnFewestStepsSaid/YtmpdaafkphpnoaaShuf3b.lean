import Derived.Test.YtmpdaafkphpnoaaShuf3
set_option linter.unusedVariables false
set_option linter.unusedSimpArgs false
namespace Go.Proofs.Ytmpdaafkphpnoaa
open Go.RowKit

theorem range_el (xs : List Int) : (List.range xs.length).map (el xs) = xs := el_ext (by simp) (fun k hk => el_range _ (by simpa using hk))
def m_inverse (xs : List Int) : List Int × Bool := if ordB xs xs.length then (inv xs, true) else ([], false)
theorem places_inverse (xs : List Int) : m_places xs xs.length = m_inverse xs := by simp [m_places, m_inverse]
def m_InverseShuffle (xs : List Int) : List Int × Bool := if orderB xs then (inv xs, true) else ([], false)
theorem m_InverseShuffle_len (xs : List Int) (h : xs.length ≤ 1048576) : (m_InverseShuffle xs).1.length ≤ 1048576 := by
  unfold m_InverseShuffle; split
  · simpa [inv_length] using h
  · simp
end Go.Proofs.Ytmpdaafkphpnoaa
