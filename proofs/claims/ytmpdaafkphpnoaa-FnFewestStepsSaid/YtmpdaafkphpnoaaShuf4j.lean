import Derived.Test.YtmpdaafkphpnoaaShuf4i
set_option linter.unusedVariables false
set_option linter.unusedSimpArgs false
namespace Go.Proofs.Ytmpdaafkphpnoaa
open Go.RowKit

theorem mNot (kind lanes by_ : Int) (h : namedB kind lanes by_ = false) : m_NamedShuffle kind lanes by_ = ([], false) := by simp [m_NamedShuffle, h]
theorem mOk {kind lanes by_ : Int} (hL : lanesB lanes = true) (hB : inB by_ 0 (lanes - 1) = true) (h0 : 0 ≤ kind) (h5 : kind ≤ 5) (h : kind = 0 ∨ kind = 2 ∨ kind = 5 ∨ by_ = 0) :
    m_NamedShuffle kind lanes by_ = (if kind = 4 then inv (nlist 3 lanes 0) else nlist kind lanes by_, true) := by
  have : namedB kind lanes by_ = true := by
    simp only [namedB, hL, hB, Bool.and_eq_true, inB_iff, true_and, and_true]
    refine ⟨by omega, ?_⟩
    simp; omega
  simp [m_NamedShuffle, this]

end Go.Proofs.Ytmpdaafkphpnoaa
