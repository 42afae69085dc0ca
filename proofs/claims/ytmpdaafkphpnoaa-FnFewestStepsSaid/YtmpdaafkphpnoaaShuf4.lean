import Derived.Test.YtmpdaafkphpnoaaShuf3b
set_option linter.unusedVariables false
set_option linter.unusedSimpArgs false
namespace Go.Proofs.Ytmpdaafkphpnoaa
open Go.RowKit

/-- Lane i of a named shuffle, as Go reckons it. -/
def nf (kind lanes by_ i : Int) : Int :=
  if kind = 0 then (i + by_) % lanes else if kind = 1 then lanes - 1 - i else if kind = 2 then bits .xor .i64 i by_ else if kind = 5 then by_ else i / 2 + i % 2 * (lanes / 2)
def nlist (kind lanes by_ : Int) : List Int := (List.range lanes.toNat).map fun i => nf kind lanes by_ (i : Nat)
def namedB (kind lanes by_ : Int) : Bool := lanesB lanes && inB kind 0 5 && inB by_ 0 (lanes - 1) && !(decide (0 < by_) && (kind == 1 || kind == 3 || kind == 4))
def m_NamedShuffle (kind lanes by_ : Int) : List Int × Bool := if namedB kind lanes by_ then (if kind = 4 then inv (nlist 3 lanes 0) else nlist kind lanes by_, true) else ([], false)
theorem nlist_length (kind lanes by_ : Int) : (nlist kind lanes by_).length = lanes.toNat := by simp [nlist]
theorem m_NamedShuffle_len (kind lanes by_ : Int) : (m_NamedShuffle kind lanes by_).1.length ≤ 1048576 := by
  unfold m_NamedShuffle
  split
  · rename_i h
    simp only [namedB, Bool.and_eq_true] at h
    have := lanesB_or h.1.1.1
    show (if kind = 4 then inv (nlist 3 lanes 0) else nlist kind lanes by_).length ≤ 1048576
    split
    · rw [inv_length, nlist_length]; omega
    · rw [nlist_length]; omega
  · simp
theorem zip_order (lanes : Int) (h : lanesB lanes = true) : ordB (nlist 3 lanes 0) lanes.toNat = true ∧ shufB (nlist 3 lanes 0) = true := by
  rcases lanesB_or h with rfl | rfl | rfl | rfl <;> exact ⟨by decide +kernel, by decide +kernel⟩


end Go.Proofs.Ytmpdaafkphpnoaa
