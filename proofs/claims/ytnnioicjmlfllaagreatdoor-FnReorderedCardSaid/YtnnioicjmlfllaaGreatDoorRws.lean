import Derived.Test.YtnnioicjmlfllaaGreatDoorShuf5
import Derived.Test.YtnnioicjmlfllaaGreatDoorLawO
import Derived.Test.YtnnioicjmlfllaaGreatDoorSz
import Derived.StillTailTactics
set_option linter.unusedVariables false
set_option linter.unusedSimpArgs false
namespace Go.Proofs.YtnnioicjmlfllaaGreatDoor
open Go.RowKit

/-- How many numbers the first k rows have. -/
def rtot (xss : List (List Int)) : Nat → Nat
  | 0 => 0
  | k + 1 => rtot xss k + (rw_ xss k).length
theorem rtot_mono (xss : List (List Int)) {j k : Nat} (h : j ≤ k) : rtot xss j ≤ rtot xss k := by
  induction k with
  | zero => obtain rfl : j = 0 := by omega
            exact Nat.le_refl _
  | succ k ih => by_cases e : j = k + 1
                 · subst e; exact Nat.le_refl _
                 · have := ih (by omega); simp only [rtot]; omega
def rsz (xss : List (List Int)) : Nat := xss.length + rtot xss xss.length
theorem rsz_row {xss : List (List Int)} {m k : Nat} (h : rsz xss ≤ m) (hk : k < xss.length) : (rw_ xss k).length ≤ m := by
  have := rtot_mono xss (j := k + 1) (k := xss.length) (by omega); simp only [rtot] at this; unfold rsz at h; omega
theorem rsz_len {xss : List (List Int)} {m : Nat} (h : rsz xss ≤ m) : xss.length ≤ m := by unfold rsz at h; omega
def BigR (xss : List (List Int)) : Prop := xss.length ≤ 9223372036854775807 ∧ ∀ k, k < xss.length → (rw_ xss k).length ≤ 9223372036854775807

end Go.Proofs.YtnnioicjmlfllaaGreatDoor
