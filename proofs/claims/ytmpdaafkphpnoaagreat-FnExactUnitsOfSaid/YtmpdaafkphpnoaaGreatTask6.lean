import Derived.Test.YtmpdaafkphpnoaaGreatTask5
set_option linter.unusedVariables false
set_option linter.unusedSimpArgs false
namespace Go.Proofs.YtmpdaafkphpnoaaGreat
open Go.RowKit

/-- A task at place i that is valid; tasks that are. -/
def taskB (i : Nat) (t : TaskV) : Bool := inB t.port 0 2 && (inB t.lat 1 6 && risN t.needs 0 ((i : Int) - 1) t.needs.length)
def tasksN (ts : List TaskV) : Nat → Bool
  | 0 => true
  | k + 1 => tasksN ts k && taskB k (tel ts k)
def tasksB (ts : List TaskV) : Bool := decide (ts.length ≤ 8) && tasksN ts ts.length
theorem tasksN_mono {ts : List TaskV} {j k : Nat} (h : tasksN ts j = false) (hk : j ≤ k) : tasksN ts k = false := by
  induction k with
  | zero => obtain rfl : j = 0 := by omega
            exact h
  | succ k ih => by_cases e : j = k + 1
                 · subst e; exact h
                 · simp only [tasksN]; rw [ih (by omega)]; rfl

end Go.Proofs.YtmpdaafkphpnoaaGreat
