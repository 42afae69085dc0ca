import Derived.Test.YtjcpjmijhloimaaOrd
set_option linter.unusedVariables false
set_option linter.unusedSimpArgs false
namespace Go.Proofs.Ytjcpjmijhloimaa
open Go.RowKit

/-- The first n of what the k-th task needs were seen. -/
def seenK (ts : List TaskV) (xs : List Int) (k : Nat) : Nat → Bool
  | 0 => true
  | j + 1 => seenK ts xs k j && hasB (xs.take k) (el (tel ts (el xs k).toNat).needs j)
theorem seenK_all (ts : List TaskV) (xs : List Int) (k : Nat) : seenK ts xs k (tel ts (el xs k).toNat).needs.length = seenB ts xs k := by
  have : ∀ n, seenK ts xs k n = allN n (fun j => hasB (xs.take k) (el (tel ts (el xs k).toNat).needs j)) := fun n => by
    induction n with
    | zero => rfl
    | succ n ih => rw [allN_succ]; simp only [seenK]; rw [ih]
  rw [this, seenB, allN_ints (tel ts (el xs k).toNat).needs (hasB (xs.take k))]
theorem seenK_mono {ts : List TaskV} {xs : List Int} {i j k : Nat} (h : seenK ts xs i j = false) (hk : j ≤ k) : seenK ts xs i k = false := by
  induction k with
  | zero => obtain rfl : j = 0 := by omega
            exact h
  | succ k ih => by_cases e : j = k + 1
                 · subst e; exact h
                 · simp only [seenK]; rw [ih (by omega)]; rfl
end Go.Proofs.Ytjcpjmijhloimaa
