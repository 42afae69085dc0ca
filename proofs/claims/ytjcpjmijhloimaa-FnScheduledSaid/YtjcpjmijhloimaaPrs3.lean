import Derived.Test.YtjcpjmijhloimaaPrs2
import Derived.Test.YtjcpjmijhloimaaOrd3
set_option linter.unusedVariables false
set_option linter.unusedSimpArgs false
namespace Go.Proofs.Ytjcpjmijhloimaa
open Go.RowKit

theorem tordB_parts {ts : List TaskV} {xs : List Int} (h : tordB ts xs = true) : tasksB ts = true ∧ plcB ts xs = true ∧ xs.length = ts.length ∧ ∀ k : Nat, k < ts.length → (k : Int) ∈ xs := by
  simp only [tordB, Bool.and_eq_true] at h
  have hp := h.2.1
  simp only [plcB, Bool.and_eq_true, decide_eq_true_eq] at hp
  exact ⟨h.1, h.2.1, hp.1, ordB_iff.1 hp.2⟩
end Go.Proofs.Ytjcpjmijhloimaa
