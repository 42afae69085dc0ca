import Derived.Test.YtolcmehndambmaaBase
set_option linter.unusedVariables false
set_option linter.unusedSimpArgs false
namespace Go.Proofs.Ytolcmehndambmaa
open Go.RowKit

theorem l_r8Long (w : World) (A A' : Option Addr) (n c n' c' : Nat) (hn : n ≤ 9223372036854775807) (hn' : n' ≤ 9223372036854775807) :
    Calls Try.prog 11 #[.slice A n c, .slice A' n' c'] w fun e w' => e = .returned (.bool (decide (48 < n) || decide (48 < n'))) ∧ w = w' := by
  by_cases h1 : (48 : Int) < n
  · go_enter Try.func11, Try.ntmps11
    go_wp2
    go_ret
    exact ⟨ret_b (by simp; omega), rfl⟩
  · by_cases h2 : (48 : Int) < n'
    all_goals
      go_enter Try.func11, Try.ntmps11
      go_wp2
      go_ret
      exact ⟨ret_b (by rw [Bool.eq_iff_iff]; simp; omega), rfl⟩
end Go.Proofs.Ytolcmehndambmaa
