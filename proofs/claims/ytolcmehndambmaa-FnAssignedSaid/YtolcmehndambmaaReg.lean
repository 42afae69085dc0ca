import Derived.Test.YtolcmehndambmaaRange3
set_option linter.unusedVariables false
set_option linter.unusedSimpArgs false
namespace Go.Proofs.Ytolcmehndambmaa
open Go.RowKit

theorem i_isRegisters (w : World) (n : Int) : Calls Try.prog 55 #[.int .i64 n] w fun e w' => e = .returned (.bool (inB n 0 12)) ∧ w = w' := by
  have c := i_within n 0 12 w
  generalize inB n 0 12 = b at c ⊢
  go_enter Try.func55, Try.ntmps55
  go_wp2_with fail
  refine c.mono ?_
  rintro e w' ⟨rfl, rfl⟩
  go_wp2_with fail
  go_ret
  exact ⟨rfl, rfl⟩
end Go.Proofs.Ytolcmehndambmaa
