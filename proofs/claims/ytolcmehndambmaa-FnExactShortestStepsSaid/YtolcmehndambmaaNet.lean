import Derived.Test.YtolcmehndambmaaRws3
import Derived.Test.YtolcmehndambmaaFn
set_option linter.unusedVariables false
set_option linter.unusedSimpArgs false
namespace Go.Proofs.Ytolcmehndambmaa
open Go.RowKit

/-- The number of which a number of lanes is the power of 2. -/
def dep (n : Int) : Int := if n = 2 then 1 else if n = 4 then 2 else if n = 8 then 3 else 4
theorem i_depth2 (w : World) : Calls Try.prog 76 #[.int .i64 2] w fun e w' => e = .returned (.int .i64 1) ∧ w = w' := by
  go_enter Try.func76, Try.ntmps76
  go_wp2
  go_loopg [3] 1 (fun gg s wr => ∃ k : Nat, k ≤ 1 ∧ 1 - k ≤ gg ∧ s = .int .i64 k ∧ Aside (w = wr))
  case atStart => exact ⟨0, by omega, by omega, rfl, rfl⟩
  case round =>
    obtain ⟨k, hk, hg, rfl, BW⟩ := hrel
    obtain rfl := BW.out
    by_cases hlt : k < 1
    · rcases (show k = 0 ∨ k = 1 ∨ k = 2 ∨ k = 3 by omega) with rfl | rfl | rfl | rfl
      · first
          | (exfalso; omega)
          | (go_wp2
             go_roundg (1 - 1)
             case measure => omega
             case rel => exact ⟨1, by omega, by omega, by go_num, rfl⟩)
      · first
          | (exfalso; omega)
          | (go_wp2
             go_roundg (1 - 2)
             case measure => omega
             case rel => exact ⟨2, by omega, by omega, by go_num, rfl⟩)
      · first
          | (exfalso; omega)
          | (go_wp2
             go_roundg (1 - 3)
             case measure => omega
             case rel => exact ⟨3, by omega, by omega, by go_num, rfl⟩)
      · first
          | (exfalso; omega)
          | (go_wp2
             go_roundg (1 - 4)
             case measure => omega
             case rel => exact ⟨4, by omega, by omega, by go_num, rfl⟩)
    · have : k = 1 := by omega
      subst this
      go_wp2
      go_ret
      exact ⟨rfl, rfl⟩
theorem i_depth4 (w : World) : Calls Try.prog 76 #[.int .i64 4] w fun e w' => e = .returned (.int .i64 2) ∧ w = w' := by
  go_enter Try.func76, Try.ntmps76
  go_wp2
  go_loopg [3] 2 (fun gg s wr => ∃ k : Nat, k ≤ 2 ∧ 2 - k ≤ gg ∧ s = .int .i64 k ∧ Aside (w = wr))
  case atStart => exact ⟨0, by omega, by omega, rfl, rfl⟩
  case round =>
    obtain ⟨k, hk, hg, rfl, BW⟩ := hrel
    obtain rfl := BW.out
    by_cases hlt : k < 2
    · rcases (show k = 0 ∨ k = 1 ∨ k = 2 ∨ k = 3 by omega) with rfl | rfl | rfl | rfl
      · first
          | (exfalso; omega)
          | (go_wp2
             go_roundg (2 - 1)
             case measure => omega
             case rel => exact ⟨1, by omega, by omega, by go_num, rfl⟩)
      · first
          | (exfalso; omega)
          | (go_wp2
             go_roundg (2 - 2)
             case measure => omega
             case rel => exact ⟨2, by omega, by omega, by go_num, rfl⟩)
      · first
          | (exfalso; omega)
          | (go_wp2
             go_roundg (2 - 3)
             case measure => omega
             case rel => exact ⟨3, by omega, by omega, by go_num, rfl⟩)
      · first
          | (exfalso; omega)
          | (go_wp2
             go_roundg (2 - 4)
             case measure => omega
             case rel => exact ⟨4, by omega, by omega, by go_num, rfl⟩)
    · have : k = 2 := by omega
      subst this
      go_wp2
      go_ret
      exact ⟨rfl, rfl⟩
theorem i_depth8 (w : World) : Calls Try.prog 76 #[.int .i64 8] w fun e w' => e = .returned (.int .i64 3) ∧ w = w' := by
  go_enter Try.func76, Try.ntmps76
  go_wp2
  go_loopg [3] 3 (fun gg s wr => ∃ k : Nat, k ≤ 3 ∧ 3 - k ≤ gg ∧ s = .int .i64 k ∧ Aside (w = wr))
  case atStart => exact ⟨0, by omega, by omega, rfl, rfl⟩
  case round =>
    obtain ⟨k, hk, hg, rfl, BW⟩ := hrel
    obtain rfl := BW.out
    by_cases hlt : k < 3
    · rcases (show k = 0 ∨ k = 1 ∨ k = 2 ∨ k = 3 by omega) with rfl | rfl | rfl | rfl
      · first
          | (exfalso; omega)
          | (go_wp2
             go_roundg (3 - 1)
             case measure => omega
             case rel => exact ⟨1, by omega, by omega, by go_num, rfl⟩)
      · first
          | (exfalso; omega)
          | (go_wp2
             go_roundg (3 - 2)
             case measure => omega
             case rel => exact ⟨2, by omega, by omega, by go_num, rfl⟩)
      · first
          | (exfalso; omega)
          | (go_wp2
             go_roundg (3 - 3)
             case measure => omega
             case rel => exact ⟨3, by omega, by omega, by go_num, rfl⟩)
      · first
          | (exfalso; omega)
          | (go_wp2
             go_roundg (3 - 4)
             case measure => omega
             case rel => exact ⟨4, by omega, by omega, by go_num, rfl⟩)
    · have : k = 3 := by omega
      subst this
      go_wp2
      go_ret
      exact ⟨rfl, rfl⟩
theorem i_depth16 (w : World) : Calls Try.prog 76 #[.int .i64 16] w fun e w' => e = .returned (.int .i64 4) ∧ w = w' := by
  go_enter Try.func76, Try.ntmps76
  go_wp2
  go_loopg [3] 4 (fun gg s wr => ∃ k : Nat, k ≤ 4 ∧ 4 - k ≤ gg ∧ s = .int .i64 k ∧ Aside (w = wr))
  case atStart => exact ⟨0, by omega, by omega, rfl, rfl⟩
  case round =>
    obtain ⟨k, hk, hg, rfl, BW⟩ := hrel
    obtain rfl := BW.out
    by_cases hlt : k < 4
    · rcases (show k = 0 ∨ k = 1 ∨ k = 2 ∨ k = 3 by omega) with rfl | rfl | rfl | rfl
      · first
          | (exfalso; omega)
          | (go_wp2
             go_roundg (4 - 1)
             case measure => omega
             case rel => exact ⟨1, by omega, by omega, by go_num, rfl⟩)
      · first
          | (exfalso; omega)
          | (go_wp2
             go_roundg (4 - 2)
             case measure => omega
             case rel => exact ⟨2, by omega, by omega, by go_num, rfl⟩)
      · first
          | (exfalso; omega)
          | (go_wp2
             go_roundg (4 - 3)
             case measure => omega
             case rel => exact ⟨3, by omega, by omega, by go_num, rfl⟩)
      · first
          | (exfalso; omega)
          | (go_wp2
             go_roundg (4 - 4)
             case measure => omega
             case rel => exact ⟨4, by omega, by omega, by go_num, rfl⟩)
    · have : k = 4 := by omega
      subst this
      go_wp2
      go_ret
      exact ⟨rfl, rfl⟩
theorem i_depth (w : World) (n : Int) (h : lanesB n = true) : Calls Try.prog 76 #[.int .i64 n] w fun e w' => e = .returned (.int .i64 (dep n)) ∧ w = w' := by
  rcases lanesB_or h with rfl | rfl | rfl | rfl
  · exact i_depth2 w
  · exact i_depth4 w
  · exact i_depth8 w
  · exact i_depth16 w
end Go.Proofs.Ytolcmehndambmaa
