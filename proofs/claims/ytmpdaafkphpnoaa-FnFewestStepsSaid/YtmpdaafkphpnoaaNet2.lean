import Derived.Test.YtmpdaafkphpnoaaNet
set_option linter.unusedVariables false
set_option linter.unusedSimpArgs false
namespace Go.Proofs.Ytmpdaafkphpnoaa
open Go.RowKit

/-- Switches of one step; a network. -/
def swB (n : Int) (l : List Int) : Bool := decide ((l.length : Int) = n / 2) && l.all (fun x => inB x 0 1)
def netB (n : Int) (xss : List (List Int)) : Bool := lanesB n && (decide ((xss.length : Int) = 2 * dep n - 1) && xss.all (swB n))
theorem tdiv2 {n : Int} (h0 : 0 ≤ n) (h1 : n ≤ 16) : IntKind.i64.wrap (n.tdiv 2) = n / 2 := by
  rw [Int.tdiv_eq_ediv_of_nonneg h0, IntKind.wrap_i64]; omega
theorem dep_range (n : Int) : 1 ≤ dep n ∧ dep n ≤ 4 := by unfold dep; repeat' split
                                                          all_goals omega
theorem i_lengthRR (A : Option Addr) (n c : Nat) (w : World) : Calls Try.prog 48 #[.slice A n c] w fun e w' => e = .returned (.int .i64 n) ∧ w = w' := by
  go_enter Try.func48, Try.ntmps48
  go_wp2
  go_ret
  exact ⟨rfl, rfl⟩
abbrev NW (w : World) (n : Int) : World := w.alloc (.cells #[.int .i64 n] 2)
end Go.Proofs.Ytmpdaafkphpnoaa
