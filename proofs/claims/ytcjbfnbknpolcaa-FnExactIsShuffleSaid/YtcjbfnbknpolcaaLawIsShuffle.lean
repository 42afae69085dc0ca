/- For every list of numbers, the program's IsShuffle answers what the reference's answers; no condition. -/
import Derived.Test.YtcjbfnbknpolcaaShuf
import Derived.Test.YtcjbfnbknpolcaaRows
import Derived.ProofKit
import Derived.OpenShut
set_option linter.unusedVariables false
set_option linter.unusedSimpArgs false
namespace Go.Proofs.Ytcjbfnbknpolcaa
open Go.RowKit

theorem law_IsShuffle (w : World) (A : Option Addr) (c : Nat) (xs : List Int) (hl : xs.length ≤ 9223372036854775807) (hR : RdI w A xs) :
    Calls Try.prog 4 #[.slice A xs.length c] w fun e w' => e = .returned (.bool true) ∧ Below w.heap.size w w' := by
  by_cases hbig : 1048576 < xs.length
  · go_enter Try.func4, Try.ntmps4
    go_wp2
    go_ret
    exact ⟨rfl, Below.refl _ _⟩
  · have hto := fun (W : World) (hW : Below w.heap.size w W) => l_toInt64S W A c xs (by omega) (hR.below hW)
    go_enter Try.func4, Try.ntmps4
    go_wp2_with fail
    refine (hto _ (Below.refl _ _)).mono ?_
    rintro e w1 ⟨v1, rfl, ho1, hb1⟩
    obtain ⟨A1, c1, rfl, _, _, hr1⟩ := ho1.int
    go_wp2_with fail
    refine (s_IsShuffle _ _ _ _ hl hr1).mono ?_
    rintro e w2 ⟨rfl, hb2⟩
    have hb2' := bthen hb1 hb2
    go_wp2_with fail
    refine (hto _ hb2').mono ?_
    rintro e w3 ⟨v3, rfl, ho3, hb3⟩
    have hb3' := bthen hb2' hb3
    obtain ⟨A3, c3, rfl, _, _, hr3⟩ := ho3.int
    go_wp2_with fail
    refine (i_IsShuffle _ _ _ _ hl hr3).mono ?_
    rintro e w4 ⟨rfl, hb4⟩
    have hb4' := bthen hb3' hb4
    go_wp2_with fail
    refine (hto _ hb4').mono ?_
    rintro e w5 ⟨v5, rfl, ho5, hb5⟩
    have hb5' := bthen hb4' hb5
    obtain ⟨A5, c5, rfl, _, _, hr5⟩ := ho5.int
    have hr3' := (hr3.below hb4).below hb5
    go_wp2_with fail
    refine (l_eqInt64S _ _ _ _ _ _ _ hl hl hr3' hr5).mono ?_
    rintro e w6 ⟨rfl, hb6⟩
    have hb6' := bthen hb5' hb6
    go_wp2_with fail
    go_ret
    exact ⟨rfl, hb6'⟩
end Go.Proofs.Ytcjbfnbknpolcaa
