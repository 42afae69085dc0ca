import Derived.Test.YthgfcoafngddgaaBase
import Derived.Test.YthgfcoafngddgaaPrs3
set_option linter.unusedVariables false
set_option linter.unusedSimpArgs false
namespace Go.Proofs.Ythgfcoafngddgaa
open Go.RowKit

theorem law_PressureOf (w : World) (A0 : Option Addr) (c0 : Nat) (xs0 : List TaskV) (A1 : Option Addr) (c1 : Nat) (xs1 : List Int) (hl0 : BigT xs0) (hR0 : RdT w A0 xs0) (hl1 : xs1.length ≤ 9223372036854775807) (hR1 : RdI w A1 xs1) :
    Calls Try.prog 11 #[.slice A0 xs0.length c0, .slice A1 xs1.length c1] w fun e w' => e = .returned (.bool true) ∧ Below w.heap.size w w' := by
  have hbw := Below.refl w.heap.size w
  by_cases big1 : 1048576 < xs1.length
  · go_enter Try.func11, Try.ntmps11
    go_wp2
    go_ret
    exact ⟨rfl, Below.refl _ _⟩
  have hs1 : xs1.length ≤ 1048576 := by omega
  clear big1
  have ssz0 := fun W (hW : Below w.heap.size w W) => l_szTaskSO W A0 c0 xs0 (1048576 : Int) hl0 (by omega) (by omega) (hR0.below hW)
  by_cases big0 : (1048576 : Int) < (tsz xs0 : Nat)
  · simp only [szR, if_pos big0] at ssz0
    go_enter Try.func11, Try.ntmps11
    go_wp2_with fail
    refine (ssz0 _ (Below.refl _ _)).mono ?_
    rintro e z0 ⟨rfl, hbz0⟩
    have hcz0 := hbz0
    go_wp2_with fail
    go_ret
    exact ⟨rfl, hcz0⟩
  · simp only [szR, if_neg big0] at ssz0
    have hs0 : tsz xs0 ≤ 1048576 := by omega
    go_enter Try.func11, Try.ntmps11
    have hbw := Below.refl w.heap.size w
    go_wp2_with fail
    refine (ssz0 _ hbw).mono ?_
    rintro e w1 ⟨rfl, hbw1⟩
    have hzw1 := hbw1.size
    replace hbw := bthen hbw hbw1
    clear ssz0 big0
    go_wp2_with fail
    refine (l_toTaskSO w1 A0 c0 xs0 hs0 (hR0.below hbw)).mono ?_
    rintro e w2 ⟨vw2, rfl, how2, hbw2⟩
    have hzw2 := hbw2.size
    replace hbw := bthen hbw hbw2
    obtain ⟨Aw2, cw2, rfl, _, _, _⟩ := how2.shp
    go_wp2_with fail
    refine (l_toInt64SO w2 A1 c1 xs1 (by omega) (hR1.below hbw)).mono ?_
    rintro e w3 ⟨vw3, rfl, how3, hbw3⟩
    have hzw3 := hbw3.size
    replace hbw := bthen hbw hbw3
    replace how2 := how2.eqv (Eqv.of hbw3 (by omega))
    obtain ⟨Aw3, cw3, rfl, _, _, _⟩ := how3.shp
    go_wp2_with fail
    refine (s_PressureOf _ _ _ _ _ _ _ hs0 how2.rd (by omega) (by omega) how3.rd).mono ?_
    rintro e w4 ⟨rfl, hbw4⟩
    have hzw4 := hbw4.size
    replace hbw := bthen hbw hbw4
    replace how2 := how2.eqv (Eqv.of hbw4 (by omega))
    replace how3 := how3.eqv (Eqv.of hbw4 (by omega))
    clear how2
    clear how3
    go_wp2_with fail
    refine (l_toTaskSO w4 A0 c0 xs0 hs0 (hR0.below hbw)).mono ?_
    rintro e w5 ⟨vw5, rfl, how5, hbw5⟩
    have hzw5 := hbw5.size
    replace hbw := bthen hbw hbw5
    obtain ⟨Aw5, cw5, rfl, _, _, _⟩ := how5.shp
    go_wp2_with fail
    refine (l_toInt64SO w5 A1 c1 xs1 (by omega) (hR1.below hbw)).mono ?_
    rintro e w6 ⟨vw6, rfl, how6, hbw6⟩
    have hzw6 := hbw6.size
    replace hbw := bthen hbw hbw6
    replace how5 := how5.eqv (Eqv.of hbw6 (by omega))
    obtain ⟨Aw6, cw6, rfl, _, _, _⟩ := how6.shp
    go_wp2_with fail
    refine (i_PressureOf _ _ _ _ _ _ _ hs0 how5.rd (by omega) (by omega) how6.rd).mono ?_
    rintro e w7 ⟨rfl, hbw7⟩
    have hzw7 := hbw7.size
    replace hbw := bthen hbw hbw7
    replace how5 := how5.eqv (Eqv.of hbw7 (by omega))
    replace how6 := how6.eqv (Eqv.of hbw7 (by omega))
    go_wp2_with fail
    refine (l_toTaskSO w7 A0 c0 xs0 hs0 (hR0.below hbw)).mono ?_
    rintro e w8 ⟨vw8, rfl, how8, hbw8⟩
    have hzw8 := hbw8.size
    replace hbw := bthen hbw hbw8
    replace how5 := how5.eqv (Eqv.of hbw8 (by omega))
    replace how6 := how6.eqv (Eqv.of hbw8 (by omega))
    obtain ⟨Aw8, cw8, rfl, _, _, _⟩ := how8.shp
    go_wp2_with fail
    refine (l_eqTaskSO _ _ _ _ _ _ _ _ _ hs0 hs0 how5 how8).mono ?_
    rintro e w9 ⟨rfl, hbw9⟩
    have hzw9 := hbw9.size
    replace hbw := bthen hbw hbw9
    replace how5 := how5.eqv (Eqv.of hbw9 (by omega))
    replace how6 := how6.eqv (Eqv.of hbw9 (by omega))
    replace how8 := how8.eqv (Eqv.of hbw9 (by omega))
    clear how8
    go_wp2_with fail
    refine (l_toInt64SO w9 A1 c1 xs1 (by omega) (hR1.below hbw)).mono ?_
    rintro e w10 ⟨vw10, rfl, how10, hbw10⟩
    have hzw10 := hbw10.size
    replace hbw := bthen hbw hbw10
    replace how5 := how5.eqv (Eqv.of hbw10 (by omega))
    replace how6 := how6.eqv (Eqv.of hbw10 (by omega))
    obtain ⟨Aw10, cw10, rfl, _, _, _⟩ := how10.shp
    go_wp2_with fail
    refine (l_eqInt64SO _ _ _ _ _ _ _ _ _ (by omega) (by omega) how6 how10).mono ?_
    rintro e w11 ⟨rfl, hbw11⟩
    have hzw11 := hbw11.size
    replace hbw := bthen hbw hbw11
    replace how5 := how5.eqv (Eqv.of hbw11 (by omega))
    replace how6 := how6.eqv (Eqv.of hbw11 (by omega))
    replace how10 := how10.eqv (Eqv.of hbw11 (by omega))
    clear how10
    go_wp2_with fail
    go_ret
    exact ⟨rfl, hbw⟩
end Go.Proofs.Ythgfcoafngddgaa
