import Derived.Test.YtcjbfnbknpolcaaBase
import Derived.Test.YtcjbfnbknpolcaaNet3
set_option linter.unusedVariables false
set_option linter.unusedSimpArgs false
namespace Go.Proofs.Ytcjbfnbknpolcaa
open Go.RowKit

theorem law_IsNetwork (w : World) (a0 : Int) (A1 : Option Addr) (c1 : Nat) (xs1 : List (List Int)) (hl1 : BigR xs1) (hR1 : RdR w A1 xs1) :
    Calls Try.prog 9 #[.int .i64 a0, .slice A1 xs1.length c1] w fun e w' => e = .returned (.bool true) ∧ Below w.heap.size w w' := by
  have hbw := Below.refl w.heap.size w
  have ssz1 := fun W (hW : Below w.heap.size w W) => l_szInt64SSO W A1 c1 xs1 (1048576 : Int) hl1 (by omega) (by omega) (hR1.below hW)
  by_cases big1 : (1048576 : Int) < (rsz xs1 : Nat)
  · simp only [szR, if_pos big1] at ssz1
    go_enter Try.func9, Try.ntmps9
    go_wp2_with fail
    refine (ssz1 _ (Below.refl _ _)).mono ?_
    rintro e z1 ⟨rfl, hbz1⟩
    have hcz1 := hbz1
    go_wp2_with fail
    go_ret
    exact ⟨rfl, hcz1⟩
  · simp only [szR, if_neg big1] at ssz1
    have hs1 : rsz xs1 ≤ 1048576 := by omega
    go_enter Try.func9, Try.ntmps9
    have hbw := Below.refl w.heap.size w
    go_wp2_with fail
    refine (ssz1 _ hbw).mono ?_
    rintro e w1 ⟨rfl, hbw1⟩
    have hzw1 := hbw1.size
    replace hbw := bthen hbw hbw1
    clear ssz1 big1
    go_wp2_with fail
    refine (l_toInt64SSO w1 A1 c1 xs1 hs1 (hR1.below hbw)).mono ?_
    rintro e w2 ⟨vw2, rfl, how2, hbw2⟩
    have hzw2 := hbw2.size
    replace hbw := bthen hbw hbw2
    obtain ⟨Aw2, cw2, rfl, _, _, _⟩ := how2.shp
    go_wp2_with fail
    refine (s_IsNetwork _ a0 _ _ _ hs1 how2.rd).mono ?_
    rintro e w3 ⟨rfl, hbw3⟩
    have hzw3 := hbw3.size
    replace hbw := bthen hbw hbw3
    replace how2 := how2.eqv (Eqv.of hbw3 (by omega))
    clear how2
    go_wp2_with fail
    refine (l_toInt64SSO w3 A1 c1 xs1 hs1 (hR1.below hbw)).mono ?_
    rintro e w4 ⟨vw4, rfl, how4, hbw4⟩
    have hzw4 := hbw4.size
    replace hbw := bthen hbw hbw4
    obtain ⟨Aw4, cw4, rfl, _, _, _⟩ := how4.shp
    go_wp2_with fail
    refine (i_IsNetwork _ a0 _ _ _ hs1 how4.rd).mono ?_
    rintro e w5 ⟨rfl, hbw5⟩
    have hzw5 := hbw5.size
    replace hbw := bthen hbw hbw5
    replace how4 := how4.eqv (Eqv.of hbw5 (by omega))
    go_wp2_with fail
    refine (l_toInt64SSO w5 A1 c1 xs1 hs1 (hR1.below hbw)).mono ?_
    rintro e w6 ⟨vw6, rfl, how6, hbw6⟩
    have hzw6 := hbw6.size
    replace hbw := bthen hbw hbw6
    replace how4 := how4.eqv (Eqv.of hbw6 (by omega))
    obtain ⟨Aw6, cw6, rfl, _, _, _⟩ := how6.shp
    go_wp2_with fail
    refine (l_eqInt64SSO _ _ _ _ _ _ _ _ _ hs1 hs1 how4 how6).mono ?_
    rintro e w7 ⟨rfl, hbw7⟩
    have hzw7 := hbw7.size
    replace hbw := bthen hbw hbw7
    replace how4 := how4.eqv (Eqv.of hbw7 (by omega))
    replace how6 := how6.eqv (Eqv.of hbw7 (by omega))
    clear how6
    go_wp2_with fail
    go_ret
    exact ⟨rfl, hbw⟩
end Go.Proofs.Ytcjbfnbknpolcaa
