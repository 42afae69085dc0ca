import Derived.Test.YtbijdbdgdolnpaaBase
import Derived.Test.YtbijdbdgdolnpaaPort2
set_option linter.unusedVariables false
set_option linter.unusedSimpArgs false
namespace Go.Proofs.Ytbijdbdgdolnpaa
open Go.RowKit

theorem law_PortBound (w : World) (A0 : Option Addr) (c0 : Nat) (xs0 : List TaskV) (hl0 : BigT xs0) (hR0 : RdT w A0 xs0) :
    Calls Try.prog 11 #[.slice A0 xs0.length c0] w fun e w' => e = .returned (.bool true) ∧ Below w.heap.size w w' := by
  have hbw := Below.refl w.heap.size w
  have ssz0 := fun W (hW : Below w.heap.size w W) => l_szTaskSO W A0 c0 xs0 (1048576 : Int) hl0 (by omega) (by omega) (hR0.below hW)
  by_cases big0 : (1048576 : Int) < (tsz xs0 : Nat)
  · simp only [szR, if_pos big0] at ssz0
    go_enter Try.func11, Try.ntmps11
    go_wp2_with fail
    refine (ssz0 _ (Below.refl _ _)).mono ?_
    rintro e z0 ⟨rfl, hbz0⟩
    have hcz0 := hbz0
    go_wp2_with fail
    go_ret
    exact ⟨rfl, hcz0⟩
  · simp only [szR, if_neg big0] at ssz0
    have hs0 : tsz xs0 ≤ 1048576 := by omega
    go_enter Try.func11, Try.ntmps11
    have hbw := Below.refl w.heap.size w
    go_wp2_with fail
    refine (ssz0 _ hbw).mono ?_
    rintro e w1 ⟨rfl, hbw1⟩
    have hzw1 := hbw1.size
    replace hbw := bthen hbw hbw1
    clear ssz0 big0
    go_wp2_with fail
    refine (l_toTaskSO w1 A0 c0 xs0 hs0 (hR0.below hbw)).mono ?_
    rintro e w2 ⟨vw2, rfl, how2, hbw2⟩
    have hzw2 := hbw2.size
    replace hbw := bthen hbw hbw2
    obtain ⟨Aw2, cw2, rfl, _, _, _⟩ := how2.shp
    go_wp2_with fail
    refine (s_PortBound _ _ _ _ hs0 how2.rd).mono ?_
    rintro e w3 ⟨rfl, hbw3⟩
    have hzw3 := hbw3.size
    replace hbw := bthen hbw hbw3
    replace how2 := how2.eqv (Eqv.of hbw3 (by omega))
    clear how2
    go_wp2_with fail
    refine (l_toTaskSO w3 A0 c0 xs0 hs0 (hR0.below hbw)).mono ?_
    rintro e w4 ⟨vw4, rfl, how4, hbw4⟩
    have hzw4 := hbw4.size
    replace hbw := bthen hbw hbw4
    obtain ⟨Aw4, cw4, rfl, _, _, _⟩ := how4.shp
    go_wp2_with fail
    refine (i_PortBound _ _ _ _ hs0 how4.rd).mono ?_
    rintro e w5 ⟨rfl, hbw5⟩
    have hzw5 := hbw5.size
    replace hbw := bthen hbw hbw5
    replace how4 := how4.eqv (Eqv.of hbw5 (by omega))
    go_wp2_with fail
    refine (l_toTaskSO w5 A0 c0 xs0 hs0 (hR0.below hbw)).mono ?_
    rintro e w6 ⟨vw6, rfl, how6, hbw6⟩
    have hzw6 := hbw6.size
    replace hbw := bthen hbw hbw6
    replace how4 := how4.eqv (Eqv.of hbw6 (by omega))
    obtain ⟨Aw6, cw6, rfl, _, _, _⟩ := how6.shp
    go_wp2_with fail
    refine (l_eqTaskSO _ _ _ _ _ _ _ _ _ hs0 hs0 how4 how6).mono ?_
    rintro e w7 ⟨rfl, hbw7⟩
    have hzw7 := hbw7.size
    replace hbw := bthen hbw hbw7
    replace how4 := how4.eqv (Eqv.of hbw7 (by omega))
    replace how6 := how6.eqv (Eqv.of hbw7 (by omega))
    clear how6
    go_wp2_with fail
    go_ret
    exact ⟨rfl, hbw⟩
end Go.Proofs.Ytbijdbdgdolnpaa
