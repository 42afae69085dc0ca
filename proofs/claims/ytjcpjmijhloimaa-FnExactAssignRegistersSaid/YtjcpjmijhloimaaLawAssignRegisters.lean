import Derived.Test.YtjcpjmijhloimaaBase
import Derived.Test.YtjcpjmijhloimaaAsg7
import Derived.Test.YtjcpjmijhloimaaAsg5
import Derived.Test.YtjcpjmijhloimaaMarkG
import Derived.Test.YtjcpjmijhloimaaLawO
set_option linter.unusedVariables false
set_option linter.unusedSimpArgs false
namespace Go.Proofs.Ytjcpjmijhloimaa
open Go.RowKit

theorem law_AssignRegisters (w : World) (A0 : Option Addr) (c0 : Nat) (xs0 : List PI) (a1 : Int) (hl0 : xs0.length ≤ 9223372036854775807) (hR0 : RdP w A0 xs0) :
    Calls Try.prog 6 #[.slice A0 xs0.length c0, .int .i64 a1] w fun e w' => e = .returned (.bool true) ∧ Below w.heap.size w w' := by
  have hbw := Below.refl w.heap.size w
  have ssz0 := fun W (hW : Below w.heap.size w W) => l_szRangeSO W A0 c0 xs0 (1048576 : Int) hl0 (by omega) (by omega) (hR0.below hW)
  by_cases big0 : (1048576 : Int) < (xs0.length : Nat)
  · simp only [szR, if_pos big0] at ssz0
    go_enter Try.func6, Try.ntmps6
    go_wp2_with fail
    refine (ssz0 _ (Below.refl _ _)).mono ?_
    rintro e z0 ⟨rfl, hbz0⟩
    have hcz0 := hbz0
    go_wp2_with fail
    go_ret
    exact ⟨rfl, hcz0⟩
  · simp only [szR, if_neg big0] at ssz0
    have hs0 : xs0.length ≤ 1048576 := by omega
    go_enter Try.func6, Try.ntmps6
    have hbw := Below.refl w.heap.size w
    go_wp2_with fail
    refine (ssz0 _ hbw).mono ?_
    rintro e w1 ⟨rfl, hbw1⟩
    have hzw1 := hbw1.size
    replace hbw := bthen hbw hbw1
    clear ssz0 big0
    have hres := m_AssignRegisters_len xs0 a1
    go_wp2_with fail
    refine (l_toRangeSO w1 A0 c0 xs0 hs0 (hR0.below hbw)).mono ?_
    rintro e w2 ⟨vw2, rfl, how2, hbw2⟩
    have hzw2 := hbw2.size
    replace hbw := bthen hbw hbw2
    obtain ⟨Aw2, cw2, rfl, _, _, _⟩ := how2.shp
    go_wp2_with fail
    refine (s_AssignRegisters _ _ _ _ a1 hs0 how2.rd).mono ?_
    rintro e w3 ⟨vw3, rfl, how3, hbw3⟩
    have hzw3 := hbw3.size
    replace hbw := bthen hbw hbw3
    replace how2 := how2.eqv (Eqv.of hbw3 (by omega))
    obtain ⟨Aw3, cw3, rfl, _, _, _⟩ := how3.shp
    clear how2
    go_wp2_with fail
    refine (l_toRangeSO w3 A0 c0 xs0 hs0 (hR0.below hbw)).mono ?_
    rintro e w4 ⟨vw4, rfl, how4, hbw4⟩
    have hzw4 := hbw4.size
    replace hbw := bthen hbw hbw4
    replace how3 := how3.eqv (Eqv.of hbw4 (by omega))
    obtain ⟨Aw4, cw4, rfl, _, _, _⟩ := how4.shp
    go_wp2_with fail
    refine (i_AssignRegisters _ _ _ _ a1 hs0 how4.rd).mono ?_
    rintro e w5 ⟨vw5, rfl, how5, hbw5⟩
    have hzw5 := hbw5.size
    replace hbw := bthen hbw hbw5
    replace how3 := how3.eqv (Eqv.of hbw5 (by omega))
    replace how4 := how4.eqv (Eqv.of hbw5 (by omega))
    obtain ⟨Aw5, cw5, rfl, _, _, _⟩ := how5.shp
    go_wp2_with fail
    refine (l_eqInt64SO _ _ _ _ _ _ _ _ _ (by omega) (by omega) how5 how3).mono ?_
    rintro e w6 ⟨rfl, hbw6⟩
    have hzw6 := hbw6.size
    replace hbw := bthen hbw hbw6
    replace how3 := how3.eqv (Eqv.of hbw6 (by omega))
    replace how4 := how4.eqv (Eqv.of hbw6 (by omega))
    replace how5 := how5.eqv (Eqv.of hbw6 (by omega))
    go_wp2_with fail
    refine (l_toRangeSO w6 A0 c0 xs0 hs0 (hR0.below hbw)).mono ?_
    rintro e w7 ⟨vw7, rfl, how7, hbw7⟩
    have hzw7 := hbw7.size
    replace hbw := bthen hbw hbw7
    replace how3 := how3.eqv (Eqv.of hbw7 (by omega))
    replace how4 := how4.eqv (Eqv.of hbw7 (by omega))
    replace how5 := how5.eqv (Eqv.of hbw7 (by omega))
    obtain ⟨Aw7, cw7, rfl, _, _, _⟩ := how7.shp
    go_wp2_with fail
    refine (l_eqRangeSO _ _ _ _ _ _ _ _ _ hs0 hs0 how4 how7).mono ?_
    rintro e w8 ⟨rfl, hbw8⟩
    have hzw8 := hbw8.size
    replace hbw := bthen hbw hbw8
    replace how3 := how3.eqv (Eqv.of hbw8 (by omega))
    replace how4 := how4.eqv (Eqv.of hbw8 (by omega))
    replace how5 := how5.eqv (Eqv.of hbw8 (by omega))
    replace how7 := how7.eqv (Eqv.of hbw8 (by omega))
    clear how7
    go_wp2_with fail
    refine (l_markRangeSO _ _ _ _ _ _ (by omega) (by omega) how4).mono ?_
    rintro e w9 ⟨rfl, hmw9, hCw9⟩
    clear how4
    have hzw9 := hCw9.size
    replace hbw := hbw.trans (hCw9.below (by omega) (by omega))
    replace how3 := how3.eqv (hCw9.eqv (by omega) (by omega))
    replace how5 := how5.eqv (hCw9.eqv (by omega) (by omega))
    clear hmw9
    go_wp2_with fail
    refine (l_eqInt64SO _ _ _ _ _ _ _ _ _ (by omega) (by omega) how5 how3).mono ?_
    rintro e w10 ⟨rfl, hbw10⟩
    have hzw10 := hbw10.size
    replace hbw := bthen hbw hbw10
    replace how3 := how3.eqv (Eqv.of hbw10 (by omega))
    replace how5 := how5.eqv (Eqv.of hbw10 (by omega))
    go_wp2_with fail
    refine (l_markInt64SO _ _ _ _ _ _ (by omega) (by omega) how5).mono ?_
    rintro e w11 ⟨rfl, hmw11, hCw11⟩
    have hzw11 := hCw11.size
    replace hbw := hbw.trans (hCw11.below (by omega) (by omega))
    clear how5
    replace how3 := how3.eqv (hCw11.eqv (by omega) (by omega))
    go_wp2_with fail
    refine (l_heldInt64SM _ _ _ _ _ (by omega) hmw11).mono ?_
    rintro e w12 ⟨rfl, hbw12⟩
    have hzw12 := hbw12.size
    replace hbw := bthen hbw hbw12
    replace how3 := how3.eqv (Eqv.of hbw12 (by omega))
    replace hmw11 := hmw11.eqv (Eqv.of hbw12 (by omega))
    go_wp2_with fail
    refine (l_toRangeSO w12 A0 c0 xs0 hs0 (hR0.below hbw)).mono ?_
    rintro e w13 ⟨vw13, rfl, how13, hbw13⟩
    have hzw13 := hbw13.size
    replace hbw := bthen hbw hbw13
    replace how3 := how3.eqv (Eqv.of hbw13 (by omega))
    replace hmw11 := hmw11.eqv (Eqv.of hbw13 (by omega))
    obtain ⟨Aw13, cw13, rfl, _, _, _⟩ := how13.shp
    go_wp2_with fail
    refine (i_AssignRegisters _ _ _ _ a1 hs0 how13.rd).mono ?_
    rintro e w14 ⟨vw14, rfl, how14, hbw14⟩
    have hzw14 := hbw14.size
    replace hbw := bthen hbw hbw14
    replace how3 := how3.eqv (Eqv.of hbw14 (by omega))
    replace hmw11 := hmw11.eqv (Eqv.of hbw14 (by omega))
    replace how13 := how13.eqv (Eqv.of hbw14 (by omega))
    obtain ⟨Aw14, cw14, rfl, _, _, _⟩ := how14.shp
    clear how13
    go_wp2_with fail
    refine (l_eqInt64SO _ _ _ _ _ _ _ _ _ (by omega) (by omega) how14 how3).mono ?_
    rintro e w15 ⟨rfl, hbw15⟩
    have hzw15 := hbw15.size
    replace hbw := bthen hbw hbw15
    replace how3 := how3.eqv (Eqv.of hbw15 (by omega))
    replace hmw11 := hmw11.eqv (Eqv.of hbw15 (by omega))
    replace how14 := how14.eqv (Eqv.of hbw15 (by omega))
    go_wp2_with fail
    refine (l_heldInt64SM _ _ _ _ _ (by omega) hmw11).mono ?_
    rintro e w16 ⟨rfl, hbw16⟩
    have hzw16 := hbw16.size
    replace hbw := bthen hbw hbw16
    replace how3 := how3.eqv (Eqv.of hbw16 (by omega))
    replace hmw11 := hmw11.eqv (Eqv.of hbw16 (by omega))
    replace how14 := how14.eqv (Eqv.of hbw16 (by omega))
    go_wp2_with fail
    go_ret
    exact ⟨rfl, hbw⟩
end Go.Proofs.Ytjcpjmijhloimaa
