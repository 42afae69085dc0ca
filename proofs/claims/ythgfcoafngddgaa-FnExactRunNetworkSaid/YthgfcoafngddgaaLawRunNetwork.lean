import Derived.Test.YthgfcoafngddgaaBase
import Derived.Test.YthgfcoafngddgaaNrun3
import Derived.Test.YthgfcoafngddgaaMarkR
import Derived.Test.YthgfcoafngddgaaLawO
set_option linter.unusedVariables false
set_option linter.unusedSimpArgs false
namespace Go.Proofs.Ythgfcoafngddgaa
open Go.RowKit

theorem law_RunNetwork (w : World) (a0 : Int) (A1 : Option Addr) (c1 : Nat) (xs1 : List (List Int)) (A2 : Option Addr) (c2 : Nat) (xs2 : List Int) (hl1 : BigR xs1) (hR1 : RdR w A1 xs1) (hl2 : xs2.length ≤ 9223372036854775807) (hR2 : RdI w A2 xs2) :
    Calls Try.prog 5 #[.int .i64 a0, .slice A1 xs1.length c1, .slice A2 xs2.length c2] w fun e w' => e = .returned (.bool true) ∧ Below w.heap.size w w' := by
  have hbw := Below.refl w.heap.size w
  by_cases big2 : 1048576 < xs2.length
  · go_enter Try.func5, Try.ntmps5
    go_wp2
    go_ret
    exact ⟨rfl, Below.refl _ _⟩
  have hs2 : xs2.length ≤ 1048576 := by omega
  clear big2
  have ssz1 := fun W (hW : Below w.heap.size w W) => l_szInt64SSO W A1 c1 xs1 (1048576 : Int) hl1 (by omega) (by omega) (hR1.below hW)
  by_cases big1 : (1048576 : Int) < (rsz xs1 : Nat)
  · simp only [szR, if_pos big1] at ssz1
    go_enter Try.func5, Try.ntmps5
    go_wp2_with fail
    refine (ssz1 _ (Below.refl _ _)).mono ?_
    rintro e z1 ⟨rfl, hbz1⟩
    have hcz1 := hbz1
    go_wp2_with fail
    go_ret
    exact ⟨rfl, hcz1⟩
  · simp only [szR, if_neg big1] at ssz1
    have hs1 : rsz xs1 ≤ 1048576 := by omega
    go_enter Try.func5, Try.ntmps5
    have hbw := Below.refl w.heap.size w
    go_wp2_with fail
    refine (ssz1 _ hbw).mono ?_
    rintro e w1 ⟨rfl, hbw1⟩
    have hzw1 := hbw1.size
    replace hbw := bthen hbw hbw1
    clear ssz1 big1
    have hres := m_RunNetwork_len a0 xs1 xs2
    go_wp2_with fail
    refine (l_toInt64SSO w1 A1 c1 xs1 hs1 (hR1.below hbw)).mono ?_
    rintro e w2 ⟨vw2, rfl, how2, hbw2⟩
    have hzw2 := hbw2.size
    replace hbw := bthen hbw hbw2
    obtain ⟨Aw2, cw2, rfl, _, _, _⟩ := how2.shp
    go_wp2_with fail
    refine (l_toInt64SO w2 A2 c2 xs2 (by omega) (hR2.below hbw)).mono ?_
    rintro e w3 ⟨vw3, rfl, how3, hbw3⟩
    have hzw3 := hbw3.size
    replace hbw := bthen hbw hbw3
    replace how2 := how2.eqv (Eqv.of hbw3 (by omega))
    obtain ⟨Aw3, cw3, rfl, _, _, _⟩ := how3.shp
    go_wp2_with fail
    refine (s_RunNetwork _ a0 _ _ _ _ _ _ hs1 how2.rd (by omega) how3.rd).mono ?_
    rintro e w4 ⟨vw4, rfl, how4, hbw4⟩
    have hzw4 := hbw4.size
    replace hbw := bthen hbw hbw4
    replace how2 := how2.eqv (Eqv.of hbw4 (by omega))
    replace how3 := how3.eqv (Eqv.of hbw4 (by omega))
    obtain ⟨Aw4, cw4, rfl, _, _, _⟩ := how4.shp
    clear how2
    clear how3
    go_wp2_with fail
    refine (l_toInt64SSO w4 A1 c1 xs1 hs1 (hR1.below hbw)).mono ?_
    rintro e w5 ⟨vw5, rfl, how5, hbw5⟩
    have hzw5 := hbw5.size
    replace hbw := bthen hbw hbw5
    replace how4 := how4.eqv (Eqv.of hbw5 (by omega))
    obtain ⟨Aw5, cw5, rfl, _, _, _⟩ := how5.shp
    go_wp2_with fail
    refine (l_toInt64SO w5 A2 c2 xs2 (by omega) (hR2.below hbw)).mono ?_
    rintro e w6 ⟨vw6, rfl, how6, hbw6⟩
    have hzw6 := hbw6.size
    replace hbw := bthen hbw hbw6
    replace how4 := how4.eqv (Eqv.of hbw6 (by omega))
    replace how5 := how5.eqv (Eqv.of hbw6 (by omega))
    obtain ⟨Aw6, cw6, rfl, _, _, _⟩ := how6.shp
    go_wp2_with fail
    refine (i_RunNetwork _ a0 _ _ _ _ _ _ hs1 how5.rd (by omega) how6.rd).mono ?_
    rintro e w7 ⟨vw7, rfl, how7, hbw7⟩
    have hzw7 := hbw7.size
    replace hbw := bthen hbw hbw7
    replace how4 := how4.eqv (Eqv.of hbw7 (by omega))
    replace how5 := how5.eqv (Eqv.of hbw7 (by omega))
    replace how6 := how6.eqv (Eqv.of hbw7 (by omega))
    obtain ⟨Aw7, cw7, rfl, _, _, _⟩ := how7.shp
    go_wp2_with fail
    refine (l_eqInt64SO _ _ _ _ _ _ _ _ _ (by omega) (by omega) how7 how4).mono ?_
    rintro e w8 ⟨rfl, hbw8⟩
    have hzw8 := hbw8.size
    replace hbw := bthen hbw hbw8
    replace how4 := how4.eqv (Eqv.of hbw8 (by omega))
    replace how5 := how5.eqv (Eqv.of hbw8 (by omega))
    replace how6 := how6.eqv (Eqv.of hbw8 (by omega))
    replace how7 := how7.eqv (Eqv.of hbw8 (by omega))
    go_wp2_with fail
    refine (l_toInt64SSO w8 A1 c1 xs1 hs1 (hR1.below hbw)).mono ?_
    rintro e w9 ⟨vw9, rfl, how9, hbw9⟩
    have hzw9 := hbw9.size
    replace hbw := bthen hbw hbw9
    replace how4 := how4.eqv (Eqv.of hbw9 (by omega))
    replace how5 := how5.eqv (Eqv.of hbw9 (by omega))
    replace how6 := how6.eqv (Eqv.of hbw9 (by omega))
    replace how7 := how7.eqv (Eqv.of hbw9 (by omega))
    obtain ⟨Aw9, cw9, rfl, _, _, _⟩ := how9.shp
    go_wp2_with fail
    refine (l_eqInt64SSO _ _ _ _ _ _ _ _ _ hs1 hs1 how5 how9).mono ?_
    rintro e w10 ⟨rfl, hbw10⟩
    have hzw10 := hbw10.size
    replace hbw := bthen hbw hbw10
    replace how4 := how4.eqv (Eqv.of hbw10 (by omega))
    replace how5 := how5.eqv (Eqv.of hbw10 (by omega))
    replace how6 := how6.eqv (Eqv.of hbw10 (by omega))
    replace how7 := how7.eqv (Eqv.of hbw10 (by omega))
    replace how9 := how9.eqv (Eqv.of hbw10 (by omega))
    clear how9
    go_wp2_with fail
    refine (l_toInt64SO w10 A2 c2 xs2 (by omega) (hR2.below hbw)).mono ?_
    rintro e w11 ⟨vw11, rfl, how11, hbw11⟩
    have hzw11 := hbw11.size
    replace hbw := bthen hbw hbw11
    replace how4 := how4.eqv (Eqv.of hbw11 (by omega))
    replace how5 := how5.eqv (Eqv.of hbw11 (by omega))
    replace how6 := how6.eqv (Eqv.of hbw11 (by omega))
    replace how7 := how7.eqv (Eqv.of hbw11 (by omega))
    obtain ⟨Aw11, cw11, rfl, _, _, _⟩ := how11.shp
    go_wp2_with fail
    refine (l_eqInt64SO _ _ _ _ _ _ _ _ _ (by omega) (by omega) how6 how11).mono ?_
    rintro e w12 ⟨rfl, hbw12⟩
    have hzw12 := hbw12.size
    replace hbw := bthen hbw hbw12
    replace how4 := how4.eqv (Eqv.of hbw12 (by omega))
    replace how5 := how5.eqv (Eqv.of hbw12 (by omega))
    replace how6 := how6.eqv (Eqv.of hbw12 (by omega))
    replace how7 := how7.eqv (Eqv.of hbw12 (by omega))
    replace how11 := how11.eqv (Eqv.of hbw12 (by omega))
    clear how11
    have hrt1 := rsz_tot (xss := xs1) (Nat.le_refl _)
    go_wp2_with fail
    refine (l_markInt64SSO _ _ _ _ _ _ (by omega) (by omega) how5).mono ?_
    rintro e w13 ⟨rfl, hmw13, hCw13⟩
    clear how5
    have hzw13 := hCw13.size
    replace hbw := hbw.trans (hCw13.below (by omega) (by omega))
    replace how4 := how4.eqv (hCw13.eqv (by omega) (by omega))
    replace how6 := how6.eqv (hCw13.eqv (by omega) (by omega))
    replace how7 := how7.eqv (hCw13.eqv (by omega) (by omega))
    clear hmw13
    go_wp2_with fail
    refine (l_markInt64SO _ _ _ _ _ _ (by omega) (by omega) how6).mono ?_
    rintro e w14 ⟨rfl, hmw14, hCw14⟩
    clear how6
    have hzw14 := hCw14.size
    replace hbw := hbw.trans (hCw14.below (by omega) (by omega))
    replace how4 := how4.eqv (hCw14.eqv (by omega) (by omega))
    replace how7 := how7.eqv (hCw14.eqv (by omega) (by omega))
    clear hmw14
    go_wp2_with fail
    refine (l_eqInt64SO _ _ _ _ _ _ _ _ _ (by omega) (by omega) how7 how4).mono ?_
    rintro e w15 ⟨rfl, hbw15⟩
    have hzw15 := hbw15.size
    replace hbw := bthen hbw hbw15
    replace how4 := how4.eqv (Eqv.of hbw15 (by omega))
    replace how7 := how7.eqv (Eqv.of hbw15 (by omega))
    go_wp2_with fail
    refine (l_markInt64SO _ _ _ _ _ _ (by omega) (by omega) how7).mono ?_
    rintro e w16 ⟨rfl, hmw16, hCw16⟩
    have hzw16 := hCw16.size
    replace hbw := hbw.trans (hCw16.below (by omega) (by omega))
    clear how7
    replace how4 := how4.eqv (hCw16.eqv (by omega) (by omega))
    go_wp2_with fail
    refine (l_heldInt64SM _ _ _ _ _ (by omega) hmw16).mono ?_
    rintro e w17 ⟨rfl, hbw17⟩
    have hzw17 := hbw17.size
    replace hbw := bthen hbw hbw17
    replace how4 := how4.eqv (Eqv.of hbw17 (by omega))
    replace hmw16 := hmw16.eqv (Eqv.of hbw17 (by omega))
    go_wp2_with fail
    refine (l_toInt64SSO w17 A1 c1 xs1 hs1 (hR1.below hbw)).mono ?_
    rintro e w18 ⟨vw18, rfl, how18, hbw18⟩
    have hzw18 := hbw18.size
    replace hbw := bthen hbw hbw18
    replace how4 := how4.eqv (Eqv.of hbw18 (by omega))
    replace hmw16 := hmw16.eqv (Eqv.of hbw18 (by omega))
    obtain ⟨Aw18, cw18, rfl, _, _, _⟩ := how18.shp
    go_wp2_with fail
    refine (l_toInt64SO w18 A2 c2 xs2 (by omega) (hR2.below hbw)).mono ?_
    rintro e w19 ⟨vw19, rfl, how19, hbw19⟩
    have hzw19 := hbw19.size
    replace hbw := bthen hbw hbw19
    replace how4 := how4.eqv (Eqv.of hbw19 (by omega))
    replace hmw16 := hmw16.eqv (Eqv.of hbw19 (by omega))
    replace how18 := how18.eqv (Eqv.of hbw19 (by omega))
    obtain ⟨Aw19, cw19, rfl, _, _, _⟩ := how19.shp
    go_wp2_with fail
    refine (i_RunNetwork _ a0 _ _ _ _ _ _ hs1 how18.rd (by omega) how19.rd).mono ?_
    rintro e w20 ⟨vw20, rfl, how20, hbw20⟩
    have hzw20 := hbw20.size
    replace hbw := bthen hbw hbw20
    replace how4 := how4.eqv (Eqv.of hbw20 (by omega))
    replace hmw16 := hmw16.eqv (Eqv.of hbw20 (by omega))
    replace how18 := how18.eqv (Eqv.of hbw20 (by omega))
    replace how19 := how19.eqv (Eqv.of hbw20 (by omega))
    obtain ⟨Aw20, cw20, rfl, _, _, _⟩ := how20.shp
    clear how18
    clear how19
    go_wp2_with fail
    refine (l_eqInt64SO _ _ _ _ _ _ _ _ _ (by omega) (by omega) how20 how4).mono ?_
    rintro e w21 ⟨rfl, hbw21⟩
    have hzw21 := hbw21.size
    replace hbw := bthen hbw hbw21
    replace how4 := how4.eqv (Eqv.of hbw21 (by omega))
    replace hmw16 := hmw16.eqv (Eqv.of hbw21 (by omega))
    replace how20 := how20.eqv (Eqv.of hbw21 (by omega))
    go_wp2_with fail
    refine (l_heldInt64SM _ _ _ _ _ (by omega) hmw16).mono ?_
    rintro e w22 ⟨rfl, hbw22⟩
    have hzw22 := hbw22.size
    replace hbw := bthen hbw hbw22
    replace how4 := how4.eqv (Eqv.of hbw22 (by omega))
    replace hmw16 := hmw16.eqv (Eqv.of hbw22 (by omega))
    replace how20 := how20.eqv (Eqv.of hbw22 (by omega))
    go_wp2_with fail
    go_ret
    exact ⟨rfl, hbw⟩
end Go.Proofs.Ythgfcoafngddgaa
