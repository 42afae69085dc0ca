import Derived.Test.YtcjbfnbknpolcaaBase
import Derived.Test.YtcjbfnbknpolcaaShuf6
import Derived.Test.YtcjbfnbknpolcaaLawO
set_option linter.unusedVariables false
set_option linter.unusedSimpArgs false
namespace Go.Proofs.Ytcjbfnbknpolcaa
open Go.RowKit

theorem law_PickLanes (w : World) (a0 : Int) (A1 : Option Addr) (c1 : Nat) (xs1 : List Int) (A2 : Option Addr) (c2 : Nat) (xs2 : List Int) (A3 : Option Addr) (c3 : Nat) (xs3 : List Int) (hl1 : xs1.length ≤ 9223372036854775807) (hR1 : RdI w A1 xs1) (hl2 : xs2.length ≤ 9223372036854775807) (hR2 : RdI w A2 xs2) (hl3 : xs3.length ≤ 9223372036854775807) (hR3 : RdI w A3 xs3) :
    Calls Try.prog 13 #[.int .i64 a0, .slice A1 xs1.length c1, .slice A2 xs2.length c2, .slice A3 xs3.length c3] w fun e w' => e = .returned (.bool true) ∧ Below w.heap.size w w' := by
  by_cases big1 : 1048576 < xs1.length
  · go_enter Try.func13, Try.ntmps13
    go_wp2
    go_ret
    exact ⟨rfl, Below.refl _ _⟩
  have hs1 : xs1.length ≤ 1048576 := by omega
  clear big1
  by_cases big2 : 1048576 < xs2.length
  · go_enter Try.func13, Try.ntmps13
    go_wp2
    go_ret
    exact ⟨rfl, Below.refl _ _⟩
  have hs2 : xs2.length ≤ 1048576 := by omega
  clear big2
  by_cases big3 : 1048576 < xs3.length
  · go_enter Try.func13, Try.ntmps13
    go_wp2
    go_ret
    exact ⟨rfl, Below.refl _ _⟩
  have hs3 : xs3.length ≤ 1048576 := by omega
  clear big3
  have hbw := Below.refl w.heap.size w
  go_enter Try.func13, Try.ntmps13
  have hres := m_PickLanes_len a0 xs1 xs2 xs3
  go_wp2_with fail
  refine (l_toInt64SO w A1 c1 xs1 (by omega) (hR1.below hbw)).mono ?_
  rintro e w1 ⟨vw1, rfl, how1, hbw1⟩
  have hzw1 := hbw1.size
  replace hbw := bthen hbw hbw1
  obtain ⟨Aw1, cw1, rfl, _, _, _⟩ := how1.shp
  go_wp2_with fail
  refine (l_toInt64SO w1 A2 c2 xs2 (by omega) (hR2.below hbw)).mono ?_
  rintro e w2 ⟨vw2, rfl, how2, hbw2⟩
  have hzw2 := hbw2.size
  replace hbw := bthen hbw hbw2
  replace how1 := how1.eqv (Eqv.of hbw2 (by omega))
  obtain ⟨Aw2, cw2, rfl, _, _, _⟩ := how2.shp
  go_wp2_with fail
  refine (l_toInt64SO w2 A3 c3 xs3 (by omega) (hR3.below hbw)).mono ?_
  rintro e w3 ⟨vw3, rfl, how3, hbw3⟩
  have hzw3 := hbw3.size
  replace hbw := bthen hbw hbw3
  replace how1 := how1.eqv (Eqv.of hbw3 (by omega))
  replace how2 := how2.eqv (Eqv.of hbw3 (by omega))
  obtain ⟨Aw3, cw3, rfl, _, _, _⟩ := how3.shp
  go_wp2_with fail
  refine (s_PickLanes _ a0 _ _ _ _ _ _ _ _ _ (by omega) (by omega) how1.rd (by omega) (by omega) how2.rd (by omega) (by omega) how3.rd).mono ?_
  rintro e w4 ⟨vw4, rfl, how4, hbw4⟩
  have hzw4 := hbw4.size
  replace hbw := bthen hbw hbw4
  replace how1 := how1.eqv (Eqv.of hbw4 (by omega))
  replace how2 := how2.eqv (Eqv.of hbw4 (by omega))
  replace how3 := how3.eqv (Eqv.of hbw4 (by omega))
  obtain ⟨Aw4, cw4, rfl, _, _, _⟩ := how4.shp
  clear how1
  clear how2
  clear how3
  go_wp2_with fail
  refine (l_toInt64SO w4 A1 c1 xs1 (by omega) (hR1.below hbw)).mono ?_
  rintro e w5 ⟨vw5, rfl, how5, hbw5⟩
  have hzw5 := hbw5.size
  replace hbw := bthen hbw hbw5
  replace how4 := how4.eqv (Eqv.of hbw5 (by omega))
  obtain ⟨Aw5, cw5, rfl, _, _, _⟩ := how5.shp
  go_wp2_with fail
  refine (l_toInt64SO w5 A2 c2 xs2 (by omega) (hR2.below hbw)).mono ?_
  rintro e w6 ⟨vw6, rfl, how6, hbw6⟩
  have hzw6 := hbw6.size
  replace hbw := bthen hbw hbw6
  replace how4 := how4.eqv (Eqv.of hbw6 (by omega))
  replace how5 := how5.eqv (Eqv.of hbw6 (by omega))
  obtain ⟨Aw6, cw6, rfl, _, _, _⟩ := how6.shp
  go_wp2_with fail
  refine (l_toInt64SO w6 A3 c3 xs3 (by omega) (hR3.below hbw)).mono ?_
  rintro e w7 ⟨vw7, rfl, how7, hbw7⟩
  have hzw7 := hbw7.size
  replace hbw := bthen hbw hbw7
  replace how4 := how4.eqv (Eqv.of hbw7 (by omega))
  replace how5 := how5.eqv (Eqv.of hbw7 (by omega))
  replace how6 := how6.eqv (Eqv.of hbw7 (by omega))
  obtain ⟨Aw7, cw7, rfl, _, _, _⟩ := how7.shp
  go_wp2_with fail
  refine (i_PickLanes _ a0 _ _ _ _ _ _ _ _ _ (by omega) (by omega) how5.rd (by omega) (by omega) how6.rd (by omega) (by omega) how7.rd).mono ?_
  rintro e w8 ⟨vw8, rfl, how8, hbw8⟩
  have hzw8 := hbw8.size
  replace hbw := bthen hbw hbw8
  replace how4 := how4.eqv (Eqv.of hbw8 (by omega))
  replace how5 := how5.eqv (Eqv.of hbw8 (by omega))
  replace how6 := how6.eqv (Eqv.of hbw8 (by omega))
  replace how7 := how7.eqv (Eqv.of hbw8 (by omega))
  obtain ⟨Aw8, cw8, rfl, _, _, _⟩ := how8.shp
  go_wp2_with fail
  refine (l_eqInt64SO _ _ _ _ _ _ _ _ _ (by omega) (by omega) how8 how4).mono ?_
  rintro e w9 ⟨rfl, hbw9⟩
  have hzw9 := hbw9.size
  replace hbw := bthen hbw hbw9
  replace how4 := how4.eqv (Eqv.of hbw9 (by omega))
  replace how5 := how5.eqv (Eqv.of hbw9 (by omega))
  replace how6 := how6.eqv (Eqv.of hbw9 (by omega))
  replace how7 := how7.eqv (Eqv.of hbw9 (by omega))
  replace how8 := how8.eqv (Eqv.of hbw9 (by omega))
  go_wp2_with fail
  refine (l_toInt64SO w9 A1 c1 xs1 (by omega) (hR1.below hbw)).mono ?_
  rintro e w10 ⟨vw10, rfl, how10, hbw10⟩
  have hzw10 := hbw10.size
  replace hbw := bthen hbw hbw10
  replace how4 := how4.eqv (Eqv.of hbw10 (by omega))
  replace how5 := how5.eqv (Eqv.of hbw10 (by omega))
  replace how6 := how6.eqv (Eqv.of hbw10 (by omega))
  replace how7 := how7.eqv (Eqv.of hbw10 (by omega))
  replace how8 := how8.eqv (Eqv.of hbw10 (by omega))
  obtain ⟨Aw10, cw10, rfl, _, _, _⟩ := how10.shp
  go_wp2_with fail
  refine (l_eqInt64SO _ _ _ _ _ _ _ _ _ (by omega) (by omega) how5 how10).mono ?_
  rintro e w11 ⟨rfl, hbw11⟩
  have hzw11 := hbw11.size
  replace hbw := bthen hbw hbw11
  replace how4 := how4.eqv (Eqv.of hbw11 (by omega))
  replace how5 := how5.eqv (Eqv.of hbw11 (by omega))
  replace how6 := how6.eqv (Eqv.of hbw11 (by omega))
  replace how7 := how7.eqv (Eqv.of hbw11 (by omega))
  replace how8 := how8.eqv (Eqv.of hbw11 (by omega))
  replace how10 := how10.eqv (Eqv.of hbw11 (by omega))
  clear how10
  go_wp2_with fail
  refine (l_toInt64SO w11 A2 c2 xs2 (by omega) (hR2.below hbw)).mono ?_
  rintro e w12 ⟨vw12, rfl, how12, hbw12⟩
  have hzw12 := hbw12.size
  replace hbw := bthen hbw hbw12
  replace how4 := how4.eqv (Eqv.of hbw12 (by omega))
  replace how5 := how5.eqv (Eqv.of hbw12 (by omega))
  replace how6 := how6.eqv (Eqv.of hbw12 (by omega))
  replace how7 := how7.eqv (Eqv.of hbw12 (by omega))
  replace how8 := how8.eqv (Eqv.of hbw12 (by omega))
  obtain ⟨Aw12, cw12, rfl, _, _, _⟩ := how12.shp
  go_wp2_with fail
  refine (l_eqInt64SO _ _ _ _ _ _ _ _ _ (by omega) (by omega) how6 how12).mono ?_
  rintro e w13 ⟨rfl, hbw13⟩
  have hzw13 := hbw13.size
  replace hbw := bthen hbw hbw13
  replace how4 := how4.eqv (Eqv.of hbw13 (by omega))
  replace how5 := how5.eqv (Eqv.of hbw13 (by omega))
  replace how6 := how6.eqv (Eqv.of hbw13 (by omega))
  replace how7 := how7.eqv (Eqv.of hbw13 (by omega))
  replace how8 := how8.eqv (Eqv.of hbw13 (by omega))
  replace how12 := how12.eqv (Eqv.of hbw13 (by omega))
  clear how12
  go_wp2_with fail
  refine (l_toInt64SO w13 A3 c3 xs3 (by omega) (hR3.below hbw)).mono ?_
  rintro e w14 ⟨vw14, rfl, how14, hbw14⟩
  have hzw14 := hbw14.size
  replace hbw := bthen hbw hbw14
  replace how4 := how4.eqv (Eqv.of hbw14 (by omega))
  replace how5 := how5.eqv (Eqv.of hbw14 (by omega))
  replace how6 := how6.eqv (Eqv.of hbw14 (by omega))
  replace how7 := how7.eqv (Eqv.of hbw14 (by omega))
  replace how8 := how8.eqv (Eqv.of hbw14 (by omega))
  obtain ⟨Aw14, cw14, rfl, _, _, _⟩ := how14.shp
  go_wp2_with fail
  refine (l_eqInt64SO _ _ _ _ _ _ _ _ _ (by omega) (by omega) how7 how14).mono ?_
  rintro e w15 ⟨rfl, hbw15⟩
  have hzw15 := hbw15.size
  replace hbw := bthen hbw hbw15
  replace how4 := how4.eqv (Eqv.of hbw15 (by omega))
  replace how5 := how5.eqv (Eqv.of hbw15 (by omega))
  replace how6 := how6.eqv (Eqv.of hbw15 (by omega))
  replace how7 := how7.eqv (Eqv.of hbw15 (by omega))
  replace how8 := how8.eqv (Eqv.of hbw15 (by omega))
  replace how14 := how14.eqv (Eqv.of hbw15 (by omega))
  clear how14
  go_wp2_with fail
  refine (l_markInt64SO _ _ _ _ _ _ (by omega) (by omega) how5).mono ?_
  rintro e w16 ⟨rfl, hmw16, hCw16⟩
  clear how5
  have hzw16 := hCw16.size
  replace hbw := hbw.trans (hCw16.below (by omega) (by omega))
  replace how4 := how4.eqv (hCw16.eqv (by omega) (by omega))
  replace how6 := how6.eqv (hCw16.eqv (by omega) (by omega))
  replace how7 := how7.eqv (hCw16.eqv (by omega) (by omega))
  replace how8 := how8.eqv (hCw16.eqv (by omega) (by omega))
  clear hmw16
  go_wp2_with fail
  refine (l_markInt64SO _ _ _ _ _ _ (by omega) (by omega) how6).mono ?_
  rintro e w17 ⟨rfl, hmw17, hCw17⟩
  clear how6
  have hzw17 := hCw17.size
  replace hbw := hbw.trans (hCw17.below (by omega) (by omega))
  replace how4 := how4.eqv (hCw17.eqv (by omega) (by omega))
  replace how7 := how7.eqv (hCw17.eqv (by omega) (by omega))
  replace how8 := how8.eqv (hCw17.eqv (by omega) (by omega))
  clear hmw17
  go_wp2_with fail
  refine (l_markInt64SO _ _ _ _ _ _ (by omega) (by omega) how7).mono ?_
  rintro e w18 ⟨rfl, hmw18, hCw18⟩
  clear how7
  have hzw18 := hCw18.size
  replace hbw := hbw.trans (hCw18.below (by omega) (by omega))
  replace how4 := how4.eqv (hCw18.eqv (by omega) (by omega))
  replace how8 := how8.eqv (hCw18.eqv (by omega) (by omega))
  clear hmw18
  go_wp2_with fail
  refine (l_eqInt64SO _ _ _ _ _ _ _ _ _ (by omega) (by omega) how8 how4).mono ?_
  rintro e w19 ⟨rfl, hbw19⟩
  have hzw19 := hbw19.size
  replace hbw := bthen hbw hbw19
  replace how4 := how4.eqv (Eqv.of hbw19 (by omega))
  replace how8 := how8.eqv (Eqv.of hbw19 (by omega))
  go_wp2_with fail
  refine (l_markInt64SO _ _ _ _ _ _ (by omega) (by omega) how8).mono ?_
  rintro e w20 ⟨rfl, hmw20, hCw20⟩
  have hzw20 := hCw20.size
  replace hbw := hbw.trans (hCw20.below (by omega) (by omega))
  clear how8
  replace how4 := how4.eqv (hCw20.eqv (by omega) (by omega))
  go_wp2_with fail
  refine (l_heldInt64SM _ _ _ _ _ (by omega) hmw20).mono ?_
  rintro e w21 ⟨rfl, hbw21⟩
  have hzw21 := hbw21.size
  replace hbw := bthen hbw hbw21
  replace how4 := how4.eqv (Eqv.of hbw21 (by omega))
  replace hmw20 := hmw20.eqv (Eqv.of hbw21 (by omega))
  go_wp2_with fail
  refine (l_toInt64SO w21 A1 c1 xs1 (by omega) (hR1.below hbw)).mono ?_
  rintro e w22 ⟨vw22, rfl, how22, hbw22⟩
  have hzw22 := hbw22.size
  replace hbw := bthen hbw hbw22
  replace how4 := how4.eqv (Eqv.of hbw22 (by omega))
  replace hmw20 := hmw20.eqv (Eqv.of hbw22 (by omega))
  obtain ⟨Aw22, cw22, rfl, _, _, _⟩ := how22.shp
  go_wp2_with fail
  refine (l_toInt64SO w22 A2 c2 xs2 (by omega) (hR2.below hbw)).mono ?_
  rintro e w23 ⟨vw23, rfl, how23, hbw23⟩
  have hzw23 := hbw23.size
  replace hbw := bthen hbw hbw23
  replace how4 := how4.eqv (Eqv.of hbw23 (by omega))
  replace hmw20 := hmw20.eqv (Eqv.of hbw23 (by omega))
  replace how22 := how22.eqv (Eqv.of hbw23 (by omega))
  obtain ⟨Aw23, cw23, rfl, _, _, _⟩ := how23.shp
  go_wp2_with fail
  refine (l_toInt64SO w23 A3 c3 xs3 (by omega) (hR3.below hbw)).mono ?_
  rintro e w24 ⟨vw24, rfl, how24, hbw24⟩
  have hzw24 := hbw24.size
  replace hbw := bthen hbw hbw24
  replace how4 := how4.eqv (Eqv.of hbw24 (by omega))
  replace hmw20 := hmw20.eqv (Eqv.of hbw24 (by omega))
  replace how22 := how22.eqv (Eqv.of hbw24 (by omega))
  replace how23 := how23.eqv (Eqv.of hbw24 (by omega))
  obtain ⟨Aw24, cw24, rfl, _, _, _⟩ := how24.shp
  go_wp2_with fail
  refine (i_PickLanes _ a0 _ _ _ _ _ _ _ _ _ (by omega) (by omega) how22.rd (by omega) (by omega) how23.rd (by omega) (by omega) how24.rd).mono ?_
  rintro e w25 ⟨vw25, rfl, how25, hbw25⟩
  have hzw25 := hbw25.size
  replace hbw := bthen hbw hbw25
  replace how4 := how4.eqv (Eqv.of hbw25 (by omega))
  replace hmw20 := hmw20.eqv (Eqv.of hbw25 (by omega))
  replace how22 := how22.eqv (Eqv.of hbw25 (by omega))
  replace how23 := how23.eqv (Eqv.of hbw25 (by omega))
  replace how24 := how24.eqv (Eqv.of hbw25 (by omega))
  obtain ⟨Aw25, cw25, rfl, _, _, _⟩ := how25.shp
  clear how22
  clear how23
  clear how24
  go_wp2_with fail
  refine (l_eqInt64SO _ _ _ _ _ _ _ _ _ (by omega) (by omega) how25 how4).mono ?_
  rintro e w26 ⟨rfl, hbw26⟩
  have hzw26 := hbw26.size
  replace hbw := bthen hbw hbw26
  replace how4 := how4.eqv (Eqv.of hbw26 (by omega))
  replace hmw20 := hmw20.eqv (Eqv.of hbw26 (by omega))
  replace how25 := how25.eqv (Eqv.of hbw26 (by omega))
  go_wp2_with fail
  refine (l_heldInt64SM _ _ _ _ _ (by omega) hmw20).mono ?_
  rintro e w27 ⟨rfl, hbw27⟩
  have hzw27 := hbw27.size
  replace hbw := bthen hbw hbw27
  replace how4 := how4.eqv (Eqv.of hbw27 (by omega))
  replace hmw20 := hmw20.eqv (Eqv.of hbw27 (by omega))
  replace how25 := how25.eqv (Eqv.of hbw27 (by omega))
  go_wp2_with fail
  go_ret
  exact ⟨rfl, hbw⟩
end Go.Proofs.Ytcjbfnbknpolcaa
