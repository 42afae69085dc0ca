import Derived.Test.YtcjbfnbknpolcaaBase
import Derived.Test.YtcjbfnbknpolcaaShuf2
import Derived.Test.YtcjbfnbknpolcaaLawO
set_option linter.unusedVariables false
set_option linter.unusedSimpArgs false
namespace Go.Proofs.Ytcjbfnbknpolcaa
open Go.RowKit

theorem law_ShuffleLanes (w : World) (a0 : Int) (A1 : Option Addr) (c1 : Nat) (xs1 : List Int) (A2 : Option Addr) (c2 : Nat) (xs2 : List Int) (hl1 : xs1.length ≤ 9223372036854775807) (hR1 : RdI w A1 xs1) (hl2 : xs2.length ≤ 9223372036854775807) (hR2 : RdI w A2 xs2) :
    Calls Try.prog 7 #[.int .i64 a0, .slice A1 xs1.length c1, .slice A2 xs2.length c2] w fun e w' => e = .returned (.bool true) ∧ Below w.heap.size w w' := by
  by_cases big1 : 1048576 < xs1.length
  · go_enter Try.func7, Try.ntmps7
    go_wp2
    go_ret
    exact ⟨rfl, Below.refl _ _⟩
  have hs1 : xs1.length ≤ 1048576 := by omega
  clear big1
  by_cases big2 : 1048576 < xs2.length
  · go_enter Try.func7, Try.ntmps7
    go_wp2
    go_ret
    exact ⟨rfl, Below.refl _ _⟩
  have hs2 : xs2.length ≤ 1048576 := by omega
  clear big2
  have hbw := Below.refl w.heap.size w
  go_enter Try.func7, Try.ntmps7
  have hres := m_ShuffleLanes_len a0 xs1 xs2
  go_wp2_with fail
  refine (l_toInt64SO w A1 c1 xs1 (by omega) (hR1.below hbw)).mono ?_
  rintro e w1 ⟨vw1, rfl, how1, hbw1⟩
  have hzw1 := hbw1.size
  replace hbw := bthen hbw hbw1
  obtain ⟨Aw1, cw1, rfl, _, _, _⟩ := how1.shp
  go_wp2_with fail
  refine (l_toInt64SO w1 A2 c2 xs2 (by omega) (hR2.below hbw)).mono ?_
  rintro e w2 ⟨vw2, rfl, how2, hbw2⟩
  have hzw2 := hbw2.size
  replace hbw := bthen hbw hbw2
  replace how1 := how1.eqv (Eqv.of hbw2 (by omega))
  obtain ⟨Aw2, cw2, rfl, _, _, _⟩ := how2.shp
  go_wp2_with fail
  refine (s_ShuffleLanes _ a0 _ _ _ _ _ _ (by omega) how1.rd (by omega) how2.rd).mono ?_
  rintro e w3 ⟨vw3, rfl, how3, hbw3⟩
  have hzw3 := hbw3.size
  replace hbw := bthen hbw hbw3
  replace how1 := how1.eqv (Eqv.of hbw3 (by omega))
  replace how2 := how2.eqv (Eqv.of hbw3 (by omega))
  obtain ⟨Aw3, cw3, rfl, _, _, _⟩ := how3.shp
  clear how1
  clear how2
  go_wp2_with fail
  refine (l_toInt64SO w3 A1 c1 xs1 (by omega) (hR1.below hbw)).mono ?_
  rintro e w4 ⟨vw4, rfl, how4, hbw4⟩
  have hzw4 := hbw4.size
  replace hbw := bthen hbw hbw4
  replace how3 := how3.eqv (Eqv.of hbw4 (by omega))
  obtain ⟨Aw4, cw4, rfl, _, _, _⟩ := how4.shp
  go_wp2_with fail
  refine (l_toInt64SO w4 A2 c2 xs2 (by omega) (hR2.below hbw)).mono ?_
  rintro e w5 ⟨vw5, rfl, how5, hbw5⟩
  have hzw5 := hbw5.size
  replace hbw := bthen hbw hbw5
  replace how3 := how3.eqv (Eqv.of hbw5 (by omega))
  replace how4 := how4.eqv (Eqv.of hbw5 (by omega))
  obtain ⟨Aw5, cw5, rfl, _, _, _⟩ := how5.shp
  go_wp2_with fail
  refine (i_ShuffleLanes _ a0 _ _ _ _ _ _ (by omega) how4.rd (by omega) how5.rd).mono ?_
  rintro e w6 ⟨vw6, rfl, how6, hbw6⟩
  have hzw6 := hbw6.size
  replace hbw := bthen hbw hbw6
  replace how3 := how3.eqv (Eqv.of hbw6 (by omega))
  replace how4 := how4.eqv (Eqv.of hbw6 (by omega))
  replace how5 := how5.eqv (Eqv.of hbw6 (by omega))
  obtain ⟨Aw6, cw6, rfl, _, _, _⟩ := how6.shp
  go_wp2_with fail
  refine (l_eqInt64SO _ _ _ _ _ _ _ _ _ (by omega) (by omega) how6 how3).mono ?_
  rintro e w7 ⟨rfl, hbw7⟩
  have hzw7 := hbw7.size
  replace hbw := bthen hbw hbw7
  replace how3 := how3.eqv (Eqv.of hbw7 (by omega))
  replace how4 := how4.eqv (Eqv.of hbw7 (by omega))
  replace how5 := how5.eqv (Eqv.of hbw7 (by omega))
  replace how6 := how6.eqv (Eqv.of hbw7 (by omega))
  go_wp2_with fail
  refine (l_toInt64SO w7 A1 c1 xs1 (by omega) (hR1.below hbw)).mono ?_
  rintro e w8 ⟨vw8, rfl, how8, hbw8⟩
  have hzw8 := hbw8.size
  replace hbw := bthen hbw hbw8
  replace how3 := how3.eqv (Eqv.of hbw8 (by omega))
  replace how4 := how4.eqv (Eqv.of hbw8 (by omega))
  replace how5 := how5.eqv (Eqv.of hbw8 (by omega))
  replace how6 := how6.eqv (Eqv.of hbw8 (by omega))
  obtain ⟨Aw8, cw8, rfl, _, _, _⟩ := how8.shp
  go_wp2_with fail
  refine (l_eqInt64SO _ _ _ _ _ _ _ _ _ (by omega) (by omega) how4 how8).mono ?_
  rintro e w9 ⟨rfl, hbw9⟩
  have hzw9 := hbw9.size
  replace hbw := bthen hbw hbw9
  replace how3 := how3.eqv (Eqv.of hbw9 (by omega))
  replace how4 := how4.eqv (Eqv.of hbw9 (by omega))
  replace how5 := how5.eqv (Eqv.of hbw9 (by omega))
  replace how6 := how6.eqv (Eqv.of hbw9 (by omega))
  replace how8 := how8.eqv (Eqv.of hbw9 (by omega))
  clear how8
  go_wp2_with fail
  refine (l_toInt64SO w9 A2 c2 xs2 (by omega) (hR2.below hbw)).mono ?_
  rintro e w10 ⟨vw10, rfl, how10, hbw10⟩
  have hzw10 := hbw10.size
  replace hbw := bthen hbw hbw10
  replace how3 := how3.eqv (Eqv.of hbw10 (by omega))
  replace how4 := how4.eqv (Eqv.of hbw10 (by omega))
  replace how5 := how5.eqv (Eqv.of hbw10 (by omega))
  replace how6 := how6.eqv (Eqv.of hbw10 (by omega))
  obtain ⟨Aw10, cw10, rfl, _, _, _⟩ := how10.shp
  go_wp2_with fail
  refine (l_eqInt64SO _ _ _ _ _ _ _ _ _ (by omega) (by omega) how5 how10).mono ?_
  rintro e w11 ⟨rfl, hbw11⟩
  have hzw11 := hbw11.size
  replace hbw := bthen hbw hbw11
  replace how3 := how3.eqv (Eqv.of hbw11 (by omega))
  replace how4 := how4.eqv (Eqv.of hbw11 (by omega))
  replace how5 := how5.eqv (Eqv.of hbw11 (by omega))
  replace how6 := how6.eqv (Eqv.of hbw11 (by omega))
  replace how10 := how10.eqv (Eqv.of hbw11 (by omega))
  clear how10
  go_wp2_with fail
  refine (l_markInt64SO _ _ _ _ _ _ (by omega) (by omega) how4).mono ?_
  rintro e w12 ⟨rfl, hmw12, hCw12⟩
  clear how4
  have hzw12 := hCw12.size
  replace hbw := hbw.trans (hCw12.below (by omega) (by omega))
  replace how3 := how3.eqv (hCw12.eqv (by omega) (by omega))
  replace how5 := how5.eqv (hCw12.eqv (by omega) (by omega))
  replace how6 := how6.eqv (hCw12.eqv (by omega) (by omega))
  clear hmw12
  go_wp2_with fail
  refine (l_markInt64SO _ _ _ _ _ _ (by omega) (by omega) how5).mono ?_
  rintro e w13 ⟨rfl, hmw13, hCw13⟩
  clear how5
  have hzw13 := hCw13.size
  replace hbw := hbw.trans (hCw13.below (by omega) (by omega))
  replace how3 := how3.eqv (hCw13.eqv (by omega) (by omega))
  replace how6 := how6.eqv (hCw13.eqv (by omega) (by omega))
  clear hmw13
  go_wp2_with fail
  refine (l_eqInt64SO _ _ _ _ _ _ _ _ _ (by omega) (by omega) how6 how3).mono ?_
  rintro e w14 ⟨rfl, hbw14⟩
  have hzw14 := hbw14.size
  replace hbw := bthen hbw hbw14
  replace how3 := how3.eqv (Eqv.of hbw14 (by omega))
  replace how6 := how6.eqv (Eqv.of hbw14 (by omega))
  go_wp2_with fail
  refine (l_markInt64SO _ _ _ _ _ _ (by omega) (by omega) how6).mono ?_
  rintro e w15 ⟨rfl, hmw15, hCw15⟩
  have hzw15 := hCw15.size
  replace hbw := hbw.trans (hCw15.below (by omega) (by omega))
  clear how6
  replace how3 := how3.eqv (hCw15.eqv (by omega) (by omega))
  go_wp2_with fail
  refine (l_heldInt64SM _ _ _ _ _ (by omega) hmw15).mono ?_
  rintro e w16 ⟨rfl, hbw16⟩
  have hzw16 := hbw16.size
  replace hbw := bthen hbw hbw16
  replace how3 := how3.eqv (Eqv.of hbw16 (by omega))
  replace hmw15 := hmw15.eqv (Eqv.of hbw16 (by omega))
  go_wp2_with fail
  refine (l_toInt64SO w16 A1 c1 xs1 (by omega) (hR1.below hbw)).mono ?_
  rintro e w17 ⟨vw17, rfl, how17, hbw17⟩
  have hzw17 := hbw17.size
  replace hbw := bthen hbw hbw17
  replace how3 := how3.eqv (Eqv.of hbw17 (by omega))
  replace hmw15 := hmw15.eqv (Eqv.of hbw17 (by omega))
  obtain ⟨Aw17, cw17, rfl, _, _, _⟩ := how17.shp
  go_wp2_with fail
  refine (l_toInt64SO w17 A2 c2 xs2 (by omega) (hR2.below hbw)).mono ?_
  rintro e w18 ⟨vw18, rfl, how18, hbw18⟩
  have hzw18 := hbw18.size
  replace hbw := bthen hbw hbw18
  replace how3 := how3.eqv (Eqv.of hbw18 (by omega))
  replace hmw15 := hmw15.eqv (Eqv.of hbw18 (by omega))
  replace how17 := how17.eqv (Eqv.of hbw18 (by omega))
  obtain ⟨Aw18, cw18, rfl, _, _, _⟩ := how18.shp
  go_wp2_with fail
  refine (i_ShuffleLanes _ a0 _ _ _ _ _ _ (by omega) how17.rd (by omega) how18.rd).mono ?_
  rintro e w19 ⟨vw19, rfl, how19, hbw19⟩
  have hzw19 := hbw19.size
  replace hbw := bthen hbw hbw19
  replace how3 := how3.eqv (Eqv.of hbw19 (by omega))
  replace hmw15 := hmw15.eqv (Eqv.of hbw19 (by omega))
  replace how17 := how17.eqv (Eqv.of hbw19 (by omega))
  replace how18 := how18.eqv (Eqv.of hbw19 (by omega))
  obtain ⟨Aw19, cw19, rfl, _, _, _⟩ := how19.shp
  clear how17
  clear how18
  go_wp2_with fail
  refine (l_eqInt64SO _ _ _ _ _ _ _ _ _ (by omega) (by omega) how19 how3).mono ?_
  rintro e w20 ⟨rfl, hbw20⟩
  have hzw20 := hbw20.size
  replace hbw := bthen hbw hbw20
  replace how3 := how3.eqv (Eqv.of hbw20 (by omega))
  replace hmw15 := hmw15.eqv (Eqv.of hbw20 (by omega))
  replace how19 := how19.eqv (Eqv.of hbw20 (by omega))
  go_wp2_with fail
  refine (l_heldInt64SM _ _ _ _ _ (by omega) hmw15).mono ?_
  rintro e w21 ⟨rfl, hbw21⟩
  have hzw21 := hbw21.size
  replace hbw := bthen hbw hbw21
  replace how3 := how3.eqv (Eqv.of hbw21 (by omega))
  replace hmw15 := hmw15.eqv (Eqv.of hbw21 (by omega))
  replace how19 := how19.eqv (Eqv.of hbw21 (by omega))
  go_wp2_with fail
  go_ret
  exact ⟨rfl, hbw⟩
end Go.Proofs.Ytcjbfnbknpolcaa
