import Derived.Test.YtolcmehndambmaaBase
import Derived.Test.YtolcmehndambmaaRtn8
import Derived.Test.YtolcmehndambmaaMarkR
import Derived.Test.YtolcmehndambmaaLawO
set_option linter.unusedVariables false
set_option linter.unusedSimpArgs false
namespace Go.Proofs.Ytolcmehndambmaa
open Go.RowKit

theorem law_RouteNetwork (w : World) (A0 : Option Addr) (c0 : Nat) (xs0 : List Int) (hl0 : xs0.length ≤ 9223372036854775807) (hR0 : RdI w A0 xs0) :
    Calls Try.prog 4 #[.slice A0 xs0.length c0] w fun e w' => e = .returned (.bool true) ∧ Below w.heap.size w w' := by
  by_cases big0 : 1048576 < xs0.length
  · go_enter Try.func4, Try.ntmps4
    go_wp2
    go_ret
    exact ⟨rfl, Below.refl _ _⟩
  have hs0 : xs0.length ≤ 1048576 := by omega
  clear big0
  have hbw := Below.refl w.heap.size w
  go_enter Try.func4, Try.ntmps4
  have hres := m_RouteNetwork_len xs0
  go_wp2_with fail
  refine (l_toInt64SO w A0 c0 xs0 (by omega) (hR0.below hbw)).mono ?_
  rintro e w1 ⟨vw1, rfl, how1, hbw1⟩
  have hzw1 := hbw1.size
  replace hbw := bthen hbw hbw1
  obtain ⟨Aw1, cw1, rfl, _, _, _⟩ := how1.shp
  go_wp2_with fail
  refine (s_RouteNetwork _ _ _ _ (by omega) how1.rd).mono ?_
  rintro e w2 ⟨vw2, rfl, how2, hbw2⟩
  have hzw2 := hbw2.size
  replace hbw := bthen hbw hbw2
  replace how1 := how1.eqv (Eqv.of hbw2 (by omega))
  obtain ⟨Aw2, cw2, rfl, _, _, _⟩ := how2.shp
  clear how1
  go_wp2_with fail
  refine (l_toInt64SO w2 A0 c0 xs0 (by omega) (hR0.below hbw)).mono ?_
  rintro e w3 ⟨vw3, rfl, how3, hbw3⟩
  have hzw3 := hbw3.size
  replace hbw := bthen hbw hbw3
  replace how2 := how2.eqv (Eqv.of hbw3 (by omega))
  obtain ⟨Aw3, cw3, rfl, _, _, _⟩ := how3.shp
  go_wp2_with fail
  refine (i_RouteNetwork _ _ _ _ (by omega) how3.rd).mono ?_
  rintro e w4 ⟨vw4, rfl, how4, hbw4⟩
  have hzw4 := hbw4.size
  replace hbw := bthen hbw hbw4
  replace how2 := how2.eqv (Eqv.of hbw4 (by omega))
  replace how3 := how3.eqv (Eqv.of hbw4 (by omega))
  obtain ⟨Aw4, cw4, rfl, _, _, _⟩ := how4.shp
  go_wp2_with fail
  refine (l_eqInt64SSO _ _ _ _ _ _ _ _ _ hres hres how4 how2).mono ?_
  rintro e w5 ⟨rfl, hbw5⟩
  have hzw5 := hbw5.size
  replace hbw := bthen hbw hbw5
  replace how2 := how2.eqv (Eqv.of hbw5 (by omega))
  replace how3 := how3.eqv (Eqv.of hbw5 (by omega))
  replace how4 := how4.eqv (Eqv.of hbw5 (by omega))
  go_wp2_with fail
  refine (l_toInt64SO w5 A0 c0 xs0 (by omega) (hR0.below hbw)).mono ?_
  rintro e w6 ⟨vw6, rfl, how6, hbw6⟩
  have hzw6 := hbw6.size
  replace hbw := bthen hbw hbw6
  replace how2 := how2.eqv (Eqv.of hbw6 (by omega))
  replace how3 := how3.eqv (Eqv.of hbw6 (by omega))
  replace how4 := how4.eqv (Eqv.of hbw6 (by omega))
  obtain ⟨Aw6, cw6, rfl, _, _, _⟩ := how6.shp
  go_wp2_with fail
  refine (l_eqInt64SO _ _ _ _ _ _ _ _ _ (by omega) (by omega) how3 how6).mono ?_
  rintro e w7 ⟨rfl, hbw7⟩
  have hzw7 := hbw7.size
  replace hbw := bthen hbw hbw7
  replace how2 := how2.eqv (Eqv.of hbw7 (by omega))
  replace how3 := how3.eqv (Eqv.of hbw7 (by omega))
  replace how4 := how4.eqv (Eqv.of hbw7 (by omega))
  replace how6 := how6.eqv (Eqv.of hbw7 (by omega))
  clear how6
  go_wp2_with fail
  refine (l_markInt64SO _ _ _ _ _ _ (by omega) (by omega) how3).mono ?_
  rintro e w8 ⟨rfl, hmw8, hCw8⟩
  clear how3
  have hzw8 := hCw8.size
  replace hbw := hbw.trans (hCw8.below (by omega) (by omega))
  replace how2 := how2.eqv (hCw8.eqv (by omega) (by omega))
  replace how4 := how4.eqv (hCw8.eqv (by omega) (by omega))
  clear hmw8
  go_wp2_with fail
  refine (l_eqInt64SSO _ _ _ _ _ _ _ _ _ hres hres how4 how2).mono ?_
  rintro e w9 ⟨rfl, hbw9⟩
  have hzw9 := hbw9.size
  replace hbw := bthen hbw hbw9
  replace how2 := how2.eqv (Eqv.of hbw9 (by omega))
  replace how4 := how4.eqv (Eqv.of hbw9 (by omega))
  go_wp2_with fail
  refine (l_markInt64SSO _ _ _ _ _ _ (by omega) (by omega) how4).mono ?_
  rintro e w10 ⟨rfl, hmw10, hCw10⟩
  have hzw10 := hCw10.size
  replace hbw := hbw.trans (hCw10.below (by omega) (by omega))
  clear how4
  replace how2 := how2.eqv (hCw10.eqv (by omega) (by omega))
  go_wp2_with fail
  refine (l_heldInt64SSM _ _ _ _ _ (by omega) hmw10).mono ?_
  rintro e w11 ⟨rfl, hbw11⟩
  have hzw11 := hbw11.size
  replace hbw := bthen hbw hbw11
  replace how2 := how2.eqv (Eqv.of hbw11 (by omega))
  replace hmw10 := hmw10.eqv (Eqv.of hbw11 (by omega))
  go_wp2_with fail
  refine (l_toInt64SO w11 A0 c0 xs0 (by omega) (hR0.below hbw)).mono ?_
  rintro e w12 ⟨vw12, rfl, how12, hbw12⟩
  have hzw12 := hbw12.size
  replace hbw := bthen hbw hbw12
  replace how2 := how2.eqv (Eqv.of hbw12 (by omega))
  replace hmw10 := hmw10.eqv (Eqv.of hbw12 (by omega))
  obtain ⟨Aw12, cw12, rfl, _, _, _⟩ := how12.shp
  go_wp2_with fail
  refine (i_RouteNetwork _ _ _ _ (by omega) how12.rd).mono ?_
  rintro e w13 ⟨vw13, rfl, how13, hbw13⟩
  have hzw13 := hbw13.size
  replace hbw := bthen hbw hbw13
  replace how2 := how2.eqv (Eqv.of hbw13 (by omega))
  replace hmw10 := hmw10.eqv (Eqv.of hbw13 (by omega))
  replace how12 := how12.eqv (Eqv.of hbw13 (by omega))
  obtain ⟨Aw13, cw13, rfl, _, _, _⟩ := how13.shp
  clear how12
  go_wp2_with fail
  refine (l_eqInt64SSO _ _ _ _ _ _ _ _ _ hres hres how13 how2).mono ?_
  rintro e w14 ⟨rfl, hbw14⟩
  have hzw14 := hbw14.size
  replace hbw := bthen hbw hbw14
  replace how2 := how2.eqv (Eqv.of hbw14 (by omega))
  replace hmw10 := hmw10.eqv (Eqv.of hbw14 (by omega))
  replace how13 := how13.eqv (Eqv.of hbw14 (by omega))
  go_wp2_with fail
  refine (l_heldInt64SSM _ _ _ _ _ (by omega) hmw10).mono ?_
  rintro e w15 ⟨rfl, hbw15⟩
  have hzw15 := hbw15.size
  replace hbw := bthen hbw hbw15
  replace how2 := how2.eqv (Eqv.of hbw15 (by omega))
  replace hmw10 := hmw10.eqv (Eqv.of hbw15 (by omega))
  replace how13 := how13.eqv (Eqv.of hbw15 (by omega))
  go_wp2_with fail
  go_ret
  exact ⟨rfl, hbw⟩
end Go.Proofs.Ytolcmehndambmaa
