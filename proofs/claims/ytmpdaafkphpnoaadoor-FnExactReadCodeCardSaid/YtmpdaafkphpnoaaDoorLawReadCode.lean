import Derived.Test.YtmpdaafkphpnoaaDoorBase
import Derived.Test.YtmpdaafkphpnoaaDoorRdc4
import Derived.Test.YtmpdaafkphpnoaaDoorLawO
set_option linter.unusedVariables false
set_option linter.unusedSimpArgs false
namespace Go.Proofs.YtmpdaafkphpnoaaDoor
open Go.RowKit

set_option maxRecDepth 100000 in
theorem law_ReadCode (w : World) (s0 : ByteArray) (hs00 : s0.size ≤ maxLen) (hf : Fit3 w) :
    Calls Tryd.prog 5 #[.string s0] w fun e w' => e = .returned (.bool true) ∧ Below w.heap.size w w' := by
  by_cases big0 : 1048576 < s0.size
  · go_enter Tryd.func5, Tryd.ntmps5
    go_wp2
    go_ret
    exact ⟨rfl, Below.refl _ _⟩
  have hs0 : s0.size ≤ 1048576 := by omega
  clear big0
  have hbw := Below.refl w.heap.size w
  have hres := rdC_len s0.data.toList
  have CS := hid (fun W => s_ReadCode W s0 hs0)
  have CI := hid (fun W (hW : Below w.heap.size w W) => i_ReadCode W s0 hs0 (hf.below hW))
  generalize rdC s0.data.toList = xs at *
  generalize rdB s0.data.toList = b at *
  clear hf
  go_enter Tryd.func5, Tryd.ntmps5
  go_wp2_with fail
  refine (CS.out _).mono ?_
  rintro e w1 ⟨vw1, rfl, how1, hbw1⟩
  have hzw1 := hbw1.size
  replace hbw := bthen hbw hbw1
  obtain ⟨Aw1, cw1, rfl, _, _, _⟩ := how1.shp
  go_wp2_with fail
  refine (CI.out _ hbw).mono ?_
  rintro e w2 ⟨vw2, rfl, how2, hbw2⟩
  have hzw2 := hbw2.size
  replace hbw := bthen hbw hbw2
  replace how1 := how1.eqv (Eqv.of hbw2 (by omega))
  obtain ⟨Aw2, cw2, rfl, _, _, _⟩ := how2.shp
  go_wp2_with fail
  refine (l_eqStmtSO _ _ _ _ _ _ _ _ _ hres hres how2 how1).mono ?_
  rintro e w3 ⟨rfl, hbw3⟩
  have hzw3 := hbw3.size
  replace hbw := bthen hbw hbw3
  replace how1 := how1.eqv (Eqv.of hbw3 (by omega))
  replace how2 := how2.eqv (Eqv.of hbw3 (by omega))
  go_wp2_with fail
  refine (l_markStmtSO _ _ _ _ _ _ (by omega) (by omega) how2).mono ?_
  rintro e w4 ⟨rfl, hmw4, hCw4⟩
  have hzw4 := hCw4.size
  replace hbw := hbw.trans (hCw4.below (by omega) (by omega))
  clear how2
  replace how1 := how1.eqv (hCw4.eqv (by omega) (by omega))
  go_wp2_with fail
  refine (l_heldStmtSM _ _ _ _ _ (by omega) hmw4).mono ?_
  rintro e w5 ⟨rfl, hbw5⟩
  have hzw5 := hbw5.size
  replace hbw := bthen hbw hbw5
  replace how1 := how1.eqv (Eqv.of hbw5 (by omega))
  replace hmw4 := hmw4.eqv (Eqv.of hbw5 (by omega))
  go_wp2_with fail
  refine (CI.out _ hbw).mono ?_
  rintro e w6 ⟨vw6, rfl, how6, hbw6⟩
  have hzw6 := hbw6.size
  replace hbw := bthen hbw hbw6
  replace how1 := how1.eqv (Eqv.of hbw6 (by omega))
  replace hmw4 := hmw4.eqv (Eqv.of hbw6 (by omega))
  obtain ⟨Aw6, cw6, rfl, _, _, _⟩ := how6.shp
  go_wp2_with fail
  refine (l_eqStmtSO _ _ _ _ _ _ _ _ _ hres hres how6 how1).mono ?_
  rintro e w7 ⟨rfl, hbw7⟩
  have hzw7 := hbw7.size
  replace hbw := bthen hbw hbw7
  replace how1 := how1.eqv (Eqv.of hbw7 (by omega))
  replace hmw4 := hmw4.eqv (Eqv.of hbw7 (by omega))
  replace how6 := how6.eqv (Eqv.of hbw7 (by omega))
  go_wp2_with fail
  refine (l_heldStmtSM _ _ _ _ _ (by omega) hmw4).mono ?_
  rintro e w8 ⟨rfl, hbw8⟩
  have hzw8 := hbw8.size
  replace hbw := bthen hbw hbw8
  replace how1 := how1.eqv (Eqv.of hbw8 (by omega))
  replace hmw4 := hmw4.eqv (Eqv.of hbw8 (by omega))
  replace how6 := how6.eqv (Eqv.of hbw8 (by omega))
  go_wp2_with fail
  go_ret
  exact ⟨rfl, hbw⟩
end Go.Proofs.YtmpdaafkphpnoaaDoor
