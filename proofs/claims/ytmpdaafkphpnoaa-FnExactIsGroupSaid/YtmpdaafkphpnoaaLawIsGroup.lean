import Derived.Test.YtmpdaafkphpnoaaBase
import Derived.Test.YtmpdaafkphpnoaaGrp6
import Derived.Test.YtmpdaafkphpnoaaLawO
set_option linter.unusedVariables false
set_option linter.unusedSimpArgs false
namespace Go.Proofs.Ytmpdaafkphpnoaa
open Go.RowKit

theorem law_IsGroup (w : World) (la0 bi0 : Int) (A1 : Option Addr) (c1 : Nat) (xs1 : List SmV) (A2 : Option Addr) (c2 : Nat) (xs2 : List Int) (hl1 : xs1.length ≤ 9223372036854775807) (hR1 : RdC w A1 xs1) (hl2 : xs2.length ≤ 9223372036854775807) (hR2 : RdI w A2 xs2) :
    Calls Try.prog 4 #[.agg #[.int .i64 la0, .int .i64 bi0], .slice A1 xs1.length c1, .slice A2 xs2.length c2] w fun e w' => e = .returned (.bool true) ∧ Below w.heap.size w w' := by
  have hbw := ballocw w (.cells #[.int .i64 la0, .int .i64 bi0] 35)
  have km0 : (w.alloc (.cells #[.int .i64 la0, .int .i64 bi0] 35)).cell? ⟨w.heap.size, 0, none⟩ = some (.int .i64 la0) := cell_of_row _ _ _ _ _ _ (heap_alloc_new w _)
  have km1 : (w.alloc (.cells #[.int .i64 la0, .int .i64 bi0] 35)).cell? ⟨w.heap.size, 1, none⟩ = some (.int .i64 bi0) := cell_of_row _ _ _ _ _ _ (heap_alloc_new w _)
  have hzm : (w.alloc (.cells #[.int .i64 la0, .int .i64 bi0] 35)).heap.size = w.heap.size + 1 := by simp
  by_cases big2 : 1048576 < xs2.length
  · go_enter Try.func4, Try.ntmps4
    go_wp2
    go_ret
    exact ⟨rfl, hbw⟩
  have hs2 : xs2.length ≤ 1048576 := by omega
  clear big2
  have ssz1 := fun W (hW : Below w.heap.size w W) => l_szStmtSO W A1 c1 xs1 (1048576 : Int) hl1 (by omega) (by omega) (hR1.below hW)
  by_cases big1 : (1048576 : Int) < (xs1.length : Nat)
  · simp only [szR, if_pos big1] at ssz1
    go_enter Try.func4, Try.ntmps4
    go_wp2_with fail
    refine (ssz1 _ hbw).mono ?_
    rintro e z1 ⟨rfl, hbz1⟩
    have hcz1 := bthen hbw hbz1
    go_wp2_with fail
    go_ret
    exact ⟨rfl, hcz1⟩
  · simp only [szR, if_neg big1] at ssz1
    have hs1 : xs1.length ≤ 1048576 := by omega
    go_enter Try.func4, Try.ntmps4
    go_wp2_with fail
    refine (ssz1 _ hbw).mono ?_
    rintro e w1 ⟨rfl, hbw1⟩
    have hzw1 := hbw1.size
    replace hbw := bthen hbw hbw1
    clear ssz1 big1
    replace km0 := bcell hbw1 km0
    replace km1 := bcell hbw1 km1
    go_wp2_with fail
    refine (l_toMachine _ la0 bi0).mono ?_
    rintro e w2 ⟨rfl, hbw2⟩
    have hzw2 := hbw2.size
    replace hbw := bthen hbw hbw2
    replace km0 := bcell hbw2 km0
    replace km1 := bcell hbw2 km1
    go_wp2_with fail
    refine (l_toStmtSO w2 A1 c1 xs1 hs1 (hR1.below hbw)).mono ?_
    rintro e w3 ⟨vw3, rfl, how3, hbw3⟩
    have hzw3 := hbw3.size
    replace hbw := bthen hbw hbw3
    replace km0 := bcell hbw3 km0
    replace km1 := bcell hbw3 km1
    obtain ⟨Aw3, cw3, rfl, _, _, _⟩ := how3.shp
    go_wp2_with fail
    refine (l_toInt64SO w3 A2 c2 xs2 (by omega) (hR2.below hbw)).mono ?_
    rintro e w4 ⟨vw4, rfl, how4, hbw4⟩
    have hzw4 := hbw4.size
    replace hbw := bthen hbw hbw4
    replace km0 := bcell hbw4 km0
    replace km1 := bcell hbw4 km1
    replace how3 := how3.eqv (Eqv.of hbw4 (by omega))
    obtain ⟨Aw4, cw4, rfl, _, _, _⟩ := how4.shp
    go_wp2_with fail
    refine (sL_IsGroup _ la0 bi0 _ _ _ _ _ _ hs1 how3.rd (by omega) (by omega) how4.rd).mono ?_
    rintro e w5 ⟨rfl, hbw5⟩
    have hzw5 := hbw5.size
    replace hbw := bthen hbw hbw5
    replace km0 := bcell hbw5 km0
    replace km1 := bcell hbw5 km1
    replace how3 := how3.eqv (Eqv.of hbw5 (by omega))
    replace how4 := how4.eqv (Eqv.of hbw5 (by omega))
    clear how3
    clear how4
    go_wp2_with fail
    refine (l_toStmtSO w5 A1 c1 xs1 hs1 (hR1.below hbw)).mono ?_
    rintro e w6 ⟨vw6, rfl, how6, hbw6⟩
    have hzw6 := hbw6.size
    replace hbw := bthen hbw hbw6
    replace km0 := bcell hbw6 km0
    replace km1 := bcell hbw6 km1
    obtain ⟨Aw6, cw6, rfl, _, _, _⟩ := how6.shp
    go_wp2_with fail
    refine (l_toInt64SO w6 A2 c2 xs2 (by omega) (hR2.below hbw)).mono ?_
    rintro e w7 ⟨vw7, rfl, how7, hbw7⟩
    have hzw7 := hbw7.size
    replace hbw := bthen hbw hbw7
    replace km0 := bcell hbw7 km0
    replace km1 := bcell hbw7 km1
    replace how6 := how6.eqv (Eqv.of hbw7 (by omega))
    obtain ⟨Aw7, cw7, rfl, _, _, _⟩ := how7.shp
    go_wp2_with fail
    refine (l_toMachine _ la0 bi0).mono ?_
    rintro e w8 ⟨rfl, hbw8⟩
    have hzw8 := hbw8.size
    replace hbw := bthen hbw hbw8
    replace km0 := bcell hbw8 km0
    replace km1 := bcell hbw8 km1
    replace how6 := how6.eqv (Eqv.of hbw8 (by omega))
    replace how7 := how7.eqv (Eqv.of hbw8 (by omega))
    go_wp2_with fail
    refine (iL_IsGroup _ la0 bi0 _ _ _ _ _ _ hs1 how6.rd (by omega) (by omega) how7.rd).mono ?_
    rintro e w9 ⟨rfl, hbw9⟩
    have hzw9 := hbw9.size
    replace hbw := bthen hbw hbw9
    replace km0 := bcell hbw9 km0
    replace km1 := bcell hbw9 km1
    replace how6 := how6.eqv (Eqv.of hbw9 (by omega))
    replace how7 := how7.eqv (Eqv.of hbw9 (by omega))
    go_wp2_with fail
    refine (l_toStmtSO w9 A1 c1 xs1 hs1 (hR1.below hbw)).mono ?_
    rintro e w10 ⟨vw10, rfl, how10, hbw10⟩
    have hzw10 := hbw10.size
    replace hbw := bthen hbw hbw10
    replace km0 := bcell hbw10 km0
    replace km1 := bcell hbw10 km1
    replace how6 := how6.eqv (Eqv.of hbw10 (by omega))
    replace how7 := how7.eqv (Eqv.of hbw10 (by omega))
    obtain ⟨Aw10, cw10, rfl, _, _, _⟩ := how10.shp
    go_wp2_with fail
    refine (l_eqStmtSO _ _ _ _ _ _ _ _ _ hs1 hs1 how6 how10).mono ?_
    rintro e w11 ⟨rfl, hbw11⟩
    have hzw11 := hbw11.size
    replace hbw := bthen hbw hbw11
    replace km0 := bcell hbw11 km0
    replace km1 := bcell hbw11 km1
    replace how6 := how6.eqv (Eqv.of hbw11 (by omega))
    replace how7 := how7.eqv (Eqv.of hbw11 (by omega))
    replace how10 := how10.eqv (Eqv.of hbw11 (by omega))
    clear how10
    go_wp2_with fail
    refine (l_toInt64SO w11 A2 c2 xs2 (by omega) (hR2.below hbw)).mono ?_
    rintro e w12 ⟨vw12, rfl, how12, hbw12⟩
    have hzw12 := hbw12.size
    replace hbw := bthen hbw hbw12
    replace km0 := bcell hbw12 km0
    replace km1 := bcell hbw12 km1
    replace how6 := how6.eqv (Eqv.of hbw12 (by omega))
    replace how7 := how7.eqv (Eqv.of hbw12 (by omega))
    obtain ⟨Aw12, cw12, rfl, _, _, _⟩ := how12.shp
    go_wp2_with fail
    refine (l_eqInt64SO _ _ _ _ _ _ _ _ _ (by omega) (by omega) how7 how12).mono ?_
    rintro e w13 ⟨rfl, hbw13⟩
    have hzw13 := hbw13.size
    replace hbw := bthen hbw hbw13
    replace km0 := bcell hbw13 km0
    replace km1 := bcell hbw13 km1
    replace how6 := how6.eqv (Eqv.of hbw13 (by omega))
    replace how7 := how7.eqv (Eqv.of hbw13 (by omega))
    replace how12 := how12.eqv (Eqv.of hbw13 (by omega))
    clear how12
    go_wp2_with fail
    go_ret
    exact ⟨rfl, hbw⟩
end Go.Proofs.Ytmpdaafkphpnoaa
