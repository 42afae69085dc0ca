import Derived.Test.YtmpdaafkphpnoaaDoorPkt2
import Derived.Deep.RegionHeld3
set_option linter.unusedVariables false
set_option linter.unusedSimpArgs false
namespace Go.Proofs.YtmpdaafkphpnoaaDoor
open Go.RowKit

set_option maxRecDepth 100000 in
theorem law_PackingText (w : World) (A : Option Addr) (c : Nat) (gs : List (List Int)) (hl : BigR gs) (hR : RdR w A gs) (hp : Pow w) :
    Calls Tryd.prog 3 #[.agg #[.slice A gs.length c]] w fun e w' => e = .returned (.bool true) ∧ Below w.heap.size w w' := by
  have hb0 := ballocw w (.cells #[.slice A gs.length c] 24)
  have kb0 : (w.alloc (.cells #[.slice A gs.length c] 24)).cell? ⟨w.heap.size, 0, none⟩ = some (.slice A gs.length c) := cell_of_row _ _ _ _ _ _ (heap_alloc_new w _)
  have HB0 := hid hb0
  have ssz := fun W (hW : Below w.heap.size w W) => l_szPacking W A c gs 1048576 hl (by omega) (by omega) (hR.below hW)
  by_cases big : (1048576 : Int) < (rsz gs : Nat)
  · simp only [szR, if_pos big] at ssz
    have C := hid ssz
    clear ssz big hR hl hp hb0
    go_enter Tryd.func3, Tryd.ntmps3
    go_wp2_with (go_at_call 6; go_loud (refine (C.out _ HB0.out).mono ?_; rintro e w1 ⟨rfl, hb1⟩))
    go_ret
    exact ⟨rfl, bthen HB0.out hb1⟩
  · have hs : rsz gs ≤ 1048576 := by omega
    simp only [szR, if_neg big] at ssz
    have hx : ¬ (1048576 : Int) - (rsz gs : Nat) < 0 := by omega
    have CZ := hid ssz
    have CT := hid (fun W (hW : Below w.heap.size w W) => l_toPackingO W A c gs hs (hR.below hW))
    have CS := hid (fun W A' c' (hW : RdR W A' gs) => s_PackingText W A' c' gs (big_of hs) hW)
    have CI := hid (fun W A' c' (hB : Below w.heap.size w W) (hW : RdR W A' gs) => i_PackingText W A' c' gs (big_of hs) (hp.below hB) hW)
    have CE := hid (fun W lo hi lo' hi' v v' (h1 : OR W lo hi v gs) (h2 : OR W lo' hi' v' gs) h3 h4 => l_eqPacking W lo hi lo' hi' v v' gs gs hs hs h1 h2 h3 h4)
    rw [decide_eq_true rfl] at CE
    unfold packR at CS CI
    clear ssz big hR hl hp hb0 hs
    generalize (1048576 : Int) - ((rsz gs : Nat) : Int) = x at *
    generalize bstr (if packB gs = true then packT gs else []) = T at *
    generalize packB gs = b at *
    go_enter Tryd.func3, Tryd.ntmps3
    go_wp2_with fail
    refine (CZ.out _ HB0.out).mono ?_
    rintro e w1 ⟨rfl, hb1⟩
    have k1 := bcell hb1 kb0
    have B1 := hid (bthen HB0.out hb1)
    clear hb1 kb0 CZ HB0
    go_wp2_with fail
    refine (CT.out _ B1.out).mono ?_
    rintro e w2 ⟨v2, rfl, o2, hb2⟩
    obtain ⟨A2, c2, rfl, _, _, r2⟩ := o2.shp
    have k2 := bcell hb2 k1
    have B2 := hid (bthen B1.out hb2)
    have R2 := hid r2
    clear hb2 k1 B1 o2 r2
    go_wp2_with fail
    refine (CS.out _ A2 c2 R2.out).mono ?_
    rintro e w3 ⟨rfl, hb3⟩
    have k3 := bcell hb3 k2
    have B3 := hid (bthen B2.out hb3)
    clear hb3 k2 B2 R2 CS
    go_wp2_with fail
    refine (CT.out _ B3.out).mono ?_
    rintro e w4 ⟨v4, rfl, o4, hb4⟩
    obtain ⟨A4, c4, rfl, _, _, _⟩ := o4.shp
    have k4 := bcell hb4 k3
    have B4 := hid (bthen B3.out hb4)
    have hb5 := ballocw w4 (.cells #[.slice A4 gs.length c4] 28)
    have k5 := bcell hb5 k4
    have j5 : (w4.alloc (.cells #[.slice A4 gs.length c4] 28)).cell? ⟨w4.heap.size, 0, none⟩ = some (.slice A4 gs.length c4) := cell_of_row _ _ _ _ _ _ (heap_alloc_new w4 _)
    have O5 := hid (o4.eqv (Eqv.of hb5 (Nat.le_refl _)))
    have B5 := hid (bthen B4.out hb5)
    have H5 := hid hb5.size
    clear hb4 k3 B3 o4 k4 hb5
    go_wp2_with fail
    refine (CI.out _ A4 c4 B5.out O5.out.rd).mono ?_
    rintro e w6 ⟨rfl, hb6⟩
    have k6 := bcell hb6 k5
    have j6 := bcell hb6 j5
    have B6 := hid (bthen B5.out hb6)
    have O6 := hid (O5.out.eqv (Eqv.of hb6 H5.out))
    have H6 := hid (Nat.le_trans H5.out hb6.size)
    clear hb6 k5 j5 O5 B5 H5 CI B4
    go_wp2_with fail
    have B6d := hid (bthen B6.out (bdrewP w6))
    go_region_held3 (fun W => W.cell? ⟨w.heap.size, 0, none⟩ = some (.slice A gs.length c) ∧ W.cell? ⟨w4.heap.size, 0, none⟩ = some (.slice A4 gs.length c4))
      (first | exact ⟨k6, j6⟩ | exact K7.out | exact K8.out)
      (first
        | (go_at_call 8; refine (CT.out _ B6d.out).mono ?_; rintro e w7 ⟨v7, rfl, o7, hb7⟩; have K7 := hid (⟨bcell hb7 k6, bcell hb7 j6⟩ : _ ∧ _); have B7 := hid (bthen B6d.out hb7); have O7 := hid o7; have O67 := hid (O6.out.eqv (Eqv.of (bthen (bdrewP w6) hb7) H6.out)); have H7 := hid (Nat.le_trans H6.out hb7.size); obtain ⟨A7, c7, rfl, _, _, _⟩ := o7.shp; clear o7)
        | (go_at_call 10; refine (CE.out _ _ _ _ _ _ _ O67.out O7.out H7.out (Nat.le_refl _)).mono ?_; rintro e w8 ⟨rfl, hb8⟩; have B8 := hid (bthen B7.out hb8); have K8 := hid (⟨bcell hb8 K7.out.1, bcell hb8 K7.out.2⟩ : _ ∧ _)))
    clear B6d K7 B7 O7 O67 H7 hb7 hb8
    go_wp2_with fail
    go_ret
    exact ⟨rfl, B8.out⟩
end Go.Proofs.YtmpdaafkphpnoaaDoor
