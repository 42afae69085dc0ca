import Derived.Test.YtmpdaafkphpnoaaDoorCod3
set_option linter.unusedVariables false
set_option linter.unusedSimpArgs false
namespace Go.Proofs.YtmpdaafkphpnoaaDoor
open Go.RowKit

def codeR (xs : List SmV) : Value := .tuple #[.string (bstr (if codeB xs then codeT xs else [])), .bool (codeB xs)]
theorem codeR_no {xs : List SmV} (h : codeB xs = false) : codeR xs = .tuple #[.string { data := #[] }, .bool false] := by unfold codeR; rw [h]; rfl
theorem codeR_yes {xs : List SmV} (h : codeB xs = true) : codeR xs = .tuple #[.string (bstr (codeT xs)), .bool true] := by unfold codeR; rw [h]; rfl
theorem i_CodeText (w : World) (A : Option Addr) (c : Nat) (xs : List SmV) (hl : xs.length ≤ 1048576) (hp : Pow w) (ha : Asc w) (hR : RdC w A xs) :
    Calls Tryd.prog 14 #[.slice A xs.length c] w fun e w' => e = .returned (codeR xs) ∧ Below w.heap.size w w' := by
  have h1 := i_ValidCode w A c xs hl hR
  cases hv : codeB xs with
  | false =>
    rw [hv] at h1
    have HM := hid (codeR_no hv)
    clear hv hR
    go_enter Tryd.func14, Tryd.ntmps14
    go_wp2_with (go_at_call 32; refine h1.mono ?_; rintro e w1 ⟨rfl, hb1⟩)
    go_ret2
    exact ⟨by rw [HM.out]; rfl, hb1⟩
  | true =>
    have h2 := fun W (hW : Below w.heap.size w W) => i_codeText W A c xs hv (hp.below hW) (ha.below hW) (hR.below hW)
    rw [hv] at h1
    have HM := hid (codeR_yes hv)
    clear hv hR hp ha
    go_enter Tryd.func14, Tryd.ntmps14
    go_wp2_with (first | (go_at_call 32; refine h1.mono ?_; rintro e w1 ⟨rfl, hb1⟩) | (go_at_call 33; refine (h2 _ hb1).mono ?_; rintro e w2 ⟨rfl, hb2⟩))
    go_ret2
    exact ⟨by rw [HM.out]; rfl, bthen hb1 hb2⟩
theorem s_CodeText (w : World) (A : Option Addr) (c : Nat) (xs : List SmV) (hl : xs.length ≤ 1048576) (hR : RdC w A xs) :
    Calls Tryd.prog 12 #[.slice A xs.length c] w fun e w' => e = .returned (codeR xs) ∧ Below w.heap.size w w' := by
  have h1 := s_l03Is w A c xs hl hR
  cases hv : codeB xs with
  | false =>
    rw [hv] at h1
    have HM := hid (codeR_no hv)
    clear hv hR
    go_enter Tryd.func12, Tryd.ntmps12
    go_wp2_with (go_at_call 29; refine h1.mono ?_; rintro e w1 ⟨rfl, rfl⟩)
    go_ret2
    exact ⟨by rw [HM.out]; rfl, Below.refl _ _⟩
  | true =>
    have h2 := s_l03Text w A c xs hv hR
    rw [hv] at h1
    have HM := hid (codeR_yes hv)
    clear hv hR
    go_enter Tryd.func12, Tryd.ntmps12
    go_wp2_with (first | (go_at_call 29; refine h1.mono ?_; rintro e w1 ⟨rfl, rfl⟩) | (go_at_call 30; refine h2.mono ?_; rintro e w2 ⟨rfl, hb2⟩))
    go_ret2
    exact ⟨by rw [HM.out]; rfl, hb2⟩
set_option maxRecDepth 100000 in
theorem law_CodeText (w : World) (A : Option Addr) (c : Nat) (xs : List SmV) (hl : xs.length ≤ 9223372036854775807) (hR : RdC w A xs) (hp : Pow w) (ha : Asc w) :
    Calls Tryd.prog 4 #[.slice A xs.length c] w fun e w' => e = .returned (.bool true) ∧ Below w.heap.size w w' := by
  have ssz := l_szStmtSO w A c xs 1048576 hl (by omega) (by omega) hR
  by_cases big : (1048576 : Int) < (xs.length : Nat)
  · simp only [szR, if_pos big] at ssz
    have C := hid ssz
    clear ssz big hR hl hp ha
    go_enter Tryd.func4, Tryd.ntmps4
    go_wp2_with (go_at_call 11; go_loud (refine C.out.mono ?_; rintro e w1 ⟨rfl, hb1⟩))
    go_ret
    exact ⟨rfl, hb1⟩
  · have hs : xs.length ≤ 1048576 := by omega
    simp only [szR, if_neg big] at ssz
    have hx : ¬ (1048576 : Int) - (xs.length : Nat) < 0 := by omega
    have CZ := hid ssz
    have CT := hid (fun W (hW : Below w.heap.size w W) => l_toStmtSO W A c xs hs (hR.below hW))
    have CS := hid (fun W A' c' (hW : RdC W A' xs) => s_CodeText W A' c' xs hs hW)
    have CI := hid (fun W A' c' (hB : Below w.heap.size w W) (hW : RdC W A' xs) => i_CodeText W A' c' xs hs (hp.below hB) (ha.below hB) hW)
    have CE := hid (fun W lo hi lo' hi' v v' (h1 : OC W lo hi v xs) (h2 : OC W lo' hi' v' xs) => l_eqStmtSO W lo hi lo' hi' v v' xs xs hs hs h1 h2)
    rw [decide_eq_true rfl] at CE
    unfold codeR at CS CI
    clear ssz big hR hl hp ha hs
    generalize bstr (if codeB xs = true then codeT xs else []) = T at *
    generalize codeB xs = b at *
    go_enter Tryd.func4, Tryd.ntmps4
    go_wp2_with fail
    refine CZ.out.mono ?_
    rintro e w1 ⟨rfl, hb1⟩
    have B1 := hid hb1
    clear hb1 CZ
    go_wp2_with fail
    refine (CT.out _ B1.out).mono ?_
    rintro e w2 ⟨v2, rfl, o2, hb2⟩
    obtain ⟨A2, c2, rfl, _, _, r2⟩ := o2.shp
    have B2 := hid (bthen B1.out hb2)
    have R2 := hid r2
    clear hb2 B1 o2 r2
    go_wp2_with fail
    refine (CS.out _ A2 c2 R2.out).mono ?_
    rintro e w3 ⟨rfl, hb3⟩
    have B3 := hid (bthen B2.out hb3)
    clear hb3 B2 R2 CS
    go_wp2_with fail
    refine (CT.out _ B3.out).mono ?_
    rintro e w4 ⟨v4, rfl, o4, hb4⟩
    obtain ⟨A4, c4, rfl, _, _, _⟩ := o4.shp
    have B4 := hid (bthen B3.out hb4)
    have O4 := hid o4
    clear hb4 B3 o4
    go_wp2_with fail
    refine (CI.out _ A4 c4 B4.out O4.out.rd).mono ?_
    rintro e w6 ⟨rfl, hb6⟩
    have B6 := hid (bthen B4.out hb6)
    have O6 := hid (O4.out.eqv (Eqv.of hb6 (Nat.le_refl _)))
    have H6 := hid hb6.size
    clear hb6 O4 CI B4
    go_wp2_with fail
    refine (CT.out _ B6.out).mono ?_
    rintro e w7 ⟨v7, rfl, o7, hb7⟩
    have B7 := hid (bthen B6.out hb7)
    have O67 := hid (O6.out.eqv (Eqv.of hb7 H6.out))
    have O7 := hid o7
    obtain ⟨A7, c7, rfl, _, _, _⟩ := o7.shp
    clear o7 hb7 O6 H6 B6
    go_wp2_with fail
    refine (CE.out _ _ _ _ _ _ _ O67.out O7.out).mono ?_
    rintro e w8 ⟨rfl, hb8⟩
    have B8 := hid (bthen B7.out hb8)
    clear O67 O7 hb8 B7
    go_wp2_with fail
    go_ret
    exact ⟨rfl, B8.out⟩
end Go.Proofs.YtmpdaafkphpnoaaDoor
