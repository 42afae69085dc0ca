import Derived.Test.YtbijdbdgdolnpaaSpl2
set_option linter.unusedVariables false
set_option linter.unusedSimpArgs false
namespace Go.Proofs.Ytbijdbdgdolnpaa
open Go.RowKit

theorem i_isRegisters (w : World) (n : Int) : Calls Try.prog 73 #[.int .i64 n] w fun e w' => e = .returned (.bool (inB n 0 12)) ∧ w = w' := by
  have c := i_within n 0 12 w
  generalize inB n 0 12 = b at c ⊢
  go_enter Try.func73, Try.ntmps73
  go_wp2_with fail
  refine c.mono ?_
  rintro e w' ⟨rfl, rfl⟩
  go_wp2_with fail
  go_ret
  exact ⟨rfl, rfl⟩
theorem i_FS0 (w : World) (A : Option Addr) (n c : Nat) (r : Int) (hn : n ≤ 1048576) (C0 : Hid (Calls Try.prog 72 #[.slice A n c] w fun e w' => e = .returned (.bool false) ∧ Below w.heap.size w w')) :
    Calls Try.prog 23 #[.slice A n c, .int .i64 r] w (RetIB w ([], false)) := by
  go_enter Try.func23, Try.ntmps23
  go_wp2_with fail
  refine C0.out.mono ?_
  rintro e w1 ⟨rfl, hb1⟩
  go_wp2_with fail
  go_ret2
  exact ⟨_, rfl, Own.nil _ _ _ _ _, hb1⟩
theorem i_FS1 (w : World) (A : Option Addr) (n c : Nat) (r : Int) (hn : n ≤ 1048576) (hr : inB r 0 12 = false) (C0 : Hid (Calls Try.prog 72 #[.slice A n c] w fun e w' => e = .returned (.bool true) ∧ Below w.heap.size w w')) :
    Calls Try.prog 23 #[.slice A n c, .int .i64 r] w (RetIB w ([], false)) := by
  have c1 := fun W => i_isRegisters W r
  rw [hr] at c1
  have C1 := hid c1
  clear c1 hr
  go_enter Try.func23, Try.ntmps23
  go_wp2_with fail
  refine C0.out.mono ?_
  rintro e w1 ⟨rfl, hb1⟩
  go_wp2_with fail
  refine (C1.out _).mono ?_
  rintro e w2 ⟨rfl, rfl⟩
  go_wp2_with fail
  go_ret2
  exact ⟨_, rfl, Own.nil _ _ _ _ _, hb1⟩
set_option maxRecDepth 100000 in
set_option maxHeartbeats 1000000 in
theorem i_FSm (w : World) (A : Option Addr) (c : Nat) (xs : List PI) (r : Int) (N : Nat) (hl : xs.length ≤ 12) (hr : inB r 0 12 = true) (hN : N ≤ 4096) (hwr : IntKind.i64.wrap (2 ^ xs.length) = (N : Int)) (hR : RdP w A xs) (C0 : Hid (Calls Try.prog 72 #[.slice A xs.length c] w fun e w' => e = .returned (.bool true) ∧ Below w.heap.size w w')) :
    Calls Try.prog 23 #[.slice A xs.length c, .int .i64 r] w (RetIB w ((bsI xs r N).1, true)) := by
  have c1 := fun W => i_isRegisters W r
  rw [hr] at c1
  have C1 := hid c1
  have hr2 := inB_iff.1 hr
  obtain ⟨hr0, hr12⟩ := hr2
  have HM := hid (fun W g hg => i_members W g hg)
  have HWO : Hid (∀ W g, g < 4096 → Below w.heap.size w W → _) := hid (fun W g hg (hW : Below w.heap.size w W) => i_without W A c xs g hg hl (hR.below hW))
  have HWI := hid (fun W A' c' (ys : List PI) (hl : ys.length ≤ 1048576) (h : RdP W A' ys) => i_width W A' c' ys hl h)
  have HCP := hid (fun W A' B' c' d' (xs ys : List Int) h1 h2 h3 h4 => g_Compare W A' B' c' d' xs ys h1 h2 h3 h4)
  have HST : Hid (∀ g, bsI xs r (g + 1) = if (bsI xs r g).2 && !lessB (memN g 12) (bsI xs r g).1 then bsI xs r g else if widN (kepN xs g xs.length) (kepN xs g xs.length).length ≤ r then (memN g 12, true) else bsI xs r g) := hid fun _ => rfl
  have HBL := hid (bsI_length xs r)
  have HML := hid (fun g => memN_length g 12)
  have HKL := hid (fun g => kepN_length xs g xs.length)
  have HWR := hid (fun (ys : List PI) => widN_range ys ys.length)
  have HO := hid (Own.nil w w.heap.size w.heap.size 2 1)
  have HB0 : Hid (bsI xs r 0 = ([], false)) := hid rfl
  clear c1 hr hR
  go_enter Try.func23, Try.ntmps23
  go_wp2_with fail
  refine C0.out.mono ?_
  rintro e w1 ⟨rfl, hb1⟩
  have HB1 := hid hb1
  clear C0 hb1
  go_wp2_with fail
  refine (C1.out _).mono ?_
  rintro e w2 ⟨rfl, rfl⟩
  clear C1
  go_wp2_with fail
  clear hwr
  go_loopg [6, 7, 21] N (fun gg v f s wr => ∃ g : Nat, g ≤ N ∧ N - g ≤ gg ∧ s = .int .i64 g ∧ f = .bool (bsI xs r g).2 ∧ Aside (OI wr w.heap.size wr.heap.size v (bsI xs r g).1) ∧ Aside (Below w.heap.size w wr))
  case atStart => exact ⟨0, Nat.zero_le _, by omega, rfl, (by rw [HB0.out]), (by rw [HB0.out]; exact Own.nil _ _ _ _ _), HB1.out⟩
  case round =>
    obtain ⟨g, hg, hgg, rfl, rfl, OW, BW⟩ := hrel
    clear HO HB0 HB1
    by_cases hlt : g < N
    · have hst := HST.out g
      have hmem := HM.out wr g (by omega)
      have hbl := HBL.out g
      have hml := HML.out g
      have hkl := HKL.out g
      have hwi := fun W A' c' h => HWI.out W A' c' (kepN xs g xs.length) (by omega) h
      have hwr := HWR.out (kepN xs g xs.length)
      have hwo := fun W hW => HWO.out W g (by omega) hW
      obtain ⟨Ab, cb, rfl, hbc, hbc', hrb⟩ := OW.out.shp
      generalize hb : bsI xs r g = B at *
      obtain ⟨b, fl⟩ := B
      simp only at hst hbl OW hrb
      generalize memN g 12 = M at *
      generalize kepN xs g xs.length = K at *
      obtain ⟨hw0, hw1⟩ := hwr
      generalize widN K K.length = Wd at *
      have HMEM := hid hmem
      have HWOO := hid hwo
      have HWII := hid hwi
      have HSKIP : Hid (fl = true → lessB M b = false → bsI xs r (g + 1) = (b, fl)) := hid fun h1 h2 => by rw [hst, h1, h2]; rfl
      have HTAKE : Hid ((fl = true → lessB M b = true) → Wd ≤ r → bsI xs r (g + 1) = (M, true)) := hid fun h1 h2 => by
        rw [hst]; cases fl with
        | false => simp [h2]
        | true => simp [h1 rfl, h2]
      have HLEAVE : Hid ((fl = true → lessB M b = true) → ¬ Wd ≤ r → bsI xs r (g + 1) = (b, fl)) := hid fun h1 h2 => by
        rw [hst]; cases fl with
        | false => simp [h2]
        | true => simp [h1 rfl, h2]
      have HOW := hid OW.out
      have HBW := hid BW.out
      have hgn : (g : Int) < (N : Int) := by omega
      clear hst hmem hwo hwi hb HST HM HWO HWI HBL HML HKL HWR OW BW hrb
      cases fl with
      | false =>
        go_wp2_with fail
        refine HMEM.out.mono ?_
        rintro e w1 ⟨v9, rfl, ho9, hb9⟩
        obtain ⟨A9, c9, rfl, _, _, hr9⟩ := Own.int ho9
        have HO9 := hid ho9
        have HOB := hid (HOW.out.eqv (Eqv.of hb9 (Nat.le_refl _)))
        have HB9 := hid hb9
        have HBW9 := hid (bthen HBW.out hb9)
        have HLS : Hid (false = true → lessB M b = true) := hid (by intro h; cases h)
        clear HMEM ho9 hb9 hr9 HOW
        go_wp2_with fail
        refine (HWOO.out _ HBW9.out).mono ?_
        rintro e wk ⟨v2, rfl, ho2, hb2⟩
        obtain ⟨A2, c2, rfl, _, _, hr2⟩ := OP.shp ho2
        have HW2 := hid (HWII.out wk A2 c2 hr2)
        have HB2 := hid hb2
        clear HWOO HWII ho2 hb2 hr2
        go_wp2_with fail
        refine HW2.out.mono ?_
        rintro e w3 ⟨rfl, hb3⟩
        have hb93 := bthen HB2.out hb3
        have HB93 := hid hb93
        have HO93 := hid (HO9.out.eqv (Eqv.of hb93 (Nat.le_refl _)))
        have HOB3 := hid (HOB.out.eqv (Eqv.of hb93 HB9.out.size))
        have HBW3 := hid (bthen HBW9.out hb93)
        clear HW2 hb3 hb93
        by_cases hW : Wd ≤ r
        · have HS := hid (HTAKE.out HLS.out (by omega))
          go_wp2_with fail
          go_roundg (N - (g + 1))
          case measure => omega
          case rel => exact ⟨g + 1, by omega, by omega, by go_num, by rw [HS.out], (by rw [HS.out]; exact Own.wide HO93.out HBW.out.size HB93.out.size), HBW3.out⟩
        · have HS := hid (HLEAVE.out HLS.out (by omega))
          go_wp2_with fail
          go_roundg (N - (g + 1))
          case measure => omega
          case rel => exact ⟨g + 1, by omega, by omega, by go_num, by rw [HS.out], (by rw [HS.out]; exact Own.wide HOB3.out (Nat.le_refl _) (Nat.le_trans HB9.out.size HB93.out.size)), HBW3.out⟩
      | true =>
        rcases Nat.lt_trichotomy M.length b.length with hlen | hlen | hlen
        · have HLS : Hid (true = true → lessB M b = true) := hid (fun _ => by unfold lessB; rw [if_neg (by omega)]; simpa using hlen)
          have hgt : ¬ ((b.length : Int) < (M.length : Int)) := by omega
          have hne : ¬ ((M.length : Int) = (b.length : Int)) := by omega
          have hneb : ((M.length : Int) == (b.length : Int)) = false := by simpa using hne
          clear hlen hne
          go_wp2_with fail
          refine HMEM.out.mono ?_
          rintro e w1 ⟨v9, rfl, ho9, hb9⟩
          obtain ⟨A9, c9, rfl, _, _, hr9⟩ := Own.int ho9
          have HO9 := hid ho9
          have HOB := hid (HOW.out.eqv (Eqv.of hb9 (Nat.le_refl _)))
          have HB9 := hid hb9
          have HBW9 := hid (bthen HBW.out hb9)
          clear HMEM ho9 hb9 hr9 HOW
          go_wp2_with fail
          refine (HWOO.out _ HBW9.out).mono ?_
          rintro e wk ⟨v2, rfl, ho2, hb2⟩
          obtain ⟨A2, c2, rfl, _, _, hr2⟩ := OP.shp ho2
          have HW2 := hid (HWII.out wk A2 c2 hr2)
          have HB2 := hid hb2
          clear HWOO HWII ho2 hb2 hr2
          go_wp2_with fail
          refine HW2.out.mono ?_
          rintro e w3 ⟨rfl, hb3⟩
          have hb93 := bthen HB2.out hb3
          have HB93 := hid hb93
          have HO93 := hid (HO9.out.eqv (Eqv.of hb93 (Nat.le_refl _)))
          have HOB3 := hid (HOB.out.eqv (Eqv.of hb93 HB9.out.size))
          have HBW3 := hid (bthen HBW9.out hb93)
          clear HW2 hb3 hb93
          by_cases hW : Wd ≤ r
          · have HS := hid (HTAKE.out HLS.out (by omega))
            go_wp2_with fail
            go_roundg (N - (g + 1))
            case measure => omega
            case rel => exact ⟨g + 1, by omega, by omega, by go_num, by rw [HS.out], (by rw [HS.out]; exact Own.wide HO93.out HBW.out.size HB93.out.size), HBW3.out⟩
          · have HS := hid (HLEAVE.out HLS.out (by omega))
            go_wp2_with fail
            go_roundg (N - (g + 1))
            case measure => omega
            case rel => exact ⟨g + 1, by omega, by omega, by go_num, by rw [HS.out], (by rw [HS.out]; exact Own.wide HOB3.out (Nat.le_refl _) (Nat.le_trans HB9.out.size HB93.out.size)), HBW3.out⟩
        · have HLL := hid hlen
          have HLX : Hid (lessB M b = lexB M b) := hid (by unfold lessB; rw [if_pos hlen])
          have HCL := hid (cmp_lex M b)
          have hcr := cmpL_range M b
          obtain ⟨hcr0, hcr1⟩ := hcr
          have hgt : ¬ ((b.length : Int) < (M.length : Int)) := by omega
          have heb : ((M.length : Int) == (b.length : Int)) = true := by simp; omega
          clear hlen
          go_wp2_with fail
          refine HMEM.out.mono ?_
          rintro e w1 ⟨v9, rfl, ho9, hb9⟩
          obtain ⟨A9, c9, rfl, _, _, hr9⟩ := Own.int ho9
          have HO9 := hid ho9
          have hob := HOW.out.eqv (Eqv.of hb9 (Nat.le_refl _))
          have HOB := hid hob
          have HB9 := hid hb9
          have HBW9 := hid (bthen HBW.out hb9)
          have hcp := HCP.out w1 A9 Ab c9 cb M b HLL.out (by omega) hr9 hob.rd
          generalize cmpL M b = z at *
          have HCPP := hid hcp
          clear HMEM ho9 hb9 hr9 HOW hob hcp
          by_cases hz : 0 ≤ z
          · have HS : Hid (bsI xs r (g + 1) = (b, true)) := hid (HSKIP.out (by simp) (by rw [HLX.out]; exact HCL.out.1 hz))
            go_wp2_with fail
            refine HCPP.out.mono ?_
            rintro e w2 ⟨rfl, rfl⟩
            go_wp2_with fail
            go_roundg (N - (g + 1))
            case measure => omega
            case rel => exact ⟨g + 1, by omega, by omega, by go_num, by rw [HS.out], (by rw [HS.out]; exact Own.wide HOB.out (Nat.le_refl _) HB9.out.size), HBW9.out⟩
          · have HLS : Hid (true = true → lessB M b = true) := hid (fun _ => by
              rw [HLX.out]
              cases hq : lexB M b with
              | true => rfl
              | false => exact absurd (HCL.out.2 hq) hz)
            clear HLX HCL HLL
            go_wp2_with fail
            refine HCPP.out.mono ?_
            rintro e w2 ⟨rfl, rfl⟩
            clear HCPP
            go_wp2_with fail
            refine (HWOO.out _ HBW9.out).mono ?_
            rintro e wk ⟨v2, rfl, ho2, hb2⟩
            obtain ⟨A2, c2, rfl, _, _, hr2⟩ := OP.shp ho2
            have HW2 := hid (HWII.out wk A2 c2 hr2)
            have HB2 := hid hb2
            clear HWOO HWII ho2 hb2 hr2
            go_wp2_with fail
            refine HW2.out.mono ?_
            rintro e w3 ⟨rfl, hb3⟩
            have hb93 := bthen HB2.out hb3
            have HB93 := hid hb93
            have HO93 := hid (HO9.out.eqv (Eqv.of hb93 (Nat.le_refl _)))
            have HOB3 := hid (HOB.out.eqv (Eqv.of hb93 HB9.out.size))
            have HBW3 := hid (bthen HBW9.out hb93)
            clear HW2 hb3 hb93
            by_cases hW : Wd ≤ r
            · have HS := hid (HTAKE.out HLS.out (by omega))
              go_wp2_with fail
              go_roundg (N - (g + 1))
              case measure => omega
              case rel => exact ⟨g + 1, by omega, by omega, by go_num, by rw [HS.out], (by rw [HS.out]; exact Own.wide HO93.out HBW.out.size HB93.out.size), HBW3.out⟩
            · have HS := hid (HLEAVE.out HLS.out (by omega))
              go_wp2_with fail
              go_roundg (N - (g + 1))
              case measure => omega
              case rel => exact ⟨g + 1, by omega, by omega, by go_num, by rw [HS.out], (by rw [HS.out]; exact Own.wide HOB3.out (Nat.le_refl _) (Nat.le_trans HB9.out.size HB93.out.size)), HBW3.out⟩
        · have HS : Hid (bsI xs r (g + 1) = (b, true)) := hid (HSKIP.out (by simp) (by unfold lessB; rw [if_neg (by omega)]; simp; omega))
          have hgt : (b.length : Int) < (M.length : Int) := by omega
          clear hlen
          go_wp2_with fail
          refine HMEM.out.mono ?_
          rintro e w1 ⟨v9, rfl, ho9, hb9⟩
          obtain ⟨A9, c9, rfl, _, _, hr9⟩ := Own.int ho9
          have HOB := hid (HOW.out.eqv (Eqv.of hb9 (Nat.le_refl _)))
          have HB9 := hid hb9
          have HBW9 := hid (bthen HBW.out hb9)
          clear HMEM ho9 hb9 hr9 HOW
          go_wp2_with fail
          go_roundg (N - (g + 1))
          case measure => omega
          case rel => exact ⟨g + 1, by omega, by omega, by go_num, by rw [HS.out], (by rw [HS.out]; exact Own.wide HOB.out (Nat.le_refl _) HB9.out.size), HBW9.out⟩
    · have : g = N := by omega
      subst this
      clear HST HM HWO HWI HBL HML HKL HWR
      go_wp2_with fail
      go_ret2
      exact ⟨_, rfl, OW.out, BW.out⟩
theorem pow_wrap (n : Nat) (h : 2 ^ n ≤ 4096) : IntKind.i64.wrap (2 ^ n) = ((2 ^ n : Nat) : Int) := by
  have e : ((2 : Int) ^ n) = ((2 ^ n : Nat) : Int) := by push_cast; rfl
  rw [IntKind.wrap_i64, e]
  generalize 2 ^ n = q at *
  omega
theorem i_FewestSpills (w : World) (A : Option Addr) (c : Nat) (xs : List PI) (r : Int) (hl : xs.length ≤ 1048576) (hR : RdP w A xs) :
    Calls Try.prog 23 #[.slice A xs.length c, .int .i64 r] w (RetIB w (m_FewestSpills xs r)) := by
  have c0 := i_ValidRanges w A c xs hl hR
  unfold m_FewestSpills
  cases h0 : rngsB xs with
  | false => rw [h0] at c0; exact i_FS0 w A xs.length c r hl (hid c0)
  | true =>
    rw [h0] at c0
    have hl12 : xs.length ≤ 12 := by simp only [rngsB, Bool.and_eq_true, decide_eq_true_eq] at h0; exact h0.1
    cases h1 : inB r 0 12 with
    | false => exact i_FS1 w A xs.length c r hl h1 (hid c0)
    | true =>
      have hp : 2 ^ xs.length ≤ 4096 := Nat.pow_le_pow_right (n := 2) (by omega) hl12
      exact i_FSm w A c xs r (2 ^ xs.length) hl12 h1 hp (pow_wrap xs.length hp) hR (hid c0)
end Go.Proofs.Ytbijdbdgdolnpaa
