import Derived.Test.YtolcmehndambmaaAsd
import Derived.Test.YtolcmehndambmaaAsg5
import Derived.Test.YtolcmehndambmaaAsg6
import Derived.Test.YtolcmehndambmaaSpl5
import Derived.Test.YtolcmehndambmaaR8L
import Derived.Test.YtolcmehndambmaaWidth
set_option linter.unusedVariables false
set_option linter.unusedSimpArgs false
namespace Go.Proofs.Ytolcmehndambmaa
open Go.RowKit

set_option maxRecDepth 100000 in
set_option maxHeartbeats 4000000 in
theorem law_Assigned (w : World) (A0 : Option Addr) (c0 : Nat) (xs0 : List Int) (A1 : Option Addr) (c1 : Nat) (xs1 : List Int) (hl0 : xs0.length ≤ 9223372036854775807) (hR0 : RdU w A0 xs0) (hl1 : xs1.length ≤ 9223372036854775807) (hR1 : RdU w A1 xs1) :
    Calls Try.prog 3 #[.slice A0 xs0.length c0, .slice A1 xs1.length c1] w fun e w' => e = .returned (.bool true) ∧ Below w.heap.size w w' := by
  have CL := hid (l_r8Long w A0 A1 xs0.length c0 xs1.length c1 hl0 hl1)
  cases hlong : (decide (48 < xs0.length) || decide (48 < xs1.length)) with
  | true =>
    rw [hlong] at CL
    clear hlong hR0 hR1
    go_enter Try.func3, Try.ntmps3
    go_wp2_with fail
    refine CL.out.mono ?_
    rintro e w1 ⟨rfl, rfl⟩
    go_wp2_with fail
    go_ret
    exact ⟨rfl, Below.refl _ _⟩
  | false =>
    rw [hlong] at CL
    have hs0 : xs0.length ≤ 48 := by simp at hlong; omega
    have hs1 : xs1.length ≤ 48 := by simp at hlong; omega
    have HU0 := hid hR0
    have HU1 := hid hR1
    clear hlong hR0 hR1 hl0 hl1
    go_enter Try.func3, Try.ntmps3
    go_wp2_with fail
    refine CL.out.mono ?_
    rintro e w0 ⟨rfl, rfl⟩
    clear CL
    have CC := hid (s_R8Ranges w A0 c0 xs0 (by omega) HU0.out)
    go_wp2_with fail
    refine CC.out.mono ?_
    rintro e w1 ⟨v5, rs, rfl, ⟨hy8, hya⟩, ho5, hb1⟩
    obtain ⟨Ar, cr, rfl, _, _, hr5⟩ := OP.shp ho5
    have hrngs : rngsB rs = true := by unfold rngsB; rw [hya]; simp; omega
    have HR5 := hid hr5
    have HB1 := hid hb1
    have C2 : Hid (Calls Try.prog 13 #[.slice Ar rs.length cr] w1 (RetNB w1 (widN rs rs.length, true))) := hid (by
      have := i_WidthOf w1 Ar cr rs (by omega) hr5
      rwa [show m_WidthOf rs = (widN rs rs.length, true) by unfold m_WidthOf; rw [hrngs]; rfl] at this)
    have HRN := hid hrngs
    clear CC hya ho5 hr5 hb1 hrngs
    go_wp2_with fail
    refine C2.out.mono ?_
    rintro e w2 ⟨rfl, hb2⟩
    have HB2 := hid (bthen HB1.out hb2)
    have HR6 := hid (HR5.out.below hb2)
    have C3 := hid (l_r8At w2 A1 c1 xs1 0 6 (by omega) (by omega) (by omega) (by omega) (by omega) (HU1.out.below HB2.out))
    clear C2 hb2 HB1 HR5
    go_wp2_with fail
    refine C3.out.mono ?_
    rintro e w2' ⟨R, rfl, ⟨hR0, hR1⟩, rfl⟩
    have hR5 : R ≤ 5 := by have := hR1 (by omega); omega
    clear C3 hR1
    have c4 := i_AssignRegisters w2 Ar cr rs R (by omega) HR6.out
    have hma : m_AssignRegisters rs R = asgR (asgN rs R rs.length) := by unfold m_AssignRegisters; rw [HRN.out, inB_iff.2 ⟨hR0, by omega⟩]; rfl
    rw [hma] at c4
    clear hma
    cases hg : asgN rs R rs.length with
    | none =>
      rw [hg] at c4
      have hw := asd_none HRN.out hR0 hg
      have hw' : ¬ widN rs rs.length ≤ R := by omega
      have C4 : Hid (Calls Try.prog 15 #[.slice Ar rs.length cr, .int .i64 R] w2 (RetIB w2 ([], false))) := hid c4
      have CV := hid (fun W (hW : Below w2.heap.size w2 W) => i_ValidRanges W Ar cr rs (by omega) (HR6.out.below hW))
      rw [HRN.out] at CV
      clear c4 hg hw HRN
      generalize widN rs rs.length = wd at *
      go_wp2_with fail
      refine C4.out.mono ?_
      rintro e w3 ⟨v9, rfl, ho9, hb3⟩
      obtain ⟨A9, c9, rfl, _, _, _⟩ := OI.shp ho9
      have C5 := hid (CV.out w3 hb3)
      have HB3 := hid (bthen HB2.out hb3)
      clear C4 CV ho9 hb3
      go_wp2_with fail
      refine C5.out.mono ?_
      rintro e w4 ⟨rfl, hb4⟩
      have HB4 := hid (bthen HB3.out hb4)
      clear C5 hb4
      go_wp2_with fail
      go_ret
      exact ⟨rfl, HB4.out⟩
    | some out =>
      rw [hg] at c4
      obtain ⟨hw, hol, hpos⟩ := asd_wide hR0 hg
      have hap := (asd_inv (Nat.le_refl _) hg).apart
      have C4 : Hid (Calls Try.prog 15 #[.slice Ar rs.length cr, .int .i64 R] w2 (RetIB w2 (out, true))) := hid c4
      have HOL := hid hol
      have HPOS := hid hpos
      have HAPT : Hid (∀ k l, k < rs.length → l < rs.length → l < k → ¬ ((pel rs k).1 < (pel rs l).2 ∧ (pel rs l).1 < (pel rs k).2 ∧ el out k = el out l)) := hid fun k l hk hl hlk h => by
        have h1 := rng_at HRN.out hk
        have h2 := rng_at HRN.out hl
        exact hap k l hk hl (by omega) (hpos k hk).1 (by rw [meet_iff h1.2.1 h2.2.1, decide_eq_true h.1, decide_eq_true h.2.1]; rfl) h.2.2
      clear c4 hg HRN hol hpos hap
      generalize widN rs rs.length = wd at *
      go_wp2_with fail
      refine C4.out.mono ?_
      rintro e w3 ⟨v9, rfl, ho9, hb3⟩
      obtain ⟨A9, c9, rfl, _, _, hr9⟩ := OI.shp ho9
      have HB3 := hid (bthen HB2.out hb3)
      have HR9 := hid hr9
      have HR7 := hid (HR6.out.below hb3)
      rw [HOL.out]
      clear C4 ho9 hb3 hr9 HR6
      go_wp2_with fail
      go_loopg [11] rs.length (fun gg s wr => ∃ i : Nat, i ≤ rs.length ∧ rs.length - i ≤ gg ∧ s = .int .i64 i ∧ Aside (Below w3.heap.size w3 wr))
      case atStart => exact ⟨0, Nat.zero_le _, by omega, rfl, Below.refl _ _⟩
      case round =>
        obtain ⟨i, hi, hgi, rfl, BW⟩ := hrel
        by_cases hlti : i < rs.length
        · have hlti' : (i : Int) < (rs.length : Int) := by omega
          obtain ⟨b9, o9, rfl, q1⟩ := (HR9.out.below BW.out).get (k := i) (by rw [HOL.out]; exact hlti)
          have hpi := HPOS.out i hlti
          have HQI : Hid (∀ W, Below w3.heap.size w3 W → ∀ k, k < rs.length → W.cell? ⟨b9, o9 + k, none⟩ = some (.int .i64 (el out k))) := hid (fun W hW k hk => by
            obtain ⟨b', o', e', h⟩ := (HR9.out.below hW).get (k := k) (by rw [HOL.out]; exact hk)
            cases e'; exact h)
          have HAPI := hid (fun l hl hli => HAPT.out i l hlti hl hli)
          clear HPOS HAPT HR9 HU0 HU1
          generalize hei : el out i = oi at *
          have HEI := hid hei
          clear hei
          have hp0 : ¬ oi < 0 := by omega
          have hp1 : ¬ R ≤ oi := by omega
          go_wp2
          go_loopg [12] i (fun gg s wr => ∃ k : Nat, k ≤ i ∧ i - k ≤ gg ∧ s = .int .i64 k ∧ Aside (Below w3.heap.size w3 wr))
          case atStart => exact ⟨0, Nat.zero_le _, by omega, rfl, BW⟩
          case round =>
            obtain ⟨k, hk, hgk, rfl, BK⟩ := hrel
            clear q1
            by_cases hltk : k < i
            · have hltk' : (k : Int) < (i : Int) := by omega
              have hkn : (k : Int) < (rs.length : Int) := by omega
              have k5 := lcell (HQI.out wr BK.out i hlti)
              have k6 := lcell (HQI.out wr BK.out k (by omega))
              obtain ⟨b, off, rfl, c0, c1⟩ := (HR7.out.below BK.out).get hlti
              obtain ⟨b', off', e', d0, d1⟩ := (HR7.out.below BK.out).get (k := k) (by omega)
              cases e'
              have k1 := lcell c0
              have k2 := lcell c1
              have k3 := lcell d0
              have k4 := lcell d1
              have hap := HAPI.out k (by omega) hltk
              rw [HEI.out] at k5
              have HAP := hid hap
              clear c0 c1 d0 d1 hap HAPI HQI HR7
              generalize (pel rs i).1 = fi at *
              generalize (pel rs i).2 = ti at *
              generalize (pel rs k).1 = fk at *
              generalize (pel rs k).2 = tk at *
              generalize el out k = ok at *
              by_cases h1 : fi < tk
              · by_cases h2 : fk < ti
                · have h3 : (oi == ok) = false := by
                    have := HAP.out
                    simpa using fun e => this ⟨h1, h2, e⟩
                  go_wp2
                  refine wp_region_calm (by kernel_rfl) (by kernel_rfl) ?_
                  repeat (go_big_quiet_step (fail))
                  refine wpQuiet_nil ?_
                  intro _ hw'
                  obtain ⟨xq, hw''⟩ := hw'
                  subst hw''
                  have BX : Aside (Below w3.heap.size w3 xq.val) := bthen BK.out xq.below
                  clear BK k1 k2 k3 k4 k5 k6 HAP
                  go_wp2
                  go_roundg (i - (k + 1))
                  case measure => omega
                  case rel => exact ⟨k + 1, by omega, by omega, by go_num, BX⟩
                · have h2' : decide (fk < ti) = false := decide_eq_false h2
                  go_wp2
                  refine wp_region_calm (by kernel_rfl) (by kernel_rfl) ?_
                  repeat (go_big_quiet_step (fail))
                  refine wpQuiet_nil ?_
                  intro _ hw'
                  obtain ⟨xq, hw''⟩ := hw'
                  subst hw''
                  have BX : Aside (Below w3.heap.size w3 xq.val) := bthen BK.out xq.below
                  clear BK k1 k2 k3 k4 k5 k6 HAP
                  go_wp2
                  go_roundg (i - (k + 1))
                  case measure => omega
                  case rel => exact ⟨k + 1, by omega, by omega, by go_num, BX⟩
              · have h1' : decide (fi < tk) = false := decide_eq_false h1
                go_wp2
                refine wp_region_calm (by kernel_rfl) (by kernel_rfl) ?_
                repeat (go_big_quiet_step (fail))
                refine wpQuiet_nil ?_
                intro _ hw'
                obtain ⟨xq, hw''⟩ := hw'
                subst hw''
                have BX : Aside (Below w3.heap.size w3 xq.val) := bthen BK.out xq.below
                clear BK k1 k2 k3 k4 k5 k6 HAP
                go_wp2
                go_roundg (i - (k + 1))
                case measure => omega
                case rel => exact ⟨k + 1, by omega, by omega, by go_num, BX⟩
            · have hki : k = i := by omega
              subst hki
              have hltk' : ¬ (k : Int) < (k : Int) := by omega
              clear HAPI HQI
              go_wp2
              go_roundg (rs.length - (k + 1))
              case measure => omega
              case rel => exact ⟨k + 1, by omega, by omega, by go_num, BK⟩
        · have hin : i = rs.length := by omega
          subst hin
          have hlti' : ¬ ((rs.length : Nat) : Int) < ((rs.length : Nat) : Int) := by omega
          have HEND := hid (bthen HB3.out BW.out)
          clear HPOS HAPT HR9 HR7
          go_wp2
          go_ret
          exact ⟨rfl, HEND.out⟩
end Go.Proofs.Ytolcmehndambmaa
