import Derived.Test.YthgfcoafngddgaaSpl3
set_option linter.unusedVariables false
set_option linter.unusedSimpArgs false
namespace Go.Proofs.Ythgfcoafngddgaa
open Go.RowKit

set_option maxRecDepth 100000 in
theorem s_l06Set (w : World) (g : Nat) (hg : g < 4096) :
    Calls Try.prog 129 #[.int .i64 (g : Nat)] w (RetI w 2 (memN g 12)) := by
  have HQ : Hid (∀ i, g / 2 ^ i < 4096) := hid fun i => Nat.lt_of_le_of_lt (Nat.div_le_self _ _) hg
  have HML := hid (memN_length g)
  have hown := Own.of (World.ownsRow_lit (base := w.heap.size) (e := 2) (size := 1) w #[] 0 (Nat.le_refl _) (by simp [maxLen]) rfl)
  have HO := hid hown
  clear hown
  go_enter Try.func129, Try.ntmps129
  go_wp2
  go_loopg [3, 4] 12 (fun gg v s wr => ∃ i : Nat, i ≤ 12 ∧ 12 - i ≤ gg ∧ s = .int .i64 i ∧ Aside (OwnI wr w.heap.size wr.heap.size 2 v (memN g i)) ∧ Aside (Below w.heap.size w wr))
  case atStart => exact ⟨0, Nat.zero_le _, by omega, rfl, HO.out, ballocw w _⟩
  case round =>
    obtain ⟨i, hi, hgi, rfl, OW, BW⟩ := hrel
    clear HO
    by_cases hlt : i < 12
    · have hsh := shr_nat g i
      have hq := HQ.out i
      have HB : Hid (memN g (i + 1) = memN g i ++ (if bitN g i then [(i : Int)] else [])) := hid rfl
      have HBI : Hid (bitN g i = (g / 2 ^ i % 2 == 1)) := hid rfl
      have hml := HML.out i
      clear HQ HML
      generalize g / 2 ^ i = q at *
      have hand := bits_one q (by omega)
      rcases Nat.mod_two_eq_zero_or_one q with h0 | h0
      · rw [h0] at hand
        have HE : Hid (memN g (i + 1) = memN g i) := hid (by rw [HB.out, HBI.out, h0]; simp)
        clear HB HBI h0
        go_wp2
        go_roundg (12 - (i + 1))
        case measure => omega
        case rel => exact ⟨i + 1, by omega, by omega, by go_num, by rw [HE.out]; exact OW, BW⟩
      · rw [h0] at hand
        have HE : Hid (memN g (i + 1) = memN g i ++ [(i : Int)]) := hid (by rw [HB.out, HBI.out, h0]; simp)
        clear HB HBI h0
        have HOW := hid OW.out
        have HSZ := hid BW.out.size
        clear OW
        go_wp2_with (at_builtin; refine wp_append1 w.heap.size rfl _ _ 24 2 (.int .i64 0) 8 rfl Try.underlying24 infoInt rfl u3 (memN g i).length _ (.int .i64 (i : Nat)) rfl rfl rfl HOW.out HSZ.out (by omega) (by omega) ?_; intro v1 w1 hown1 hbel1)
        go_roundg (12 - (i + 1))
        case measure => omega
        case rel =>
          refine ⟨i + 1, by omega, by omega, by go_num, ?_, ?_⟩
          · show OwnI _ _ _ _ _ _
            rw [HE.out]
            unfold OwnI
            rw [ints_append, List.length_append]
            exact hown1
          · show Below _ _ _
            exact BW.out.trans hbel1
    · have : i = 12 := by omega
      subst this
      clear HQ HML
      go_wp2
      go_ret
      exact ⟨_, rfl, OW.out, BW.out⟩
set_option maxRecDepth 100000 in
theorem s_l06Less (w : World) (A B : Option Addr) (c d : Nat) (xs ys : List Int) (hl : xs.length ≤ 1048576) (hl2 : ys.length ≤ 1048576) (hA : RdI w A xs) (hB : RdI w B ys) :
    Calls Try.prog 130 #[.slice A xs.length c, .slice B ys.length d] w fun e w' => e = .returned (.bool (lessB xs ys)) ∧ Below w.heap.size w w' := by
  by_cases hxy : xs.length = ys.length
  · have HA := hid hA
    have HB := hid hB
    have HXY := hid hxy
    have HS : Hid (∀ k, k < xs.length → lexB (xs.drop k) (ys.drop k) = if el xs k = el ys k then lexB (xs.drop (k + 1)) (ys.drop (k + 1)) else decide (el xs k < el ys k)) := hid fun k hk => by
      rw [el_drop hk, el_drop (xs := ys) (by omega)]; rfl
    have HE : Hid (lexB (xs.drop xs.length) (ys.drop xs.length) = false) := hid (by rw [List.drop_length]; rfl)
    have hne : ((xs.length : Int) != (ys.length : Int)) = false := by simp; omega
    have hr : lessB xs ys = lexB xs ys := by unfold lessB; rw [if_pos hxy]
    rw [hr]
    clear hA hB hxy hr
    obtain ⟨r, hr⟩ : ∃ r, r = lexB xs ys := ⟨_, rfl⟩
    rw [← hr]
    have hr0 : r = lexB (xs.drop 0) (ys.drop 0) := hr
    clear hr
    go_enter Try.func130, Try.ntmps130
    go_wp2
    clear hne
    go_loopg [5] xs.length (fun gg s wr => ∃ k : Nat, k ≤ xs.length ∧ xs.length - k ≤ gg ∧ s = .int .i64 k ∧ Aside (Below w.heap.size w wr) ∧ Aside (r = lexB (xs.drop k) (ys.drop k)))
    case atStart => exact ⟨0, Nat.zero_le _, by omega, rfl, Below.refl _ _, hr0⟩
    case round =>
      obtain ⟨k, hk, hgk, rfl, BW, RR⟩ := hrel
      clear hr0
      by_cases hlt : k < xs.length
      · have hlt' : k < ys.length := by have := HXY.out; omega
        have hki : (k : Int) < (ys.length : Int) := by omega
        have hkj : (k : Int) < (xs.length : Int) := by omega
        obtain ⟨b, off, rfl, hc⟩ := (HA.out.below BW.out).get hlt
        obtain ⟨b', off', rfl, hc'⟩ := (HB.out.below BW.out).get hlt'
        have hs := HS.out k hlt
        have HBN := hid (fun n => bdrewN BW.out n)
        by_cases e : el xs k = el ys k
        · rw [if_pos e] at hs
          have RR' : Aside (r = lexB (xs.drop (k + 1)) (ys.drop (k + 1))) := by unfold Aside; rw [← hs]; exact RR.out
          have he : (el xs k != el ys k) = false := by simpa using e
          rw [← e] at hc'
          rw [← e] at he
          clear hs HA HB HS HE HXY RR e BW
          generalize el xs k = x at *
          go_wp2
          go_quiet (fail)
          go_wp2
          go_roundg (xs.length - (k + 1))
          case measure => omega
          case rel => exact ⟨k + 1, by omega, by omega, by go_num, HBN.out _, RR'⟩
        · rw [if_neg e] at hs
          have HR : Hid (r = decide (el xs k < el ys k)) := hid (by rw [RR.out]; exact hs)
          have he : (el xs k != el ys k) = true := by simpa using e
          clear hs HA HB HS HE HXY RR e BW
          generalize el xs k = x at *
          generalize el ys k = y at *
          go_wp2
          go_quiet (fail)
          go_wp2
          go_quiet (fail)
          go_wp2
          go_ret
          exact ⟨ret_b (by rw [HR.out]), bdrewN (HBN.out _) _⟩
      · have : k = xs.length := by omega
        subst this
        have HR : Hid (r = false) := hid (by rw [RR.out]; exact HE.out)
        clear HA HB HS HE HXY RR
        go_wp2
        go_ret
        exact ⟨ret_b HR.out.symm, BW.out⟩
  · have hne : ((xs.length : Int) != (ys.length : Int)) = true := by simp; omega
    have HE : Hid (decide (xs.length < ys.length) = lessB xs ys) := hid (by unfold lessB; rw [if_neg hxy])
    clear hA hB hxy
    go_enter Try.func130, Try.ntmps130
    go_wp2
    go_ret
    exact ⟨ret_b HE.out, Below.refl _ _⟩
set_option maxRecDepth 100000 in
theorem s_l06WidthG (w : World) (A : Option Addr) (c : Nat) (xs : List PI) (g : Nat) (hg : g < 4096) (hl : xs.length ≤ 12) (hR : RdP w A xs) :
    Calls Try.prog 131 #[.slice A xs.length c, .int .i64 (g : Nat)] w fun e w' => e = .returned (.int .i64 (widG xs g xs.length)) ∧ Below w.heap.size w w' := by
  have HR := hid hR
  clear hR
  have HQ : Hid (∀ i, g / 2 ^ i < 4096) := hid fun i => Nat.lt_of_le_of_lt (Nat.div_le_self _ _) hg
  have hmx := s_l00Max
  have HM := hid hmx
  clear hmx
  go_enter Try.func131, Try.ntmps131
  go_wp2
  go_loopg [5, 6] xs.length (fun gg m s wr => ∃ k : Nat, k ≤ xs.length ∧ xs.length - k ≤ gg ∧ s = .int .i64 k ∧ m = .int .i64 (widG xs g k) ∧ Aside (Below w.heap.size w wr))
  case atStart => exact ⟨0, Nat.zero_le _, by omega, rfl, rfl, Below.refl _ _⟩
  case round =>
    obtain ⟨k, hk, hg', rfl, rfl, BW⟩ := hrel
    by_cases hlt : k < xs.length
    · obtain ⟨b, off, rfl, hc, hc1⟩ := (HR.out.below BW.out).get hlt
      obtain ⟨wo, rfl⟩ : ∃ wo : World, wo = wr := ⟨_, rfl⟩
      rcases hp : pel xs k with ⟨x, y⟩
      simp only [hp] at hc hc1
      have HW : Hid (widG xs g (k + 1) = max (widG xs g k) (cntG xs g x xs.length)) := hid (by simp only [widG, hp])
      clear hp
      have HC0 := hid hc
      clear hc hc1
      go_wp2_with fail
      go_loopg [7, 8] xs.length (fun gg m s wj => ∃ j : Nat, j ≤ xs.length ∧ xs.length - j ≤ gg ∧ s = .int .i64 j ∧ m = .int .i64 (cntG xs g x j) ∧ Aside (Below wo.heap.size wo wj))
      case atStart => exact ⟨0, Nat.zero_le _, by omega, rfl, rfl, Below.refl _ _⟩
      case round =>
        obtain ⟨j, hj, hgj, rfl, rfl, BJ⟩ := hrel
        by_cases hlj : j < xs.length
        · obtain ⟨b', off', e', hd, hd1⟩ := ((HR.out.below BW.out).below BJ.out).get hlj
          cases e'
          have hbx := bcell BJ.out HC0.out
          obtain ⟨hcj0, hcj1⟩ := cntG_range xs g x j
          rcases hp : pel xs j with ⟨p, q⟩
          have hst : cntG xs g x (j + 1) = cntG xs g x j + (if (!bitN g j && (decide (p ≤ x) && decide (x < q))) = true then 1 else 0) := by simp only [cntG, hp, cont]
          simp only [hp] at hd hd1
          clear hp
          have hsh := shr_nat g j
          have hq := HQ.out j
          have hbi : bitN g j = (g / 2 ^ j % 2 == 1) := rfl
          rw [hbi] at hst
          clear hbi
          have hand := bits_one (g / 2 ^ j) (by omega)
          generalize g / 2 ^ j = z at *
          rcases Nat.mod_two_eq_zero_or_one z with h0 | h0
          · rw [h0] at hand hst
            by_cases h1 : p ≤ x
            · by_cases h2 : x < q
              · have HT : Hid (cntG xs g x (j + 1) = cntG xs g x j + 1) := hid (by rw [hst]; simp [h1, h2])
                clear hst HW HR HC0 HQ h0
                go_wp2
                go_quiet (fail)
                go_wp2
                go_roundg (xs.length - (j + 1))
                case measure => omega
                case rel => exact ⟨j + 1, by omega, by omega, by go_num, by rw [HT.out], bdrewN BJ.out _⟩
              · have HT : Hid (cntG xs g x (j + 1) = cntG xs g x j) := hid (by rw [hst]; simp [h1, h2])
                clear hst HW HR HC0 HQ h0
                go_wp2
                go_quiet (fail)
                go_wp2
                go_roundg (xs.length - (j + 1))
                case measure => omega
                case rel => exact ⟨j + 1, by omega, by omega, by go_num, by rw [HT.out], bdrewN BJ.out _⟩
            · have HT : Hid (cntG xs g x (j + 1) = cntG xs g x j) := hid (by rw [hst]; simp [h1])
              have hd1' : decide (p ≤ x) = false := by simpa using h1
              clear hst HW HR HC0 h1 HQ h0
              go_wp2
              go_quiet (fail)
              go_wp2
              go_roundg (xs.length - (j + 1))
              case measure => omega
              case rel => exact ⟨j + 1, by omega, by omega, by go_num, by rw [HT.out], bdrewN BJ.out _⟩
          · rw [h0] at hand hst
            have HT : Hid (cntG xs g x (j + 1) = cntG xs g x j) := hid (by rw [hst]; simp)
            clear hst HW HR HC0 HQ h0
            go_wp2
            go_quiet (fail)
            go_wp2
            go_roundg (xs.length - (j + 1))
            case measure => omega
            case rel => exact ⟨j + 1, by omega, by omega, by go_num, by rw [HT.out], bdrewN BJ.out _⟩
        · have : j = xs.length := by omega
          subst this
          have hcm := HM.out wr (widG xs g k) (cntG xs g x xs.length)
          have BF : Hid (Below w.heap.size w wr) := hid (bthen BW.out BJ.out)
          clear HR HC0 HQ
          go_wp2_with fail
          refine hcm.mono ?_
          rintro e w' ⟨rfl, rfl⟩
          go_wp2_with fail
          go_roundg (xs.length - (k + 1))
          case measure => omega
          case rel => exact ⟨k + 1, by omega, by omega, by go_num, by rw [HW.out], BF.out⟩
    · have : k = xs.length := by omega
      subst this
      go_wp2_with fail
      go_ret
      exact ⟨rfl, BW.out⟩
theorem s_l06Registers (w : World) (A : Option Addr) (c : Nat) (xs : List PI) (r : Int) (hl : xs.length ≤ 1048576) (hR : RdP w A xs) :
    Calls Try.prog 128 #[.slice A xs.length c, .int .i64 r] w fun e w' => e = .returned (.bool (rngsB xs && inB r 0 12)) ∧ Below w.heap.size w w' := by
  have c0 := s_l06Ranges w A c xs hl hR
  have c1 := fun W => s_l00In r 0 12 W
  clear hR
  generalize inB r 0 12 = q at *
  generalize rngsB xs = p at *
  have C0 := hid c0
  have C1 := hid c1
  clear c0 c1
  cases p with
  | false =>
    go_enter Try.func128, Try.ntmps128
    go_wp2_with fail
    refine C0.out.mono ?_
    rintro e w1 ⟨rfl, hb1⟩
    go_wp2_with fail
    go_ret
    exact ⟨rfl, hb1⟩
  | true =>
    go_enter Try.func128, Try.ntmps128
    go_wp2_with fail
    refine C0.out.mono ?_
    rintro e w1 ⟨rfl, hb1⟩
    go_wp2_with fail
    refine (C1.out _).mono ?_
    rintro e w2 ⟨rfl, rfl⟩
    go_wp2_with fail
    go_ret
    exact ⟨ret_b (by simp), hb1⟩
theorem s_FS0 (w : World) (A : Option Addr) (n c : Nat) (r : Int) (hn : n ≤ 1048576) (C0 : Hid (Calls Try.prog 128 #[.slice A n c, .int .i64 r] w fun e w' => e = .returned (.bool false) ∧ Below w.heap.size w w')) :
    Calls Try.prog 51 #[.slice A n c, .int .i64 r] w (RetIB w ([], false)) := by
  go_enter Try.func51, Try.ntmps51
  go_wp2_with fail
  refine C0.out.mono ?_
  rintro e w1 ⟨rfl, hb1⟩
  go_wp2_with fail
  go_ret2
  exact ⟨_, rfl, Own.nil _ _ _ _ _, hb1⟩
theorem bsS_length (xs : List PI) (r : Int) (k : Nat) : (bsS xs r k).length ≤ 12 := by
  induction k with
  | zero => exact memN_length _ 12
  | succ k ih =>
    simp only [bsS]
    split
    · exact memN_length k 12
    · exact ih
set_option maxRecDepth 100000 in
set_option maxHeartbeats 1000000 in
theorem s_FSm (w : World) (A : Option Addr) (c : Nat) (xs : List PI) (r : Int) (N N1 : Nat) (hl : xs.length ≤ 12) (hr0 : 0 ≤ r) (hr1 : r ≤ 12) (hN : N ≤ 4096) (hN1 : N1 + 1 = N) (hbs : bsS xs r 0 = memN N1 12) (hwr : IntKind.i64.wrap (2 ^ xs.length) = (N : Int)) (hR : RdP w A xs) (C0 : Hid (Calls Try.prog 128 #[.slice A xs.length c, .int .i64 r] w fun e w' => e = .returned (.bool true) ∧ Below w.heap.size w w')) :
    Calls Try.prog 51 #[.slice A xs.length c, .int .i64 r] w (RetIB w (bsS xs r N, true)) := by
  have HM := hid (fun W g hg => s_l06Set W g hg)
  have HWI : Hid (∀ W g, g < 4096 → Below w.heap.size w W → _) := hid (fun W g hg (hW : Below w.heap.size w W) => s_l06WidthG W A c xs g hg hl (hR.below hW))
  have HCP := hid (fun W A' B' c' d' (xs ys : List Int) h1 h2 h3 h4 => s_l06Less W A' B' c' d' xs ys h1 h2 h3 h4)
  have HST : Hid (∀ g, bsS xs r (g + 1) = if lessB (memN g 12) (bsS xs r g) && decide (widG xs g xs.length ≤ r) then memN g 12 else bsS xs r g) := hid fun _ => rfl
  have HBL := hid (bsS_length xs r)
  have HML := hid (fun g => memN_length g 12)
  have HWR := hid (fun g => widG_range xs g xs.length)
  have HB0 := hid hbs
  have hn1 : (N : Int) - 1 = (N1 : Int) := by omega
  clear hR hbs
  go_enter Try.func51, Try.ntmps51
  go_wp2_with fail
  refine C0.out.mono ?_
  rintro e w1 ⟨rfl, hb1⟩
  have HB1 := hid hb1
  clear C0
  go_wp2_with fail
  refine (HM.out _ N1 (by omega)).mono ?_
  rintro e w2 ⟨v6, rfl, ho6, hb6⟩
  have HB2 := hid (bthen hb1 hb6)
  have HO6 := hid (Own.wide ho6 hb1.size (Nat.le_refl _))
  clear hb1 hb6 ho6 HB1
  go_wp2_with fail
  go_loopg [6, 7] N (fun gg v s wr => ∃ g : Nat, g ≤ N ∧ N - g ≤ gg ∧ s = .int .i64 g ∧ Aside (OI wr w.heap.size wr.heap.size v (bsS xs r g)) ∧ Aside (Below w.heap.size w wr))
  case atStart => exact ⟨0, Nat.zero_le _, by omega, rfl, (by rw [HB0.out]; exact HO6.out), HB2.out⟩
  case round =>
    obtain ⟨g, hg, hgg, rfl, OW, BW⟩ := hrel
    clear HO6 HB0 HB2
    by_cases hlt : g < N
    · have hst := HST.out g
      have hmem := HM.out wr g (by omega)
      have hbl := HBL.out g
      have hml := HML.out g
      have hwi := fun W hW => HWI.out W g (by omega) hW
      have hwd := HWR.out g
      obtain ⟨Ab, cb, rfl, hbc, hbc', hrb⟩ := OW.out.shp
      generalize hb : bsS xs r g = b at *
      generalize memN g 12 = M at *
      obtain ⟨hw0, hw1⟩ := hwd
      generalize widG xs g xs.length = Wd at *
      have HMEM := hid hmem
      have HWII := hid hwi
      have HSKIP : Hid (lessB M b = false → bsS xs r (g + 1) = b) := hid fun h1 => by rw [hst, h1]; rfl
      have HTAKE : Hid (lessB M b = true → Wd ≤ r → bsS xs r (g + 1) = M) := hid fun h1 h2 => by
        rw [hst]; simp [h1, h2]
      have HLEAVE : Hid (lessB M b = true → ¬ Wd ≤ r → bsS xs r (g + 1) = b) := hid fun h1 h2 => by
        rw [hst]; simp [h2]
      have HOW := hid OW.out
      have HBW := hid BW.out
      have hgn : (g : Int) < (N : Int) := by omega
      have HCQ := hid (fun W A' c' B' d' h1 h2 => HCP.out W A' B' c' d' M b (by omega) (by omega) h1 h2)
      clear hst hmem hwi hb HST HM HWI HBL HML HWR OW BW hrb HCP
      go_wp2_with fail
      refine HMEM.out.mono ?_
      rintro e w1 ⟨v9, rfl, ho9, hb9⟩
      obtain ⟨A9, c9, rfl, _, _, hr9⟩ := Own.int ho9
      have HO9 := hid ho9
      have hob := HOW.out.eqv (Eqv.of hb9 (Nat.le_refl _))
      have hcp := HCQ.out w1 A9 c9 Ab cb hr9 hob.rd
      have HOB := hid hob
      have HB9 := hid hb9
      have HBW9 := hid (bthen HBW.out hb9)
      clear HMEM ho9 hb9 hr9 HOW hob HCQ
      cases hls : lessB M b with
      | false =>
        rw [hls] at hcp
        have HCPP := hid hcp
        have HS := hid (HSKIP.out hls)
        clear hcp hls
        go_wp2_with fail
        refine HCPP.out.mono ?_
        rintro e wk ⟨rfl, hbk⟩
        have HOB3 := hid (HOB.out.eqv (Eqv.of hbk HB9.out.size))
        have HSZ := hid hbk.size
        have HBW3 := hid (bthen HBW9.out hbk)
        clear HCPP hbk
        go_wp2_with fail
        go_roundg (N - (g + 1))
        case measure => omega
        case rel => exact ⟨g + 1, by omega, by omega, by go_num, (by rw [HS.out]; exact Own.wide HOB3.out (Nat.le_refl _) (Nat.le_trans HB9.out.size HSZ.out)), HBW3.out⟩
      | true =>
        rw [hls] at hcp
        have HCPP := hid hcp
        have HLS := hid hls
        clear hcp hls
        go_wp2_with fail
        refine HCPP.out.mono ?_
        rintro e wk ⟨rfl, hbk⟩
        have HBK := hid hbk
        have HBWK := hid (bthen HBW9.out hbk)
        clear HCPP hbk
        go_wp2_with fail
        refine (HWII.out _ HBWK.out).mono ?_
        rintro e w3 ⟨rfl, hb3⟩
        have hb93 := bthen HBK.out hb3
        have HB93 := hid hb93
        have HO93 := hid (HO9.out.eqv (Eqv.of hb93 (Nat.le_refl _)))
        have HOB3 := hid (HOB.out.eqv (Eqv.of hb93 HB9.out.size))
        have HBW3 := hid (bthen HBW9.out hb93)
        clear HWII hb3 hb93
        by_cases hW : Wd ≤ r
        · have HS := hid (HTAKE.out HLS.out (by omega))
          go_wp2_with fail
          go_roundg (N - (g + 1))
          case measure => omega
          case rel => exact ⟨g + 1, by omega, by omega, by go_num, (by rw [HS.out]; exact Own.wide HO93.out HBW.out.size HB93.out.size), HBW3.out⟩
        · have HS := hid (HLEAVE.out HLS.out (by omega))
          go_wp2_with fail
          go_roundg (N - (g + 1))
          case measure => omega
          case rel => exact ⟨g + 1, by omega, by omega, by go_num, (by rw [HS.out]; exact Own.wide HOB3.out (Nat.le_refl _) (Nat.le_trans HB9.out.size HB93.out.size)), HBW3.out⟩
    · have : g = N := by omega
      subst this
      clear HST HM HWI HBL HML HWR
      go_wp2_with fail
      go_ret2
      exact ⟨_, rfl, OW.out, BW.out⟩
theorem s_FewestSpills (w : World) (A : Option Addr) (c : Nat) (xs : List PI) (r : Int) (hl : xs.length ≤ 1048576) (hR : RdP w A xs) :
    Calls Try.prog 51 #[.slice A xs.length c, .int .i64 r] w (RetIB w (m_FewestSpills xs r)) := by
  have c0 := s_l06Registers w A c xs r hl hR
  unfold m_FewestSpills
  cases h0 : rngsB xs && inB r 0 12 with
  | false => rw [h0] at c0; exact s_FS0 w A xs.length c r hl (hid c0)
  | true =>
    rw [h0] at c0
    rw [Bool.and_eq_true] at h0
    have hl12 : xs.length ≤ 12 := by have := h0.1; simp only [rngsB, Bool.and_eq_true, decide_eq_true_eq] at this; exact this.1
    have hrb := inB_iff.1 h0.2
    have hp : 2 ^ xs.length ≤ 4096 := Nat.pow_le_pow_right (n := 2) (by omega) hl12
    have hp0 := Nat.two_pow_pos xs.length
    have h := s_FSm w A c xs r (2 ^ xs.length) (2 ^ xs.length - 1) hl12 hrb.1 hrb.2 hp (by omega) rfl (pow_wrap _ hp) hR (hid c0)
    rw [bs_end hl12 hrb.1] at h
    exact h
end Go.Proofs.Ythgfcoafngddgaa
