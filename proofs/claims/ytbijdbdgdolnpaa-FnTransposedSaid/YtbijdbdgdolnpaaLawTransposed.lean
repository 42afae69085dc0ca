import Derived.Test.YtbijdbdgdolnpaaTrl2
set_option linter.unusedVariables false
set_option linter.unusedSimpArgs false
namespace Go.Proofs.Ytbijdbdgdolnpaa
open Go.RowKit

theorem take_snoc {fs : List Nat} {j f : Nat} (h : fs[j]? = some f) : fs.take (j + 1) = fs.take j ++ [f] := by rw [List.take_add_one, h]; rfl
theorem dn_len {n : Nat} (hn : n = 2 ∨ n = 4 ∨ n = 8 ∨ n = 16) : ∀ k, k < (dnF n).length → (dnF n)[k]? = some (n / 2 / 2 ^ k) ∧ n / 2 / 2 ^ k < n ∧ (n / 2 / 2 ^ k = 1 ∨ n / 2 / 2 ^ k = 2 ∨ n / 2 / 2 ^ k = 4 ∨ n / 2 / 2 ^ k = 8) := by
  rcases hn with rfl | rfl | rfl | rfl <;> decide
theorem dn_end {n : Nat} (hn : n = 2 ∨ n = 4 ∨ n = 8 ∨ n = 16) : n / 2 / 2 ^ (dnF n).length = 0 ∧ (dnF n).length ≤ 4 := by
  rcases hn with rfl | rfl | rfl | rfl <;> decide
theorem rd_r8n (w : World) (A B : Option Addr) (c d n1 n2 : Nat) (xs ys : List (List Int)) (hl : rsz xs ≤ 1048576) (hl' : rsz ys ≤ 1048576) (hA : RdR w A xs) (hB : RdR w B ys) (h : xs = ys) (h1 : xs.length = n1) (h2 : ys.length = n2) :
    Calls Try.prog 19 #[.slice A n1 c, .slice B n2 d] w fun e w' => e = .returned (.bool true) ∧ ∃ m, w' = w.drewN m := by
  subst h1 h2; exact rd_r8 w A B c d xs ys hl hl' hA hB h
set_option maxRecDepth 100000 in
set_option maxHeartbeats 4000000 in
theorem law_Transposed (w : World) (A0 : Option Addr) (c0 : Nat) (xs0 : List Int) (A1 : Option Addr) (c1 : Nat) (xs1 : List Int) (hl0 : xs0.length ≤ 9223372036854775807) (hR0 : RdU w A0 xs0) (hl1 : xs1.length ≤ 9223372036854775807) (hR1 : RdU w A1 xs1) :
    Calls Try.prog 3 #[.slice A0 xs0.length c0, .slice A1 xs1.length c1] w fun e w' => e = .returned (.bool true) ∧ Below w.heap.size w w' := by
  have CL := hid (l_r8Long w A0 A1 xs0.length c0 xs1.length c1 hl0 hl1)
  cases hlong : (decide (48 < xs0.length) || decide (48 < xs1.length)) with
  | true =>
    rw [hlong] at CL
    clear hlong hR0 hR1
    go_enter Try.func3, Try.ntmps3
    go_wp2_with fail
    refine CL.out.mono ?_
    rintro e w1 ⟨rfl, rfl⟩
    go_wp2_with fail
    go_ret
    exact ⟨rfl, Below.refl _ _⟩
  | false =>
    rw [hlong] at CL
    have hs0 : xs0.length ≤ 48 := by simp at hlong; omega
    have hs1 : xs1.length ≤ 48 := by simp at hlong; omega
    have HU0 := hid hR0
    have HU1 := hid hR1
    clear hlong hR0 hR1 hl0 hl1
    go_enter Try.func3, Try.ntmps3
    go_wp2_with fail
    refine CL.out.mono ?_
    rintro e w0 ⟨rfl, rfl⟩
    clear CL
    have CC := hid (s_R8Bits w A0 c0 xs0 (by omega) HU0.out)
    go_wp2_with fail
    refine CC.out.mono ?_
    rintro e w1 ⟨b, rfl, hb0, hb⟩
    clear CC
    have HBI := hid hb0
    have BW1 := hid hb
    clear hb0 hb
    have CC := hid (s_R8Lanes w1 A1 c1 xs1 (by omega) (HU1.out.below BW1.out))
    go_wp2_with fail
    refine CC.out.mono ?_
    rintro e w2 ⟨lz, rfl, hn0, hb⟩
    clear CC
    obtain ⟨n, hnz⟩ : ∃ n : Nat, lz = n := ⟨lz.toNat, by have := lanesB_or hn0; omega⟩
    subst hnz
    have HN := hid hn0
    have hn : n = 2 ∨ n = 4 ∨ n = 8 ∨ n = 16 := by have := lanesB_or hn0; omega
    have hn16 : n ≤ 16 := by omega
    have hn2 : 2 ≤ n := by omega
    have HNN := hid hn
    have BW2 := hid (bthen BW1.out hb)
    clear hn hn0 hb BW1 HU1
    go_wp2_with fail
    go_loopg [7, 8] n (fun gg v s wr => ∃ i : Nat, i ≤ n ∧ n - i ≤ gg ∧ s = .int .i64 i ∧ Aside (Below w.heap.size w wr) ∧ Aside (∃ yss, (yss.length = i ∧ ∀ xs, xs ∈ yss → vecB b xs = true ∧ xs.length = n) ∧ OR wr w.heap.size wr.heap.size v yss))
    case atStart =>
      refine ⟨0, Nat.zero_le _, by omega, rfl, balloc BW2.out _, ⟨[], ⟨rfl, fun xs hx => by cases hx⟩, ?_⟩⟩
      have := OR.wide (OR.lit0 w2) BW2.out.size (Nat.le_refl _)
      simpa using this
    case round =>
      obtain ⟨i, hi, hg, rfl, BW, YY⟩ := hrel
      clear BW2
      obtain ⟨yss, ⟨hyl, hyv⟩, hor⟩ := YY.out
      clear YY
      by_cases hlt : i < n
      · have hlt' : (i : Int) < (n : Int) := by omega
        have hbo := Own.of (World.ownsRow_lit (base := wr.heap.size) (e := 5) (size := 1) wr #[.int .u8 (i : Nat)] 1 (Nat.le_refl _) (by simp [maxLen]) rfl)
        have HBO := hid hbo
        have hba := ballocw wr (.cells #[.int .u8 (i : Nat)] 5)
        have HRU := hid ((HU0.out.below BW.out).below hba)
        have HBA := hid hba
        have hza := hba.size
        have HY := hid (And.intro hyl hyv)
        have HOR := hid hor
        have HBW := hid BW.out
        have hi16 : i ≤ 15 := by omega
        clear hbo hba hyl hyv hor BW
        go_wp2_with (at_builtin; refine wp_appendU wr.heap.size rfl _ _ 22 5 (.int .u8 0) 1 rfl Try.underlying22 infoU8 rfl (.slice (some ⟨wr.heap.size, 0, none⟩) 1 1) 1 [.int .u8 (i : Nat)] A0 c0 xs0 rfl rfl (by simpa using HBO.out) HRU.out hza (by omega) (by omega) ?_; intro v1 w3 hown1 hbel1; obtain ⟨Ac, cc, rfl, hru⟩ := ownU_shape hown1 (by omega) (by omega) HRU.out.2; have HRC := hid hru; have HB3 := hid (HBA.out.trans hbel1); clear hru hown1 hbel1)
        have CC := hid (s_R8Vector w3 Ac cc ((i : Int) :: xs0) b n HBI.out (by omega) (by simp; omega) HRC.out)
        refine CC.out.mono ?_
        rintro e w4 ⟨v4, row, rfl, ⟨hr1, hr2⟩, ho4, hb4⟩
        obtain ⟨A4, c4, rfl, _, _, _⟩ := OI.shp ho4
        have hb34 := bthen' HB3.out hb4 HB3.out.size
        have hr5 := HOR.out.eqv (Eqv.of hb34 (Nat.le_refl _))
        have hu5 : OI w4 wr.heap.size w4.heap.size (.slice A4 row.length c4) row := Own.wide ho4 HB3.out.size (Nat.le_refl _)
        have HSW : Hid (w.heap.size ≤ wr.heap.size) := hid HBW.out.size
        have HSL : Hid (wr.heap.size ≤ w4.heap.size) := hid hb34.size
        have hcnt : yss.length + 1 ≤ 1048576 := by have := HY.out.1; omega
        have HB5 := hid (bthen HBW.out hb34)
        have HV := hid (vecB_of' hr1 HN.out HBI.out hr2)
        have HRL := hid hr1
        clear CC HRC HB3 HBA HBO HRU HOR HBW hb4 hb34 ho4 hr1 hr2 hza HNN
        go_wp2_with (at_builtin; refine wp_appendR w.heap.size wr.heap.size rfl _ _ rfl u7 yss A4 c4 row rfl rfl hr5 hu5 HSW.out HSL.out hcnt ?_; intro v1 w5 hr6 hb6)
        go_roundg (n - (i + 1))
        case measure => omega
        case rel =>
          refine ⟨i + 1, by omega, by omega, by go_num, ?_, (show Aside _ from ⟨yss ++ [row], ⟨by rw [List.length_append, List.length_singleton, HY.out.1], fun xs hx => ?_⟩, hr6⟩)⟩
          · show Below _ _ _; exact HB5.out.trans hb6
          · rcases List.mem_append.1 hx with h | h
            · exact HY.out.2 xs h
            · rw [List.mem_singleton] at h; subst h; exact ⟨HV.out, HRL.out⟩
      · obtain rfl : i = n := by omega
        subst hyl
        have hnlt : ¬ ((yss.length : Nat) : Int) < ((yss.length : Nat) : Int) := by omega
        obtain ⟨Ar, cr, rfl, _, _, rr⟩ := hor.shp
        have hB : rowsB b yss = true := by
          unfold rowsB; rw [HN.out, Bool.true_and, List.all_eq_true]
          intro x hx; have := hyv x hx; simp [this.1, this.2]
        have hO := ROk.of hB
        have hrz : rsz yss ≤ 1048576 := Nat.le_trans (rsz_le (n := 16) (m := 16) (by omega) (fun k hk => by have := hO.row k hk; omega)) (by decide)
        have hrt : rsz (trN yss) ≤ 1048576 := Nat.le_trans (rsz_le (n := 16) (m := 16) (by rw [trN_length]; omega) (fun k hk => by rw [trN_length] at hk; rw [trN_row _ hk, colN_length]; omega)) (by decide)
        have HRZ := hid hrz
        have HRT := hid hrt
        have HB := hid hB
        have HO := hid hO
        have HR := hid rr
        have BA := hid BW.out
        obtain ⟨wa, rfl⟩ : ∃ wa : World, wa = wr := ⟨_, rfl⟩
        clear hor hyv hB hO hrz hrt rr BW HU0
        -- transposed, and back
        have cc := i_TransposeLanes wa b Ar cr yss HRZ.out HR.out
        rw [show m_TransposeLanes b yss = (trN yss, true) by unfold m_TransposeLanes; rw [HB.out]; rfl] at cc
        have CC := hid cc
        clear cc
        go_wp2_with fail
        refine CC.out.mono ?_
        rintro e w6 ⟨v, rfl, ho, hb⟩
        obtain ⟨At, ct, rfl, _, _, rt⟩ := OR.shp ho
        have HT := hid rt
        have BB := hid (bthen BA.out hb)
        have HR1 := hid (HR.out.below hb)
        clear CC ho hb rt HR BA
        have cc := i_TransposeLanes w6 b At ct (trN yss) HRT.out HT.out
        rw [show m_TransposeLanes b (trN yss) = (yss, true) by unfold m_TransposeLanes; rw [rowsB_trN HB.out]; simp [trN_trN HO.out]] at cc
        have CC := hid cc
        clear cc
        go_wp2_with fail
        refine CC.out.mono ?_
        rintro e w7 ⟨v, rfl, ho, hb⟩
        obtain ⟨Ab, cb, rfl, _, _, rb⟩ := OR.shp ho
        have CR := hid (rd_r8 w7 Ab Ar cb cr yss yss HRZ.out HRZ.out rb (HR1.out.below hb) rfl)
        have BC := hid (bthen BB.out hb)
        have HR2 := hid (HR1.out.below hb)
        have HT2 := hid (HT.out.below hb)
        clear CC ho hb rb HR1 HT BB
        go_wp2_with fail
        refine CR.out.mono ?_
        rintro e w8' ⟨rfl, m8, h8⟩
        have hd8 : Below w7.heap.size w7 w8' := by rw [h8]; exact bdrewN (Below.refl _ _) _
        have BD := hid (bthen BC.out hd8)
        have HR3 := hid (HR2.out.below hd8)
        have HT3 := hid (HT2.out.below hd8)
        clear CR hd8 h8 HR2 HT2 BC
        go_wp2_with fail
        -- steps up
        go_loopg [13, 14] (upF yss.length).length (fun gg v s wq => ∃ j : Nat, j ≤ (upF yss.length).length ∧ (upF yss.length).length - j ≤ gg ∧ s = .int .i64 ((2 ^ j : Nat) : Int) ∧ (∃ A c, v = .slice A yss.length c ∧ Aside (RdR wq A (seqM yss.length yss ((upF yss.length).take j)))) ∧ Aside (Below w8'.heap.size w8' wq))
        case atStart => exact ⟨0, Nat.zero_le _, by omega, rfl, ⟨Ar, cr, rfl, HR3.out⟩, Below.refl _ _⟩
        case round =>
          obtain ⟨j, hj, hgj, rfl, ⟨A, c, rfl, RM⟩, BJ⟩ := hrel
          by_cases hlj : j < (upF yss.length).length
          · obtain ⟨f1, f2, f3⟩ := up_len HNN.out j hlj
            have hlt2 : ((2 ^ j : Nat) : Int) < (yss.length : Int) := by omega
            obtain ⟨hk1, hk2⟩ := seqM_ok HNN.out (fs := (upF yss.length).take j) yss HO.out rfl
            have hfo := FarOk.of HNN.out f3 f2
            have hrb : rowsB b (seqM yss.length yss ((upF yss.length).take j)) = true := rowsB_seq HNN.out (fun f hf => up_ok HNN.out f (List.mem_of_mem_take hf)) yss HB.out rfl
            have hrz : rsz (seqM yss.length yss ((upF yss.length).take j)) ≤ 1048576 := Nat.le_trans (rsz_le (n := 16) (m := 16) (by omega) (fun k hk => by have := hk1.row k hk; omega)) (by decide)
            have cc := i_TransposeStep wr b A c (seqM yss.length yss ((upF yss.length).take j)) ((2 ^ j : Nat) : Int) hrz RM.out
            rw [step_ok hrb hk2 hfo f3, hk2] at cc
            have CC := hid cc
            have HS := hid (seqM_snoc yss.length yss ((upF yss.length).take j) (2 ^ j))
            have HTK := hid (take_snoc f1)
            have hpw : (2 ^ j : Nat) ≤ 8 := by omega
            have hpp : ((2 ^ (j + 1) : Nat) : Int) = ((2 ^ j : Nat) : Int) * 2 := by rw [Nat.pow_succ]; omega
            have HPP := hid hpp
            have HBJ := hid BJ.out
            clear cc hpp f1 f2 f3 hk1 hk2 hfo hrb hrz RM BJ HR3 HT3 HRT HRZ HB HO  HN HNN BD HBI
            generalize hpj : (2 ^ j : Nat) = pj at *
            clear hpj
            go_wp2_with fail
            refine CC.out.mono ?_
            rintro e w9 ⟨v, rfl, ho, hb⟩
            replace ho : OR w9 wr.heap.size w9.heap.size v (mat yss.length (tsE (seqM yss.length yss ((upF yss.length).take j)) pj)) := ho
            obtain ⟨An, cn, ev, _, _, rn⟩ := OR.shp ho
            rw [mat_length] at ev
            subst ev
            have HRN : Hid (RdR w9 An (seqM yss.length yss ((upF yss.length).take (j + 1)))) := hid (by rw [HTK.out, HS.out]; exact rn)
            have HB9 := hid (bthen HBJ.out hb)
            clear CC ho hb rn HBJ
            go_wp2_with fail
            go_roundg ((upF yss.length).length - (j + 1))
            case measure => omega
            case rel => exact ⟨j + 1, by omega, by omega, by rw [HPP.out], ⟨An, cn, rfl, HRN.out⟩, HB9.out⟩
          · obtain rfl : j = (upF yss.length).length := by omega
            have hend := up_end HNN.out
            have hnlt2 : ¬ ((2 ^ (upF yss.length).length : Nat) : Int) < (yss.length : Int) := by rw [hend.1]; omega
            have hup : RdR wr A (trN yss) := by have := RM.out; rw [List.take_length, up_trN HNN.out HO.out rfl] at this; exact this
            have HUP := hid hup
            have BE := hid (bthen BD.out BJ.out)
            have HR4 := hid (HR3.out.below BJ.out)
            have HT4 := hid (HT3.out.below BJ.out)
            have h22 : (yss.length : Int) / 2 = ((yss.length / 2 / 2 ^ 0 : Nat) : Int) := by simp
            have H22 := hid h22
            clear hup RM BJ HR3 HT3 BD hend h22
            obtain ⟨wb, rfl⟩ : ∃ wb : World, wb = wr := ⟨_, rfl⟩
            generalize (2 ^ (upF yss.length).length : Nat) = pq at *
            go_wp2_with fail
            -- steps down
            go_loopg [17, 18] (dnF yss.length).length (fun gg v s wq => ∃ j : Nat, j ≤ (dnF yss.length).length ∧ (dnF yss.length).length - j ≤ gg ∧ s = .int .i64 ((yss.length / 2 / 2 ^ j : Nat) : Int) ∧ (∃ A c, v = .slice A yss.length c ∧ Aside (RdR wq A (seqM yss.length yss ((dnF yss.length).take j)))) ∧ Aside (Below wb.heap.size wb wq))
            case atStart => exact ⟨0, Nat.zero_le _, by omega, by rw [H22.out], ⟨Ar, cr, rfl, HR4.out⟩, Below.refl _ _⟩
            case round =>
              obtain ⟨j, hj, hgj, rfl, ⟨A', c', rfl, RM⟩, BJ⟩ := hrel
              by_cases hlj : j < (dnF yss.length).length
              · obtain ⟨f1, f2, f3⟩ := dn_len HNN.out j hlj
                have hpos : (0 : Int) < ((yss.length / 2 / 2 ^ j : Nat) : Int) := by omega
                obtain ⟨hk1, hk2⟩ := seqM_ok HNN.out (fs := (dnF yss.length).take j) yss HO.out rfl
                have hfo := FarOk.of HNN.out f3 f2
                have hrb : rowsB b (seqM yss.length yss ((dnF yss.length).take j)) = true := rowsB_seq HNN.out (fun f hf => dn_ok HNN.out f (List.mem_of_mem_take hf)) yss HB.out rfl
                have hrz : rsz (seqM yss.length yss ((dnF yss.length).take j)) ≤ 1048576 := Nat.le_trans (rsz_le (n := 16) (m := 16) (by omega) (fun k hk => by have := hk1.row k hk; omega)) (by decide)
                have cc := i_TransposeStep wr b A' c' (seqM yss.length yss ((dnF yss.length).take j)) ((yss.length / 2 / 2 ^ j : Nat) : Int) hrz RM.out
                rw [step_ok hrb hk2 hfo f3, hk2] at cc
                have CC := hid cc
                have HS := hid (seqM_snoc yss.length yss ((dnF yss.length).take j) (yss.length / 2 / 2 ^ j))
                have HTK := hid (take_snoc f1)
                have hpw : (yss.length / 2 / 2 ^ j : Nat) ≤ 8 := by omega
                have hpp : ((yss.length / 2 / 2 ^ (j + 1) : Nat) : Int) = ((yss.length / 2 / 2 ^ j : Nat) : Int) / 2 := by rw [Nat.pow_succ, ← Nat.div_div_eq_div_mul]; omega
                have HPP := hid hpp
                have HBJ := hid BJ.out
                clear cc hpp f1 f2 f3 hk1 hk2 hfo hrb hrz RM BJ HR4 HT4 HRT HRZ HB HO  HN HNN BE HBI HUP H22
                generalize hpj : (yss.length / 2 / 2 ^ j : Nat) = pj at *
                clear hpj
                go_wp2_with fail
                refine CC.out.mono ?_
                rintro e w9 ⟨v, rfl, ho, hb⟩
                replace ho : OR w9 wr.heap.size w9.heap.size v (mat yss.length (tsE (seqM yss.length yss ((dnF yss.length).take j)) pj)) := ho
                obtain ⟨An, cn, ev, _, _, rn⟩ := OR.shp ho
                rw [mat_length] at ev
                subst ev
                have HRN : Hid (RdR w9 An (seqM yss.length yss ((dnF yss.length).take (j + 1)))) := hid (by rw [HTK.out, HS.out]; exact rn)
                have HB9 := hid (bthen HBJ.out hb)
                clear CC ho hb rn HBJ
                go_wp2_with fail
                go_roundg ((dnF yss.length).length - (j + 1))
                case measure => omega
                case rel => exact ⟨j + 1, by omega, by omega, by rw [HPP.out], ⟨An, cn, rfl, HRN.out⟩, HB9.out⟩
              · obtain rfl : j = (dnF yss.length).length := by omega
                have hend := dn_end HNN.out
                have hnp : ¬ (0 : Int) < ((yss.length / 2 / 2 ^ (dnF yss.length).length : Nat) : Int) := by rw [hend.1]; omega
                have hdn : RdR wr A' (trN yss) := by have := RM.out; rw [List.take_length, dn_trN HNN.out HO.out rfl] at this; exact this
                have HDN := hid hdn
                have HU5 := hid (HUP.out.below BJ.out)
                have HR5 := hid (HR4.out.below BJ.out)
                have HT5 := hid (HT4.out.below BJ.out)
                have BF := hid (fun m => bdrewN (bthen BE.out BJ.out) m)
                have HQ1 := hid (fun m : Nat => rd_r8n (wr.drewN m) A At c ct yss.length (trN yss).length (trN yss) (trN yss) HRT.out HRT.out HU5.out HT5.out rfl (trN_length yss) rfl)
                have HQ2 := hid (fun m : Nat => rd_r8n (wr.drewN m) A' At c' ct yss.length (trN yss).length (trN yss) (trN yss) HRT.out HRT.out HDN.out HT5.out rfl (trN_length yss) rfl)
                obtain ⟨m, hm⟩ : ∃ m : Nat, yss.length = m + 1 := ⟨yss.length - 1, by omega⟩
                obtain ⟨b1, o1, A2, c2, hAt, hc1, _, hr1⟩ := HT5.out.get (k := 0) (by rw [trN_length]; omega)
                obtain ⟨b3, o3, A4, c4, hAr, hc3, _, hr3⟩ := HR5.out.get (k := m) (by omega)
                subst hAt
                subst hAr
                have hl1 : (rw_ (trN yss) 0).length = yss.length := by rw [trN_row _ (by omega), colN_length]
                have hl3 : (rw_ yss m).length = yss.length := HO.out.row m (by omega)
                obtain ⟨b2, o2, rfl, hc2⟩ := hr1.get (k := m) (by omega)
                obtain ⟨b4, o4, rfl, hc4⟩ := hr3.get (k := 0) (by omega)
                have he : el (rw_ (trN yss) 0) m = el (rw_ yss m) 0 := by rw [trN_mat, mat_el _ (by omega) (by omega)]
                rw [he] at hc2
                rw [hl1] at hc1
                rw [hl3] at hc3
                have hc1' : wr.cell? ⟨b1, o1, none⟩ = some (.slice (some ⟨b2, o2, none⟩) yss.length c2) := by simpa using hc1
                have hc4' : wr.cell? ⟨b4, o4, none⟩ = some (.int .i64 (el (rw_ yss m) 0)) := by simpa using hc4
                have htl : (trN yss).length = yss.length := trN_length yss
                have hsub : (yss.length : Int) - 1 = (m : Int) := by omega
                have h1 : (m : Int) < (yss.length : Int) := by omega
                have h2 : (0 : Int) < (yss.length : Int) := by omega
                rw [htl] at HQ1 HQ2 ⊢
                clear hend hdn HDN HU5 HR5 HT5 hr1 hr3 hl1 hl3 he hc1 hc4 RM BJ HR4 HT4 HRT HRZ HB HO HN HNN BE HBI HUP H22 htl hm
                generalize el (rw_ yss m) 0 = x at *
                generalize (yss.length / 2 / 2 ^ (dnF yss.length).length : Nat) = pz at *
                go_wp2_with fail
                go_quiet (first | with_reducible exact Calls.quiet_of (HQ1.out _) | with_reducible exact Calls.quiet_of (HQ2.out _))
                go_wp2
                go_ret
                exact ⟨rfl, BF.out _⟩
end Go.Proofs.Ytbijdbdgdolnpaa
