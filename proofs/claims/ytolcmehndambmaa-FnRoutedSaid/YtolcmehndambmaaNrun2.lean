import Derived.Test.YtolcmehndambmaaNrun
set_option linter.unusedVariables false
set_option linter.unusedSimpArgs false
namespace Go.Proofs.Ytolcmehndambmaa
open Go.RowKit

theorem i_RNa (w : World) (b : Int) (A D : Option Addr) (n c m e : Nat) (hn : n ≤ 1048576) (hm : m ≤ 1048576) (C0 : Hid (Calls Try.prog 73 #[.int .i64 b, .slice D m e] w fun en w' => en = .returned (.bool false) ∧ Below w.heap.size w w')) :
    Calls Try.prog 29 #[.int .i64 b, .slice A n c, .slice D m e] w (RetIB w ([], false)) := by
  go_enter Try.func29, Try.ntmps29
  go_wp2_with fail
  refine C0.out.mono ?_
  rintro e w1 ⟨rfl, hb1⟩
  go_wp2_with fail
  go_ret2
  exact ⟨_, rfl, Own.nil _ _ _ _ _, hb1⟩
theorem i_RNb (w : World) (b : Int) (A D : Option Addr) (n c m e : Nat) (hn : n ≤ 1048576) (hm : m ≤ 1048576) (C0 : Hid (Calls Try.prog 73 #[.int .i64 b, .slice D m e] w fun en w' => en = .returned (.bool true) ∧ Below w.heap.size w w'))
    (C1 : Hid (∀ W, Below w.heap.size w W → Calls Try.prog 31 #[.int .i64 m, .slice A n c] W fun en w' => en = .returned (.bool false) ∧ Below W.heap.size W w')) :
    Calls Try.prog 29 #[.int .i64 b, .slice A n c, .slice D m e] w (RetIB w ([], false)) := by
  have CL := hid (fun W => i_lengthI D m e W)
  go_enter Try.func29, Try.ntmps29
  go_wp2_with fail
  refine C0.out.mono ?_
  rintro e w1 ⟨rfl, hb1⟩
  go_wp2_with fail
  refine (CL.out _).mono ?_
  rintro e w2 ⟨rfl, rfl⟩
  go_wp2_with fail
  refine (C1.out _ hb1).mono ?_
  rintro e w3 ⟨rfl, hb3⟩
  go_wp2_with fail
  go_ret2
  exact ⟨_, rfl, Own.nil _ _ _ _ _, bthen hb1 hb3⟩
set_option maxRecDepth 100000 in
theorem i_RN (w : World) (b : Int) (A D : Option Addr) (c d : Nat) (xss : List (List Int)) (a : List Int) (m : Nat) (hl : rsz xss ≤ 1048576) (hR : RdR w A xss) (hA : RdI w D a) (hn2 : 2 ≤ a.length) (hn16 : a.length ≤ 16) (hm1 : 1 ≤ m) (hm4 : m ≤ 4)
    (HS : Hid (∀ s, s < xss.length → ∃ sh far, StepOk a.length m s sh far)) (hrow : Hid (∀ k, k < xss.length → (rw_ xss k).length = a.length / 2))
    (C0 : Hid (Calls Try.prog 73 #[.int .i64 b, .slice D a.length d] w fun en w' => en = .returned (.bool true) ∧ Below w.heap.size w w'))
    (C1 : Hid (∀ W, Below w.heap.size w W → Calls Try.prog 31 #[.int .i64 a.length, .slice A xss.length c] W fun en w' => en = .returned (.bool true) ∧ Below W.heap.size W w'))
    (CD : Hid (∀ W, Calls Try.prog 76 #[.int .i64 a.length] W fun en w' => en = .returned (.int .i64 m) ∧ W = w')) :
    Calls Try.prog 29 #[.int .i64 b, .slice A xss.length c, .slice D a.length d] w (RetIB w (netN xss m a.length xss.length a, true)) := by
  have CL := hid (fun W => i_lengthI D a.length d W)
  have hxl := rsz_len hl
  have HR := hid hR
  have HA := hid hA
  clear hl hR hA
  go_enter Try.func29, Try.ntmps29
  go_wp2_with fail
  refine C0.out.mono ?_
  rintro e w1 ⟨rfl, hb1⟩
  go_wp2_with fail
  refine (CL.out _).mono ?_
  rintro e w2 ⟨rfl, rfl⟩
  go_wp2_with fail
  refine (C1.out _ hb1).mono ?_
  rintro e w3 ⟨rfl, hb3⟩
  have hb3' := bthen hb1 hb3
  have CC := hid (g_Clone w3 D d a (by omega) (HA.out.below hb3'))
  clear C0 C1
  go_wp2_with fail
  refine CC.out.mono ?_
  rintro e w4 ⟨v4, rfl, ho4, hb4⟩
  obtain ⟨g, c4, rfl, hON⟩ := ON.of ho4 (by omega)
  have hb5 := bthen hb3' hb4
  have hsz : w.heap.size ≤ w3.heap.size := hb3'.size
  have HB5 := hid hb5
  have HON := hid hON
  have hcap := hON.cap
  have hgge := hON.ge
  clear CC hb1 hb3 hb3' hb4 hb5 ho4 hON HA
  go_wp2_with fail
  refine (CL.out _).mono ?_
  rintro e w5 ⟨rfl, rfl⟩
  go_wp2_with fail
  refine (CD.out _).mono ?_
  rintro e w5 ⟨rfl, rfl⟩
  go_wp2_with fail
  go_loopg [34] xss.length (fun gg s wr => ∃ i : Nat, i ≤ xss.length ∧ xss.length - i ≤ gg ∧ s = .int .i64 i ∧ Aside (Below w.heap.size w wr) ∧ Aside (ON wr w3.heap.size w4.heap.size g c4 a.length (netN xss m a.length i a)) ∧ Aside (w4.heap.size ≤ wr.heap.size))
  case atStart => exact ⟨0, Nat.zero_le _, by omega, rfl, HB5.out, HON.out, Nat.le_refl _⟩
  case round =>
    obtain ⟨s, hs, hg, rfl, BW, OW, SW⟩ := hrel
    obtain ⟨ws, rfl⟩ : ∃ ws : World, ws = wr := ⟨_, rfl⟩
    clear HB5 HON
    by_cases hlt : s < xss.length
    · obtain ⟨sh, far, SO⟩ := HS.out s hlt
      have hwr := SO.wr
      have hsh3 := SO.sh3
      have hRL : Hid ((rw_ xss s).length = a.length / 2) := hid (hrow.out s hlt)
      obtain ⟨f, hf, hr⟩ := HR.out
      obtain ⟨A', c', e, hcc, hrr⟩ := hr s hlt
      obtain ⟨bo, off, rfl, hc⟩ := (hf.below BW.out) s hlt
      rw [e] at hc
      have HRR := hid hrr
      have HSO := hid SO
      have HBW := hid BW.out
      have HE : Hid (rowRun far (rw_ xss s) a.length (netN xss m a.length s a) = netN xss m a.length (s + 1) a) := hid (by rw [← SO.far_eq]; rfl)
      have HOW := hid OW.out
      have hrl8 : (rw_ xss s).length ≤ 8 := by have := hRL.out; omega
      have hf8 := SO.ok.le
      have hf1 := SO.ok.pos
      clear hrr hf hr e SO BW OW HR hrow HS CD
      generalize netN xss m a.length s a = o0 at HOW HE
      by_cases hsm : s < m
      · have hsub := HSO.out.up hsm
        go_wp2_with fail
        refine (CL.out _).mono ?_
        rintro e w5 ⟨rfl, rfl⟩
        go_wp2_with fail
        go_loopg [14, 51] a.length (fun gg nx s' wr => ∃ i : Nat, i ≤ a.length ∧ a.length - i ≤ gg ∧ s' = .int .i64 i ∧ nx = .int .i64 (cnP far i : Nat) ∧ Aside (Below w.heap.size w wr) ∧ Aside (ON wr w3.heap.size w4.heap.size g c4 a.length (rowRun far (rw_ xss s) i o0)) ∧ Aside (w4.heap.size ≤ wr.heap.size))
        case atStart => exact ⟨0, Nat.zero_le _, by omega, rfl, rfl, HBW.out, HOW.out, SW.out⟩
        case round =>
          obtain ⟨i, hi, hgi, rfl, rfl, BI, OI', SI⟩ := hrel
          clear HOW HBW SW
          by_cases hli : i < a.length
          · have hli' : (i : Int) < (a.length : Int) := by omega
            have hand := HSO.out.ok.band i (by omega)
            by_cases hb : bt far i = 0
            · rw [if_pos hb] at hand
              have hcn : cnP far i < (rw_ xss s).length := by have := HSO.out.cnt i hli hb; have := hRL.out; omega
              have hif := HSO.out.ok.btin i hli hb
              have HC : Hid (cnP far (i + 1) = cnP far i + 1) := hid (by show cnP far i + _ = _; rw [if_pos hb])
              obtain ⟨b1, off1, rfl, hcx⟩ := (HRR.out.below BI.out).get hcn
              obtain ⟨cur, hcur⟩ : ∃ cur, cur = rowRun far (rw_ xss s) i o0 := ⟨_, rfl⟩
              have HNX : Hid (rowRun far (rw_ xss s) (i + 1) o0 = if el (rw_ xss s) (cnP far i) = 1 then (cur.set i (el cur (i + far))).set (i + far) (el cur i) else cur) := hid (by rw [hcur]; show exI _ _ _ _ = _; unfold exI; rw [if_pos hb])
              have hON : ON wr w3.heap.size w4.heap.size g c4 a.length cur := by rw [hcur]; exact OI'.out
              have HC1 := hid hcur
              have HBI := hid BI.out
              have HSI := hid SI.out
              have hcn16 : cnP far i ≤ 16 := by omega
              clear hb OI' hcur HRR HSO hRL HE BI SI
              generalize hq : cnP far i = q at *
              have HQ := hid hq
              clear hq
              by_cases hx : el (rw_ xss s) q = 1
              · rw [hx] at hcx
                have HNX' : Hid (rowRun far (rw_ xss s) (i + 1) o0 = (cur.set i (el cur (i + far))).set (i + far) (el cur i)) := hid (by rw [HNX.out, if_pos hx])
                clear HNX hx
                have hM := (hON.set i (el cur (i + far))).set (i + far) (el cur i)
                rw [← HNX'.out] at hM
                have HM := hid hM
                have HBK := hid (bset (bset HBI.out (p := ⟨g, i, none⟩) (Nat.le_trans hsz hON.ge.1) (.int .i64 (el cur (i + far)))) (p := ⟨g, i + far, none⟩) (Nat.le_trans hsz hON.ge.1) (.int .i64 (el cur i)))
                obtain ⟨e1, e2⟩ := hON.at_ hli
                obtain ⟨e3, e4⟩ := hON.at_ hif
                obtain ⟨p, hp⟩ : ∃ p, p = i + far := ⟨_, rfl⟩
                rw [← hp] at e3 e4 hif HM HBK
                have hip : (i : Int) + (far : Int) = (p : Int) := by omega
                have hpl : (p : Int) < (a.length : Int) := by omega
                clear hM hON HBI HNX' hp HC1
                generalize el cur i = y1 at *
                generalize el cur p = y2 at *
                go_wp2_with fail
                go_region
                go_wp2_with fail
                go_roundg (a.length - (i + 1))
                case measure => omega
                case rel => exact ⟨i + 1, by omega, by omega, by go_num, (by rw [HC.out]; go_num), ⟨HBK.out.os, HBK.out.tape, HBK.out.output, HBK.out.size, HBK.out.block⟩, HM.out, (by show _ ≤ _; have := HSI.out; simpa [World.setCell, World.drew] using this)⟩
              · have hxb : (el (rw_ xss s) q == 1) = false := by simpa using hx
                have HNX' : Hid (rowRun far (rw_ xss s) (i + 1) o0 = cur) := hid (by rw [HNX.out, if_neg hx])
                rw [← HNX'.out] at hON
                have HM := hid hON
                clear HNX hx hON HNX' HC1
                go_wp2_with fail
                go_roundg (a.length - (i + 1))
                case measure => omega
                case rel => exact ⟨i + 1, by omega, by omega, by go_num, (by rw [HC.out]; go_num), HBI.out, HM.out, HSI.out⟩
            · rw [if_neg hb] at hand
              have hfz : ((far : Int) == 0) = false := by simp; omega
              have hM := OI'.out
              have e1 : rowRun far (rw_ xss s) (i + 1) o0 = rowRun far (rw_ xss s) i o0 := by show exI _ _ _ _ = _; unfold exI; rw [if_neg hb]
              rw [← e1] at hM
              have HM := hid hM
              have HC : Hid (cnP far (i + 1) = cnP far i) := hid (by show cnP far i + _ = _; rw [if_neg hb]; rfl)
              clear hb hM e1 OI' HRR HSO hRL HE
              go_wp2_with fail
              go_roundg (a.length - (i + 1))
              case measure => omega
              case rel => exact ⟨i + 1, by omega, by omega, by go_num, (by rw [HC.out]), BI, HM.out, SI⟩
          · have : i = a.length := by omega
            subst this
            have hM := OI'.out
            rw [HE.out] at hM
            have HM := hid hM
            clear hM OI' HE HSO HRR hRL
            go_wp2_with fail
            go_roundg (xss.length - (s + 1))
            case measure => omega
            case rel => exact ⟨s + 1, by omega, by omega, by go_num, BI, HM.out, SI⟩
      · obtain ⟨hsub, hs1⟩ := HSO.out.dn (by omega)
        go_wp2_with fail
        refine (CL.out _).mono ?_
        rintro e w5 ⟨rfl, rfl⟩
        go_wp2_with fail
        go_loopg [14, 51] a.length (fun gg nx s' wr => ∃ i : Nat, i ≤ a.length ∧ a.length - i ≤ gg ∧ s' = .int .i64 i ∧ nx = .int .i64 (cnP far i : Nat) ∧ Aside (Below w.heap.size w wr) ∧ Aside (ON wr w3.heap.size w4.heap.size g c4 a.length (rowRun far (rw_ xss s) i o0)) ∧ Aside (w4.heap.size ≤ wr.heap.size))
        case atStart => exact ⟨0, Nat.zero_le _, by omega, rfl, rfl, HBW.out, HOW.out, SW.out⟩
        case round =>
          obtain ⟨i, hi, hgi, rfl, rfl, BI, OI', SI⟩ := hrel
          clear HOW HBW SW
          by_cases hli : i < a.length
          · have hli' : (i : Int) < (a.length : Int) := by omega
            have hand := HSO.out.ok.band i (by omega)
            by_cases hb : bt far i = 0
            · rw [if_pos hb] at hand
              have hcn : cnP far i < (rw_ xss s).length := by have := HSO.out.cnt i hli hb; have := hRL.out; omega
              have hif := HSO.out.ok.btin i hli hb
              have HC : Hid (cnP far (i + 1) = cnP far i + 1) := hid (by show cnP far i + _ = _; rw [if_pos hb])
              obtain ⟨b1, off1, rfl, hcx⟩ := (HRR.out.below BI.out).get hcn
              obtain ⟨cur, hcur⟩ : ∃ cur, cur = rowRun far (rw_ xss s) i o0 := ⟨_, rfl⟩
              have HNX : Hid (rowRun far (rw_ xss s) (i + 1) o0 = if el (rw_ xss s) (cnP far i) = 1 then (cur.set i (el cur (i + far))).set (i + far) (el cur i) else cur) := hid (by rw [hcur]; show exI _ _ _ _ = _; unfold exI; rw [if_pos hb])
              have hON : ON wr w3.heap.size w4.heap.size g c4 a.length cur := by rw [hcur]; exact OI'.out
              have HC1 := hid hcur
              have HBI := hid BI.out
              have HSI := hid SI.out
              have hcn16 : cnP far i ≤ 16 := by omega
              clear hb OI' hcur HRR HSO hRL HE BI SI
              generalize hq : cnP far i = q at *
              have HQ := hid hq
              clear hq
              by_cases hx : el (rw_ xss s) q = 1
              · rw [hx] at hcx
                have HNX' : Hid (rowRun far (rw_ xss s) (i + 1) o0 = (cur.set i (el cur (i + far))).set (i + far) (el cur i)) := hid (by rw [HNX.out, if_pos hx])
                clear HNX hx
                have hM := (hON.set i (el cur (i + far))).set (i + far) (el cur i)
                rw [← HNX'.out] at hM
                have HM := hid hM
                have HBK := hid (bset (bset HBI.out (p := ⟨g, i, none⟩) (Nat.le_trans hsz hON.ge.1) (.int .i64 (el cur (i + far)))) (p := ⟨g, i + far, none⟩) (Nat.le_trans hsz hON.ge.1) (.int .i64 (el cur i)))
                obtain ⟨e1, e2⟩ := hON.at_ hli
                obtain ⟨e3, e4⟩ := hON.at_ hif
                obtain ⟨p, hp⟩ : ∃ p, p = i + far := ⟨_, rfl⟩
                rw [← hp] at e3 e4 hif HM HBK
                have hip : (i : Int) + (far : Int) = (p : Int) := by omega
                have hpl : (p : Int) < (a.length : Int) := by omega
                clear hM hON HBI HNX' hp HC1
                generalize el cur i = y1 at *
                generalize el cur p = y2 at *
                go_wp2_with fail
                go_region
                go_wp2_with fail
                go_roundg (a.length - (i + 1))
                case measure => omega
                case rel => exact ⟨i + 1, by omega, by omega, by go_num, (by rw [HC.out]; go_num), ⟨HBK.out.os, HBK.out.tape, HBK.out.output, HBK.out.size, HBK.out.block⟩, HM.out, (by show _ ≤ _; have := HSI.out; simpa [World.setCell, World.drew] using this)⟩
              · have hxb : (el (rw_ xss s) q == 1) = false := by simpa using hx
                have HNX' : Hid (rowRun far (rw_ xss s) (i + 1) o0 = cur) := hid (by rw [HNX.out, if_neg hx])
                rw [← HNX'.out] at hON
                have HM := hid hON
                clear HNX hx hON HNX' HC1
                go_wp2_with fail
                go_roundg (a.length - (i + 1))
                case measure => omega
                case rel => exact ⟨i + 1, by omega, by omega, by go_num, (by rw [HC.out]; go_num), HBI.out, HM.out, HSI.out⟩
            · rw [if_neg hb] at hand
              have hfz : ((far : Int) == 0) = false := by simp; omega
              have hM := OI'.out
              have e1 : rowRun far (rw_ xss s) (i + 1) o0 = rowRun far (rw_ xss s) i o0 := by show exI _ _ _ _ = _; unfold exI; rw [if_neg hb]
              rw [← e1] at hM
              have HM := hid hM
              have HC : Hid (cnP far (i + 1) = cnP far i) := hid (by show cnP far i + _ = _; rw [if_neg hb]; rfl)
              clear hb hM e1 OI' HRR HSO hRL HE
              go_wp2_with fail
              go_roundg (a.length - (i + 1))
              case measure => omega
              case rel => exact ⟨i + 1, by omega, by omega, by go_num, (by rw [HC.out]), BI, HM.out, SI⟩
          · have : i = a.length := by omega
            subst this
            have hM := OI'.out
            rw [HE.out] at hM
            have HM := hid hM
            clear hM OI' HE HSO HRR hRL
            go_wp2_with fail
            go_roundg (xss.length - (s + 1))
            case measure => omega
            case rel => exact ⟨s + 1, by omega, by omega, by go_num, BI, HM.out, SI⟩
    · have : s = xss.length := by omega
      subst this
      clear HS hrow HR
      have HOW := hid OW.out
      generalize netN xss m a.length xss.length a = o1 at *
      go_wp2_with fail
      go_ret2
      refine ⟨_, rfl, ?_, BW.out⟩
      obtain ⟨h1, h2⟩ := HOW.out
      unfold OI
      exact Own.wide h2 hsz SW.out
theorem netB_row {n : Nat} {xss : List (List Int)} (h : netB n xss = true) : ∀ k, k < xss.length → (rw_ xss k).length = n / 2 := fun k hk => by
  simp only [netB, Bool.and_eq_true] at h
  have := List.all_eq_true.1 h.2.2 _ (rw_mem hk)
  simp only [swB, Bool.and_eq_true, decide_eq_true_iff] at this
  omega
theorem netB_len {n m : Nat} {xss : List (List Int)} (h : netB n xss = true) (hm : dep n = m) : xss.length + 1 = 2 * m := by
  simp only [netB, Bool.and_eq_true, decide_eq_true_iff] at h
  rw [hm] at h
  omega
theorem i_RunNetwork (w : World) (b : Int) (A : Option Addr) (c : Nat) (xss : List (List Int)) (D : Option Addr) (d : Nat) (a : List Int) (hl : rsz xss ≤ 1048576) (hR : RdR w A xss) (hla : a.length ≤ 1048576) (hA : RdI w D a) :
    Calls Try.prog 29 #[.int .i64 b, .slice A xss.length c, .slice D a.length d] w (RetIB w (m_RunNetwork b xss a)) := by
  have hn := rsz_len hl
  have c0 := i_IsVector w b D d a (by omega) hA
  have c1 := fun W (hW : Below w.heap.size w W) => i_IsNetwork W (a.length : Int) A c xss hl (hR.below hW)
  unfold m_RunNetwork
  cases h0 : vecB b a with
  | false => rw [h0] at c0; exact i_RNa w b A D xss.length c a.length d hn hla (hid c0)
  | true =>
    rw [h0] at c0
    cases h1 : netB a.length xss with
    | false => rw [h1] at c1; exact i_RNb w b A D xss.length c a.length d hn hla (hid c0) (hid c1)
    | true =>
      rw [h1] at c1
      have hlan : lanesB a.length = true := (Bool.and_eq_true_iff.1 h1).1
      have hor := lanesB_or hlan
      obtain ⟨m, hm, hm1, hm4, hp⟩ := dep_pow (n := a.length) (by omega)
      have cd := fun W => i_depth W (a.length : Int) hlan
      rw [hm] at cd
      have hxl := netB_len h1 hm
      show Calls _ _ _ _ (RetIB w (netN xss (dep a.length).toNat a.length xss.length a, true))
      rw [hm]
      exact i_RN w b A D c d xss a m hl hR hA (by omega) (by omega) hm1 hm4 (hid fun s hs => StepOk.of hm1 hm4 hp (by omega)) (hid (netB_row h1)) (hid c0) (hid c1) (hid cd)
end Go.Proofs.Ytolcmehndambmaa
