import Derived.Test.YthgfcoafngddgaaNrun2
set_option linter.unusedVariables false
set_option linter.unusedSimpArgs false
namespace Go.Proofs.Ythgfcoafngddgaa
open Go.RowKit

set_option maxRecDepth 100000 in
theorem s_l04Run (w : World) (A D : Option Addr) (c d : Nat) (xss : List (List Int)) (a : List Int) (m : Nat) (hl : rsz xss ≤ 1048576) (hR : RdR w A xss) (hA : RdI w D a) (hn2 : 2 ≤ a.length) (hn16 : a.length ≤ 16) (hm1 : 1 ≤ m) (hm4 : m ≤ 4)
    (HS : Hid (∀ s, s < xss.length → ∃ sh far, StepOk a.length m s sh far)) (hrow : Hid (∀ k, k < xss.length → (rw_ xss k).length = a.length / 2))
    (CD : Hid (∀ W, Calls Try.prog 167 #[.int .i64 a.length] W fun en w' => en = .returned (.int .i64 m) ∧ W = w')) :
    Calls Try.prog 87 #[.slice A xss.length c, .slice D a.length d] w (RetI w 2 (netN xss m a.length xss.length a)) := by
  have hxl := rsz_len hl
  have HR := hid hR
  have CC := hid (s_l00Own w D d a (by omega) hA)
  clear hl hR hA
  obtain ⟨m1, hm0⟩ : ∃ m1 : Nat, (m : Int) - 1 = (m1 : Int) := ⟨m - 1, by omega⟩
  have hm3 : m1 ≤ 3 := by omega
  go_enter Try.func87, Try.ntmps87
  go_wp2_with fail
  refine (CD.out _).mono ?_
  rintro e w5 ⟨rfl, rfl⟩
  go_wp2_with fail
  refine CC.out.mono ?_
  rintro e w4 ⟨v4, rfl, ho4, hb4⟩
  obtain ⟨g, c4, rfl, hON⟩ := ON.of ho4 (by omega)
  have HB5 := hid hb4
  have HON := hid hON
  have hcap := hON.cap
  have hgge := hON.ge
  clear CC CD hb4 ho4 hON
  go_wp2_with fail
  go_loopg [7] xss.length (fun gg s wr => ∃ i : Nat, i ≤ xss.length ∧ xss.length - i ≤ gg ∧ s = .int .i64 i ∧ Aside (Below w.heap.size w wr) ∧ Aside (ON wr w.heap.size w4.heap.size g c4 a.length (netN xss m a.length i a)) ∧ Aside (w4.heap.size ≤ wr.heap.size))
  case atStart => exact ⟨0, Nat.zero_le _, by omega, rfl, HB5.out, HON.out, Nat.le_refl _⟩
  case round =>
    obtain ⟨s, hs, hg, rfl, BW, OW, SW⟩ := hrel
    obtain ⟨ws, rfl⟩ : ∃ ws : World, ws = wr := ⟨_, rfl⟩
    clear HB5 HON
    by_cases hlt : s < xss.length
    · obtain ⟨sh, far, SO⟩ := HS.out s hlt
      have hwr := SO.wr
      have hsh3 := SO.sh3
      have hRL : Hid ((rw_ xss s).length = a.length / 2) := hid (hrow.out s hlt)
      obtain ⟨f, hf, hr⟩ := HR.out
      obtain ⟨A', c', e, hcc, hrr⟩ := hr s hlt
      have HRR := hid hrr
      have HF := hid hf
      have HSO := hid SO
      have HBW := hid BW.out
      have HE : Hid (rowRun far (rw_ xss s) a.length (netN xss m a.length s a) = netN xss m a.length (s + 1) a) := hid (by rw [← SO.far_eq]; rfl)
      have HOW := hid OW.out
      have hrl8 : (rw_ xss s).length ≤ 8 := by have := hRL.out; omega
      have hf8 := SO.ok.le
      have hf1 := SO.ok.pos
      have HEE := hid e
      clear hrr hf hr e SO BW OW HR hrow HS
      generalize netN xss m a.length s a = o0 at HOW HE
      by_cases hsm : s < m
      · have hsub := HSO.out.up hsm
        rw [hm0] at hsub
        go_wp2_with fail
        go_loopg [9, 10] a.length (fun gg nx s' wr => ∃ i : Nat, i ≤ a.length ∧ a.length - i ≤ gg ∧ s' = .int .i64 i ∧ nx = .int .i64 (cnP far i : Nat) ∧ Aside (Below w.heap.size w wr) ∧ Aside (ON wr w.heap.size w4.heap.size g c4 a.length (rowRun far (rw_ xss s) i o0)) ∧ Aside (w4.heap.size ≤ wr.heap.size))
        case atStart => exact ⟨0, Nat.zero_le _, by omega, rfl, rfl, HBW.out, HOW.out, SW.out⟩
        case round =>
          obtain ⟨i, hi, hgi, rfl, rfl, BI, OI', SI⟩ := hrel
          clear HOW HBW SW
          by_cases hli : i < a.length
          · have hli' : (i : Int) < (a.length : Int) := by omega
            have hand := HSO.out.ok.band i (by omega)
            by_cases hb : bt far i = 0
            · rw [if_pos hb] at hand
              have hcn : cnP far i < (rw_ xss s).length := by have := HSO.out.cnt i hli hb; have := hRL.out; omega
              have hif := HSO.out.ok.btin i hli hb
              have HC : Hid (cnP far (i + 1) = cnP far i + 1) := hid (by show cnP far i + _ = _; rw [if_pos hb])
              obtain ⟨bo, off, hAA, hc⟩ := (HF.out.below BI.out) s hlt
              cases hAA
              rw [HEE.out] at hc
              obtain ⟨b1, off1, rfl, hcx⟩ := (HRR.out.below BI.out).get hcn
              obtain ⟨cur, hcur⟩ : ∃ cur, cur = rowRun far (rw_ xss s) i o0 := ⟨_, rfl⟩
              have HNX : Hid (rowRun far (rw_ xss s) (i + 1) o0 = if el (rw_ xss s) (cnP far i) = 1 then (cur.set i (el cur (i + far))).set (i + far) (el cur i) else cur) := hid (by rw [hcur]; show exI _ _ _ _ = _; unfold exI; rw [if_pos hb])
              have hON : ON wr w.heap.size w4.heap.size g c4 a.length cur := by rw [hcur]; exact OI'.out
              have HC1 := hid hcur
              have HBI := hid BI.out
              have HSI := hid SI.out
              have hcn16 : cnP far i ≤ 16 := by omega
              clear hb OI' hcur HRR HF HEE HSO hRL HE BI SI
              generalize hq : cnP far i = q at *
              have HQ := hid hq
              clear hq
              by_cases hx : el (rw_ xss s) q = 1
              · rw [hx] at hcx
                have HNX' : Hid (rowRun far (rw_ xss s) (i + 1) o0 = (cur.set i (el cur (i + far))).set (i + far) (el cur i)) := hid (by rw [HNX.out, if_pos hx])
                clear HNX hx
                have hON1 := hON.set i (el cur (i + far))
                have hM := hON1.set (i + far) (el cur i)
                rw [← HNX'.out] at hM
                have HM := hid hM
                have HBK := hid (bset (bset HBI.out (p := ⟨g, i, none⟩) hON.ge.1 (.int .i64 (el cur (i + far)))) (p := ⟨g, i + far, none⟩) hON.ge.1 (.int .i64 (el cur i)))
                obtain ⟨e1, e2⟩ := hON.at_ hli
                obtain ⟨e3, e4⟩ := hON.at_ hif
                obtain ⟨e5, e6⟩ := hON1.at_ hif
                obtain ⟨p, hp⟩ : ∃ p, p = i + far := ⟨_, rfl⟩
                rw [← hp] at e3 e4 e5 e6 hif HM HBK
                have hip : (i : Int) + (far : Int) = (p : Int) := by omega
                have hpl : (p : Int) < (a.length : Int) := by omega
                clear hM hON hON1 HBI HNX' hp HC1
                generalize el (cur.set i (el cur (i + far))) p = y3 at *
                generalize el cur i = y1 at *
                generalize el cur p = y2 at *
                go_wp2_with fail
                go_roundg (a.length - (i + 1))
                case measure => omega
                case rel => exact ⟨i + 1, by omega, by omega, by go_num, (by rw [HC.out]; go_num), HBK.out, HM.out, (by show _ ≤ _; have := HSI.out; simpa [World.setCell] using this)⟩
              · have hxb : (el (rw_ xss s) q == 1) = false := by simpa using hx
                have HNX' : Hid (rowRun far (rw_ xss s) (i + 1) o0 = cur) := hid (by rw [HNX.out, if_neg hx])
                rw [← HNX'.out] at hON
                have HM := hid hON
                clear HNX hx hON HNX' HC1
                go_wp2_with fail
                go_roundg (a.length - (i + 1))
                case measure => omega
                case rel => exact ⟨i + 1, by omega, by omega, by go_num, (by rw [HC.out]; go_num), HBI.out, HM.out, HSI.out⟩
            · rw [if_neg hb] at hand
              have hfz : (0 : Int) < (far : Int) := by omega
              have hM := OI'.out
              have e1 : rowRun far (rw_ xss s) (i + 1) o0 = rowRun far (rw_ xss s) i o0 := by show exI _ _ _ _ = _; unfold exI; rw [if_neg hb]
              rw [← e1] at hM
              have HM := hid hM
              have HC : Hid (cnP far (i + 1) = cnP far i) := hid (by show cnP far i + _ = _; rw [if_neg hb]; rfl)
              clear hb hM e1 OI' HRR HF HEE HSO hRL HE
              go_wp2_with fail
              go_roundg (a.length - (i + 1))
              case measure => omega
              case rel => exact ⟨i + 1, by omega, by omega, by go_num, (by rw [HC.out]), BI, HM.out, SI⟩
          · have : i = a.length := by omega
            subst this
            have hM := OI'.out
            rw [HE.out] at hM
            have HM := hid hM
            clear hM OI' HE HSO HRR HF HEE hRL
            go_wp2_with fail
            go_roundg (xss.length - (s + 1))
            case measure => omega
            case rel => exact ⟨s + 1, by omega, by omega, by go_num, BI, HM.out, SI⟩
      · obtain ⟨hsub', hs1⟩ := HSO.out.dn (by omega)
        obtain ⟨q0, hq0, hq1⟩ : ∃ q0 : Nat, (s : Int) - (m : Int) = (q0 : Int) ∧ (q0 : Int) + 1 = (sh : Int) := ⟨s - m, by omega, by omega⟩
        clear hsub'
        go_wp2_with fail
        go_loopg [9, 10] a.length (fun gg nx s' wr => ∃ i : Nat, i ≤ a.length ∧ a.length - i ≤ gg ∧ s' = .int .i64 i ∧ nx = .int .i64 (cnP far i : Nat) ∧ Aside (Below w.heap.size w wr) ∧ Aside (ON wr w.heap.size w4.heap.size g c4 a.length (rowRun far (rw_ xss s) i o0)) ∧ Aside (w4.heap.size ≤ wr.heap.size))
        case atStart => exact ⟨0, Nat.zero_le _, by omega, rfl, rfl, HBW.out, HOW.out, SW.out⟩
        case round =>
          obtain ⟨i, hi, hgi, rfl, rfl, BI, OI', SI⟩ := hrel
          clear HOW HBW SW
          by_cases hli : i < a.length
          · have hli' : (i : Int) < (a.length : Int) := by omega
            have hand := HSO.out.ok.band i (by omega)
            by_cases hb : bt far i = 0
            · rw [if_pos hb] at hand
              have hcn : cnP far i < (rw_ xss s).length := by have := HSO.out.cnt i hli hb; have := hRL.out; omega
              have hif := HSO.out.ok.btin i hli hb
              have HC : Hid (cnP far (i + 1) = cnP far i + 1) := hid (by show cnP far i + _ = _; rw [if_pos hb])
              obtain ⟨bo, off, hAA, hc⟩ := (HF.out.below BI.out) s hlt
              cases hAA
              rw [HEE.out] at hc
              obtain ⟨b1, off1, rfl, hcx⟩ := (HRR.out.below BI.out).get hcn
              obtain ⟨cur, hcur⟩ : ∃ cur, cur = rowRun far (rw_ xss s) i o0 := ⟨_, rfl⟩
              have HNX : Hid (rowRun far (rw_ xss s) (i + 1) o0 = if el (rw_ xss s) (cnP far i) = 1 then (cur.set i (el cur (i + far))).set (i + far) (el cur i) else cur) := hid (by rw [hcur]; show exI _ _ _ _ = _; unfold exI; rw [if_pos hb])
              have hON : ON wr w.heap.size w4.heap.size g c4 a.length cur := by rw [hcur]; exact OI'.out
              have HC1 := hid hcur
              have HBI := hid BI.out
              have HSI := hid SI.out
              have hcn16 : cnP far i ≤ 16 := by omega
              clear hb OI' hcur HRR HF HEE HSO hRL HE BI SI
              generalize hq : cnP far i = q at *
              have HQ := hid hq
              clear hq
              by_cases hx : el (rw_ xss s) q = 1
              · rw [hx] at hcx
                have HNX' : Hid (rowRun far (rw_ xss s) (i + 1) o0 = (cur.set i (el cur (i + far))).set (i + far) (el cur i)) := hid (by rw [HNX.out, if_pos hx])
                clear HNX hx
                have hON1 := hON.set i (el cur (i + far))
                have hM := hON1.set (i + far) (el cur i)
                rw [← HNX'.out] at hM
                have HM := hid hM
                have HBK := hid (bset (bset HBI.out (p := ⟨g, i, none⟩) hON.ge.1 (.int .i64 (el cur (i + far)))) (p := ⟨g, i + far, none⟩) hON.ge.1 (.int .i64 (el cur i)))
                obtain ⟨e1, e2⟩ := hON.at_ hli
                obtain ⟨e3, e4⟩ := hON.at_ hif
                obtain ⟨e5, e6⟩ := hON1.at_ hif
                obtain ⟨p, hp⟩ : ∃ p, p = i + far := ⟨_, rfl⟩
                rw [← hp] at e3 e4 e5 e6 hif HM HBK
                have hip : (i : Int) + (far : Int) = (p : Int) := by omega
                have hpl : (p : Int) < (a.length : Int) := by omega
                clear hM hON hON1 HBI HNX' hp HC1
                generalize el (cur.set i (el cur (i + far))) p = y3 at *
                generalize el cur i = y1 at *
                generalize el cur p = y2 at *
                go_wp2_with fail
                go_roundg (a.length - (i + 1))
                case measure => omega
                case rel => exact ⟨i + 1, by omega, by omega, by go_num, (by rw [HC.out]; go_num), HBK.out, HM.out, (by show _ ≤ _; have := HSI.out; simpa [World.setCell] using this)⟩
              · have hxb : (el (rw_ xss s) q == 1) = false := by simpa using hx
                have HNX' : Hid (rowRun far (rw_ xss s) (i + 1) o0 = cur) := hid (by rw [HNX.out, if_neg hx])
                rw [← HNX'.out] at hON
                have HM := hid hON
                clear HNX hx hON HNX' HC1
                go_wp2_with fail
                go_roundg (a.length - (i + 1))
                case measure => omega
                case rel => exact ⟨i + 1, by omega, by omega, by go_num, (by rw [HC.out]; go_num), HBI.out, HM.out, HSI.out⟩
            · rw [if_neg hb] at hand
              have hfz : (0 : Int) < (far : Int) := by omega
              have hM := OI'.out
              have e1 : rowRun far (rw_ xss s) (i + 1) o0 = rowRun far (rw_ xss s) i o0 := by show exI _ _ _ _ = _; unfold exI; rw [if_neg hb]
              rw [← e1] at hM
              have HM := hid hM
              have HC : Hid (cnP far (i + 1) = cnP far i) := hid (by show cnP far i + _ = _; rw [if_neg hb]; rfl)
              clear hb hM e1 OI' HRR HF HEE HSO hRL HE
              go_wp2_with fail
              go_roundg (a.length - (i + 1))
              case measure => omega
              case rel => exact ⟨i + 1, by omega, by omega, by go_num, (by rw [HC.out]), BI, HM.out, SI⟩
          · have : i = a.length := by omega
            subst this
            have hM := OI'.out
            rw [HE.out] at hM
            have HM := hid hM
            clear hM OI' HE HSO HRR HF HEE hRL
            go_wp2_with fail
            go_roundg (xss.length - (s + 1))
            case measure => omega
            case rel => exact ⟨s + 1, by omega, by omega, by go_num, BI, HM.out, SI⟩
    · have : s = xss.length := by omega
      subst this
      clear HS hrow HR
      have HOW := hid OW.out
      generalize netN xss m a.length xss.length a = o1 at *
      go_wp2_with fail
      go_ret
      refine ⟨_, rfl, ?_, BW.out⟩
      obtain ⟨h1, h2⟩ := HOW.out
      exact Own.wide h2 (Nat.le_refl _) SW.out
theorem s_RNa (w : World) (b : Int) (A D : Option Addr) (n c m e : Nat) (hn : n ≤ 1048576) (hm : m ≤ 1048576) (C0 : Hid (Calls Try.prog 85 #[.int .i64 b, .slice D m e] w fun en w' => en = .returned (.bool false) ∧ Below w.heap.size w w')) :
    Calls Try.prog 28 #[.int .i64 b, .slice A n c, .slice D m e] w (RetIB w ([], false)) := by
  go_enter Try.func28, Try.ntmps28
  go_wp2_with fail
  refine C0.out.mono ?_
  rintro e w1 ⟨rfl, hb1⟩
  go_wp2_with fail
  go_ret2
  exact ⟨_, rfl, Own.nil _ _ _ _ _, hb1⟩
theorem s_RNb (w : World) (b : Int) (A D : Option Addr) (n c m e : Nat) (hn : n ≤ 1048576) (hm : m ≤ 1048576) (C0 : Hid (Calls Try.prog 85 #[.int .i64 b, .slice D m e] w fun en w' => en = .returned (.bool true) ∧ Below w.heap.size w w'))
    (C1 : Hid (∀ W, Below w.heap.size w W → Calls Try.prog 86 #[.int .i64 m, .slice A n c] W fun en w' => en = .returned (.bool false) ∧ Below W.heap.size W w')) :
    Calls Try.prog 28 #[.int .i64 b, .slice A n c, .slice D m e] w (RetIB w ([], false)) := by
  go_enter Try.func28, Try.ntmps28
  go_wp2_with fail
  refine C0.out.mono ?_
  rintro e w1 ⟨rfl, hb1⟩
  go_wp2_with fail
  refine (C1.out _ hb1).mono ?_
  rintro e w3 ⟨rfl, hb3⟩
  go_wp2_with fail
  go_ret2
  exact ⟨_, rfl, Own.nil _ _ _ _ _, bthen hb1 hb3⟩
theorem s_RNc (w : World) (b : Int) (A D : Option Addr) (n c m e : Nat) (hn : n ≤ 1048576) (hm : m ≤ 1048576) (r : List Int) (C0 : Hid (Calls Try.prog 85 #[.int .i64 b, .slice D m e] w fun en w' => en = .returned (.bool true) ∧ Below w.heap.size w w'))
    (C1 : Hid (∀ W, Below w.heap.size w W → Calls Try.prog 86 #[.int .i64 m, .slice A n c] W fun en w' => en = .returned (.bool true) ∧ Below W.heap.size W w'))
    (C2 : Hid (∀ W, Below w.heap.size w W → Calls Try.prog 87 #[.slice A n c, .slice D m e] W (RetI W 2 r))) :
    Calls Try.prog 28 #[.int .i64 b, .slice A n c, .slice D m e] w (RetIB w (r, true)) := by
  go_enter Try.func28, Try.ntmps28
  go_wp2_with fail
  refine C0.out.mono ?_
  rintro e w1 ⟨rfl, hb1⟩
  go_wp2_with fail
  refine (C1.out _ hb1).mono ?_
  rintro e w3 ⟨rfl, hb3⟩
  have hb3' := bthen hb1 hb3
  go_wp2_with fail
  refine (C2.out _ hb3').mono ?_
  rintro e w4 ⟨v4, rfl, ho4, hb4⟩
  obtain ⟨A2, c2, rfl, _, _, _⟩ := Own.int ho4
  have hs3 := hb3'.size
  have HO := hid ho4
  have HB := hid (bthen hb3' hb4)
  clear C0 C1 C2 hb1 hb3 hb4 ho4 hb3'
  go_wp2_with fail
  go_ret2
  exact ⟨_, rfl, Own.wide HO.out hs3 (Nat.le_refl _), HB.out⟩
theorem s_RunNetwork (w : World) (b : Int) (A : Option Addr) (c : Nat) (xss : List (List Int)) (D : Option Addr) (d : Nat) (a : List Int) (hl : rsz xss ≤ 1048576) (hR : RdR w A xss) (hla : a.length ≤ 1048576) (hA : RdI w D a) :
    Calls Try.prog 28 #[.int .i64 b, .slice A xss.length c, .slice D a.length d] w (RetIB w (m_RunNetwork b xss a)) := by
  have hn := rsz_len hl
  have c0 := s_l02Is w b D d a (by omega) hA
  have c1 := fun W (hW : Below w.heap.size w W) => s_l04Network W (a.length : Int) A c xss hl (hR.below hW)
  unfold m_RunNetwork
  cases h0 : vecB b a with
  | false => rw [h0] at c0; exact s_RNa w b A D xss.length c a.length d hn hla (hid c0)
  | true =>
    rw [h0] at c0
    cases h1 : netB a.length xss with
    | false => rw [h1] at c1; exact s_RNb w b A D xss.length c a.length d hn hla (hid c0) (hid c1)
    | true =>
      rw [h1] at c1
      have hlan : lanesB a.length = true := (Bool.and_eq_true_iff.1 h1).1
      have hor := lanesB_or hlan
      obtain ⟨m, hm, hm1, hm4, hp⟩ := dep_pow (n := a.length) (by omega)
      have cd := fun W => s_l04Power W (a.length : Int) hlan
      rw [hm] at cd
      have hxl := netB_len h1 hm
      show Calls _ _ _ _ (RetIB w (netN xss (dep a.length).toNat a.length xss.length a, true))
      rw [hm]
      exact s_RNc w b A D xss.length c a.length d hn hla _ (hid c0) (hid c1) (hid fun W hW => s_l04Run W A D c d xss a m hl (hR.below hW) (hA.below hW) (by omega) (by omega) hm1 hm4 (hid fun s hs => StepOk.of hm1 hm4 hp (by omega)) (hid (netB_row h1)) (hid cd))
end Go.Proofs.Ythgfcoafngddgaa
