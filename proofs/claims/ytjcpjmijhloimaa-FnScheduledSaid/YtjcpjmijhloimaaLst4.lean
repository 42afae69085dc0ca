import Derived.Test.YtjcpjmijhloimaaLst3
import Derived.Test.YtjcpjmijhloimaaHts6
set_option linter.unusedVariables false
set_option linter.unusedSimpArgs false
namespace Go.Proofs.Ytjcpjmijhloimaa
open Go.RowKit

theorem i_ListSchedule (w : World) (A : Option Addr) (c : Nat) (ts : List TaskV) (hl : tsz ts ≤ 1048576) (hT : RdT w A ts) :
    Calls Try.prog 45 #[.slice A ts.length c] w (RetIB w (m_ListSchedule ts)) := by
  have c0 := i_ValidTasks w A c ts hl hT
  have C1 : Hid (tasksB ts = true → ∀ W, Below w.heap.size w W → _) := hid (fun h W (hW : Below w.heap.size w W) => i_listSchedule W A c ts (TOk.of h) (hT.below hW))
  have HE : Hid (m_ListSchedule ts = if tasksB ts then (lstS ts, true) else ([], false)) := hid rfl
  clear hT hl
  generalize m_ListSchedule ts = r at HE ⊢
  generalize lstS ts = H at *
  cases h0 : tasksB ts with
  | false =>
    rw [h0] at c0 HE
    have C0 := hid c0
    clear c0 h0 C1
    go_enter Try.func45, Try.ntmps45
    go_wp2_with fail
    refine C0.out.mono ?_
    rintro e w1 ⟨rfl, hb1⟩
    go_wp2_with fail
    go_ret2
    exact ⟨_, by rw [HE.out]; rfl, by rw [HE.out]; exact Own.nil _ _ _ _ _, hb1⟩
  | true =>
    rw [h0] at c0 HE
    have C0 := hid c0
    have C3 := hid (C1.out h0)
    clear c0 h0 C1
    go_enter Try.func45, Try.ntmps45
    go_wp2_with fail
    refine C0.out.mono ?_
    rintro e w1 ⟨rfl, hb1⟩
    go_wp2_with fail
    refine (C3.out _ hb1).mono ?_
    rintro e w2 ⟨v, rfl, ho, hb2⟩
    obtain ⟨A1, c1, rfl, _, _, _⟩ := Own.int ho
    go_wp2_with fail
    go_ret2
    exact ⟨_, by rw [HE.out]; rfl, by rw [HE.out]; exact Own.wide ho hb1.size (Nat.le_refl _), bthen hb1 hb2⟩
theorem un_rep (n : Nat) : un (List.replicate n (-1)) = n := by simp [un]
theorem s_l06DoneB (w : World) (A A' : Option Addr) (c c' : Nat) (xs : List Int) (ts : List TaskV) (now : Int) (i : Nat) (hl : xs.length = ts.length) (hi : i < ts.length) (hO : TOk ts) (hS : Sml xs) (hR : RdI w A xs) (hT : RdT w A' ts) :
    Calls Try.prog 220 #[.slice A' ts.length c', .slice A xs.length c, .int .i64 (i : Nat), .int .i64 now] w fun e w' => e = .returned (.bool (doneN ts xs i now)) ∧ Below w.heap.size w w' :=
  (s_l06Done w A A' c c' xs ts now i hl hi hO hS hR hT).mono fun e w' h => ⟨h.1, by obtain ⟨n, rfl⟩ := h.2; exact bdrewN (Below.refl _ _) n⟩
set_option maxRecDepth 100000 in
set_option maxHeartbeats 2000000 in
theorem s_ListSchedule1 (w : World) (A : Option Addr) (c : Nat) (ts : List TaskV) (hO : TOk ts) (hT : RdT w A ts)
    (C0 : Hid (Calls Try.prog 177 #[.slice A ts.length c] w fun e w' => e = .returned (.bool true) ∧ Below w.heap.size w w')) :
    Calls Try.prog 178 #[.slice A ts.length c] w fun e w' => ∃ v, e = .returned (.tuple #[v, .bool true]) ∧ OI w' w.heap.size w'.heap.size v (lstS ts) ∧ Below w.heap.size w w' := by
  have hfew := hO.few
  have HO := hid hO
  have HT := hid hT
  obtain ⟨hT0, hT1, hT2⟩ := lstT_spec hO
  have HT0 := hid hT0
  have HT2 := hid hT2
  have HLT : Hid (lstS ts = lstN ts (lstT ts)) := hid rfl
  have HLL := hid (lstN_length ts)
  have HLU := hid (lst_upto ts)
  have HL0 : Hid (lstN ts 0 = List.replicate ts.length (-1)) := hid rfl
  have HLS : Hid (∀ t, lstN ts (t + 1) = tmN ts t (lstN ts t) 3) := hid fun _ => rfl
  have HHL := hid (hts_length ts)
  clear hT hO hT0 hT2
  generalize lstT ts = T at *
  generalize lstS ts = S at *
  go_enter Try.func178, Try.ntmps178
  go_wp2_with fail
  refine C0.out.mono ?_
  rintro e w1 ⟨rfl, hb1⟩
  have C1 := hid (s_l06Heights w1 A c ts HO.out (HT.out.below hb1))
  clear C0
  go_wp2_with fail
  refine C1.out.mono ?_
  rintro e w2 ⟨v2, rfl, ho2, hb2⟩
  obtain ⟨A2, c2, rfl, _, _, _⟩ := Own.int ho2
  have HB1 := hid hb1
  have HB2 := hid hb2
  have HO2 := hid ho2
  have hz1 := hb1.size
  have hz2 := hb2.size
  clear hb1 hb2 ho2 C1
  have hhl := hts_length ts
  rw [hhl]
  clear hhl
  go_wp2
  go_loopg [5, 6] ts.length (fun gg v s wr => ∃ k : Nat, k ≤ ts.length ∧ ts.length - k ≤ gg ∧ s = .int .i64 k ∧ Aside (Below w2.heap.size w2 wr) ∧ Aside (Own wr w2.heap.size wr.heap.size 2 1 v k (ints (List.replicate k (-1)))))
  case atStart =>
    refine ⟨0, Nat.zero_le _, by omega, rfl, ?_, ?_⟩
    · show Below _ _ _; exact ballocw w2 _
    · have := Own.of (World.ownsRow_lit (base := w2.heap.size) (e := 2) (size := 1) w2 #[] 0 (Nat.le_refl _) (by simp [maxLen]) rfl)
      simpa [Aside, ints] using this
  case round =>
    obtain ⟨k, hk, hg, rfl, BW, OW⟩ := hrel
    obtain ⟨wo, rfl⟩ : ∃ wo : World, wo = wr := ⟨_, rfl⟩
    by_cases hlk : k < ts.length
    · have hsz := BW.out.size
      have HP : Hid (ints (List.replicate (k + 1) (-1)) = ints (List.replicate k (-1)) ++ [.int .i64 (-1)]) := hid (by rw [List.replicate_succ', ints_append]; rfl)
      clear HT0 HT2 HLT HLL HLU HL0 HLS HHL HO HT HO2 HB1 HB2
      go_wp2_with ((at_builtin; refine wp_append1 w2.heap.size rfl _ _ 25 2 (.int .i64 0) 8 rfl Try.underlying25 infoInt rfl u5 k _ (.int .i64 (-1)) rfl rfl rfl OW.out hsz (by omega) (by omega) ?_; intro v1 w3 hown1 hbel1))
      go_roundg (ts.length - (k + 1))
      case measure => omega
      case rel =>
        refine ⟨k + 1, by omega, by omega, by go_num, ?_, ?_⟩
        · show Below _ _ _; exact BW.out.trans hbel1
        · show Own _ _ _ _ _ _ _ _; rw [HP.out]; exact hown1
    · obtain rfl : k = ts.length := by omega
      have hrl : (List.replicate ts.length (-1 : Int)).length = ts.length := List.length_replicate
      obtain ⟨A1, c1, rfl, _, _, _⟩ := Own.int (xs := List.replicate ts.length (-1)) (by unfold OwnI; rw [hrl]; exact OW.out)
      rw [hrl] at OW ⊢
      have hz3 := BW.out.size
      have HO1 : Hid (OwnI wo w2.heap.size wo.heap.size 2 (.slice A1 ts.length c1) (lstN ts 0)) := hid (by rw [HL0.out]; unfold OwnI; rw [hrl]; exact OW.out)
      have HX : Hid (∀ W, Chg w2.heap.size wo.heap.size wo W → Below w.heap.size w W) := hid fun W h => bthen (bthen (bthen HB1.out HB2.out) BW.out) (Below.refl _ _) |>.trans (h.below (by omega) (by omega))
      have HY : Hid (∀ W, Chg w2.heap.size wo.heap.size wo W → RdI W A2 (hts ts)) := hid fun W h => by
        have := OwnI.rd ((HO2.out.eqv (Eqv.of BW.out (Nat.le_refl _))).eqv (h.eqv (a := w1.heap.size) (b := w2.heap.size) (.inl (Nat.le_refl _)) (by omega)))
        exact this
      have HU0 : Hid (un (lstN ts 0) = ts.length) := hid (by rw [HL0.out]; exact un_rep _)
      clear HL0 HO2 OW BW hrl
      go_wp2
      go_loopg [7, 8] T (fun gg l s wr => ∃ t : Nat, t ≤ T ∧ T - t ≤ gg ∧ s = .int .i64 t ∧ l = .int .i64 (un (lstN ts t) : Nat) ∧ Aside (Chg w2.heap.size wo.heap.size wo wr) ∧ Aside (OwnI wr w2.heap.size wo.heap.size 2 (.slice A1 ts.length c1) (lstN ts t)))
      case atStart => exact ⟨0, Nat.zero_le _, by omega, rfl, (by rw [HU0.out]), Chg.refl _ _ _, HO1.out⟩
      case round =>
        obtain ⟨t, ht, hg, rfl, rfl, BW, OW⟩ := hrel
        obtain ⟨wq, rfl⟩ : ∃ wq : World, wq = wr := ⟨_, rfl⟩
        have hlt := HLL.out t
        by_cases hu : un (lstN ts t) = 0
        · have hu0 : ¬ (0 : Int) < ((un (lstN ts t) : Nat) : Int) := by omega
          have htT : t = T := by
            by_cases e : t < T
            · exact absurd hu (HT2.out t e)
            · omega
          have HR : Hid (∃ v, Ending.returned (.tuple #[.slice A1 ts.length c1, .bool true]) = Ending.returned (.tuple #[v, .bool true]) ∧ OI wq w.heap.size wq.heap.size v S ∧ Below w.heap.size w wq) := hid (by
            have hws := BW.out.size
            have o := OW.out
            rw [htT, ← HLT.out] at o
            exact ⟨_, rfl, Own.wide o (by omega) (by omega), HX.out _ BW.out⟩)
          clear hu OW BW HO1 HX HY HLS HLL HLU HT HO HT0 HT2 HLT HHL HU0
          generalize un (lstN ts t) = q at *
          go_wp2
          go_ret2
          exact HR.out
        · have hu0 : 0 < un (lstN ts t) := by omega
          have htT : t < T := by
            by_cases e : t = T
            · rw [e] at hu; exact absurd HT0.out hu
            · omega
          have ht48 : t ≤ 48 := by omega
          have HS := hid (HLS.out t)
          have HU := hid (upto_wide (HLU.out t) (b' := (t : Int) + 1) (by omega))
          have HZ : Hid (tmN ts t (lstN ts t) 0 = lstN ts t) := hid rfl
          have HML : Hid (∀ p, (tmN ts t (lstN ts t) p).length = ts.length) := hid fun p => (tmN_length ts t (lstN ts t) p).trans hlt
          have HMU : Hid (∀ p, Upto (tmN ts t (lstN ts t) p) ((t : Int) + 1)) := hid fun p => tm_upto hlt (by omega) HU.out p
          have HMS : Hid (∀ p : Nat, tmN ts t (lstN ts t) (p + 1) = prtN ts t (tmN ts t (lstN ts t) p) p) := hid fun p => rfl
          clear hu HO1 HLS HLL HLU HT0 HT2 HLT HU hlt HU0
          generalize tmN ts t (lstN ts t) = M at *
          generalize lstN ts t = X0 at *
          go_wp2
          go_loopg [7, 9] 3 (fun gg l s wr => ∃ p : Nat, p ≤ 3 ∧ 3 - p ≤ gg ∧ s = .int .i64 p ∧ l = .int .i64 (un (M p) : Nat) ∧ Aside (Chg w2.heap.size wo.heap.size wo wr) ∧ Aside (OwnI wr w2.heap.size wo.heap.size 2 (.slice A1 ts.length c1) (M p)))
          case atStart => exact ⟨0, Nat.zero_le _, by omega, rfl, (by rw [HZ.out]), BW, by unfold Aside; rw [HZ.out]; exact OW.out⟩
          case round =>
            obtain ⟨p, hp, hgp, rfl, rfl, BP, OP⟩ := hrel
            clear BW OW HZ
            obtain ⟨wp, rfl⟩ : ∃ wp : World, wp = wr := ⟨_, rfl⟩
            by_cases hp3 : p < 3
            · have hml := HML.out p
              have HMUp := hid (HMU.out p)
              have HMSp := hid (HMS.out p)
              clear HML HMU HMS HS hu0
              generalize hX : M p = X at *
              have HB0 : Hid (bstN ts X t p 0 = -1) := hid rfl
              have HBS : Hid (∀ i, bstN ts X t p (i + 1) = if (tel ts i).port = p ∧ rdyB ts X i t = true ∧ betB ts (bstN ts X t p i) i = true then (i : Int) else bstN ts X t p i) := hid fun _ => rfl
              have HBR := hid (bst_range ts X t p)
              have hp3' : (p : Int) < 3 := by omega
              have HXL := hid hml
              clear hml
              generalize hun : un X = uX at *
              go_wp2
              go_loopg [10, 11] ts.length (fun gg b s wr => ∃ i : Nat, i ≤ ts.length ∧ ts.length - i ≤ gg ∧ s = .int .i64 i ∧ b = .int .i64 (bstN ts X t p i) ∧ Aside (Chg w2.heap.size wo.heap.size wo wr) ∧ Aside (OwnI wr w2.heap.size wo.heap.size 2 (.slice A1 ts.length c1) X))
              case atStart => exact ⟨0, Nat.zero_le _, by omega, rfl, (by rw [HB0.out]), BP, OP⟩
              case round =>
                obtain ⟨i, hi, hgi, rfl, rfl, BI, OI⟩ := hrel
                clear BP OP HB0
                by_cases hlti : i < ts.length
                · have hlt' : (i : Int) < (ts.length : Int) := by omega
                  have hxl : X.length ≤ 8 := by have := HXL.out; omega
                  have hix : i < X.length := by have := HXL.out; omega
                  have BX := HX.out _ BI.out
                  have hTr := HT.out.below BX
                  obtain ⟨bt, offt, An, cn, rfl, p0, p1, p2, _, hrn⟩ := hTr.get hlti
                  obtain ⟨bx, rfl, _, _, hcx, _, _⟩ := OwnI.at OI.out hix
                  have HDN := hid (fun W (hW : Below wr.heap.size wr W) => s_l06DoneB W (some ⟨bx, 0, none⟩) (some ⟨bt, offt, none⟩) c1 c X ts t i HXL.out hlti HO.out (upto_sml HMUp.out (by omega)) ((OwnI.rd OI.out).below hW) (hTr.below hW))
                  rw [HXL.out] at HDN
                  have hws := BI.out.size
                  have HBI : Hid (∀ W, Below wr.heap.size wr W → Chg w2.heap.size wo.heap.size wo W) := hid fun W hW => BI.out.trans (Chg.of hW (Nat.le_refl _))
                  have HOI : Hid (∀ W, Below wr.heap.size wr W → OwnI W w2.heap.size wo.heap.size 2 (.slice (some ⟨bx, 0, none⟩) ts.length c1) X) := hid fun W hW => OI.out.eqv (Eqv.of hW (by omega))
                  have hbr := HBR.out i
                  have HBSi := hid (HBS.out i)
                  obtain ⟨b2, off2, rfl, hci⟩ := (HY.out _ BI.out).get (k := i) (by have := HHL.out; omega)
                  have HHC : Hid (∀ j : Nat, j < ts.length → wr.cell? ⟨b2, off2 + j, none⟩ = some (.int .i64 (el (hts ts) j))) := hid (fun j hj => by
                    obtain ⟨b3, off3, e3, hc3⟩ := (HY.out _ BI.out).get (k := j) (by have := HHL.out; omega)
                    cases e3; exact hc3)
                  have HRE : Hid (rdyB ts X i t = (decide (el X i < 0) && doneN ts X i t)) := hid rfl
                  have HQT : Hid (((tel ts i).port = p ∧ rdyB ts X i t = true ∧ betB ts (bstN ts X t p i) i = true) → bstN ts X t p (i + 1) = i) := hid fun h => by rw [HBSi.out, if_pos h]
                  have HQF : Hid (¬ ((tel ts i).port = p ∧ rdyB ts X i t = true ∧ betB ts (bstN ts X t p i) i = true) → bstN ts X t p (i + 1) = bstN ts X t p i) := hid fun h => by rw [HBSi.out, if_neg h]
                  have HXX := hid hix
                  clear hTr hrn BI OI HX HY HBR HBS HMUp HHL HO HT hws HBSi hix
                  generalize rdyB ts X i t = rd at *
                  generalize doneN ts X i t = dn at *
                  generalize (tel ts i).port = pp at *
                  go_wp2
                  go_cut [10, 78] from 43 to 77 (fun s10 s78 wz => s10 = .int .i64 (bstN ts X t p i) ∧ ∃ bb : Bool, s78 = .bool bb ∧ Aside (bb = (decide (pp = (p : Int)) && (rd && betB ts (bstN ts X t p i) i))) ∧ Aside (Below wr.heap.size wr wz))
                  case first =>
                    clear HQT HQF HB1 HB2 HBI HOI hz1 hz2 hgi hgp hg hun
                    have p0l := lcell p0
                    have hixn : (i : Int) < (X.length : Int) := by have := HXX.out; omega
                    have kx := lcell hcx
                    have HBC : Hid (∀ x : Lat wr, Below wr.heap.size wr x.val) := hid fun x => x.below
                    by_cases hpp : pp = (p : Int)
                    · subst hpp
                      by_cases hx0 : el X i < 0
                      · have HRD : Hid (rd = dn) := hid (by rw [HRE.out]; simp [hx0])
                        generalize el X i = xi at *
                        cases dn with
                        | false =>
                          clear hbr hci p0 p1 p2 HHC
                          refine wp_region_calm (by kernel_rfl) (by kernel_rfl) ?_
                          repeat (go_big_quiet_step (exact calm_of (HDN.out _ (HBC.out _))))
                          refine wpQuiet_nil ?_
                          intro _ hw'
                          obtain ⟨xq, hw''⟩ := hw'
                          subst hw''
                          go_wp2
                          go_meet
                          exact ⟨rfl, false, rfl, by unfold Aside; rw [HRD.out]; simp, HBC.out _⟩
                        | true =>
                          rcases hbr with hb | ⟨j, hj, hb, _, _⟩
                          · have HBE := hid hb
                            rw [hb]
                            clear hb hci p0 p1 p2 HHC
                            refine wp_region_calm (by kernel_rfl) (by kernel_rfl) ?_
                            repeat (go_big_quiet_step (exact calm_of (HDN.out _ (HBC.out _))))
                            refine wpQuiet_nil ?_
                            intro _ hw'
                            obtain ⟨xq, hw''⟩ := hw'
                            subst hw''
                            go_wp2
                            go_meet
                            exact ⟨by rw [HBE.out], true, rfl, by unfold Aside; rw [HRD.out, HBE.out]; simp [betB], HBC.out _⟩
                          · have hcj := HHC.out j (by omega)
                            have hj0 : decide ((j : Int) < 0) = false := by simp
                            have hjn : (j : Int) < (ts.length : Int) := by omega
                            have HBB := hid hb
                            rw [hb]
                            have HBE : Hid (betB ts (j : Int) i = decide (el (hts ts) j < el (hts ts) i)) := hid (betB_nat ts j i)
                            have kci := lcell hci
                            have kcj := lcell hcj
                            clear hb p0 p1 p2 HHC hci hcj
                            generalize el (hts ts) i = hi_ at *
                            generalize el (hts ts) j = hj_ at *
                            refine wp_region_calm (by kernel_rfl) (by kernel_rfl) ?_
                            repeat (go_big_quiet_step (exact calm_of (HDN.out _ (HBC.out _))))
                            refine wpQuiet_nil ?_
                            intro _ hw'
                            obtain ⟨xq, hw''⟩ := hw'
                            subst hw''
                            go_wp2
                            go_meet
                            exact ⟨by rw [HBB.out], _, rfl, by unfold Aside; rw [HRD.out, HBB.out, HBE.out]; simp, HBC.out _⟩
                      · have hx0' : decide (el X i < 0) = false := by simpa using hx0
                        have HRD : Hid (rd = false) := hid (by rw [HRE.out, hx0']; rfl)
                        generalize el X i = xi at *
                        clear hbr hci p0 p1 p2 HHC HDN hx0
                        refine wp_region_calm (by kernel_rfl) (by kernel_rfl) ?_
                        repeat (go_big_quiet_step (fail))
                        refine wpQuiet_nil ?_
                        intro _ hw'
                        obtain ⟨xq, hw''⟩ := hw'
                        subst hw''
                        go_wp2
                        go_meet
                        exact ⟨rfl, false, rfl, by unfold Aside; rw [HRD.out]; simp, HBC.out _⟩
                    · have hpp' : (pp == (p : Int)) = false := by simpa using hpp
                      have HDP : Hid (decide (pp = (p : Int)) = false) := hid (by simpa using hpp)
                      clear hbr HDN hpp hci p0 p1 p2 HHC
                      refine wp_region_calm (by kernel_rfl) (by kernel_rfl) ?_
                      repeat (go_big_quiet_step (fail))
                      refine wpQuiet_nil ?_
                      intro _ hw'
                      obtain ⟨xq, hw''⟩ := hw'
                      subst hw''
                      go_wp2
                      go_meet
                      exact ⟨rfl, false, rfl, by unfold Aside; rw [HDP.out]; rfl, HBC.out _⟩
                  case rest =>
                    obtain ⟨rfl, bb, rfl, HBB, BZ⟩ := hcut
                    cases bb with
                    | true =>
                      have HQ : Hid (bstN ts X t p (i + 1) = i) := hid (HQT.out (by have := HBB.out; simp at this; exact ⟨this.1, this.2.1, this.2.2⟩))
                      clear HQT HQF HBB HDN hbr hci p0 p1 p2 hcx HRE HHC
                      go_wp2
                      go_roundg (ts.length - (i + 1))
                      case measure => omega
                      case rel => exact ⟨i + 1, by omega, by omega, by go_num, (by rw [HQ.out]), HBI.out _ BZ.out, HOI.out _ BZ.out⟩
                    | false =>
                      have HQ : Hid (bstN ts X t p (i + 1) = bstN ts X t p i) := hid (HQF.out (by have := HBB.out; intro h; rw [h.2.1, h.2.2] at this; simp [h.1] at this))
                      clear HQT HQF HBB HDN hbr hci p0 p1 p2 hcx HRE HHC
                      go_wp2
                      go_roundg (ts.length - (i + 1))
                      case measure => omega
                      case rel => exact ⟨i + 1, by omega, by omega, by go_num, (by rw [HQ.out]), HBI.out _ BZ.out, HOI.out _ BZ.out⟩
                · have : i = ts.length := by omega
                  subst this
                  have hpr := prt_un HXL.out (now := (t : Int)) (by omega) HMUp.out (p : Int)
                  rw [← HMSp.out] at hpr
                  have hbr := HBR.out ts.length
                  clear HBR HBS HX HY HO HT HHL HMUp
                  rcases hpr with ⟨e1, e2⟩ | ⟨j, hj, e1, e2, e3⟩
                  · rw [e2]
                    have OP' : Aside (OwnI wr w2.heap.size wo.heap.size 2 (.slice A1 ts.length c1) (M (p + 1))) := by unfold Aside; rw [e1]; exact OI.out
                    have HUN : Hid (un (M (p + 1)) = uX) := hid (by rw [e1, hun])
                    clear e1 e2 OI HMSp hbr hun
                    go_wp2
                    go_roundg (3 - (p + 1))
                    case measure => omega
                    case rel => exact ⟨p + 1, by omega, by omega, by go_num, (by rw [HUN.out]), BI, OP'⟩
                  · rw [e1]
                    obtain ⟨g, rfl, hg1, hg2, hcg, hfg, hset⟩ := OwnI.at OI.out (k := j) (by have := HXL.out; omega)
                    have OP' : Aside (OwnI (wr.setCell ⟨g, j, none⟩ (.int .i64 (t : Nat))) w2.heap.size wo.heap.size 2 (.slice (some ⟨g, 0, none⟩) ts.length c1) (M (p + 1))) := by unfold Aside; rw [e2]; exact hset t
                    have BI' : Aside (Chg w2.heap.size wo.heap.size wo (wr.setCell ⟨g, j, none⟩ (.int .i64 (t : Nat)))) := BI.out.trans (chg_set wr hg1 hg2 j _)
                    have hjn : (j : Int) < (ts.length : Int) := by omega
                    have hul : uX ≤ 8 := by have := List.count_le_length (a := (-1 : Int)) (l := X); unfold un at hun; have := HXL.out; omega
                    have HUN : Hid (((un (M (p + 1)) : Nat) : Int) = (uX : Int) - 1) := hid (by rw [hun] at e3; omega)
                    clear e1 e2 e3 OI HMSp hset BI hbr hun
                    go_wp2
                    go_roundg (3 - (p + 1))
                    case measure => omega
                    case rel => exact ⟨p + 1, by omega, by omega, by go_num, (by rw [HUN.out]), BI', OP'⟩
            · have : p = 3 := by omega
              subst this
              have OP' : Aside (OwnI wp w2.heap.size wo.heap.size 2 (.slice A1 ts.length c1) (lstN ts (t + 1))) := by unfold Aside; rw [HS.out]; exact OP.out
              have HUS : Hid (un (lstN ts (t + 1)) = un (M 3)) := hid (by rw [HS.out])
              clear HML HMU HMS HS OP hu0
              generalize un (M 3) = q at *
              go_wp2
              go_roundg (T - (t + 1))
              case measure => omega
              case rel => exact ⟨t + 1, by omega, by omega, by go_num, (by rw [HUS.out]), BP, OP'⟩
theorem s_ListSchedule (w : World) (A : Option Addr) (c : Nat) (ts : List TaskV) (hl : tsz ts ≤ 1048576) (hT : RdT w A ts) :
    Calls Try.prog 178 #[.slice A ts.length c] w (RetIB w (m_ListSchedule ts)) := by
  have c0 := s_l06Is w A c ts hl hT
  have HE : Hid (m_ListSchedule ts = if tasksB ts then (lstS ts, true) else ([], false)) := hid rfl
  cases h0 : tasksB ts with
  | false =>
    rw [h0] at c0 HE
    have C0 := hid c0
    clear c0 h0 hT hl
    generalize m_ListSchedule ts = r at HE ⊢
    go_enter Try.func178, Try.ntmps178
    go_wp2_with fail
    refine C0.out.mono ?_
    rintro e w1 ⟨rfl, hb1⟩
    go_wp2_with fail
    go_ret2
    exact ⟨_, by rw [HE.out]; rfl, by rw [HE.out]; exact Own.nil _ _ _ _ _, hb1⟩
  | true =>
    rw [h0] at c0 HE
    have h := s_ListSchedule1 w A c ts (TOk.of h0) hT (hid c0)
    rw [HE.out]
    exact h
end Go.Proofs.Ytjcpjmijhloimaa
