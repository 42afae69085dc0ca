import Derived.Test.YtjcpjmijhloimaaLst2
import Derived.Test.YtjcpjmijhloimaaShuf3
import Derived.Test.YtjcpjmijhloimaaLawO
import Derived.Test.YtjcpjmijhloimaaCalm
set_option linter.unusedVariables false
set_option linter.unusedSimpArgs false
namespace Go.Proofs.Ytjcpjmijhloimaa
open Go.RowKit

theorem betB_nat (ts : List TaskV) (j i : Nat) : betB ts (j : Int) i = decide (el (hts ts) j < el (hts ts) i) := by
  have h : decide ((j : Int) < 0) = false := decide_eq_false (by omega)
  unfold betB; rw [h, Int.toNat_natCast]; rfl
theorem un_zero {xs : List Int} : un xs = 0 ↔ fst xs (-1) < 0 := by rw [fst_neg]; exact List.count_eq_zero
theorem OwnI.rd {w : World} {lo hi n c : Nat} {e : TypeId} {A : Option Addr} {xs : List Int} (h : OwnI w lo hi e (.slice A n c) xs) : RdI w A xs := by
  obtain ⟨A', c', e', _, _, hr⟩ := Own.int h
  cases e'; exact hr
theorem OwnI.len {w : World} {lo hi n c : Nat} {e : TypeId} {A : Option Addr} {xs : List Int} (h : OwnI w lo hi e (.slice A n c) xs) : n = xs.length := by
  obtain ⟨A', c', e', _, _, hr⟩ := Own.int h
  cases e'; rfl
/-- A cell of one's own numbers. -/
theorem OwnI.at {w : World} {lo hi n c : Nat} {e : TypeId} {A : Option Addr} {xs : List Int} (h : OwnI w lo hi e (.slice A n c) xs) {k : Nat} (hk : k < xs.length) :
    ∃ g, A = some ⟨g, 0, none⟩ ∧ lo ≤ g ∧ g < hi ∧ w.cell? ⟨g, k, none⟩ = some (.int .i64 (el xs k)) ∧ w.frozen? ⟨g, k, none⟩ = false ∧
      ∀ x, OwnI (w.setCell ⟨g, k, none⟩ (.int .i64 x)) lo hi e (.slice A n c) (xs.set k x) := by
  obtain rfl := OwnI.len h
  obtain ⟨A', c', e', _, _, hs⟩ := Own.shape h
  cases e'
  rcases hs with ⟨_, h0⟩ | ⟨g, rfl, h1, h2, hc, hf⟩
  · omega
  · refine ⟨g, rfl, h1, h2, hc k _ (ints_get hk), hf k, fun x => ?_⟩
    have := OwnI.put h k x
    rwa [List.length_set] at this
theorem g_Contains (w : World) (A : Option Addr) (c : Nat) (xs : List Int) (v : Int) (hl : xs.length ≤ 9223372036854775807) (hR : RdI w A xs) :
    Calls Try.prog 174 #[.slice A xs.length c, .int .i64 v] w fun e w' => e = .returned (.bool (decide (0 ≤ fst xs v))) ∧ w = w' := by
  have h := g_Index w A c xs v hl hR
  clear hR
  generalize fst xs v = r at h ⊢
  go_enter Try.func174, Try.ntmps174
  go_wp2_with fail
  refine h.mono ?_
  rintro e w' ⟨rfl, rfl⟩
  go_wp2_with fail
  go_ret
  exact ⟨ret_b (by simp), rfl⟩
set_option maxRecDepth 100000 in
theorem i_LS1 (W : World) (k : Nat) : Calls Try.prog 173 #[.int .i64 (k : Nat)] W fun e w' => e = .returned (.int .i64 (-1)) ∧ Below W.heap.size W w' := by
  go_enter Try.func173, Try.ntmps173
  go_wp2
  go_ret
  exact ⟨rfl, Below.refl _ _⟩
theorem map_const {n : Nat} : (List.range n).map (fun _ => (-1 : Int)) = List.replicate n (-1) := by
  apply List.ext_getElem <;> simp
set_option maxRecDepth 100000 in
set_option maxHeartbeats 2000000 in
theorem i_listSchedule (w : World) (A : Option Addr) (c : Nat) (ts : List TaskV) (hO : TOk ts) (hT : RdT w A ts) :
    Calls Try.prog 114 #[.slice A ts.length c] w (RetI w 2 (lstS ts)) := by
  have hfew := hO.few
  have c0 := i_lanesOf w ts.length 173 #[] (fun _ => -1) (by omega) (enters_of Try.func173 (by kernel_rfl) rfl) (fun W hW k hk => i_LS1 W k)
  rw [map_const] at c0
  have C0 := hid c0
  have HO := hid hO
  have HT := hid hT
  obtain ⟨hT0, hT1, hT2⟩ := lstT_spec hO
  have HT0 := hid hT0
  have HT2 := hid hT2
  have HLT : Hid (lstS ts = lstN ts (lstT ts)) := hid rfl
  have HLL := hid (lstN_length ts)
  have HLU := hid (lst_upto ts)
  have HL0 : Hid (lstN ts 0 = List.replicate ts.length (-1)) := hid rfl
  have HLS : Hid (∀ t, lstN ts (t + 1) = tmN ts t (lstN ts t) 3) := hid fun _ => rfl
  have HHL := hid (hts_length ts)
  clear c0 hT hO hT0 hT2
  generalize lstT ts = T at *
  generalize lstS ts = S at *
  go_enter Try.func114, Try.ntmps114
  go_wp2_with fail
  refine C0.out.mono ?_
  rintro e w1 ⟨v, rfl, ho, hb1⟩
  obtain ⟨A1, c1, rfl, _, _, hr1⟩ := Own.int ho
  have hrl : (List.replicate ts.length (-1 : Int)).length = ts.length := List.length_replicate
  rw [hrl] at ho
  simp only [hrl]
  have C1 := hid (i_heights w1 A c ts HO.out (HT.out.below hb1))
  clear C0 hrl
  go_wp2_with fail
  refine C1.out.mono ?_
  rintro e w2 ⟨v2, rfl, ho2, hb2⟩
  obtain ⟨A2, c2, rfl, _, _, _⟩ := Own.int ho2
  have HB1 := hid hb1
  have HB2 := hid hb2
  have HO2 := hid ho2
  have hz1 := hb1.size
  have hz2 := hb2.size
  have HO1 : Hid (OwnI w2 w.heap.size w1.heap.size 2 (.slice A1 ts.length c1) (lstN ts 0)) := hid (by rw [HL0.out]; exact ho.eqv (Eqv.of hb2 (Nat.le_refl _)))
  have HX : Hid (∀ W, Chg w.heap.size w1.heap.size w2 W → Below w.heap.size w W) := hid fun W h => bthen hb1 hb2 |>.trans (h.below (Nat.le_refl _) (by omega))
  have HY : Hid (∀ W, Chg w.heap.size w1.heap.size w2 W → RdI W A2 (hts ts)) := hid fun W h => by
    have := OwnI.rd (HO2.out.eqv (h.eqv (a := w1.heap.size) (b := w2.heap.size) (.inr (Nat.le_refl _)) (Nat.le_refl _)))
    exact this
  clear ho ho2 hb1 hb2 C1 HL0 hr1 HO2
  have hhl := hts_length ts
  rw [hhl]
  clear hhl
  go_wp2
  go_loopg [5] T (fun gg s wr => ∃ t : Nat, t ≤ T ∧ T - t ≤ gg ∧ s = .int .i64 t ∧ Aside (Chg w.heap.size w1.heap.size w2 wr) ∧ Aside (OwnI wr w.heap.size w1.heap.size 2 (.slice A1 ts.length c1) (lstN ts t)))
  case atStart => exact ⟨0, Nat.zero_le _, by omega, rfl, Chg.refl _ _ _, HO1.out⟩
  case round =>
    obtain ⟨t, ht, hg, rfl, BW, OW⟩ := hrel
    obtain ⟨wo, rfl⟩ : ∃ wo : World, wo = wr := ⟨_, rfl⟩
    have hlt := HLL.out t
    have C2 := hid (g_Contains wo A1 c1 (lstN ts t) (-1) (by omega) (OwnI.rd OW.out))
    rw [hlt] at C2
    have HUZ := hid (@un_zero (lstN ts t))
    by_cases hu : un (lstN ts t) = 0
    · have hf : ¬ (0 ≤ fst (lstN ts t) (-1)) := by have := HUZ.out.1 hu; omega
      have hf' : decide (0 ≤ fst (lstN ts t) (-1)) = false := by simpa using hf
      rw [hf'] at C2
      have htT : t = T := by
        by_cases e : t < T
        · exact absurd hu (HT2.out t e)
        · omega
      have HR : Hid (∃ v, Ending.returned (.slice A1 ts.length c1) = Ending.returned v ∧ OwnI wo w.heap.size wo.heap.size 2 v S ∧ Below w.heap.size w wo) := hid (by
        have hws := BW.out.size
        have o := OW.out
        rw [htT, ← HLT.out] at o
        exact ⟨_, rfl, Own.wide o (Nat.le_refl _) (by omega), HX.out _ BW.out⟩)
      clear hf hf' hu HUZ OW BW HO1 HX HY HLS HLL HLU HT HO HT0 HT2 HLT HHL
      go_wp2_with fail
      refine C2.out.mono ?_
      rintro e w3 ⟨rfl, rfl⟩
      go_wp2_with fail
      go_ret
      exact HR.out
    · have hf : 0 ≤ fst (lstN ts t) (-1) := by
        by_cases e : fst (lstN ts t) (-1) < 0
        · exact absurd (HUZ.out.2 e) hu
        · omega
      have hf' : decide (0 ≤ fst (lstN ts t) (-1)) = true := by simpa using hf
      rw [hf'] at C2
      have htT : t < T := by
        by_cases e : t = T
        · rw [e] at hu; exact absurd HT0.out hu
        · omega
      have ht48 : t ≤ 48 := by omega
      have HS := hid (HLS.out t)
      have HU := hid (upto_wide (HLU.out t) (b' := (t : Int) + 1) (by omega))
      have HZ : Hid (tmN ts t (lstN ts t) 0 = lstN ts t) := hid rfl
      have HML : Hid (∀ p, (tmN ts t (lstN ts t) p).length = ts.length) := hid fun p => (tmN_length ts t (lstN ts t) p).trans hlt
      have HMU : Hid (∀ p, Upto (tmN ts t (lstN ts t) p) ((t : Int) + 1)) := hid fun p => tm_upto hlt (by omega) HU.out p
      have HMS : Hid (∀ p : Nat, tmN ts t (lstN ts t) (p + 1) = prtN ts t (tmN ts t (lstN ts t) p) p) := hid fun p => rfl
      clear hf hf' hu HUZ HO1 HLS HLL HLU HT0 HT2 HLT HU hlt
      generalize tmN ts t (lstN ts t) = M at *
      generalize lstN ts t = X0 at *
      go_wp2_with fail
      refine C2.out.mono ?_
      rintro e w3 ⟨rfl, rfl⟩
      clear C2
      go_wp2_with fail
      go_loopg [19] 3 (fun gg s wr => ∃ p : Nat, p ≤ 3 ∧ 3 - p ≤ gg ∧ s = .int .i64 p ∧ Aside (Chg w.heap.size w1.heap.size w2 wr) ∧ Aside (OwnI wr w.heap.size w1.heap.size 2 (.slice A1 ts.length c1) (M p)))
      case atStart => exact ⟨0, Nat.zero_le _, by omega, rfl, BW, by unfold Aside; rw [HZ.out]; exact OW.out⟩
      case round =>
        obtain ⟨p, hp, hgp, rfl, BP, OP⟩ := hrel
        clear BW OW HZ
        obtain ⟨wp, rfl⟩ : ∃ wp : World, wp = wr := ⟨_, rfl⟩
        by_cases hp3 : p < 3
        · have hml := HML.out p
          have HMUp := hid (HMU.out p)
          have HMSp := hid (HMS.out p)
          clear HML HMU HMS HS
          generalize hX : M p = X at *
          have HB0 : Hid (bstN ts X t p 0 = -1) := hid rfl
          have HBS : Hid (∀ i, bstN ts X t p (i + 1) = if (tel ts i).port = p ∧ rdyB ts X i t = true ∧ betB ts (bstN ts X t p i) i = true then (i : Int) else bstN ts X t p i) := hid fun _ => rfl
          have HBR := hid (bst_range ts X t p)
          have hp3' : (p : Int) < 3 := by omega
          have HXL := hid hml
          clear hml
          go_wp2
          go_loopg [7, 24] ts.length (fun gg b s wr => ∃ i : Nat, i ≤ ts.length ∧ ts.length - i ≤ gg ∧ s = .int .i64 i ∧ b = .int .i64 (bstN ts X t p i) ∧ Aside (Chg w.heap.size w1.heap.size w2 wr) ∧ Aside (OwnI wr w.heap.size w1.heap.size 2 (.slice A1 ts.length c1) X))
          case atStart => exact ⟨0, Nat.zero_le _, by omega, rfl, (by rw [HB0.out]), BP, OP⟩
          case round =>
            obtain ⟨i, hi, hgi, rfl, rfl, BI, OI⟩ := hrel
            clear BP OP HB0
            by_cases hlti : i < ts.length
            · have hlt' : (i : Int) < (ts.length : Int) := by omega
              have hxl : X.length ≤ 8 := by have := HXL.out; omega
              have BX := HX.out _ BI.out
              have hTr := HT.out.below BX
              obtain ⟨bt, offt, An, cn, rfl, p0, p1, p2, _, hrn⟩ := hTr.get hlti
              have hbt : Below wr.heap.size wr (wr.alloc (.cells #[.int .i64 (tel ts i).port, .int .i64 (tel ts i).lat, .slice An (tel ts i).needs.length cn] 74)) := ballocw wr _
              have k0 : (wr.alloc (.cells #[.int .i64 (tel ts i).port, .int .i64 (tel ts i).lat, .slice An (tel ts i).needs.length cn] 74)).cell? ⟨wr.heap.size, 0, none⟩ = some (.int .i64 (tel ts i).port) := by simp
              have HRD := hid (fun W (hW : Below wr.heap.size wr W) => i_ready W A1 (some ⟨bt, offt, none⟩) c1 c X ts t i HXL.out hlti HO.out (upto_sml HMUp.out (by omega)) ((OwnI.rd OI.out).below hW) (hTr.below hW))
              rw [HXL.out] at HRD
              have hws := BI.out.size
              have HBI : Hid (∀ W, Below wr.heap.size wr W → Chg w.heap.size w1.heap.size w2 W) := hid fun W hW => BI.out.trans (Chg.of hW (Nat.le_refl _))
              have HOI : Hid (∀ W, Below wr.heap.size wr W → OwnI W w.heap.size w1.heap.size 2 (.slice A1 ts.length c1) X) := hid fun W hW => OI.out.eqv (Eqv.of hW (by omega))
              have hbr := HBR.out i
              have HBSi := hid (HBS.out i)
              obtain ⟨b2, off2, rfl, hci⟩ := (HY.out _ BI.out).get (k := i) (by have := HHL.out; omega)
              have hHc : ∀ j : Nat, j < ts.length → wr.cell? ⟨b2, off2 + j, none⟩ = some (.int .i64 (el (hts ts) j)) := fun j hj => by
                obtain ⟨b3, off3, e3, hc3⟩ := (HY.out _ BI.out).get (k := j) (by have := HHL.out; omega)
                cases e3; exact hc3
              have HHC := hid hHc
              have HBT := hid hbt
              clear hHc hbt hTr hrn BI OI HX HY HBR HBS HMUp HHL HO HT hws
              have HQT : Hid (((tel ts i).port = p ∧ rdyB ts X i t = true ∧ betB ts (bstN ts X t p i) i = true) → bstN ts X t p (i + 1) = i) := hid fun h => by rw [HBSi.out, if_pos h]
              have HQF : Hid (¬ ((tel ts i).port = p ∧ rdyB ts X i t = true ∧ betB ts (bstN ts X t p i) i = true) → bstN ts X t p (i + 1) = bstN ts X t p i) := hid fun h => by rw [HBSi.out, if_neg h]
              clear HBSi
              generalize (tel ts i).port = pp at *
              generalize (tel ts i).lat = ll at *
              generalize (tel ts i).needs.length = nn at *
              go_wp2
              generalize wr.alloc (.cells #[.int .i64 pp, .int .i64 ll, .slice An nn cn] 74) = wt at *
              have k0d : wt.drew.cell? ⟨wr.heap.size, 0, none⟩ = some (.int .i64 pp) := k0
              have HBD : Hid (Below wr.heap.size wr wt.drew) := hid (bthen HBT.out (bdrewL wt))
              go_cut [7, 54] from 29 to 53 (fun s7 s54 wz => s7 = .int .i64 (bstN ts X t p i) ∧ ∃ bb : Bool, s54 = .bool bb ∧ Aside (bb = (decide (pp = (p : Int)) && (rdyB ts X i t && betB ts (bstN ts X t p i) i))) ∧ Aside (Below wr.heap.size wr wz))
              case first =>
                clear HQT HQF HB1 HB2 HXL HBI HOI hz1 hz2 hgi hgp hg
                have k0l := lcell k0
                have HBC : Hid (∀ x : Lat wt, Below wr.heap.size wr x.val) := hid fun x => bthen HBT.out x.below
                by_cases hpp : pp = (p : Int)
                · subst hpp
                  cases hrd : rdyB ts X i t with
                  | false =>
                    rw [hrd] at HRD
                    have HRE := hid hrd
                    clear hrd hbr hci p0 p1 p2 HHC
                    refine wp_region_calm (by kernel_rfl) (by kernel_rfl) ?_
                    repeat (go_big_quiet_step (exact calm_of (HRD.out _ (HBC.out _))))
                    refine wpQuiet_nil ?_
                    intro _ hw'
                    obtain ⟨xq, hw''⟩ := hw'
                    subst hw''
                    go_wp2
                    go_meet
                    exact ⟨rfl, false, rfl, by unfold Aside; rw [HRE.out]; simp, HBC.out _⟩
                  | true =>
                    rw [hrd] at HRD
                    rcases hbr with hb | ⟨j, hj, hb, _, _⟩
                    · have HRE := hid hrd
                      have HBE := hid hb
                      rw [hb]
                      clear hrd hb hci p0 p1 p2 HHC
                      refine wp_region_calm (by kernel_rfl) (by kernel_rfl) ?_
                      repeat (go_big_quiet_step (exact calm_of (HRD.out _ (HBC.out _))))
                      refine wpQuiet_nil ?_
                      intro _ hw'
                      obtain ⟨xq, hw''⟩ := hw'
                      subst hw''
                      go_wp2
                      go_meet
                      exact ⟨by rw [HBE.out], true, rfl, by unfold Aside; rw [HRE.out, HBE.out]; simp [betB], HBC.out _⟩
                    · have hcj := HHC.out j (by omega)
                      have hj0 : decide ((j : Int) < 0) = false := by simp
                      have hjn : (j : Int) < (ts.length : Int) := by omega
                      have HRE := hid hrd
                      have HBB := hid hb
                      rw [hb]
                      have HBE : Hid (betB ts (j : Int) i = decide (el (hts ts) j < el (hts ts) i)) := hid (betB_nat ts j i)
                      have kci := fun x : Lat wt => bcell (HBC.out x) hci
                      have kcj := fun x : Lat wt => bcell (HBC.out x) hcj
                      clear hrd hb p0 p1 p2 HHC hci hcj
                      generalize el (hts ts) i = hi_ at *
                      generalize el (hts ts) j = hj_ at *
                      refine wp_region_calm (by kernel_rfl) (by kernel_rfl) ?_
                      repeat (go_big_quiet_step (exact calm_of (HRD.out _ (HBC.out _))))
                      refine wpQuiet_nil ?_
                      intro _ hw'
                      obtain ⟨xq, hw''⟩ := hw'
                      subst hw''
                      go_wp2
                      go_meet
                      exact ⟨by rw [HBB.out], _, rfl, by unfold Aside; rw [HRE.out, HBB.out, HBE.out]; simp, HBC.out _⟩
                · have hpp' : (pp == (p : Int)) = false := by simpa using hpp
                  have HDP : Hid (decide (pp = (p : Int)) = false) := hid (by simpa using hpp)
                  clear hbr HRD hpp hci p0 p1 p2 k0d HBD HHC
                  refine wp_region_calm (by kernel_rfl) (by kernel_rfl) ?_
                  repeat (go_big_quiet_step (fail))
                  refine wpQuiet_nil ?_
                  intro _ hw'
                  obtain ⟨xq, hw''⟩ := hw'
                  subst hw''
                  go_wp2
                  go_meet
                  exact ⟨rfl, false, rfl, by unfold Aside; rw [HDP.out]; rfl, HBC.out _⟩
              case rest =>
                obtain ⟨rfl, bb, rfl, HBB, BZ⟩ := hcut
                cases bb with
                | true =>
                  have HQ : Hid (bstN ts X t p (i + 1) = i) := hid (HQT.out (by have := HBB.out; simp at this; exact ⟨this.1, this.2.1, this.2.2⟩))
                  clear HQT HQF HBB HRD hbr hci p0 p1 p2 k0 k0d HBD
                  go_wp2
                  go_roundg (ts.length - (i + 1))
                  case measure => omega
                  case rel => exact ⟨i + 1, by omega, by omega, by go_num, (by rw [HQ.out]), HBI.out _ BZ.out, HOI.out _ BZ.out⟩
                | false =>
                  have HQ : Hid (bstN ts X t p (i + 1) = bstN ts X t p i) := hid (HQF.out (by have := HBB.out; intro h; rw [h.2.1, h.2.2] at this; simp [h.1] at this))
                  clear HQT HQF HBB HRD hbr hci p0 p1 p2 k0 k0d HBD
                  go_wp2
                  go_roundg (ts.length - (i + 1))
                  case measure => omega
                  case rel => exact ⟨i + 1, by omega, by omega, by go_num, (by rw [HQ.out]), HBI.out _ BZ.out, HOI.out _ BZ.out⟩
            · have : i = ts.length := by omega
              subst this
              have hpr := prt_cases HXL.out (t : Int) (p : Int)
              rw [← HMSp.out] at hpr
              have hbr := HBR.out ts.length
              clear HBR HBS HX HY HO HT HHL
              rcases hpr with ⟨e1, e2⟩ | ⟨j, hj, e1, e2, _, _, _⟩
              · rw [e2]
                have OP' : Aside (OwnI wr w.heap.size w1.heap.size 2 (.slice A1 ts.length c1) (M (p + 1))) := by unfold Aside; rw [e1]; exact OI.out
                clear e1 e2 OI HMSp hbr
                go_wp2
                go_roundg (3 - (p + 1))
                case measure => omega
                case rel => exact ⟨p + 1, by omega, by omega, by go_num, BI, OP'⟩
              · rw [e1]
                obtain ⟨g, rfl, hg1, hg2, hcg, hfg, hset⟩ := OwnI.at OI.out (k := j) (by have := HXL.out; omega)
                have OP' : Aside (OwnI (wr.setCell ⟨g, j, none⟩ (.int .i64 (t : Nat))) w.heap.size w1.heap.size 2 (.slice (some ⟨g, 0, none⟩) ts.length c1) (M (p + 1))) := by unfold Aside; rw [e2]; exact hset t
                have BI' : Aside (Chg w.heap.size w1.heap.size w2 (wr.setCell ⟨g, j, none⟩ (.int .i64 (t : Nat)))) := BI.out.trans (chg_set wr hg1 hg2 j _)
                have hjn : (j : Int) < (ts.length : Int) := by omega
                clear e1 e2 OI HMSp hset BI hbr
                go_wp2
                go_roundg (3 - (p + 1))
                case measure => omega
                case rel => exact ⟨p + 1, by omega, by omega, by go_num, BI', OP'⟩
        · have : p = 3 := by omega
          subst this
          have OP' : Aside (OwnI wp w.heap.size w1.heap.size 2 (.slice A1 ts.length c1) (lstN ts (t + 1))) := by unfold Aside; rw [HS.out]; exact OP.out
          clear HML HMU HMS HS OP
          go_wp2
          go_roundg (T - (t + 1))
          case measure => omega
          case rel => exact ⟨t + 1, by omega, by omega, by go_num, BP, OP'⟩
end Go.Proofs.Ytjcpjmijhloimaa
