import Derived.Test.YtolcmehndambmaaBfs11
import Derived.Deep.RegionHeld3
set_option linter.unusedVariables false
set_option linter.unusedSimpArgs false
namespace Go.Proofs.Ytolcmehndambmaa
open Go.RowKit

theorem infoSteps : (Try.prog.info? 108).map (fun i => (i.zero, i.size, i.bytes)) = some (some (.agg #[.slice none 0 0, .slice none 0 0]), 2, 48) := by kernel_rfl
theorem ste_ne : (108 : Nat) ≠ 2 := by decide
/-- What the reference's search hands back. -/
def Rq (O : List PQ) (goal : List Int) (L : Nat) (T : List PQ) : Prop := (∃ N, O = T ++ N) ∧ L ≤ T.length ∧ ((∃ f, L = f + 1 ∧ (qel T f).2 = goal ∧ ∀ i, i < f → (qel T i).2 ≠ goal) ∨ (L = T.length ∧ T = O ∧ ∀ i, i < L → (qel T i).2 ≠ goal))
abbrev QJ (W w : World) (vo vk : Value) (O : List PQ) : Prop := QI 108 W w w.heap.size vo vk O
set_option maxRecDepth 100000 in
set_option maxHeartbeats 1600000 in
theorem s_l04Reached (w : World) (A G : Option Addr) (c cg : Nat) (al : List (List Int)) (goal : List Int) (n most : Nat) (h1 : 1 ≤ al.length) (h4 : al.length ≤ 4) (hn : n ≤ 16) (hm : most ≤ 5) (hal : ∀ k, k < al.length → (rw_ al k).length = n ∧ shufB (rw_ al k) = true) (hR : RdR w A al) (hgl : goal.length ≤ 1048576) (hG : RdI w G goal) :
    Calls Try.prog 92 #[.slice A al.length c, .int .i64 (most : Nat), .slice G goal.length cg] w fun e w' => ∃ A' L c', e = .returned (.slice A' L c') ∧ Below w.heap.size w w' ∧ ∃ T, AQ 108 w' w.heap.size kb0 (.slice A' T.length c') T ∧ Rq (lvO al n most) goal L T := by
  obtain ⟨b0, o0, A0, c0, rfl, hc0, hcc0, hr0⟩ := hR.get (k := 0) (by omega)
  rw [(hal 0 (by omega)).1] at hc0 hcc0
  rw [Nat.add_zero] at hc0
  have HR := hid hR
  have HAL := hid hal
  have HG := hid hG
  have hba := ballocw w (.cells #[] 2)
  have hc0' := bcell hba hc0
  have C0 := hid (s_l04Same (w.alloc (.cells #[] 2)) n (by omega))
  have hal0 : (0 : Int) < (al.length : Int) := by omega
  have HBA := hid hba
  clear hR hal hr0 hG hba
  go_enter Try.func92, Try.ntmps92
  go_wp2_with fail
  refine C0.out.mono ?_
  rintro e w1 ⟨v1, rfl, ho1, hb1⟩
  obtain ⟨A1, c1, rfl, _, _, hr1⟩ := Own.int ho1
  rw [idl_length] at *
  have hz1 := hb1.size
  have hs1 : (w.alloc (.cells #[] 2)).heap.size = w.heap.size + 1 := by simp
  rw [hs1] at hz1 ho1
  have hp0 : OwnI w1 w.heap.size w1.heap.size 2 (.slice (some ⟨w.heap.size, 0, none⟩) 0 0) [] := by
    have ho := Own.of (World.ownsRow_lit (base := w.heap.size) (e := 2) (size := 1) w #[] 0 (Nat.le_refl _) (by simp [maxLen]) rfl)
    exact Own.wide (own_blk ho fun b hv => hb1.block b (own_at ho hv).2.2) (Nat.le_refl _) hb1.size
  have hp1 : PK w1 w.heap.size kb0 (.slice (some ⟨w.heap.size, 0, none⟩) 0 0) (.slice A1 n c1) ([], idl n) := ⟨_, 0, A1, c1, rfl, by simp [idl_length], fun k hk => absurd hk (Nat.not_lt_zero _), RdT.of (n := n) (by simpa [idl_length] using ho1) fun _ _ q => q, hp0, fun _ _ q => q⟩
  have HQ1 := hid (AQ.lit 108 (lo := w.heap.size) hp1 (by omega))
  have hb2 := ballocw w1 (.cells #[.slice (some ⟨w.heap.size, 0, none⟩) 0 0, .slice A1 n c1] 108)
  have hk1 := s_l04Key (w1.alloc (.cells #[.slice (some ⟨w.heap.size, 0, none⟩) 0 0, .slice A1 n c1] 108)) A1 c1 (idl n) (by rw [idl_length]; omega) (hr1.below hb2)
  rw [idl_length] at hk1
  have C1 := hid hk1
  have HB2 := hid (bthen (bthen HBA.out hb1) hb2)
  clear C0 ho1 hb1 hb2 hp1 hk1 hr1 HBA
  go_wp2_with fail
  refine C1.out.mono ?_
  rintro e w2 ⟨rfl, hb3⟩
  have hz3 := hb3.size
  have hs2 : (w1.alloc (.cells #[.slice (some ⟨w.heap.size, 0, none⟩) 0 0, .slice A1 n c1] 108)).heap.size = w1.heap.size + 1 := by simp
  rw [hs2] at hz3
  have HQ2 := hid (HQ1.out.below hb3)
  have HB3 := hid (bthen HB2.out hb3)
  have HI : Hid (QJ (w2.alloc (.cells #[.int .i64 (keyI (idl n))] 2)) w (.slice (some ⟨w1.heap.size, 0, none⟩) 1 1) (.slice (some ⟨w2.heap.size, 0, none⟩) 1 1) (tq al n most 0)) := hid (by
    have hb4 := ballocw w2 (.cells #[.int .i64 (keyI (idl n))] 2)
    refine ⟨bthen HB3.out hb4, (HQ2.out.re fun b hb q => ?_).below hb4, ?_, by simp; omega⟩
    · simp [ob, Value.ownBlock] at q; omega
    · have ho := Own.of (World.ownsRow_lit (base := w2.heap.size) (e := 2) (size := 1) w2 #[.int .i64 (keyI (idl n))] 1 (Nat.le_refl _) (by simp [maxLen]) rfl)
      exact Own.wide ho (by omega) (Nat.le_refl _))
  clear C1 HQ1 HQ2 HB2 HB3 hb3
  go_wp2_with fail
  clear hc0 hcc0 hs1 hs2 hc0'
  generalize w2.alloc (.cells #[.int .i64 (keyI (idl n))] 2) = W4 at *
  go_loopg [7, 8, 9] 2000 (fun gg vo vk s wr => ∃ f : Nat, f ≤ 2000 ∧ 2000 - f ≤ gg ∧ s = .int .i64 f ∧ ∃ Ao co Ak ck, vo = .slice Ao (tq al n most f).length co ∧ vk = .slice Ak (tq al n most f).length ck ∧ Aside (TI al n most f) ∧ Aside (QJ wr w vo vk (tq al n most f)) ∧ Aside (∀ i, i < f → (qel (tq al n most f) i).2 ≠ goal))
  case atStart => exact ⟨0, by omega, by omega, rfl, _, _, _, _, rfl, rfl, TI.zero al n most, HI.out, fun i hi => absurd hi (Nat.not_lt_zero _)⟩
  case round =>
    obtain ⟨f, hf, hg, rfl, Ao, co, Ak, ck, rfl, rfl, HT, QW, NG⟩ := hrel
    obtain ⟨wl, rfl⟩ : ∃ wl : World, wl = wr := ⟨_, rfl⟩
    clear HI
    have hTl := tq_len HT.out h4 hm
    by_cases hlt : f < (tq al n most f).length
    · have HTN := hid (HT.out.next hlt)
      have HST : Hid (tq al n most (f + 1) = if (qel (tq al n most f) f).1.length = most then tq al n most f else exK al (qel (tq al n most f) f) al.length (tq al n most f)) := hid rfl
      have HAN := hid (tq_AllN HT.out fun k hk => (HAL.out k hk).1)
      have HPRE := hid HT.out.pre.2
      have hr5 : (qel (tq al n most f) f).1.length ≤ 5 := by
        obtain ⟨N, e⟩ := HPRE.out
        have hq : qel (lvO al n most) f = qel (tq al n most f) f := by rw [e]; exact qel_app hlt
        have hs := lv_steps al n most f (by rw [e, List.length_append]; omega)
        rw [hq] at hs
        by_cases q : f < lvA al n most
        · have := hs.1 q; omega
        · have := hs.2 (by omega); omega
      generalize hTT : tq al n most f = T at *
      clear hTT
      have hlt' : (f : Int) < (T.length : Int) := by omega
      obtain ⟨Aq, cq, eq_, hcq, hcq2, hget⟩ := QW.out.o.get
      cases eq_
      obtain ⟨bt, A1', c1', A2', c2', rfl, x1, x2, t1, t2⟩ := hget f hlt
      have hdl : (qel T f).2.length = n := HAN.out _ (qel_mem hlt)
      have cs := s_l00Same wl A2' G c2' cg (qel T f).2 goal (by omega) (by omega) t2.rd (HG.out.below QW.out.bel)
      have HDL := hid hdl
      rw [hdl] at x2 cs
      have CS := hid cs
      clear cs hdl hget t1 t2
      by_cases hgo : (qel T f).2 = goal
      · rw [show decide ((qel T f).2 = goal) = true by simpa using hgo] at CS
        have HGO := hid hgo
        clear hgo HST
        go_wp2_with fail
        refine CS.out.mono ?_
        rintro e w5 ⟨rfl, hb5⟩
        clear CS
        go_wp2_with fail
        go_ret
        exact ⟨_, f + 1, _, rfl, bthen QW.out.bel hb5, T, ((QW.out.o.below hb5).re fun b _ q => q.elim), HPRE.out, by omega, .inl ⟨f, rfl, HGO.out, NG.out⟩⟩
      · rw [show decide ((qel T f).2 = goal) = false by simpa using hgo] at CS
        have HGO := hid hgo
        have x1' := HDL
        clear hgo HPRE
        go_wp2_with fail
        refine CS.out.mono ?_
        rintro e w5 ⟨rfl, hb5⟩
        have y1 := bcell hb5 x1
        have QW5 := hid (QW.out.below hb5)
        clear CS x1 x2 QW hb5
        by_cases hst : (qel T f).1.length = most
        · have hstb : (((qel T f).1.length : Int) == (most : Int)) = true := by simp [hst]
          have HST2 : Hid (tq al n most (f + 1) = T) := hid (by rw [HST.out, if_pos hst])
          clear hst HST
          generalize (qel T f).1.length = ls at *
          go_wp2_with fail
          go_roundg (2000 - (f + 1))
          case measure => omega
          case rel =>
            refine ⟨f + 1, by omega, by omega, by go_num, _, _, _, _, by rw [HST2.out], by rw [HST2.out], HTN.out, by unfold Aside; rw [HST2.out]; exact QW5.out, ?_⟩
            unfold Aside
            rw [HST2.out]
            intro i hi
            by_cases q : i = f
            · subst q; exact HGO.out
            · exact NG.out i (by omega)
        · have hstb : (((qel T f).1.length : Int) == (most : Int)) = false := by simp; omega
          have HST2 : Hid (tq al n most (f + 1) = exK al (qel T f) al.length T) := hid (by rw [HST.out, if_neg hst])
          have hdl := HDL.out
          have HR1 : Hid (∀ k, k ≤ al.length → qel (exK al (qel T f) k T) f = qel T f ∧ f < (exK al (qel T f) k T).length ∧ (exK al (qel T f) k T).length ≤ 1369 ∧ AllN n (exK al (qel T f) k T)) := hid fun k hk => by
            have q := exK_snocs al (qel T f) k T hlt
            obtain ⟨N, e, hNl, _⟩ := exK_pre al (qel T f) k T
            refine ⟨q.1, q.2, ?_, HAN.out.exK _ (fun k hk => (HAL.out k hk).1) k hk⟩
            rw [e, List.length_append]; omega
          have HKE : Hid (∀ i, i < f → (qel (exK al (qel T f) al.length T) i).2 = (qel T i).2) := hid fun i hi => by rw [(exK_snocs al (qel T f) al.length T (show i < T.length by omega)).1]
          have HX1 : Hid (exK al (qel T f) 0 T = T) := hid rfl
          clear HST HAN hst
          generalize hrr : qel T f = r at *
          have HRR := hid hrr
          clear hrr
          go_wp2_with fail
          go_loopg [7, 8, 10] al.length (fun gg vo vk s wr => ∃ k : Nat, k ≤ al.length ∧ al.length - k ≤ gg ∧ s = .int .i64 k ∧ ∃ Ao co Ak ck, vo = .slice Ao (exK al r k T).length co ∧ vk = .slice Ak (exK al r k T).length ck ∧ Aside (QJ wr w vo vk (exK al r k T)))
          case atStart => exact ⟨0, Nat.zero_le _, by omega, rfl, _, _, _, _, rfl, rfl, QW5.out⟩
          case round =>
            obtain ⟨k, hk, hgk, rfl, Ao, co, Ak, ck, rfl, rfl, QK⟩ := hrel
            obtain ⟨wk, rfl⟩ : ∃ wk : World, wk = wr := ⟨_, rfl⟩
            clear y1 QW5
            by_cases hltk : k < al.length
            · have hltk' : (k : Int) < (al.length : Int) := by omega
              obtain ⟨bs, os, As, cs, e1, hcs, hccs, hrs⟩ := (HR.out.below QK.out.bel).get (k := k) hltk
              cases e1
              have hsl := (HAL.out k hltk).1
              have hss := (HAL.out k hltk).2
              rw [hsl] at hcs hccs
              obtain ⟨q1, q2, q3, q4⟩ := HR1.out k (by omega)
              have HE1 : Hid (seenB (exK al r k T) (pick r.2 (rw_ al k)) = true → exK al r (k + 1) T = exK al r k T) := hid fun h => by show ex1 al r k (exK al r k T) = _; unfold ex1; rw [if_pos h]
              have HE2 : Hid (seenB (exK al r k T) (pick r.2 (rw_ al k)) = false → exK al r (k + 1) T = exK al r k T ++ [(r.1 ++ [(k : Int)], pick r.2 (rw_ al k))]) := hid fun h => by show ex1 al r k (exK al r k T) = _; unfold ex1; rw [if_neg (by rw [h]; exact Bool.false_ne_true)]
              have HPL : Hid ((pick r.2 (rw_ al k)).length = n) := hid (by rw [pick_length]; exact hsl)
              have HAK := hid q4
              generalize exK al r k T = O at *
              obtain ⟨Aq, cq, eq_, hcq, hcq2, hget⟩ := QK.out.o.get
              cases eq_
              obtain ⟨bo, A3, c3, A4, c4, rfl, x1, x2, t1, t2⟩ := hget f q2
              rw [q1] at x1 x2 t1 t2
              have cp := fun W (hW : Below wk.heap.size wk W) => s_l04Apply W A4 As c4 cs r.2 (rw_ al k) (fun q hq => by
                have := shufB_el hss hq
                rw [hsl] at this; rw [hdl]; exact this) (by omega) (by omega) (t2.rd.below hW) (hrs.below hW)
              simp only [hsl, hdl] at cp
              rw [hdl] at x2
              have CP := hid cp
              have T1 := hid t1
              have X1 := hid x1
              have hfO : (f : Int) < (O.length : Int) := by omega
              clear cp hrs hsl hss hget t1 t2 q1 q4 x1
              generalize pick r.2 (rw_ al k) = sh at *
              have HSd : Hid (wk.drew.cell? ⟨b0, o0 + k, none⟩ = some (.slice As n cs) ∧ wk.drew.cell? ⟨bo, f * 2 + 1, none⟩ = some (.slice A4 n c4)) := hid ⟨hcs, x2⟩
              have HQK := hid QK.out
              clear QK
              go_wp2_with fail
              go_region_held3 (fun W => W.cell? ⟨b0, o0 + k, none⟩ = some (.slice As n cs) ∧ W.cell? ⟨bo, f * 2 + 1, none⟩ = some (.slice A4 n c4)) (first | exact HSd.out | exact HS6.out) ((go_at_call 144; refine (CP.out _ (bdrewL wk)).mono ?_; rintro e w6 ⟨v6, rfl, ho6, hb6⟩; obtain ⟨A6, c6, rfl, _, _, hr6⟩ := Own.int ho6; have HS6 := hid (And.intro (bcell hb6 HSd.out.1) (bcell hb6 HSd.out.2)); have HB6 := hid (bthen (bdrewL wk) hb6); have HO6 := hid ho6; clear ho6 hb6))
              have hz6 := HB6.out.size
              have TS6 : Hid (RdT w6 (ob (.slice Ak O.length ck)) A6 sh) := hid (RdT.of HO6.out fun b hb q => by have := (HQK.out.k.ownK q).2.1; exact absurd this (Nat.not_lt.2 hb))
              have hsh : sh.length ≤ 16 := by have := HPL.out; omega
              have CK := hid (s_l04Key w6 A6 c6 sh (by omega) hr6)
              clear HSd HS6 CP hcs x2
              go_wp2_with fail
              refine CK.out.mono ?_
              rintro e w7 ⟨rfl, hb7⟩
              have HB7 := hid (bthen HB6.out hb7)
              have QK7 := hid (HQK.out.below HB7.out)
              have TS7 := hid (TS6.out.keep (Kp.of hb7))
              have TR7 := hid (T1.out.keep (Kp.of HB7.out))
              have X7 := hid (bcell HB7.out X1.out)
              clear CK HQK TS6 T1 X1 hb7 hr6 HO6 HB6
              go_wp2_with fail
              go_loopg [13, 14] O.length (fun gg kn s wr => ∃ i : Nat, i ≤ O.length ∧ O.length - i ≤ gg ∧ s = .int .i64 i ∧ ∃ bb : Bool, kn = .bool bb ∧ Aside (Below w7.heap.size w7 wr) ∧ Aside (bb = seenB (O.take i) sh))
              case atStart => exact ⟨0, Nat.zero_le _, by omega, rfl, false, rfl, Below.refl _ _, rfl⟩
              case round =>
                obtain ⟨i, hi, hgi, rfl, bb, rfl, BWi, HSE⟩ := hrel
                obtain ⟨wi, rfl⟩ : ∃ wi : World, wi = wr := ⟨_, rfl⟩
                cases bb with
                | true =>
                  have HEK := hid (HE1.out (seenB_mono HSE.out.symm))
                  have QK8 := hid (QK7.out.below BWi.out)
                  clear HE1 HE2 QK7 TS7 TR7 X7
                  by_cases hlti : i < O.length
                  · have hlti' : (i : Int) < (O.length : Int) := by omega
                    go_wp2_with fail
                    go_roundg (al.length - (k + 1))
                    case measure => omega
                    case rel => exact ⟨k + 1, by omega, by omega, by go_num, _, _, _, _, by rw [HEK.out], by rw [HEK.out], by unfold Aside; rw [HEK.out]; exact QK8.out⟩
                  · have hnlti : ¬ (i : Int) < (O.length : Int) := by omega
                    go_wp2_with fail
                    go_roundg (al.length - (k + 1))
                    case measure => omega
                    case rel => exact ⟨k + 1, by omega, by omega, by go_num, _, _, _, _, by rw [HEK.out], by rw [HEK.out], by unfold Aside; rw [HEK.out]; exact QK8.out⟩
                | false =>
                  by_cases hlti : i < O.length
                  · have hlti' : (i : Int) < (O.length : Int) := by omega
                    have QK8 := QK7.out.below BWi.out
                    obtain ⟨bk, ok, e, hck⟩ := (OwnI.rd QK8.k) i (by simp; omega)
                    cases e
                    simp only [el_map hlti] at hck
                    obtain ⟨Aq, cq, eq_, _, _, hget⟩ := QK8.o.get
                    cases eq_
                    obtain ⟨bo2, A7, c7, A5, c5, e2, _, x2, _, t2⟩ := hget i hlti
                    cases e2
                    have hql : (qel O i).2.length ≤ 16 := by have := HAK.out _ (qel_mem hlti); omega
                    have cs := s_l00Same wi A5 A6 c5 c6 (qel O i).2 sh (by omega) (by omega) t2.rd (TS7.out.keep (Kp.of BWi.out)).rd
                    have HTA : Hid (decide ((qel O i).2 = sh) = seenB (O.take (i + 1)) sh) := hid (by rw [seenB_take hlti, ← HSE.out]; rfl)
                    have CS := hid cs
                    clear cs hget t2 QK8 HSE
                    by_cases hke : keyI (qel O i).2 = keyI sh
                    · have hkb : (keyI (qel O i).2 == keyI sh) = true := by simpa using hke
                      have HKE2 := hid hke
                      clear hke
                      generalize keyI (qel O i).2 = ki at *
                      generalize hkk : keyI sh = kk at *
                      have HKK := hid hkk
                      clear hkk
                      go_wp2_with fail
                      refine CS.out.mono ?_
                      rintro e w8 ⟨rfl, hb8⟩
                      have BW8 : Aside (Below w7.heap.size w7 w8) := bthen BWi.out hb8
                      clear CS BWi hb8 HKE2
                      go_wp2_with fail
                      go_roundg (O.length - (i + 1))
                      case measure => omega
                      case rel => exact ⟨i + 1, by omega, by omega, by go_num, _, rfl, BW8, HTA.out⟩
                    · have hkb : (keyI (qel O i).2 == keyI sh) = false := by simpa using hke
                      have HTB : Hid (false = seenB (O.take (i + 1)) sh) := hid (by rw [← HTA.out]; symm; simp; rintro rfl; exact hke rfl)
                      clear hke CS HTA
                      generalize keyI (qel O i).2 = ki at *
                      generalize hkk : keyI sh = kk at *
                      have HKK := hid hkk
                      clear hkk
                      go_wp2_with fail
                      go_roundg (O.length - (i + 1))
                      case measure => omega
                      case rel => exact ⟨i + 1, by omega, by omega, by go_num, _, rfl, BWi, HTB.out⟩
                  · have hnlti : ¬ (i : Int) < (O.length : Int) := by omega
                    have hii : i = O.length := by omega
                    have HEK := hid (HE2.out (by have := HSE.out; rw [hii, List.take_length] at this; exact this.symm))
                    have QK8 := hid (QK7.out.below BWi.out)
                    have TR8 := hid (TR7.out.keep (Kp.of BWi.out))
                    have TS8 := hid (TS7.out.keep (Kp.of BWi.out))
                    have X8 := bcell BWi.out X7.out
                    have ZI : w.heap.size ≤ wi.heap.size := QK8.out.z
                    have CO := hid (s_l00Own wi A3 c3 r.1 (by omega) TR8.out.rd)
                    clear HE1 HE2 QK7 TS7 TR7 X7 HSE BWi hii
                    go_wp2_with fail
                    refine CO.out.mono ?_
                    rintro e w8 ⟨v8, rfl, ho8, hb8⟩
                    obtain ⟨A8, c8, rfl, _, _, _⟩ := Own.int ho8
                    have hz8 := hb8.size
                    have HO8 := hid ho8
                    have HB8 := hid hb8
                    clear CO ho8 hb8 X8
                    go_wp2_with (first
                      | (at_builtin; refine wp_append1 wi.heap.size rfl _ _ 29 2 (.int .i64 0) 8 rfl Try.underlying29 infoInt rfl (.slice A8 r.1.length c8) r.1.length _ (.int .i64 (k : Nat)) rfl rfl rfl HO8.out hz8 (by omega) (by omega) ?_; intro v9 w9 hown9 hbel9; obtain ⟨A9, c9, e9, _, _, _⟩ := Own.shape hown9; subst e9; have HO9 := hid hown9; have HB9 := hid (HB8.out.trans hbel9); clear hown9 hbel9; have QK9 := hid (QK8.out.below HB9.out); have TS9 := hid (TS8.out.keep (Kp.of HB9.out)); have H9L := hid (show OwnI w9 wi.heap.size w9.heap.size 2 (.slice A9 (r.1.length + 1) c9) (r.1 ++ [(k : Int)]) from (by have := HO9.out; unfold OwnI; rw [ints_append, List.length_append]; exact this)); have HPK := hid (PK.of (p := (r.1 ++ [(k : Int)], sh)) (kb := ob (.slice Ak O.length ck)) (c6 := c6) H9L.out (by simp) ZI (fun b hb q => (Nat.not_lt.2 hb) (QK8.out.k.ownK q).2.1) TS9.out))
                      | (at_builtin; refine wp_appQ 100 108 ste_ne Try.underlying100 infoSteps w.heap.size (ob (.slice Ak O.length ck)) rfl _ _ rfl (.slice (some ⟨bo, 0, none⟩) O.length co) O (r.1 ++ [(k : Int)], sh) (.slice A9 (r.1.length + 1) c9) (.slice A6 sh.length c6) rfl rfl rfl rfl QK9.out.o HPK.out QK9.out.z (by omega) ?_; intro g10 cap10 w10 hq10 hkp10 hke10 hbe10; have HQ10 := hid hq10; have HP10 := hid hkp10; have HE10 := hid hke10; have HB10 := hid hbe10; clear hq10 hkp10 hke10 hbe10; have HK10 := hid (QK9.out.keysO ste_ne HP10.out.size HE10.out); have hz10 := Nat.le_trans QK9.out.z HP10.out.size)
                      | (at_builtin; refine wp_appendK w.heap.size rfl _ _ 29 2 (.int .i64 0) 8 rfl Try.underlying29 infoInt rfl (.slice Ak O.length ck) (O.map fun p => keyI p.2) (keyI sh) rfl rfl HK10.out hz10 (by simp; omega) (by simp; omega) ?_; intro v11 w11 hown11 hbel11 hke11 hat11; obtain ⟨A11, c11, e11, _, _, _⟩ := Own.int hown11; subst e11; have HO11 := hid hown11; have HB11 := hid hbel11; have HE11 := hid hke11; have HA11 := hid hat11; clear hown11 hbel11 hke11 hat11))
                    have HQF := hid (QI.app ste_ne QK9.out HQ10.out HP10.out HE10.out HB10.out HO11.out HB11.out HE11.out HA11.out HB11.out.size)
                    go_roundg (al.length - (k + 1))
                    case measure => omega
                    case rel => exact ⟨k + 1, by omega, by omega, by go_num, _, _, _, _, by rw [HEK.out, List.length_append, List.length_singleton], by rw [HEK.out, List.length_append, List.length_singleton], by unfold Aside; rw [HEK.out]; have := HQF.out; simp only [List.length_append, List.length_singleton, List.length_map] at this; exact this⟩
            · have hnltk : ¬ (k : Int) < (al.length : Int) := by omega
              obtain rfl : k = al.length := by omega
              obtain ⟨q1, _, _, _⟩ := HR1.out al.length (Nat.le_refl _)
              have HNG : Hid (∀ i, i < f + 1 → (qel (exK al r al.length T) i).2 ≠ goal) := hid fun i hi => by
                by_cases q : i = f
                · subst q; rw [q1]; exact HGO.out
                · rw [HKE.out i (by omega)]; exact NG.out i (by omega)
              clear q1
              go_wp2_with fail
              go_roundg (2000 - (f + 1))
              case measure => omega
              case rel => exact ⟨f + 1, by omega, by omega, by go_num, _, _, _, _, by rw [HST2.out], by rw [HST2.out], HTN.out, by unfold Aside; rw [HST2.out]; exact QK.out, by unfold Aside; rw [HST2.out]; exact HNG.out⟩
    · have HLA := hid (HT.out.last hlt)
      have HPRE := hid HT.out.pre
      generalize tq al n most f = T at *
      have hnlt : ¬ (f : Int) < (T.length : Int) := by omega
      go_wp2_with fail
      go_ret
      exact ⟨_, T.length, _, rfl, QW.out.bel, T, QW.out.o.re fun b _ q => q.elim, HPRE.out.2, Nat.le_refl _, .inr ⟨rfl, HLA.out, fun i hi => NG.out i (by omega)⟩⟩
end Go.Proofs.Ytolcmehndambmaa
