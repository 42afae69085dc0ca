import Derived.Test.YtolcmehndambmaaRwsA
import Derived.Test.YtolcmehndambmaaBase
import Derived.Test.YtolcmehndambmaaBfs15
import Derived.Test.YtolcmehndambmaaBfs16
import Derived.Test.YtolcmehndambmaaRws3
import Derived.Test.YtolcmehndambmaaLawO
import Derived.WalkKit
import Derived.ProofKit
import Derived.OpenShut
import Derived.Test.YtolcmehndambmaaRws
import Derived.Deep.Matrix
import Derived.Test.YtolcmehndambmaaRows
import Derived.ShutString
import Derived.ChangeOld
import Derived.Below
set_option linter.unusedVariables false
set_option linter.unusedSimpArgs false
namespace Go.Proofs.Ytolcmehndambmaa
open Go.RowKit

/-! ### Rows that are marked -/
/-- The rows' marks, from m on. -/
def mkR (m : Int) (xss : List (List Int)) : List (List Int) := (List.range xss.length).map fun k => marks (m + rtot xss k) (rw_ xss k).length
theorem mkR_length (m : Int) (xss : List (List Int)) : (mkR m xss).length = xss.length := by simp [mkR]
theorem mkR_row (m : Int) (xss : List (List Int)) {k : Nat} (h : k < xss.length) : rw_ (mkR m xss) k = marks (m + rtot xss k) (rw_ xss k).length := by
  unfold rw_ mkR; rw [List.getD_eq_getElem?_getD]; simp [h, rw_]
theorem rsz_tot {xss : List (List Int)} {k : Nat} (h : k ≤ xss.length) : rtot xss k ≤ rsz xss := by
  have := rtot_mono xss h; unfold rsz; omega
/-- The rows, the first k of them marked. -/
structure MkdR (w : World) (lo hi : Nat) (v : Value) (xss : List (List Int)) (f : Nat → Value) (m : Int) (k : Nat) : Prop where
  outer : Own w lo hi 29 1 v xss.length ((List.range xss.length).map f)
  done : ∀ j, j < k → OI w lo hi (f j) (marks (m + rtot xss j) (rw_ xss j).length)
  left : ∀ j, k ≤ j → j < xss.length → OI w lo hi (f j) (rw_ xss j)
theorem l_markInt64SSO (w : World) (lo hi : Nat) (v : Value) (xss : List (List Int)) (m : Int) (h0 : 0 ≤ m) (h1 : m + rsz xss ≤ 9223372036854775807) (hO : OR w lo hi v xss) :
    Calls Try.prog 23 #[v, .int .i64 m] w fun e w' => e = .returned (.int .i64 (m + rtot xss xss.length)) ∧ OR w' lo hi v (mkR m xss) ∧ Chg lo hi w w' := by
  obtain ⟨f, ho, hr, ha1, ha2⟩ := hO
  have hlen : xss.length ≤ rsz xss := by unfold rsz; omega
  have hT : ∀ k, k ≤ xss.length → (rtot xss k : Int) ≤ rsz xss := fun k hk => by have := rsz_tot hk; omega
  have HT := hid hT
  have HA1 := hid ha1
  have HA2 := hid ha2
  have HI : Hid (MkdR w lo hi v xss f m 0) := hid ⟨ho, fun j hj => absurd hj (Nat.not_lt_zero _), fun j _ hj => hr j hj⟩
  obtain ⟨A, c, rfl, hc1, hc2, _⟩ := ho.shape
  clear ho hr ha1 ha2 hT
  go_enter Try.func23, Try.ntmps23
  go_wp2
  go_loopg [1, 5] xss.length (fun gg mk s wr => ∃ k : Nat, k ≤ xss.length ∧ xss.length - k ≤ gg ∧ s = .int .i64 k ∧ mk = .int .i64 (m + rtot xss k) ∧ Aside (Chg lo hi w wr) ∧ Aside (MkdR wr lo hi (.slice A xss.length c) xss f m k))
  case atStart => exact ⟨0, Nat.zero_le _, by omega, rfl, by simp [rtot], Chg.refl _ _ _, HI.out⟩
  case round =>
    obtain ⟨k, hk, hg, rfl, rfl, CW, OW⟩ := hrel
    clear HI
    by_cases hlt : k < xss.length
    · have hlt' : (k : Int) < (xss.length : Int) := by omega
      obtain ⟨A', c', e', _, _, hs⟩ := OW.out.outer.shape
      obtain ⟨rfl, rfl⟩ : A' = A ∧ c' = c := by cases e'; exact ⟨rfl, rfl⟩
      rcases hs with ⟨_, hz⟩ | ⟨g, rfl, hlo, hhi, hcells, _⟩
      · omega
      have hck := hcells k (f k) (by simp [hlt])
      have hrow := OW.out.left k (Nat.le_refl _) hlt
      obtain ⟨Ar, cr, efk, _, _, _⟩ := hrow.shp
      have hst : rtot xss (k + 1) = rtot xss k + (rw_ xss k).length := rfl
      have hb1 := HT.out (k + 1) (by omega)
      have hb0 := HT.out k (by omega)
      have hcall : Hid (Calls Try.prog 22 #[f k, .int .i64 (m + rtot xss k)] wr fun e w' => e = .returned (.int .i64 (m + rtot xss k + (rw_ xss k).length)) ∧ Chg lo hi wr w' ∧ MkdR w' lo hi (.slice (some ⟨g, 0, none⟩) xss.length c') xss f m (k + 1)) := hid (by
        cases hob : (f k).ownBlock with
        | none =>
          have hnar : OI wr lo lo (f k) (rw_ xss k) := ⟨hrow.1, fun a ha => by rw [hob] at ha; cases ha⟩
          refine (l_markInt64SO wr lo lo (f k) (rw_ xss k) (m + rtot xss k) (by omega) (by omega) hnar).mono ?_
          rintro e w' ⟨rfl, ho, hC⟩
          have hq : ∀ j, j < wr.heap.size → w'.heap[j]? = wr.heap[j]? := fun j hj => hC.block j hj (by omega)
          refine ⟨rfl, hC.wide (Nat.le_refl _) (by omega), ?_, ?_, ?_⟩
          · exact own_blk OW.out.outer fun j hj => hq j (own_at OW.out.outer hj).2.2
          · intro j hj
            by_cases e : j = k
            · subst e; exact Own.wide ho (Nat.le_refl _) (by omega)
            · exact own_blk (OW.out.done j (by omega)) fun i hi => hq i (own_at (OW.out.done j (by omega)) hi).2.2
          · intro j h1 h2
            exact own_blk (OW.out.left j (by omega) h2) fun i hi => hq i (own_at (OW.out.left j (by omega) h2) hi).2.2
        | some a =>
          have hnar : OI wr a (a + 1) (f k) (rw_ xss k) := own_tight hrow hob
          have hat := own_at hrow hob
          refine (l_markInt64SO wr a (a + 1) (f k) (rw_ xss k) (m + rtot xss k) (by omega) (by omega) hnar).mono ?_
          rintro e w' ⟨rfl, ho, hC⟩
          have hq : ∀ j, j < wr.heap.size → j ≠ a → w'.heap[j]? = wr.heap[j]? := fun j hj hn => hC.block j hj (by omega)
          refine ⟨rfl, hC.wide (by omega) (by omega), ?_, ?_, ?_⟩
          · exact own_blk OW.out.outer fun j hj => hq j (own_at OW.out.outer hj).2.2 (HA2.out k j a hlt hj hob)
          · intro j hj
            by_cases e : j = k
            · subst e; exact Own.wide ho (by omega) (by omega)
            · exact own_blk (OW.out.done j (by omega)) fun i hi => hq i (own_at (OW.out.done j (by omega)) hi).2.2 (HA1.out j k i a (by omega) hlt hi hob)
          · intro j h1 h2
            exact own_blk (OW.out.left j (by omega) h2) fun i hi => hq i (own_at (OW.out.left j (by omega) h2) hi).2.2 (Ne.symm (HA1.out k j a i (by omega) h2 hob hi)))
      have HE : Hid (m + rtot xss k + (rw_ xss k).length = m + rtot xss (k + 1)) := hid (by omega)
      have HC := hid CW.out
      clear hcells e' OW CW hrow hst hb0 hb1 HT HA1 HA2
      rw [efk] at hck hcall
      clear efk
      generalize rtot xss k = t at *
      generalize (rw_ xss k).length = rl at *
      go_wp2_with fail
      refine hcall.out.mono ?_
      rintro e w' ⟨rfl, hC, hM⟩
      have C2 := hid (HC.out.trans hC)
      have M2 := hid hM
      clear hC hM HC hcall hck
      go_wp2_with fail
      go_roundg (xss.length - (k + 1))
      case measure => omega
      case rel => exact ⟨k + 1, by omega, by omega, by go_num, by rw [HE.out], C2.out, M2.out⟩
    · have : k = xss.length := by omega
      subst this
      have hlt' : ¬ ((xss.length : Nat) : Int) < ((xss.length : Nat) : Int) := by omega
      have HM := hid OW.out
      have HC := hid CW.out
      clear OW CW HT
      go_wp2_with fail
      go_ret
      refine ⟨rfl, ⟨f, ?_, ?_, ?_, ?_⟩, HC.out⟩
      · rw [mkR_length]; exact HM.out.outer
      · intro k hk; rw [mkR_length] at hk; rw [mkR_row m xss hk]; exact HM.out.done k hk
      · intro i j a b hij hj; rw [mkR_length] at hj; exact HA1.out i j a b hij hj
      · intro k a b hk; rw [mkR_length] at hk; exact HA2.out k a b hk
theorem l_heldInt64SSR (w : World) (A : Option Addr) (c : Nat) (xss : List (List Int)) (m : Int) (hm0 : 0 ≤ m) (hn : m + rsz xss ≤ 9223372036854775807) (hr : RdR w A (mkR m xss)) :
    Calls Try.prog 24 #[.slice A xss.length c, .int .i64 m] w fun e w' => e = .returned (.int .i64 (m + rtot xss xss.length)) ∧ Below w.heap.size w w' := by
  have hlen : xss.length ≤ rsz xss := by unfold rsz; omega
  have HT : Hid (∀ k, k ≤ xss.length → (rtot xss k : Int) ≤ rsz xss) := hid fun k hk => by have := rsz_tot hk; omega
  have HR := hid hr
  have HL := hid (mkR_length m xss)
  clear hr
  go_enter Try.func24, Try.ntmps24
  go_wp2
  go_loopg [1, 5] xss.length (fun gg mk s wr => ∃ k : Nat, k ≤ xss.length ∧ xss.length - k ≤ gg ∧ s = .int .i64 k ∧ mk = .int .i64 (m + rtot xss k) ∧ Aside (Below w.heap.size w wr))
  case atStart => exact ⟨0, Nat.zero_le _, by omega, rfl, by simp [rtot], Below.refl _ _⟩
  case round =>
    obtain ⟨k, hk, hg, rfl, rfl, BW⟩ := hrel
    by_cases hlt : k < xss.length
    · have hlt' : (k : Int) < (xss.length : Int) := by omega
      obtain ⟨b, off, A', c', rfl, hc, _, hrow⟩ := (HR.out.below BW.out).get (k := k) (by rw [HL.out]; exact hlt)
      rw [mkR_row m xss hlt] at hc hrow
      have hst : rtot xss (k + 1) = rtot xss k + (rw_ xss k).length := rfl
      have hb1 := HT.out (k + 1) (by omega)
      have hb0 := HT.out k (by omega)
      have hcall := l_heldInt64S wr A' c' (marks (m + rtot xss k) (rw_ xss k).length) (m + rtot xss k) (by omega) (by rw [marks_length]; omega) hrow
      have hmk := held_marks m (rw_ xss k).length (rtot xss k)
      rw [hmk, marks_length] at hcall
      rw [marks_length] at hc
      have HE : Hid (m + rtot xss k + (rw_ xss k).length = m + rtot xss (k + 1)) := hid (by omega)
      have hnn : ¬ (m + rtot xss k + (rw_ xss k).length < 0) := by omega
      have HC := hid hcall
      clear hcall hmk hst hb0 hb1 HT HR HL hrow
      generalize rtot xss k = t at *
      generalize (rw_ xss k).length = rl at *
      go_wp2_with fail
      refine HC.out.mono ?_
      rintro e w' ⟨rfl, hb'⟩
      have BW' : Aside (Below w.heap.size w w') := bthen BW.out hb'
      clear HC hc hb' BW
      go_wp2_with fail
      go_roundg (xss.length - (k + 1))
      case measure => omega
      case rel => exact ⟨k + 1, by omega, by omega, by go_num, by rw [HE.out], BW'⟩
    · have : k = xss.length := by omega
      subst this
      have hlt' : ¬ ((xss.length : Nat) : Int) < ((xss.length : Nat) : Int) := by omega
      clear HT HR HL
      go_wp2_with fail
      go_ret
      exact ⟨rfl, BW.out⟩
theorem l_heldInt64SSG (w : World) (lo hi : Nat) (v : Value) (xss : List (List Int)) (m : Int) (hm0 : 0 ≤ m) (hn : m + rsz xss ≤ 9223372036854775807) (h : OR w lo hi v (mkR m xss)) :
    Calls Try.prog 24 #[v, .int .i64 m] w fun e w' => e = .returned (.int .i64 (m + rtot xss xss.length)) ∧ Below w.heap.size w w' := by
  obtain ⟨A, c, rfl, _, _, hr⟩ := h.shp
  rw [mkR_length]
  exact l_heldInt64SSR w A c xss m hm0 hn hr
theorem l_heldInt64SSM (w : World) (lo hi : Nat) (v : Value) (xss : List (List Int)) (hn : rsz xss ≤ 4611686018427387904) (h : OR w lo hi v (mkR 1 xss)) :
    Calls Try.prog 24 #[v, .int .i64 1] w fun e w' => e = .returned (.int .i64 (1 + rtot xss xss.length)) ∧ Below w.heap.size w w' := l_heldInt64SSG w lo hi v xss 1 (by omega) (by omega) h
end Go.Proofs.Ytolcmehndambmaa
set_option linter.unusedVariables false
set_option linter.unusedSimpArgs false
namespace Go.Proofs.Ytolcmehndambmaa
open Go.RowKit

theorem law_ShortestSteps (w : World) (A0 : Option Addr) (c0 : Nat) (xs0 : List (List Int)) (A1 : Option Addr) (c1 : Nat) (xs1 : List Int) (a2 : Int) (hl0 : BigR xs0) (hR0 : RdR w A0 xs0) (hl1 : xs1.length ≤ 9223372036854775807) (hR1 : RdI w A1 xs1) :
    Calls Try.prog 7 #[.slice A0 xs0.length c0, .slice A1 xs1.length c1, .int .i64 a2] w fun e w' => e = .returned (.bool true) ∧ Below w.heap.size w w' := by
  have hbw := Below.refl w.heap.size w
  by_cases big1 : 1048576 < xs1.length
  · go_enter Try.func7, Try.ntmps7
    go_wp2
    go_ret
    exact ⟨rfl, Below.refl _ _⟩
  have hs1 : xs1.length ≤ 1048576 := by omega
  clear big1
  have ssz0 := fun W (hW : Below w.heap.size w W) => l_szInt64SSO W A0 c0 xs0 (1048576 : Int) hl0 (by omega) (by omega) (hR0.below hW)
  by_cases big0 : (1048576 : Int) < (rsz xs0 : Nat)
  · simp only [szR, if_pos big0] at ssz0
    go_enter Try.func7, Try.ntmps7
    go_wp2_with fail
    refine (ssz0 _ (Below.refl _ _)).mono ?_
    rintro e z0 ⟨rfl, hbz0⟩
    have hcz0 := hbz0
    go_wp2_with fail
    go_ret
    exact ⟨rfl, hcz0⟩
  · simp only [szR, if_neg big0] at ssz0
    have hs0 : rsz xs0 ≤ 1048576 := by omega
    go_enter Try.func7, Try.ntmps7
    have hbw := Below.refl w.heap.size w
    go_wp2_with fail
    refine (ssz0 _ hbw).mono ?_
    rintro e w1 ⟨rfl, hbw1⟩
    have hzw1 := hbw1.size
    replace hbw := bthen hbw hbw1
    clear ssz0 big0
    have hres := m_ShortestSteps_len xs0 xs1 a2
    go_wp2_with fail
    refine (l_toInt64SSO w1 A0 c0 xs0 hs0 (hR0.below hbw)).mono ?_
    rintro e w2 ⟨vw2, rfl, how2, hbw2⟩
    have hzw2 := hbw2.size
    replace hbw := bthen hbw hbw2
    obtain ⟨Aw2, cw2, rfl, _, _, _⟩ := how2.shp
    go_wp2_with fail
    refine (l_toInt64SO w2 A1 c1 xs1 (by omega) (hR1.below hbw)).mono ?_
    rintro e w3 ⟨vw3, rfl, how3, hbw3⟩
    have hzw3 := hbw3.size
    replace hbw := bthen hbw hbw3
    replace how2 := how2.eqv (Eqv.of hbw3 (by omega))
    obtain ⟨Aw3, cw3, rfl, _, _, _⟩ := how3.shp
    go_wp2_with fail
    refine (s_ShortestSteps _ _ _ _ _ _ _ a2 hs0 how2.rd (by omega) how3.rd).mono ?_
    rintro e w4 ⟨vw4, rfl, how4, hbw4⟩
    have hzw4 := hbw4.size
    replace hbw := bthen hbw hbw4
    replace how2 := how2.eqv (Eqv.of hbw4 (by omega))
    replace how3 := how3.eqv (Eqv.of hbw4 (by omega))
    obtain ⟨Aw4, cw4, rfl, _, _, _⟩ := how4.shp
    clear how2
    clear how3
    go_wp2_with fail
    refine (l_toInt64SSO w4 A0 c0 xs0 hs0 (hR0.below hbw)).mono ?_
    rintro e w5 ⟨vw5, rfl, how5, hbw5⟩
    have hzw5 := hbw5.size
    replace hbw := bthen hbw hbw5
    replace how4 := how4.eqv (Eqv.of hbw5 (by omega))
    obtain ⟨Aw5, cw5, rfl, _, _, _⟩ := how5.shp
    go_wp2_with fail
    refine (l_toInt64SO w5 A1 c1 xs1 (by omega) (hR1.below hbw)).mono ?_
    rintro e w6 ⟨vw6, rfl, how6, hbw6⟩
    have hzw6 := hbw6.size
    replace hbw := bthen hbw hbw6
    replace how4 := how4.eqv (Eqv.of hbw6 (by omega))
    replace how5 := how5.eqv (Eqv.of hbw6 (by omega))
    obtain ⟨Aw6, cw6, rfl, _, _, _⟩ := how6.shp
    go_wp2_with fail
    refine (i_ShortestSteps _ _ _ _ _ _ _ a2 hs0 how5.rd (by omega) how6.rd).mono ?_
    rintro e w7 ⟨vw7, rfl, how7, hbw7⟩
    have hzw7 := hbw7.size
    replace hbw := bthen hbw hbw7
    replace how4 := how4.eqv (Eqv.of hbw7 (by omega))
    replace how5 := how5.eqv (Eqv.of hbw7 (by omega))
    replace how6 := how6.eqv (Eqv.of hbw7 (by omega))
    obtain ⟨Aw7, cw7, rfl, _, _, _⟩ := how7.shp
    go_wp2_with fail
    refine (l_eqInt64SO _ _ _ _ _ _ _ _ _ (by omega) (by omega) how7 how4).mono ?_
    rintro e w8 ⟨rfl, hbw8⟩
    have hzw8 := hbw8.size
    replace hbw := bthen hbw hbw8
    replace how4 := how4.eqv (Eqv.of hbw8 (by omega))
    replace how5 := how5.eqv (Eqv.of hbw8 (by omega))
    replace how6 := how6.eqv (Eqv.of hbw8 (by omega))
    replace how7 := how7.eqv (Eqv.of hbw8 (by omega))
    go_wp2_with fail
    refine (l_toInt64SSO w8 A0 c0 xs0 hs0 (hR0.below hbw)).mono ?_
    rintro e w9 ⟨vw9, rfl, how9, hbw9⟩
    have hzw9 := hbw9.size
    replace hbw := bthen hbw hbw9
    replace how4 := how4.eqv (Eqv.of hbw9 (by omega))
    replace how5 := how5.eqv (Eqv.of hbw9 (by omega))
    replace how6 := how6.eqv (Eqv.of hbw9 (by omega))
    replace how7 := how7.eqv (Eqv.of hbw9 (by omega))
    obtain ⟨Aw9, cw9, rfl, _, _, _⟩ := how9.shp
    go_wp2_with fail
    refine (l_eqInt64SSO _ _ _ _ _ _ _ _ _ hs0 hs0 how5 how9).mono ?_
    rintro e w10 ⟨rfl, hbw10⟩
    have hzw10 := hbw10.size
    replace hbw := bthen hbw hbw10
    replace how4 := how4.eqv (Eqv.of hbw10 (by omega))
    replace how5 := how5.eqv (Eqv.of hbw10 (by omega))
    replace how6 := how6.eqv (Eqv.of hbw10 (by omega))
    replace how7 := how7.eqv (Eqv.of hbw10 (by omega))
    replace how9 := how9.eqv (Eqv.of hbw10 (by omega))
    clear how9
    go_wp2_with fail
    refine (l_toInt64SO w10 A1 c1 xs1 (by omega) (hR1.below hbw)).mono ?_
    rintro e w11 ⟨vw11, rfl, how11, hbw11⟩
    have hzw11 := hbw11.size
    replace hbw := bthen hbw hbw11
    replace how4 := how4.eqv (Eqv.of hbw11 (by omega))
    replace how5 := how5.eqv (Eqv.of hbw11 (by omega))
    replace how6 := how6.eqv (Eqv.of hbw11 (by omega))
    replace how7 := how7.eqv (Eqv.of hbw11 (by omega))
    obtain ⟨Aw11, cw11, rfl, _, _, _⟩ := how11.shp
    go_wp2_with fail
    refine (l_eqInt64SO _ _ _ _ _ _ _ _ _ (by omega) (by omega) how6 how11).mono ?_
    rintro e w12 ⟨rfl, hbw12⟩
    have hzw12 := hbw12.size
    replace hbw := bthen hbw hbw12
    replace how4 := how4.eqv (Eqv.of hbw12 (by omega))
    replace how5 := how5.eqv (Eqv.of hbw12 (by omega))
    replace how6 := how6.eqv (Eqv.of hbw12 (by omega))
    replace how7 := how7.eqv (Eqv.of hbw12 (by omega))
    replace how11 := how11.eqv (Eqv.of hbw12 (by omega))
    clear how11
    have hrt0 := rsz_tot (xss := xs0) (Nat.le_refl _)
    go_wp2_with fail
    refine (l_markInt64SSO _ _ _ _ _ _ (by omega) (by omega) how5).mono ?_
    rintro e w13 ⟨rfl, hmw13, hCw13⟩
    clear how5
    have hzw13 := hCw13.size
    replace hbw := hbw.trans (hCw13.below (by omega) (by omega))
    replace how4 := how4.eqv (hCw13.eqv (by omega) (by omega))
    replace how6 := how6.eqv (hCw13.eqv (by omega) (by omega))
    replace how7 := how7.eqv (hCw13.eqv (by omega) (by omega))
    clear hmw13
    go_wp2_with fail
    refine (l_markInt64SO _ _ _ _ _ _ (by omega) (by omega) how6).mono ?_
    rintro e w14 ⟨rfl, hmw14, hCw14⟩
    clear how6
    have hzw14 := hCw14.size
    replace hbw := hbw.trans (hCw14.below (by omega) (by omega))
    replace how4 := how4.eqv (hCw14.eqv (by omega) (by omega))
    replace how7 := how7.eqv (hCw14.eqv (by omega) (by omega))
    clear hmw14
    go_wp2_with fail
    refine (l_eqInt64SO _ _ _ _ _ _ _ _ _ (by omega) (by omega) how7 how4).mono ?_
    rintro e w15 ⟨rfl, hbw15⟩
    have hzw15 := hbw15.size
    replace hbw := bthen hbw hbw15
    replace how4 := how4.eqv (Eqv.of hbw15 (by omega))
    replace how7 := how7.eqv (Eqv.of hbw15 (by omega))
    go_wp2_with fail
    refine (l_markInt64SO _ _ _ _ _ _ (by omega) (by omega) how7).mono ?_
    rintro e w16 ⟨rfl, hmw16, hCw16⟩
    have hzw16 := hCw16.size
    replace hbw := hbw.trans (hCw16.below (by omega) (by omega))
    clear how7
    replace how4 := how4.eqv (hCw16.eqv (by omega) (by omega))
    go_wp2_with fail
    refine (l_heldInt64SM _ _ _ _ _ (by omega) hmw16).mono ?_
    rintro e w17 ⟨rfl, hbw17⟩
    have hzw17 := hbw17.size
    replace hbw := bthen hbw hbw17
    replace how4 := how4.eqv (Eqv.of hbw17 (by omega))
    replace hmw16 := hmw16.eqv (Eqv.of hbw17 (by omega))
    go_wp2_with fail
    refine (l_toInt64SSO w17 A0 c0 xs0 hs0 (hR0.below hbw)).mono ?_
    rintro e w18 ⟨vw18, rfl, how18, hbw18⟩
    have hzw18 := hbw18.size
    replace hbw := bthen hbw hbw18
    replace how4 := how4.eqv (Eqv.of hbw18 (by omega))
    replace hmw16 := hmw16.eqv (Eqv.of hbw18 (by omega))
    obtain ⟨Aw18, cw18, rfl, _, _, _⟩ := how18.shp
    go_wp2_with fail
    refine (l_toInt64SO w18 A1 c1 xs1 (by omega) (hR1.below hbw)).mono ?_
    rintro e w19 ⟨vw19, rfl, how19, hbw19⟩
    have hzw19 := hbw19.size
    replace hbw := bthen hbw hbw19
    replace how4 := how4.eqv (Eqv.of hbw19 (by omega))
    replace hmw16 := hmw16.eqv (Eqv.of hbw19 (by omega))
    replace how18 := how18.eqv (Eqv.of hbw19 (by omega))
    obtain ⟨Aw19, cw19, rfl, _, _, _⟩ := how19.shp
    go_wp2_with fail
    refine (i_ShortestSteps _ _ _ _ _ _ _ a2 hs0 how18.rd (by omega) how19.rd).mono ?_
    rintro e w20 ⟨vw20, rfl, how20, hbw20⟩
    have hzw20 := hbw20.size
    replace hbw := bthen hbw hbw20
    replace how4 := how4.eqv (Eqv.of hbw20 (by omega))
    replace hmw16 := hmw16.eqv (Eqv.of hbw20 (by omega))
    replace how18 := how18.eqv (Eqv.of hbw20 (by omega))
    replace how19 := how19.eqv (Eqv.of hbw20 (by omega))
    obtain ⟨Aw20, cw20, rfl, _, _, _⟩ := how20.shp
    clear how18
    clear how19
    go_wp2_with fail
    refine (l_eqInt64SO _ _ _ _ _ _ _ _ _ (by omega) (by omega) how20 how4).mono ?_
    rintro e w21 ⟨rfl, hbw21⟩
    have hzw21 := hbw21.size
    replace hbw := bthen hbw hbw21
    replace how4 := how4.eqv (Eqv.of hbw21 (by omega))
    replace hmw16 := hmw16.eqv (Eqv.of hbw21 (by omega))
    replace how20 := how20.eqv (Eqv.of hbw21 (by omega))
    go_wp2_with fail
    refine (l_heldInt64SM _ _ _ _ _ (by omega) hmw16).mono ?_
    rintro e w22 ⟨rfl, hbw22⟩
    have hzw22 := hbw22.size
    replace hbw := bthen hbw hbw22
    replace how4 := how4.eqv (Eqv.of hbw22 (by omega))
    replace hmw16 := hmw16.eqv (Eqv.of hbw22 (by omega))
    replace how20 := how20.eqv (Eqv.of hbw22 (by omega))
    go_wp2_with fail
    go_ret
    exact ⟨rfl, hbw⟩
end Go.Proofs.Ytolcmehndambmaa
set_option linter.unusedVariables false
set_option linter.unusedSimpArgs false
namespace Go.Proofs.Ytolcmehndambmaa
open Go.ChangeShapes Go.WideShapes Go.ChangeAt Go.RowKit
theorem own : ownKnob Try.prog.godebug = none := by kernel_rfl
theorem laidOut : laidOutB Try.prog = true := by kernel_rfl
theorem cellsInt : Try.prog.cellsOf 2 = 1 := by kernel_rfl
set_option maxRecDepth 100000 in
theorem open_I {H : Type} {enc : TypeId × Value → H} {W : World} {base : Nat} {v : Value} {d : DataW H} {p : List MemPlace}
    (hv : Value.okWide Try.prog W .any base 29 v) (h : DataW.Trod enc Try.prog W 0 (fun _ => true) true 29 v d p) :
    ∃ (A : Option Addr) (c : Nat) (xs : List Int), v = .slice A xs.length c ∧ xs.length ≤ 9223372036854775807 ∧ RdI W A xs := by
  obtain ⟨a, len, cap, rfl⟩ := okWide_slice Try.underlying29 hv
  obtain ⟨fuel, hf⟩ := h
  rcases open_ints Try.underlying29 Try.underlying2 cellsInt hf with ⟨hcs, _⟩ | ⟨x, l, c, zs, hcs, _, hl, hm, hz, _, hcell, _⟩
  · simp [Value.cells] at hcs
    obtain ⟨rfl, rfl, rfl⟩ := hcs
    exact ⟨none, 0, [], rfl, by simp, fun k hk => absurd hk (Nat.not_lt_zero _)⟩
  · simp [Value.cells] at hcs
    obtain ⟨rfl, rfl, rfl⟩ := hcs
    simp only [if_true] at hz
    have hlen : (zs.take len).length = len := by rw [List.length_take]; omega
    refine ⟨some x, cap, zs.take len, by rw [hlen], by rw [hlen]; simp only [maxLen] at hm; omega, ?_⟩
    intro k hk
    rw [hlen] at hk
    have hc := hcell k (by omega)
    have he : el (zs.take len) k = zs.getD k 0 := by
      unfold el; rw [List.getD_eq_getElem?_getD, List.getD_eq_getElem?_getD, List.getElem?_take_of_lt hk]
    have hs : x.spot = none := by
      have hc0 := hcell 0 (by omega)
      cases hx : x.spot with
      | none => rfl
      | some s =>
        rw [show x.add 0 = x from rfl] at hc0
        simp only [World.cell?] at hc0
        split at hc0
        · rw [if_pos (by rw [hx]; rfl)] at hc0; cases hc0
        · cases hc0
    obtain ⟨b, off, s⟩ := x
    obtain rfl : s = none := hs
    refine ⟨b, off, rfl, ?_⟩
    show W.cell? _ = some (.int .i64 (el (List.take len zs) k))
    rw [he, ← hc]
    congr 1
    unfold Addr.add
    split
    · rename_i h; subst h; rfl
    · rfl
end Go.Proofs.Ytolcmehndambmaa
set_option linter.unusedVariables false
set_option linter.unusedSimpArgs false
namespace Go.Proofs.Ytolcmehndambmaa
open Go.ChangeShapes Go.WideShapes Go.ChangeAt Go.RowKit
theorem cellsRow : Try.prog.cellsOf 29 = 1 := by kernel_rfl
theorem flat_addr {W : World} {x : Addr} {v : Value} (h : W.cell? x = some v) : x.spot = none := by
  cases hx : x.spot with
  | none => rfl
  | some s =>
    simp only [World.cell?] at h
    split at h
    · rw [if_pos (by rw [hx]; rfl)] at h; cases h
    · cases h
set_option maxRecDepth 100000 in
theorem open_R {H : Type} {enc : TypeId × Value → H} {W : World} {base : Nat} {v : Value} {d : DataW H} {p : List MemPlace}
    (hv : Value.okWide Try.prog W .any base 35 v) (h : DataW.Trod enc Try.prog W 0 (fun _ => true) true 35 v d p) :
    ∃ (A : Option Addr) (c : Nat) (xs : List (List Int)), v = .slice A xs.length c ∧ BigR xs ∧ RdR W A xs := by
  obtain ⟨a, len, cap, rfl⟩ := okWide_slice Try.underlying35 hv
  obtain ⟨fuel, hf⟩ := h
  rcases Deep.open_int_rows Try.underlying35 Try.underlying29 Try.underlying2 cellsRow cellsInt hf with ⟨hcs, _⟩ | ⟨x, l, c, A, L, C, Z, hcs, _, hl, hm, _, hcell⟩
  · simp [Value.cells] at hcs
    obtain ⟨rfl, rfl, rfl⟩ := hcs
    exact ⟨none, 0, [], rfl, ⟨by simp, fun k hk => absurd hk (Nat.not_lt_zero _)⟩, fun _ => .slice none 0 0, fun k hk => absurd hk (Nat.not_lt_zero _), fun k hk => absurd hk (Nat.not_lt_zero _)⟩
  · simp [Value.cells] at hcs
    obtain ⟨rfl, rfl, rfl⟩ := hcs
    have hrow : ∀ k, k < len → rw_ ((List.range len).map fun r => (Z r).take (L r)) k = (Z k).take (L k) := fun k hk => by
      unfold rw_; rw [List.getD_eq_getElem?_getD]; simp [hk]
    have hlen : ∀ k, k < len → ((Z k).take (L k)).length = L k := fun k hk => by
      obtain ⟨_, h1, _, h3, _⟩ := hcell k (by omega)
      rw [List.length_take]; omega
    refine ⟨some x, cap, (List.range len).map fun r => (Z r).take (L r), by simp, ⟨by simp only [maxLen] at hm; simp; omega, fun k hk => ?_⟩, fun k => .slice (A k) (L k) (C k), fun k hk => ?_, fun k hk => ?_⟩
    · have hk' : k < len := by simpa using hk
      rw [hrow k hk', hlen k hk']
      obtain ⟨_, h1, h2, _⟩ := hcell k (by omega)
      simp only [maxLen] at h2
      omega
    · have hk' : k < len := by simpa using hk
      obtain ⟨hc, _⟩ := hcell k (by omega)
      have hs : x.spot = none := by
        have := flat_addr (hcell 0 (by omega)).1
        exact this
      obtain ⟨b, off, s⟩ := x
      obtain rfl : s = none := hs
      refine ⟨b, off, rfl, ?_⟩
      rw [← hc]
      congr 1
      unfold Addr.add
      split
      · rename_i h; subst h; rfl
      · rfl
    · have hk' : k < len := by simpa using hk
      obtain ⟨_, h1, _, h3, _, h5, h6⟩ := hcell k (by omega)
      rw [hrow k hk']
      refine ⟨A k, C k, by rw [hlen k hk'], by rw [hlen k hk']; exact h1, fun i hi => ?_⟩
      rw [hlen k hk'] at hi
      cases ha : A k with
      | none => have := h5 ha; omega
      | some a' =>
        obtain ⟨_, h7⟩ := h6 a' ha
        have hs : a'.spot = none := flat_addr (h7 0 (by omega))
        obtain ⟨b, off, s⟩ := a'
        obtain rfl : s = none := hs
        refine ⟨b, off, rfl, ?_⟩
        have he : el ((Z k).take (L k)) i = (Z k).getD i 0 := by
          unfold el; rw [List.getD_eq_getElem?_getD, List.getD_eq_getElem?_getD, List.getElem?_take_of_lt hi]
        show W.cell? _ = some (.int .i64 (el _ i))
        rw [he, ← h7 i (by omega)]
        congr 1
        unfold Addr.add
        split
        · rename_i h; subst h; rfl
        · rfl
end Go.Proofs.Ytolcmehndambmaa
/- For every input the law FnExactShortestSteps holds: the program's ShortestSteps answers what the reference's answers, leaves its arguments as they are, and shares no memory; no condition. -/
set_option linter.unusedVariables false
set_option linter.unusedSimpArgs false
namespace Go.Proofs.Ytolcmehndambmaa.fnExactShortestSteps
open Go.ChangeShapes Go.WideShapes Go.ChangeAt Go.RowKit
open Go.ChangeMaps (open_string shut_string)
theorem own : ownKnob Try.prog.godebug = none := by kernel_rfl
theorem laidOut : laidOutB Try.prog = true := by kernel_rfl
set_option maxRecDepth 100000 in
theorem lifted (os : Os) (started : os.Started) (H : Type) (enc : TypeId × Value → H) :
    ReturnsInHanded {} Try.checked os 7 .any (Rows.fnExactShortestStepsSpec.pre6 enc Try.prog Try.f7 Rows.fnExactShortestStepsRow.domain false) (Rows.fnExactShortestStepsSpec.post enc Try.prog Try.f7 false true false false) := by
  refine returnsInHanded_of_change (C := Try.checked) own started (by kernel_rfl) Try.func7
    (ChangeSpec.witness6 (enc := enc) (C := Try.checked) false ⟨#[], #[.slice none 0 0, .slice none 0 0, .int .i64 0], []⟩ 8 (by kernel_rfl) (by kernel_rfl) (by kernel_rfl) (by kernel_rfl)) ?_
  intro W base args ds gs before hval0 hW hcnd _
  have hval : ∀ (j : Nat) t v, Try.f7.params[j]? = some t → args[j]? = some v → Value.okWide Try.prog W .any base t v := hval0
  have hW' := hW
  obtain ⟨p, q, hA0, hV, rfl, hfz, hnd⟩ := hW
  have hA : DataW.TrodAll enc Try.prog W 0 (fun _ => true) true Try.f7.params.toList args.toList ds p := hA0
  rw [Try.params7] at hA hval
  obtain ⟨v0, vs0, d0, ds0, p0, q0, hargs, rfl, rfl, h0, r0⟩ := trodAll_cons hA
  obtain ⟨v1, vs1, d1, ds1, p1, q1, rfl, rfl, rfl, h1, r1⟩ := trodAll_cons r0
  obtain ⟨v2, vs2, d2, ds2, p2, q2, rfl, rfl, rfl, h2, r2⟩ := trodAll_cons r1
  obtain ⟨rfl, rfl, rfl⟩ := trodAll_nil r2
  obtain rfl : args = #[v0, v1, v2] := by cases args; simp_all
  obtain ⟨rfl, rfl⟩ := trodVars_none hV
  have k0 := h0
  have lt0 : ∀ x ∈ p0, x.block < W.heap.size := by obtain ⟨m, hm⟩ := k0; exact DataW.trod_lt m _ _ _ hm
  obtain ⟨A0, c0, xs0, rfl, hl0, hR0⟩ := open_R (hval 0 35 v0 rfl rfl) h0
  have k1 := h1
  have lt1 : ∀ x ∈ p1, x.block < W.heap.size := by obtain ⟨m, hm⟩ := k1; exact DataW.trod_lt m _ _ _ hm
  obtain ⟨A1, c1, xs1, rfl, hl1, hR1⟩ := open_I (hval 1 29 v1 rfl rfl) h1
  have k2 := h2
  have lt2 : ∀ x ∈ p2, x.block < W.heap.size := by obtain ⟨m, hm⟩ := k2; exact DataW.trod_lt m _ _ _ hm
  obtain ⟨a2, rfl, rfl, rfl, w2⟩ := open_int Try.underlying2 (hval 2 2 v2 rfl rfl) h2
  clear hA0 hval0
  refine (law_ShortestSteps W A0 c0 xs0 A1 c1 xs1 a2 hl0 hR0 hl1 hR1).mono fun e W' ⟨he, bel⟩ => ?_
  subst he
  exact ⟨_, rfl, _, _, _, [], _, [], hW', trodAll_mk1 (shut_bool Try.underlying4 _), (trodAll_cons_mk (Below.trod laidOut (by kernel_rfl) (of_decide_eq_true (by kernel_rfl)) k0 bel lt0) (trodAll_cons_mk (Below.trod laidOut (by kernel_rfl) (of_decide_eq_true (by kernel_rfl)) k1 bel lt1) (trodAll_cons_mk (Below.trod laidOut (by kernel_rfl) (of_decide_eq_true (by kernel_rfl)) k2 bel lt2) trodAll_mk0))), rfl, bel.frame _, fun h => by cases h⟩
theorem over : Rows.fnExactShortestStepsRow.holds Try.pinned (OpenSpec.ofChange Rows.fnExactShortestStepsSpec) :=
  OpenClaim.holds_of_wide 7 Try.f7 rfl rfl rfl rfl rfl rfl rfl ⟨rfl, rfl, rfl, rfl, rfl⟩ rfl rfl rfl rfl rfl (by kernel_rfl) Try.func7 (by kernel_rfl)
    (of_decide_eq_true (by kernel_rfl)) (by unfold Func.isWrapper; first | (rw [if_pos (by decide +kernel)]; kernel_rfl) | (rw [if_neg (by decide +kernel)]; exact ⟨rfl, rfl⟩))
    (fun os started H enc _ => lifted os started H enc)
theorem proved : Rows.FnExactShortestStepsSaid := over
#print axioms proved
end Go.Proofs.Ytolcmehndambmaa.fnExactShortestSteps
