import Derived.Test.YtolcmehndambmaaRwsA
set_option linter.unusedVariables false
set_option linter.unusedSimpArgs false
namespace Go.Proofs.Ytolcmehndambmaa
open Go.RowKit

/-! ### Rows that are marked -/
/-- The rows' marks, from m on. -/
def mkR (m : Int) (xss : List (List Int)) : List (List Int) := (List.range xss.length).map fun k => marks (m + rtot xss k) (rw_ xss k).length
theorem mkR_length (m : Int) (xss : List (List Int)) : (mkR m xss).length = xss.length := by simp [mkR]
theorem mkR_row (m : Int) (xss : List (List Int)) {k : Nat} (h : k < xss.length) : rw_ (mkR m xss) k = marks (m + rtot xss k) (rw_ xss k).length := by
  unfold rw_ mkR; rw [List.getD_eq_getElem?_getD]; simp [h, rw_]
theorem rsz_tot {xss : List (List Int)} {k : Nat} (h : k ≤ xss.length) : rtot xss k ≤ rsz xss := by
  have := rtot_mono xss h; unfold rsz; omega
/-- The rows, the first k of them marked. -/
structure MkdR (w : World) (lo hi : Nat) (v : Value) (xss : List (List Int)) (f : Nat → Value) (m : Int) (k : Nat) : Prop where
  outer : Own w lo hi 29 1 v xss.length ((List.range xss.length).map f)
  done : ∀ j, j < k → OI w lo hi (f j) (marks (m + rtot xss j) (rw_ xss j).length)
  left : ∀ j, k ≤ j → j < xss.length → OI w lo hi (f j) (rw_ xss j)
theorem l_markInt64SSO (w : World) (lo hi : Nat) (v : Value) (xss : List (List Int)) (m : Int) (h0 : 0 ≤ m) (h1 : m + rsz xss ≤ 9223372036854775807) (hO : OR w lo hi v xss) :
    Calls Try.prog 23 #[v, .int .i64 m] w fun e w' => e = .returned (.int .i64 (m + rtot xss xss.length)) ∧ OR w' lo hi v (mkR m xss) ∧ Chg lo hi w w' := by
  obtain ⟨f, ho, hr, ha1, ha2⟩ := hO
  have hlen : xss.length ≤ rsz xss := by unfold rsz; omega
  have hT : ∀ k, k ≤ xss.length → (rtot xss k : Int) ≤ rsz xss := fun k hk => by have := rsz_tot hk; omega
  have HT := hid hT
  have HA1 := hid ha1
  have HA2 := hid ha2
  have HI : Hid (MkdR w lo hi v xss f m 0) := hid ⟨ho, fun j hj => absurd hj (Nat.not_lt_zero _), fun j _ hj => hr j hj⟩
  obtain ⟨A, c, rfl, hc1, hc2, _⟩ := ho.shape
  clear ho hr ha1 ha2 hT
  go_enter Try.func23, Try.ntmps23
  go_wp2
  go_loopg [1, 5] xss.length (fun gg mk s wr => ∃ k : Nat, k ≤ xss.length ∧ xss.length - k ≤ gg ∧ s = .int .i64 k ∧ mk = .int .i64 (m + rtot xss k) ∧ Aside (Chg lo hi w wr) ∧ Aside (MkdR wr lo hi (.slice A xss.length c) xss f m k))
  case atStart => exact ⟨0, Nat.zero_le _, by omega, rfl, by simp [rtot], Chg.refl _ _ _, HI.out⟩
  case round =>
    obtain ⟨k, hk, hg, rfl, rfl, CW, OW⟩ := hrel
    clear HI
    by_cases hlt : k < xss.length
    · have hlt' : (k : Int) < (xss.length : Int) := by omega
      obtain ⟨A', c', e', _, _, hs⟩ := OW.out.outer.shape
      obtain ⟨rfl, rfl⟩ : A' = A ∧ c' = c := by cases e'; exact ⟨rfl, rfl⟩
      rcases hs with ⟨_, hz⟩ | ⟨g, rfl, hlo, hhi, hcells, _⟩
      · omega
      have hck := hcells k (f k) (by simp [hlt])
      have hrow := OW.out.left k (Nat.le_refl _) hlt
      obtain ⟨Ar, cr, efk, _, _, _⟩ := hrow.shp
      have hst : rtot xss (k + 1) = rtot xss k + (rw_ xss k).length := rfl
      have hb1 := HT.out (k + 1) (by omega)
      have hb0 := HT.out k (by omega)
      have hcall : Hid (Calls Try.prog 22 #[f k, .int .i64 (m + rtot xss k)] wr fun e w' => e = .returned (.int .i64 (m + rtot xss k + (rw_ xss k).length)) ∧ Chg lo hi wr w' ∧ MkdR w' lo hi (.slice (some ⟨g, 0, none⟩) xss.length c') xss f m (k + 1)) := hid (by
        cases hob : (f k).ownBlock with
        | none =>
          have hnar : OI wr lo lo (f k) (rw_ xss k) := ⟨hrow.1, fun a ha => by rw [hob] at ha; cases ha⟩
          refine (l_markInt64SO wr lo lo (f k) (rw_ xss k) (m + rtot xss k) (by omega) (by omega) hnar).mono ?_
          rintro e w' ⟨rfl, ho, hC⟩
          have hq : ∀ j, j < wr.heap.size → w'.heap[j]? = wr.heap[j]? := fun j hj => hC.block j hj (by omega)
          refine ⟨rfl, hC.wide (Nat.le_refl _) (by omega), ?_, ?_, ?_⟩
          · exact own_blk OW.out.outer fun j hj => hq j (own_at OW.out.outer hj).2.2
          · intro j hj
            by_cases e : j = k
            · subst e; exact Own.wide ho (Nat.le_refl _) (by omega)
            · exact own_blk (OW.out.done j (by omega)) fun i hi => hq i (own_at (OW.out.done j (by omega)) hi).2.2
          · intro j h1 h2
            exact own_blk (OW.out.left j (by omega) h2) fun i hi => hq i (own_at (OW.out.left j (by omega) h2) hi).2.2
        | some a =>
          have hnar : OI wr a (a + 1) (f k) (rw_ xss k) := own_tight hrow hob
          have hat := own_at hrow hob
          refine (l_markInt64SO wr a (a + 1) (f k) (rw_ xss k) (m + rtot xss k) (by omega) (by omega) hnar).mono ?_
          rintro e w' ⟨rfl, ho, hC⟩
          have hq : ∀ j, j < wr.heap.size → j ≠ a → w'.heap[j]? = wr.heap[j]? := fun j hj hn => hC.block j hj (by omega)
          refine ⟨rfl, hC.wide (by omega) (by omega), ?_, ?_, ?_⟩
          · exact own_blk OW.out.outer fun j hj => hq j (own_at OW.out.outer hj).2.2 (HA2.out k j a hlt hj hob)
          · intro j hj
            by_cases e : j = k
            · subst e; exact Own.wide ho (by omega) (by omega)
            · exact own_blk (OW.out.done j (by omega)) fun i hi => hq i (own_at (OW.out.done j (by omega)) hi).2.2 (HA1.out j k i a (by omega) hlt hi hob)
          · intro j h1 h2
            exact own_blk (OW.out.left j (by omega) h2) fun i hi => hq i (own_at (OW.out.left j (by omega) h2) hi).2.2 (Ne.symm (HA1.out k j a i (by omega) h2 hob hi)))
      have HE : Hid (m + rtot xss k + (rw_ xss k).length = m + rtot xss (k + 1)) := hid (by omega)
      have HC := hid CW.out
      clear hcells e' OW CW hrow hst hb0 hb1 HT HA1 HA2
      rw [efk] at hck hcall
      clear efk
      generalize rtot xss k = t at *
      generalize (rw_ xss k).length = rl at *
      go_wp2_with fail
      refine hcall.out.mono ?_
      rintro e w' ⟨rfl, hC, hM⟩
      have C2 := hid (HC.out.trans hC)
      have M2 := hid hM
      clear hC hM HC hcall hck
      go_wp2_with fail
      go_roundg (xss.length - (k + 1))
      case measure => omega
      case rel => exact ⟨k + 1, by omega, by omega, by go_num, by rw [HE.out], C2.out, M2.out⟩
    · have : k = xss.length := by omega
      subst this
      have hlt' : ¬ ((xss.length : Nat) : Int) < ((xss.length : Nat) : Int) := by omega
      have HM := hid OW.out
      have HC := hid CW.out
      clear OW CW HT
      go_wp2_with fail
      go_ret
      refine ⟨rfl, ⟨f, ?_, ?_, ?_, ?_⟩, HC.out⟩
      · rw [mkR_length]; exact HM.out.outer
      · intro k hk; rw [mkR_length] at hk; rw [mkR_row m xss hk]; exact HM.out.done k hk
      · intro i j a b hij hj; rw [mkR_length] at hj; exact HA1.out i j a b hij hj
      · intro k a b hk; rw [mkR_length] at hk; exact HA2.out k a b hk
theorem l_heldInt64SSR (w : World) (A : Option Addr) (c : Nat) (xss : List (List Int)) (m : Int) (hm0 : 0 ≤ m) (hn : m + rsz xss ≤ 9223372036854775807) (hr : RdR w A (mkR m xss)) :
    Calls Try.prog 24 #[.slice A xss.length c, .int .i64 m] w fun e w' => e = .returned (.int .i64 (m + rtot xss xss.length)) ∧ Below w.heap.size w w' := by
  have hlen : xss.length ≤ rsz xss := by unfold rsz; omega
  have HT : Hid (∀ k, k ≤ xss.length → (rtot xss k : Int) ≤ rsz xss) := hid fun k hk => by have := rsz_tot hk; omega
  have HR := hid hr
  have HL := hid (mkR_length m xss)
  clear hr
  go_enter Try.func24, Try.ntmps24
  go_wp2
  go_loopg [1, 5] xss.length (fun gg mk s wr => ∃ k : Nat, k ≤ xss.length ∧ xss.length - k ≤ gg ∧ s = .int .i64 k ∧ mk = .int .i64 (m + rtot xss k) ∧ Aside (Below w.heap.size w wr))
  case atStart => exact ⟨0, Nat.zero_le _, by omega, rfl, by simp [rtot], Below.refl _ _⟩
  case round =>
    obtain ⟨k, hk, hg, rfl, rfl, BW⟩ := hrel
    by_cases hlt : k < xss.length
    · have hlt' : (k : Int) < (xss.length : Int) := by omega
      obtain ⟨b, off, A', c', rfl, hc, _, hrow⟩ := (HR.out.below BW.out).get (k := k) (by rw [HL.out]; exact hlt)
      rw [mkR_row m xss hlt] at hc hrow
      have hst : rtot xss (k + 1) = rtot xss k + (rw_ xss k).length := rfl
      have hb1 := HT.out (k + 1) (by omega)
      have hb0 := HT.out k (by omega)
      have hcall := l_heldInt64S wr A' c' (marks (m + rtot xss k) (rw_ xss k).length) (m + rtot xss k) (by omega) (by rw [marks_length]; omega) hrow
      have hmk := held_marks m (rw_ xss k).length (rtot xss k)
      rw [hmk, marks_length] at hcall
      rw [marks_length] at hc
      have HE : Hid (m + rtot xss k + (rw_ xss k).length = m + rtot xss (k + 1)) := hid (by omega)
      have hnn : ¬ (m + rtot xss k + (rw_ xss k).length < 0) := by omega
      have HC := hid hcall
      clear hcall hmk hst hb0 hb1 HT HR HL hrow
      generalize rtot xss k = t at *
      generalize (rw_ xss k).length = rl at *
      go_wp2_with fail
      refine HC.out.mono ?_
      rintro e w' ⟨rfl, hb'⟩
      have BW' : Aside (Below w.heap.size w w') := bthen BW.out hb'
      clear HC hc hb' BW
      go_wp2_with fail
      go_roundg (xss.length - (k + 1))
      case measure => omega
      case rel => exact ⟨k + 1, by omega, by omega, by go_num, by rw [HE.out], BW'⟩
    · have : k = xss.length := by omega
      subst this
      have hlt' : ¬ ((xss.length : Nat) : Int) < ((xss.length : Nat) : Int) := by omega
      clear HT HR HL
      go_wp2_with fail
      go_ret
      exact ⟨rfl, BW.out⟩
theorem l_heldInt64SSG (w : World) (lo hi : Nat) (v : Value) (xss : List (List Int)) (m : Int) (hm0 : 0 ≤ m) (hn : m + rsz xss ≤ 9223372036854775807) (h : OR w lo hi v (mkR m xss)) :
    Calls Try.prog 24 #[v, .int .i64 m] w fun e w' => e = .returned (.int .i64 (m + rtot xss xss.length)) ∧ Below w.heap.size w w' := by
  obtain ⟨A, c, rfl, _, _, hr⟩ := h.shp
  rw [mkR_length]
  exact l_heldInt64SSR w A c xss m hm0 hn hr
theorem l_heldInt64SSM (w : World) (lo hi : Nat) (v : Value) (xss : List (List Int)) (hn : rsz xss ≤ 4611686018427387904) (h : OR w lo hi v (mkR 1 xss)) :
    Calls Try.prog 24 #[v, .int .i64 1] w fun e w' => e = .returned (.int .i64 (1 + rtot xss xss.length)) ∧ Below w.heap.size w w' := l_heldInt64SSG w lo hi v xss 1 (by omega) (by omega) h
end Go.Proofs.Ytolcmehndambmaa
