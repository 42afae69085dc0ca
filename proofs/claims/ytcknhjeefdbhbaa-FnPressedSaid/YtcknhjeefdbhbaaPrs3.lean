import Derived.Test.YtcknhjeefdbhbaaPrs2
import Derived.Test.YtcknhjeefdbhbaaOrd3
set_option linter.unusedVariables false
set_option linter.unusedSimpArgs false
namespace Go.Proofs.Ytcknhjeefdbhbaa
open Go.RowKit

set_option maxRecDepth 100000 in
set_option maxHeartbeats 1000000 in
theorem s_l06Live (w : World) (A' A : Option Addr) (c' c : Nat) (ts : List TaskV) (xs : List Int) (hO : TOk ts) (hl : xs.length ≤ 8) (hT : RdT w A' ts) (hR : RdI w A xs) :
    Calls Try.prog 212 #[.slice A' ts.length c', .slice A xs.length c] w fun e w' => e = .returned (.int .i64 (cntS ts xs xs.length : Nat)) ∧ Below w.heap.size w w' := by
  have hfew := hO.few
  have HT := hid hT
  have HR := hid hR
  have HO := hid hO
  have HH := hid (fun W A c (ys : List Int) v (h : RdI W A ys) (hl : ys.length ≤ 9223372036854775807) => s_l00Has W A c ys v hl h)
  have HC : Hid (∀ k, cntS ts xs (k + 1) = cntS ts xs k + (if lvN ts xs (el xs k) ts.length then 1 else 0)) := hid fun _ => rfl
  have HCB : Hid (∀ k, cntS ts xs k ≤ k) := hid (cntS_le ts xs)
  have HV : Hid (∀ x i, lvN ts xs x (i + 1) = (lvN ts xs x i || (!hasB xs (i : Int) && hasB (tel ts i).needs x))) := hid fun _ _ => rfl
  clear hT hR hO
  go_enter Try.func212, Try.ntmps212
  go_wp2
  go_loopg [5, 6] xs.length (fun gg v s wr => ∃ k : Nat, k ≤ xs.length ∧ xs.length - k ≤ gg ∧ s = .int .i64 k ∧ v = .int .i64 (cntS ts xs k : Nat) ∧ Aside (Below w.heap.size w wr))
  case atStart => exact ⟨0, Nat.zero_le _, by omega, rfl, rfl, Below.refl _ _⟩
  case round =>
    obtain ⟨k, hk, hg, rfl, rfl, BW⟩ := hrel
    obtain ⟨wo, rfl⟩ : ∃ wo : World, wo = wr := ⟨_, rfl⟩
    by_cases hlt : k < xs.length
    · have hcb := HCB.out k
      have HCK := hid (HC.out k)
      have HBO := hid BW.out
      have hv0 : lvN ts xs (el xs k) 0 = false := rfl
      clear BW HC HCB
      generalize cntS ts xs k = q at *
      go_wp2
      go_loopg [7, 8] ts.length (fun gg v s wr => ∃ i : Nat, i ≤ ts.length ∧ ts.length - i ≤ gg ∧ s = .int .i64 i ∧ v = .bool (lvN ts xs (el xs k) i) ∧ Aside (Below w.heap.size w wr))
      case atStart => exact ⟨0, Nat.zero_le _, by omega, rfl, by rw [hv0], HBO.out⟩
      case round =>
        obtain ⟨i, hi, hgi, rfl, rfl, BI⟩ := hrel
        clear hv0 HBO
        by_cases hli : i < ts.length
        · have hit : (i : Int) < (ts.length : Int) := by omega
          have hkx : (k : Int) < (xs.length : Int) := by omega
          have HVK := hid (HV.out (el xs k) i)
          have HBN := hid (fun n => bdrewN BI.out n)
          cases hv : lvN ts xs (el xs k) i with
          | true =>
            rw [hv, Bool.true_or] at HVK
            clear hv HV HT HR HO HH BI HCK
            go_wp2
            go_quiet (fail)
            go_wp2
            go_roundg (ts.length - (i + 1))
            case measure => omega
            case rel => exact ⟨i + 1, by omega, by omega, by go_num, by rw [HVK.out], HBN.out _⟩
          | false =>
            rw [hv, Bool.false_or] at HVK
            have hRd := HR.out.below BI.out
            have h1 := fun n => HH.out (wr.drewN n) A c xs (i : Int) (hRd.below (bdrewN (Below.refl _ _) n)) (by omega)
            obtain ⟨bt, offt, A2, c2, rfl, p0, p1, p2, _, hrn⟩ := (HT.out.below BI.out).get hli
            have h2 := fun n => HH.out (wr.drewN n) A2 c2 (tel ts i).needs (el xs k) (hrn.below (bdrewN (Below.refl _ _) n)) (by have := HO.out.len i hli; omega)
            obtain ⟨bx, offx, rfl, hcx⟩ := hRd.get hlt
            have hnl := HO.out.len i hli
            clear p0 p1 hrn hRd BI HV HT HR HO HH HCK
            generalize hasB xs (i : Int) = b1 at *
            generalize hasB (tel ts i).needs (el xs k) = b2 at *
            cases b1 with
            | true =>
              have HQ : Hid (lvN ts xs (el xs k) (i + 1) = false) := hid (by rw [HVK.out]; rfl)
              have H1 := hid h1
              clear h1 h2 HVK hv p2 hcx
              go_wp2
              go_quiet (with_reducible exact Calls.quiet_of_same ((H1.out _).mono fun e w' h => ⟨h.1, h.2.symm⟩))
              go_wp2
              go_roundg (ts.length - (i + 1))
              case measure => omega
              case rel => exact ⟨i + 1, by omega, by omega, by go_num, by rw [HQ.out], HBN.out _⟩
            | false =>
              have HQ : Hid (lvN ts xs (el xs k) (i + 1) = b2) := hid (by rw [HVK.out]; simp)
              have H1 := hid h1
              have H2 := hid h2
              clear h1 h2 HVK hv
              generalize (tel ts i).needs.length = nl at *
              generalize hx : el xs k = x at *
              have HX := hid hx
              clear hx
              go_wp2
              go_quiet (first | with_reducible exact Calls.quiet_of_same ((H1.out _).mono fun e w' h => ⟨h.1, h.2.symm⟩) | with_reducible exact Calls.quiet_of_same ((H2.out _).mono fun e w' h => ⟨h.1, h.2.symm⟩))
              go_wp2
              go_roundg (ts.length - (i + 1))
              case measure => omega
              case rel => exact ⟨i + 1, by omega, by omega, by go_num, by rw [HQ.out], HBN.out _⟩
        · have : i = ts.length := by omega
          subst this
          clear HV HT HR HO HH
          cases hv : lvN ts xs (el xs k) ts.length with
          | true =>
            have HQ : Hid (cntS ts xs (k + 1) = q + 1) := hid (by rw [HCK.out, if_pos hv])
            clear HCK hv
            go_wp2
            go_roundg (xs.length - (k + 1))
            case measure => omega
            case rel => exact ⟨k + 1, by omega, by omega, by go_num, (by rw [HQ.out]; go_num), BI⟩
          | false =>
            have HQ : Hid (cntS ts xs (k + 1) = q) := hid (by rw [HCK.out, if_neg (by rw [hv]; simp)]; rfl)
            clear HCK hv
            go_wp2
            go_roundg (xs.length - (k + 1))
            case measure => omega
            case rel => exact ⟨k + 1, by omega, by omega, by go_num, (by rw [HQ.out]), BI⟩
    · have : k = xs.length := by omega
      subst this
      clear HV HT HR HO HH HC HCB
      go_wp2
      go_ret
      exact ⟨rfl, BW.out⟩
theorem tordB_parts {ts : List TaskV} {xs : List Int} (h : tordB ts xs = true) : tasksB ts = true ∧ plcB ts xs = true ∧ xs.length = ts.length ∧ ∀ k : Nat, k < ts.length → (k : Int) ∈ xs := by
  simp only [tordB, Bool.and_eq_true] at h
  have hp := h.2.1
  simp only [plcB, Bool.and_eq_true, decide_eq_true_eq] at hp
  exact ⟨h.1, h.2.1, hp.1, ordB_iff.1 hp.2⟩
theorem i_PressureOf (w : World) (A' A : Option Addr) (c' c : Nat) (ts : List TaskV) (xs : List Int) (hlt : tsz ts ≤ 1048576) (hT : RdT w A' ts) (hl : xs.length ≤ 1048576) (hc0 : xs.length ≤ c) (hR : RdI w A xs) :
    Calls Try.prog 46 #[.slice A' ts.length c', .slice A xs.length c] w (RetZB w (m_PressureOf ts xs)) := by
  have c0 := i_IsTaskOrder w A' A c' c ts xs hlt hT hl hR
  have C1 : Hid (tordB ts xs = true → ∀ W, Below w.heap.size w W → _) := hid (fun h W (hW : Below w.heap.size w W) => i_pressure W A' A c' c ts xs (TOk.of (tordB_parts h).1) (tordB_parts h).2.1 hl (hT.below hW) (hR.below hW))
  have HE : Hid (m_PressureOf ts xs = if tordB ts xs then (prsI ts xs xs.length, true) else (0, false)) := hid rfl
  clear hT hR hlt hl hc0
  generalize m_PressureOf ts xs = r at HE ⊢
  generalize prsI ts xs xs.length = H at *
  cases h0 : tordB ts xs with
  | false =>
    rw [h0] at c0 HE
    have C0 := hid c0
    clear c0 h0 C1
    go_enter Try.func46, Try.ntmps46
    go_wp2_with fail
    refine C0.out.mono ?_
    rintro e w1 ⟨rfl, hb1⟩
    go_wp2_with fail
    go_ret2
    exact ⟨by rw [HE.out]; rfl, hb1⟩
  | true =>
    rw [h0] at c0 HE
    have C0 := hid c0
    have C3 := hid (C1.out h0)
    clear c0 h0 C1
    go_enter Try.func46, Try.ntmps46
    go_wp2_with fail
    refine C0.out.mono ?_
    rintro e w1 ⟨rfl, hb1⟩
    go_wp2_with fail
    refine (C3.out _ hb1).mono ?_
    rintro e w2 ⟨rfl, hb2⟩
    go_wp2_with fail
    go_ret2
    exact ⟨by rw [HE.out]; rfl, bthen hb1 hb2⟩
end Go.Proofs.Ytcknhjeefdbhbaa
