import Derived.Test.YtcknhjeefdbhbaaOrd
set_option linter.unusedVariables false
set_option linter.unusedSimpArgs false
namespace Go.Proofs.Ytcknhjeefdbhbaa
open Go.RowKit

theorem i_IsTaskOrder1 (W : World) (B D : Nat) (A : Option Addr) (c : Nat) (ys : List Int) (i d : Nat) (hi : i < ys.length) (hd : d < ys.length) (hn : ys.length ≤ 1048576) (hB : W.cell? ⟨B, 0, none⟩ = some (.slice A ys.length c)) (hD : W.cell? ⟨D, 0, none⟩ = some (.int .i64 (i : Nat))) (hR : RdI W A ys) :
    Calls Try.prog 125 #[.int .i64 (d : Nat), .pointer (some ⟨B, 0, none⟩), .pointer (some ⟨D, 0, none⟩)] W fun e w' => e = .returned (.bool (decide (el ys d < el ys i))) ∧ Below W.heap.size W w' := by
  obtain ⟨b, off, rfl, hc⟩ := hR.get hi
  obtain ⟨b', off', e', hc'⟩ := hR.get hd
  cases e'
  have hlt : (i : Int) < (ys.length : Int) := by omega
  have hlk : (d : Int) < (ys.length : Int) := by omega
  clear hR
  generalize el ys d = x at *
  generalize el ys i = y at *
  go_enter Try.func125, Try.ntmps125
  go_wp2
  go_quiet (fail)
  go_wp2
  go_ret
  exact ⟨rfl, ⟨rfl, rfl, rfl, Nat.le_refl _, fun _ _ => rfl⟩⟩
theorem i_IsTaskOrderV (V : World) (B D : Nat) (A : Option Addr) (c : Nat) (ts : List TaskV) (xs : List Int) (hl : xs.length = ts.length) (hO : TOk ts) (i : Nat) (hi : i < ts.length) (hB : V.cell? ⟨B, 0, none⟩ = some (.slice A (inv xs).length c)) (hD : V.cell? ⟨D, 0, none⟩ = some (.int .i64 (i : Nat)))
    (hR : RdI V A (inv xs)) (A1 : Option Addr) (c1 : Nat) (hr1 : RdI V A1 (tel ts i).needs) (W : World) (hW : Below V.heap.size V W) :
    Calls Try.prog 124 #[.slice A1 (tel ts i).needs.length c1, .func (.func 125) #[] #[.pointer (some ⟨B, 0, none⟩), .pointer (some ⟨D, 0, none⟩)]] W fun e w' => e = .returned (.bool (aftB ts xs i)) ∧ Below W.heap.size W w' := by
  have hfew := hO.few
  have hil := inv_length xs
  have h := areAllI W A1 (tel ts i).needs.length c1 (fun j => .int .i64 (el (tel ts i).needs j)) 125 #[.pointer (some ⟨B, 0, none⟩), .pointer (some ⟨D, 0, none⟩)] (fun j => decide (el (inv xs) (el (tel ts i).needs j).toNat < el (inv xs) i)) (by have := hO.len i hi; omega) (hr1.below hW)
    (enters_of Try.func125 (by kernel_rfl) rfl) (fun W' hW' j hj => by
      have hnd := hO.need i hi j hj
      obtain ⟨k, hk⟩ : ∃ k : Nat, el (tel ts i).needs j = k := ⟨(el (tel ts i).needs j).toNat, by omega⟩
      have hkn : k < ts.length := by omega
      have h := i_IsTaskOrder1 W' B D A c (inv xs) i k (by omega) (by omega) (by omega) (bcell hW' (bcell hW hB)) (bcell hW' (bcell hW hD)) ((hR.below hW).below hW')
      rw [show k = (el (tel ts i).needs j).toNat by omega, Int.toNat_of_nonneg (by omega)] at h
      exact h)
  rw [allN_ints (tel ts i).needs (fun d => decide (el (inv xs) d.toNat < el (inv xs) i))] at h
  exact h
theorem aftN_step (ts : List TaskV) (xs : List Int) (k : Nat) : aftN ts xs (k + 1) = (aftN ts xs k && aftB ts xs k) := allN_succ k _
theorem aftN_mono {ts : List TaskV} {xs : List Int} {j k : Nat} (h : aftN ts xs j = false) (hk : j ≤ k) : aftN ts xs k = false := by
  induction k with
  | zero => obtain rfl : j = 0 := by omega
            exact h
  | succ k ih => by_cases e : j = k + 1
                 · subst e; exact h
                 · rw [aftN_step, ih (by omega)]; rfl
theorem m_places_no {ts : List TaskV} {xs : List Int} (h : plcB ts xs = false) : m_places xs ts.length = ([], false) := by unfold m_places; unfold plcB at h; rw [if_neg (by rw [h]; simp)]
theorem m_places_yes {ts : List TaskV} {xs : List Int} (h : plcB ts xs = true) : m_places xs ts.length = (inv xs, true) ∧ xs.length = ts.length := by
  unfold m_places; unfold plcB at h; rw [if_pos h]; simp at h; exact ⟨rfl, h.1⟩
set_option maxRecDepth 100000 in
theorem i_IsTaskOrder (w : World) (A' A : Option Addr) (c' c : Nat) (ts : List TaskV) (xs : List Int) (hlt : tsz ts ≤ 1048576) (hT : RdT w A' ts) (hl : xs.length ≤ 1048576) (hR : RdI w A xs) :
    Calls Try.prog 48 #[.slice A' ts.length c', .slice A xs.length c] w fun e w' => e = .returned (.bool (tordB ts xs)) ∧ Below w.heap.size w w' := by
  have hn := tsz_len hlt
  have c0 := i_places w A c xs ts.length hl (by omega) hR
  have C1 := hid (fun W (hW : Below w.heap.size w W) => i_ValidTasks W A' c' ts hlt (hT.below hW))
  have HT := hid hT
  clear hT hR
  cases hp : plcB ts xs with
  | false =>
    rw [m_places_no hp] at c0
    have HF : Hid (false = tordB ts xs) := hid (by unfold tordB; rw [hp]; simp)
    have C0 := hid c0
    clear c0 C1 HT hp hlt
    generalize tordB ts xs = r at HF ⊢
    go_enter Try.func48, Try.ntmps48
    go_wp2_with fail
    refine C0.out.mono ?_
    rintro e w1 ⟨v, rfl, ho, hb1⟩
    obtain ⟨A1, c1, rfl, _, _, _⟩ := Own.int ho
    go_wp2_with fail
    go_ret
    exact ⟨ret_b HF.out, balloc hb1 _⟩
  | true =>
    obtain ⟨hpl, hlen⟩ := m_places_yes hp
    rw [hpl] at c0
    have C0 := hid c0
    cases h0 : tasksB ts with
    | false =>
      simp only [h0] at C1
      have HF : Hid (false = tordB ts xs) := hid (by unfold tordB; rw [h0]; simp)
      clear c0 HT hp hlt h0 hpl hlen
      generalize tordB ts xs = r at HF ⊢
      go_enter Try.func48, Try.ntmps48
      go_wp2_with fail
      refine C0.out.mono ?_
      rintro e w1 ⟨v, rfl, ho, hb1⟩
      obtain ⟨A1, c1, rfl, _, _, _⟩ := Own.int ho
      have hb2 := balloc hb1 (.cells #[.slice A1 (inv xs).length c1] 138)
      go_wp2_with fail
      refine (C1.out _ hb2).mono ?_
      rintro e w2 ⟨rfl, hb3⟩
      go_wp2_with fail
      go_ret
      exact ⟨ret_b HF.out, bthen hb2 hb3⟩
    | true =>
      simp only [h0] at C1
      have hO := TOk.of h0
      have hfew := hO.few
      have HO := hid hO
      have HE : Hid (aftN ts xs ts.length = tordB ts xs) := hid (by unfold tordB; rw [h0, hp]; rfl)
      have HN : Hid (∀ k, k < ts.length → aftB ts xs k = false → false = tordB ts xs) := hid fun k hk h => by
        rw [← HE.out]; exact (aftN_mono (j := k + 1) (by rw [aftN_step, h]; simp) (by omega)).symm
      have HL := hid hlen
      clear c0 hp hlt h0 hpl hlen hO
      generalize tordB ts xs = r at HE HN ⊢
      go_enter Try.func48, Try.ntmps48
      go_wp2_with fail
      refine C0.out.mono ?_
      rintro e w1 ⟨v, rfl, ho, hb1⟩
      obtain ⟨A1, c1, rfl, _, _, hr1⟩ := Own.int ho
      have hbx : Below w1.heap.size w1 (w1.alloc (.cells #[.slice A1 (inv xs).length c1] 138)) := ballocw _ _
      have hb2 := bthen hb1 hbx
      have hr2 := hr1.below hbx
      have hcl : (w1.alloc (.cells #[.slice A1 (inv xs).length c1] 138)).cell? ⟨w1.heap.size, 0, none⟩ = some (.slice A1 (inv xs).length c1) := box_new _ _ _
      have c1' := hid (C1.out _ hb2)
      have HB2 := hid hb2
      have HR2 := hid hr2
      have HCL := hid hcl
      clear hb1 ho hr1 hbx hb2 hr2 hcl C0 C1
      generalize hV : w1.alloc (.cells #[.slice A1 (inv xs).length c1] 138) = V at *
      have HV := hid hV
      clear hV
      go_wp2_with fail
      rw [HV.out]
      refine c1'.out.mono ?_
      rintro e w2 ⟨rfl, hb3⟩
      have HB3 := hid hb3
      clear hb3 c1' HV
      go_wp2_with fail
      go_loopg [25] ts.length (fun gg s wr => ∃ k : Nat, k ≤ ts.length ∧ ts.length - k ≤ gg ∧ s = .int .i64 k ∧ Aside (Below V.heap.size V wr) ∧ Aside (aftN ts xs k = true))
      case atStart => exact ⟨0, Nat.zero_le _, by omega, rfl, HB3.out, rfl⟩
      case round =>
        obtain ⟨k, hk, hg, rfl, BW, AL⟩ := hrel
        by_cases hlt : k < ts.length
        · obtain ⟨bt, offt, A2, c2, rfl, p0, p1, p2, _, hrn⟩ := ((HT.out.below HB2.out).below BW.out).get hlt
          have hbt : Below wr.heap.size wr (TW wr k (tel ts k) A2 c2) := balloc (ballocw wr _) _
          have d0 : (TW wr k (tel ts k) A2 c2).cell? ⟨wr.heap.size, 0, none⟩ = some (.int .i64 (k : Nat)) := bcell (ballocw _ _) (box_new wr _ _)
          have d3 : (TW wr k (tel ts k) A2 c2).cell? ⟨wr.heap.size + 1, 2, none⟩ = some (.slice A2 (tel ts k).needs.length c2) := by simp [TW]
          have hbv := bthen BW.out hbt
          have HA := i_IsTaskOrderV (TW wr k (tel ts k) A2 c2) w1.heap.size wr.heap.size A1 c1 ts xs HL.out HO.out k hlt (bcell hbv HCL.out) d0 (HR2.out.below hbv) A2 c2 (hrn.below hbt) _ (Below.refl _ _)
          have HBV := hid hbv
          have HD3 := hid d3
          cases h3 : aftB ts xs k with
          | false =>
            rw [h3] at HA
            have HAA := hid HA
            have HF := hid (HN.out k hlt h3)
            have HBW := hid (HB2.out.trans (hbv.mono HB2.out.size))
            clear HA h3 HN HE HL HO HR2 HCL AL BW HT hbt d0 hrn hbv HB3 HBV d3
            generalize tel ts k = t at *
            have d3 := HD3.out
            go_wp2_with fail
            refine HAA.out.mono ?_
            rintro e w3 ⟨rfl, hb4⟩
            go_wp2_with fail
            go_ret
            exact ⟨ret_b HF.out, bthen HBW.out hb4⟩
          | true =>
            rw [h3] at HA
            have HAA := hid HA
            have AL' : Aside (aftN ts xs (k + 1) = true) := by unfold Aside; rw [aftN_step, AL.out, h3]; rfl
            clear HA h3 HN HE HL HO HR2 HCL AL BW HT hbt d0 hrn hbv HB3 d3
            generalize tel ts k = t at *
            have d3 := HD3.out
            go_wp2_with fail
            refine HAA.out.mono ?_
            rintro e w3 ⟨rfl, hb4⟩
            have BW' : Aside (Below V.heap.size V w3) := bthen HBV.out hb4
            clear HAA d3 HD3 HBV hb4 p0 p1 p2
            go_wp2_with fail
            go_roundg (ts.length - (k + 1))
            case measure => omega
            case rel => exact ⟨k + 1, by omega, by omega, by go_num, BW', AL'⟩
        · have : k = ts.length := by omega
          subst this
          have HF : Hid (true = r) := hid (by rw [← HE.out, AL.out])
          have HBW := hid (HB2.out.trans (BW.out.mono HB2.out.size))
          clear HN HE HL HO HR2 HCL AL BW HT HB3
          go_wp2_with fail
          go_ret
          exact ⟨ret_b HF.out, HBW.out⟩
end Go.Proofs.Ytcknhjeefdbhbaa
