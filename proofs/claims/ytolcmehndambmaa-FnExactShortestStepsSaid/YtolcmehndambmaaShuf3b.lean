import Derived.Test.YtolcmehndambmaaShuf3
set_option linter.unusedVariables false
set_option linter.unusedSimpArgs false
namespace Go.Proofs.Ytolcmehndambmaa
open Go.RowKit

theorem range_el (xs : List Int) : (List.range xs.length).map (el xs) = xs := el_ext (by simp) (fun k hk => el_range _ (by simpa using hk))
theorem i_inverse1 (W : World) (B : Nat) (A : Option Addr) (c : Nat) (xs : List Int) (k : Nat) (hk : k < xs.length) (hl : xs.length ≤ 9223372036854775807) (hb : W.cell? ⟨B, 0, none⟩ = some (.slice A xs.length c)) (hA : RdI W A xs) :
    Calls Try.prog 142 #[.int .i64 (k : Nat), .pointer (some ⟨B, 0, none⟩)] W fun e w' => e = .returned (.int .i64 (el xs k)) ∧ Below W.heap.size W w' := by
  obtain ⟨b, off, rfl, hc⟩ := hA.get hk
  clear hA
  go_enter Try.func142, Try.ntmps142
  go_wp2
  go_ret
  exact ⟨rfl, Below.refl _ _⟩
def m_inverse (xs : List Int) : List Int × Bool := if ordB xs xs.length then (inv xs, true) else ([], false)
theorem places_inverse (xs : List Int) : m_places xs xs.length = m_inverse xs := by simp [m_places, m_inverse]
theorem i_inverse (w : World) (A : Option Addr) (c : Nat) (xs : List Int) (hl : xs.length ≤ 1048576) (hR : RdI w A xs) :
    Calls Try.prog 88 #[.slice A xs.length c] w (RetIB w (m_inverse xs)) := by
  have hp := i_places w A c xs xs.length hl (by omega) hR
  rw [places_inverse] at hp
  cases h0 : ordB xs xs.length with
  | false =>
    have HM := hid (show m_inverse xs = ([], false) from by simp [m_inverse, h0])
    rw [show m_inverse xs = ([], false) from by simp [m_inverse, h0]] at hp
    clear h0 hR
    go_enter Try.func88, Try.ntmps88
    go_wp2_with fail
    refine hp.mono ?_
    rintro e w1 ⟨v, rfl, ho, hb1⟩
    obtain ⟨A1, c1, rfl, _, _, _⟩ := Own.int ho
    go_wp2_with fail
    go_ret2
    exact ⟨_, by rw [HM.out]; rfl, by rw [HM.out]; exact Own.nil _ _ _ _ _, balloc hb1 _⟩
  | true =>
    have HM := hid (show m_inverse xs = (inv xs, true) from by simp [m_inverse, h0])
    rw [show m_inverse xs = (inv xs, true) from by simp [m_inverse, h0]] at hp
    clear h0 hR
    go_enter Try.func88, Try.ntmps88
    go_wp2_with fail
    refine hp.mono ?_
    rintro e w1 ⟨v, rfl, ho, hb1⟩
    obtain ⟨A1, c1, rfl, _, _, hr1⟩ := Own.int ho
    have hll := i_lanesOf (w1.alloc (.cells #[.slice A1 (inv xs).length c1] 133)) (inv xs).length 142 #[.pointer (some ⟨w1.heap.size, 0, none⟩)] (el (inv xs)) (by rw [inv_length]; omega)
      (enters_of Try.func142 (by kernel_rfl) rfl) (fun W hW k hk => i_inverse1 W w1.heap.size A1 c1 (inv xs) k hk (by rw [inv_length]; omega) ((hW.cell (p := ⟨w1.heap.size, 0, none⟩) (by simp)).trans (by simp)) ((hr1.below (ballocw _ _)).below hW))
    rw [range_el] at hll
    have hb2 := balloc hb1 (.cells #[.slice A1 (inv xs).length c1] 133)
    clear hr1 ho hp
    go_wp2_with fail
    refine hll.mono ?_
    rintro e w2 ⟨v2, rfl, ho2, hb3⟩
    go_wp2_with fail
    go_ret2
    exact ⟨_, by rw [HM.out]; rfl, by rw [HM.out]; exact Own.wide ho2 hb2.size (Nat.le_refl _), bthen hb2 hb3⟩
def m_InverseShuffle (xs : List Int) : List Int × Bool := if orderB xs then (inv xs, true) else ([], false)
theorem m_InverseShuffle_len (xs : List Int) (h : xs.length ≤ 1048576) : (m_InverseShuffle xs).1.length ≤ 1048576 := by
  unfold m_InverseShuffle; split
  · simpa [inv_length] using h
  · simp
theorem i_InverseShuffle (w : World) (A : Option Addr) (c : Nat) (xs : List Int) (hl : xs.length ≤ 1048576) (hR : RdI w A xs) :
    Calls Try.prog 34 #[.slice A xs.length c] w (RetIB w (m_InverseShuffle xs)) := by
  have c0 := i_IsShuffle w A c xs (by omega) hR
  cases h0 : shufB xs with
  | false =>
    have HM := hid (show m_InverseShuffle xs = ([], false) from by simp [m_InverseShuffle, orderB, h0])
    rw [h0] at c0
    clear h0 hR
    go_enter Try.func34, Try.ntmps34
    go_wp2_with fail
    refine c0.mono ?_
    rintro e w1 ⟨rfl, hb1⟩
    go_wp2_with fail
    go_ret2
    exact ⟨_, by rw [HM.out]; rfl, by rw [HM.out]; exact Own.nil _ _ _ _ _, hb1⟩
  | true =>
    have HM := hid (show m_InverseShuffle xs = m_inverse xs from by simp [m_InverseShuffle, orderB, m_inverse, h0])
    have hi := fun (W : World) (hW : Below w.heap.size w W) => i_inverse W A c xs hl (hR.below hW)
    rw [h0] at c0
    clear h0 hR
    generalize m_inverse xs = r at HM hi
    go_enter Try.func34, Try.ntmps34
    go_wp2_with fail
    refine c0.mono ?_
    rintro e w1 ⟨rfl, hb1⟩
    go_wp2_with fail
    refine (hi _ hb1).mono ?_
    rintro e w2 ⟨v, rfl, ho, hb2⟩
    go_wp2_with fail
    go_ret2
    exact ⟨_, by rw [HM.out]; rfl, by rw [HM.out]; exact Own.wide ho hb1.size (Nat.le_refl _), bthen hb1 hb2⟩
end Go.Proofs.Ytolcmehndambmaa
