import Derived.Test.YtolcmehndambmaaRtn7
set_option linter.unusedVariables false
set_option linter.unusedSimpArgs false
namespace Go.Proofs.Ytolcmehndambmaa
open Go.RowKit

def dOf (n : Nat) : Nat := if n = 2 then 0 else if n = 4 then 1 else if n = 8 then 2 else 3
def m_RouteNetwork (g : List Int) : List (List Int) × Bool := if orderB g then (rtN (dOf g.length) g, true) else ([], false)
theorem order_prm {g : List Int} (h : orderB g = true) : Prm g g.length ∧ g.length = 2 ^ (dOf g.length + 1) ∧ dOf g.length ≤ 3 ∧ g.length ≤ 16 := by
  simp only [orderB, Bool.and_eq_true] at h
  have h0 := h.1
  have h1 := shufB_len h.1
  simp only [shufB, Bool.and_eq_true] at h0
  have h2 := lanesB_or h0.1
  refine ⟨⟨rfl, ordB_iff.1 h.2⟩, ?_, ?_, h1⟩
  · have : g.length = 2 ∨ g.length = 4 ∨ g.length = 8 ∨ g.length = 16 := by omega
    rcases this with e | e | e | e <;> rw [e] <;> decide
  · unfold dOf; split <;> (try split) <;> (try split) <;> omega
theorem m_RouteNetwork_len (g : List Int) : rsz (m_RouteNetwork g).1 ≤ 1048576 := by
  unfold m_RouteNetwork; split
  · rename_i h
    obtain ⟨hp, hl, hd, h16⟩ := order_prm h
    have h4 : 2 ^ dOf g.length ≤ 8 := Nat.le_trans (Nat.pow_le_pow_right (by omega) hd) (by decide)
    have := rsz_le (xss := rtN (dOf g.length) g) (n := 7) (m := 8) (by rw [rtN_length]; omega) (fun k hk => by rw [rtN_rw hl (by rw [rtN_length] at hk; exact hk)]; exact h4)
    exact Nat.le_trans this (by decide)
  · simp [rsz, rtot]
set_option maxRecDepth 100000 in
theorem i_RouteNetwork (w : World) (A : Option Addr) (c : Nat) (g : List Int) (hl : g.length ≤ 1048576) (hR : RdI w A g) :
    Calls Try.prog 19 #[.slice A g.length c] w (RetRB w (m_RouteNetwork g)) := by
  have c0 := i_InverseShuffle w A c g hl hR
  cases h0 : orderB g with
  | false =>
    have e0 : m_InverseShuffle g = ([], false) := by unfold m_InverseShuffle; rw [h0]; rfl
    have HM : Hid (m_RouteNetwork g = ([], false)) := hid (by unfold m_RouteNetwork; rw [h0]; rfl)
    rw [e0] at c0
    have C0 := hid c0
    clear c0 h0 e0 hR
    go_enter Try.func19, Try.ntmps19
    go_wp2_with fail
    refine C0.out.mono ?_
    rintro e w1 ⟨v, rfl, ho, hb1⟩
    go_wp2_with fail
    go_ret2
    exact ⟨_, by rw [HM.out]; rfl, by rw [HM.out]; exact OR.nil _ _ _, hb1⟩
  | true =>
    have e0 : m_InverseShuffle g = (inv g, true) := by unfold m_InverseShuffle; rw [h0]; rfl
    have HM : Hid (m_RouteNetwork g = (rtN (dOf g.length) g, true)) := hid (by unfold m_RouteNetwork; rw [h0]; rfl)
    obtain ⟨hp, hgl, hd, _⟩ := order_prm h0
    rw [e0] at c0
    have C0 := hid c0
    have C1 : Hid (∀ W, Below w.heap.size w W → _) := hid fun W hW => i_route _ hd W A c g.length g hgl hp (hR.below hW)
    clear c0 h0 e0 hR hp hgl hd
    generalize dOf g.length = d at *
    go_enter Try.func19, Try.ntmps19
    go_wp2_with fail
    refine C0.out.mono ?_
    rintro e w1 ⟨v, rfl, ho, hb1⟩
    clear C0 ho
    go_wp2_with fail
    refine (C1.out _ hb1).mono ?_
    rintro e w2 ⟨v2, rfl, ho2, hb2⟩
    clear C1
    go_wp2_with fail
    go_ret2
    exact ⟨_, by rw [HM.out]; rfl, by rw [HM.out]; exact OR.wide ho2 hb1.size (Nat.le_refl _), bthen hb1 hb2⟩
set_option maxRecDepth 100000 in
theorem s_RouteNetwork (w : World) (A : Option Addr) (c : Nat) (g : List Int) (hl : g.length ≤ 1048576) (hR : RdI w A g) :
    Calls Try.prog 17 #[.slice A g.length c] w (RetRB w (m_RouteNetwork g)) := by
  have c0 := s_l04Order w A c g hl hR
  cases h0 : orderB g with
  | false =>
    have HM : Hid (m_RouteNetwork g = ([], false)) := hid (by unfold m_RouteNetwork; rw [h0]; rfl)
    rw [h0] at c0
    have C0 := hid c0
    clear c0 h0 hR
    go_enter Try.func17, Try.ntmps17
    go_wp2_with fail
    refine C0.out.mono ?_
    rintro e w1 ⟨rfl, hb1⟩
    go_wp2_with fail
    go_ret2
    exact ⟨_, by rw [HM.out]; rfl, by rw [HM.out]; exact OR.nil _ _ _, hb1⟩
  | true =>
    have HM : Hid (m_RouteNetwork g = (rtN (dOf g.length) g, true)) := hid (by unfold m_RouteNetwork; rw [h0]; rfl)
    obtain ⟨hp, hgl, hd, _⟩ := order_prm h0
    rw [h0] at c0
    have C0 := hid c0
    have C1 : Hid (∀ W, Below w.heap.size w W → _) := hid fun W hW => s_route _ hd W A c g.length g hgl hp (hR.below hW)
    clear c0 h0 hR hp hgl hd
    generalize dOf g.length = d at *
    go_enter Try.func17, Try.ntmps17
    go_wp2_with fail
    refine C0.out.mono ?_
    rintro e w1 ⟨rfl, hb1⟩
    clear C0
    go_wp2_with fail
    refine (C1.out _ hb1).mono ?_
    rintro e w2 ⟨v2, rfl, ho2, hb2⟩
    clear C1
    go_wp2_with fail
    go_ret2
    exact ⟨_, by rw [HM.out]; rfl, by rw [HM.out]; exact OR.wide ho2 hb1.size (Nat.le_refl _), bthen hb1 hb2⟩
end Go.Proofs.Ytolcmehndambmaa
