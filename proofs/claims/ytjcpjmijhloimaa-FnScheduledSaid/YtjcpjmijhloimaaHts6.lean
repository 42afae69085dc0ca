import Derived.Test.YtjcpjmijhloimaaHts5
set_option linter.unusedVariables false
set_option linter.unusedSimpArgs false
namespace Go.Proofs.Ytjcpjmijhloimaa
open Go.RowKit

theorem i_HeightsOf (w : World) (A : Option Addr) (c : Nat) (ts : List TaskV) (hl : tsz ts ≤ 1048576) (hT : RdT w A ts) :
    Calls Try.prog 50 #[.slice A ts.length c] w (RetIB w (m_HeightsOf ts)) := by
  have c0 := i_ValidTasks w A c ts hl hT
  have C1 : Hid (tasksB ts = true → ∀ W, Below w.heap.size w W → _) := hid (fun h W (hW : Below w.heap.size w W) => i_heights W A c ts (TOk.of h) (hT.below hW))
  have HE : Hid (m_HeightsOf ts = if tasksB ts then (hts ts, true) else ([], false)) := hid rfl
  clear hT hl
  generalize m_HeightsOf ts = r at HE ⊢
  generalize hts ts = H at *
  cases h0 : tasksB ts with
  | false =>
    rw [h0] at c0 HE
    have C0 := hid c0
    clear c0 h0 C1
    go_enter Try.func50, Try.ntmps50
    go_wp2_with fail
    refine C0.out.mono ?_
    rintro e w1 ⟨rfl, hb1⟩
    go_wp2_with fail
    go_ret2
    exact ⟨_, by rw [HE.out]; rfl, by rw [HE.out]; exact Own.nil _ _ _ _ _, hb1⟩
  | true =>
    rw [h0] at c0 HE
    have C0 := hid c0
    have C3 := hid (C1.out h0)
    clear c0 h0 C1
    go_enter Try.func50, Try.ntmps50
    go_wp2_with fail
    refine C0.out.mono ?_
    rintro e w1 ⟨rfl, hb1⟩
    go_wp2_with fail
    refine (C3.out _ hb1).mono ?_
    rintro e w2 ⟨v, rfl, ho, hb2⟩
    obtain ⟨A1, c1, rfl, _, _, _⟩ := Own.int ho
    go_wp2_with fail
    go_ret2
    exact ⟨_, by rw [HE.out]; rfl, by rw [HE.out]; exact Own.wide ho hb1.size (Nat.le_refl _), bthen hb1 hb2⟩
end Go.Proofs.Ytjcpjmijhloimaa
