import Derived.Test.YtjcpjmijhloimaaHts4
set_option linter.unusedVariables false
set_option linter.unusedSimpArgs false
namespace Go.Proofs.Ytjcpjmijhloimaa
open Go.RowKit

/-- What a call leaves that returns a number and a bool. -/
def RetZB (w : World) (r : Int × Bool) (en : Ending) (w' : World) : Prop := en = .returned (.tuple #[.int .i64 r.1, .bool r.2]) ∧ Below w.heap.size w w'
def m_PathBound (ts : List TaskV) : Int × Bool := if tasksB ts then (mxN (hts ts) ts.length, true) else (0, false)
def m_HeightsOf (ts : List TaskV) : List Int × Bool := if tasksB ts then (hts ts, true) else ([], false)
theorem m_HeightsOf_len (ts : List TaskV) : (m_HeightsOf ts).1.length ≤ 1048576 := by
  unfold m_HeightsOf; split
  · rename_i h; simp only [hts_length]; have := (TOk.of h).few; omega
  · simp
theorem i_PathBound (w : World) (A : Option Addr) (c : Nat) (ts : List TaskV) (hl : tsz ts ≤ 1048576) (hT : RdT w A ts) :
    Calls Try.prog 48 #[.slice A ts.length c] w (RetZB w (m_PathBound ts)) := by
  have c0 := i_ValidTasks w A c ts hl hT
  have C1 : Hid (tasksB ts = true → ∀ W, Below w.heap.size w W → _) := hid (fun h W (hW : Below w.heap.size w W) => i_heights W A c ts (TOk.of h) (hT.below hW))
  have C2 := hid (fun W A c (hl : (hts ts).length ≤ 1048576) (h : RdI W A (hts ts)) => i_greatest W A c (hts ts) hl h)
  have hn := tsz_len hl
  have hlh : (hts ts).length ≤ 1048576 := by rw [hts_length]; omega
  have HE : Hid (m_PathBound ts = if tasksB ts then (mxN (hts ts) (hts ts).length, true) else (0, false)) := hid (by rw [hts_length]; rfl)
  clear hT hl hn
  generalize m_PathBound ts = r at HE ⊢
  generalize hts ts = H at *
  cases h0 : tasksB ts with
  | false =>
    rw [h0] at c0 HE
    have C0 := hid c0
    clear c0 h0 C1 C2 hlh
    go_enter Try.func48, Try.ntmps48
    go_wp2_with fail
    refine C0.out.mono ?_
    rintro e w1 ⟨rfl, hb1⟩
    go_wp2_with fail
    go_ret2
    exact ⟨by rw [HE.out]; rfl, hb1⟩
  | true =>
    rw [h0] at c0 HE
    have C0 := hid c0
    have C3 := hid (C1.out h0)
    clear c0 h0 C1
    go_enter Try.func48, Try.ntmps48
    go_wp2_with fail
    refine C0.out.mono ?_
    rintro e w1 ⟨rfl, hb1⟩
    go_wp2_with fail
    refine (C3.out _ hb1).mono ?_
    rintro e w2 ⟨v, rfl, ho, hb2⟩
    obtain ⟨A1, c1, rfl, _, _, hr1⟩ := Own.int ho
    go_wp2_with fail
    refine (C2.out _ _ _ hlh hr1).mono ?_
    rintro e w3 ⟨rfl, rfl⟩
    go_wp2_with fail
    go_ret2
    exact ⟨by rw [HE.out]; rfl, bthen hb1 hb2⟩
end Go.Proofs.Ytjcpjmijhloimaa
