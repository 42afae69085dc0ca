import Derived.Test.YtcknhjeefdbhbaaHts4
set_option linter.unusedVariables false
set_option linter.unusedSimpArgs false
namespace Go.Proofs.Ytcknhjeefdbhbaa
open Go.RowKit

/-- What a call leaves that returns a number and a bool. -/
def RetZB (w : World) (r : Int × Bool) (en : Ending) (w' : World) : Prop := en = .returned (.tuple #[.int .i64 r.1, .bool r.2]) ∧ Below w.heap.size w w'
def m_PathBound (ts : List TaskV) : Int × Bool := if tasksB ts then (mxN (hts ts) ts.length, true) else (0, false)
def m_HeightsOf (ts : List TaskV) : List Int × Bool := if tasksB ts then (hts ts, true) else ([], false)
theorem m_HeightsOf_len (ts : List TaskV) : (m_HeightsOf ts).1.length ≤ 1048576 := by
  unfold m_HeightsOf; split
  · rename_i h; simp only [hts_length]; have := (TOk.of h).few; omega
  · simp
theorem s_PathBound (w : World) (A : Option Addr) (c : Nat) (ts : List TaskV) (hl : tsz ts ≤ 1048576) (hT : RdT w A ts) :
    Calls Try.prog 155 #[.slice A ts.length c] w (RetZB w (m_PathBound ts)) := by
  have c0 := s_l06Is w A c ts hl hT
  have C1 : Hid (tasksB ts = true → ∀ W, Below w.heap.size w W → _) := hid (fun h W (hW : Below w.heap.size w W) => s_l06Heights W A c ts (TOk.of h) (hT.below hW))
  have C2 := hid (fun a b W => s_l00Max a b W)
  have hn := tsz_len hl
  have hlh : (hts ts).length ≤ 1048576 := by rw [hts_length]; omega
  have HE : Hid (m_PathBound ts = if tasksB ts then (mxN (hts ts) (hts ts).length, true) else (0, false)) := hid (by rw [hts_length]; rfl)
  clear hT hl hn
  generalize m_PathBound ts = r at HE ⊢
  generalize hts ts = H at *
  cases h0 : tasksB ts with
  | false =>
    rw [h0] at c0 HE
    have C0 := hid c0
    clear c0 h0 C1 C2 hlh
    go_enter Try.func155, Try.ntmps155
    go_wp2_with fail
    refine C0.out.mono ?_
    rintro e w1 ⟨rfl, hb1⟩
    go_wp2_with fail
    go_ret2
    exact ⟨by rw [HE.out]; rfl, hb1⟩
  | true =>
    rw [h0] at c0 HE
    have C0 := hid c0
    have C3 := hid (C1.out h0)
    clear c0 h0 C1
    go_enter Try.func155, Try.ntmps155
    go_wp2_with fail
    refine C0.out.mono ?_
    rintro e w1 ⟨rfl, hb1⟩
    go_wp2_with fail
    refine (C3.out _ hb1).mono ?_
    rintro e w2 ⟨v, rfl, ho, hb2⟩
    obtain ⟨A1, c1, rfl, _, _, hr1⟩ := Own.int ho
    have HR := hid hr1
    have HB := hid (bthen hb1 hb2)
    clear ho hr1 hb1 hb2 C0 C3
    go_wp2_with fail
    go_loopg [5, 6] H.length (fun gg m s wr => ∃ k : Nat, k ≤ H.length ∧ H.length - k ≤ gg ∧ s = .int .i64 k ∧ m = .int .i64 (mxN H k) ∧ Aside (w2 = wr))
    case atStart => exact ⟨0, Nat.zero_le _, by omega, rfl, rfl, rfl⟩
    case round =>
      obtain ⟨k, hk, hg, rfl, rfl, BW⟩ := hrel
      obtain rfl := BW.out
      by_cases hlt : k < H.length
      · obtain ⟨b, off, rfl, hc⟩ := HR.out.get hlt
        have hm := C2.out (mxN H k) (el H k) w2
        have HS : Hid (mxN H (k + 1) = max (mxN H k) (el H k)) := hid rfl
        have hlt' : (k : Int) < (H.length : Int) := by omega
        clear HR C2 HE
        generalize max (mxN H k) (el H k) = y at *
        generalize mxN H k = m at *
        generalize el H k = x at *
        go_wp2_with fail
        refine hm.mono ?_
        rintro e w' ⟨rfl, rfl⟩
        clear hm hc
        go_wp2_with fail
        go_roundg (H.length - (k + 1))
        case measure => omega
        case rel => exact ⟨k + 1, by omega, by omega, by go_num, by rw [HS.out], rfl⟩
      · have : k = H.length := by omega
        subst this
        have hlt' : ¬ ((H.length : Nat) : Int) < ((H.length : Nat) : Int) := by omega
        clear C2
        go_wp2_with fail
        go_ret2
        exact ⟨by rw [HE.out]; rfl, HB.out⟩
end Go.Proofs.Ytcknhjeefdbhbaa
