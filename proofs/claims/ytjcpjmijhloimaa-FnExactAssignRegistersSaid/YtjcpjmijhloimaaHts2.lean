import Derived.Test.YtjcpjmijhloimaaHts
import Derived.Test.YtjcpjmijhloimaaSched2
set_option linter.unusedVariables false
set_option linter.unusedSimpArgs false
namespace Go.Proofs.Ytjcpjmijhloimaa
open Go.RowKit

theorem max_hi {x y : Int} (h : x < y) : max x y = y := by omega
theorem max_lo {x y : Int} (h : ¬ x < y) : max x y = x := by omega
/-- Own numbers at g: a cell is read, and set. -/
theorem OwnI.cell {w : World} {lo hi g c : Nat} {e : TypeId} {xs : List Int} (h : OwnI w lo hi e (.slice (some ⟨g, 0, none⟩) xs.length c) xs) {k : Nat} (hk : k < xs.length) :
    w.cell? ⟨g, k, none⟩ = some (.int .i64 (el xs k)) ∧ w.frozen? ⟨g, k, none⟩ = false ∧ lo ≤ g := by
  obtain ⟨A, c', e', _, _, hs⟩ := Own.shape h
  cases e'
  rcases hs with ⟨h0, _⟩ | ⟨g', hg, h1, _, hc, hf⟩
  · cases h0
  · cases hg
    exact ⟨hc k _ (ints_get hk), hf k, h1⟩
theorem OwnI.put {w : World} {lo hi g c : Nat} {e : TypeId} {xs : List Int} (h : OwnI w lo hi e (.slice (some ⟨g, 0, none⟩) xs.length c) xs) (k : Nat) (x : Int) :
    OwnI (w.setCell ⟨g, k, none⟩ (.int .i64 x)) lo hi e (.slice (some ⟨g, 0, none⟩) (xs.set k x).length c) (xs.set k x) := by
  have := Own.set h k (.int .i64 x)
  rw [ints_set] at this
  unfold OwnI
  rw [List.length_set]
  exact this
theorem s_l00Max (a b : Int) (w : World) : Calls Try.prog 228 #[.int .i64 a, .int .i64 b] w fun e w' => e = .returned (.int .i64 (max a b)) ∧ w = w' := by
  by_cases h : b < a
  · go_enter Try.func228, Try.ntmps228
    go_wp2
    go_ret
    exact ⟨ret_i (by omega), rfl⟩
  · go_enter Try.func228, Try.ntmps228
    go_wp2
    go_ret
    exact ⟨ret_i (by omega), rfl⟩
theorem s_l00Min (a b : Int) (w : World) : Calls Try.prog 227 #[.int .i64 a, .int .i64 b] w fun e w' => e = .returned (.int .i64 (min a b)) ∧ w = w' := by
  by_cases h : a < b
  · go_enter Try.func227, Try.ntmps227
    go_wp2
    go_ret
    exact ⟨ret_i (by omega), rfl⟩
  · go_enter Try.func227, Try.ntmps227
    go_wp2
    go_ret
    exact ⟨ret_i (by omega), rfl⟩
theorem i_greatest (w : World) (A : Option Addr) (c : Nat) (xs : List Int) (hl : xs.length ≤ 1048576) (hR : RdI w A xs) :
    Calls Try.prog 117 #[.slice A xs.length c] w fun e w' => e = .returned (.int .i64 (mxN xs xs.length)) ∧ w = w' := by
  have HR := hid hR
  clear hR
  go_enter Try.func117, Try.ntmps117
  go_wp2
  go_loopg [3, 8] xs.length (fun gg m s wr => ∃ k : Nat, k ≤ xs.length ∧ xs.length - k ≤ gg ∧ s = .int .i64 k ∧ m = .int .i64 (mxN xs k) ∧ Aside (w = wr))
  case atStart => exact ⟨0, Nat.zero_le _, by omega, rfl, rfl, rfl⟩
  case round =>
    obtain ⟨k, hk, hg, rfl, rfl, BW⟩ := hrel
    obtain rfl := BW.out
    by_cases hlt : k < xs.length
    · obtain ⟨b, off, rfl, hc⟩ := HR.out.get hlt
      have hst : mxN xs (k + 1) = max (mxN xs k) (el xs k) := rfl
      have HS := hid hst
      clear hst HR
      generalize mxN xs k = m at *
      generalize el xs k = x at *
      by_cases h : m < x
      · have HE : Hid (mxN xs (k + 1) = x) := hid (by have := HS.out; omega)
        clear HS
        go_wp2_with fail
        go_roundg (xs.length - (k + 1))
        case measure => omega
        case rel => exact ⟨k + 1, by omega, by omega, by go_num, by rw [HE.out], rfl⟩
      · have HE : Hid (mxN xs (k + 1) = m) := hid (by have := HS.out; omega)
        clear HS
        go_wp2_with fail
        go_roundg (xs.length - (k + 1))
        case measure => omega
        case rel => exact ⟨k + 1, by omega, by omega, by go_num, by rw [HE.out], rfl⟩
    · have : k = xs.length := by omega
      subst this
      go_wp2_with fail
      go_ret
      exact ⟨rfl, rfl⟩
end Go.Proofs.Ytjcpjmijhloimaa
