import Derived.Test.YthgfcoafngddgaaHts
import Derived.Test.YthgfcoafngddgaaSched2
set_option linter.unusedVariables false
set_option linter.unusedSimpArgs false
namespace Go.Proofs.Ythgfcoafngddgaa
open Go.RowKit

theorem max_hi {x y : Int} (h : x < y) : max x y = y := by omega
theorem max_lo {x y : Int} (h : ¬ x < y) : max x y = x := by omega
/-- Own numbers at g: a cell is read, and set. -/
theorem OwnI.cell {w : World} {lo hi g c : Nat} {e : TypeId} {xs : List Int} (h : OwnI w lo hi e (.slice (some ⟨g, 0, none⟩) xs.length c) xs) {k : Nat} (hk : k < xs.length) :
    w.cell? ⟨g, k, none⟩ = some (.int .i64 (el xs k)) ∧ w.frozen? ⟨g, k, none⟩ = false ∧ lo ≤ g := by
  obtain ⟨A, c', e', _, _, hs⟩ := Own.shape h
  cases e'
  rcases hs with ⟨h0, _⟩ | ⟨g', hg, h1, _, hc, hf⟩
  · cases h0
  · cases hg
    exact ⟨hc k _ (ints_get hk), hf k, h1⟩
theorem OwnI.put {w : World} {lo hi g c : Nat} {e : TypeId} {xs : List Int} (h : OwnI w lo hi e (.slice (some ⟨g, 0, none⟩) xs.length c) xs) (k : Nat) (x : Int) :
    OwnI (w.setCell ⟨g, k, none⟩ (.int .i64 x)) lo hi e (.slice (some ⟨g, 0, none⟩) (xs.set k x).length c) (xs.set k x) := by
  have := Own.set h k (.int .i64 x)
  rw [ints_set] at this
  unfold OwnI
  rw [List.length_set]
  exact this
theorem s_l00Max (a b : Int) (w : World) : Calls Try.prog 160 #[.int .i64 a, .int .i64 b] w fun e w' => e = .returned (.int .i64 (max a b)) ∧ w = w' := by
  by_cases h : b < a
  · go_enter Try.func160, Try.ntmps160
    go_wp2
    go_ret
    exact ⟨ret_i (by omega), rfl⟩
  · go_enter Try.func160, Try.ntmps160
    go_wp2
    go_ret
    exact ⟨ret_i (by omega), rfl⟩
end Go.Proofs.Ythgfcoafngddgaa
