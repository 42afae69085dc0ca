import Derived.Test.YtnnioicjmlfllaaGreatDoorShuf3
set_option linter.unusedVariables false
set_option linter.unusedSimpArgs false
namespace Go.Proofs.YtnnioicjmlfllaaGreatDoor
open Go.RowKit

theorem max_hi {x y : Int} (h : x < y) : max x y = y := by omega
theorem max_lo {x y : Int} (h : ¬ x < y) : max x y = x := by omega
/-- Own numbers at g: a cell is read, and set. -/
theorem OwnI.cell {w : World} {lo hi g c : Nat} {e : TypeId} {xs : List Int} (h : OwnI w lo hi e (.slice (some ⟨g, 0, none⟩) xs.length c) xs) {k : Nat} (hk : k < xs.length) :
    w.cell? ⟨g, k, none⟩ = some (.int .i64 (el xs k)) ∧ w.frozen? ⟨g, k, none⟩ = false ∧ lo ≤ g := by
  obtain ⟨A, c', e', _, _, hs⟩ := Own.shape h
  cases e'
  rcases hs with ⟨h0, _⟩ | ⟨g', hg, h1, _, hc, hf⟩
  · cases h0
  · cases hg
    exact ⟨hc k _ (ints_get hk), hf k, h1⟩
theorem OwnI.put {w : World} {lo hi g c : Nat} {e : TypeId} {xs : List Int} (h : OwnI w lo hi e (.slice (some ⟨g, 0, none⟩) xs.length c) xs) (k : Nat) (x : Int) :
    OwnI (w.setCell ⟨g, k, none⟩ (.int .i64 x)) lo hi e (.slice (some ⟨g, 0, none⟩) (xs.set k x).length c) (xs.set k x) := by
  have := Own.set h k (.int .i64 x)
  rw [ints_set] at this
  unfold OwnI
  rw [List.length_set]
  exact this
theorem OwnI.rd {w : World} {lo hi n c : Nat} {e : TypeId} {A : Option Addr} {xs : List Int} (h : OwnI w lo hi e (.slice A n c) xs) : RdI w A xs := by
  obtain ⟨A', c', e', _, _, hr⟩ := Own.int h
  cases e'; exact hr
theorem OwnI.len {w : World} {lo hi n c : Nat} {e : TypeId} {A : Option Addr} {xs : List Int} (h : OwnI w lo hi e (.slice A n c) xs) : n = xs.length := by
  obtain ⟨A', c', e', _, _, hr⟩ := Own.int h
  cases e'; rfl
/-- A cell of one's own numbers. -/
theorem OwnI.at {w : World} {lo hi n c : Nat} {e : TypeId} {A : Option Addr} {xs : List Int} (h : OwnI w lo hi e (.slice A n c) xs) {k : Nat} (hk : k < xs.length) :
    ∃ g, A = some ⟨g, 0, none⟩ ∧ lo ≤ g ∧ g < hi ∧ w.cell? ⟨g, k, none⟩ = some (.int .i64 (el xs k)) ∧ w.frozen? ⟨g, k, none⟩ = false ∧
      ∀ x, OwnI (w.setCell ⟨g, k, none⟩ (.int .i64 x)) lo hi e (.slice A n c) (xs.set k x) := by
  obtain rfl := OwnI.len h
  obtain ⟨A', c', e', _, _, hs⟩ := Own.shape h
  cases e'
  rcases hs with ⟨_, h0⟩ | ⟨g, rfl, h1, h2, hc, hf⟩
  · omega
  · refine ⟨g, rfl, h1, h2, hc k _ (ints_get hk), hf k, fun x => ?_⟩
    have := OwnI.put h k x
    rwa [List.length_set] at this
theorem map_const {n : Nat} : (List.range n).map (fun _ => (-1 : Int)) = List.replicate n (-1) := by
  apply List.ext_getElem <;> simp

end Go.Proofs.YtnnioicjmlfllaaGreatDoor
