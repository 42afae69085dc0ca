import Derived.Test.YtnnioicjmlfllaaGreatDoorMach
import Derived.Test.YtnnioicjmlfllaaGreatDoorLawO
set_option linter.unusedVariables false
set_option linter.unusedSimpArgs false
namespace Go.Proofs.YtnnioicjmlfllaaGreatDoor
open Go.RowKit

/-! ### Lists of pairs of numbers (ranges) -/
abbrev PI := Int × Int
def pel (xs : List PI) (k : Nat) : PI := xs.getD k (0, 0)
theorem pel_get {xs : List PI} {k : Nat} (h : k < xs.length) : xs[k]? = some (pel xs k) := by
  unfold pel; rw [List.getD_eq_getElem?_getD, List.getElem?_eq_getElem h]; simp
theorem pel_mem {xs : List PI} {k : Nat} (h : k < xs.length) : pel xs k ∈ xs := List.mem_of_getElem? (pel_get h)
theorem pel_drop {xs : List PI} {k : Nat} (h : k < xs.length) : xs.drop k = pel xs k :: xs.drop (k + 1) := by
  rw [List.drop_eq_getElem_cons h]; congr 1; have := pel_get h; rw [List.getElem?_eq_getElem h] at this; exact Option.some.inj this
abbrev pv (p : PI) : Value := mv p.1 p.2
/-- The slice at A reads as the pairs xs. -/
def RdP (w : World) (A : Option Addr) (xs : List PI) : Prop :=
  ∀ k, k < xs.length → ∃ b off, A = some ⟨b, off, none⟩ ∧ w.cell? ⟨b, off + k * 2, none⟩ = some (.int .i64 (pel xs k).1) ∧ w.cell? ⟨b, off + k * 2 + 1, none⟩ = some (.int .i64 (pel xs k).2)
theorem RdP.below {w W : World} {A : Option Addr} {xs : List PI} (h : RdP w A xs) (hb : Below w.heap.size w W) : RdP W A xs := fun k hk => by
  obtain ⟨b, off, e, h0, h1⟩ := h k hk
  exact ⟨b, off, e, bcell hb h0, bcell hb h1⟩


def pfl (xs : List PI) : List Int := xs.flatMap fun p => [p.1, p.2]
theorem pfl_length (xs : List PI) : (pfl xs).length = xs.length * 2 := by induction xs with | nil => rfl | cons a t ih => simp [pfl, List.flatMap_cons] at ih ⊢; omega
theorem pfl_append (xs ys : List PI) : pfl (xs ++ ys) = pfl xs ++ pfl ys := by simp [pfl]
theorem pel_take {xs : List PI} {k : Nat} (h : k < xs.length) : xs.take (k + 1) = xs.take k ++ [pel xs k] := by
  rw [List.take_add_one, pel_get h]; rfl
theorem pfl_get {xs : List PI} {k : Nat} (h : k < xs.length) : (pfl xs)[k * 2]? = some (pel xs k).1 ∧ (pfl xs)[k * 2 + 1]? = some (pel xs k).2 := by
  have e : xs = xs.take k ++ (pel xs k :: xs.drop (k + 1)) := by rw [← pel_drop h, List.take_append_drop]
  have hl : (pfl (xs.take k)).length = k * 2 := by rw [pfl_length]; simp; omega
  have e2 : pfl xs = pfl (xs.take k) ++ ((pel xs k).1 :: (pel xs k).2 :: pfl (xs.drop (k + 1))) := by
    conv => lhs; rw [e]
    rw [pfl_append]; simp [pfl]
  rw [e2, List.getElem?_append_right (by omega), List.getElem?_append_right (by omega), hl]
  simp
theorem pcopy_step {xs : List PI} {k : Nat} (h : k < xs.length) :
    ((pfl (xs.take k) ++ List.replicate ((xs.length - k) * 2) 0).set (k * 2) (pel xs k).1).set (k * 2 + 1) (pel xs k).2 = pfl (xs.take (k + 1)) ++ List.replicate ((xs.length - (k + 1)) * 2) 0 := by
  have hl : (pfl (xs.take k)).length = k * 2 := by rw [pfl_length]; simp; omega
  obtain ⟨m, hm⟩ : ∃ m, xs.length - k = m + 1 := ⟨xs.length - k - 1, by omega⟩
  rw [pel_take h, pfl_append, hm, show xs.length - (k + 1) = m from by omega, show (m + 1) * 2 = m * 2 + 1 + 1 from by omega, List.replicate_succ, List.replicate_succ,
    List.set_append_right _ _ (by omega), List.set_append_right _ _ (by omega), hl]
  simp [pfl]
theorem toList_made2 (z : Value) (n : Nat) : (madeCells #[z, z] n).toList = List.replicate n z := by
  apply List.ext_getElem?
  intro k
  by_cases hk : k < n
  · rcases (show k % 2 = 0 ∨ k % 2 = 1 by omega) with h | h <;> simp [madeCells, hk, h]
  · simp [madeCells, hk]
theorem own_made2 (w : World) (e : TypeId) (n : Nat) (hn : n ≤ 1048576) :
    Own (w.alloc (.cells (madeCells #[.int .i64 0, .int .i64 0] (n * 2)) e)) w.heap.size (w.heap.size + 1) e 2 (.slice (some ⟨w.heap.size, 0, none⟩) n n) n (ints (List.replicate (n * 2) 0)) := by
  refine ⟨?_, by simp [Value.ownBlock]⟩
  have := World.ownsRow_lit (base := w.heap.size) (e := e) (size := 2) w (madeCells #[.int .i64 0, .int .i64 0] (n * 2)) n (Nat.le_refl _) (by simp [maxLen]; omega) (by simp [size_madeCells])
  rwa [toList_made2, ints_replicate] at this

end Go.Proofs.YtnnioicjmlfllaaGreatDoor
