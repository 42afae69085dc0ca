import Derived.Test.YtnnioicjmlfllaaGreatDoorTask
import Derived.Test.YtnnioicjmlfllaaGreatDoorRws3
set_option linter.unusedVariables false
set_option linter.unusedSimpArgs false
namespace Go.Proofs.YtnnioicjmlfllaaGreatDoor
open Go.RowKit

/-- The cells of the first k tasks, what is needed at f; n tasks of zeros. -/
def tcs (ts : List TaskV) (f : Nat → Value) : Nat → List Value
  | 0 => []
  | k + 1 => tcs ts f k ++ [.int .i64 (tel ts k).port, .int .i64 (tel ts k).lat, f k]
def tzs : Nat → List Value
  | 0 => []
  | n + 1 => .int .i64 0 :: .int .i64 0 :: .slice none 0 0 :: tzs n
theorem tcs_length (ts : List TaskV) (f : Nat → Value) (k : Nat) : (tcs ts f k).length = k * 3 := by induction k with | zero => rfl | succ k ih => simp [tcs, ih]; omega
theorem tzs_length (n : Nat) : (tzs n).length = n * 3 := by induction n with | zero => rfl | succ n ih => simp [tzs, ih]; omega
theorem tzs_snoc (n : Nat) : tzs (n + 1) = tzs n ++ [.int .i64 0, .int .i64 0, .slice none 0 0] := by
  induction n with
  | zero => rfl
  | succ n ih =>
    rw [show tzs (n + 1 + 1) = .int .i64 0 :: .int .i64 0 :: .slice none 0 0 :: tzs (n + 1) from rfl]
    conv => lhs; rw [ih]
    rfl
theorem tcs_congr (ts : List TaskV) {f g : Nat → Value} (k : Nat) (h : ∀ i, i < k → f i = g i) : tcs ts f k = tcs ts g k := by
  induction k with
  | zero => rfl
  | succ k ih => simp only [tcs]; rw [ih (fun i hi => h i (by omega)), h k (by omega)]
theorem tcs_get (ts : List TaskV) (f : Nat → Value) {n k : Nat} (h : k < n) :
    (tcs ts f n)[k * 3]? = some (.int .i64 (tel ts k).port) ∧ (tcs ts f n)[k * 3 + 1]? = some (.int .i64 (tel ts k).lat) ∧ (tcs ts f n)[k * 3 + 2]? = some (f k) := by
  induction n with
  | zero => omega
  | succ n ih =>
    have hl := tcs_length ts f n
    simp only [tcs]
    by_cases e : k = n
    · subst e
      rw [List.getElem?_append_right (by omega), List.getElem?_append_right (by omega), List.getElem?_append_right (by omega), hl]
      simp [show k * 3 + 1 - k * 3 = 1 from by omega, show k * 3 + 2 - k * 3 = 2 from by omega]
    · rw [List.getElem?_append_left (by omega), List.getElem?_append_left (by omega), List.getElem?_append_left (by omega)]
      exact ih (by omega)
theorem tcs_step (ts : List TaskV) (f : Nat → Value) (v : Value) {n k : Nat} (hk : k < n) :
    (((tcs ts f k ++ tzs (n - k)).set (k * 3) (.int .i64 (tel ts k).port)).set (k * 3 + 1) (.int .i64 (tel ts k).lat)).set (k * 3 + 2) v = tcs ts (fun i => if i = k then v else f i) (k + 1) ++ tzs (n - (k + 1)) := by
  have hl := tcs_length ts f k
  obtain ⟨m, hm⟩ : ∃ m, n - k = m + 1 := ⟨n - k - 1, by omega⟩
  rw [hm, show n - (k + 1) = m from by omega]
  simp only [tzs, tcs]
  rw [List.set_append_right _ _ (by omega), List.set_append_right _ _ (by omega), List.set_append_right _ _ (by omega), hl, tcs_congr ts k (f := fun i => if i = k then v else f i) (g := f) (fun i hi => by simp; omega)]
  simp [show k * 3 + 1 - k * 3 = 1 from by omega, show k * 3 + 2 - k * 3 = 2 from by omega]
theorem made3 (n : Nat) : (madeCells #[.int .i64 0, .int .i64 0, .slice none 0 0] (n * 3)).toList = tzs n := by
  induction n with
  | zero => simp [madeCells, tzs]
  | succ n ih =>
    rw [tzs_snoc, ← ih]
    unfold madeCells
    rw [show (n + 1) * 3 = n * 3 + 1 + 1 + 1 from by omega]
    simp [Array.range_succ, show (n * 3 + 1) % 3 = 1 from by omega, show (n * 3 + 1 + 1) % 3 = 2 from by omega]
theorem own_made3 (w : World) (e : TypeId) (n : Nat) (hn : n ≤ 1048576) :
    Own (w.alloc (.cells (madeCells #[.int .i64 0, .int .i64 0, .slice none 0 0] (n * 3)) e)) w.heap.size (w.heap.size + 1) e 3 (.slice (some ⟨w.heap.size, 0, none⟩) n n) n (tzs n) := by
  refine ⟨?_, by simp [Value.ownBlock]⟩
  have := World.ownsRow_lit (base := w.heap.size) (e := e) (size := 3) w (madeCells #[.int .i64 0, .int .i64 0, .slice none 0 0] (n * 3)) n (Nat.le_refl _) (by simp [maxLen]; omega) (by simp [size_madeCells])
  rwa [made3] at this
/-- How many numbers are needed by the first k tasks. -/
def ttot (ts : List TaskV) : Nat → Nat
  | 0 => 0
  | k + 1 => ttot ts k + (tel ts k).needs.length
theorem ttot_mono (ts : List TaskV) {j k : Nat} (h : j ≤ k) : ttot ts j ≤ ttot ts k := by
  induction k with
  | zero => obtain rfl : j = 0 := by omega
            exact Nat.le_refl _
  | succ k ih => by_cases e : j = k + 1
                 · subst e; exact Nat.le_refl _
                 · have := ih (by omega); simp only [ttot]; omega
def tsz (ts : List TaskV) : Nat := ts.length + ttot ts ts.length
theorem tsz_row {ts : List TaskV} {m k : Nat} (h : tsz ts ≤ m) (hk : k < ts.length) : (tel ts k).needs.length ≤ m := by
  have := ttot_mono ts (j := k + 1) (k := ts.length) (by omega); simp only [ttot] at this; unfold tsz at h; omega
theorem tsz_len {ts : List TaskV} {m : Nat} (h : tsz ts ≤ m) : ts.length ≤ m := by unfold tsz at h; omega
def BigT (ts : List TaskV) : Prop := ts.length ≤ 9223372036854775807 ∧ ∀ k, k < ts.length → (tel ts k).needs.length ≤ 9223372036854775807
theorem bigT_of {ts : List TaskV} (h : tsz ts ≤ 1048576) : BigT ts := ⟨by have := tsz_len h; omega, fun k hk => by have := tsz_row h hk; omega⟩
end Go.Proofs.YtnnioicjmlfllaaGreatDoor
