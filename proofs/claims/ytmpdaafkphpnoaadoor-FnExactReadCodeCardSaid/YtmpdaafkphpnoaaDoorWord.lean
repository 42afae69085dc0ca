import Derived.Test.YtmpdaafkphpnoaaDoorFn
set_option linter.unusedVariables false
set_option linter.unusedSimpArgs false
namespace Go.Proofs.YtmpdaafkphpnoaaDoor
open Go.RowKit

/-! ### The plain functions -/
def lanesB (n : Int) : Bool := n == 2 || n == 4 || n == 8 || n == 16
def bitsB (n : Int) : Bool := n == 4 || n == 8 || n == 16
def inB (n a b : Int) : Bool := decide (a ≤ n) && decide (n ≤ b)
def top (bits : Int) : Int := if bits = 4 then 15 else if bits = 8 then 255 else 65535
def wordB (bits x : Int) : Bool := bitsB bits && inB x 0 (top bits)
def vecB (bits : Int) (xs : List Int) : Bool := bitsB bits && lanesB xs.length && xs.all (wordB bits)
def maskB (xs : List Int) : Bool := lanesB xs.length && xs.all (fun x => inB x 0 1)
theorem bitsB_or {b : Int} (h : bitsB b = true) : b = 4 ∨ b = 8 ∨ b = 16 := by simp [bitsB] at h; omega
theorem lanesB_or {b : Int} (h : lanesB b = true) : b = 2 ∨ b = 4 ∨ b = 8 ∨ b = 16 := by simp [lanesB] at h; omega
theorem inB_iff {n a b : Int} : inB n a b = true ↔ a ≤ n ∧ n ≤ b := by simp [inB]
theorem inB_no {n a b : Int} : inB n a b = false ↔ ¬ (a ≤ n ∧ n ≤ b) := by rw [← Bool.not_eq_true, inB_iff]
theorem wordB_range {b x : Int} (h : wordB b x = true) : 0 ≤ x ∧ x ≤ 65535 := by
  simp only [wordB, Bool.and_eq_true, inB_iff] at h; unfold top at h; obtain ⟨_, h1, h2⟩ := h; refine ⟨h1, ?_⟩; split at h2 <;> (try split at h2) <;> omega
theorem vecB_len {b : Int} {xs : List Int} (h : vecB b xs = true) : xs.length ≤ 16 := by
  simp only [vecB, Bool.and_eq_true] at h; have := lanesB_or h.1.2; omega



theorem i_within (n a b : Int) (w : World) : Calls Tryd.prog 69 #[.int .i64 n, .int .i64 a, .int .i64 b] w fun e w' => e = .returned (.bool (inB n a b)) ∧ w = w' := by
  by_cases h : a ≤ n
  · go_enter Tryd.func69, Tryd.ntmps69; go_wp2; go_ret; exact ⟨by simp [inB, h], rfl⟩
  · have h' : decide (a ≤ n) = false := by simpa using h
    clear h
    go_enter Tryd.func69, Tryd.ntmps69; go_wp2; go_ret; exact ⟨by simp [inB, h'], rfl⟩
theorem s_l00In (n a b : Int) (w : World) : Calls Tryd.prog 39 #[.int .i64 n, .int .i64 a, .int .i64 b] w fun e w' => e = .returned (.bool (inB n a b)) ∧ w = w' := by
  by_cases h : a ≤ n
  · go_enter Tryd.func39, Tryd.ntmps39; go_wp2; go_ret; exact ⟨by simp [inB, h], rfl⟩
  · have h' : decide (a ≤ n) = false := by simpa using h
    clear h
    go_enter Tryd.func39, Tryd.ntmps39; go_wp2; go_ret; exact ⟨by simp [inB, h'], rfl⟩




end Go.Proofs.YtmpdaafkphpnoaaDoor
