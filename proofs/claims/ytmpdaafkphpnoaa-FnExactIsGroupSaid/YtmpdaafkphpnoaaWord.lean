import Derived.Test.YtmpdaafkphpnoaaFn
set_option linter.unusedVariables false
set_option linter.unusedSimpArgs false
namespace Go.Proofs.Ytmpdaafkphpnoaa
open Go.RowKit

/-! ### The plain functions -/
def lanesB (n : Int) : Bool := n == 2 || n == 4 || n == 8 || n == 16
def bitsB (n : Int) : Bool := n == 4 || n == 8 || n == 16
def inB (n a b : Int) : Bool := decide (a ≤ n) && decide (n ≤ b)
def top (bits : Int) : Int := if bits = 4 then 15 else if bits = 8 then 255 else 65535
def wordB (bits x : Int) : Bool := bitsB bits && inB x 0 (top bits)
def vecB (bits : Int) (xs : List Int) : Bool := bitsB bits && lanesB xs.length && xs.all (wordB bits)
def maskB (xs : List Int) : Bool := lanesB xs.length && xs.all (fun x => inB x 0 1)
theorem bitsB_or {b : Int} (h : bitsB b = true) : b = 4 ∨ b = 8 ∨ b = 16 := by simp [bitsB] at h; omega
theorem lanesB_or {b : Int} (h : lanesB b = true) : b = 2 ∨ b = 4 ∨ b = 8 ∨ b = 16 := by simp [lanesB] at h; omega
theorem inB_iff {n a b : Int} : inB n a b = true ↔ a ≤ n ∧ n ≤ b := by simp [inB]
theorem inB_no {n a b : Int} : inB n a b = false ↔ ¬ (a ≤ n ∧ n ≤ b) := by rw [← Bool.not_eq_true, inB_iff]
theorem wordB_range {b x : Int} (h : wordB b x = true) : 0 ≤ x ∧ x ≤ 65535 := by
  simp only [wordB, Bool.and_eq_true, inB_iff] at h; unfold top at h; obtain ⟨_, h1, h2⟩ := h; refine ⟨h1, ?_⟩; split at h2 <;> (try split at h2) <;> omega
theorem vecB_len {b : Int} {xs : List Int} (h : vecB b xs = true) : xs.length ≤ 16 := by
  simp only [vecB, Bool.and_eq_true] at h; have := lanesB_or h.1.2; omega

theorem i_isLanes (a : Int) (w : World) : Calls Try.prog 42 #[.int .i64 a] w fun e w' => e = .returned (.bool (lanesB a)) ∧ w = w' := by
  cases h2 : (a == 2) <;> cases h4 : (a == 4) <;> cases h8 : (a == 8) <;> (go_enter Try.func42, Try.ntmps42; go_wp2; go_ret; exact ⟨by simp [lanesB, h2, h4, h8], rfl⟩)
theorem s_l02Lanes (a : Int) (w : World) : Calls Try.prog 79 #[.int .i64 a] w fun e w' => e = .returned (.bool (lanesB a)) ∧ w = w' := by
  cases h2 : (a == 2) <;> cases h4 : (a == 4) <;> cases h8 : (a == 8) <;> (go_enter Try.func79, Try.ntmps79; go_wp2; go_ret; exact ⟨by simp [lanesB, h2, h4, h8], rfl⟩)
theorem i_isBits (a : Int) (w : World) : Calls Try.prog 92 #[.int .i64 a] w fun e w' => e = .returned (.bool (bitsB a)) ∧ w = w' := by
  cases h2 : (a == 4) <;> cases h4 : (a == 8) <;> (go_enter Try.func92, Try.ntmps92; go_wp2; go_ret; exact ⟨by simp [bitsB, h2, h4], rfl⟩)
theorem s_l01Bits (a : Int) (w : World) : Calls Try.prog 87 #[.int .i64 a] w fun e w' => e = .returned (.bool (bitsB a)) ∧ w = w' := by
  cases h2 : (a == 4) <;> cases h4 : (a == 8) <;> (go_enter Try.func87, Try.ntmps87; go_wp2; go_ret; exact ⟨by simp [bitsB, h2, h4], rfl⟩)
theorem i_within (n a b : Int) (w : World) : Calls Try.prog 26 #[.int .i64 n, .int .i64 a, .int .i64 b] w fun e w' => e = .returned (.bool (inB n a b)) ∧ w = w' := by
  by_cases h : a ≤ n
  · go_enter Try.func26, Try.ntmps26; go_wp2; go_ret; exact ⟨by simp [inB, h], rfl⟩
  · have h' : decide (a ≤ n) = false := by simpa using h
    clear h
    go_enter Try.func26, Try.ntmps26; go_wp2; go_ret; exact ⟨by simp [inB, h'], rfl⟩
theorem s_l00In (n a b : Int) (w : World) : Calls Try.prog 59 #[.int .i64 n, .int .i64 a, .int .i64 b] w fun e w' => e = .returned (.bool (inB n a b)) ∧ w = w' := by
  by_cases h : a ≤ n
  · go_enter Try.func59, Try.ntmps59; go_wp2; go_ret; exact ⟨by simp [inB, h], rfl⟩
  · have h' : decide (a ≤ n) = false := by simpa using h
    clear h
    go_enter Try.func59, Try.ntmps59; go_wp2; go_ret; exact ⟨by simp [inB, h'], rfl⟩
theorem i_lengthI (A : Option Addr) (n c : Nat) (w : World) : Calls Try.prog 43 #[.slice A n c] w fun e w' => e = .returned (.int .i64 n) ∧ w = w' := by
  go_enter Try.func43, Try.ntmps43
  go_wp2
  go_ret
  exact ⟨rfl, rfl⟩
theorem i_lengthR (A : Option Addr) (n c : Nat) (w : World) : Calls Try.prog 48 #[.slice A n c] w fun e w' => e = .returned (.int .i64 n) ∧ w = w' := by
  go_enter Try.func48, Try.ntmps48
  go_wp2
  go_ret
  exact ⟨rfl, rfl⟩



end Go.Proofs.Ytmpdaafkphpnoaa
