import Derived.Test.YtnnioicjmlfllaaGreatDoorWord
set_option linter.unusedVariables false
set_option linter.unusedSimpArgs false
namespace Go.Proofs.YtnnioicjmlfllaaGreatDoor
open Go.RowKit

/-! ### The results of the operations for words -/
theorem i64_low (j : Nat) (m : Nat) (n : Int) (hm : m = 2 ^ j - 1) (hj : j ≤ 16) : bits .and .i64 n (m : Int) = n % ((m : Int) + 1) := by
  have hj2 : 2 ^ j ≤ 65536 := Nat.pow_le_pow_right (n := 2) (by omega) hj
  have hp : 0 < 2 ^ j := Nat.pow_pos (by omega)
  have h127 : (BitVec.ofInt 64 (m : Int)).toNat = 2 ^ j - 1 := by
    rw [BitVec.ofInt_natCast, BitVec.toNat_ofNat, hm]; exact Nat.mod_eq_of_lt (by omega)
  have key : (BitVec.ofInt 64 n &&& BitVec.ofInt 64 (m : Int)).toNat = (n % ((2 ^ 64 : Nat) : Int)).toNat % 2 ^ j := by
    rw [BitVec.toNat_and, BitVec.toNat_ofInt, h127, Nat.and_two_pow_sub_one_eq_mod]
  show IntKind.i64.wrap ((BitVec.ofInt 64 n &&& BitVec.ofInt 64 (m : Int)).toNat : Nat) = _
  rw [key, IntKind.wrap_i64]
  have e : ((m : Int) + 1) = ((2 ^ j : Nat) : Int) := by omega
  rw [e]
  have hd : ((2 ^ j : Nat) : Int) ∣ ((2 ^ 64 : Nat) : Int) := Int.natCast_dvd_natCast.2 (Nat.pow_dvd_pow 2 (by omega))
  have h1 : ((n % ((2 ^ 64 : Nat) : Int)).toNat : Int) = n % ((2 ^ 64 : Nat) : Int) := by
    apply Int.toNat_of_nonneg; exact Int.emod_nonneg _ (by decide)
  have h2 : (((n % ((2 ^ 64 : Nat) : Int)).toNat % 2 ^ j : Nat) : Int) = n % ((2 ^ j : Nat) : Int) := by
    rw [Int.natCast_emod, h1, Int.emod_emod_of_dvd _ hd]
  have h3 : (n % ((2 ^ 64 : Nat) : Int)).toNat % 2 ^ j < 65536 := Nat.lt_of_lt_of_le (Nat.mod_lt _ hp) hj2
  rw [← h2]
  generalize (n % ((2 ^ 64 : Nat) : Int)).toNat % 2 ^ j = q at h3
  omega
theorem low15 (n : Int) : bits .and .i64 n 15 = n % 16 := i64_low 4 15 n (by decide) (by omega)
theorem low255 (n : Int) : bits .and .i64 n 255 = n % 256 := i64_low 8 255 n (by decide) (by omega)
theorem low65535 (n : Int) : bits .and .i64 n 65535 = n % 65536 := i64_low 16 65535 n (by decide) (by omega)
/-- The word to which a number wraps. -/
def wrB (bi n : Int) : Int := n % (top bi + 1)
def haB (bi : Int) : Int := (top bi + 1) / 2
def sgB (bi x : Int) : Int := if x < haB bi then x else x - (top bi + 1)
theorem i_wrapped (bi n : Int) (w : World) (hb : bitsB bi = true) : Calls Tryz.prog 132 #[.int .i64 bi, .int .i64 n] w fun e w' => e = .returned (.int .i64 (wrB bi n)) ∧ w = w' := by
  rcases bitsB_or hb with rfl | rfl | rfl <;> clear hb <;>
  · go_enter Tryz.func132, Tryz.ntmps132
    go_wp2
    go_ret
    first | exact ⟨by rw [low15]; rfl, rfl⟩ | exact ⟨by rw [low255]; rfl, rfl⟩ | exact ⟨by rw [low65535]; rfl, rfl⟩
theorem s_l01Wrap (bi n : Int) (w : World) (hb : bitsB bi = true) : Calls Tryz.prog 198 #[.int .i64 bi, .int .i64 n] w fun e w' => e = .returned (.int .i64 (wrB bi n)) ∧ w = w' := by
  rcases bitsB_or hb with rfl | rfl | rfl <;> clear hb <;>
  · go_enter Tryz.func198, Tryz.ntmps198
    go_wp2
    go_ret
    first | exact ⟨by rw [low15]; rfl, rfl⟩ | exact ⟨by rw [low255]; rfl, rfl⟩ | exact ⟨by rw [low65535]; rfl, rfl⟩
theorem i_signedOf (bi x : Int) (w : World) (hb : wordB bi x = true) : Calls Tryz.prog 131 #[.int .i64 bi, .int .i64 x] w fun e w' => e = .returned (.int .i64 (sgB bi x)) ∧ w = w' := by
  have hr := wordB_range hb
  simp only [wordB, Bool.and_eq_true] at hb
  rcases bitsB_or hb.1 with rfl | rfl | rfl
  · clear hb
    by_cases h : x < 8
    · have H := hid h
      go_enter Tryz.func131, Tryz.ntmps131
      go_wp2
      go_ret
      exact ⟨ret_i (by have := H.out; simp [sgB, haB, top]; omega), rfl⟩
    · have H := hid h
      have h' : decide (x < 8) = false := by simpa using h
      clear h
      go_enter Tryz.func131, Tryz.ntmps131
      go_wp2
      go_ret
      exact ⟨ret_i (by have := H.out; simp [sgB, haB, top]; omega), rfl⟩
  · clear hb
    by_cases h : x < 128
    · have H := hid h
      go_enter Tryz.func131, Tryz.ntmps131
      go_wp2
      go_ret
      exact ⟨ret_i (by have := H.out; simp [sgB, haB, top]; omega), rfl⟩
    · have H := hid h
      have h' : decide (x < 128) = false := by simpa using h
      clear h
      go_enter Tryz.func131, Tryz.ntmps131
      go_wp2
      go_ret
      exact ⟨ret_i (by have := H.out; simp [sgB, haB, top]; omega), rfl⟩
  · clear hb
    by_cases h : x < 32768
    · have H := hid h
      go_enter Tryz.func131, Tryz.ntmps131
      go_wp2
      go_ret
      exact ⟨ret_i (by have := H.out; simp [sgB, haB, top]; omega), rfl⟩
    · have H := hid h
      have h' : decide (x < 32768) = false := by simpa using h
      clear h
      go_enter Tryz.func131, Tryz.ntmps131
      go_wp2
      go_ret
      exact ⟨ret_i (by have := H.out; simp [sgB, haB, top]; omega), rfl⟩
/-- One of two numbers. -/
def pkI (p : Bool) (a b : Int) : Int := if p then a else b
theorem i_pick (p : Bool) (a b : Int) (w : World) : Calls Tryz.prog 110 #[.bool p, .int .i64 a, .int .i64 b] w fun e w' => e = .returned (.int .i64 (pkI p a b)) ∧ w = w' := by
  cases p <;> (go_enter Tryz.func110, Tryz.ntmps110; go_wp2; go_ret; exact ⟨rfl, rfl⟩)
theorem i_bounded (n a b : Int) (w : World) : Calls Tryz.prog 133 #[.int .i64 n, .int .i64 a, .int .i64 b] w fun e w' => e = .returned (.int .i64 (max a (min n b))) ∧ w = w' := by
  by_cases h : b < n
  · by_cases h2 : a < b
    · go_enter Tryz.func133, Tryz.ntmps133
      go_wp2
      go_ret
      exact ⟨ret_i (by omega), rfl⟩
    · go_enter Tryz.func133, Tryz.ntmps133
      go_wp2
      go_ret
      exact ⟨ret_i (by omega), rfl⟩
  · by_cases h2 : a < n
    · go_enter Tryz.func133, Tryz.ntmps133
      go_wp2
      go_ret
      exact ⟨ret_i (by omega), rfl⟩
    · go_enter Tryz.func133, Tryz.ntmps133
      go_wp2
      go_ret
      exact ⟨ret_i (by omega), rfl⟩
end Go.Proofs.YtnnioicjmlfllaaGreatDoor
