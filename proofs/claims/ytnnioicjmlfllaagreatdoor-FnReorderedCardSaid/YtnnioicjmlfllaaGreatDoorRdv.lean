import Derived.Test.YtnnioicjmlfllaaGreatDoorCod3
set_option linter.unusedVariables false
set_option linter.unusedSimpArgs false
namespace Go.Proofs.YtnnioicjmlfllaaGreatDoor
open Go.RowKit

/-! ### A number read -/
def dgs (n : Int) (b : UInt8) : Int := if 48 ≤ b.toNat ∧ b.toNat ≤ 57 then 10 * n + ((b.toNat : Int) - 48) else n
def dgl (n : Int) (l : List UInt8) : Int := l.foldl dgs n
theorem dgl_append (n : Int) (a b : List UInt8) : dgl n (a ++ b) = dgl (dgl n a) b := by unfold dgl; rw [List.foldl_append]
theorem digit_nat {d : Nat} (h : d < 10) : (UInt8.ofNat (48 + d)).toNat = 48 + d := by simp; omega
theorem dgs_digit (n : Int) {d : Nat} (h : d < 10) : dgs n (UInt8.ofNat (48 + d)) = 10 * n + d := by
  unfold dgs
  rw [digit_nat h, if_pos (by omega)]; omega
theorem dgl_dec : ∀ (u : Nat), dgl 0 (Lib.decDigits u) = u := by
  intro u
  induction u using Nat.strongRecOn with
  | _ u ih =>
    by_cases h : u < 10
    · rw [dec_one h]; show dgs 0 _ = _; rw [dgs_digit 0 h]; omega
    · rw [dec_more h, dgl_append, ih (u / 10) (by omega)]
      show dgs _ _ = _
      rw [dgs_digit _ (Nat.mod_lt _ (by decide))]; omega
theorem dec_dig : ∀ (u : Nat) (b : UInt8), b ∈ Lib.decDigits u → 48 ≤ b.toNat ∧ b.toNat ≤ 57 := by
  intro u
  induction u using Nat.strongRecOn with
  | _ u ih =>
    intro b hb
    by_cases h : u < 10
    · rw [dec_one h, List.mem_singleton] at hb
      rw [hb, digit_nat h]; omega
    · rw [dec_more h, List.mem_append, List.mem_singleton] at hb
      rcases hb with hb | hb
      · exact ih _ (by omega) b hb
      · rw [hb, digit_nat (Nat.mod_lt _ (by decide))]; omega
def valN (s : List UInt8) : Int := if s.head? = some 45 then -(dgl 0 s) else dgl 0 s
theorem valN_itoa (n : Int) : valN (Lib.itoa n) = n := by
  by_cases h : n < 0
  · rw [itoa_neg h]
    unfold valN
    simp only [List.head?_cons, if_true]
    have : dgl 0 (45 :: Lib.decDigits n.natAbs) = dgl 0 (Lib.decDigits n.natAbs) := rfl
    rw [this, dgl_dec]; omega
  · rw [itoa_pos h]
    unfold valN
    rw [if_neg, dgl_dec]
    · omega
    · intro q
      have hm : (45 : UInt8) ∈ Lib.decDigits n.natAbs := List.mem_of_mem_head? (by rw [q]; exact rfl)
      have := dec_dig _ _ hm
      have e : (45 : UInt8).toNat = 45 := rfl
      omega
theorem itoa_len1 (n : Int) : 1 ≤ (Lib.itoa n).length := by
  cases h : Lib.itoa n with
  | nil =>
    exfalso
    by_cases q : n < 0
    · rw [itoa_neg q] at h; cases h
    · rw [itoa_pos q] at h
      by_cases r : n.natAbs < 10
      · rw [dec_one r] at h; cases h
      · rw [dec_more r] at h; simp at h
  | cons => simp
/-- Is it the text of a number that is not too great? -/
def valB (s : List UInt8) : Bool := inB (valN s) (-1000000000) 1000000000 && (Lib.itoa (valN s) == s)
theorem valB_len {s : List UInt8} (h : valB s = true) : 1 ≤ s.length ∧ s.length ≤ 11 := by
  simp only [valB, Bool.and_eq_true, inB_iff, beq_iff_eq] at h
  have h1 := itoa_len h.1.1 h.1.2
  have h2 := itoa_len1 (valN s)
  rw [h.2] at h1 h2
  exact ⟨h2, h1⟩
def valR (s : List UInt8) : Value := .tuple #[.int .i64 (if valB s then valN s else 0), .bool (valB s)]
theorem valR_no {s : List UInt8} (h : valB s = false) : valR s = .tuple #[.int .i64 0, .bool false] := by unfold valR; rw [h]; rfl
theorem valR_yes {s : List UInt8} (h : valB s = true) : valR s = .tuple #[.int .i64 (valN s), .bool true] := by unfold valR; rw [h]; rfl
theorem dgs_bnd {n : Int} {m : Nat} (b : UInt8) (h0 : 0 ≤ n) (h1 : n < 10 ^ m) : 0 ≤ dgs n b ∧ dgs n b < 10 ^ (m + 1) := by
  unfold dgs
  have hp : (10 : Int) ^ (m + 1) = 10 ^ m * 10 := by rw [Int.pow_succ]
  split <;> omega
theorem dgl_bnd : ∀ (l : List UInt8), 0 ≤ dgl 0 l ∧ dgl 0 l < 10 ^ l.length := by
  intro l
  rw [← List.reverse_reverse l]
  induction l.reverse with
  | nil => exact ⟨Int.le_refl 0, by decide⟩
  | cons b r ih =>
    rw [List.reverse_cons, dgl_append, List.length_append]
    exact dgs_bnd b ih.1 ih.2
theorem bytes_get (s : ByteArray) {k : Nat} (h : k < s.size) : s.data.toList[k]? = some (s[k]'h) := by rw [Array.getElem?_toList]; exact Array.getElem?_eq_getElem h
theorem pow_small {m : Nat} (h : m ≤ 11) : (10 : Int) ^ m ≤ 100000000000 := by
  have : ∀ m : Fin 12, (10 : Int) ^ m.1 ≤ 100000000000 := by decide
  exact this ⟨m, by omega⟩
theorem dgs_val {n : Int} {b : UInt8} {m : Nat} (h48 : (48 : Int) ≤ (b.toNat : Int)) (h57 : (b.toNat : Int) ≤ 57) (hn : 0 ≤ n ∧ n < 10 ^ m) (hm : m ≤ 11) : wrap64 (wrap64 (10 * n) + ((b.toNat : Int) - 48)) = dgs n b := by
  have := pow_small hm
  unfold dgs
  rw [if_pos (by omega), wrap64_in (x := 10 * n) (by omega) (by omega), wrap64_in (by omega) (by omega)]
theorem valN_head (s : ByteArray) (h : 0 < s.size) : s.data.toList.head? = some (s[0]'h) := by
  rw [List.head?_eq_getElem?]; exact bytes_get s h
theorem bstr_data (s : ByteArray) : bstr s.data.toList = s := by simp [bstr]
end Go.Proofs.YtnnioicjmlfllaaGreatDoor
