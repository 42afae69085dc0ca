import Derived.Test.YtnnioicjmlfllaaGreatDoorRdv
import Derived.Lib.ParseIntBCases
set_option linter.unusedVariables false
set_option linter.unusedSimpArgs false
namespace Go.Proofs.YtnnioicjmlfllaaGreatDoor
open Go.RowKit

/-! ### The library reads a number's own text -/
def ngl (n : Nat) (l : List UInt8) : Nat := l.foldl (fun n b => n * 10 + (b.toNat - 48)) n
theorem ngl_append (n : Nat) (a b : List UInt8) : ngl n (a ++ b) = ngl (ngl n a) b := by unfold ngl; rw [List.foldl_append]
theorem ngl_cons (n : Nat) (c : UInt8) (l : List UInt8) : ngl n (c :: l) = ngl (n * 10 + (c.toNat - 48)) l := by unfold ngl; rw [List.foldl_cons]
theorem ngl_le : ∀ (l : List UInt8) (n : Nat), n ≤ ngl n l := by
  intro l
  induction l with
  | nil => intro n; unfold ngl; rw [List.foldl_nil]; exact Nat.le_refl _
  | cons c r ih => intro n; rw [ngl_cons]; exact Nat.le_trans (Nat.le_trans (Nat.le_mul_of_pos_right n (by decide)) (Nat.le_add_right _ _)) (ih (n * 10 + (c.toNat - 48)))
theorem ngl_dec : ∀ (u : Nat), ngl 0 (Lib.decDigits u) = u := by
  intro u
  induction u using Nat.strongRecOn with
  | _ u ih =>
    by_cases h : u < 10
    · rw [dec_one h, ngl_cons, digit_nat h]; show 0 * 10 + (48 + u - 48) = u; omega
    · rw [dec_more h, ngl_append, ih (u / 10) (by omega), ngl_cons, digit_nat (Nat.mod_lt _ (by decide))]
      show u / 10 * 10 + (48 + u % 10 - 48) = u; omega
theorem parse_ok (M : Nat) (hM : 1000000000000 ≤ M) : ∀ (l : List UInt8) (n : Nat), (∀ b ∈ l, 48 ≤ b.toNat ∧ b.toNat ≤ 57) → ngl n l ≤ 1000000000000 → Lib.parseUintM M n l = .ok (ngl n l) := by
  intro l
  induction l with
  | nil => intro n _ _; rfl
  | cons c r ih =>
    intro n hd hb
    have h1 := hd c List.mem_cons_self
    have h2 := ngl_le r (n * 10 + (c.toNat - 48))
    rw [ngl_cons] at hb ⊢
    rw [Lib.parseUintM, if_pos h1, if_neg (by omega), if_neg (by omega)]
    exact ih _ (fun b hb => hd b (List.mem_cons_of_mem _ hb)) hb
theorem dec_ne (u : Nat) : Lib.decDigits u ≠ [] := by
  by_cases r : u < 10
  · rw [dec_one r]; simp
  · rw [dec_more r]; simp
theorem parse_dec {u : Nat} (h : u ≤ 1000000000000) : Lib.parseUintB 64 (Lib.decDigits u) = .ok u := by
  unfold Lib.parseUintB
  rw [if_neg (dec_ne u), parse_ok _ (by decide) _ _ (dec_dig u) (by rw [ngl_dec]; exact h), ngl_dec]
/-- P1. -/
theorem parse_itoa {m : Int} (h0 : -1000000000 ≤ m) (h1 : m ≤ 1000000000) : Lib.parseIntB 64 (Lib.itoa m) = .ok m := by
  by_cases h : m < 0
  · rw [itoa_neg h, Lib.parseIntB_minus, parse_dec (by omega)]
    show (if 2 ^ (64 - 1) < m.natAbs then Lib.NumEnd.range else Lib.NumEnd.ok (-(m.natAbs : Int))) = _
    rw [if_neg (by omega)]
    congr 1; omega
  · rw [itoa_pos h]
    cases hd : Lib.decDigits m.natAbs with
    | nil => exact absurd hd (dec_ne _)
    | cons c r =>
      have hc := dec_dig m.natAbs c (by rw [hd]; exact List.mem_cons_self)
      rw [Lib.parseIntB_plain 64 c r (by omega) (by omega), ← hd, parse_dec (by omega)]
      show (if 2 ^ (64 - 1) ≤ m.natAbs then Lib.NumEnd.range else Lib.NumEnd.ok (m.natAbs : Int)) = _
      rw [if_neg (by omega)]
      congr 1; omega
/-- What the library reads is the number, if the text is one's own. -/
theorem valB_parse {l : List UInt8} (h : valB l = true) : Lib.parseIntB 64 l = .ok (valN l) := by
  simp only [valB, Bool.and_eq_true, inB_iff, beq_iff_eq] at h
  have := parse_itoa h.1.1 h.1.2
  rwa [h.2] at this
theorem valB_of_parse {l : List UInt8} {v : Int} (h : Lib.parseIntB 64 l = .ok v) : valB l = (inB v (-1000000000) 1000000000 && (Lib.itoa v == l)) := by
  rw [Bool.eq_iff_iff]
  constructor
  · intro hv
    have := valB_parse hv
    rw [h] at this
    injection this with e
    rw [e]; exact hv
  · intro hv
    have e : valN l = v := by
      simp only [Bool.and_eq_true, beq_iff_eq] at hv
      rw [← hv.2, valN_itoa]
    unfold valB
    rw [e]; exact hv
theorem valN_of_parse {l : List UInt8} {v : Int} (h : Lib.parseIntB 64 l = .ok v) (hv : valB l = true) : valN l = v := by
  have := valB_parse hv
  rw [h] at this
  injection this with e
  exact e.symm
end Go.Proofs.YtnnioicjmlfllaaGreatDoor
