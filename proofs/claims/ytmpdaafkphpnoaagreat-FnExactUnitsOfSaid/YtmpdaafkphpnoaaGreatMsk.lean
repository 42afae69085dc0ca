import Derived.Test.YtmpdaafkphpnoaaGreatGrp
import Derived.Test.YtmpdaafkphpnoaaGreatPerm
set_option linter.unusedVariables false
set_option linter.unusedSimpArgs false
namespace Go.Proofs.YtmpdaafkphpnoaaGreat
open Go.RowKit

/-! ### Sets of small numbers as masks -/
theorem msk_or (a b : Nat) (ha : a < 65536) (hb : b < 65536) : bits .or .i64 (a : Int) (b : Int) = ((a ||| b : Nat) : Int) := by
  have hx : a ||| b < 2 ^ 63 := Nat.or_lt_two_pow (by omega) (by omega)
  have h1 : (BitVec.ofInt 64 (a : Int)).toNat = a := by
    rw [BitVec.ofInt_natCast, BitVec.toNat_ofNat]; exact Nat.mod_eq_of_lt (by omega)
  have h2 : (BitVec.ofInt 64 (b : Int)).toNat = b := by
    rw [BitVec.ofInt_natCast, BitVec.toNat_ofNat]; exact Nat.mod_eq_of_lt (by omega)
  show IntKind.i64.wrap ((BitVec.ofInt 64 (a : Int) ||| BitVec.ofInt 64 (b : Int)).toNat : Int) = _
  rw [BitVec.toNat_or, h1, h2, IntKind.wrap_i64]
  omega
def anM (a b : Nat) : Nat := (BitVec.ofNat 64 a &&& ~~~BitVec.ofNat 64 b).toNat
theorem anM_le (a b : Nat) (ha : a < 65536) : anM a b < 65536 := by
  unfold anM
  rw [BitVec.toNat_and, BitVec.toNat_ofNat, Nat.mod_eq_of_lt (by omega)]
  exact Nat.lt_of_le_of_lt Nat.and_le_left ha
theorem msk_andNot (a b : Nat) (ha : a < 65536) (hb : b < 65536) : bits .andNot .i64 (a : Int) (b : Int) = ((anM a b : Nat) : Int) := by
  have := anM_le a b ha
  show IntKind.i64.wrap ((BitVec.ofInt 64 (a : Int) &&& ~~~BitVec.ofInt 64 (b : Int)).toNat : Int) = _
  rw [BitVec.ofInt_natCast, BitVec.ofInt_natCast]
  show IntKind.i64.wrap ((anM a b : Nat) : Int) = _
  rw [IntKind.wrap_i64]
  omega
theorem anM_zero (a b : Nat) (ha : a < 65536) : anM a b = 0 ↔ ∀ i, a.testBit i = true → b.testBit i = true := by
  unfold anM
  rw [show (0 : Nat) = (0#64).toNat from rfl, BitVec.toNat_inj]
  constructor
  · intro h i hi
    have h64 : i < 64 := by
      rcases Nat.lt_or_ge i 64 with q | q
      · exact q
      · rw [Nat.testBit_lt_two_pow (Nat.lt_of_lt_of_le ha (by have := Nat.pow_le_pow_right (n := 2) (by omega) (show 16 ≤ i by omega); omega))] at hi; cases hi
    have := congrArg (fun x => x.getLsbD i) h
    simp only [BitVec.getLsbD_and, BitVec.getLsbD_not, BitVec.getLsbD_ofNat, h64, hi, decide_true, Bool.true_and, BitVec.getLsbD_zero] at this
    simpa using this
  · intro h
    apply BitVec.eq_of_getLsbD_eq
    intro i hi
    simp only [BitVec.getLsbD_and, BitVec.getLsbD_not, BitVec.getLsbD_ofNat, hi, decide_true, Bool.true_and, BitVec.getLsbD_zero]
    cases q : a.testBit i with
    | false => simp
    | true => rw [h i q]; simp
theorem or_small {a b : Nat} (ha : a < 65536) (hb : b < 65536) : a ||| b < 65536 := by
  have : a ||| b < 2 ^ 16 := Nat.or_lt_two_pow (by omega) (by omega)
  omega
theorem pow_small16 {i : Nat} (h : i < 16) : 2 ^ i < 65536 := by
  have := Nat.pow_lt_pow_right (a := 2) (by omega) h; omega
/-- The mask of a list of numbers. -/
def mskL : List Int → Nat
  | [] => 0
  | x :: r => 2 ^ x.toNat ||| mskL r
theorem mskL_small {D : List Int} (h : ∀ x ∈ D, 0 ≤ x ∧ x < 16) : mskL D < 65536 := by
  induction D with
  | nil => simp [mskL]
  | cons x r ih => exact or_small (pow_small16 (by have := h x (by simp); omega)) (ih fun y hy => h y (by simp [hy]))
theorem mskL_app (D E : List Int) : mskL (D ++ E) = mskL D ||| mskL E := by
  induction D with
  | nil => simp [mskL]
  | cons x r ih => simp [mskL, ih, Nat.or_assoc]
theorem mskL_bit {D : List Int} (h : ∀ x ∈ D, 0 ≤ x ∧ x < 16) (i : Nat) : (mskL D).testBit i = hasB D (i : Int) := by
  induction D with
  | nil => simp [mskL, hasB]
  | cons x r ih =>
    have hx := h x (by simp)
    rw [mskL, Nat.testBit_or, ih fun y hy => h y (by simp [hy]), Nat.testBit_two_pow]
    unfold hasB
    rw [List.any_cons]
    congr 1
    rw [Bool.eq_iff_iff]
    simp
    omega
/-- Those among the first k that statement j must follow. -/
def ndM (cs : List SmV) (j : Nat) : Nat → Nat
  | 0 => 0
  | k + 1 => if folB (sel cs k) (sel cs j) then ndM cs j k ||| 2 ^ k else ndM cs j k
theorem ndM_small (cs : List SmV) (j : Nat) {k : Nat} (h : k ≤ 16) : ndM cs j k < 65536 := by
  induction k with
  | zero => simp [ndM]
  | succ k ih =>
    simp only [ndM]
    split
    · exact or_small (ih (by omega)) (pow_small16 (by omega))
    · exact ih (by omega)
theorem ndM_bit (cs : List SmV) (j k i : Nat) : (ndM cs j k).testBit i = (decide (i < k) && folB (sel cs i) (sel cs j)) := by
  induction k with
  | zero => simp [ndM]
  | succ k ih =>
    simp only [ndM]
    by_cases e : i = k
    · subst e
      split
      · rename_i hf
        rw [Nat.testBit_or, ih, Nat.testBit_two_pow, hf]
        simp
      · rename_i hf
        have hf' : folB (sel cs i) (sel cs j) = false := by simpa using hf
        rw [ih, hf']; simp
    · have h1 : decide (i < k + 1) = decide (i < k) := by
        rw [decide_eq_decide]; omega
      split
      · rw [Nat.testBit_or, ih, Nat.testBit_two_pow, h1, decide_eq_false (show ¬ k = i from fun z => e z.symm)]; simp
      · rw [ih, h1]
/-- What all of a unit need. -/
def nedM (cs : List SmV) : List Int → Nat
  | [] => 0
  | x :: r => ndM cs x.toNat x.toNat ||| nedM cs r
theorem nedM_small {cs : List SmV} {D : List Int} (h : ∀ x ∈ D, 0 ≤ x ∧ x < 16) : nedM cs D < 65536 := by
  induction D with
  | nil => simp [nedM]
  | cons x r ih => exact or_small (ndM_small cs _ (by have := h x (by simp); omega)) (ih fun y hy => h y (by simp [hy]))
theorem nedM_app (cs : List SmV) (D E : List Int) : nedM cs (D ++ E) = nedM cs D ||| nedM cs E := by
  induction D with
  | nil => simp [nedM]
  | cons x r ih => simp [nedM, ih, Nat.or_assoc]
theorem nedM_bit (cs : List SmV) (D : List Int) (i : Nat) : (nedM cs D).testBit i = D.any fun x => decide (i < x.toNat) && folB (sel cs i) (sel cs x.toNat) := by
  induction D with
  | nil => simp [nedM]
  | cons x r ih => rw [nedM, Nat.testBit_or, ih, ndM_bit]; rfl
/-- A unit is ready: all that its statements must follow are done or its own. -/
def rdyB (cs : List SmV) (D u : List Int) : Bool := u.all fun x => (List.range x.toNat).all fun i => !(folB (sel cs i) (sel cs x.toNat) && (!hasB D (i : Int) && !hasB u (i : Int)))
theorem rdy_msk {cs : List SmV} {D u : List Int} (hD : ∀ x ∈ D, 0 ≤ x ∧ x < 16) (hu : ∀ x ∈ u, 0 ≤ x ∧ x < 16) : decide (anM (nedM cs u) (mskL D ||| mskL u) = 0) = rdyB cs D u := by
  rw [Bool.eq_iff_iff, decide_eq_true_iff, anM_zero _ _ (nedM_small hu)]
  unfold rdyB
  rw [List.all_eq_true]
  constructor
  · intro h x hx
    rw [List.all_eq_true]
    intro i hi
    have hlt := List.mem_range.1 hi
    have h1 := h i
    rw [nedM_bit, Nat.testBit_or, mskL_bit hD, mskL_bit hu] at h1
    cases hf : folB (sel cs i) (sel cs x.toNat) with
    | false => rfl
    | true =>
      have := h1 (List.any_eq_true.2 ⟨x, hx, by simp [hlt, hf]⟩)
      cases q1 : hasB D (i : Int) <;> cases q2 : hasB u (i : Int) <;> simp_all
  · intro h i hi
    rw [nedM_bit, List.any_eq_true] at hi
    obtain ⟨x, hx, hq⟩ := hi
    simp only [Bool.and_eq_true, decide_eq_true_eq] at hq
    have := List.all_eq_true.1 (h x hx) i (List.mem_range.2 hq.1)
    rw [hq.2] at this
    rw [Nat.testBit_or, mskL_bit hD, mskL_bit hu]
    cases q1 : hasB D (i : Int) <;> cases q2 : hasB u (i : Int) <;> simp_all
end Go.Proofs.YtmpdaafkphpnoaaGreat
