import Derived.Test.YtmpdaafkphpnoaaGreatSched
set_option linter.unusedVariables false
set_option linter.unusedSimpArgs false
namespace Go.Proofs.YtmpdaafkphpnoaaGreat
open Go.RowKit

/-! ### Heights: the plain functions -/
/-- The list after the first j of what is needed. -/
def ndN (out : List Int) (i : Nat) (ns : List Int) : Nat → List Int
  | 0 => out
  | j + 1 => (ndN out i ns j).set (el ns j).toNat (max (el (ndN out i ns j) (el ns j).toNat) (el (ndN out i ns j) i))
/-- The list after the last d tasks. -/
def htN (ts : List TaskV) : Nat → List Int
  | 0 => List.replicate ts.length 0
  | d + 1 => ndN ((htN ts d).set (ts.length - (d + 1)) (el (htN ts d) (ts.length - (d + 1)) + (tel ts (ts.length - (d + 1))).lat)) (ts.length - (d + 1)) (tel ts (ts.length - (d + 1))).needs (tel ts (ts.length - (d + 1))).needs.length
def hts (ts : List TaskV) : List Int := htN ts ts.length
theorem ndN_length (out : List Int) (i : Nat) (ns : List Int) (j : Nat) : (ndN out i ns j).length = out.length := by
  induction j with | zero => rfl | succ j ih => simp [ndN, ih]
theorem htN_length (ts : List TaskV) (d : Nat) : (htN ts d).length = ts.length := by
  induction d with | zero => simp [htN] | succ d ih => simp [htN, ndN_length, ih]
theorem hts_length (ts : List TaskV) : (hts ts).length = ts.length := htN_length ts _
/-- Every number from 0 to b. -/
def BndI (xs : List Int) (b : Int) : Prop := ∀ k, 0 ≤ el xs k ∧ el xs k ≤ b
theorem el_out {xs : List Int} {k : Nat} (h : xs.length ≤ k) : el xs k = 0 := by
  unfold el; rw [List.getD_eq_getElem?_getD, List.getElem?_eq_none h]; rfl
theorem bnd_set {xs : List Int} {b : Int} (h : BndI xs b) (k : Nat) {x : Int} (h0 : 0 ≤ x) (h1 : x ≤ b) : BndI (xs.set k x) b := fun j => by
  by_cases e : k = j
  · subst e
    by_cases hk : k < xs.length
    · rw [el_set_same hk]; exact ⟨h0, h1⟩
    · rw [el_out (by simp; omega)]; have := h 0; omega
  · rw [el_set_other e]; exact h j
theorem bnd_wide {xs : List Int} {b b' : Int} (h : BndI xs b) (hb : b ≤ b') : BndI xs b' := fun k => by have := h k; omega
theorem bnd_zero (n : Nat) : BndI (List.replicate n 0) 0 := fun k => by
  have : el (List.replicate n 0) k = 0 := by
    unfold el; rw [List.getD_eq_getElem?_getD, List.getElem?_replicate]; split <;> rfl
  omega
theorem bnd_ndN {out : List Int} {b : Int} (h : BndI out b) (i : Nat) (ns : List Int) (j : Nat) : BndI (ndN out i ns j) b := by
  induction j with
  | zero => exact h
  | succ j ih =>
    have h1 := ih (el ns j).toNat
    have h2 := ih i
    exact bnd_set ih _ (by omega) (by omega)
theorem bnd_htN {ts : List TaskV} (h : TOk ts) (d : Nat) (hd : d ≤ ts.length) : BndI (htN ts d) (6 * d) := by
  induction d with
  | zero => exact bnd_zero _
  | succ d ih =>
    have h1 := ih (by omega)
    have h2 := h1 (ts.length - (d + 1))
    have h3 := h.lat (ts.length - (d + 1)) (by omega)
    exact bnd_ndN (bnd_set (bnd_wide h1 (by omega)) _ (by omega) (by omega)) _ _ _
theorem bnd_hts {ts : List TaskV} (h : TOk ts) : BndI (hts ts) 48 := bnd_wide (bnd_htN h ts.length (Nat.le_refl _)) (by have := h.few; omega)
/-- The greatest of the first k numbers and 0. -/
def mxN (xs : List Int) : Nat → Int
  | 0 => 0
  | k + 1 => max (mxN xs k) (el xs k)
theorem mxN_bnd {xs : List Int} {b : Int} (h : BndI xs b) (hb : 0 ≤ b) (k : Nat) : 0 ≤ mxN xs k ∧ mxN xs k ≤ b := by
  induction k with
  | zero => exact ⟨Int.le_refl _, hb⟩
  | succ k ih => have := h k; simp only [mxN]; omega
end Go.Proofs.YtmpdaafkphpnoaaGreat
