import Derived.Test.YtolcmehndambmaaMarkR
set_option linter.unusedVariables false
set_option linter.unusedSimpArgs false
namespace Go.Proofs.Ytolcmehndambmaa
open Go.RowKit

theorem box_newR (w : World) (v : Value) (t : TypeId) : (w.alloc (.cells #[v] t)).cell? ⟨w.heap.size, 0, none⟩ = some v := by simp
/-! ### Rows with as many lanes as there are rows: the plain functions -/
def rowsB (b : Int) (xss : List (List Int)) : Bool := lanesB xss.length && xss.all fun xs => vecB b xs && decide (xs.length = xss.length)
def colN (xss : List (List Int)) (i : Nat) : List Int := (List.range xss.length).map fun k => el (rw_ xss k) i
def trN (xss : List (List Int)) : List (List Int) := (List.range xss.length).map (colN xss)
def m_TransposeLanes (b : Int) (xss : List (List Int)) : List (List Int) × Bool := if rowsB b xss then (trN xss, true) else ([], false)
structure ROk (xss : List (List Int)) : Prop where
  few : xss.length = 2 ∨ xss.length = 4 ∨ xss.length = 8 ∨ xss.length = 16
  row : ∀ k, k < xss.length → (rw_ xss k).length = xss.length
theorem ROk.of {b : Int} {xss : List (List Int)} (h : rowsB b xss = true) : ROk xss := by
  simp only [rowsB, Bool.and_eq_true, List.all_eq_true, decide_eq_true_eq] at h
  have := lanesB_or h.1
  exact ⟨by omega, fun k hk => (h.2 _ (rw_mem hk)).2⟩
theorem rowsB_eq (b : Int) (xss : List (List Int)) : rowsB b xss = (decide (0 < xss.length) && (vecsB b xss && decide (xss.length = (rw_ xss 0).length))) := by
  rw [Bool.eq_iff_iff]
  simp only [rowsB, vecsB, Bool.and_eq_true, List.all_eq_true, decide_eq_true_eq]
  constructor
  · rintro ⟨h1, h2⟩
    have := lanesB_or h1
    have h0 := (h2 _ (rw_mem (xss := xss) (k := 0) (by omega))).2
    exact ⟨by omega, fun x hx => ⟨(h2 x hx).1, by rw [(h2 x hx).2, h0]⟩, h0.symm⟩
  · rintro ⟨h0, h1, h2⟩
    have h3 := (h1 _ (rw_mem (xss := xss) (k := 0) h0)).1
    simp only [vecB, Bool.and_eq_true] at h3
    exact ⟨by rw [h2]; exact h3.1.2, fun x hx => ⟨(h1 x hx).1, by rw [(h1 x hx).2, h2]⟩⟩
theorem rsz_le {xss : List (List Int)} {n m : Nat} (hl : xss.length ≤ n) (h : ∀ k, k < xss.length → (rw_ xss k).length ≤ m) : rsz xss ≤ n + n * m := by
  have : ∀ k, k ≤ xss.length → rtot xss k ≤ k * m := fun k => by
    induction k with
    | zero => intro _; simp [rtot]
    | succ k ih => intro hk; have := ih (by omega); have := h k (by omega); simp only [rtot]; rw [Nat.add_mul]; omega
  have h1 := this xss.length (Nat.le_refl _)
  have h2 : xss.length * m ≤ n * m := Nat.mul_le_mul_right m hl
  unfold rsz; omega
theorem colN_length (xss : List (List Int)) (i : Nat) : (colN xss i).length = xss.length := by simp [colN]
theorem trN_length (xss : List (List Int)) : (trN xss).length = xss.length := by simp [trN]
theorem trN_row (xss : List (List Int)) {k : Nat} (h : k < xss.length) : rw_ (trN xss) k = colN xss k := by unfold rw_ trN; rw [List.getD_eq_getElem?_getD]; simp [h]
theorem m_TransposeLanes_len (b : Int) (xss : List (List Int)) : rsz (m_TransposeLanes b xss).1 ≤ 1048576 := by
  unfold m_TransposeLanes; split
  · rename_i h
    have hf := (ROk.of h).few
    have := rsz_le (xss := trN xss) (n := 16) (m := 16) (by rw [trN_length]; omega) (fun k hk => by rw [trN_length] at hk; rw [trN_row _ hk, colN_length]; omega)
    exact Nat.le_trans this (by decide)
  · simp [rsz, rtot]
/-- What a call leaves that returns rows and a bool. -/
def RetRB (w : World) (r : List (List Int) × Bool) (en : Ending) (w' : World) : Prop := ∃ v, en = .returned (.tuple #[v, .bool r.2]) ∧ OR w' w.heap.size w'.heap.size v r.1 ∧ Below w.heap.size w w'
theorem OR.lit0 (w : World) : OR (w.alloc (.cells #[] 29)) w.heap.size (w.heap.size + 1) (.slice (some ⟨w.heap.size, 0, none⟩) 0 0) [] := by
  have h := Own.of (World.ownsRow_lit (base := w.heap.size) (e := 29) (size := 1) w #[] 0 (Nat.le_refl _) (by simp [maxLen]) rfl)
  refine ⟨fun _ => .slice none 0 0, ?_, fun k hk => absurd hk (Nat.not_lt_zero _), fun i j a b _ hj => absurd hj (Nat.not_lt_zero _), fun k a b hk => absurd hk (Nat.not_lt_zero _)⟩
  simpa using h
end Go.Proofs.Ytolcmehndambmaa
