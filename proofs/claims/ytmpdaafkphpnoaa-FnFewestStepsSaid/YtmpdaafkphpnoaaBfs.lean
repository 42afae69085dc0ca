import Derived.Test.YtmpdaafkphpnoaaShfl
set_option linter.unusedVariables false
set_option linter.unusedSimpArgs false
namespace Go.Proofs.Ytmpdaafkphpnoaa
open Go.RowKit

/-! ### Shuffles that steps reach: plain lists -/
abbrev PQ := List Int × List Int
def qel (O : List PQ) (k : Nat) : PQ := O.getD k ([], [])
theorem qel_get {O : List PQ} {k : Nat} (h : k < O.length) : O[k]? = some (qel O k) := by
  unfold qel; rw [List.getD_eq_getElem?_getD, List.getElem?_eq_getElem h]; simp
theorem qel_mem {O : List PQ} {k : Nat} (h : k < O.length) : qel O k ∈ O := List.mem_of_getElem? (qel_get h)
theorem qel_app {O N : List PQ} {k : Nat} (h : k < O.length) : qel (O ++ N) k = qel O k := by
  unfold qel; rw [List.getD_eq_getElem?_getD, List.getD_eq_getElem?_getD, List.getElem?_append_left h]
def seenB (O : List PQ) (s : List Int) : Bool := O.any fun p => decide (p.2 = s)
/-- One step more, if it leads to something new. -/
def ex1 (al : List (List Int)) (r : PQ) (k : Nat) (O : List PQ) : List PQ := if seenB O (pick r.2 (rw_ al k)) then O else O ++ [(r.1 ++ [(k : Int)], pick r.2 (rw_ al k))]
def exK (al : List (List Int)) (r : PQ) : Nat → List PQ → List PQ
  | 0, O => O
  | k + 1, O => ex1 al r k (exK al r k O)
/-- From the elements a, a + 1 .. of the list itself. -/
def exR (al : List (List Int)) (a : Nat) : Nat → List PQ → List PQ
  | 0, O => O
  | j + 1, O => exK al (qel (exR al a j O) (a + j)) al.length (exR al a j O)
theorem ex1_pre (al : List (List Int)) (r : PQ) (k : Nat) (O : List PQ) : ∃ N, ex1 al r k O = O ++ N ∧ N.length ≤ 1 ∧ ∀ p ∈ N, p = (r.1 ++ [(k : Int)], pick r.2 (rw_ al k)) := by
  unfold ex1; split
  · exact ⟨[], by simp, by simp, by simp⟩
  · exact ⟨[_], rfl, by simp, by simp⟩
theorem exK_pre (al : List (List Int)) (r : PQ) : ∀ k O, ∃ N, exK al r k O = O ++ N ∧ N.length ≤ k ∧ ∀ p ∈ N, p.1.length = r.1.length + 1 := by
  intro k
  induction k with
  | zero => intro O; exact ⟨[], by simp [exK], by simp, by simp⟩
  | succ k ih =>
    intro O
    obtain ⟨N, e, hl, hp⟩ := ih O
    obtain ⟨M, e2, hl2, hp2⟩ := ex1_pre al r k (exK al r k O)
    refine ⟨N ++ M, by simp only [exK]; rw [e2, e, List.append_assoc], by rw [List.length_append]; omega, fun p hpm => ?_⟩
    rcases List.mem_append.1 hpm with q | q
    · exact hp p q
    · rw [hp2 p q]; simp
theorem exR_pre (al : List (List Int)) (a : Nat) : ∀ j O, ∃ N, exR al a j O = O ++ N ∧ N.length ≤ j * al.length := by
  intro j
  induction j with
  | zero => intro O; exact ⟨[], by simp [exR], by simp⟩
  | succ j ih =>
    intro O
    obtain ⟨N, e, hl⟩ := ih O
    obtain ⟨M, e2, hl2, _⟩ := exK_pre al (qel (exR al a j O) (a + j)) al.length (exR al a j O)
    refine ⟨N ++ M, by simp only [exR]; rw [e2]; rw [e, List.append_assoc], by rw [List.length_append, Nat.add_mul]; omega⟩
/-- The shuffles of at most l steps; where those of just l steps begin. -/
def lvO (al : List (List Int)) (n : Nat) : Nat → List PQ
  | 0 => [([], idl n)]
  | l + 1 => exR al (match l with | 0 => 0 | l' + 1 => (lvO al n l').length) ((lvO al n l).length - (match l with | 0 => 0 | l' + 1 => (lvO al n l').length)) (lvO al n l)
def lvA (al : List (List Int)) (n : Nat) : Nat → Nat
  | 0 => 0
  | l + 1 => (lvO al n l).length
theorem lvO_succ (al : List (List Int)) (n l : Nat) : lvO al n (l + 1) = exR al (lvA al n l) ((lvO al n l).length - lvA al n l) (lvO al n l) := by
  cases l <;> rfl
theorem lvA_le (al : List (List Int)) (n l : Nat) : lvA al n l ≤ (lvO al n l).length := by
  cases l with
  | zero => exact Nat.zero_le _
  | succ l =>
    obtain ⟨N, e, _⟩ := exR_pre al (lvA al n l) ((lvO al n l).length - lvA al n l) (lvO al n l)
    show (lvO al n l).length ≤ _
    rw [lvO_succ, e, List.length_append]; omega
/-- How many of just l steps there are at most. -/
theorem lv_width {al : List (List Int)} {n : Nat} (h : al.length ≤ 4) : ∀ l, (lvO al n l).length - lvA al n l ≤ 4 ^ l := by
  intro l
  induction l with
  | zero => simp [lvO, lvA]
  | succ l ih =>
    obtain ⟨N, e, hl⟩ := exR_pre al (lvA al n l) ((lvO al n l).length - lvA al n l) (lvO al n l)
    rw [lvO_succ, e, List.length_append, Nat.pow_succ]
    show (lvO al n l).length + N.length - (lvO al n l).length ≤ _
    have h1 : ((lvO al n l).length - lvA al n l) * al.length ≤ 4 ^ l * 4 := Nat.mul_le_mul ih h
    omega
theorem lv_len {al : List (List Int)} {n : Nat} (h : al.length ≤ 4) : ∀ l, l ≤ 5 → (lvO al n l).length ≤ 1365 := by
  have step : ∀ l, (lvO al n (l + 1)).length ≤ (lvO al n l).length + 4 ^ (l + 1) := fun l => by
    have := lv_width (n := n) h (l + 1)
    have := lvA_le al n (l + 1)
    simp only [lvA] at *
    omega
  intro l hl
  have h0 : (lvO al n 0).length = 1 := rfl
  have h1 := step 0
  have h2 := step 1
  have h3 := step 2
  have h4 := step 3
  have h5 := step 4
  simp at h1 h2 h3 h4 h5
  rcases (show l = 0 ∨ l = 1 ∨ l = 2 ∨ l = 3 ∨ l = 4 ∨ l = 5 by omega) with rfl | rfl | rfl | rfl | rfl | rfl <;> omega
theorem exR_app (al : List (List Int)) (a : Nat) (j : Nat) (O : List PQ) {k : Nat} (h : k < O.length) : qel (exR al a j O) k = qel O k := by
  obtain ⟨N, e, _⟩ := exR_pre al a j O
  rw [e]; exact qel_app h
/-- All lists of steps of a level are as long as its number. -/
theorem lv_steps (al : List (List Int)) (n : Nat) : ∀ l k, k < (lvO al n l).length → (k < lvA al n l → (qel (lvO al n l) k).1.length < l) ∧ (lvA al n l ≤ k → (qel (lvO al n l) k).1.length = l) := by
  intro l
  induction l with
  | zero =>
    intro k hk
    obtain rfl : k = 0 := by simp [lvO] at hk; omega
    exact ⟨fun h => by simp [lvA] at h, fun _ => rfl⟩
  | succ l ih =>
    have old : ∀ k, k < (lvO al n l).length → qel (lvO al n (l + 1)) k = qel (lvO al n l) k := fun k hk => by rw [lvO_succ]; exact exR_app _ _ _ _ hk
    have new : ∀ j, j ≤ (lvO al n l).length - lvA al n l → ∀ k, (lvO al n l).length ≤ k → k < (exR al (lvA al n l) j (lvO al n l)).length → (qel (exR al (lvA al n l) j (lvO al n l)) k).1.length = l + 1 := by
      intro j
      induction j with
      | zero => intro _ k h1 h2; simp only [exR] at h2; omega
      | succ j ihj =>
        intro hj k h1 h2
        have hA := lvA_le al n l
        have hr : qel (exR al (lvA al n l) j (lvO al n l)) (lvA al n l + j) = qel (lvO al n l) (lvA al n l + j) := exR_app _ _ _ _ (by omega)
        have hrl := (ih (lvA al n l + j) (by omega)).2 (by omega)
        obtain ⟨N, e, _, hp⟩ := exK_pre al (qel (exR al (lvA al n l) j (lvO al n l)) (lvA al n l + j)) al.length (exR al (lvA al n l) j (lvO al n l))
        simp only [exR] at h2 ⊢
        rw [e] at h2 ⊢
        by_cases q : k < (exR al (lvA al n l) j (lvO al n l)).length
        · rw [qel_app q]; exact ihj (by omega) k h1 q
        · have hm : qel (exR al (lvA al n l) j (lvO al n l) ++ N) k ∈ N := by
            have hg := qel_get h2
            rw [List.getElem?_append_right (by omega)] at hg
            exact List.mem_of_getElem? hg
          rw [hp _ hm, hr, hrl]
    intro k hk
    by_cases q : k < (lvO al n l).length
    · refine ⟨fun _ => ?_, fun h => absurd h (by show ¬ (lvO al n l).length ≤ k; omega)⟩
      rw [old k q]
      by_cases r : k < lvA al n l
      · have := (ih k q).1 r; omega
      · have := (ih k q).2 (by omega); omega
    · refine ⟨fun h => absurd h q, fun _ => ?_⟩
      rw [lvO_succ] at hk ⊢
      exact new _ (Nat.le_refl _) k (by omega) hk
end Go.Proofs.Ytmpdaafkphpnoaa
