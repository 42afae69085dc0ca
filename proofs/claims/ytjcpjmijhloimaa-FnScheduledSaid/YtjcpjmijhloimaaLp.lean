import Derived.Test.YtjcpjmijhloimaaPrs3
set_option linter.unusedVariables false
set_option linter.unusedSimpArgs false
namespace Go.Proofs.Ytjcpjmijhloimaa
open Go.RowKit

/-! ### The order with the least pressure: the plain functions -/
def rdyO (ts : List TaskV) (p : List Int) (i : Nat) : Bool := !hasB p (i : Int) && (tel ts i).needs.all (fun k => hasB p k)
/-- All orders that begin with p, d tasks being left, from the i-th task on. -/
def ordI (ts : List TaskV) (nx : List Int → List (List Int)) (p : List Int) : Nat → List (List Int)
  | 0 => []
  | j + 1 => (if rdyO ts p (ts.length - (j + 1)) then nx (p ++ [((ts.length - (j + 1) : Nat) : Int)]) else []) ++ ordI ts nx p j
def ordD (ts : List TaskV) : Nat → List Int → List (List Int)
  | 0, p => [p]
  | d + 1, p => ordI ts (ordD ts d) p ts.length
def ords (ts : List TaskV) : List (List Int) := ordD ts ts.length []
/-- The first of two. -/
def orO {α : Type} : Option α → Option α → Option α
  | some o, _ => some o
  | none, b => b
/-- The first order that begins with p and whose live values stay at most most. -/
def wthI (ts : List TaskV) (most : Int) (nx : List Int → Option (List Int)) (p : List Int) : Nat → Option (List Int)
  | 0 => none
  | j + 1 => orO (if rdyO ts p (ts.length - (j + 1)) && decide ((cntS ts (p ++ [((ts.length - (j + 1) : Nat) : Int)]) (p.length + 1) : Int) ≤ most) then nx (p ++ [((ts.length - (j + 1) : Nat) : Int)]) else none) (wthI ts most nx p j)
def wthD (ts : List TaskV) (most : Int) : Nat → List Int → Option (List Int)
  | 0, p => some p
  | d + 1, p => wthI ts most (wthD ts most d) p ts.length
/-- The live values behind each prefix longer than p are at most most. -/
def lowP (ts : List TaskV) (most : Int) (p o : List Int) : Bool := (List.range o.length).all fun k => decide (k < p.length) || decide ((cntS ts (o.take (k + 1)) (k + 1) : Int) ≤ most)
def upB (ts : List TaskV) (acc : List Int × Int) (o : List Int) : List Int × Int := if acc.2 < 0 ∨ prsI ts o ts.length < acc.2 then (o, prsI ts o ts.length) else acc
def lpI (ts : List TaskV) : List Int × Int := (ords ts).foldl (upB ts) ([], -1)

theorem ordI_spec {ts : List TaskV} {nx : List Int → List (List Int)} {p o : List Int} {j : Nat} (hj : j ≤ ts.length) : o ∈ ordI ts nx p j ↔ ∃ i, ts.length - j ≤ i ∧ i < ts.length ∧ rdyO ts p i = true ∧ o ∈ nx (p ++ [(i : Int)]) := by
  induction j with
  | zero => simp [ordI]; intro i h1 h2; omega
  | succ j ih =>
    simp only [ordI, List.mem_append]
    rw [ih (by omega)]
    constructor
    · rintro (h | ⟨i, h1, h2, h3, h4⟩)
      · by_cases e : rdyO ts p (ts.length - (j + 1)) = true
        · rw [if_pos e] at h; exact ⟨_, Nat.le_refl _, by omega, e, h⟩
        · rw [if_neg e] at h; cases h
      · exact ⟨i, by omega, h2, h3, h4⟩
    · rintro ⟨i, h1, h2, h3, h4⟩
      by_cases e : i = ts.length - (j + 1)
      · subst e; rw [if_pos h3]; exact .inl h4
      · exact .inr ⟨i, by omega, h2, h3, h4⟩
/-- What such an order is: p goes ahead, and each next one is ready. -/
theorem ordD_spec {ts : List TaskV} {d : Nat} {p o : List Int} (h : o ∈ ordD ts d p) : o.length = p.length + d ∧ o.take p.length = p ∧ ∀ k, p.length ≤ k → k < o.length → ∃ i, i < ts.length ∧ el o k = (i : Nat) ∧ rdyO ts (o.take k) i = true := by
  induction d generalizing p with
  | zero =>
    simp only [ordD, List.mem_singleton] at h
    subst h
    exact ⟨rfl, List.take_length, fun k h1 h2 => by omega⟩
  | succ d ih =>
    simp only [ordD] at h
    obtain ⟨i, _, hi, hr, ho⟩ := (ordI_spec (Nat.le_refl _)).1 h
    obtain ⟨h1, h2, h3⟩ := ih ho
    rw [List.length_append, List.length_singleton] at h1 h2 h3
    have hp : o.take p.length = p := by
      have := congrArg (List.take p.length) h2
      rw [List.take_take, Nat.min_eq_left (by omega), List.take_left'] at this
      · exact this
      · rfl
    have he : el o p.length = (i : Int) := by
      have h4 : el (o.take (p.length + 1)) p.length = el o p.length := by
        unfold el; rw [List.getD_eq_getElem?_getD, List.getD_eq_getElem?_getD, List.getElem?_take_of_lt (by omega)]
      rw [← h4, h2]; unfold el; rw [List.getD_eq_getElem?_getD]; simp
    refine ⟨by omega, hp, fun k hk1 hk2 => ?_⟩
    by_cases e : k = p.length
    · subst e; exact ⟨i, hi, he, by rw [hp]; exact hr⟩
    · exact h3 k (by omega) hk2
theorem wthI_none {ts : List TaskV} {most : Int} {nx : List Int → Option (List Int)} {p : List Int} {j : Nat} (h : ∀ i, ts.length - j ≤ i → i < ts.length → rdyO ts p i = true → (cntS ts (p ++ [(i : Int)]) (p.length + 1) : Int) ≤ most → nx (p ++ [(i : Int)]) = none) (hj : j ≤ ts.length) : wthI ts most nx p j = none := by
  induction j with
  | zero => rfl
  | succ j ih =>
    simp only [wthI]
    have h0 : (if (rdyO ts p (ts.length - (j + 1)) && decide ((cntS ts (p ++ [((ts.length - (j + 1) : Nat) : Int)]) (p.length + 1) : Int) ≤ most)) = true then nx (p ++ [((ts.length - (j + 1) : Nat) : Int)]) else none) = none := by
      split
      · rename_i e
        simp only [Bool.and_eq_true, decide_eq_true_eq] at e
        exact h _ (Nat.le_refl _) (by omega) e.1 e.2
      · rfl
    rw [h0]
    exact ih (fun i h1 h2 => h i (by omega) h2) (by omega)
theorem find_congr {α : Type} {l : List α} {p q : α → Bool} (h : ∀ x ∈ l, p x = q x) : l.find? p = l.find? q := by
  induction l with
  | nil => rfl
  | cons x l ih =>
    simp only [List.find?_cons]
    rw [h x (by simp), ih (fun y hy => h y (by simp [hy]))]
theorem lowP_snoc {ts : List TaskV} {most : Int} {p o : List Int} {i : Int} (hl : p.length < o.length) (ht : o.take (p.length + 1) = p ++ [i]) :
    lowP ts most p o = (decide ((cntS ts (p ++ [i]) (p.length + 1) : Int) ≤ most) && lowP ts most (p ++ [i]) o) := by
  rw [Bool.eq_iff_iff]
  simp only [lowP, List.all_eq_true, List.mem_range, Bool.or_eq_true, decide_eq_true_eq, Bool.and_eq_true, List.length_append, List.length_singleton]
  constructor
  · intro h
    refine ⟨?_, fun k hk => ?_⟩
    · have := h p.length hl; rw [ht] at this; omega
    · have := h k hk; omega
  · rintro ⟨h1, h2⟩ k hk
    by_cases e : k = p.length
    · subst e; rw [ht]; exact .inr h1
    · have := h2 k hk; omega
/-- The reference's search is the first such order of all. -/
theorem wth_find {ts : List TaskV} (most : Int) (d : Nat) : ∀ p, wthD ts most d p = (ordD ts d p).find? (lowP ts most p) := by
  induction d with
  | zero => intro p; simp only [wthD, ordD]
            have : lowP ts most p p = true := by simp [lowP, List.all_eq_true]; intro k hk; exact .inl hk
            simp [this]
  | succ d ih =>
    intro p
    simp only [wthD, ordD]
    have key : ∀ j, j ≤ ts.length → wthI ts most (wthD ts most d) p j = (ordI ts (ordD ts d) p j).find? (lowP ts most p) := by
      intro j
      induction j with
      | zero => intro _; rfl
      | succ j ihj =>
        intro hj
        simp only [wthI, ordI]
        rw [List.find?_append, ihj (by omega)]
        generalize hi : ts.length - (j + 1) = i
        cases hr : rdyO ts p i with
        | false => simp [orO]
        | true =>
          have hex : ∀ o ∈ ordD ts d (p ++ [(i : Int)]), lowP ts most p o = (decide ((cntS ts (p ++ [(i : Int)]) (p.length + 1) : Int) ≤ most) && lowP ts most (p ++ [(i : Int)]) o) := fun o ho => by
            obtain ⟨h1, h2, _⟩ := ordD_spec ho
            rw [List.length_append, List.length_singleton] at h1 h2
            exact lowP_snoc (by omega) h2
          simp only [Bool.true_and]
          by_cases hc : (cntS ts (p ++ [(i : Int)]) (p.length + 1) : Int) ≤ most
          · have h1 : (ordD ts d (p ++ [(i : Int)])).find? (lowP ts most p) = (ordD ts d (p ++ [(i : Int)])).find? (lowP ts most (p ++ [(i : Int)])) := find_congr fun o ho => by rw [hex o ho]; simp [hc]
            simp only [hc, decide_true, if_true]
            rw [h1, ih]
            cases (ordD ts d (p ++ [(i : Int)])).find? (lowP ts most (p ++ [(i : Int)])) <;> rfl
          · have h1 : (ordD ts d (p ++ [(i : Int)])).find? (lowP ts most p) = none := by
              rw [List.find?_eq_none]; intro o ho; rw [hex o ho]; simp [hc]
            simp only [hc, decide_false, Bool.false_eq_true, if_false, if_true]
            rw [h1]; rfl
    exact key ts.length (Nat.le_refl _)
end Go.Proofs.Ytjcpjmijhloimaa
