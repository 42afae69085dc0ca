import Derived.Test.YtnnioicjmlfllaaGreatDoorBase
set_option linter.unusedVariables false
set_option linter.unusedSimpArgs false
namespace Go.Proofs.YtnnioicjmlfllaaGreatDoor

/-! ### Lists in which each number below n stands: plain lists alone -/
def sumTo (f : Nat → Nat) : Nat → Nat
  | 0 => 0
  | n + 1 => sumTo f n + f n
theorem sumTo_add (f g : Nat → Nat) (n : Nat) : sumTo (fun k => f k + g k) n = sumTo f n + sumTo g n := by
  induction n with
  | zero => rfl
  | succ n ih => simp only [sumTo, ih]; omega
theorem sumTo_one (x : Int) (n : Nat) : sumTo (fun k => if x = (k : Int) then 1 else 0) n ≤ 1 ∧ ((∀ k : Nat, k < n → x ≠ k) → sumTo (fun k => if x = (k : Int) then 1 else 0) n = 0) := by
  induction n with
  | zero => simp [sumTo]
  | succ n ih =>
    by_cases h : x = (n : Int)
    · have h0 := ih.2 (fun k hk e => by omega)
      refine ⟨?_, fun hn => absurd h (hn n (by omega))⟩
      simp only [sumTo, if_pos h]; omega
    · refine ⟨?_, fun hn => ?_⟩
      · have := ih.1; simp only [sumTo, if_neg h]; omega
      · have := ih.2 (fun k hk => hn k (by omega)); simp only [sumTo, if_neg h]; omega
theorem sum_count (xs : List Int) (n : Nat) : sumTo (fun k => xs.count (k : Int)) n ≤ xs.length := by
  induction xs with
  | nil =>
    have : ∀ n, sumTo (fun _ => 0) n = 0 := fun n => by induction n with | zero => rfl | succ n ih => simp [sumTo, ih]
    simp [this]
  | cons x xs ih =>
    have e : (fun k : Nat => (x :: xs).count (k : Int)) = fun k : Nat => xs.count (k : Int) + (if x = (k : Int) then 1 else 0) := by
      funext k; rw [List.count_cons]; simp
    rw [e, sumTo_add]
    have := (sumTo_one x n).1
    simp only [List.length_cons]; omega
theorem sumTo_ge (f : Nat → Nat) (n : Nat) (h : ∀ k, k < n → 1 ≤ f k) : n ≤ sumTo f n ∧ ∀ k, k < n → n + f k ≤ sumTo f n + 1 := by
  induction n with
  | zero => simp [sumTo]
  | succ n ih =>
    obtain ⟨h1, h2⟩ := ih (fun k hk => h k (by omega))
    have hn := h n (by omega)
    refine ⟨by simp only [sumTo]; omega, fun k hk => ?_⟩
    simp only [sumTo]
    rcases Nat.lt_or_ge k n with hk' | hk'
    · have := h2 k hk'; omega
    · obtain rfl : k = n := by omega
      omega
/-- Where each number below n stands in n places, each stands once. -/
theorem count_le_one {xs : List Int} {n : Nat} (hl : xs.length = n) (h : ∀ k : Nat, k < n → (k : Int) ∈ xs) {k : Nat} (hk : k < n) : xs.count (k : Int) = 1 := by
  have h1 : ∀ j, j < n → 1 ≤ xs.count (j : Int) := fun j hj => List.count_pos_iff.2 (h j hj)
  have := (sumTo_ge _ n h1).2 k hk
  have := sum_count xs n
  have := h1 k hk
  omega
theorem count_two {xs : List Int} {i j : Nat} {x : Int} (hij : i < j) (hi : xs[i]? = some x) (hj : xs[j]? = some x) : 2 ≤ xs.count x := by
  induction xs generalizing i j with
  | nil => simp at hi
  | cons y ys ih =>
    cases j with
    | zero => omega
    | succ j =>
      rw [List.getElem?_cons_succ] at hj
      cases i with
      | zero =>
        simp at hi; subst hi
        have : 1 ≤ ys.count y := List.count_pos_iff.2 (List.mem_of_getElem? hj)
        rw [List.count_cons_self]; omega
      | succ i =>
        rw [List.getElem?_cons_succ] at hi
        have := ih (by omega) hi hj
        rw [List.count_cons]; omega
/-- Its places are different. -/
theorem el_inj {xs : List Int} {n : Nat} (hl : xs.length = n) (h : ∀ k : Nat, k < n → (k : Int) ∈ xs) {i j : Nat} (hi : i < n) (hj : j < n) (hin : 0 ≤ el xs i ∧ el xs i < n) (e : el xs i = el xs j) : i = j := by
  obtain ⟨m, hm⟩ := Int.eq_ofNat_of_zero_le hin.1
  have hmn : m < n := by omega
  have gi := el_get (xs := xs) (k := i) (by omega)
  have gj := el_get (xs := xs) (k := j) (by omega)
  have hc := count_le_one hl h hmn
  rw [← hm] at hc
  rcases Nat.lt_trichotomy i j with hlt | heq | hgt
  · have := count_two hlt gi (by rw [e]; exact gj); omega
  · exact heq
  · have := count_two hgt gj (by rw [← e]; exact gi); rw [e] at hc; omega
/-- Each of its numbers is below n. -/
theorem all_below {xs : List Int} {n : Nat} (hl : xs.length = n) (h : ∀ k : Nat, k < n → (k : Int) ∈ xs) {i : Nat} (hi : i < n) : 0 ≤ el xs i ∧ el xs i < n := by
  have e : xs = xs.take i ++ el xs i :: xs.drop (i + 1) := by rw [← el_drop (by omega), List.take_append_drop]
  apply Classical.byContradiction
  intro hn
  have hc : sumTo (fun k => (xs.take i ++ xs.drop (i + 1)).count (k : Int)) n ≤ n - 1 := by
    have := sum_count (xs.take i ++ xs.drop (i + 1)) n
    have hlen : (xs.take i ++ xs.drop (i + 1)).length = n - 1 := by simp; omega
    omega
  have h1 : ∀ j, j < n → 1 ≤ (xs.take i ++ xs.drop (i + 1)).count (j : Int) := by
    intro j hj
    refine List.count_pos_iff.2 ?_
    have hm := h j hj
    rw [e] at hm
    simp only [List.mem_append, List.mem_cons] at hm ⊢
    rcases hm with hm | hm | hm
    · exact .inl hm
    · exact absurd ⟨by omega, by omega⟩ hn
    · exact .inr hm
  have := (sumTo_ge _ n h1).1
  omega

/-! ### The first place of a number -/
def fst (xs : List Int) (v : Int) : Int := idxN (fun k => v == el xs k) xs.length xs.length
theorem idxN_first (p : Nat → Bool) (n : Nat) : ∀ d, d ≤ n → (idxN p n d = -1 ∧ ∀ k, n - d ≤ k → k < n → p k = false) ∨ ∃ k, n - d ≤ k ∧ k < n ∧ idxN p n d = k ∧ p k = true ∧ ∀ j, n - d ≤ j → j < k → p j = false := by
  intro d
  induction d with
  | zero => intro _; left; exact ⟨rfl, fun k h1 h2 => by omega⟩
  | succ d ih =>
    intro hd
    simp only [idxN]
    by_cases hp : p (n - (d + 1)) = true
    · right; exact ⟨n - (d + 1), Nat.le_refl _, by omega, by rw [if_pos hp], hp, fun j h1 h2 => by omega⟩
    · rw [if_neg hp]
      have hp' : p (n - (d + 1)) = false := by simpa using hp
      rcases ih (by omega) with ⟨h1, h2⟩ | ⟨k, h1, h2, h3, h4, h5⟩
      · left; refine ⟨h1, fun k hk hk' => ?_⟩
        rcases Nat.lt_or_ge k (n - d) with h | h
        · obtain rfl : k = n - (d + 1) := by omega
          exact hp'
        · exact h2 k h hk'
      · right; refine ⟨k, by omega, h2, h3, h4, fun j hj hj' => ?_⟩
        rcases Nat.lt_or_ge j (n - d) with h | h
        · obtain rfl : j = n - (d + 1) := by omega
          exact hp'
        · exact h5 j h hj'
theorem fst_cases (xs : List Int) (v : Int) : (fst xs v = -1 ∧ v ∉ xs) ∨ ∃ k : Nat, k < xs.length ∧ fst xs v = k ∧ el xs k = v ∧ ∀ j, j < k → el xs j ≠ v := by
  unfold fst
  rcases idxN_first (fun k => v == el xs k) xs.length xs.length (Nat.le_refl _) with ⟨h1, h2⟩ | ⟨k, _, h2, h3, h4, h5⟩
  · left; refine ⟨h1, fun hm => ?_⟩
    obtain ⟨k, hk, rfl⟩ := List.getElem_of_mem hm
    have := h2 k (by omega) hk
    have e := el_get hk; rw [List.getElem?_eq_getElem hk] at e; rw [Option.some.inj e] at this
    simp at this
  · right; refine ⟨k, h2, h3, by simp at h4; exact h4.symm, fun j hj => ?_⟩
    have := h5 j (by omega) hj; simp at this; exact fun e => this e.symm
theorem fst_neg {xs : List Int} {v : Int} : fst xs v < 0 ↔ v ∉ xs := by
  rcases fst_cases xs v with ⟨h1, h2⟩ | ⟨k, hk, h1, h2, _⟩
  · exact ⟨fun _ => h2, fun _ => by omega⟩
  · exact ⟨fun h => by omega, fun h => absurd (h2 ▸ el_mem hk) h⟩
theorem fst_range (xs : List Int) (v : Int) : -1 ≤ fst xs v ∧ fst xs v < xs.length ∨ xs = [] := by
  rcases fst_cases xs v with ⟨h1, h2⟩ | ⟨k, hk, h1, _⟩
  · by_cases e : xs = []
    · exact .inr e
    · exact .inl ⟨by omega, by have : 0 < xs.length := List.length_pos_iff.2 e; omega⟩
  · exact .inl ⟨by omega, by omega⟩
def hasB (xs : List Int) (v : Int) : Bool := xs.any fun x => x == v
theorem hasB_iff {xs : List Int} {v : Int} : hasB xs v = true ↔ v ∈ xs := by simp [hasB]
/-- Does each number below n stand there? -/
def ordB (xs : List Int) (n : Nat) : Bool := (List.range n).all fun k => hasB xs k
theorem ordB_iff {xs : List Int} {n : Nat} : ordB xs n = true ↔ ∀ k : Nat, k < n → (k : Int) ∈ xs := by
  unfold ordB; rw [List.all_eq_true]
  exact ⟨fun h k hk => hasB_iff.1 (h k (List.mem_range.2 hk)), fun h k hk => hasB_iff.2 (h k (List.mem_range.1 hk))⟩
/-- The list that leads back. -/
def inv (xs : List Int) : List Int := (List.range xs.length).map fun k : Nat => fst xs (k : Int)
theorem inv_length (xs : List Int) : (inv xs).length = xs.length := by simp [inv]
theorem el_range {n k : Nat} (h : Nat → Int) (hk : k < n) : el ((List.range n).map h) k = h k := by
  have := el_get (xs := (List.range n).map h) (k := k) (by simpa using hk); simp [hk] at this; exact this.symm
/-- The same, written place by place. -/
def invTo (xs : List Int) : Nat → List Int
  | 0 => List.replicate xs.length 0
  | k + 1 => (invTo xs k).set (el xs k).toNat k
theorem invTo_length (xs : List Int) (k : Nat) : (invTo xs k).length = xs.length := by induction k with | zero => simp [invTo] | succ k ih => simp [invTo, ih]
theorem invTo_el {xs : List Int} {n : Nat} (hl : xs.length = n) (h : ∀ k : Nat, k < n → (k : Int) ∈ xs) : ∀ k, k ≤ n → ∀ i, i < k → el (invTo xs k) (el xs i).toNat = i := by
  intro k
  induction k with
  | zero => intro _ i hi; omega
  | succ k ih =>
    intro hk i hi
    simp only [invTo]
    have hbk := all_below hl h (show k < n by omega)
    have hbi := all_below hl h (show i < n by omega)
    by_cases e : i = k
    · subst e; exact el_set_same (by rw [invTo_length]; omega) _
    · have hne : el xs k ≠ el xs i := fun q => e (el_inj hl h (by omega) (by omega) hbi q.symm)
      rw [el_set_other (by omega)]
      exact ih (by omega) i (by omega)
theorem inv_eq {xs : List Int} {n : Nat} (hl : xs.length = n) (h : ∀ k : Nat, k < n → (k : Int) ∈ xs) : invTo xs n = inv xs := by
  apply el_ext
  · rw [invTo_length, inv_length]
  · intro k hk
    rw [invTo_length] at hk
    unfold inv
    rw [el_range _ hk]
    rcases fst_cases xs k with ⟨_, hn⟩ | ⟨i, hi, hf, he, _⟩
    · exact absurd (h k (by omega)) hn
    · rw [hf, ← invTo_el hl h n (Nat.le_refl _) i (by omega), he]; simp
end Go.Proofs.YtnnioicjmlfllaaGreatDoor
