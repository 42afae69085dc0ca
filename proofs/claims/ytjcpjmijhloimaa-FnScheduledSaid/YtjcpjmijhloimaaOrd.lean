import Derived.Test.YtjcpjmijhloimaaSched2
import Derived.Test.YtjcpjmijhloimaaShuf3b
set_option linter.unusedVariables false
set_option linter.unusedSimpArgs false
namespace Go.Proofs.Ytjcpjmijhloimaa
open Go.RowKit

/-! ### Orders of tasks: the plain functions -/
def aftB (ts : List TaskV) (xs : List Int) (i : Nat) : Bool := (tel ts i).needs.all fun d => decide (el (inv xs) d.toNat < el (inv xs) i)
def aftN (ts : List TaskV) (xs : List Int) (n : Nat) : Bool := allN n (aftB ts xs)
def plcB (ts : List TaskV) (xs : List Int) : Bool := decide (xs.length = ts.length) && ordB xs ts.length
def tordB (ts : List TaskV) (xs : List Int) : Bool := tasksB ts && (plcB ts xs && aftN ts xs ts.length)
/-- The reference's step, and all of the first k. -/
def seenB (ts : List TaskV) (xs : List Int) (k : Nat) : Bool := (tel ts (el xs k).toNat).needs.all (hasB (xs.take k))
def stepB (ts : List TaskV) (xs : List Int) (k : Nat) : Bool := inB (el xs k) 0 ((ts.length : Int) - 1) && (!hasB (xs.take k) (el xs k) && seenB ts xs k)
def stepN (ts : List TaskV) (xs : List Int) : Nat → Bool
  | 0 => true
  | k + 1 => stepN ts xs k && stepB ts xs k
theorem stepN_mono {ts : List TaskV} {xs : List Int} {j k : Nat} (h : stepN ts xs j = false) (hk : j ≤ k) : stepN ts xs k = false := by
  induction k with
  | zero => obtain rfl : j = 0 := by omega
            exact h
  | succ k ih => by_cases e : j = k + 1
                 · subst e; exact h
                 · simp only [stepN]; rw [ih (by omega)]; rfl
theorem stepN_at {ts : List TaskV} {xs : List Int} {n k : Nat} (h : stepN ts xs n = true) (hk : k < n) : stepB ts xs k = true := by
  induction n with
  | zero => omega
  | succ n ih =>
    simp only [stepN, Bool.and_eq_true] at h
    by_cases e : k = n
    · subst e; exact h.2
    · exact ih h.1 (by omega)
theorem stepN_of {ts : List TaskV} {xs : List Int} {n : Nat} (h : ∀ k, k < n → stepB ts xs k = true) : stepN ts xs n = true := by
  induction n with
  | zero => rfl
  | succ n ih => simp only [stepN]; rw [ih (fun k hk => h k (by omega)), h n (by omega)]; rfl
/-! Numbers that are different and within bounds are all of them. -/
theorem sum_all {xs : List Int} {n : Nat} (h : ∀ x, x ∈ xs → 0 ≤ x ∧ x < n) : sumTo (fun k => xs.count (k : Int)) n = xs.length := by
  induction xs with
  | nil => induction n with | zero => rfl | succ n ih => simp [sumTo]; exact ih (fun x hx => by cases hx)
  | cons a t ih =>
    have ih' := ih (fun x hx => h x (List.mem_cons_of_mem _ hx))
    have e : (fun k : Nat => (a :: t).count (k : Int)) = fun k : Nat => t.count (k : Int) + (if a = (k : Int) then 1 else 0) := by
      funext k; rw [List.count_cons]; by_cases hq : a = (k : Int) <;> simp [hq]
    rw [e, sumTo_add (fun k : Nat => t.count (k : Int)), ih']
    have hb := h a List.mem_cons_self
    obtain ⟨j, hj⟩ : ∃ j : Nat, a = j := ⟨a.toNat, by omega⟩
    have : ∀ m, sumTo (fun k : Nat => if a = (k : Int) then 1 else 0) m = if j < m then 1 else 0 := fun m => by
      induction m with
      | zero => simp [sumTo]
      | succ m im =>
        simp only [sumTo, im]
        subst hj
        by_cases e1 : j < m
        · rw [if_pos e1, if_neg (by omega), if_pos (by omega)]
        · by_cases e2 : j = m
          · subst e2; simp
          · rw [if_neg e1, if_neg (by omega), if_neg (by omega)]
    rw [this, if_pos (by omega)]
    simp
theorem sum_less {f : Nat → Nat} {n j : Nat} (h : ∀ k, k < n → f k ≤ 1) (hj : j < n) (h0 : f j = 0) : sumTo f n < n := by
  have hle : ∀ m, m ≤ n → sumTo f m ≤ m := fun m => by
    induction m with
    | zero => intro _; simp [sumTo]
    | succ m im => intro hm; have := im (by omega); have := h m (by omega); simp only [sumTo]; omega
  have : ∀ m, m ≤ n → j < m → sumTo f m < m := fun m => by
    induction m with
    | zero => intro _ hm; omega
    | succ m im =>
      intro hm hj'
      have h1 := h m (by omega)
      simp only [sumTo]
      by_cases e : j = m
      · subst e; have := hle j (by omega); omega
      · have := im (by omega) (by omega); omega
  exact this n (Nat.le_refl _) hj
theorem all_in {xs : List Int} {n : Nat} (hl : xs.length = n) (hr : ∀ k, k < n → 0 ≤ el xs k ∧ el xs k < n) (hd : ∀ k, k < n → hasB (xs.take k) (el xs k) = false) : ∀ k : Nat, k < n → (k : Int) ∈ xs := by
  have hin : ∀ x, x ∈ xs → 0 ≤ x ∧ x < n := fun x hx => by
    obtain ⟨k, hk, rfl⟩ := List.getElem_of_mem hx
    have e := el_get hk; rw [List.getElem?_eq_getElem hk] at e; rw [Option.some.inj e]; exact hr k (by omega)
  have hc : ∀ x : Int, ∀ k, k ≤ n → (xs.take k).count x ≤ 1 := fun x k => by
    induction k with
    | zero => intro _; simp
    | succ k ih =>
      intro hk
      rw [el_take (by omega), List.count_append]
      by_cases e : el xs k = x
      · subst e
        have h0 : (xs.take k).count (el xs k) = 0 := by
          apply List.count_eq_zero.2
          intro hm
          have := hd k (by omega)
          rw [← Bool.not_eq_true, hasB_iff] at this
          exact this hm
        rw [h0]; simp
      · have := ih (by omega)
        have h0 : [el xs k].count x = 0 := by simp [List.count_cons, e]
        omega
  intro k hk
  apply Classical.byContradiction
  intro hn
  have h1 := sum_all hin
  have h2 := sum_less (f := fun k => xs.count (k : Int)) (n := n) (fun j _ => by have := hc j n (Nat.le_refl _); rw [← hl, List.take_length] at this; exact this) hk (List.count_eq_zero.2 hn)
  omega
theorem mem_take {xs : List Int} {k j : Nat} (hj : j < k) (hk : k ≤ xs.length) : el xs j ∈ xs.take k :=
  List.mem_of_getElem? (i := j) (by rw [List.getElem?_take_of_lt hj]; exact el_get (by omega))
theorem of_take {xs : List Int} {k : Nat} {x : Int} (h : x ∈ xs.take k) : ∃ j, j < k ∧ j < xs.length ∧ el xs j = x := by
  obtain ⟨j, hj, e⟩ := List.getElem_of_mem h
  rw [List.length_take] at hj
  refine ⟨j, by omega, by omega, ?_⟩
  rw [List.getElem_take] at e
  have := el_get (xs := xs) (k := j) (by omega)
  rw [List.getElem?_eq_getElem (by omega)] at this
  rw [← e]; exact (Option.some.inj this).symm
/-- The inverse of a list with all numbers: the place of each. -/
theorem inv_at {xs : List Int} {n : Nat} (hl : xs.length = n) (h : ∀ k : Nat, k < n → (k : Int) ∈ xs) {k d : Nat} (hk : k < n) (hd : el xs k = d) : el (inv xs) d = k := by
  have hb := all_below hl h hk
  rw [hd] at hb
  unfold inv
  rw [el_range (fun j : Nat => fst xs (j : Int)) (by omega)]
  rcases fst_cases xs (d : Int) with ⟨_, hn⟩ | ⟨j, hj, hf, he, _⟩
  · exact absurd (hd ▸ el_mem (by omega)) hn
  · rw [hf]; congr 1; exact el_inj hl h (by omega) hk (by rw [he]; exact hb) (by rw [he, hd])
theorem inv_of {xs : List Int} {n : Nat} (hl : xs.length = n) (h : ∀ k : Nat, k < n → (k : Int) ∈ xs) {d : Nat} (hd : d < n) : ∃ k, k < n ∧ el xs k = d ∧ el (inv xs) d = k := by
  rcases fst_cases xs (d : Int) with ⟨_, hn⟩ | ⟨j, hj, hf, he, _⟩
  · exact absurd (h d hd) hn
  · exact ⟨j, by omega, he, inv_at hl h (by omega) he⟩
theorem need_in {ts : List TaskV} (hO : TOk ts) {i : Nat} (hi : i < ts.length) {d : Int} (hd : d ∈ (tel ts i).needs) : 0 ≤ d ∧ d < i := by
  obtain ⟨j, hj, rfl⟩ := List.getElem_of_mem hd
  have e := el_get hj; rw [List.getElem?_eq_getElem hj] at e; rw [Option.some.inj e]
  exact hO.need i hi j hj
theorem order_eq {ts : List TaskV} (hO : TOk ts) (xs : List Int) : (stepN ts xs xs.length && decide (xs.length = ts.length)) = (plcB ts xs && aftN ts xs ts.length) := by
  by_cases hl : xs.length = ts.length
  · unfold plcB
    simp only [hl, decide_true, Bool.and_true, Bool.true_and]
    rw [Bool.eq_iff_iff, Bool.and_eq_true, ordB_iff]
    constructor
    · intro hs
      have hk : ∀ k, k < ts.length → (0 ≤ el xs k ∧ el xs k < ts.length) ∧ hasB (xs.take k) (el xs k) = false ∧ seenB ts xs k = true := fun k hk => by
        have := stepN_at hs hk
        simp only [stepB, Bool.and_eq_true, inB_iff, Bool.not_eq_true'] at this
        exact ⟨by omega, this.2.1, this.2.2⟩
      have hall := all_in hl (fun k hk' => (hk k hk').1) (fun k hk' => (hk k hk').2.1)
      refine ⟨hall, ?_⟩
      unfold aftN allN
      rw [List.all_eq_true]
      intro i hi
      have hi := List.mem_range.1 hi
      unfold aftB
      rw [List.all_eq_true]
      intro d hd
      obtain ⟨k, hkn, hke, hki⟩ := inv_of hl hall hi
      have hsn := (hk k hkn).2.2
      unfold seenB at hsn
      rw [hke, Int.toNat_natCast, List.all_eq_true] at hsn
      have := hasB_iff.1 (hsn d hd)
      obtain ⟨j, hjk, hjl, hje⟩ := of_take this
      have hdb := need_in hO hi hd
      have h1 := inv_at hl hall (k := j) (d := d.toNat) (by omega) (by rw [hje]; omega)
      rw [h1, hki]; simpa using hjk
    · rintro ⟨hall, ha⟩
      apply stepN_of
      intro k hk
      have hb := all_below hl hall hk
      obtain ⟨i, hi⟩ : ∃ i : Nat, el xs k = i := ⟨(el xs k).toNat, by omega⟩
      have hin : i < ts.length := by omega
      have hiv := inv_at hl hall hk hi
      unfold stepB seenB
      simp only [Bool.and_eq_true, inB_iff, Bool.not_eq_true']
      refine ⟨by omega, ?_, ?_⟩
      · rw [← Bool.not_eq_true, hasB_iff]
        intro hm
        obtain ⟨j, hjk, hjl, hje⟩ := of_take hm
        have := el_inj hl hall (i := j) (j := k) (by omega) hk (by rw [hje]; exact hb) hje
        omega
      · rw [hi, Int.toNat_natCast, List.all_eq_true]
        intro d hd
        unfold aftN allN at ha
        rw [List.all_eq_true] at ha
        have h1 := ha i (List.mem_range.2 hin)
        unfold aftB at h1
        rw [List.all_eq_true] at h1
        have h2 := h1 d hd
        rw [hiv] at h2
        have hdb := need_in hO hin hd
        obtain ⟨j, hjn, hje, hji⟩ := inv_of hl hall (d := d.toNat) (by omega)
        rw [hji] at h2
        have h3 : (j : Int) < k := by simpa using h2
        rw [hasB_iff, show d = el xs j by rw [hje]; omega]
        exact mem_take (by omega) (by omega)
  · simp [plcB, hl]
end Go.Proofs.Ytjcpjmijhloimaa
