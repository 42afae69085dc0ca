import Derived.Test.YtmpdaafkphpnoaaGreatTask8
set_option linter.unusedVariables false
set_option linter.unusedSimpArgs false
namespace Go.Proofs.YtmpdaafkphpnoaaGreat
open Go.RowKit

/-! ### Schedules: the plain functions -/
/-- No task ahead of k of the port of the i-th one at its time. -/
def portN (ts : List TaskV) (xs : List Int) (i : Nat) : Nat → Bool
  | 0 => true
  | k + 1 => portN ts xs i k && !((tel ts k).port == (tel ts i).port && el xs k == el xs i)
def lateB (ts : List TaskV) (xs : List Int) (i : Nat) (x : Int) : Bool := decide (el xs x.toNat + (tel ts x.toNat).lat ≤ el xs i)
def lateN (ts : List TaskV) (xs : List Int) (i : Nat) : Bool := (tel ts i).needs.all (lateB ts xs i)
def fitB (ts : List TaskV) (xs : List Int) (i : Nat) : Bool := portN ts xs i i && lateN ts xs i
def fitN (ts : List TaskV) (xs : List Int) : Nat → Bool
  | 0 => true
  | k + 1 => fitN ts xs k && fitB ts xs k
def timeN (xs : List Int) : Bool := xs.all fun x => inB x 0 200
def schedB (ts : List TaskV) (xs : List Int) : Bool := tasksB ts && (decide (xs.length = ts.length) && (timeN xs && fitN ts xs xs.length))
/-- The reference's order: each time, then whether it fits. -/
def fitT (ts : List TaskV) (xs : List Int) : Nat → Bool
  | 0 => true
  | k + 1 => fitT ts xs k && (inB (el xs k) 0 200 && fitB ts xs k)
theorem timeN_eq (xs : List Int) : timeN xs = allN xs.length (fun k => inB (el xs k) 0 200) := by unfold timeN; rw [allN_ints xs (fun x => inB x 0 200)]
theorem allN_succ (k : Nat) (p : Nat → Bool) : allN (k + 1) p = (allN k p && p k) := by unfold allN; rw [List.range_succ, List.all_append]; simp
theorem fitT_eq (ts : List TaskV) (xs : List Int) (k : Nat) : fitT ts xs k = (allN k (fun k => inB (el xs k) 0 200) && fitN ts xs k) := by
  induction k with
  | zero => rfl
  | succ k ih =>
    rw [allN_succ]; simp only [fitT, fitN]; rw [ih]
    cases allN k (fun k => inB (el xs k) 0 200) <;> cases fitN ts xs k <;> cases inB (el xs k) 0 200 <;> simp
theorem fitT_mono {ts : List TaskV} {xs : List Int} {j k : Nat} (h : fitT ts xs j = false) (hk : j ≤ k) : fitT ts xs k = false := by
  induction k with
  | zero => obtain rfl : j = 0 := by omega
            exact h
  | succ k ih => by_cases e : j = k + 1
                 · subst e; exact h
                 · simp only [fitT]; rw [ih (by omega)]; rfl
theorem fitN_mono {ts : List TaskV} {xs : List Int} {j k : Nat} (h : fitN ts xs j = false) (hk : j ≤ k) : fitN ts xs k = false := by
  induction k with
  | zero => obtain rfl : j = 0 := by omega
            exact h
  | succ k ih => by_cases e : j = k + 1
                 · subst e; exact h
                 · simp only [fitN]; rw [ih (by omega)]; rfl
theorem portN_mono {ts : List TaskV} {xs : List Int} {i j k : Nat} (h : portN ts xs i j = false) (hk : j ≤ k) : portN ts xs i k = false := by
  induction k with
  | zero => obtain rfl : j = 0 := by omega
            exact h
  | succ k ih => by_cases e : j = k + 1
                 · subst e; exact h
                 · simp only [portN]; rw [ih (by omega)]; rfl
/-- What valid tasks are: few, their ports and latencies small, and what each needs is ahead of it. -/
structure TOk (ts : List TaskV) : Prop where
  few : ts.length ≤ 8
  port : ∀ k, k < ts.length → 0 ≤ (tel ts k).port ∧ (tel ts k).port ≤ 2
  lat : ∀ k, k < ts.length → 1 ≤ (tel ts k).lat ∧ (tel ts k).lat ≤ 6
  need : ∀ k, k < ts.length → ∀ j, j < (tel ts k).needs.length → 0 ≤ el (tel ts k).needs j ∧ el (tel ts k).needs j < k
  set : ∀ k, k < ts.length → setN (tel ts k).needs (tel ts k).needs.length = true
  len : ∀ k, k < ts.length → (tel ts k).needs.length ≤ k
theorem setN_step {xs : List Int} {n j : Nat} (h : setN xs n = true) (hj : j + 1 < n) : el xs j < el xs (j + 1) := by
  induction n with
  | zero => omega
  | succ n ih =>
    simp only [setN, Bool.and_eq_true] at h
    by_cases e : j + 1 = n
    · subst e; have := h.2; simpa using this
    · exact ih h.1 (by omega)
theorem setN_ge {xs : List Int} {n : Nat} (h : setN xs n = true) (h0 : ∀ j, j < n → 0 ≤ el xs j) : ∀ j, j < n → (j : Int) ≤ el xs j := by
  intro j
  induction j with
  | zero => intro hj; exact h0 0 hj
  | succ j ih => intro hj; have := ih (by omega); have := setN_step h hj; omega
theorem tasksN_at {ts : List TaskV} {n k : Nat} (h : tasksN ts n = true) (hk : k < n) : taskB k (tel ts k) = true := by
  induction n with
  | zero => omega
  | succ n ih =>
    simp only [tasksN, Bool.and_eq_true] at h
    by_cases e : k = n
    · subst e; exact h.2
    · exact ih h.1 (by omega)
theorem TOk.of {ts : List TaskV} (h : tasksB ts = true) : TOk ts := by
  simp only [tasksB, Bool.and_eq_true, decide_eq_true_eq] at h
  have hp : ∀ k, k < ts.length → inB (tel ts k).port 0 2 = true ∧ inB (tel ts k).lat 1 6 = true ∧ setN (tel ts k).needs (tel ts k).needs.length = true ∧ (∀ j, j < (tel ts k).needs.length → inB (el (tel ts k).needs j) 0 ((k : Int) - 1) = true) := fun k hk => by
    have := tasksN_at h.2 hk
    rw [taskB_eq] at this
    simp only [Bool.and_eq_true, List.all_eq_true] at this
    exact ⟨this.1, this.2.1, this.2.2.1, fun j hj => this.2.2.2 _ (el_mem hj)⟩
  have hn : ∀ k, k < ts.length → ∀ j, j < (tel ts k).needs.length → 0 ≤ el (tel ts k).needs j ∧ el (tel ts k).needs j < k := fun k hk j hj => by
    have := inB_iff.1 ((hp k hk).2.2.2 j hj); omega
  refine ⟨h.1, fun k hk => inB_iff.1 (hp k hk).1, fun k hk => inB_iff.1 (hp k hk).2.1, hn, fun k hk => (hp k hk).2.2.1, fun k hk => ?_⟩
  by_cases e : (tel ts k).needs.length = 0
  · omega
  · have h1 := setN_ge (hp k hk).2.2.1 (fun j hj => (hn k hk j hj).1) ((tel ts k).needs.length - 1) (by omega)
    have h2 := hn k hk ((tel ts k).needs.length - 1) (by omega)
    omega
theorem schedB_spec {ts : List TaskV} {xs : List Int} (h : xs.length = ts.length) : (decide (xs.length = ts.length) && (timeN xs && fitN ts xs xs.length)) = fitT ts xs xs.length := by
  rw [fitT_eq, timeN_eq, h]; simp
/-- The first n of what the i-th task needs are done in time. -/
def lateK (ts : List TaskV) (xs : List Int) (i : Nat) : Nat → Bool
  | 0 => true
  | k + 1 => lateK ts xs i k && lateB ts xs i (el (tel ts i).needs k)
theorem lateK_all (ts : List TaskV) (xs : List Int) (i : Nat) : lateK ts xs i (tel ts i).needs.length = lateN ts xs i := by
  have : ∀ n, lateK ts xs i n = allN n (fun k => lateB ts xs i (el (tel ts i).needs k)) := fun n => by
    induction n with
    | zero => rfl
    | succ n ih => rw [allN_succ]; simp only [lateK]; rw [ih]
  rw [this, lateN, allN_ints (tel ts i).needs (lateB ts xs i)]
theorem lateK_mono {ts : List TaskV} {xs : List Int} {i j k : Nat} (h : lateK ts xs i j = false) (hk : j ≤ k) : lateK ts xs i k = false := by
  induction k with
  | zero => obtain rfl : j = 0 := by omega
            exact h
  | succ k ih => by_cases e : j = k + 1
                 · subst e; exact h
                 · simp only [lateK]; rw [ih (by omega)]; rfl
end Go.Proofs.YtmpdaafkphpnoaaGreat
