import Derived.Test.YtjcpjmijhloimaaOrd
set_option linter.unusedVariables false
set_option linter.unusedSimpArgs false
namespace Go.Proofs.Ytjcpjmijhloimaa
open Go.RowKit

/-! ### Pressure: the plain functions -/
/-- The list after the first j of what is needed, where what needs it has the place x. -/
def lsJ (out : List Int) (x : Int) (ns : List Int) : Nat → List Int
  | 0 => out
  | j + 1 => (lsJ out x ns j).set (el ns j).toNat (max (el (lsJ out x ns j) (el ns j).toNat) x)
/-- The list after the first i tasks. -/
def lsN (ts : List TaskV) (at' : List Int) : Nat → List Int
  | 0 => List.replicate ts.length 0
  | i + 1 => lsJ (lsN ts at' i) (el at' i) (tel ts i).needs (tel ts i).needs.length
theorem lsJ_length (out : List Int) (x : Int) (ns : List Int) (j : Nat) : (lsJ out x ns j).length = out.length := by
  induction j with | zero => rfl | succ j ih => simp [lsJ, ih]
theorem lsN_length (ts : List TaskV) (at' : List Int) (i : Nat) : (lsN ts at' i).length = ts.length := by
  induction i with | zero => simp [lsN] | succ i ih => simp [lsN, lsJ_length, ih]
theorem lsJ_gt {out ns : List Int} {x : Int} {n : Nat} (ho : out.length = n) {j : Nat} (hj : j ≤ ns.length) (hb : ∀ q, q < ns.length → 0 ≤ el ns q ∧ el ns q < n) (now : Int) (k : Nat) (hk : k < n) :
    now < el (lsJ out x ns j) k ↔ now < el out k ∨ (now < x ∧ ∃ q, q < j ∧ el ns q = k) := by
  induction j with
  | zero =>
    constructor
    · exact fun h => .inl h
    · rintro (h | ⟨_, q, hq, _⟩)
      · exact h
      · omega
  | succ j ih =>
    have ih := ih (by omega)
    have hb' := hb j (by omega)
    have hl := lsJ_length out x ns j
    simp only [lsJ]
    by_cases e : (el ns j).toNat = k
    · rw [e, el_set_same (by omega), show ∀ a b : Int, (now < max a b) = (now < a ∨ now < b) from fun a b => by apply propext; omega, ih]
      constructor
      · rintro ((h | ⟨h, q, hq, he⟩) | h)
        · exact .inl h
        · exact .inr ⟨h, q, by omega, he⟩
        · exact .inr ⟨h, j, by omega, by omega⟩
      · rintro (h | ⟨h, _⟩)
        · exact .inl (.inl h)
        · exact .inr h
    · rw [el_set_other e, ih]
      constructor
      · rintro (h | ⟨h, q, hq, he⟩)
        · exact .inl h
        · exact .inr ⟨h, q, by omega, he⟩
      · rintro (h | ⟨h, q, hq, he⟩)
        · exact .inl h
        · refine .inr ⟨h, q, ?_, he⟩
          rcases Nat.lt_or_ge q j with h1 | h1
          · exact h1
          · obtain rfl : q = j := by omega
            omega
theorem lsN_gt {ts : List TaskV} (hO : TOk ts) (at' : List Int) {i : Nat} (hi : i ≤ ts.length) (now : Int) (h0 : 0 ≤ now) (k : Nat) (hk : k < ts.length) :
    now < el (lsN ts at' i) k ↔ ∃ p, p < i ∧ (k : Int) ∈ (tel ts p).needs ∧ now < el at' p := by
  induction i with
  | zero =>
    have : el (lsN ts at' 0) k = 0 := by
      unfold el lsN; rw [List.getD_eq_getElem?_getD, List.getElem?_replicate]; split <;> rfl
    rw [this]
    constructor
    · intro h; omega
    · rintro ⟨p, hp, _⟩; omega
  | succ i ih =>
    have ih := ih (by omega)
    simp only [lsN]
    rw [lsJ_gt (lsN_length ts at' i) (Nat.le_refl _) (fun q hq => by have := hO.need i (by omega) q hq; omega) now k hk, ih]
    constructor
    · rintro (⟨p, hp, h1, h2⟩ | ⟨h, q, hq, he⟩)
      · exact ⟨p, by omega, h1, h2⟩
      · exact ⟨i, by omega, he ▸ el_mem hq, h⟩
    · rintro ⟨p, hp, h1, h2⟩
      rcases Nat.lt_or_ge p i with hlt | hge
      · exact .inl ⟨p, hlt, h1, h2⟩
      · obtain rfl : p = i := by omega
        obtain ⟨q, hq, he⟩ := List.getElem_of_mem h1
        refine .inr ⟨h2, q, hq, ?_⟩
        have := el_get hq; rw [List.getElem?_eq_getElem hq] at this; rw [← Option.some.inj this, he]
/-- Live by places; how many of the first k. -/
def liveI (ts : List TaskV) (xs : List Int) (now k : Nat) : Bool := decide (el (inv xs) k ≤ (now : Int)) && decide ((now : Int) < el (lsN ts (inv xs) ts.length) k)
def cntI (ts : List TaskV) (xs : List Int) (now : Nat) (k : Nat) : Nat := sumTo (fun k => if liveI ts xs now k then 1 else 0) k
/-- Live by the reference: a task that is not done needs it. -/
def lvN (ts : List TaskV) (done : List Int) (x : Int) : Nat → Bool
  | 0 => false
  | i + 1 => lvN ts done x i || (!hasB done (i : Int) && hasB (tel ts i).needs x)
def cntS (ts : List TaskV) (done : List Int) (k : Nat) : Nat := sumTo (fun j => if lvN ts done (el done j) ts.length then 1 else 0) k
def prsI (ts : List TaskV) (xs : List Int) : Nat → Int
  | 0 => 0
  | k + 1 => max (prsI ts xs k) (cntI ts xs k ts.length : Nat)
def prsS (ts : List TaskV) (xs : List Int) : Nat → Int
  | 0 => 0
  | k + 1 => max (prsS ts xs k) (cntS ts (xs.take (k + 1)) (k + 1) : Nat)
theorem lvN_iff (ts : List TaskV) (done : List Int) (x : Int) (n : Nat) : lvN ts done x n = true ↔ ∃ i, i < n ∧ (i : Int) ∉ done ∧ x ∈ (tel ts i).needs := by
  induction n with
  | zero => simp [lvN]
  | succ n ih =>
    simp only [lvN, Bool.or_eq_true, Bool.and_eq_true, Bool.not_eq_true', ih]
    rw [← Bool.not_eq_true, hasB_iff, hasB_iff]
    constructor
    · rintro (⟨i, h, h1⟩ | h)
      · exact ⟨i, by omega, h1⟩
      · exact ⟨n, by omega, h⟩
    · rintro ⟨i, h, h1⟩
      rcases Nat.lt_or_ge i n with hl | hg
      · exact .inl ⟨i, hl, h1⟩
      · obtain rfl : i = n := by omega
        exact .inr h1
theorem sumTo_congr {f g : Nat → Nat} {n : Nat} (h : ∀ k, k < n → f k = g k) : sumTo f n = sumTo g n := by
  induction n with
  | zero => rfl
  | succ n ih => simp only [sumTo]; rw [ih (fun k hk => h k (by omega)), h n (by omega)]
theorem sumTo_le {f : Nat → Nat} {n : Nat} (h : ∀ k, k < n → f k ≤ 1) : sumTo f n ≤ n := by
  induction n with
  | zero => simp [sumTo]
  | succ n ih => simp only [sumTo]; have := ih (fun k hk => h k (by omega)); have := h n (by omega); omega
theorem sumTo_tail {f : Nat → Nat} {n m : Nat} (hm : m ≤ n) (h : ∀ k, m ≤ k → k < n → f k = 0) : sumTo f n = sumTo f m := by
  induction n with
  | zero => obtain rfl : m = 0 := by omega
            rfl
  | succ n ih =>
    by_cases e : m = n + 1
    · rw [e]
    · simp only [sumTo]; rw [h n (by omega) (by omega), ih (by omega) (fun k h1 h2 => h k h1 (by omega))]; rfl
theorem sum_w {xs : List Int} {n : Nat} (f : Nat → Nat) (h : ∀ x, x ∈ xs → 0 ≤ x ∧ x < n) : (xs.map fun x => f x.toNat).sum = sumTo (fun k => xs.count (k : Int) * f k) n := by
  induction xs with
  | nil => induction n with | zero => rfl | succ n ih => simp [sumTo] at ih ⊢; exact ih
  | cons a t ih =>
    have ih' := ih (fun x hx => h x (List.mem_cons_of_mem _ hx))
    have e : (fun k : Nat => (a :: t).count (k : Int) * f k) = fun k : Nat => t.count (k : Int) * f k + (if a = (k : Int) then f k else 0) := by
      funext k; rw [List.count_cons]; by_cases hq : a = (k : Int) <;> simp [hq, Nat.add_mul]
    rw [e, sumTo_add (fun k : Nat => t.count (k : Int) * f k), ← ih']
    have hb := h a List.mem_cons_self
    obtain ⟨j, hj⟩ : ∃ j : Nat, a = j := ⟨a.toNat, by omega⟩
    have : ∀ m, sumTo (fun k : Nat => if a = (k : Int) then f k else 0) m = if j < m then f j else 0 := fun m => by
      induction m with
      | zero => simp [sumTo]
      | succ m im =>
        simp only [sumTo, im]
        subst hj
        by_cases e1 : j < m
        · rw [if_pos e1, if_neg (by omega), if_pos (by omega)]; rfl
        · by_cases e2 : j = m
          · subst e2; simp
          · rw [if_neg e1, if_neg (by omega), if_neg (by omega)]
    rw [this, if_pos (by omega), List.map_cons, List.sum_cons, hj]
    simp; omega
theorem sum_map (f : Nat → Nat) (xs : List Int) : (xs.map fun x => f x.toNat).sum = sumTo (fun j => f (el xs j).toNat) xs.length := by
  have : ∀ k, k ≤ xs.length → ((xs.take k).map fun x => f x.toNat).sum = sumTo (fun j => f (el xs j).toNat) k := fun k => by
    induction k with
    | zero => intro _; simp [sumTo]
    | succ k ih => intro hk; rw [el_take (by omega), List.map_append, List.sum_append, ih (by omega)]; simp [sumTo]
  have := this xs.length (Nat.le_refl _)
  rwa [List.take_length] at this
/-- A sum over all tasks in the order of a list. -/
theorem sum_perm {xs : List Int} {n : Nat} (hl : xs.length = n) (h : ∀ k : Nat, k < n → (k : Int) ∈ xs) (f : Nat → Nat) : sumTo f n = sumTo (fun j => f (el xs j).toNat) n := by
  have hin : ∀ x, x ∈ xs → 0 ≤ x ∧ x < n := fun x hx => by
    obtain ⟨k, hk, rfl⟩ := List.getElem_of_mem hx
    have e := el_get hk; rw [List.getElem?_eq_getElem hk] at e; rw [Option.some.inj e]; exact all_below hl h (by omega)
  have h2 := sum_w f hin
  rw [sum_map, hl] at h2
  rw [h2]
  exact sumTo_congr fun k hk => by rw [count_le_one hl h hk]; omega
theorem cnt_eq {ts : List TaskV} (hO : TOk ts) {xs : List Int} (hl : xs.length = ts.length) (h : ∀ k : Nat, k < ts.length → (k : Int) ∈ xs) {now : Nat} (hn : now < ts.length) :
    cntI ts xs now ts.length = cntS ts (xs.take (now + 1)) (now + 1) := by
  unfold cntI cntS
  rw [sum_perm hl h, sumTo_tail (m := now + 1) (by omega) (fun j h1 h2 => ?_)]
  · apply sumTo_congr
    intro j hj
    have hb := all_below hl h (i := j) (by omega)
    obtain ⟨k, hk⟩ : ∃ k : Nat, el xs j = k := ⟨(el xs j).toNat, by omega⟩
    have hej : el (xs.take (now + 1)) j = el xs j := by
      unfold el; rw [List.getD_eq_getElem?_getD, List.getElem?_take_of_lt hj, List.getD_eq_getElem?_getD]
    have hiv := inv_at hl h (k := j) (d := k) (by omega) hk
    have : liveI ts xs now (el xs j).toNat = lvN ts (xs.take (now + 1)) (el (xs.take (now + 1)) j) ts.length := by
      rw [hej, hk, Int.toNat_natCast, Bool.eq_iff_iff, lvN_iff]
      unfold liveI
      rw [hiv, Bool.and_eq_true, decide_eq_true_iff, decide_eq_true_iff, lsN_gt hO (inv xs) (Nat.le_refl _) now (by omega) k (by omega)]
      constructor
      · rintro ⟨_, p, hp, h1, h2⟩
        refine ⟨p, hp, fun hm => ?_, h1⟩
        obtain ⟨q, hq, hql, hqe⟩ := of_take hm
        have := inv_at hl h (k := q) (d := p) (by omega) hqe
        omega
      · rintro ⟨p, hp, h1, h2⟩
        refine ⟨by omega, p, hp, h2, ?_⟩
        obtain ⟨q, hq, hqe, hqi⟩ := inv_of hl h hp
        rw [hqi]
        apply Classical.byContradiction
        intro hc
        exact h1 (hqe ▸ mem_take (by omega) (by omega))
    rw [this]
  · have hb := all_below hl h (i := j) (by omega)
    obtain ⟨k, hk⟩ : ∃ k : Nat, el xs j = k := ⟨(el xs j).toNat, by omega⟩
    have hiv := inv_at hl h (k := j) (d := k) (by omega) hk
    rw [if_neg]
    unfold liveI
    rw [hk, Int.toNat_natCast, hiv]
    simp; omega
theorem prs_eq {ts : List TaskV} (hO : TOk ts) {xs : List Int} (hl : xs.length = ts.length) (h : ∀ k : Nat, k < ts.length → (k : Int) ∈ xs) {n : Nat} (hn : n ≤ ts.length) : prsI ts xs n = prsS ts xs n := by
  induction n with
  | zero => rfl
  | succ n ih => simp only [prsI, prsS]; rw [ih (by omega), cnt_eq hO hl h (by omega)]
theorem cntI_le (ts : List TaskV) (xs : List Int) (now k : Nat) : cntI ts xs now k ≤ k := sumTo_le fun _ _ => by split <;> omega
theorem cntS_le (ts : List TaskV) (xs : List Int) (k : Nat) : cntS ts xs k ≤ k := sumTo_le fun _ _ => by split <;> omega
theorem prsI_bnd (ts : List TaskV) (xs : List Int) (n : Nat) : 0 ≤ prsI ts xs n ∧ prsI ts xs n ≤ ts.length := by
  induction n with
  | zero => simp [prsI]
  | succ n ih => simp only [prsI]; have := cntI_le ts xs n ts.length; omega
theorem prsS_bnd (ts : List TaskV) (xs : List Int) (n : Nat) : 0 ≤ prsS ts xs n ∧ prsS ts xs n ≤ n := by
  induction n with
  | zero => simp [prsS]
  | succ n ih => simp only [prsS]; have := cntS_le ts (xs.take (n + 1)) (n + 1); omega
def m_PressureOf (ts : List TaskV) (xs : List Int) : Int × Bool := if tordB ts xs then (prsI ts xs xs.length, true) else (0, false)
end Go.Proofs.Ytjcpjmijhloimaa
