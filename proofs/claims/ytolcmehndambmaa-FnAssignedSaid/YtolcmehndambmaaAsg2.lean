import Derived.Test.YtolcmehndambmaaAsg
import Derived.Test.YtolcmehndambmaaRange2
set_option linter.unusedVariables false
set_option linter.unusedSimpArgs false
namespace Go.Proofs.Ytolcmehndambmaa
open Go.RowKit

/-! ### Registers, one after another -/
/-- What is given after m ranges; none if there are too few registers. -/
def asgN (rs : List PI) (R : Int) : Nat → Option (List Int)
  | 0 => some (List.replicate rs.length (-1))
  | m + 1 => match asgN rs R m with
    | none => none
    | some out => if regN rs out (el (ordR rs) m).toNat < R then some (out.set (el (ordR rs) m).toNat (regN rs out (el (ordR rs) m).toNat)) else none
theorem asg_none {rs : List PI} {R : Int} {m j : Nat} (h : asgN rs R m = none) (hj : m ≤ j) : asgN rs R j = none := by
  induction j with
  | zero => obtain rfl : m = 0 := by omega
            exact h
  | succ j ih =>
    by_cases e : m = j + 1
    · subst e; exact h
    · simp only [asgN]; rw [ih (by omega)]
def asgR : Option (List Int) → List Int × Bool
  | some o => (o, true)
  | none => ([], false)
def m_AssignRegisters (rs : List PI) (R : Int) : List Int × Bool := if rngsB rs && inB R 0 12 then asgR (asgN rs R rs.length) else ([], false)
/-- The first m ranges of the order have their registers. -/
structure AsgI (rs : List PI) (m : Nat) (out : List Int) : Prop where
  len : out.length = rs.length
  done : ∀ k, k < m → k < rs.length → 0 ≤ el out (el (ordR rs) k).toNat ∧ el out (el (ordR rs) k).toNat ≤ rs.length
  rest : ∀ k, m ≤ k → k < rs.length → el out (el (ordR rs) k).toNat = -1
theorem ord_in (rs : List PI) {k : Nat} (hk : k < rs.length) : ∃ i : Nat, el (ordR rs) k = i ∧ i < rs.length := by
  have h := ordR_spec rs
  have := all_below h.ord.1 h.ord.2 hk
  exact ⟨(el (ordR rs) k).toNat, by omega, by omega⟩
theorem ord_inj (rs : List PI) {k l : Nat} (hk : k < rs.length) (hl : l < rs.length) (h : el (ordR rs) k = el (ordR rs) l) : k = l := by
  have hs := ordR_spec rs
  exact el_inj hs.ord.1 hs.ord.2 hk hl (all_below hs.ord.1 hs.ord.2 hk) h
theorem ord_sur (rs : List PI) {i : Nat} (hi : i < rs.length) : ∃ k, k < rs.length ∧ el (ordR rs) k = i := by
  have hs := ordR_spec rs
  obtain ⟨k, hk, e⟩ := List.getElem_of_mem (hs.ord.2 i hi)
  have h1 := el_get hk
  rw [List.getElem?_eq_getElem hk, e] at h1
  exact ⟨k, by rw [← ordR_length rs]; exact hk, (Option.some.inj h1).symm⟩
theorem reg_range (rs : List PI) (out : List Int) (i : Nat) : 0 ≤ regN rs out i ∧ regN rs out i ≤ rs.length := by
  obtain ⟨a, b, _, _⟩ := regF_spec (rs := rs) (out := out) (i := i) rs.length 0
  unfold regN; omega
theorem reg_taken (rs : List PI) (out : List Int) (i : Nat) {q : Int} (h0 : 0 ≤ q) (h1 : q < regN rs out i) : tknN rs out i q rs.length = true :=
  (regF_spec (rs := rs) (out := out) (i := i) rs.length 0).2.2.1 q h0 h1
theorem reg_free {rs : List PI} {out : List Int} (hl : out.length = rs.length) (i : Nat) : tknN rs out i (regN rs out i) rs.length = false := by
  obtain ⟨a, b, c, d⟩ := regF_spec (rs := rs) (out := out) (i := i) rs.length 0
  rcases d with d | d
  · exact d
  · cases h : tknN rs out i (regN rs out i) rs.length with
    | false => rfl
    | true =>
      exfalso
      have key : ∀ r : Nat, r < rs.length + 1 → (r : Int) ∈ out := fun r hr => by
        have ht : tknN rs out i (r : Int) rs.length = true := by
          by_cases e : r = rs.length
          · subst e
            unfold regN at h
            rw [d, Int.zero_add] at h
            exact h
          · exact c r (by omega) (by rw [d]; omega)
        obtain ⟨k, hk, he, _⟩ := tkn_iff.1 ht
        rw [← he]; exact el_mem (by omega)
      have := few_in (rs.length + 1) out key
      omega
theorem AsgI.zero (rs : List PI) : AsgI rs 0 (List.replicate rs.length (-1)) := by
  refine ⟨List.length_replicate, fun k hk => absurd hk (Nat.not_lt_zero _), fun k _ hk => ?_⟩
  obtain ⟨i, hi, hin⟩ := ord_in rs hk
  rw [hi, Int.toNat_natCast]
  unfold el; rw [List.getD_eq_getElem?_getD, List.getElem?_replicate, if_pos hin]; rfl
theorem AsgI.next {rs : List PI} {m : Nat} {out : List Int} (h : AsgI rs m out) (hm : m < rs.length) {r : Int} (h0 : 0 ≤ r) (h1 : r ≤ rs.length) : AsgI rs (m + 1) (out.set (el (ordR rs) m).toNat r) := by
  obtain ⟨i, hi, hin⟩ := ord_in rs hm
  rw [hi, Int.toNat_natCast]
  have hl := h.len
  have hne : ∀ k, k < rs.length → k ≠ m → i ≠ (el (ordR rs) k).toNat := fun k hk hkm e => by
    obtain ⟨j, hj, _⟩ := ord_in rs hk
    rw [hj, Int.toNat_natCast] at e
    subst e
    exact hkm (ord_inj rs hk hm (hj.trans hi.symm))
  refine ⟨by rw [List.length_set]; exact hl, fun k hk hkn => ?_, fun k hk hkn => ?_⟩
  · by_cases e : k = m
    · subst e; rw [hi, Int.toNat_natCast, el_set_same (by omega)]; exact ⟨h0, h1⟩
    · rw [el_set_other (hne k hkn e)]; exact h.done k (by omega) hkn
  · rw [el_set_other (hne k hkn (by omega))]; exact h.rest k (by omega) hkn
theorem asg_inv {rs : List PI} {R : Int} {m : Nat} (hm : m ≤ rs.length) {out : List Int} (h : asgN rs R m = some out) : AsgI rs m out := by
  induction m generalizing out with
  | zero => simp only [asgN, Option.some.injEq] at h; subst h; exact AsgI.zero rs
  | succ m ih =>
    simp only [asgN] at h
    cases e : asgN rs R m with
    | none => rw [e] at h; cases h
    | some o =>
      rw [e] at h
      simp only at h
      split at h
      · cases h
        have hr := reg_range rs o (el (ordR rs) m).toNat
        exact (ih (by omega) e).next (by omega) hr.1 hr.2
      · cases h
theorem AsgI.small {rs : List PI} {m : Nat} {out : List Int} (h : AsgI rs m out) {i : Nat} (hi : i < rs.length) : -1 ≤ el out i ∧ el out i ≤ rs.length := by
  obtain ⟨k, hk, e⟩ := ord_sur rs hi
  by_cases hkm : k < m
  · have := h.done k hkm hk; rw [e, Int.toNat_natCast] at this; omega
  · have := h.rest k (by omega) hk; rw [e, Int.toNat_natCast] at this; omega
/-! The reference's choice is the order's -/
def pckN (rs : List PI) (out : List Int) : Nat → Int
  | 0 => -1
  | i + 1 => if decide (el out i < 0) && (decide (pckN rs out i < 0) || decide ((pel rs i).1 < frX rs (pckN rs out i))) then (i : Int) else pckN rs out i
theorem pck_spec (rs : List PI) (out : List Int) (n : Nat) : (pckN rs out n = -1 ∧ ∀ j, j < n → ¬ el out j < 0) ∨ ∃ p : Nat, p < n ∧ pckN rs out n = p ∧ el out p < 0 ∧ ∀ j : Nat, j < n → el out j < 0 → j = p ∨ lexX rs p j := by
  induction n with
  | zero => left; exact ⟨rfl, fun j hj => absurd hj (Nat.not_lt_zero _)⟩
  | succ n ih =>
    simp only [pckN]
    by_cases hn : el out n < 0
    · rw [decide_eq_true hn, Bool.true_and]
      rcases ih with ⟨e, h⟩ | ⟨p, hp, e, h1, h2⟩
      · right
        rw [e]
        refine ⟨n, by omega, by simp, hn, fun j hj hj0 => ?_⟩
        by_cases ej : j = n
        · exact .inl ej
        · exact absurd hj0 (h j (by omega))
      · right
        rw [e, decide_eq_false (show ¬ ((p : Int) < 0) by omega), Bool.false_or]
        have hfp : frX rs (p : Int) = (pel rs p).1 := by unfold frX; rw [Int.toNat_natCast]
        have hfn : frX rs (n : Int) = (pel rs n).1 := by unfold frX; rw [Int.toNat_natCast]
        by_cases hlt : (pel rs n).1 < frX rs (p : Int)
        · rw [decide_eq_true hlt]
          refine ⟨n, by omega, by simp, hn, fun j hj hj0 => ?_⟩
          by_cases ej : j = n
          · exact .inl ej
          · right
            rcases h2 j (by omega) hj0 with rfl | h3
            · left; rw [hfn]; exact hlt
            · unfold lexX at h3 ⊢; omega
        · rw [decide_eq_false hlt]
          refine ⟨p, by omega, by simp, h1, fun j hj hj0 => ?_⟩
          by_cases ej : j = n
          · subst ej
            right
            unfold lexX
            omega
          · exact h2 j (by omega) hj0
    · rw [decide_eq_false hn, Bool.false_and]
      simp only [Bool.false_eq_true, if_false]
      rcases ih with ⟨e, h⟩ | ⟨p, hp, e, h1, h2⟩
      · left
        refine ⟨e, fun j hj => ?_⟩
        by_cases ej : j = n
        · subst ej; exact hn
        · exact h j (by omega)
      · right
        refine ⟨p, by omega, e, h1, fun j hj hj0 => ?_⟩
        by_cases ej : j = n
        · subst ej; exact absurd hj0 hn
        · exact h2 j (by omega) hj0
theorem pck_ord {rs : List PI} {m : Nat} {out : List Int} (h : AsgI rs m out) (hm : m < rs.length) : pckN rs out rs.length = el (ordR rs) m := by
  obtain ⟨q, hq, hqn⟩ := ord_in rs hm
  have hq0 : el out q < 0 := by have := h.rest m (Nat.le_refl _) hm; rw [hq, Int.toNat_natCast] at this; omega
  rcases pck_spec rs out rs.length with ⟨_, h1⟩ | ⟨p, hp, e, h1, h2⟩
  · exact absurd hq0 (h1 q hqn)
  · obtain ⟨k, hk, ek⟩ := ord_sur rs hp
    have hkm : m ≤ k := by
      by_cases hkm : k < m
      · have := h.done k hkm hk; rw [ek, Int.toNat_natCast] at this; omega
      · omega
    rw [e, hq]
    rcases h2 q hqn hq0 with h3 | h3
    · rw [h3]
    · by_cases ekm : k = m
      · subst ekm; rw [← ek, hq]
      · have h4 := (ordR_spec rs).sort m k (by omega) hk
        rw [ek, hq] at h4
        unfold lexX at h3 h4
        omega
/-! A set of numbers that one more is put into -/
def putS (n x : Int) (o : List Int) (d : Bool) : List Int × Bool := if !d && decide (n ≤ x) then (o ++ (if n < x then [n] else []) ++ [x], true) else (o ++ [x], d)
def putN (xs : List Int) (n : Int) : Nat → List Int × Bool
  | 0 => ([], false)
  | i + 1 => putS n (el xs i) (putN xs n i).1 (putN xs n i).2
def putF (xs : List Int) (n : Int) : List Int := if (putN xs n xs.length).2 then (putN xs n xs.length).1 else (putN xs n xs.length).1 ++ [n]
theorem putS_spec {tk o : List Int} {n x : Int} {d : Bool} {k : Nat} (h1 : ∀ y, y ∈ o ↔ y ∈ tk ∨ (d = true ∧ y = n)) (h2 : o.length ≤ k + d.toNat) :
    (∀ y, y ∈ (putS n x o d).1 ↔ y ∈ tk ++ [x] ∨ ((putS n x o d).2 = true ∧ y = n)) ∧ (putS n x o d).1.length ≤ k + 1 + (putS n x o d).2.toNat := by
  unfold putS
  cases d with
  | true =>
    simp only [Bool.not_true, Bool.false_and, Bool.false_eq_true, if_false]
    refine ⟨fun y => ?_, by simp at h2 ⊢; omega⟩
    rw [List.mem_append, List.mem_append, h1 y]
    simp only [List.mem_singleton, true_and]
    constructor
    · rintro ((h | h) | h)
      · exact .inl (.inl h)
      · exact .inr h
      · exact .inl (.inr h)
    · rintro ((h | h) | h)
      · exact .inl (.inl h)
      · exact .inr h
      · exact .inl (.inr h)
  | false =>
    simp only [Bool.not_false, Bool.true_and]
    have h3 : ∀ y, y ∈ o ↔ y ∈ tk := fun y => by rw [h1 y]; simp
    have h4 : o.length ≤ k := by simpa using h2
    by_cases hn : n ≤ x
    · rw [decide_eq_true hn]
      simp only [if_true, true_and]
      refine ⟨fun y => ?_, ?_⟩
      · rw [List.mem_append, List.mem_append, List.mem_append, h3 y]
        by_cases hlt : n < x
        · rw [if_pos hlt]
          simp only [List.mem_singleton]
          constructor
          · rintro ((h | h) | h)
            · exact .inl (.inl h)
            · exact .inr h
            · exact .inl (.inr h)
          · rintro ((h | h) | h)
            · exact .inl (.inl h)
            · exact .inr h
            · exact .inl (.inr h)
        · rw [if_neg hlt]
          simp only [List.not_mem_nil, or_false, List.mem_singleton]
          constructor
          · exact fun h => .inl h
          · rintro (h | h)
            · exact h
            · exact .inr (by omega)
      · by_cases hlt : n < x
        · rw [if_pos hlt]; simp; omega
        · rw [if_neg hlt]; simp; omega
    · rw [decide_eq_false hn]
      simp only [Bool.false_eq_true, if_false, false_and, or_false]
      refine ⟨fun y => ?_, by simp; omega⟩
      rw [List.mem_append, List.mem_append, h3 y]
theorem putN_spec (xs : List Int) (n : Int) {k : Nat} (hk : k ≤ xs.length) : (∀ x, x ∈ (putN xs n k).1 ↔ x ∈ xs.take k ∨ ((putN xs n k).2 = true ∧ x = n)) ∧ (putN xs n k).1.length ≤ k + (putN xs n k).2.toNat := by
  induction k with
  | zero => simp [putN]
  | succ k ih =>
    obtain ⟨h1, h2⟩ := ih (by omega)
    simp only [putN]
    rw [el_take (by omega)]
    exact putS_spec h1 h2
theorem mem_put {xs : List Int} {n x : Int} : x ∈ putF xs n ↔ x = n ∨ x ∈ xs := by
  obtain ⟨h1, _⟩ := putN_spec xs n (Nat.le_refl xs.length)
  rw [List.take_length] at h1
  unfold putF
  cases hd : (putN xs n xs.length).2 with
  | true =>
    rw [hd] at h1
    simp only [if_true]
    rw [h1 x]
    simp only [true_and]
    exact Or.comm
  | false =>
    rw [hd] at h1
    simp only [Bool.false_eq_true, if_false]
    rw [List.mem_append, h1 x]
    simp only [Bool.false_eq_true, false_and, or_false, List.mem_singleton]
    exact Or.comm
theorem put_length (xs : List Int) (n : Int) : (putF xs n).length ≤ xs.length + 1 := by
  obtain ⟨_, h2⟩ := putN_spec xs n (Nat.le_refl xs.length)
  unfold putF
  cases hd : (putN xs n xs.length).2 with
  | true => rw [hd] at h2; simpa using h2
  | false => rw [hd] at h2; simp at h2 ⊢; omega
end Go.Proofs.Ytolcmehndambmaa
