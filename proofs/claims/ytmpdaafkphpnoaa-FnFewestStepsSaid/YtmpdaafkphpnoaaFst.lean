import Derived.Test.YtmpdaafkphpnoaaBfs14
set_option linter.unusedVariables false
set_option linter.unusedSimpArgs false
namespace Go.Proofs.Ytmpdaafkphpnoaa
open Go.RowKit

/-! ### Fewest steps: plain laws of the search -/
theorem seenB_app {O N : List PQ} {s : List Int} : seenB (O ++ N) s = (seenB O s || seenB N s) := by unfold seenB; rw [List.any_append]
theorem ex1_seen (al : List (List Int)) (r : PQ) (k : Nat) (O : List PQ) : seenB (ex1 al r k O) (pick r.2 (rw_ al k)) = true := by
  unfold ex1
  split
  · assumption
  · rw [seenB_app]; simp [seenB]
theorem exK_seen (al : List (List Int)) (r : PQ) (O : List PQ) : ∀ m k, k < m → seenB (exK al r m O) (pick r.2 (rw_ al k)) = true := by
  intro m
  induction m with
  | zero => intro k hk; omega
  | succ m ih =>
    intro k hk
    show seenB (ex1 al r m (exK al r m O)) _ = true
    by_cases q : k = m
    · subst q; exact ex1_seen _ _ _ _
    · obtain ⟨N, e, _⟩ := ex1_pre al r m (exK al r m O)
      rw [e, seenB_app, ih k (by omega)]; rfl
theorem exR_seen (al : List (List Int)) (a : Nat) (O : List PQ) : ∀ m j k, j < m → a + j < O.length → k < al.length → seenB (exR al a m O) (pick (qel O (a + j)).2 (rw_ al k)) = true := by
  intro m
  induction m with
  | zero => intro j k hj; omega
  | succ m ih =>
    intro j k hj hjO hk
    by_cases q : j = m
    · subst q
      show seenB (exK al (qel (exR al a j O) (a + j)) al.length (exR al a j O)) _ = true
      rw [exR_app al a j O hjO]
      exact exK_seen _ _ _ _ _ hk
    · obtain ⟨N, e, _⟩ := exK_pre al (qel (exR al a m O) (a + m)) al.length (exR al a m O)
      show seenB (exK al (qel (exR al a m O) (a + m)) al.length (exR al a m O)) _ = true
      rw [e, seenB_app, ih j k (by omega) hjO hk]; rfl
theorem lvO_seen (al : List (List Int)) (n : Nat) : ∀ l i k, i < (lvO al n l).length → k < al.length → seenB (lvO al n (l + 1)) (pick (qel (lvO al n l) i).2 (rw_ al k)) = true := by
  intro l
  induction l with
  | zero =>
    intro i k hi hk
    have h := exR_seen al 0 (lvO al n 0) (lvO al n 0).length i k hi (by omega) hk
    rw [Nat.zero_add] at h
    exact h
  | succ l ih =>
    intro i k hi hk
    have hle := lvA_le al n (l + 1)
    by_cases q : lvA al n (l + 1) ≤ i
    · have h := exR_seen al (lvA al n (l + 1)) (lvO al n (l + 1)) ((lvO al n (l + 1)).length - lvA al n (l + 1)) (i - lvA al n (l + 1)) k (by omega) (by omega) hk
      rw [show lvA al n (l + 1) + (i - lvA al n (l + 1)) = i by omega, ← lvO_succ] at h
      exact h
    · have hi2 : i < (lvO al n l).length := by
        have : lvA al n (l + 1) = (lvO al n l).length := rfl
        omega
      have h := ih i k hi2 hk
      obtain ⟨N, e⟩ := lvO_mono al n l 1
      obtain ⟨M, e2⟩ := lvO_mono al n (l + 1) 1
      rw [e2, seenB_app]
      rw [show qel (lvO al n (l + 1)) i = qel (lvO al n l) i by rw [e]; exact qel_app hi2, h]; rfl
/-- The steps, one after another. -/
def runI (al : List (List Int)) (s : List Int) (ks : List Int) : List Int := ks.foldl (fun s k => pick s (rw_ al k.toNat)) s
theorem runI_snoc (al : List (List Int)) (s ks : List Int) (k : Int) : runI al s (ks ++ [k]) = pick (runI al s ks) (rw_ al k.toNat) := by unfold runI; rw [List.foldl_append]; rfl
theorem seenB_qel {O : List PQ} {s : List Int} (h : seenB O s = true) : ∃ i, i < O.length ∧ (qel O i).2 = s := by
  unfold seenB at h
  rw [List.any_eq_true] at h
  obtain ⟨p, hp, e⟩ := h
  obtain ⟨i, hi, rfl⟩ := List.getElem_of_mem hp
  have h1 := qel_get hi
  rw [List.getElem?_eq_getElem hi] at h1
  exact ⟨i, hi, by rw [← Option.some.inj h1]; simpa using e⟩
theorem lvO_run (al : List (List Int)) (n : Nat) : ∀ (m : Nat) (ks : List Int), ks.length = m → (∀ k ∈ ks, k.toNat < al.length) → seenB (lvO al n ks.length) (runI al (idl n) ks) = true := by
  intro m
  induction m with
  | zero =>
    intro ks hm _
    obtain rfl : ks = [] := List.eq_nil_of_length_eq_zero hm
    simp [lvO, runI, seenB]
  | succ m ih =>
    intro ks hm h
    obtain ⟨ks', k, rfl⟩ : ∃ ks' k, ks = ks' ++ [k] := ⟨ks.dropLast, ks.getLast (by intro q; simp [q] at hm), by rw [List.dropLast_concat_getLast]⟩
    rw [List.length_append, List.length_singleton] at hm
    obtain ⟨i, hi, e⟩ := seenB_qel (ih ks' (by omega) fun x hx => h x (List.mem_append_left _ hx))
    have h2 := lvO_seen al n ks'.length i k.toNat hi (h k (by simp))
    rw [List.length_append, List.length_singleton, runI_snoc, ← e]
    exact h2
def SdP (al : List (List Int)) (n : Nat) (O : List PQ) : Prop := ∀ p ∈ O, p.2 = runI al (idl n) p.1 ∧ ∀ x ∈ p.1, 0 ≤ x ∧ x < al.length
theorem SdP.ex1 {al : List (List Int)} {n : Nat} {O : List PQ} (h : SdP al n O) {r : PQ} (hr : r.2 = runI al (idl n) r.1 ∧ ∀ x ∈ r.1, 0 ≤ x ∧ x < al.length) {k : Nat} (hk : k < al.length) : SdP al n (ex1 al r k O) := by
  obtain ⟨N, e, _, hp⟩ := ex1_pre al r k O
  rw [e]
  intro p hpm
  rcases List.mem_append.1 hpm with q | q
  · exact h p q
  · rw [hp p q]
    refine ⟨by rw [runI_snoc, ← hr.1]; simp, fun x hx => ?_⟩
    rcases List.mem_append.1 hx with q2 | q2
    · exact hr.2 x q2
    · obtain rfl : x = (k : Int) := by simpa using q2
      omega
theorem SdP.exK {al : List (List Int)} {n : Nat} {O : List PQ} (h : SdP al n O) {r : PQ} (hr : r.2 = runI al (idl n) r.1 ∧ ∀ x ∈ r.1, 0 ≤ x ∧ x < al.length) : ∀ k, k ≤ al.length → SdP al n (exK al r k O) := by
  intro k
  induction k with
  | zero => intro _; exact h
  | succ k ih => intro hk; exact SdP.ex1 (ih (by omega)) hr (by omega)
theorem SdP.exR {al : List (List Int)} {n : Nat} {O : List PQ} (h : SdP al n O) (a : Nat) : ∀ j, a + j ≤ O.length → SdP al n (exR al a j O) := by
  intro j
  induction j with
  | zero => intro _; exact h
  | succ j ih =>
    intro hj
    have h2 := ih (by omega)
    refine SdP.exK h2 ?_ _ (Nat.le_refl _)
    rw [exR_app al a j O (by omega)]
    exact h _ (qel_mem (by omega))
theorem SdP.lv (al : List (List Int)) (n : Nat) : ∀ l, SdP al n (lvO al n l) := by
  intro l
  induction l with
  | zero => intro p hp; simp [lvO] at hp; subst hp; exact ⟨rfl, by simp⟩
  | succ l ih =>
    rw [lvO_succ]
    exact SdP.exR ih _ _ (by have := lvA_le al n l; omega)
end Go.Proofs.Ytmpdaafkphpnoaa
