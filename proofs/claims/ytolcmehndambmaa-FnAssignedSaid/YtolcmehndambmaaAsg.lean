import Derived.Test.YtolcmehndambmaaSwp
import Derived.Test.YtolcmehndambmaaRange
set_option linter.unusedVariables false
set_option linter.unusedSimpArgs false
namespace Go.Proofs.Ytolcmehndambmaa
open Go.RowKit

/-! ### Indices of ranges, sorted by where the ranges begin: a stable sort -/
def frX (rs : List PI) (x : Int) : Int := (pel rs x.toNat).1
/-- The number at j goes down as far as it goes. -/
def insN (rs : List PI) : Nat → List Int → List Int
  | 0, xs => xs
  | j + 1, xs => if frX rs (el xs (j + 1)) < frX rs (el xs j) then insN rs j (swp xs (j + 1) j) else xs
def srtN (rs : List PI) (n : Nat) : Nat → List Int
  | 0 => idl n
  | i + 1 => insN rs i (srtN rs n i)
theorem insN_length (rs : List PI) (j : Nat) (xs : List Int) : (insN rs j xs).length = xs.length := by
  induction j generalizing xs with
  | zero => rfl
  | succ j ih => simp only [insN]; split
                 · rw [ih, swp_length]
                 · rfl
theorem srtN_length (rs : List PI) (n i : Nat) : (srtN rs n i).length = n := by
  induction i with
  | zero => exact idl_length n
  | succ i ih => simp only [srtN]; rw [insN_length, ih]
theorem idl_el {n k : Nat} (h : k < n) : el (idl n) k = k := el_range (fun k : Nat => (k : Int)) h
/-- Ahead by the begin, or by the index. -/
def lexX (rs : List PI) (a b : Int) : Prop := frX rs a < frX rs b ∨ (frX rs a = frX rs b ∧ a < b)
theorem swp_el {xs : List Int} {k i : Nat} (hk : k < xs.length) (hi : i < xs.length) (hki : k ≠ i) (p : Nat) : el (swp xs k i) p = if p = k then el xs i else if p = i then el xs k else el xs p := by
  unfold swp
  by_cases e1 : p = i
  · subst e1; rw [el_set_same (by simpa using hi), if_neg (Ne.symm hki), if_pos rfl]
  · rw [el_set_other (Ne.symm e1)]
    by_cases e2 : p = k
    · subst e2; rw [el_set_same hk, if_pos rfl]
    · rw [el_set_other (Ne.symm e2), if_neg e2, if_neg e1]
/-- Within one number's way down: it stands at j, the first i + 1 apart from it are sorted, those above it begin later. -/
structure InsI (rs : List PI) (n i j : Nat) (xs : List Int) : Prop where
  ord : OrdP xs n
  lt : i < n
  le : j ≤ i
  at_ : el xs j = i
  sort : ∀ k l, k < l → l ≤ i → k ≠ j → l ≠ j → lexX rs (el xs k) (el xs l)
  above : ∀ l, j < l → l ≤ i → frX rs i < frX rs (el xs l)
  rest : ∀ k, i < k → k < n → el xs k = k
  low : ∀ k, k ≤ i → el xs k ≤ i
structure SrtI (rs : List PI) (n i : Nat) (xs : List Int) : Prop where
  ord : OrdP xs n
  sort : ∀ k l, k < l → l < i → lexX rs (el xs k) (el xs l)
  rest : ∀ k, i ≤ k → k < n → el xs k = k
  low : ∀ k, k < i → el xs k < i
theorem InsI.ne {rs : List PI} {n i j : Nat} {xs : List Int} (h : InsI rs n i j xs) {k : Nat} (hk : k ≤ i) (hkj : k ≠ j) : el xs k < i := by
  have h1 := h.low k hk
  have h2 := h.lt
  have h3 := h.le
  have hb := all_below h.ord.1 h.ord.2 (i := j) (by omega)
  by_cases e : el xs k = i
  · exact absurd (el_inj h.ord.1 h.ord.2 (by omega) (by omega) (all_below h.ord.1 h.ord.2 (by omega)) (e.trans h.at_.symm)) hkj
  · omega
theorem InsI.stop {rs : List PI} {n i j : Nat} {xs : List Int} (h : InsI rs n i j xs) (hs : ∀ k, k < j → frX rs (el xs k) ≤ frX rs i) : SrtI rs n (i + 1) xs := by
  refine ⟨h.ord, fun k l hkl hl => ?_, fun k hk hkn => h.rest k (by omega) hkn, fun k hk => by have := h.low k (by omega); omega⟩
  by_cases e1 : l = j
  · subst e1
    rw [h.at_]
    have h1 := hs k hkl
    have h2 := h.ne (k := k) (by omega) (by omega)
    unfold lexX; omega
  · by_cases e2 : k = j
    · subst e2
      rw [h.at_]
      have := h.above l hkl (by omega)
      unfold lexX; omega
    · exact h.sort k l hkl (by omega) e2 e1
theorem InsI.down {rs : List PI} {n i j : Nat} {xs : List Int} (h : InsI rs n i (j + 1) xs) (hd : frX rs i < frX rs (el xs j)) : InsI rs n i j (swp xs (j + 1) j) := by
  have hle := h.le
  have hlt := h.lt
  have hlen := h.ord.1
  have hel := swp_el (xs := xs) (k := j + 1) (i := j) (by omega) (by omega) (by omega)
  refine ⟨⟨by rw [swp_length]; exact hlen, swp_all hlen (by omega) (by omega) h.ord.2⟩, hlt, by omega, ?_, fun k l hkl hl hk hlj => ?_, fun l hjl hl => ?_, fun k hk hkn => ?_, fun k hk => ?_⟩
  · rw [hel, if_neg (by omega), if_pos rfl]; exact h.at_
  · rw [hel k, hel l]
    by_cases e1 : k = j + 1
    · subst e1
      rw [if_pos rfl, if_neg (by omega), if_neg hlj]
      exact h.sort j l (by omega) hl (by omega) (by omega)
    · rw [if_neg e1, if_neg hk]
      by_cases e2 : l = j + 1
      · subst e2
        rw [if_pos rfl]
        exact h.sort k j (by omega) (by omega) e1 (by omega)
      · rw [if_neg e2, if_neg hlj]
        exact h.sort k l hkl hl e1 e2
  · rw [hel l]
    by_cases e1 : l = j + 1
    · subst e1; rw [if_pos rfl]; exact hd
    · rw [if_neg e1, if_neg (by omega)]; exact h.above l (by omega) hl
  · rw [hel k, if_neg (by omega), if_neg (by omega)]; exact h.rest k hk hkn
  · rw [hel k]
    by_cases e1 : k = j + 1
    · rw [if_pos e1]; exact h.low j (by omega)
    · rw [if_neg e1]
      by_cases e2 : k = j
      · rw [if_pos e2]; exact h.low (j + 1) (by omega)
      · rw [if_neg e2]; exact h.low k hk
theorem InsI.run {rs : List PI} {n i : Nat} : ∀ (j : Nat) (xs : List Int), InsI rs n i j xs → SrtI rs n (i + 1) (insN rs j xs)
  | 0, xs, h => h.stop fun k hk => absurd hk (Nat.not_lt_zero _)
  | j + 1, xs, h => by
    have hle := h.le
    simp only [insN]
    rw [h.at_]
    split
    · rename_i hd
      exact InsI.run j _ (h.down hd)
    · rename_i hd
      refine h.stop fun k hk => ?_
      by_cases e : k = j
      · subst e; omega
      · have := h.sort k j (by omega) (by omega) (by omega) (by omega)
        unfold lexX at this
        omega
theorem srt_spec (rs : List PI) (n : Nat) : ∀ i, i ≤ n → SrtI rs n i (srtN rs n i) := by
  intro i
  induction i with
  | zero =>
    intro _
    exact ⟨idl_ord n, fun k l _ hl => absurd hl (Nat.not_lt_zero _), fun k _ hk => idl_el hk, fun k hk => absurd hk (Nat.not_lt_zero _)⟩
  | succ i ih =>
    intro hi
    have h := ih (by omega)
    simp only [srtN]
    refine InsI.run i _ ⟨h.ord, by omega, Nat.le_refl _, h.rest i (Nat.le_refl _) (by omega), fun k l hkl hl hk hli => h.sort k l hkl (by omega), fun l h1 h2 => absurd h1 (by omega), fun k hk hkn => h.rest k (by omega) hkn, fun k hk => ?_⟩
    by_cases e : k = i
    · subst e; rw [h.rest k (Nat.le_refl _) (by omega)]; omega
    · have := h.low k (by omega); omega
/-- The order in which registers are given. -/
def ordR (rs : List PI) : List Int := srtN rs rs.length rs.length
theorem ordR_length (rs : List PI) : (ordR rs).length = rs.length := srtN_length rs _ _
theorem ordR_spec (rs : List PI) : SrtI rs rs.length rs.length (ordR rs) := srt_spec rs rs.length rs.length (Nat.le_refl _)
/-! ### Registers -/
/-- Two ranges meet. -/
def meetB (a b : PI) : Bool := decide (max a.1 b.1 < min a.2 b.2)
/-- The register r is taken by one of the first n ranges that meets the i-th one. -/
def tknN (rs : List PI) (out : List Int) (i : Nat) (r : Int) (n : Nat) : Bool := (List.range n).any fun k => decide (el out k = r) && meetB (pel rs k) (pel rs i)
def regF (rs : List PI) (out : List Int) (i : Nat) : Nat → Int → Int
  | 0, r => r
  | f + 1, r => if tknN rs out i r rs.length then regF rs out i f (r + 1) else r
/-- The first register that is free. -/
def regN (rs : List PI) (out : List Int) (i : Nat) : Int := regF rs out i rs.length 0
theorem tkn_iff {rs : List PI} {out : List Int} {i n : Nat} {r : Int} : tknN rs out i r n = true ↔ ∃ k, k < n ∧ el out k = r ∧ meetB (pel rs k) (pel rs i) = true := by
  unfold tknN
  rw [List.any_eq_true]
  constructor
  · rintro ⟨k, hk, h⟩
    rw [Bool.and_eq_true, decide_eq_true_eq] at h
    exact ⟨k, List.mem_range.1 hk, h.1, h.2⟩
  · rintro ⟨k, hk, h1, h2⟩
    exact ⟨k, List.mem_range.2 hk, by rw [decide_eq_true h1, h2]; rfl⟩
theorem regF_spec {rs : List PI} {out : List Int} {i : Nat} (f : Nat) (r : Int) : r ≤ regF rs out i f r ∧ regF rs out i f r ≤ r + f ∧ (∀ q, r ≤ q → q < regF rs out i f r → tknN rs out i q rs.length = true) ∧ (tknN rs out i (regF rs out i f r) rs.length = false ∨ regF rs out i f r = r + f) := by
  induction f generalizing r with
  | zero => exact ⟨by simp [regF], by simp [regF], fun q h1 h2 => by simp [regF] at h2; omega, .inr (by simp [regF])⟩
  | succ f ih =>
    simp only [regF]
    cases h : tknN rs out i r rs.length with
    | true =>
      obtain ⟨a, b, c, d⟩ := ih (r + 1)
      simp only [if_true]
      refine ⟨by omega, by omega, fun q h1 h2 => ?_, ?_⟩
      · by_cases e : q = r
        · subst e; exact h
        · exact c q (by omega) h2
      · rcases d with d | d
        · exact .inl d
        · exact .inr (by rw [d]; omega)
    | false =>
      simp only [Bool.false_eq_true, if_false]
      exact ⟨by omega, by omega, fun q h1 h2 => by omega, .inl h⟩
/-- m numbers that all are in a list are no more than it is long. -/
theorem few_in : ∀ (m : Nat) (xs : List Int), (∀ r : Nat, r < m → (r : Int) ∈ xs) → m ≤ xs.length := by
  intro m
  induction m with
  | zero => intro xs _; omega
  | succ m ih =>
    intro xs h
    have h1 := ih (xs.erase (m : Int)) fun r hr => (List.mem_erase_of_ne (by omega)).2 (h r (by omega))
    have h2 := List.length_erase_of_mem (h m (by omega))
    have h3 := List.length_pos_of_mem (h m (by omega))
    omega
end Go.Proofs.Ytolcmehndambmaa
