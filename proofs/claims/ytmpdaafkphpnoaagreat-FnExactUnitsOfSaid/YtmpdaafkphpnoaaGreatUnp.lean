import Derived.Test.YtmpdaafkphpnoaaGreatUnt
import Derived.Test.YtmpdaafkphpnoaaGreatRws
set_option linter.unusedVariables false
set_option linter.unusedSimpArgs false
namespace Go.Proofs.YtmpdaafkphpnoaaGreat
open Go.RowKit

/-! ### Units in order: the plain law -/
theorem idxN_spec (p : Nat → Bool) (n : Nat) : (idxN p n n = -1 ∧ ∀ k, k < n → p k = false) ∨ ∃ k : Nat, k < n ∧ idxN p n n = k ∧ p k = true ∧ ∀ j, j < k → p j = false := by
  have key : ∀ d, d ≤ n → (idxN p n d = -1 ∧ ∀ k, n - d ≤ k → k < n → p k = false) ∨ ∃ k : Nat, n - d ≤ k ∧ k < n ∧ idxN p n d = k ∧ p k = true ∧ ∀ j, n - d ≤ j → j < k → p j = false := by
    intro d
    induction d with
    | zero => intro _; left; exact ⟨rfl, fun k h1 h2 => by omega⟩
    | succ d ih =>
      intro hd
      simp only [idxN]
      by_cases q : p (n - (d + 1)) = true
      · right
        exact ⟨n - (d + 1), Nat.le_refl _, by omega, by rw [if_pos q], q, fun j h1 h2 => by omega⟩
      · have q' : p (n - (d + 1)) = false := by simpa using q
        rw [if_neg q]
        rcases ih (by omega) with ⟨h1, h2⟩ | ⟨k, h1, h2, h3, h4, h5⟩
        · left
          refine ⟨h1, fun k hk1 hk2 => ?_⟩
          by_cases e : k = n - (d + 1)
          · subst e; exact q'
          · exact h2 k (by omega) hk2
        · right
          refine ⟨k, by omega, h2, h3, h4, fun j hj1 hj2 => ?_⟩
          by_cases e : j = n - (d + 1)
          · subst e; exact q'
          · exact h5 j (by omega) hj2
  rcases key n (Nat.le_refl _) with ⟨h1, h2⟩ | ⟨k, h1, h2, h3, h4, h5⟩
  · exact .inl ⟨h1, fun k hk => h2 k (by omega) hk⟩
  · exact .inr ⟨k, h2, h3, h4, fun j hj => h5 j (by omega) hj⟩
/-- The best one of the first n, and its number. -/
def bstN (p : Nat → Bool) (m : Nat → Int) : Nat → Int × Int
  | 0 => (-1, 0)
  | i + 1 => if (decide ((bstN p m i).1 < 0) || decide (m i < (bstN p m i).2)) && p i then ((i : Int), m i) else bstN p m i
theorem bstN_spec (p : Nat → Bool) (m : Nat → Int) (n : Nat) : (bstN p m n = (-1, 0) ∧ ∀ k, k < n → p k = false) ∨ ∃ k : Nat, k < n ∧ bstN p m n = ((k : Int), m k) ∧ p k = true ∧ ∀ j, j < n → p j = true → m k ≤ m j := by
  induction n with
  | zero => left; exact ⟨rfl, fun k hk => by omega⟩
  | succ n ih =>
    simp only [bstN]
    rcases ih with ⟨h1, h2⟩ | ⟨k, h1, h2, h3, h4⟩
    · rw [h1]
      cases q : p n with
      | true =>
        right
        refine ⟨n, by omega, by simp, q, fun j hj hp => ?_⟩
        by_cases e : j = n
        · subst e; exact Int.le_refl _
        · rw [h2 j (by omega)] at hp; cases hp
      | false =>
        left
        refine ⟨by simp, fun k hk => ?_⟩
        by_cases e : k = n
        · subst e; exact q
        · exact h2 k (by omega)
    · rw [h2]
      have hk0 : ¬ ((k : Int) < 0) := by omega
      cases q : p n with
      | false =>
        right
        refine ⟨k, by omega, by simp, h3, fun j hj hp => ?_⟩
        by_cases e : j = n
        · subst e; rw [q] at hp; cases hp
        · exact h4 j (by omega) hp
      | true =>
        by_cases hm : m n < m k
        · right
          refine ⟨n, by omega, by simp [hm], q, fun j hj hp => ?_⟩
          by_cases e : j = n
          · subst e; exact Int.le_refl _
          · have := h4 j (by omega) hp; omega
        · right
          refine ⟨k, by omega, by simp [hm, hk0], h3, fun j hj hp => ?_⟩
          by_cases e : j = n
          · subst e; omega
          · exact h4 j (by omega) hp
section
variable (cs : List SmV) (R : List (List Int))
def nxI (D : List Int) (L : List Nat) : Int := idxN (fun k => rdyB cs D (rw_ R (L.getD k 0))) L.length L.length
def nxS (D : List Int) (L : List Nat) : Int × Int := bstN (fun k => rdyB cs D (rw_ R (L.getD k 0))) (fun k => Lib.minOf (rw_ R (L.getD k 0))) L.length
def unI : Nat → List Nat → List Int → List Nat → List Nat × Bool
  | 0, _, _, out => (out, true)
  | f + 1, L, D, out => if nxI cs R D L < 0 then ([], false) else unI f (L.eraseIdx (nxI cs R D L).toNat) (D ++ rw_ R (L.getD (nxI cs R D L).toNat 0)) (out ++ [L.getD (nxI cs R D L).toNat 0])
def unS : Nat → List Nat → List Int → List Nat → List Nat × Bool
  | 0, _, _, out => (out, true)
  | f + 1, L, D, out => if (nxS cs R D L).1 < 0 then ([], false) else unS f (L.eraseIdx (nxS cs R D L).1.toNat) (D ++ rw_ R (L.getD (nxS cs R D L).1.toNat 0)) (out ++ [L.getD (nxS cs R D L).1.toNat 0])
theorem getD_mem' {L : List Nat} {k : Nat} (h : k < L.length) : L.getD k 0 ∈ L := by
  rw [List.getD_eq_getElem?_getD, List.getElem?_eq_getElem h]; exact List.getElem_mem h
theorem mem_getD' {L : List Nat} {x : Nat} (h : x ∈ L) : ∃ k, k < L.length ∧ L.getD k 0 = x := by
  obtain ⟨k, hk, e⟩ := List.getElem_of_mem h
  exact ⟨k, hk, by rw [List.getD_eq_getElem?_getD, List.getElem?_eq_getElem hk, e]; rfl⟩
theorem perm_erase {L : List Nat} {k : Nat} (h : k < L.length) : L.Perm (L.getD k 0 :: L.eraseIdx k) := by
  rw [List.getD_eq_getElem?_getD, List.getElem?_eq_getElem h]
  rw [List.eraseIdx_eq_take_drop_succ]
  have e : L = L.take k ++ (L[k] :: L.drop (k + 1)) := by rw [← List.drop_eq_getElem_cons h, List.take_append_drop]
  conv => lhs; rw [e]
  exact List.perm_middle
/-- Both ways through the units are one. -/
theorem un_eq : ∀ (f : Nat) (L M : List Nat) (D : List Int) (out : List Nat), L.length = f → L.Perm M → L.Pairwise (fun x y => Lib.minOf (rw_ R x) < Lib.minOf (rw_ R y)) → unI cs R f L D out = unS cs R f M D out := by
  intro f
  induction f with
  | zero => intro L M D out _ _ _; rfl
  | succ f ih =>
    intro L M D out hl hp hs
    have hlm : M.length = f + 1 := by rw [← hp.length_eq]; exact hl
    simp only [unI, unS]
    have hI := idxN_spec (fun k => rdyB cs D (rw_ R (L.getD k 0))) L.length
    have hS := bstN_spec (fun k => rdyB cs D (rw_ R (M.getD k 0))) (fun k => Lib.minOf (rw_ R (M.getD k 0))) M.length
    rcases hI with ⟨hi1, hi2⟩ | ⟨k, hk, hi1, hi2, hi3⟩
    · rcases hS with ⟨hs1, hs2⟩ | ⟨k', hk', hs1, hs2, hs3⟩
      · rw [if_pos (by show idxN _ _ _ < 0; rw [hi1]; decide), if_pos (by show (bstN _ _ _).1 < 0; rw [hs1]; decide)]
      · obtain ⟨j, hj, e⟩ := mem_getD' (hp.mem_iff.2 (getD_mem' hk'))
        have := hi2 j hj
        simp only [e] at this
        rw [this] at hs2; cases hs2
    · rcases hS with ⟨hs1, hs2⟩ | ⟨k', hk', hs1, hs2, hs3⟩
      · obtain ⟨j, hj, e⟩ := mem_getD' (hp.mem_iff.1 (getD_mem' hk))
        have := hs2 j hj
        simp only [e] at this
        rw [this] at hi2; cases hi2
      · have e1 : nxI cs R D L = k := hi1
        have e2 : (nxS cs R D M).1 = k' := by show (bstN _ _ _).1 = _; rw [hs1]
        rw [e1, e2, if_neg (by omega), if_neg (by omega), Int.toNat_natCast, Int.toNat_natCast]
        -- the same unit
        have hu : L.getD k 0 = M.getD k' 0 := by
          obtain ⟨j, hj, ej⟩ := mem_getD' (hp.mem_iff.2 (getD_mem' hk'))
          obtain ⟨j', hj', ej'⟩ := mem_getD' (hp.mem_iff.1 (getD_mem' hk))
          have hle := hs3 j' hj' (by simp only [ej']; exact hi2)
          simp only [ej'] at hle
          have hpj : rdyB cs D (rw_ R (L.getD j 0)) = true := by rw [ej]; exact hs2
          have hkj : ¬ j < k := fun q => by rw [hi3 j q] at hpj; cases hpj
          rw [← ej] at hle ⊢
          by_cases e : j = k
          · rw [e]
          · have hlt := List.pairwise_iff_getElem.1 hs k j hk hj (by omega)
            rw [List.getD_eq_getElem?_getD, List.getElem?_eq_getElem hj, List.getD_eq_getElem?_getD, List.getElem?_eq_getElem hk] at hle
            simp only [Option.getD_some] at hle
            omega
        have hpe : (L.eraseIdx k).Perm (M.eraseIdx k') := by
          have h1 := (perm_erase hk).symm.trans (hp.trans (perm_erase hk'))
          rw [hu] at h1
          exact h1.cons_inv
        rw [hu]
        exact ih _ _ _ _ (by rw [List.length_eraseIdx, if_pos hk]; omega) hpe (hs.sublist (List.eraseIdx_sublist _ _))
end
end Go.Proofs.YtmpdaafkphpnoaaGreat
