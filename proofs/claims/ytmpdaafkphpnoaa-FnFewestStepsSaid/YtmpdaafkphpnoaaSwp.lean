import Derived.Test.YtmpdaafkphpnoaaPerm
set_option linter.unusedVariables false
set_option linter.unusedSimpArgs false
namespace Go.Proofs.Ytmpdaafkphpnoaa
open Go.RowKit

/-- Two elements exchanged. -/
def swp (xs : List Int) (k i : Nat) : List Int := (xs.set k (el xs i)).set i (el xs k)
theorem swp_length (xs : List Int) (k i : Nat) : (swp xs k i).length = xs.length := by simp [swp]
theorem swp_all {xs : List Int} {n k i : Nat} (hl : xs.length = n) (hk : k < n) (hi : i < n) (h : ∀ j : Nat, j < n → (j : Int) ∈ xs) : ∀ j : Nat, j < n → (j : Int) ∈ swp xs k i := fun j hj => by
  obtain ⟨m, hm, e⟩ := List.getElem_of_mem (h j hj)
  have em : el xs m = j := by have := el_get hm; rw [List.getElem?_eq_getElem hm, e] at this; exact (Option.some.inj this).symm
  have key : ∀ p, p < n → el (swp xs k i) p = (j : Int) → (j : Int) ∈ swp xs k i := fun p hp hq => by rw [← hq]; exact el_mem (by rw [swp_length]; omega)
  unfold swp at key ⊢
  by_cases e1 : m = k
  · subst e1
    exact key i hi (by rw [el_set_same (by simp; omega)]; exact em)
  · by_cases e2 : m = i
    · subst e2
      exact key k hk (by rw [el_set_other e1, el_set_same (by omega)]; exact em)
    · exact key m (by omega) (by rw [el_set_other (Ne.symm e2), el_set_other (Ne.symm e1)]; exact em)
/-- A list with each number below n, of n numbers; it is a shuffle. -/
def OrdP (xs : List Int) (n : Nat) : Prop := xs.length = n ∧ ∀ j : Nat, j < n → (j : Int) ∈ xs
def idl (n : Nat) : List Int := (List.range n).map fun k : Nat => (k : Int)
theorem idl_length (n : Nat) : (idl n).length = n := by simp [idl]
theorem idl_ord (n : Nat) : OrdP (idl n) n := ⟨idl_length n, fun j hj => by unfold idl; exact List.mem_map.2 ⟨j, List.mem_range.2 hj, rfl⟩⟩
theorem idl_snoc (k : Nat) : idl (k + 1) = idl k ++ [(k : Int)] := by unfold idl; rw [List.range_succ, List.map_append]; rfl
end Go.Proofs.Ytmpdaafkphpnoaa
