import Derived.Test.YtmpdaafkphpnoaaBfs12
import Derived.Test.YtmpdaafkphpnoaaLawO
import Derived.Test.YtmpdaafkphpnoaaCalm
set_option linter.unusedVariables false
set_option linter.unusedSimpArgs false
namespace Go.Proofs.Ytmpdaafkphpnoaa
open Go.RowKit

/-! ### ShortestSteps -/
theorem alw_hal {al : List (List Int)} (h : alwB al = true) : (∀ k, k < al.length → (rw_ al k).length = (rw_ al 0).length ∧ shufB (rw_ al k) = true) ∧ 1 ≤ al.length ∧ al.length ≤ 4 ∧ 1 ≤ (rw_ al 0).length ∧ (rw_ al 0).length ≤ 16 := by
  have hl := alwB_len h
  have h0 := alwB_row h (show 0 < al.length by omega)
  have hs := shufB_len h0.2
  refine ⟨fun k hk => alwB_row h hk, hl.1, hl.2, ?_, hs⟩
  have := h0.2
  simp only [shufB, Bool.and_eq_true] at this
  have := lanesB_or this.1; omega
def shG (al : List (List Int)) (goal : List Int) (s : Int) : Bool := alwB al && (shufB goal && (decide (goal.length = (rw_ al 0).length) && inB s 0 5))
def ixG (O : List PQ) (goal : List Int) : Int := idxN (fun k => decide ((qel O k).2 = goal)) O.length O.length
def m_ShortestSteps (al : List (List Int)) (goal : List Int) (s : Int) : List Int × Bool :=
  if shG al goal s then (if ixG (lvO al (rw_ al 0).length s.toNat) goal < 0 then ([], false) else ((qel (lvO al (rw_ al 0).length s.toNat) (ixG (lvO al (rw_ al 0).length s.toNat) goal).toNat).1, true)) else ([], false)
theorem ixG_range (O : List PQ) (goal : List Int) : ixG O goal < 0 ∨ (0 ≤ ixG O goal ∧ (ixG O goal).toNat < O.length) := by
  unfold ixG
  by_cases h : ∃ f, f < O.length ∧ (qel O f).2 = goal
  · obtain ⟨f, hf, he⟩ := h
    have : ∃ g, g ≤ f ∧ (qel O g).2 = goal ∧ ∀ i, i < g → (qel O i).2 ≠ goal := by
      induction f using Nat.strongRecOn with
      | ind f ih =>
        by_cases q : ∃ i, i < f ∧ (qel O i).2 = goal
        · obtain ⟨i, hi, hie⟩ := q
          obtain ⟨g, h1, h2, h3⟩ := ih i hi (by omega) hie
          exact ⟨g, by omega, h2, h3⟩
        · exact ⟨f, Nat.le_refl _, he, fun i hi r => q ⟨i, hi, r⟩⟩
    obtain ⟨g, h1, h2, h3⟩ := this
    right
    rw [idxN_at (p := fun k => decide ((qel O k).2 = goal)) (N := O.length) (f := g) (by omega) (by simpa using h2) (fun i hi => by simpa using h3 i hi)]
    omega
  · left
    rw [idxN_none (p := fun k => decide ((qel O k).2 = goal)) (fun i hi => by simp; exact fun r => h ⟨i, hi, r⟩)]
    omega
theorem m_ShortestSteps_len (al : List (List Int)) (goal : List Int) (s : Int) : (m_ShortestSteps al goal s).1.length ≤ 1048576 := by
  unfold m_ShortestSteps
  by_cases h : shG al goal s = true
  · rw [if_pos h]
    split
    · simp
    · rename_i hn
      have hs : inB s 0 5 = true := by
        unfold shG at h
        simp only [Bool.and_eq_true] at h
        exact h.2.2.2
      have hs2 := inB_iff.1 hs
      have hr := (ixG_range (lvO al (rw_ al 0).length s.toNat) goal).resolve_left hn
      have hl := lv_steps al (rw_ al 0).length s.toNat (ixG (lvO al (rw_ al 0).length s.toNat) goal).toNat hr.2
      show (qel _ _).1.length ≤ _
      by_cases q : (ixG (lvO al (rw_ al 0).length s.toNat) goal).toNat < lvA al (rw_ al 0).length s.toNat
      · have := hl.1 q; omega
      · have := hl.2 (by omega); omega
  · rw [if_neg h]; simp
/-- What the reference hands back is the first element with the goal, the last of its list. -/
theorem Rq_last {O : List PQ} {goal : List Int} {L : Nat} {T : List PQ} (h : Rq O goal L T) (h0 : 1 ≤ O.length) : 1 ≤ L ∧ L ≤ T.length ∧ (((qel T (L - 1)).2 = goal ∧ 0 ≤ ixG O goal ∧ qel O (ixG O goal).toNat = qel T (L - 1)) ∨ ((qel T (L - 1)).2 ≠ goal ∧ ixG O goal < 0)) := by
  obtain ⟨⟨N, e⟩, h1, h2⟩ := h
  rcases h2 with ⟨f, rfl, hf, hn⟩ | ⟨rfl, rfl, hn⟩
  · have hq : ∀ i, i ≤ f → qel O i = qel T i := fun i hi => by rw [e]; exact qel_app (by omega)
    have hi : ixG O goal = f := idxN_at (by rw [e, List.length_append]; omega) (by rw [hq f (Nat.le_refl _)]; simpa using hf) (fun i hi => by rw [hq i (by omega)]; simpa using hn i hi)
    refine ⟨by omega, h1, .inl ⟨by simpa using hf, by omega, ?_⟩⟩
    rw [hi, Nat.add_sub_cancel]
    exact hq _ (by omega)
  · refine ⟨h0, h1, .inr ⟨hn _ (by omega), ?_⟩⟩
    have : ixG T goal = -1 := idxN_none fun i hi => by simpa using hn i hi
    omega
end Go.Proofs.Ytmpdaafkphpnoaa
