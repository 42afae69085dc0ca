import Derived.Test.YtmpdaafkphpnoaaFst
set_option linter.unusedVariables false
set_option linter.unusedSimpArgs false
namespace Go.Proofs.Ytmpdaafkphpnoaa
open Go.RowKit

theorem ixG_ex {O : List PQ} {goal : List Int} (h : seenB O goal = true) : ∃ g, g < O.length ∧ ixG O goal = (g : Nat) ∧ (qel O g).2 = goal ∧ ∀ i, i < g → (qel O i).2 ≠ goal := by
  obtain ⟨f, hf, he⟩ := seenB_qel h
  have : ∃ g, g ≤ f ∧ (qel O g).2 = goal ∧ ∀ i, i < g → (qel O i).2 ≠ goal := by
    induction f using Nat.strongRecOn with
    | ind f ih =>
      by_cases q : ∃ i, i < f ∧ (qel O i).2 = goal
      · obtain ⟨i, hi, hie⟩ := q
        obtain ⟨g, h1, h2, h3⟩ := ih i hi (by omega) hie
        exact ⟨g, by omega, h2, h3⟩
      · exact ⟨f, Nat.le_refl _, he, fun i hi r => q ⟨i, hi, r⟩⟩
  obtain ⟨g, h1, h2, h3⟩ := this
  exact ⟨g, by omega, idxN_at (by omega) (by simpa using h2) (fun i hi => by simpa using h3 i hi), h2, h3⟩
/-- The fewest steps for a goal that some steps do. -/
theorem fewest (al : List (List Int)) (n most : Nat) (ks : List Int) (hk : ∀ k ∈ ks, k.toNat < al.length) (hm : ks.length ≤ most) :
    ∃ g, g < (lvO al n most).length ∧ ixG (lvO al n most) (runI al (idl n) ks) = (g : Nat) ∧ (qel (lvO al n most) g).1.length ≤ ks.length ∧ runI al (idl n) (qel (lvO al n most) g).1 = runI al (idl n) ks ∧ (∀ x ∈ (qel (lvO al n most) g).1, 0 ≤ x ∧ x < al.length) ∧ ∀ l, l < (qel (lvO al n most) g).1.length → ixG (lvO al n l) (runI al (idl n) ks) < 0 := by
  have hs := lvO_run al n ks.length ks rfl hk
  obtain ⟨g, h1, h2, h3, h4⟩ := ixG_ex hs
  obtain ⟨N, e⟩ := lvO_mono al n ks.length (most - ks.length)
  rw [show ks.length + (most - ks.length) = most by omega] at e
  have hq : ∀ i, i ≤ g → qel (lvO al n most) i = qel (lvO al n ks.length) i := fun i hi => by rw [e]; exact qel_app (by omega)
  have hgl : g < (lvO al n most).length := by rw [e, List.length_append]; omega
  have hsd := SdP.lv al n most _ (qel_mem hgl)
  refine ⟨g, hgl, idxN_at hgl (by rw [hq g (Nat.le_refl _)]; simpa using h3) (fun i hi => by rw [hq i (by omega)]; simpa using h4 i hi), ?_, ?_, hsd.2, fun l hl => ?_⟩
  · rw [hq g (Nat.le_refl _)]
    have hst := lv_steps al n ks.length g h1
    by_cases q : g < lvA al n ks.length
    · have := hst.1 q; omega
    · have := hst.2 (by omega); omega
  · rw [← hsd.1, hq g (Nat.le_refl _)]; exact h3
  · have hlen : (qel (lvO al n most) g).1.length ≤ ks.length := by
      rw [hq g (Nat.le_refl _)]
      have hst := lv_steps al n ks.length g h1
      by_cases q : g < lvA al n ks.length
      · have := hst.1 q; omega
      · have := hst.2 (by omega); omega
    by_cases hsb : seenB (lvO al n l) (runI al (idl n) ks) = true
    · exfalso
      obtain ⟨j, j1, _, j3, _⟩ := ixG_ex hsb
      obtain ⟨M, e2⟩ := lvO_mono al n l (most - l)
      rw [show l + (most - l) = most by omega] at e2
      have hj : qel (lvO al n most) j = qel (lvO al n l) j := by rw [e2]; exact qel_app j1
      have hgj : g ≤ j := Classical.byContradiction fun q => by
        refine h4 j (by omega) ?_
        rw [← hq j (by omega), hj, j3]
      have hg2 : qel (lvO al n most) g = qel (lvO al n l) g := by rw [e2]; exact qel_app (by omega)
      have hst := lv_steps al n l g (by omega)
      rw [← hg2] at hst
      by_cases q : g < lvA al n l
      · have := hst.1 q; omega
      · have := hst.2 (by omega); omega
    · have : ixG (lvO al n l) (runI al (idl n) ks) = -1 := idxN_none fun i hi => by
        simp only [decide_eq_false_iff_not]
        intro r
        apply hsb
        unfold seenB
        rw [List.any_eq_true]
        exact ⟨_, qel_mem hi, by simpa using r⟩
      omega
end Go.Proofs.Ytmpdaafkphpnoaa
