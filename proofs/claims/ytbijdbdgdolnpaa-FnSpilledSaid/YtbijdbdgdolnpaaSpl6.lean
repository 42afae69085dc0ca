import Derived.Test.YtbijdbdgdolnpaaSpl5
set_option linter.unusedVariables false
set_option linter.unusedSimpArgs false
namespace Go.Proofs.Ytbijdbdgdolnpaa
open Go.RowKit

/-! ### The fewest are the fewest: plain lists alone -/
def fits (xs : List PI) (r : Int) (g : Nat) : Prop := widN (kepN xs g xs.length) (kepN xs g xs.length).length ≤ r
theorem less_len {a b : List Int} (h : lessB a b = true) : a.length ≤ b.length := by
  unfold lessB at h
  split at h
  · omega
  · simp at h; omega
theorem less_no {a b : List Int} (h : lessB a b = false) : b.length ≤ a.length := by
  unfold lessB at h
  split at h
  · omega
  · simp at h; omega
theorem bsI_fits {xs : List PI} {r : Int} {k : Nat} (h : (bsI xs r k).2 = true) : ∃ g, g < k ∧ (bsI xs r k).1 = memN g 12 ∧ fits xs r g := by
  induction k with
  | zero => cases h
  | succ k ih =>
    simp only [bsI] at h ⊢
    split
    · rename_i hc
      rw [if_pos hc] at h
      obtain ⟨g, hg, h1, h2⟩ := ih h
      exact ⟨g, by omega, h1, h2⟩
    · rename_i hc
      rw [if_neg hc] at h
      split
      · rename_i hw
        exact ⟨k, by omega, rfl, hw⟩
      · rename_i hw
        rw [if_neg hw] at h
        obtain ⟨g, hg, h1, h2⟩ := ih h
        exact ⟨g, by omega, h1, h2⟩
theorem bsI_min {xs : List PI} {r : Int} {k h : Nat} (hk : h < k) (hf : fits xs r h) : (bsI xs r k).2 = true ∧ (bsI xs r k).1.length ≤ (memN h 12).length := by
  induction k with
  | zero => omega
  | succ k ih =>
    simp only [bsI]
    rcases Nat.lt_or_ge h k with hlt | hge
    · obtain ⟨h1, h2⟩ := ih hlt
      split
      · exact ⟨h1, h2⟩
      · rename_i hc
        rw [h1] at hc
        have hl : lessB (memN k 12) (bsI xs r k).1 = true := by
          cases hq : lessB (memN k 12) (bsI xs r k).1 with
          | true => rfl
          | false => rw [hq] at hc; exact absurd rfl hc
        split
        · exact ⟨rfl, Nat.le_trans (less_len hl) h2⟩
        · exact ⟨h1, h2⟩
    · obtain rfl : h = k := by omega
      split
      · rename_i hc
        rw [Bool.and_eq_true] at hc
        refine ⟨hc.1, less_no ?_⟩
        have := hc.2
        simpa using this
      · have hf' : widN (kepN xs h xs.length) (kepN xs h xs.length).length ≤ r := hf
        rw [if_pos hf']
        exact ⟨rfl, Nat.le_refl _⟩
theorem bsI_found {xs : List PI} {r : Int} (hr : 0 ≤ r) : (bsI xs r (2 ^ xs.length)).2 = true := by
  have hp := Nat.two_pow_pos xs.length
  refine (bsI_min (h := 2 ^ xs.length - 1) (by omega) ?_).1
  unfold fits
  rw [kep_none (Nat.le_refl _)]
  exact hr
/-! Sets by their bits. -/
theorem mem_congr {g h k : Nat} (hb : ∀ j, j < k → bitN g j = bitN h j) : memN g k = memN h k := by
  induction k with
  | zero => rfl
  | succ k ih => simp only [memN]; rw [ih (fun j hj => hb j (by omega)), hb k (by omega)]
theorem kep_congr (xs : List PI) {g h k : Nat} (hb : ∀ j, j < k → bitN g j = bitN h j) : kepN xs g k = kepN xs h k := by
  induction k with
  | zero => rfl
  | succ k ih => simp only [kepN]; rw [ih (fun j hj => hb j (by omega)), hb k (by omega)]
theorem bit_low {h i j : Nat} (hj : j < i) : bitN (h + 2 ^ i) j = bitN h j := by
  unfold bitN
  obtain ⟨d, rfl⟩ : ∃ d, i = j + 1 + d := ⟨i - (j + 1), by omega⟩
  have h0 := Nat.two_pow_pos j
  have e : h + 2 ^ (j + 1 + d) = h + 2 ^ j * (2 * 2 ^ d) := by rw [Nat.pow_add, Nat.pow_succ, Nat.mul_assoc]
  rw [e, Nat.add_mul_div_left _ _ h0, Nat.add_mul_mod_self_left]
theorem bit_new {h i : Nat} (hh : h < 2 ^ i) : bitN (h + 2 ^ i) i = true := by
  unfold bitN
  rw [Nat.add_div_right _ (Nat.two_pow_pos i), Nat.div_eq_of_lt hh]; rfl
theorem bit_old {h i : Nat} (hh : h < 2 ^ i) : bitN h i = false := by
  unfold bitN
  rw [Nat.div_eq_of_lt hh]; rfl
theorem drop_set (xs : List PI) {h i : Nat} (hh : h < 2 ^ i) : h + 2 ^ i < 2 ^ (i + 1) ∧ kepN xs (h + 2 ^ i) (i + 1) = kepN xs h i ∧ (memN (h + 2 ^ i) (i + 1)).length = (memN h i).length + 1 := by
  refine ⟨by rw [Nat.pow_succ]; omega, ?_, ?_⟩
  · simp only [kepN]; rw [bit_new hh, kep_congr xs (fun j hj => bit_low hj)]; simp
  · simp only [memN]; rw [bit_new hh, mem_congr (fun j hj => bit_low hj)]; simp
theorem keep_set (xs : List PI) {h i : Nat} (hh : h < 2 ^ i) : h < 2 ^ (i + 1) ∧ kepN xs h (i + 1) = kepN xs h i ++ [pel xs i] ∧ (memN h (i + 1)).length = (memN h i).length := by
  refine ⟨by rw [Nat.pow_succ]; omega, ?_, ?_⟩
  · simp only [kepN]; rw [bit_old hh]; simp
  · simp only [memN]; rw [bit_old hh]; simp
theorem mem_has {g k i : Nat} (hi : i < k) : decide ((i : Int) ∈ memN g k) = bitN g i := by
  have key : ∀ k, (i : Int) ∈ memN g k ↔ i < k ∧ bitN g i = true := fun k => by
    induction k with
    | zero => simp [memN]
    | succ k ih =>
      simp only [memN, List.mem_append, ih]
      constructor
      · rintro (⟨h1, h2⟩ | h)
        · exact ⟨by omega, h2⟩
        · cases hb : bitN g k with
          | false => rw [hb] at h; simp at h
          | true => rw [hb] at h; simp at h; have : i = k := by omega
                    subst this; exact ⟨by omega, hb⟩
      · rintro ⟨h1, h2⟩
        rcases Nat.lt_or_ge i k with hl | hg
        · exact .inl ⟨hl, h2⟩
        · obtain rfl : i = k := by omega
          right; rw [h2]; simp
  rw [Bool.eq_iff_iff, decide_eq_true_eq, key]
  exact ⟨fun h => h.2, fun h => ⟨hi, h⟩⟩
theorem kep_mem_len (xs : List PI) (g k : Nat) : (kepN xs g k).length + (memN g k).length = k := by
  induction k with
  | zero => rfl
  | succ k ih =>
    simp only [kepN, memN, List.length_append]
    cases bitN g k <;> simp <;> omega
theorem rng_kept {xs : List PI} (h : xs.all rngB = true) (hl : xs.length ≤ 12) (g : Nat) : rngsB (kepN xs g xs.length) = true := by
  unfold rngsB
  rw [Bool.and_eq_true, decide_eq_true_eq]
  have := kepN_length xs g xs.length
  refine ⟨by omega, List.all_eq_true.2 fun q hq => ?_⟩
  obtain ⟨k, hk, _, rfl⟩ := kepN_mem.1 hq
  exact List.all_eq_true.1 h _ (pel_mem hk)
/-- What the law asks at its end. -/
theorem spilled {xs : List PI} {r : Int} (hl : xs.length ≤ 12) (hr : 0 ≤ r) : ∃ G, G < 2 ^ xs.length ∧ (bsI xs r (2 ^ xs.length)).1 = memN G xs.length ∧ fits xs r G ∧ ∀ h, h < 2 ^ xs.length → (memN h xs.length).length < (memN G xs.length).length → ¬ fits xs r h := by
  obtain ⟨G, hG, h1, h2⟩ := bsI_fits (bsI_found (xs := xs) hr)
  rw [memN_12 hl hG] at h1
  refine ⟨G, hG, h1, h2, fun h hh hlen hf => ?_⟩
  have := (bsI_min hh hf).2
  rw [h1, memN_12 hl hh] at this
  omega
end Go.Proofs.Ytbijdbdgdolnpaa
