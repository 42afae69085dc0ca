import Derived.Test.YtolcmehndambmaaRtn8
import Derived.Test.YtolcmehndambmaaNrun
set_option linter.unusedVariables false
set_option linter.unusedSimpArgs false
namespace Go.Proofs.Ytolcmehndambmaa
open Go.RowKit

/-! ### A routed network does what its goal does: plain lists -/
def rp (far i : Nat) : Nat := if bt far i = 0 then i else i - far
def pt (far i : Nat) : Nat := if bt far i = 0 then i + far else i - far
/-- From where a step takes the lane i. -/
def stg (far : Nat) (l : List Int) (i : Nat) : Nat := if el l (cnP far (rp far i)) = 1 then pt far i else i
structure FO (n far : Nat) : Prop where
  lo : ∀ i, i < n → bt far i = 0 → i + far < n ∧ bt far (i + far) = 1
  hi : ∀ i, i < n → bt far i ≠ 0 → far ≤ i ∧ bt far (i - far) = 0
  pos : 0 < far
  cov : ∀ j, j < n / 2 → (List.range n).any (fun i => decide (bt far i = 0 ∧ cnP far i = j)) = true
theorem FO_2_1 : FO 2 1 := ⟨by decide, by decide, by decide, by decide⟩
theorem FO_4_1 : FO 4 1 := ⟨by decide, by decide, by decide, by decide⟩
theorem FO_4_2 : FO 4 2 := ⟨by decide, by decide, by decide, by decide⟩
theorem FO_8_1 : FO 8 1 := ⟨by decide, by decide, by decide, by decide⟩
theorem FO_8_2 : FO 8 2 := ⟨by decide, by decide, by decide, by decide⟩
theorem FO_8_4 : FO 8 4 := ⟨by decide, by decide, by decide, by decide⟩
theorem FO_16_1 : FO 16 1 := ⟨by decide, by decide, by decide, by decide⟩
theorem FO_16_2 : FO 16 2 := ⟨by decide, by decide, by decide, by decide⟩
theorem FO_16_4 : FO 16 4 := ⟨by decide, by decide, by decide, by decide⟩
theorem FO_16_8 : FO 16 8 := ⟨by decide, by decide, by decide, by decide⟩
theorem FO.of {n far : Nat} (hn : n = 2 ∨ n = 4 ∨ n = 8 ∨ n = 16) (hf : far = 1 ∨ far = 2 ∨ far = 4 ∨ far = 8) (hl : far < n) : FO n far := by
  rcases hn with rfl | rfl | rfl | rfl <;> rcases hf with rfl | rfl | rfl | rfl
  all_goals first | (exfalso; omega) | skip
  · exact FO_2_1
  · exact FO_4_1
  · exact FO_4_2
  · exact FO_8_1
  · exact FO_8_2
  · exact FO_8_4
  · exact FO_16_1
  · exact FO_16_2
  · exact FO_16_4
  · exact FO_16_8
theorem FO.rp_bt {n far i : Nat} (h : FO n far) (hi : i < n) : bt far (rp far i) = 0 := by
  unfold rp; split
  · assumption
  · next q => exact (h.hi i hi q).2
theorem FO.pt_lt {n far i : Nat} (h : FO n far) (hi : i < n) : pt far i < n := by
  unfold pt; split
  · next q => exact (h.lo i hi q).1
  · omega
theorem FO.pt_pt {n far i : Nat} (h : FO n far) (hi : i < n) : pt far (pt far i) = i ∧ rp far (pt far i) = rp far i := by
  by_cases q : bt far i = 0
  · have h1 := h.lo i hi q
    have e : pt far i = i + far := by unfold pt; rw [if_pos q]
    rw [e]
    unfold pt rp
    rw [if_neg (by omega), if_neg (by omega), if_pos q]
    omega
  · have h1 := h.hi i hi q
    have e : pt far i = i - far := by unfold pt; rw [if_neg q]
    rw [e]
    unfold pt rp
    rw [if_pos h1.2, if_pos h1.2, if_neg q]
    omega
theorem FO.pt_ne {n far i : Nat} (h : FO n far) (hi : i < n) : pt far i ≠ i := by
  have := h.pos
  unfold pt; split
  · omega
  · next q => have := (h.hi i hi q).1; omega
theorem FO.stg_lt {n far i : Nat} (h : FO n far) (l : List Int) (hi : i < n) : stg far l i < n := by
  unfold stg; split
  · exact h.pt_lt hi
  · exact hi
theorem FO.stg_stg {n far i : Nat} (h : FO n far) (l : List Int) (hi : i < n) : stg far l (stg far l i) = i := by
  by_cases q : el l (cnP far (rp far i)) = 1
  · have e : stg far l i = pt far i := by unfold stg; rw [if_pos q]
    rw [e]
    unfold stg
    rw [(h.pt_pt hi).2, if_pos q, (h.pt_pt hi).1]
  · have e : stg far l i = i := by unfold stg; rw [if_neg q]
    rw [e, e]
theorem rowRun_k {n far : Nat} (hF : FO n far) (l o : List Int) (ho : o.length = n) : ∀ k, k ≤ n → ∀ i, i < n →
    el (rowRun far l k o) i = if rp far i < k ∧ el l (cnP far (rp far i)) = 1 then el o (pt far i) else el o i := by
  intro k
  induction k with
  | zero => intro _ i _; rw [if_neg (by omega)]; rfl
  | succ k ih =>
    intro hk i hi
    have hl : (rowRun far l k o).length = n := by rw [rowRun_length, ho]
    have ihi := ih (by omega) i hi
    show el (exI far l k (rowRun far l k o)) i = _
    unfold exI
    by_cases hb : bt far k = 0
    · rw [if_pos hb]
      have h1 := hF.lo k (by omega) hb
      have hp := hF.pos
      by_cases hx : el l (cnP far k) = 1
      · rw [if_pos hx, el_set2 (by omega) (by omega)]
        have i1 := ih (by omega) k (by omega)
        have i2 := ih (by omega) (k + far) h1.1
        have e1 : rp far k = k := by unfold rp; rw [if_pos hb]
        have e2 : rp far (k + far) = k := by unfold rp; rw [if_neg (by omega)]; omega
        rw [if_neg (by rw [e1]; omega)] at i1
        rw [if_neg (by rw [e2]; omega)] at i2
        by_cases q1 : i = k + far
        · subst q1
          rw [if_pos rfl, i1, if_pos ⟨by rw [e2]; omega, by rw [e2]; exact hx⟩]
          unfold pt; rw [if_neg (by omega), Nat.add_sub_cancel]
        · rw [if_neg q1]
          by_cases q2 : i = k
          · subst q2
            rw [if_pos rfl, i2, if_pos ⟨by rw [e1]; omega, by rw [e1]; exact hx⟩]
            unfold pt; rw [if_pos hb]
          · rw [if_neg q2, ihi]
            have q3 : rp far i ≠ k := by
              unfold rp
              by_cases r : bt far i = 0
              · rw [if_pos r]; exact q2
              · rw [if_neg r]; have := (hF.hi i hi r).1; omega
            by_cases q4 : rp far i < k ∧ el l (cnP far (rp far i)) = 1
            · rw [if_pos q4, if_pos ⟨by omega, q4.2⟩]
            · rw [if_neg q4, if_neg (fun q => q4 ⟨by omega, q.2⟩)]
      · rw [if_neg hx, ihi]
        by_cases q3 : rp far i = k
        · rw [if_neg (by omega), if_neg (by rw [q3]; exact fun q => hx q.2)]
        · by_cases q4 : rp far i < k ∧ el l (cnP far (rp far i)) = 1
          · rw [if_pos q4, if_pos ⟨by omega, q4.2⟩]
          · rw [if_neg q4, if_neg (fun q => q4 ⟨by omega, q.2⟩)]
    · rw [if_neg hb, ihi]
      have q3 : rp far i ≠ k := fun q => hb (by rw [← q]; exact hF.rp_bt hi)
      by_cases q4 : rp far i < k ∧ el l (cnP far (rp far i)) = 1
      · rw [if_pos q4, if_pos ⟨by omega, q4.2⟩]
      · rw [if_neg q4, if_neg (fun q => q4 ⟨by omega, q.2⟩)]
theorem rp_lt {n far i : Nat} (hF : FO n far) (hi : i < n) : rp far i < n := by
  unfold rp; split <;> omega
theorem rowRun_el {n far : Nat} (hF : FO n far) (l o : List Int) (ho : o.length = n) {i : Nat} (hi : i < n) : el (rowRun far l n o) i = el o (stg far l i) := by
  rw [rowRun_k hF l o ho n (Nat.le_refl _) i hi]
  unfold stg
  by_cases q : el l (cnP far (rp far i)) = 1
  · rw [if_pos ⟨rp_lt hF hi, q⟩, if_pos q]
  · rw [if_neg (fun r => q r.2), if_neg q]
/-- From where the first s steps take the lane i. -/
def posN (xss : List (List Int)) (m : Nat) : Nat → Nat → Nat
  | 0, i => i
  | s + 1, i => posN xss m s (stg (farN m s) (rw_ xss s) i)
theorem posN_succ (xss : List (List Int)) (m s i : Nat) : posN xss m (s + 1) i = posN xss m s (stg (farN m s) (rw_ xss s) i) := rfl
/-- All steps of a network have a distance that fits. -/
def StO (n m L : Nat) : Prop := ∀ s, s < L → FO n (farN m s)
theorem StO.of {n m L : Nat} (hm1 : 1 ≤ m) (hm4 : m ≤ 4) (hn : n = 2 ^ m) (hL : L + 1 = 2 * m) : StO n m L := fun s hs => by
  obtain ⟨sh, far, h⟩ := StepOk.of hm1 hm4 hn (s := s) (by omega)
  rw [h.far_eq]
  have hn4 : n = 2 ∨ n = 4 ∨ n = 8 ∨ n = 16 := by
    rcases (show m = 1 ∨ m = 2 ∨ m = 3 ∨ m = 4 by omega) with rfl | rfl | rfl | rfl <;> rw [hn] <;> decide
  have h0 : sh < m := by
    by_cases q : s < m
    · have := h.up q; omega
    · have := (h.dn (by omega)).1; omega
  have hf : far = 2 ^ sh := by
    have := h.wr
    have h3 := h.sh3
    rcases (show sh = 0 ∨ sh = 1 ∨ sh = 2 ∨ sh = 3 by omega) with rfl | rfl | rfl | rfl
    · have e : IntKind.i64.wrap (2 ^ 0) = 1 := by decide
      rw [e] at this; omega
    · have e : IntKind.i64.wrap (2 ^ 1) = 2 := by decide
      rw [e] at this; omega
    · have e : IntKind.i64.wrap (2 ^ 2) = 4 := by decide
      rw [e] at this; omega
    · have e : IntKind.i64.wrap (2 ^ 3) = 8 := by decide
      rw [e] at this; omega
  refine FO.of hn4 ?_ (by rw [hf, hn]; exact Nat.pow_lt_pow_right (by omega) h0)
  have h3 := h.sh3
  rw [hf]
  rcases (show sh = 0 ∨ sh = 1 ∨ sh = 2 ∨ sh = 3 by omega) with rfl | rfl | rfl | rfl <;> decide
theorem posN_lt {xss : List (List Int)} {n m L : Nat} (hS : StO n m L) : ∀ s, s ≤ L → ∀ i, i < n → posN xss m s i < n := by
  intro s
  induction s with
  | zero => intro _ i hi; exact hi
  | succ s ih => intro hs i hi; exact ih (by omega) _ ((hS s (by omega)).stg_lt _ hi)
theorem netN_pos {xss : List (List Int)} {n m L : Nat} (hS : StO n m L) {a : List Int} (ha : a.length = n) : ∀ s, s ≤ L → ∀ i, i < n → el (netN xss m n s a) i = el a (posN xss m s i) := by
  intro s
  induction s with
  | zero => intro _ i _; rfl
  | succ s ih =>
    intro hs i hi
    show el (rowRun _ _ _ _) i = _
    rw [rowRun_el (hS s (by omega)) _ _ (by rw [netN_length, ha]) hi, ih (by omega) _ ((hS s (by omega)).stg_lt _ hi)]
    rfl
theorem posN_inj {xss : List (List Int)} {n m L : Nat} (hS : StO n m L) : ∀ s, s ≤ L → ∀ i j, i < n → j < n → posN xss m s i = posN xss m s j → i = j := by
  intro s
  induction s with
  | zero => intro _ i j _ _ e; exact e
  | succ s ih =>
    intro hs i j hi hj e
    have hF := hS s (by omega)
    have := ih (by omega) _ _ (hF.stg_lt _ hi) (hF.stg_lt _ hj) e
    have e2 := congrArg (stg (farN m s) (rw_ xss s)) this
    rwa [hF.stg_stg _ hi, hF.stg_stg _ hj] at e2
/-- What the steps from k to k + t do. -/
def bckN (xss : List (List Int)) (m k : Nat) : Nat → Nat → Nat
  | 0, i => i
  | t + 1, i => bckN xss m k t (stg (farN m (k + t)) (rw_ xss (k + t)) i)
theorem bckN_succ (xss : List (List Int)) (m k t i : Nat) : bckN xss m k (t + 1) i = bckN xss m k t (stg (farN m (k + t)) (rw_ xss (k + t)) i) := rfl
theorem bckN_onto {xss : List (List Int)} {n m L : Nat} (hS : StO n m L) (k : Nat) : ∀ t, k + t ≤ L → ∀ j, j < n → ∃ i, i < n ∧ bckN xss m k t i = j := by
  intro t
  induction t with
  | zero => intro _ j hj; exact ⟨j, hj, rfl⟩
  | succ t ih =>
    intro ht j hj
    obtain ⟨i, hi, e⟩ := ih (by omega) j hj
    have hF := hS (k + t) (by omega)
    refine ⟨stg (farN m (k + t)) (rw_ xss (k + t)) i, hF.stg_lt _ hi, ?_⟩
    rw [bckN_succ, hF.stg_stg _ hi]; exact e
theorem posN_split (xss : List (List Int)) (m k : Nat) : ∀ t i, posN xss m (k + t) i = posN xss m k (bckN xss m k t i) := by
  intro t
  induction t with
  | zero => intro i; rfl
  | succ t ih => intro i; rw [bckN_succ, ← ih, ← Nat.add_assoc, posN_succ]
theorem posN_congr {xss yss : List (List Int)} {m : Nat} : ∀ s, (∀ j, j < s → rw_ xss j = rw_ yss j) → ∀ i, posN xss m s i = posN yss m s i := by
  intro s
  induction s with
  | zero => intro _ i; rfl
  | succ s ih => intro h i; rw [posN_succ, posN_succ, h s (by omega), ih (fun j hj => h j (by omega))]
theorem bckN_congr {xss yss : List (List Int)} {m k : Nat} : ∀ t, (∀ j, k ≤ j → j < k + t → rw_ xss j = rw_ yss j) → ∀ i, bckN xss m k t i = bckN yss m k t i := by
  intro t
  induction t with
  | zero => intro _ i; rfl
  | succ t ih => intro h i; rw [bckN_succ, bckN_succ, h (k + t) (by omega) (by omega), ih (fun j h1 h2 => h j h1 (by omega))]
/-- Another switch makes another shuffle. -/
theorem bent_ne {xss yss : List (List Int)} {n m L k p : Nat} (hS : StO n m L) (hk : k < L) (hp : p < n / 2) (hsame : ∀ j, j ≠ k → rw_ xss j = rw_ yss j)
    (hdif : (el (rw_ xss k) p = 1 ∧ el (rw_ yss k) p ≠ 1) ∨ (el (rw_ xss k) p ≠ 1 ∧ el (rw_ yss k) p = 1)) : ∃ i, i < n ∧ posN xss m L i ≠ posN yss m L i := by
  have hF := hS k hk
  have hc := hF.cov p hp
  rw [List.any_eq_true] at hc
  obtain ⟨j, hj, hq⟩ := hc
  have hj := List.mem_range.1 hj
  simp only [decide_eq_true_eq] at hq
  have hr : rp (farN m k) j = j := by unfold rp; rw [if_pos hq.1]
  have hne : stg (farN m k) (rw_ xss k) j ≠ stg (farN m k) (rw_ yss k) j := by
    unfold stg
    rw [hr, hq.2]
    rcases hdif with ⟨h1, h2⟩ | ⟨h1, h2⟩
    · rw [if_pos h1, if_neg h2]; exact hF.pt_ne hj
    · rw [if_neg h1, if_pos h2]; exact (hF.pt_ne hj).symm
  obtain ⟨t, rfl⟩ : ∃ t, L = (k + 1) + t := ⟨L - (k + 1), by omega⟩
  obtain ⟨i, hi, e⟩ := bckN_onto (xss := xss) hS (k + 1) t (by omega) j hj
  refine ⟨i, hi, fun q => ?_⟩
  rw [posN_split xss m (k + 1) t, posN_split yss m (k + 1) t, ← bckN_congr (xss := xss) (yss := yss) t (fun j h1 h2 => hsame j (by omega)), e] at q
  have q : posN xss m k (stg (farN m k) (rw_ xss k) j) = posN yss m k (stg (farN m k) (rw_ yss k) j) := q
  rw [← posN_congr (xss := xss) (yss := yss) k (fun j hj => hsame j (by omega))] at q
  exact hne (posN_inj hS k (by omega) _ _ (hF.stg_lt _ hj) (hF.stg_lt _ hj) q)
end Go.Proofs.Ytolcmehndambmaa
