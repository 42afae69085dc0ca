import Derived.Test.YtmpdaafkphpnoaaBfs6
import Derived.Test.YtmpdaafkphpnoaaBfs8
set_option linter.unusedVariables false
set_option linter.unusedSimpArgs false
namespace Go.Proofs.Ytmpdaafkphpnoaa
open Go.RowKit

/-! ### The search with one queue: plain lists -/
theorem exR_mono (al : List (List Int)) (a : Nat) (O : List PQ) (j d : Nat) : ∃ N, exR al a (j + d) O = exR al a j O ++ N := by
  induction d with
  | zero => exact ⟨[], by simp⟩
  | succ d ih =>
    obtain ⟨N, e⟩ := ih
    obtain ⟨M, e2, _⟩ := exK_pre al (qel (exR al a (j + d) O) (a + (j + d))) al.length (exR al a (j + d) O)
    refine ⟨N ++ M, ?_⟩
    show exK al (qel (exR al a (j + d) O) (a + (j + d))) al.length (exR al a (j + d) O) = _
    rw [e2, e, List.append_assoc]
theorem lvO_mono (al : List (List Int)) (n l d : Nat) : ∃ N, lvO al n (l + d) = lvO al n l ++ N := by
  induction d with
  | zero => exact ⟨[], by simp⟩
  | succ d ih =>
    obtain ⟨N, e⟩ := ih
    obtain ⟨M, e2, _⟩ := exR_pre al (lvA al n (l + d)) ((lvO al n (l + d)).length - lvA al n (l + d)) (lvO al n (l + d))
    refine ⟨N ++ M, ?_⟩
    show lvO al n (l + d + 1) = _
    rw [lvO_succ, e2, e, List.append_assoc]
theorem lvO_stuck {al : List (List Int)} {n l : Nat} (h : (lvO al n l).length = lvA al n l) (d : Nat) : lvO al n (l + d) = lvO al n l ∧ (lvO al n (l + d)).length = lvA al n (l + d) := by
  induction d with
  | zero => exact ⟨rfl, h⟩
  | succ d ih =>
    have e : lvO al n (l + d + 1) = lvO al n (l + d) := by
      rw [lvO_succ, show (lvO al n (l + d)).length - lvA al n (l + d) = 0 by omega]; rfl
    refine ⟨e.trans ih.1, ?_⟩
    show (lvO al n (l + d + 1)).length = (lvO al n (l + d)).length
    rw [e]
def tq (al : List (List Int)) (n most : Nat) : Nat → List PQ
  | 0 => [([], idl n)]
  | f + 1 => if (qel (tq al n most f) f).1.length = most then tq al n most f else exK al (qel (tq al n most f) f) al.length (tq al n most f)
def TI (al : List (List Int)) (n most f : Nat) : Prop := ∃ l j, l ≤ most ∧ j ≤ (lvO al n l).length - lvA al n l ∧ f = lvA al n l + j ∧ (l < most → tq al n most f = exR al (lvA al n l) j (lvO al n l)) ∧ (l = most → tq al n most f = lvO al n most)
theorem TI.zero (al : List (List Int)) (n most : Nat) : TI al n most 0 := ⟨0, 0, Nat.zero_le _, Nat.zero_le _, rfl, fun _ => rfl, fun h => by subst h; rfl⟩
theorem TI.step {al : List (List Int)} {n most l j : Nat} (hl : l ≤ most) (hj : j < (lvO al n l).length - lvA al n l) (h1 : l < most → tq al n most (lvA al n l + j) = exR al (lvA al n l) j (lvO al n l)) (h2 : l = most → tq al n most (lvA al n l + j) = lvO al n most) : TI al n most (lvA al n l + j + 1) := by
  have hst := (lv_steps al n l (lvA al n l + j) (by omega)).2 (by omega)
  refine ⟨l, j + 1, hl, by omega, by omega, fun hlt => ?_, fun he => ?_⟩
  · have e := h1 hlt
    have hq : qel (exR al (lvA al n l) j (lvO al n l)) (lvA al n l + j) = qel (lvO al n l) (lvA al n l + j) := exR_app _ _ _ _ (by omega)
    show (if (qel (tq al n most (lvA al n l + j)) (lvA al n l + j)).1.length = most then _ else _) = exK al (qel (exR al (lvA al n l) j (lvO al n l)) (lvA al n l + j)) al.length (exR al (lvA al n l) j (lvO al n l))
    rw [e, hq, hst, if_neg (by omega)]
  · have e := h2 he
    show (if (qel (tq al n most (lvA al n l + j)) (lvA al n l + j)).1.length = most then _ else _) = lvO al n most
    rw [e]
    subst he
    rw [hst, if_pos rfl]
theorem TI.next {al : List (List Int)} {n most f : Nat} (h : TI al n most f) (hf : f < (tq al n most f).length) : TI al n most (f + 1) := by
  obtain ⟨l, j, hl, hj, rfl, h1, h2⟩ := h
  by_cases q : j < (lvO al n l).length - lvA al n l
  · exact TI.step hl q h1 h2
  · have hle := lvA_le al n l
    obtain rfl : j = (lvO al n l).length - lvA al n l := by omega
    by_cases r : l = most
    · rw [h2 r] at hf
      subst r; omega
    · have e := h1 (by omega)
      rw [← lvO_succ] at e
      have ea : lvA al n l + ((lvO al n l).length - lvA al n l) = lvA al n (l + 1) + 0 := by show _ = (lvO al n l).length + 0; omega
      rw [e] at hf
      rw [ea] at hf e ⊢
      refine TI.step (l := l + 1) (j := 0) (by omega) (by omega) (fun _ => e) (fun hm => ?_)
      rw [e, hm]
theorem TI.pre {al : List (List Int)} {n most f : Nat} (h : TI al n most f) : f ≤ (tq al n most f).length ∧ ∃ N, lvO al n most = tq al n most f ++ N := by
  obtain ⟨l, j, hl, hj, rfl, h1, h2⟩ := h
  have hle := lvA_le al n l
  by_cases r : l = most
  · rw [h2 r]
    subst r
    exact ⟨by omega, [], by simp⟩
  · have e := h1 (by omega)
    obtain ⟨N, e1⟩ := exR_mono al (lvA al n l) (lvO al n l) j ((lvO al n l).length - lvA al n l - j)
    rw [show j + ((lvO al n l).length - lvA al n l - j) = (lvO al n l).length - lvA al n l by omega, ← lvO_succ] at e1
    obtain ⟨M, e2⟩ := lvO_mono al n (l + 1) (most - (l + 1))
    rw [show l + 1 + (most - (l + 1)) = most by omega] at e2
    obtain ⟨K, e3, _⟩ := exR_pre al (lvA al n l) j (lvO al n l)
    refine ⟨?_, N ++ M, by rw [e2, e1, e, List.append_assoc]⟩
    rw [e, e3, List.length_append]; omega
theorem TI.last {al : List (List Int)} {n most f : Nat} (h : TI al n most f) (hf : ¬ f < (tq al n most f).length) : tq al n most f = lvO al n most := by
  obtain ⟨l, j, hl, hj, rfl, h1, h2⟩ := h
  have hle := lvA_le al n l
  by_cases r : l = most
  · exact h2 r
  · have e := h1 (by omega)
    obtain ⟨K, e3, _⟩ := exR_pre al (lvA al n l) j (lvO al n l)
    by_cases q : j < (lvO al n l).length - lvA al n l
    · rw [e, e3, List.length_append] at hf; omega
    · obtain rfl : j = (lvO al n l).length - lvA al n l := by omega
      rw [← lvO_succ] at e
      have ea : lvA al n l + ((lvO al n l).length - lvA al n l) = lvA al n (l + 1) := by show _ = (lvO al n l).length; omega
      have hle2 := lvA_le al n (l + 1)
      rw [e, ea] at hf
      have := (lvO_stuck (al := al) (n := n) (l := l + 1) (by omega) (most - (l + 1))).1
      rw [show l + 1 + (most - (l + 1)) = most by omega] at this
      rw [e, this]
theorem tq_len {al : List (List Int)} {n most f : Nat} (h : TI al n most f) (h4 : al.length ≤ 4) (hm : most ≤ 5) : (tq al n most f).length ≤ 1365 := by
  obtain ⟨_, N, e⟩ := h.pre
  have := lv_len (n := n) h4 most hm
  rw [e, List.length_append] at this; omega
theorem tq_AllN {al : List (List Int)} {n most f : Nat} (h : TI al n most f) (hal : ∀ k, k < al.length → (rw_ al k).length = n) : AllN n (tq al n most f) := by
  obtain ⟨_, N, e⟩ := h.pre
  have := AllN.lv hal most
  rw [e] at this
  exact fun p hp => this p (List.mem_append_left _ hp)
theorem idxN_at {p : Nat → Bool} {N f : Nat} (hf : f < N) (hp : p f = true) (hn : ∀ i, i < f → p i = false) : idxN p N N = f := by
  have : ∀ k, k ≤ f → idxN p N (N - k) = f := by
    intro k hk
    generalize hd : f - k = d
    induction d generalizing k with
    | zero =>
      obtain rfl : k = f := by omega
      rw [idxN_step hf, hp]; rfl
    | succ d ih =>
      rw [idxN_step (by omega), hn k (by omega)]
      exact ih (k + 1) (by omega) (by omega)
  simpa using this 0 (Nat.zero_le _)
theorem idxN_none {p : Nat → Bool} {N : Nat} (hn : ∀ i, i < N → p i = false) : idxN p N N = -1 := by
  have : ∀ d k, N - k = d → k ≤ N → idxN p N (N - k) = -1 := by
    intro d
    induction d with
    | zero => intro k hk _; rw [hk]; rfl
    | succ d ih =>
      intro k hk hle
      rw [idxN_step (by omega), hn k (by omega)]
      exact ih (k + 1) (by omega) (by omega)
  simpa using this N 0 (by omega) (Nat.zero_le _)
/-! ### A key -/
def keyF (k x : Int) : Int := (wrap64 (wrap64 (k * 16) + x)).tmod 4294967311
def keyI (xs : List Int) : Int := xs.foldl keyF 0
theorem keyI_snoc (xs : List Int) {k : Nat} (h : k < xs.length) : keyI (xs.take (k + 1)) = keyF (keyI (xs.take k)) (el xs k) := by
  unfold keyI
  rw [el_take h, List.foldl_append]; rfl

end Go.Proofs.Ytmpdaafkphpnoaa
