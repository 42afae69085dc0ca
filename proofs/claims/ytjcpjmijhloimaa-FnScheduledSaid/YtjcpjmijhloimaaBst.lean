import Derived.Test.YtjcpjmijhloimaaLp
import Derived.Test.YtjcpjmijhloimaaPort
import Derived.Test.YtjcpjmijhloimaaHts
set_option linter.unusedVariables false
set_option linter.unusedSimpArgs false
namespace Go.Proofs.Ytjcpjmijhloimaa
open Go.RowKit

/-! ### The best schedule: the plain functions -/
def fitP (ts : List TaskV) (p : List Int) (t : Int) : Bool := fitB ts (p ++ [t]) p.length
/-- The first of m numbers from t on for which f answers. -/
def plT (f : Int → Option (List Int)) : Nat → Int → Option (List Int)
  | 0, _ => none
  | m + 1, t => orO (f t) (plT f m (t + 1))
def plD (ts : List TaskV) (L : Int) : Nat → List Int → Option (List Int)
  | 0, p => some p
  | d + 1, p => plT (fun t => if fitP ts p t then plD ts L d (p ++ [t]) else none) (L - el (hts ts) p.length + 1).toNat 0
theorem plT_step (f : Int → Option (List Int)) {T t : Nat} (h : t < T) : plT f (T - t) t = orO (f t) (plT f (T - (t + 1)) ((t : Int) + 1)) := by
  rw [show T - t = T - (t + 1) + 1 from by omega]; rfl
theorem plT_none {f : Int → Option (List Int)} {m : Nat} {t : Int} (h : ∀ k : Nat, k < m → f (t + k) = none) : plT f m t = none := by
  induction m generalizing t with
  | zero => rfl
  | succ m ih =>
    simp only [plT]
    have h0 := h 0 (by omega)
    simp at h0
    rw [h0]
    exact ih fun k hk => by have := h (k + 1) (by omega); rw [← this]; congr 1; omega
theorem plT_skip {f : Int → Option (List Int)} (T a : Nat) (h : ∀ t : Nat, t < a → f t = none) : plT f T 0 = plT f (T - a) a := by
  have key : ∀ b, b ≤ a → plT f T 0 = plT f (T - b) b := by
    intro b
    induction b with
    | zero => intro _; rfl
    | succ b ih =>
      intro hb
      rw [ih (by omega)]
      by_cases hT : b < T
      · rw [plT_step f hT, h b (by omega)]; rfl
      · rw [show T - b = 0 by omega, show T - (b + 1) = 0 by omega]; rfl
  exact key a (Nat.le_refl _)
theorem plT_mem {f : Int → Option (List Int)} {m : Nat} {t : Int} {q : List Int} (h : plT f m t = some q) : ∃ k : Nat, k < m ∧ f (t + k) = some q := by
  induction m generalizing t with
  | zero => cases h
  | succ m ih =>
    simp only [plT] at h
    cases hf : f t with
    | some o => rw [hf] at h; simp only [orO] at h; exact ⟨0, by omega, by simpa [hf] using h⟩
    | none =>
      rw [hf] at h; simp only [orO] at h
      obtain ⟨k, hk, e⟩ := ih h
      exact ⟨k + 1, by omega, by rw [← e]; congr 1; omega⟩
theorem plT_some {f : Int → Option (List Int)} {m k : Nat} {t : Int} (hk : k < m) (h : (f (t + k)).isSome = true) : (plT f m t).isSome = true := by
  induction m generalizing t k with
  | zero => omega
  | succ m ih =>
    simp only [plT]
    cases hf : f t with
    | some o => rfl
    | none =>
      cases k with
      | zero => simp [hf] at h
      | succ k => simp only [orO]; exact ih (k := k) (by omega) (by rw [← h]; congr 2; omega)
theorem portN_congr {ts : List TaskV} {xs ys : List Int} {i : Nat} (h : ∀ k, k ≤ i → el xs k = el ys k) (n : Nat) (hn : n ≤ i) : portN ts xs i n = portN ts ys i n := by
  induction n with
  | zero => rfl
  | succ n ih => simp only [portN]; rw [ih (by omega), h n (by omega), h i (Nat.le_refl _)]
theorem fitB_congr {ts : List TaskV} (hO : TOk ts) {xs ys : List Int} {i : Nat} (hi : i < ts.length) (h : ∀ k, k ≤ i → el xs k = el ys k) : fitB ts xs i = fitB ts ys i := by
  unfold fitB
  rw [portN_congr h i (Nat.le_refl _)]
  congr 1
  unfold lateN
  have key : ∀ x ∈ (tel ts i).needs, lateB ts xs i x = lateB ts ys i x := fun x hx => by
    have hb := need_in hO hi hx
    unfold lateB; rw [h _ (by omega), h i (Nat.le_refl _)]
  rw [Bool.eq_iff_iff, List.all_eq_true, List.all_eq_true]
  exact ⟨fun h1 x hx => by rw [← key x hx]; exact h1 x hx, fun h1 x hx => by rw [key x hx]; exact h1 x hx⟩
theorem el_app {p q : List Int} {k : Nat} (h : k < p.length) : el (p ++ q) k = el p k := by
  unfold el; rw [List.getD_eq_getElem?_getD, List.getD_eq_getElem?_getD, List.getElem?_append_left h]
theorem el_last (p : List Int) (t : Int) : el (p ++ [t]) p.length = t := by
  unfold el; rw [List.getD_eq_getElem?_getD]; simp
theorem el_tk {xs : List Int} {k n : Nat} (h : k < n) : el (xs.take n) k = el xs k := by
  unfold el; rw [List.getD_eq_getElem?_getD, List.getD_eq_getElem?_getD, List.getElem?_take_of_lt h]
/-- A schedule so far: what is there fits, and ends in time. -/
structure Part (ts : List TaskV) (L : Int) (p : List Int) : Prop where
  len : p.length ≤ ts.length
  fit : ∀ i, i < p.length → fitB ts p i = true
  ge : ∀ i, i < p.length → 0 ≤ el p i
  le : ∀ i, i < p.length → el p i + el (hts ts) i ≤ L
theorem Part.nil (ts : List TaskV) (L : Int) : Part ts L [] := ⟨by simp, fun i hi => absurd hi (Nat.not_lt_zero _), fun i hi => absurd hi (Nat.not_lt_zero _), fun i hi => absurd hi (Nat.not_lt_zero _)⟩
theorem Part.snoc {ts : List TaskV} (hO : TOk ts) {L : Int} {p : List Int} {t : Int} (h : Part ts L p) (hl : p.length < ts.length) (hf : fitP ts p t = true) (h0 : 0 ≤ t) (h1 : t + el (hts ts) p.length ≤ L) : Part ts L (p ++ [t]) := by
  refine ⟨by simp; omega, fun i hi => ?_, fun i hi => ?_, fun i hi => ?_⟩
  all_goals rw [List.length_append, List.length_singleton] at hi
  · by_cases e : i = p.length
    · subst e; exact hf
    · rw [fitB_congr hO (ys := p) (by omega) (fun k hk => el_app (by omega))]; exact h.fit i (by omega)
  · by_cases e : i = p.length
    · subst e; rw [el_last]; exact h0
    · rw [el_app (by omega)]; exact h.ge i (by omega)
  · by_cases e : i = p.length
    · subst e; rw [el_last]; exact h1
    · rw [el_app (by omega)]; exact h.le i (by omega)
theorem plD_sound {ts : List TaskV} (hO : TOk ts) {L : Int} {d : Nat} {p q : List Int} (hp : Part ts L p) (hd : p.length + d = ts.length) (h : plD ts L d p = some q) : Part ts L q ∧ q.length = ts.length ∧ q.take p.length = p := by
  induction d generalizing p with
  | zero => simp only [plD, Option.some.injEq] at h; subst h; exact ⟨hp, by omega, List.take_length⟩
  | succ d ih =>
    simp only [plD] at h
    obtain ⟨k, hk, e⟩ := plT_mem h
    rw [Int.zero_add] at e
    by_cases hf : fitP ts p (k : Int) = true
    · rw [if_pos hf] at e
      obtain ⟨a, b, c⟩ := ih (hp.snoc hO (by omega) hf (by omega) (by omega)) (by simp; omega) e
      refine ⟨a, b, ?_⟩
      rw [List.length_append, List.length_singleton] at c
      have := congrArg (List.take p.length) c
      rw [List.take_take, Nat.min_eq_left (by omega), List.take_left'] at this
      · exact this
      · rfl
    · rw [if_neg hf] at e; cases e
theorem plD_full {ts : List TaskV} (hO : TOk ts) {L : Int} {xs : List Int} (hx : Part ts L xs) (hl : xs.length = ts.length) : ∀ d, d ≤ ts.length → (plD ts L d (xs.take (ts.length - d))).isSome = true := by
  intro d
  induction d with
  | zero => intro _; rfl
  | succ d ih =>
    intro hd
    have hpl : (xs.take (ts.length - (d + 1))).length = ts.length - (d + 1) := by rw [List.length_take]; omega
    simp only [plD]
    rw [hpl]
    have h0 := hx.ge (ts.length - (d + 1)) (by omega)
    have h1 := hx.le (ts.length - (d + 1)) (by omega)
    obtain ⟨k, hk⟩ := Int.eq_ofNat_of_zero_le h0
    have hs : xs.take (ts.length - (d + 1)) ++ [(k : Int)] = xs.take (ts.length - d) := by
      rw [show ts.length - d = ts.length - (d + 1) + 1 by omega, el_take (by omega), hk]
    have hfit : fitP ts (xs.take (ts.length - (d + 1))) (k : Int) = true := by
      unfold fitP
      rw [hs, hpl, fitB_congr hO (ys := xs) (by omega) (fun j hj => el_tk (by omega))]
      exact hx.fit _ (by omega)
    refine plT_some (k := k) (by omega) ?_
    rw [Int.zero_add, if_pos hfit, hs]
    exact ih (by omega)
theorem plD_whole {ts : List TaskV} (hO : TOk ts) {L : Int} {xs : List Int} (hx : Part ts L xs) (hl : xs.length = ts.length) : (plD ts L ts.length []).isSome = true := by
  have := plD_full hO hx hl ts.length (Nat.le_refl _)
  simpa using this
/-! A schedule for one task after another -/
def seqN (n : Nat) : List Int := (List.range n).map fun k : Nat => 6 * (k : Int)
theorem seq_el {n k : Nat} (h : k < n) : el (seqN n) k = 6 * k := el_range (fun k : Nat => 6 * (k : Int)) h
theorem seq_part {ts : List TaskV} (hO : TOk ts) : Part ts 90 (seqN ts.length) := by
  have hl : (seqN ts.length).length = ts.length := by simp [seqN]
  have hfew := hO.few
  refine ⟨by omega, fun i hi => ?_, fun i hi => ?_, fun i hi => ?_⟩
  all_goals rw [hl] at hi
  · unfold fitB
    rw [Bool.and_eq_true]
    constructor
    · have : ∀ n, n ≤ i → portN ts (seqN ts.length) i n = true := fun n => by
        induction n with
        | zero => intro _; rfl
        | succ n ih =>
          intro hn
          simp only [portN]
          rw [ih (by omega), seq_el (by omega), seq_el hi]
          have : ((6 * (n : Int)) == 6 * (i : Int)) = false := by simp; omega
          rw [this]; simp
      exact this i (Nat.le_refl _)
    · unfold lateN
      rw [List.all_eq_true]
      intro x hx
      have hb := need_in hO hi hx
      unfold lateB
      rw [seq_el (by omega), seq_el hi, decide_eq_true_eq]
      have := hO.lat x.toNat (by omega)
      omega
  · rw [seq_el hi]; omega
  · rw [seq_el hi]; have := bnd_hts hO i; omega
/-- The least length from a on with which there is a schedule. -/
def lenF (ts : List TaskV) : Nat → Int → Int
  | 0, L => L
  | f + 1, L => if (plD ts L ts.length []).isSome then L else lenF ts f (L + 1)
theorem lenF_spec {ts : List TaskV} {f : Nat} {L : Int} (h : ∃ k : Nat, k ≤ f ∧ (plD ts (L + k) ts.length []).isSome = true) :
    (plD ts (lenF ts f L) ts.length []).isSome = true ∧ L ≤ lenF ts f L ∧ lenF ts f L ≤ L + f ∧ ∀ M, L ≤ M → M < lenF ts f L → plD ts M ts.length [] = none := by
  induction f generalizing L with
  | zero =>
    obtain ⟨k, hk, h⟩ := h
    obtain rfl : k = 0 := by omega
    simp only [Int.natCast_zero, Int.add_zero] at h
    exact ⟨h, by simp [lenF], by simp [lenF], fun M h1 h2 => by simp [lenF] at h2; omega⟩
  | succ f ih =>
    simp only [lenF]
    by_cases e : (plD ts L ts.length []).isSome = true
    · rw [if_pos e]; exact ⟨e, by omega, by omega, fun M h1 h2 => by omega⟩
    · rw [if_neg e]
      obtain ⟨k, hk, h⟩ := h
      have hk0 : k ≠ 0 := fun h0 => by subst h0; simp at h; exact e (by simpa using h)
      obtain ⟨a, b, c, d⟩ := ih (L := L + 1) ⟨k - 1, by omega, by rw [← h]; congr 2; omega⟩
      refine ⟨a, by omega, by omega, fun M h1 h2 => ?_⟩
      by_cases eM : M = L
      · subst eM; simpa using e
      · exact d M (by omega) h2
end Go.Proofs.Ytjcpjmijhloimaa
