import Derived.Test.YtjcpjmijhloimaaHts
import Derived.Test.YtjcpjmijhloimaaPerm
set_option linter.unusedVariables false
set_option linter.unusedSimpArgs false
namespace Go.Proofs.Ytjcpjmijhloimaa
open Go.RowKit

/-! ### The schedule by a list: the plain functions -/
def doneB (ts : List TaskV) (xs : List Int) (now x : Int) : Bool := decide (0 ≤ el xs x.toNat) && decide (el xs x.toNat + (tel ts x.toNat).lat ≤ now)
def doneN (ts : List TaskV) (xs : List Int) (i : Nat) (now : Int) : Bool := (tel ts i).needs.all (doneB ts xs now)
def rdyB (ts : List TaskV) (xs : List Int) (i : Nat) (now : Int) : Bool := decide (el xs i < 0) && doneN ts xs i now
def betB (ts : List TaskV) (b : Int) (i : Nat) : Bool := decide (b < 0) || decide (el (hts ts) b.toNat < el (hts ts) i)
/-- The task of a port that is chosen among the first ones, or -1. -/
def bstN (ts : List TaskV) (xs : List Int) (now p : Int) : Nat → Int
  | 0 => -1
  | i + 1 => if (tel ts i).port = p ∧ rdyB ts xs i now = true ∧ betB ts (bstN ts xs now p i) i = true then (i : Int) else bstN ts xs now p i
def prtN (ts : List TaskV) (now : Int) (xs : List Int) (p : Int) : List Int :=
  if 0 ≤ bstN ts xs now p ts.length then xs.set (bstN ts xs now p ts.length).toNat now else xs
def tmN (ts : List TaskV) (now : Int) (xs : List Int) : Nat → List Int
  | 0 => xs
  | p + 1 => prtN ts now (tmN ts now xs p) p
def lstN (ts : List TaskV) : Nat → List Int
  | 0 => List.replicate ts.length (-1)
  | t + 1 => tmN ts t (lstN ts t) 3
/-- How many have no time. -/
def un (xs : List Int) : Nat := xs.count (-1)
def lstF (ts : List TaskV) : Nat → Nat → Nat
  | 0, t => t
  | f + 1, t => if un (lstN ts t) = 0 then t else lstF ts f (t + 1)
def lstT (ts : List TaskV) : Nat := lstF ts 48 0
def lstS (ts : List TaskV) : List Int := lstN ts (lstT ts)
theorem prtN_length (ts : List TaskV) (now : Int) (xs : List Int) (p : Int) : (prtN ts now xs p).length = xs.length := by unfold prtN; split <;> simp
theorem tmN_length (ts : List TaskV) (now : Int) (xs : List Int) (p : Nat) : (tmN ts now xs p).length = xs.length := by
  induction p with | zero => rfl | succ p ih => simp only [tmN]; rw [prtN_length, ih]
theorem lstN_length (ts : List TaskV) (t : Nat) : (lstN ts t).length = ts.length := by
  induction t with | zero => simp [lstN] | succ t ih => simp only [lstN]; rw [tmN_length, ih]
theorem bst_range (ts : List TaskV) (xs : List Int) (now p : Int) (k : Nat) : bstN ts xs now p k = -1 ∨ ∃ i : Nat, i < k ∧ bstN ts xs now p k = i ∧ (tel ts i).port = p ∧ rdyB ts xs i now = true := by
  induction k with
  | zero => exact .inl rfl
  | succ k ih =>
    simp only [bstN]
    split
    · rename_i h; exact .inr ⟨k, by omega, rfl, h.1, h.2.1⟩
    · rcases ih with h | ⟨i, hi, h1, h2, h3⟩
      · exact .inl h
      · exact .inr ⟨i, by omega, h1, h2, h3⟩
theorem bst_pos {ts : List TaskV} {xs : List Int} {now p : Int} {k i : Nat} (hi : i < k) (hp : (tel ts i).port = p) (hr : rdyB ts xs i now = true) : 0 ≤ bstN ts xs now p k := by
  induction k with
  | zero => omega
  | succ k ih =>
    simp only [bstN]
    by_cases e : i = k
    · subst e
      by_cases hb : betB ts (bstN ts xs now p i) i = true
      · rw [if_pos ⟨hp, hr, hb⟩]; omega
      · rw [if_neg (fun h => hb h.2.2)]
        simp only [betB, Bool.or_eq_true, decide_eq_true_eq, not_or] at hb
        omega
    · have := ih (by omega)
      split <;> omega
/-- What stands there: no time yet, or one before b. -/
def Upto (xs : List Int) (b : Int) : Prop := ∀ k, k < xs.length → el xs k = -1 ∨ (0 ≤ el xs k ∧ el xs k < b)
theorem upto_wide {xs : List Int} {b b' : Int} (h : Upto xs b) (hb : b ≤ b') : Upto xs b' := fun k hk => by have := h k hk; omega
theorem prt_cases {ts : List TaskV} {xs : List Int} (hl : xs.length = ts.length) (now p : Int) :
    prtN ts now xs p = xs ∧ bstN ts xs now p ts.length = -1 ∨ ∃ i, i < ts.length ∧ bstN ts xs now p ts.length = (i : Nat) ∧ prtN ts now xs p = xs.set i now ∧ el xs i < 0 ∧ doneN ts xs i now = true ∧ (tel ts i).port = p := by
  rcases bst_range ts xs now p ts.length with h | ⟨i, hi, h1, h2, h3⟩
  · left; unfold prtN; rw [if_neg (by omega)]; exact ⟨rfl, h⟩
  · right
    simp only [rdyB, Bool.and_eq_true, decide_eq_true_eq] at h3
    refine ⟨i, hi, h1, ?_, h3.1, h3.2, h2⟩
    unfold prtN; rw [if_pos (by omega), h1]; rfl
theorem prt_upto {ts : List TaskV} {xs : List Int} (hl : xs.length = ts.length) {now : Int} (h0 : 0 ≤ now) (p : Int) (h : Upto xs (now + 1)) : Upto (prtN ts now xs p) (now + 1) := by
  rcases prt_cases hl now p with ⟨e, _⟩ | ⟨i, hi, _, e, _, _, _⟩
  · rw [e]; exact h
  · rw [e]; intro k hk
    by_cases hik : i = k
    · subst hik; rw [el_set_same (by omega)]; omega
    · rw [el_set_other hik]; exact h k (by simpa using hk)
theorem tm_upto {ts : List TaskV} {xs : List Int} (hl : xs.length = ts.length) {now : Int} (h0 : 0 ≤ now) (h : Upto xs (now + 1)) (p : Nat) : Upto (tmN ts now xs p) (now + 1) := by
  induction p with
  | zero => exact h
  | succ p ih => simp only [tmN]; exact prt_upto (by rw [tmN_length, hl]) h0 p ih
theorem lst_upto (ts : List TaskV) (t : Nat) : Upto (lstN ts t) t := by
  induction t with
  | zero =>
    intro k hk
    left
    unfold el; simp only [lstN] at hk ⊢
    rw [List.getD_eq_getElem?_getD, List.getElem?_replicate, if_pos (by simpa using hk)]; rfl
  | succ t ih =>
    simp only [lstN]
    exact tm_upto (lstN_length ts t) (by omega) (upto_wide ih (by omega)) 3
theorem un_set {xs : List Int} {i : Nat} (hi : i < xs.length) {now : Int} (h0 : 0 ≤ now) (h : el xs i = -1) : un (xs.set i now) + 1 = un xs := by
  unfold un
  have hg := el_get hi
  rw [List.getElem?_eq_getElem hi] at hg
  have he : xs[i] = -1 := by have := Option.some.inj hg; omega
  have hc : 0 < xs.count (-1) := List.count_pos_iff.2 (by rw [← he]; exact List.getElem_mem hi)
  rw [List.count_set hi, he, if_pos (by simp), if_neg (by simp; omega)]
  omega
theorem prt_un {ts : List TaskV} {xs : List Int} (hl : xs.length = ts.length) {now : Int} (h0 : 0 ≤ now) {b : Int} (h : Upto xs b) (p : Int) :
    prtN ts now xs p = xs ∧ bstN ts xs now p ts.length = -1 ∨ ∃ i, i < ts.length ∧ bstN ts xs now p ts.length = (i : Nat) ∧ prtN ts now xs p = xs.set i now ∧ un (prtN ts now xs p) + 1 = un xs := by
  rcases prt_cases hl now p with ⟨e, e'⟩ | ⟨i, hi, e', e, hn, _, _⟩
  · exact .inl ⟨e, e'⟩
  · exact .inr ⟨i, hi, e', e, by rw [e]; exact un_set (by omega) h0 (by have := h i (by omega); omega)⟩
theorem tm_un {ts : List TaskV} {xs : List Int} (hl : xs.length = ts.length) {now : Int} (h0 : 0 ≤ now) (h : Upto xs (now + 1)) (p : Nat) : tmN ts now xs p = xs ∨ un (tmN ts now xs p) < un xs := by
  induction p with
  | zero => exact .inl rfl
  | succ p ih =>
    simp only [tmN]
    have hlp : (tmN ts now xs p).length = ts.length := by rw [tmN_length, hl]
    rcases prt_un hlp h0 (tm_upto hl h0 h p) (p : Int) with ⟨e, _⟩ | ⟨i, _, _, _, e⟩
    · rw [e]; exact ih
    · rcases ih with e2 | e2
      · rw [e2] at e ⊢; right; omega
      · right; omega
theorem lst_un (ts : List TaskV) (t j : Nat) : lstN ts (t + j) = lstN ts t ∨ un (lstN ts (t + j)) < un (lstN ts t) := by
  induction j with
  | zero => exact .inl rfl
  | succ j ih =>
    have hq := tm_un (lstN_length ts (t + j)) (now := ((t + j : Nat) : Int)) (by omega) (upto_wide (lst_upto ts (t + j)) (by omega)) 3
    rw [← Nat.add_assoc]; simp only [lstN]
    rcases hq with e | e
    · rw [e]; exact ih
    · rcases ih with e2 | e2
      · rw [e2] at e ⊢; exact .inr e
      · exact .inr (by omega)
theorem least_un {xs : List Int} (h : un xs ≠ 0) : ∃ i, i < xs.length ∧ el xs i = -1 ∧ ∀ k, k < i → el xs k ≠ -1 := by
  have hm : (-1 : Int) ∈ xs := List.count_pos_iff.1 (by unfold un at h; omega)
  rcases fst_cases xs (-1) with ⟨_, h2⟩ | ⟨k, hk, _, h2, h3⟩
  · exact absurd hm h2
  · exact ⟨k, hk, h2, h3⟩
/-- Within six steps another task is given its time. -/
theorem lst_drop {ts : List TaskV} (hO : TOk ts) (t : Nat) (h : un (lstN ts t) ≠ 0) : un (lstN ts (t + 6)) < un (lstN ts t) := by
  rcases lst_un ts t 6 with e | e
  · exfalso
    have hl := lstN_length ts t
    have hs : ∀ j, j ≤ 6 → lstN ts (t + j) = lstN ts t := fun j hj => by
      rcases lst_un ts t j with e2 | e2
      · exact e2
      · rcases lst_un ts (t + j) (6 - j) with e3 | e3
        · rw [show t + j + (6 - j) = t + 6 from by omega, e] at e3; exact e3.symm
        · rw [show t + j + (6 - j) = t + 6 from by omega, e] at e3; omega
    obtain ⟨i, hi, he, hlo⟩ := least_un h
    have hu := lst_upto ts t
    have hin : i < ts.length := by omega
    have hdone : doneN ts (lstN ts t) i ((t + 5 : Nat) : Int) = true := by
      unfold doneN
      rw [List.all_eq_true]
      intro x hx
      obtain ⟨j, hj, rfl⟩ := List.getElem_of_mem hx
      have hx' : (tel ts i).needs[j] = el (tel ts i).needs j := by have := el_get hj; rw [List.getElem?_eq_getElem hj] at this; exact Option.some.inj this
      have hb := hO.need i hin j hj
      rw [hx']
      generalize el (tel ts i).needs j = x at hb
      have hk : x.toNat < i := by omega
      have h1 := hlo _ hk
      have h2 := hu x.toNat (by omega)
      have h3 := hO.lat x.toNat (by omega)
      simp only [doneB, Bool.and_eq_true, decide_eq_true_eq]
      omega
    have hp := hO.port i hin
    have h5 := hs 5 (by omega)
    have h6 := hs 6 (by omega)
    have hst : tmN ts ((t + 5 : Nat) : Int) (lstN ts t) 3 = lstN ts t := by
      have : lstN ts (t + 6) = tmN ts ((t + 5 : Nat) : Int) (lstN ts (t + 5)) 3 := rfl
      rw [h5, h6] at this; exact this.symm
    have hq : ∀ p, p ≤ 3 → tmN ts ((t + 5 : Nat) : Int) (lstN ts t) p = lstN ts t := by
      have key : ∀ p, p ≤ 3 → un (tmN ts ((t + 5 : Nat) : Int) (lstN ts t) 3) ≤ un (tmN ts ((t + 5 : Nat) : Int) (lstN ts t) p) := by
        have one : ∀ p, un (tmN ts ((t + 5 : Nat) : Int) (lstN ts t) (p + 1)) ≤ un (tmN ts ((t + 5 : Nat) : Int) (lstN ts t) p) := fun p => by
          simp only [tmN]
          rcases prt_un (ts := ts) (now := ((t + 5 : Nat) : Int)) (by rw [tmN_length, hl]) (by omega) (tm_upto (now := ((t + 5 : Nat) : Int)) hl (by omega) (upto_wide hu (by omega)) p) (p : Int) with ⟨e, _⟩ | ⟨_, _, _, _, e⟩
          · rw [e]; exact Nat.le_refl _
          · omega
        intro p hp
        have h0 := one 0
        have h1 := one 1
        have h2 := one 2
        match p, hp with
        | 0, _ => exact Nat.le_trans h2 (Nat.le_trans h1 h0)
        | 1, _ => exact Nat.le_trans h2 h1
        | 2, _ => exact h2
        | 3, _ => exact Nat.le_refl _
      intro p hp
      rcases tm_un (now := ((t + 5 : Nat) : Int)) hl (by omega) (upto_wide hu (by omega)) p with e | e
      · exact e
      · have := key p hp; rw [hst] at this; omega
    have hpn : ((tel ts i).port.toNat : Int) = (tel ts i).port := by omega
    have hb : 0 ≤ bstN ts (lstN ts t) ((t + 5 : Nat) : Int) (tel ts i).port ts.length := bst_pos hin rfl (by unfold rdyB; rw [hdone, he]; decide)
    have h7 := hq ((tel ts i).port.toNat + 1) (by omega)
    simp only [tmN] at h7
    rw [hq (tel ts i).port.toNat (by omega), hpn] at h7
    rcases prt_un hl (now := ((t + 5 : Nat) : Int)) (by omega) hu (tel ts i).port with ⟨_, e⟩ | ⟨_, _, _, _, e⟩
    · omega
    · rw [h7] at e; omega
  · exact e
theorem lst_exists {ts : List TaskV} (hO : TOk ts) : un (lstN ts (6 * ts.length)) = 0 := by
  have : ∀ k, un (lstN ts (6 * k)) ≤ ts.length - k := fun k => by
    induction k with
    | zero => unfold un; have := List.count_le_length (a := (-1 : Int)) (l := lstN ts (6 * 0)); rw [lstN_length] at this; omega
    | succ k ih =>
      by_cases h : un (lstN ts (6 * k)) = 0
      · rcases lst_un ts (6 * k) 6 with e | e
        · rw [show 6 * (k + 1) = 6 * k + 6 from by omega, e]; omega
        · omega
      · have := lst_drop hO (6 * k) h
        rw [show 6 * (k + 1) = 6 * k + 6 from by omega]; omega
  have := this ts.length
  omega
theorem lstF_spec (ts : List TaskV) (f t : Nat) (h : ∃ T, t ≤ T ∧ T ≤ t + f ∧ un (lstN ts T) = 0) : un (lstN ts (lstF ts f t)) = 0 ∧ t ≤ lstF ts f t ∧ lstF ts f t ≤ t + f ∧ ∀ s, t ≤ s → s < lstF ts f t → un (lstN ts s) ≠ 0 := by
  induction f generalizing t with
  | zero => obtain ⟨T, h1, h2, h3⟩ := h; obtain rfl : T = t := by omega
            exact ⟨h3, by simp [lstF], by simp [lstF], fun s h4 h5 => by simp [lstF] at h5; omega⟩
  | succ f ih =>
    simp only [lstF]
    by_cases e : un (lstN ts t) = 0
    · rw [if_pos e]; exact ⟨e, by omega, by omega, fun s h4 h5 => by omega⟩
    · rw [if_neg e]
      obtain ⟨T, h1, h2, h3⟩ := h
      have hT : t ≠ T := fun e' => e (by rw [e']; exact h3)
      obtain ⟨a, b, c, d⟩ := ih (t + 1) ⟨T, by omega, by omega, h3⟩
      refine ⟨a, by omega, by omega, fun s h4 h5 => ?_⟩
      by_cases e2 : s = t
      · subst e2; exact e
      · exact d s (by omega) h5
theorem lstT_spec {ts : List TaskV} (hO : TOk ts) : un (lstN ts (lstT ts)) = 0 ∧ lstT ts ≤ 48 ∧ ∀ s, s < lstT ts → un (lstN ts s) ≠ 0 := by
  have hf := hO.few
  obtain ⟨a, b, c, d⟩ := lstF_spec ts 48 0 ⟨6 * ts.length, by omega, by omega, lst_exists hO⟩
  exact ⟨a, by unfold lstT; omega, fun s hs => d s (by omega) hs⟩
def m_ListSchedule (ts : List TaskV) : List Int × Bool := if tasksB ts then (lstS ts, true) else ([], false)
theorem m_ListSchedule_len (ts : List TaskV) : (m_ListSchedule ts).1.length ≤ 1048576 := by
  unfold m_ListSchedule; split
  · rename_i h; have := (TOk.of h).few; simp only [lstS]; rw [lstN_length]; omega
  · simp
end Go.Proofs.Ytjcpjmijhloimaa
