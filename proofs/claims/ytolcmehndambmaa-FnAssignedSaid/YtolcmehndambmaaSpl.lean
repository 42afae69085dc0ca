import Derived.Test.YtolcmehndambmaaWidth2
set_option linter.unusedVariables false
set_option linter.unusedSimpArgs false
namespace Go.Proofs.Ytolcmehndambmaa
open Go.RowKit

/-! ### Sets of ranges: the plain functions -/
def bitN (g i : Nat) : Bool := g / 2 ^ i % 2 == 1
/-- The set of the bits below i; the ranges that are kept of the first k. -/
def memN (g : Nat) : Nat → List Int
  | 0 => []
  | i + 1 => memN g i ++ (if bitN g i then [(i : Int)] else [])
def kepN (xs : List PI) (g : Nat) : Nat → List PI
  | 0 => []
  | k + 1 => kepN xs g k ++ (if bitN g k then [] else [pel xs k])
def cntG (xs : List PI) (g : Nat) (x : Int) : Nat → Int
  | 0 => 0
  | k + 1 => cntG xs g x k + (if (!bitN g k && cont (pel xs k) x) then 1 else 0)
def widG (xs : List PI) (g : Nat) : Nat → Int
  | 0 => 0
  | k + 1 => max (widG xs g k) (cntG xs g (pel xs k).1 xs.length)
theorem cntG_range (xs : List PI) (g : Nat) (x : Int) : ∀ k : Nat, 0 ≤ cntG xs g x k ∧ cntG xs g x k ≤ k
  | 0 => ⟨Int.le_refl _, Int.le_refl _⟩
  | k + 1 => by have := cntG_range xs g x k; simp only [cntG]; split <;> omega
theorem widG_range (xs : List PI) (g : Nat) : ∀ k : Nat, 0 ≤ widG xs g k ∧ widG xs g k ≤ xs.length
  | 0 => ⟨Int.le_refl _, by simp [widG]⟩
  | k + 1 => by have := widG_range xs g k; have := cntG_range xs g (pel xs k).1 xs.length; simp only [widG]; omega
theorem kepN_length (xs : List PI) (g k : Nat) : (kepN xs g k).length ≤ k := by
  induction k with
  | zero => simp [kepN]
  | succ k ih => simp only [kepN, List.length_append]; split <;> simp <;> omega
theorem memN_length (g k : Nat) : (memN g k).length ≤ k := by
  induction k with
  | zero => simp [memN]
  | succ k ih => simp only [memN, List.length_append]; split <;> simp <;> omega
theorem kepN_mem {xs : List PI} {g n : Nat} {q : PI} : q ∈ kepN xs g n ↔ ∃ k, k < n ∧ bitN g k = false ∧ pel xs k = q := by
  induction n with
  | zero => simp [kepN]
  | succ n ih =>
    simp only [kepN, List.mem_append, ih]
    constructor
    · rintro (⟨k, h, h1⟩ | h)
      · exact ⟨k, by omega, h1⟩
      · cases hb : bitN g n with
        | true => rw [hb] at h; simp at h
        | false => rw [hb] at h; simp at h; exact ⟨n, by omega, hb, h.symm⟩
    · rintro ⟨k, h, h1, h2⟩
      rcases Nat.lt_or_ge k n with hl | hg
      · exact .inl ⟨k, hl, h1, h2⟩
      · obtain rfl : k = n := by omega
        right; rw [h1]; simp [h2]
theorem cntN_count (xs : List PI) (x : Int) {k : Nat} (hk : k ≤ xs.length) : cntN xs x k = ((xs.take k).countP (fun q => cont q x) : Nat) := by
  induction k with
  | zero => simp [cntN]
  | succ k ih =>
    simp only [cntN]
    rw [ih (by omega), pel_take (by omega), List.countP_append]
    by_cases h : cont (pel xs k) x = true
    · simp [h]
    · simp [h]
theorem cntN_all (xs : List PI) (x : Int) : cntN xs x xs.length = (xs.countP (fun q => cont q x) : Nat) := by
  rw [cntN_count xs x (Nat.le_refl _), List.take_length]
theorem cntG_count (xs : List PI) (g : Nat) (x : Int) (k : Nat) : cntG xs g x k = ((kepN xs g k).countP (fun q => cont q x) : Nat) := by
  induction k with
  | zero => simp [cntG, kepN]
  | succ k ih =>
    simp only [cntG, kepN]
    rw [ih, List.countP_append]
    cases hb : bitN g k with
    | true => simp
    | false =>
      by_cases h : cont (pel xs k) x = true
      · simp [h]
      · simp [h]
theorem widN_le {ys : List PI} {B : Int} {k : Nat} (hk : k ≤ ys.length) : widN ys k ≤ B ↔ 0 ≤ B ∧ ∀ j, j < k → cntN ys (pel ys j).1 ys.length ≤ B := by
  induction k with
  | zero => simp [widN]
  | succ k ih =>
    simp only [widN]
    rw [show (max (widN ys k) (cntN ys (pel ys k).1 ys.length) ≤ B) = (widN ys k ≤ B ∧ cntN ys (pel ys k).1 ys.length ≤ B) by apply propext; omega, ih (by omega)]
    constructor
    · rintro ⟨⟨h0, h1⟩, h2⟩
      refine ⟨h0, fun j hj => ?_⟩
      rcases Nat.lt_or_ge j k with hl | hg
      · exact h1 j hl
      · obtain rfl : j = k := by omega
        exact h2
    · rintro ⟨h0, h1⟩
      exact ⟨⟨h0, fun j hj => h1 j (by omega)⟩, h1 k (by omega)⟩
theorem widG_le {xs : List PI} {g : Nat} {B : Int} {k : Nat} : widG xs g k ≤ B ↔ 0 ≤ B ∧ ∀ j, j < k → cntG xs g (pel xs j).1 xs.length ≤ B := by
  induction k with
  | zero => simp [widG]
  | succ k ih =>
    simp only [widG]
    rw [show (max (widG xs g k) (cntG xs g (pel xs k).1 xs.length) ≤ B) = (widG xs g k ≤ B ∧ cntG xs g (pel xs k).1 xs.length ≤ B) by apply propext; omega, ih]
    constructor
    · rintro ⟨⟨h0, h1⟩, h2⟩
      refine ⟨h0, fun j hj => ?_⟩
      rcases Nat.lt_or_ge j k with hl | hg
      · exact h1 j hl
      · obtain rfl : j = k := by omega
        exact h2
    · rintro ⟨h0, h1⟩
      exact ⟨⟨h0, fun j hj => h1 j (by omega)⟩, h1 k (by omega)⟩
theorem max_fst (l : List PI) (h : l ≠ []) : ∃ q, q ∈ l ∧ ∀ p, p ∈ l → p.1 ≤ q.1 := by
  induction l with
  | nil => exact absurd rfl h
  | cons a t ih =>
    by_cases ht : t = []
    · subst ht; exact ⟨a, by simp, fun p hp => by simp at hp; rw [hp]; exact Int.le_refl _⟩
    · obtain ⟨q, hq, hm⟩ := ih ht
      by_cases e : a.1 ≤ q.1
      · exact ⟨q, List.mem_cons_of_mem _ hq, fun p hp => by rcases List.mem_cons.1 hp with rfl | hp; exact e; exact hm p hp⟩
      · exact ⟨a, List.mem_cons_self, fun p hp => by rcases List.mem_cons.1 hp with rfl | hp; exact Int.le_refl _; have := hm p hp; omega⟩
/-- The width is reached where some kept range begins. -/
theorem wid_eq (xs : List PI) (g : Nat) : widG xs g xs.length = widN (kepN xs g xs.length) (kepN xs g xs.length).length := by
  have key : ∀ B, widG xs g xs.length ≤ B ↔ widN (kepN xs g xs.length) (kepN xs g xs.length).length ≤ B := fun B => by
    rw [widG_le, widN_le (Nat.le_refl _)]
    constructor
    · rintro ⟨h0, h⟩
      refine ⟨h0, fun j hj => ?_⟩
      obtain ⟨k, hk, hb, he⟩ := kepN_mem.1 (pel_mem hj)
      have := h k hk
      rw [cntG_count, he] at this
      rw [cntN_all]; exact this
    · rintro ⟨h0, h⟩
      refine ⟨h0, fun j hj => ?_⟩
      rw [cntG_count]
      generalize (pel xs j).1 = x
      by_cases hz : (kepN xs g xs.length).filter (fun q => cont q x) = []
      · have : (kepN xs g xs.length).countP (fun q => cont q x) = 0 := by rw [List.countP_eq_length_filter, hz]; rfl
        rw [this]; exact h0
      · obtain ⟨q, hq, hm⟩ := max_fst _ hz
        rw [List.mem_filter] at hq
        obtain ⟨i, hi, hie⟩ := List.getElem_of_mem hq.1
        have hpi : pel (kepN xs g xs.length) i = q := by have := pel_get hi; rw [List.getElem?_eq_getElem hi, hie] at this; exact (Option.some.inj this).symm
        have := h i hi
        rw [hpi, cntN_all] at this
        refine Int.le_trans (Int.ofNat_le.2 (List.countP_mono_left fun p hp hc => ?_)) this
        have h1 := hm p (List.mem_filter.2 ⟨hp, hc⟩)
        have h2 := hq.2
        unfold cont at h2 hc ⊢
        simp only [Bool.and_eq_true, decide_eq_true_eq] at h2 hc ⊢
        omega
  have h1 := (key _).1 (Int.le_refl _)
  have h2 := (key _).2 (Int.le_refl _)
  omega
/-! Fewer, or xa many and ahead in order. -/
def lexB : List Int → List Int → Bool
  | a :: xa, b :: xb => if a = b then lexB xa xb else decide (a < b)
  | _, _ => false
def cmpL : List Int → List Int → Int
  | a :: xa, b :: xb => if a = b then cmpL xa xb else if a < b then -1 else 1
  | _, _ => 0
theorem cmp_lex : ∀ (xa xb : List Int), 0 ≤ cmpL xa xb ↔ lexB xa xb = false
  | [], _ => by simp [cmpL, lexB]
  | _ :: _, [] => by simp [cmpL, lexB]
  | a :: xa, b :: xb => by
    simp only [cmpL, lexB]
    by_cases e : a = b
    · rw [if_pos e, if_pos e]; exact cmp_lex xa xb
    · rw [if_neg e, if_neg e]
      by_cases h : a < b
      · simp [h]
      · simp [h]
theorem cmpL_range : ∀ (xa xb : List Int), -1 ≤ cmpL xa xb ∧ cmpL xa xb ≤ 1
  | [], _ => by simp [cmpL]
  | _ :: _, [] => by simp [cmpL]
  | a :: xa, b :: xb => by
    simp only [cmpL]
    by_cases e : a = b
    · rw [if_pos e]; exact cmpL_range xa xb
    · rw [if_neg e]; split <;> omega
def lessB (a b : List Int) : Bool := if a.length = b.length then lexB a b else decide (a.length < b.length)
/-! Sets of all bits. -/
theorem memN_stop {g i j : Nat} (h : g / 2 ^ i = 0) (hij : i ≤ j) : memN g j = memN g i := by
  induction j with
  | zero => obtain rfl : i = 0 := by omega
            rfl
  | succ j ih =>
    by_cases e : i = j + 1
    · rw [e]
    · have hb : bitN g j = false := by
        have hlt : g < 2 ^ i := by have := Nat.two_pow_pos i; rcases Nat.lt_or_ge g (2 ^ i) with h1 | h1; exact h1; have := Nat.div_pos h1 this; omega
        have h2 : g < 2 ^ j := Nat.lt_of_lt_of_le hlt (Nat.pow_le_pow_right (by omega) (by omega))
        unfold bitN; rw [Nat.div_eq_of_lt h2]; rfl
      simp only [memN, hb]; rw [ih (by omega)]; simp
theorem memN_full {g i : Nat} (h : (memN g i).length = i) : g % 2 ^ i = 2 ^ i - 1 := by
  induction i with
  | zero => simp [Nat.mod_one]
  | succ i ih =>
    have hl := memN_length g i
    simp only [memN, List.length_append] at h
    cases hb : bitN g i with
    | false => rw [hb] at h; simp at h; omega
    | true =>
      rw [hb] at h
      simp at h
      have h1 := ih h
      have h2 : g / 2 ^ i % 2 = 1 := by unfold bitN at hb; simpa using hb
      have h3 := Nat.two_pow_pos i
      rw [Nat.pow_succ, Nat.mod_mul, h1, h2]
      omega
theorem memN_ones {n i : Nat} (h : i ≤ n) : (memN (2 ^ n - 1) i).length = i := by
  induction i with
  | zero => rfl
  | succ i ih =>
    have hb : bitN (2 ^ n - 1) i = true := by
      unfold bitN
      obtain ⟨d, rfl⟩ : ∃ d, n = i + 1 + d := ⟨n - (i + 1), by omega⟩
      have h0 := Nat.two_pow_pos i
      have h1 := Nat.two_pow_pos d
      have e : 2 ^ (i + 1 + d) - 1 = 2 ^ i * (2 * 2 ^ d - 1) + (2 ^ i - 1) := by
        rw [Nat.pow_add, Nat.pow_succ, Nat.mul_sub, Nat.mul_one, Nat.mul_assoc]
        have : 2 ^ i ≤ 2 ^ i * (2 * 2 ^ d) := Nat.le_mul_of_pos_right _ (by omega)
        omega
      rw [e, Nat.mul_add_div h0, Nat.div_eq_of_lt (by omega)]
      simp; omega
    simp only [memN, hb, List.length_append, ih (by omega)]; rfl
theorem memN_12 {g n : Nat} (hn : n ≤ 12) (hg : g < 2 ^ n) : memN g 12 = memN g n := memN_stop (Nat.div_eq_of_lt hg) hn
/-- What both do with a set. -/
def bsI (xs : List PI) (r : Int) : Nat → List Int × Bool
  | 0 => ([], false)
  | g + 1 => if (bsI xs r g).2 && !lessB (memN g 12) (bsI xs r g).1 then bsI xs r g else if widN (kepN xs g xs.length) (kepN xs g xs.length).length ≤ r then (memN g 12, true) else bsI xs r g
def bsS (xs : List PI) (r : Int) : Nat → List Int
  | 0 => memN (2 ^ xs.length - 1) 12
  | g + 1 => if lessB (memN g 12) (bsS xs r g) && decide (widG xs g xs.length ≤ r) then memN g 12 else bsS xs r g
theorem bsI_short {xs : List PI} {r : Int} (hn : xs.length ≤ 12) {k : Nat} (hk : k ≤ 2 ^ xs.length - 1) : (bsI xs r k).1.length < xs.length ∨ (bsI xs r k).2 = false := by
  induction k with
  | zero => exact .inr rfl
  | succ k ih =>
    simp only [bsI]
    split
    · exact ih (by omega)
    · split
      · left
        show (memN k 12).length < _
        have hk2 : k < 2 ^ xs.length := by omega
        rw [memN_12 hn hk2]
        have h1 := memN_length k xs.length
        rcases Nat.lt_or_ge (memN k xs.length).length xs.length with h | h
        · exact h
        · have := memN_full (g := k) (i := xs.length) (by omega)
          rw [Nat.mod_eq_of_lt hk2] at this; omega
      · exact ih (by omega)
theorem bs_step {b : List Int × Bool} {s F K : List Int} {W r : Int} (ih : s = if b.2 then b.1 else F) (hl0 : lessB K F = true) :
    (if lessB K s && decide (W ≤ r) then K else s) = if (if b.2 && !lessB K b.1 then b else if W ≤ r then (K, true) else b).2 then (if b.2 && !lessB K b.1 then b else if W ≤ r then (K, true) else b).1 else F := by
  obtain ⟨x, f⟩ := b
  cases f with
  | true =>
    have ih' : s = x := ih
    subst ih'
    rcases Bool.eq_false_or_eq_true (lessB K s) with hl | hl
    · by_cases hw : W ≤ r
      · simp [hl, hw]
      · simp [hl, hw]
    · simp [hl]
  | false =>
    have ih' : s = F := ih
    subst ih'
    by_cases hw : W ≤ r
    · simp [hw, hl0]
    · simp [hw]
theorem bs_eq {xs : List PI} {r : Int} (hn : xs.length ≤ 12) {k : Nat} (hk : k ≤ 2 ^ xs.length - 1) : bsS xs r k = if (bsI xs r k).2 then (bsI xs r k).1 else memN (2 ^ xs.length - 1) 12 := by
  induction k with
  | zero => rfl
  | succ k ih =>
    have ih := ih (by omega)
    have hk2 : k < 2 ^ xs.length := by omega
    have hfull : (memN (2 ^ xs.length - 1) 12).length = xs.length := by rw [memN_12 hn (by have := Nat.two_pow_pos xs.length; omega)]; exact memN_ones (Nat.le_refl _)
    have hown : (memN k 12).length < xs.length := by
      rw [memN_12 hn hk2]
      have h1 := memN_length k xs.length
      rcases Nat.lt_or_ge (memN k xs.length).length xs.length with h | h
      · exact h
      · have := memN_full (g := k) (i := xs.length) (by omega)
        rw [Nat.mod_eq_of_lt hk2] at this; omega
    have hl0 : lessB (memN k 12) (memN (2 ^ xs.length - 1) 12) = true := by unfold lessB; rw [if_neg (by omega)]; simp; omega
    simp only [bsI, bsS]
    rw [wid_eq]
    exact bs_step ih hl0
theorem lex_same : ∀ (xa : List Int), lexB xa xa = false
  | [] => rfl
  | a :: xa => by simp only [lexB, if_true]; exact lex_same xa
theorem less_same (xa : List Int) : lessB xa xa = false := by unfold lessB; rw [if_pos rfl]; exact lex_same xa
theorem kep_none {xs : List PI} {n k : Nat} (h : k ≤ n) : kepN xs (2 ^ n - 1) k = [] := by
  induction k with
  | zero => rfl
  | succ k ih =>
    have h1 := memN_ones (n := n) (i := k + 1) (by omega)
    have h2 := memN_ones (n := n) (i := k) (by omega)
    have hb : bitN (2 ^ n - 1) k = true := by
      cases hb : bitN (2 ^ n - 1) k with
      | true => rfl
      | false => simp only [memN, hb, List.length_append] at h1; simp at h1; omega
    simp only [kepN, hb]; rw [ih (by omega)]; simp
theorem bs_end {xs : List PI} {r : Int} (hn : xs.length ≤ 12) (hr : 0 ≤ r) : bsS xs r (2 ^ xs.length) = (bsI xs r (2 ^ xs.length)).1 := by
  have hp := Nat.two_pow_pos xs.length
  obtain ⟨m, hm⟩ : ∃ m, m = 2 ^ xs.length - 1 := ⟨_, rfl⟩
  rw [show 2 ^ xs.length = m + 1 by omega]
  have he := bs_eq (r := r) hn (k := m) (by omega)
  have hs := bsI_short (r := r) hn (k := m) (by omega)
  have hfull : (memN m 12).length = xs.length := by rw [hm, memN_12 hn (by omega)]; exact memN_ones (Nat.le_refl _)
  have hk : kepN xs m xs.length = [] := by rw [hm]; exact kep_none (Nat.le_refl _)
  rw [← hm] at he
  simp only [bsI, bsS]
  rw [wid_eq, hk]
  have hw : widN ([] : List PI) ([] : List PI).length ≤ r := hr
  rcases Bool.eq_false_or_eq_true (bsI xs r m).2 with hf | hf
  · rw [hf, if_pos rfl] at he
    have hl : lessB (memN m 12) (bsI xs r m).1 = false := by
      rcases hs with hs | hs
      · unfold lessB; rw [if_neg (by omega)]; simp; omega
      · rw [hs] at hf; cases hf
    rw [he]; simp [hl, hf]
  · rw [hf, if_neg (by simp)] at he
    rw [he, less_same, hf]
    have hw0 : widN ([] : List PI) 0 ≤ r := hw
    simp [hw0]
def m_FewestSpills (xs : List PI) (r : Int) : List Int × Bool := if rngsB xs && inB r 0 12 then ((bsI xs r (2 ^ xs.length)).1, true) else ([], false)
theorem bsI_length (xs : List PI) (r : Int) (k : Nat) : (bsI xs r k).1.length ≤ 12 := by
  induction k with
  | zero => simp [bsI]
  | succ k ih =>
    simp only [bsI]
    split
    · exact ih
    · split
      · exact memN_length k 12
      · exact ih
theorem m_FewestSpills_len (xs : List PI) (r : Int) : (m_FewestSpills xs r).1.length ≤ 1048576 := by
  unfold m_FewestSpills; split
  · have := bsI_length xs r (2 ^ xs.length); show (bsI xs r (2 ^ xs.length)).1.length ≤ _; omega
  · simp
theorem bits_and_i64 (a b : Nat) (ha : a < 9223372036854775808) (hb : b < 9223372036854775808) : bits .and .i64 (a : Int) (b : Int) = ((a &&& b : Nat) : Int) := by
  have hx : a &&& b < 2 ^ 63 := Nat.and_lt_two_pow _ (by omega)
  have h1 : (BitVec.ofInt 64 (a : Int)).toNat = a := by
    rw [BitVec.ofInt_natCast, BitVec.toNat_ofNat]; exact Nat.mod_eq_of_lt (by omega)
  have h2 : (BitVec.ofInt 64 (b : Int)).toNat = b := by
    rw [BitVec.ofInt_natCast, BitVec.toNat_ofNat]; exact Nat.mod_eq_of_lt (by omega)
  show IntKind.i64.wrap ((BitVec.ofInt 64 (a : Int) &&& BitVec.ofInt 64 (b : Int)).toNat : Int) = _
  rw [BitVec.toNat_and, h1, h2, IntKind.wrap_i64]
  omega
theorem bits_one (a : Nat) (ha : a < 9223372036854775808) : bits .and .i64 (a : Int) 1 = ((a % 2 : Nat) : Int) := by
  have := bits_and_i64 a 1 ha (by omega)
  rw [Nat.and_one_is_mod] at this
  exact this
theorem shr_nat (g i : Nat) : (g : Int) / 2 ^ i = ((g / 2 ^ i : Nat) : Int) := by push_cast; rfl
end Go.Proofs.Ytolcmehndambmaa
