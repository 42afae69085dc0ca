import Derived.Test.YtjcpjmijhloimaaBst
set_option linter.unusedVariables false
set_option linter.unusedSimpArgs false
namespace Go.Proofs.Ytjcpjmijhloimaa
open Go.RowKit

/-! ### Heights, task by task -/
theorem ndN_self {out ns : List Int} {i : Nat} (h : ∀ j, j < ns.length → 0 ≤ el ns j ∧ el ns j < i) {J : Nat} (hJ : J ≤ ns.length) : el (ndN out i ns J) i = el out i := by
  induction J with
  | zero => rfl
  | succ J ih =>
    simp only [ndN]
    have hb := h J (by omega)
    rw [el_set_other (by omega), ih (by omega)]
theorem ndN_el {out ns : List Int} {i k : Nat} (h : ∀ j, j < ns.length → 0 ≤ el ns j ∧ el ns j < i) (hi : i ≤ out.length) (hk : k ≠ i) {J : Nat} (hJ : J ≤ ns.length) :
    el (ndN out i ns J) k = if (k : Int) ∈ ns.take J then max (el out k) (el out i) else el out k := by
  induction J with
  | zero => simp [ndN]
  | succ J ih =>
    simp only [ndN]
    have hb := h J (by omega)
    rw [ndN_self h (by omega), el_take (by omega)]
    by_cases e : el ns J = (k : Int)
    · have e2 : (el ns J).toNat = k := by omega
      rw [if_pos (show (k : Int) ∈ ns.take J ++ [el ns J] by rw [e]; simp), e2, el_set_same (by rw [ndN_length]; omega), ih (by omega)]
      split <;> omega
    · rw [el_set_other (by omega), ih (by omega)]
      by_cases hm : (k : Int) ∈ ns.take J
      · rw [if_pos hm, if_pos (List.mem_append_left _ hm)]
      · rw [if_neg hm, if_neg]
        intro h1
        rcases List.mem_append.1 h1 with h1 | h1
        · exact hm h1
        · exact e (List.mem_singleton.1 h1).symm
theorem ht_set_other {ts : List TaskV} {d k : Nat} (hk : k ≠ ts.length - (d + 1)) (x : Int) : el ((htN ts d).set (ts.length - (d + 1)) x) k = el (htN ts d) k := el_set_other (Ne.symm hk) x
theorem ht_at {ts : List TaskV} (hO : TOk ts) {i : Nat} (hi : i < ts.length) : el (htN ts (ts.length - i)) i = el (htN ts (ts.length - (i + 1))) i + (tel ts i).lat := by
  rw [htN_step hi, ndN_self (hO.need i hi) (Nat.le_refl _), el_set_same (by rw [htN_length]; omega)]
theorem ht_other {ts : List TaskV} (hO : TOk ts) {i k : Nat} (hi : i < ts.length) (hk : k ≠ i) :
    el (htN ts (ts.length - i)) k = if (k : Int) ∈ (tel ts i).needs then max (el (htN ts (ts.length - (i + 1))) k) (el (htN ts (ts.length - i)) i) else el (htN ts (ts.length - (i + 1))) k := by
  rw [ht_at hO hi, htN_step hi, ndN_el (hO.need i hi) (by simp [htN_length]; omega) hk (Nat.le_refl _), List.take_length, el_set_other (Ne.symm hk), el_set_same (by rw [htN_length]; omega)]
theorem ht_keep {ts : List TaskV} (hO : TOk ts) {i k : Nat} (hk : i ≤ k) (hkn : k < ts.length) : el (htN ts (ts.length - i)) k = el (htN ts (ts.length - k)) k := by
  have key : ∀ m, m ≤ k - i → el (htN ts (ts.length - (k - m))) k = el (htN ts (ts.length - k)) k := by
    intro m
    induction m with
    | zero => intro _; rfl
    | succ m ih =>
      intro hm
      rw [ht_other hO (i := k - (m + 1)) (by omega) (by omega), if_neg, show k - (m + 1) + 1 = k - m by omega, ih (by omega)]
      intro h
      have := need_in hO (i := k - (m + 1)) (by omega) h
      omega
  have := key (k - i) (Nat.le_refl _)
  rwa [show k - (k - i) = i by omega] at this
theorem hts_at {ts : List TaskV} (hO : TOk ts) {i : Nat} (hi : i < ts.length) : el (hts ts) i = el (htN ts (ts.length - (i + 1))) i + (tel ts i).lat := by
  rw [← ht_at hO hi, ← ht_keep hO (Nat.zero_le i) hi]; rfl
theorem hts_ge {ts : List TaskV} (hO : TOk ts) {i : Nat} (hi : i < ts.length) : (tel ts i).lat ≤ el (hts ts) i := by
  rw [hts_at hO hi]; have := bnd_htN hO (ts.length - (i + 1)) (by omega) i; omega
/-- What is behind a task, over the tasks from the k-th one on. -/
theorem ht_behind {ts : List TaskV} (hO : TOk ts) {i k : Nat} (hi : i < k) (hk : k < ts.length) :
    el (htN ts (ts.length - k)) i = if (i : Int) ∈ (tel ts k).needs then max (el (htN ts (ts.length - (k + 1))) i) (el (hts ts) k) else el (htN ts (ts.length - (k + 1))) i := by
  rw [ht_other hO hk (by omega)]
  have : el (hts ts) k = el (htN ts (ts.length - k)) k := by rw [← ht_keep hO (Nat.zero_le k) hk]; rfl
  rw [this]
/-! ### The bounds -/
theorem mxN_le {xs : List Int} {L : Int} (h0 : 0 ≤ L) {n : Nat} (h : ∀ i, i < n → el xs i ≤ L) : mxN xs n ≤ L := by
  induction n with
  | zero => exact h0
  | succ n ih => simp only [mxN]; have := ih fun i hi => h i (by omega); have := h n (by omega); omega
theorem part_path {ts : List TaskV} {L : Int} {q : List Int} (hq : Part ts L q) (hl : q.length = ts.length) (h0 : 0 ≤ L) : mxN (hts ts) ts.length ≤ L :=
  mxN_le h0 fun i hi => by have := hq.ge i (by omega); have := hq.le i (by omega); omega
theorem pigeon (M : Nat) : ∀ ys : List Int, ys.Nodup → (∀ y ∈ ys, 0 ≤ y ∧ y < M) → ys.length ≤ M := by
  induction M with
  | zero => intro ys _ h; cases ys with
            | nil => simp
            | cons y ys => have := h y (by simp); omega
  | succ M ih =>
    intro ys hn h
    by_cases hm : (M : Int) ∈ ys
    · have h1 := ih (ys.erase (M : Int)) (hn.erase _) fun y hy => by
        have hy1 := List.mem_of_mem_erase hy
        have hne : y ≠ (M : Int) := (hn.mem_erase_iff.1 hy).1
        have := h y hy1; omega
      have h2 := List.length_erase_of_mem hm
      have h3 : 0 < ys.length := List.length_pos_of_mem hm
      omega
    · have := ih ys hn fun y hy => by
        have h1 := h y hy
        have hne : y ≠ (M : Int) := fun e => hm (e ▸ hy)
        omega
      omega
/-- The times of the first k tasks that are of a port. -/
def onP (ts : List TaskV) (q : List Int) (p : Int) : Nat → List Int
  | 0 => []
  | k + 1 => if (tel ts k).port = p then el q k :: onP ts q p k else onP ts q p k
theorem onP_len (ts : List TaskV) (q : List Int) (p : Int) (k : Nat) : ((onP ts q p k).length : Int) = pcnt ts p k := by
  induction k with
  | zero => rfl
  | succ k ih =>
    simp only [onP]
    by_cases e : (tel ts k).port = p
    · rw [if_pos e, pcnt_in e, List.length_cons, ← ih]; omega
    · rw [if_neg e, pcnt_out e, ← ih]
theorem onP_mem {ts : List TaskV} {q : List Int} {p : Int} {k : Nat} {y : Int} (h : y ∈ onP ts q p k) : ∃ i, i < k ∧ (tel ts i).port = p ∧ el q i = y := by
  induction k with
  | zero => cases h
  | succ k ih =>
    simp only [onP] at h
    by_cases e : (tel ts k).port = p
    · rw [if_pos e] at h
      rcases List.mem_cons.1 h with rfl | h
      · exact ⟨k, by omega, e, rfl⟩
      · obtain ⟨i, a, b, c⟩ := ih h; exact ⟨i, by omega, b, c⟩
    · rw [if_neg e] at h
      obtain ⟨i, a, b, c⟩ := ih h; exact ⟨i, by omega, b, c⟩
theorem portN_apart {ts : List TaskV} {q : List Int} {i n k : Nat} (h : portN ts q i n = true) (hk : k < n) : ¬ ((tel ts k).port = (tel ts i).port ∧ el q k = el q i) := by
  induction n with
  | zero => omega
  | succ n ih =>
    simp only [portN, Bool.and_eq_true, Bool.not_eq_true', Bool.and_eq_false_iff] at h
    by_cases e : k = n
    · subst e; rintro ⟨h1, h2⟩; rcases h.2 with h3 | h3
      · rw [h1] at h3; simp at h3
      · rw [h2] at h3; simp at h3
    · exact ih h.1 (by omega)
theorem onP_nodup {ts : List TaskV} {q : List Int} {p : Int} {k : Nat} (h : ∀ i, i < k → portN ts q i i = true) : (onP ts q p k).Nodup := by
  induction k with
  | zero => exact List.nodup_nil
  | succ k ih =>
    simp only [onP]
    have h1 := ih fun i hi => h i (by omega)
    by_cases e : (tel ts k).port = p
    · rw [if_pos e]
      refine List.nodup_cons.2 ⟨fun hm => ?_, h1⟩
      obtain ⟨i, a, b, c⟩ := onP_mem hm
      exact portN_apart (h k (by omega)) a ⟨b.trans e.symm, c⟩
    · rw [if_neg e]; exact h1
theorem plst_le {ts : List TaskV} {p : Int} {n i : Nat} (hi : i < n) (hp : (tel ts i).port = p) : plst ts p n ≤ (tel ts i).lat := by
  induction n with
  | zero => omega
  | succ n ih =>
    by_cases e : i = n
    · subst e; rw [plst_in hp]; omega
    · have := ih (by omega)
      by_cases e2 : (tel ts n).port = p
      · rw [plst_in e2]; omega
      · rw [plst_out e2]; omega
theorem part_port {ts : List TaskV} (hO : TOk ts) {L : Int} {q : List Int} (hq : Part ts L q) (hl : q.length = ts.length) (h0 : 0 ≤ L) : pbN ts 3 ≤ L := by
  have one : ∀ p : Nat, 0 < pcnt ts p ts.length → pcnt ts p ts.length + plst ts p ts.length - 1 ≤ L := fun p hc => by
    have hnd := onP_nodup (ts := ts) (q := q) (p := p) (k := ts.length) fun i hi => by
      have := hq.fit i (by omega); unfold fitB at this; rw [Bool.and_eq_true] at this; exact this.1
    have hlen := onP_len ts q p ts.length
    have hall : ∀ y ∈ onP ts q p ts.length, 0 ≤ y ∧ y + plst ts p ts.length ≤ L := fun y hy => by
      obtain ⟨i, hi, hp, rfl⟩ := onP_mem hy
      have h1 := hq.ge i (by omega)
      have h2 := hq.le i (by omega)
      have h3 := hts_ge hO hi
      have h4 := plst_le hi hp
      omega
    have hpos : 0 < (onP ts q p ts.length).length := by omega
    obtain ⟨y, hy⟩ := List.exists_mem_of_length_pos hpos
    have hy1 := hall y hy
    have := pigeon (L - plst ts p ts.length + 1).toNat _ hnd fun y hy => by have := hall y hy; omega
    omega
  have key : ∀ n, n ≤ 3 → pbN ts n ≤ L := by
    intro n
    induction n with
    | zero => intro _; simpa [pbN] using h0
    | succ n ih =>
      intro hn
      have h1 := ih (by omega)
      simp only [pbN]
      split
      · rename_i hc; have := one n hc; omega
      · exact h1
  exact key 3 (Nat.le_refl _)
/-- The least length, and the schedule. -/
def bstL (ts : List TaskV) : Int := lenF ts 90 (mxN (hts ts) ts.length)
def bstS (ts : List TaskV) : List Int := (plD ts (bstL ts) ts.length []).getD []
structure Best (ts : List TaskV) : Prop where
  ans : plD ts (bstL ts) ts.length [] = some (bstS ts)
  no : ∀ M, mxN (hts ts) ts.length ≤ M → M < bstL ts → plD ts M ts.length [] = none
  path : mxN (hts ts) ts.length ≤ bstL ts
  port : pbN ts 3 ≤ bstL ts
  low : 0 ≤ mxN (hts ts) ts.length
  high : bstL ts ≤ 200
  part : Part ts (bstL ts) (bstS ts)
  len : (bstS ts).length = ts.length
theorem Best.of {ts : List TaskV} (hO : TOk ts) : Best ts := by
  have hm := mxN_bnd (bnd_hts hO) (by omega) ts.length
  have hs := plD_whole hO (seq_part hO) (by simp [seqN])
  obtain ⟨a, b, c, d⟩ := lenF_spec (ts := ts) (f := 90) (L := mxN (hts ts) ts.length) ⟨(90 - mxN (hts ts) ts.length).toNat, by omega, by rw [← hs]; congr 2; omega⟩
  have hsome : plD ts (bstL ts) ts.length [] = some (bstS ts) := by
    unfold bstS bstL
    obtain ⟨q, hq⟩ := Option.isSome_iff_exists.1 a
    rw [hq]; rfl
  have hL : 0 ≤ bstL ts := by unfold bstL; omega
  obtain ⟨p1, p2, _⟩ := plD_sound hO (Part.nil ts _) (by simp) hsome
  exact ⟨hsome, d, b, part_port hO p1 p2 hL, hm.1, by unfold bstL; omega, p1, p2⟩
def m_BestSchedule (ts : List TaskV) : List Int × Int × Bool := if tasksB ts then (bstS ts, bstL ts, true) else ([], 0, false)
theorem m_BestSchedule_len (ts : List TaskV) : (m_BestSchedule ts).1.length ≤ 1048576 := by
  unfold m_BestSchedule; split
  · rename_i h
    have hO := TOk.of h
    have := hO.few
    have h1 := (Best.of hO).len
    simp only; omega
  · simp
end Go.Proofs.Ytjcpjmijhloimaa
