import Derived.Test.YtolcmehndambmaaTrans
import Derived.Test.YtolcmehndambmaaClone
import Derived.Test.YtolcmehndambmaaPerm
set_option linter.unusedVariables false
set_option linter.unusedSimpArgs false
namespace Go.Proofs.Ytolcmehndambmaa
open Go.RowKit

/-! ### A step of a transposition: the plain functions -/
/-- The n rows of n numbers that a function gives. -/
def rowG (n : Nat) (g : Nat → Nat → Int) (r : Nat) : List Int := (List.range n).map (g r)
theorem rowG_length (n : Nat) (g : Nat → Nat → Int) (r : Nat) : (rowG n g r).length = n := by simp [rowG]
def mat (n : Nat) (g : Nat → Nat → Int) : List (List Int) := (List.range n).map (rowG n g)
theorem mat_length (n : Nat) (g : Nat → Nat → Int) : (mat n g).length = n := by simp [mat]
theorem mat_row {n r : Nat} (g : Nat → Nat → Int) (h : r < n) : rw_ (mat n g) r = rowG n g r := by unfold rw_ mat; rw [List.getD_eq_getElem?_getD]; simp [h]
theorem mat_row_length {n r : Nat} (g : Nat → Nat → Int) (h : r < n) : (rw_ (mat n g) r).length = n := by rw [mat_row g h, rowG_length]
theorem el_map {n c : Nat} (g : Nat → Nat → Int) (r : Nat) (h : c < n) : el (rowG n g r) c = g r c := el_range (g r) h
theorem mat_el {n r c : Nat} (g : Nat → Nat → Int) (hr : r < n) (hc : c < n) : el (rw_ (mat n g) r) c = g r c := by rw [mat_row g hr, el_map _ _ hc]
theorem mat_ext {n : Nat} {f g : Nat → Nat → Int} (h : ∀ r c, r < n → c < n → f r c = g r c) : mat n f = mat n g := by
  unfold mat
  refine List.map_congr_left fun r hr => ?_
  unfold rowG
  exact List.map_congr_left fun c hc => h r c (List.mem_range.1 hr) (List.mem_range.1 hc)
def upd2 (g : Nat → Nat → Int) (r c : Nat) (x : Int) : Nat → Nat → Int := fun i k => if i = r ∧ k = c then x else g i k
theorem mat_set {n r c : Nat} (g : Nat → Nat → Int) (x : Int) (hr : r < n) (hc : c < n) : (mat n g).set r ((rw_ (mat n g) r).set c x) = mat n (upd2 g r c x) := by
  apply rw_ext
  · simp [mat_length]
  intro i hi
  rw [List.length_set, mat_length] at hi
  rw [mat_row _ hi]
  apply el_ext
  · by_cases e : i = r
    · subst e; unfold rw_; rw [List.getD_eq_getElem?_getD, List.getElem?_set_self (by rw [mat_length]; exact hr)]; have := mat_row_length g hr; unfold rw_ at this; rw [List.getD_eq_getElem?_getD] at this; simp [this, rowG_length]
    · unfold rw_; rw [List.getD_eq_getElem?_getD, List.getElem?_set_ne (Ne.symm e)]; have := mat_row_length g hi; unfold rw_ at this; rw [List.getD_eq_getElem?_getD] at this; simp [this, rowG_length]
  intro k hk
  by_cases e : i = r
  · subst e
    have h1 : rw_ ((mat n g).set i ((rw_ (mat n g) i).set c x)) i = (rw_ (mat n g) i).set c x := by unfold rw_; rw [List.getD_eq_getElem?_getD, List.getElem?_set_self (by rw [mat_length]; exact hr)]; rfl
    rw [h1] at hk ⊢
    rw [List.length_set, mat_row_length g hr] at hk
    rw [el_map _ _ hk]
    unfold upd2
    by_cases e2 : k = c
    · subst e2; rw [el_set_same (by rw [mat_row_length g hr]; exact hk), if_pos ⟨rfl, rfl⟩]
    · rw [el_set_other (Ne.symm e2), mat_el g hr hk, if_neg (by omega)]
  · have h1 : rw_ ((mat n g).set r ((rw_ (mat n g) r).set c x)) i = rw_ (mat n g) i := by unfold rw_; rw [List.getD_eq_getElem?_getD, List.getElem?_set_ne (Ne.symm e), List.getD_eq_getElem?_getD]
    rw [h1] at hk ⊢
    rw [mat_row_length g hi] at hk
    rw [el_map _ _ hk, mat_el g hi hk]
    unfold upd2
    rw [if_neg (by omega)]
theorem mat_self {xss : List (List Int)} (h : ROk xss) : mat xss.length (fun r c => el (rw_ xss r) c) = xss := by
  apply rw_ext
  · rw [mat_length]
  intro r hr
  rw [mat_length] at hr
  rw [mat_row _ hr]
  have hl := h.row r hr
  apply el_ext
  · rw [rowG_length, hl]
  intro c hc
  rw [rowG_length] at hc
  rw [el_map _ _ hc]
/-- The bit of a distance; the number with the other bit. -/
def bt (far i : Nat) : Nat := i / far % 2
def xo (far i : Nat) : Nat := if bt far i = 0 then i + far else i - far
def tsE (xss : List (List Int)) (far r c : Nat) : Int := if bt far r = bt far c then el (rw_ xss r) c else el (rw_ xss (xo far r)) (xo far c)
/-- Whether the element at r, c is turned once the pairs ahead of i, k are done. -/
def dn (far r c i k : Nat) : Bool := if bt far r = 0 then decide (r < i ∨ r = i ∧ c - far < k) else decide (r - far < i ∨ r - far = i ∧ c < k)
def stE (xss : List (List Int)) (far i k r c : Nat) : Int := if dn far r c i k then tsE xss far r c else el (rw_ xss r) c
def farB (far : Int) (n : Nat) : Bool := (far == 1 || far == 2 || far == 4 || far == 8) && decide (far < n)
def m_TransposeStep (b : Int) (xss : List (List Int)) (far : Int) : List (List Int) × Bool := if rowsB b xss && farB far xss.length then (mat xss.length (tsE xss far.toNat), true) else ([], false)
theorem m_TransposeStep_len (b : Int) (xss : List (List Int)) (far : Int) : rsz (m_TransposeStep b xss far).1 ≤ 1048576 := by
  unfold m_TransposeStep; split
  · rename_i h
    have hf := (ROk.of (Bool.and_eq_true_iff.1 h).1).few
    have := rsz_le (xss := mat xss.length (tsE xss far.toNat)) (n := 16) (m := 16) (by rw [mat_length]; omega) (fun k hk => by rw [mat_length] at hk; rw [mat_row_length _ hk]; omega)
    exact Nat.le_trans this (by decide)
  · simp [rsz, rtot]
theorem stE_start (xss : List (List Int)) (far r c : Nat) : stE xss far 0 0 r c = el (rw_ xss r) c := by
  unfold stE dn
  split <;> simp_all
theorem stE_row (xss : List (List Int)) (n far i r c : Nat) (hr : r < n) (hc : c < n) (hf : far < n) : stE xss far i n r c = stE xss far (i + 1) 0 r c := by
  have : dn far r c i n = dn far r c (i + 1) 0 := by
    unfold dn
    split
    · rw [decide_eq_decide]; omega
    · rw [decide_eq_decide]; omega
  unfold stE; rw [this]
/-- All is turned at the end. -/
theorem stE_end (xss : List (List Int)) (n far r c : Nat) (hr : r < n) : stE xss far n 0 r c = tsE xss far r c := by
  have : dn far r c n 0 = true := by
    unfold dn
    split
    · simp; omega
    · simp; omega
  unfold stE; rw [this]; rfl
theorem stE_skip1 (xss : List (List Int)) (i k r c : Nat) (hi : i < 16) (hk : k < 16) (hr : r < 16) (hc : c < 16) (h : ¬ (bt 1 i = 0 ∧ bt 1 k = 0)) : stE xss 1 i (k + 1) r c = stE xss 1 i k r c := by
  by_cases hq : bt 1 r = bt 1 c
  · unfold stE tsE; rw [if_pos hq]; split <;> split <;> rfl
  · have : dn 1 r c i (k + 1) = dn 1 r c i k := by
      unfold bt at h hq
      unfold dn bt
      split
      · rw [decide_eq_decide]; omega
      · rw [decide_eq_decide]; omega
    unfold stE; rw [this]
theorem stE_turn1 (xss : List (List Int)) (n i k : Nat) (hn : n = 2 ∨ n = 4 ∨ n = 8 ∨ n = 16) (hf : 1 < n) (hi : i < n) (hk : k < n) (h1 : bt 1 i = 0) (h2 : bt 1 k = 0) :
    mat n (upd2 (upd2 (stE xss 1 i k) i (k + 1) (el (rw_ xss (i + 1)) k)) (i + 1) k (el (rw_ xss i) (k + 1))) = mat n (stE xss 1 i (k + 1)) := by
  apply mat_ext
  intro r c hr hc
  unfold upd2
  by_cases e1 : r = i + 1 ∧ c = k
  · rw [if_pos e1]
    obtain ⟨rfl, rfl⟩ := e1
    have hb : bt 1 (i + 1) = 1 := by unfold bt at *; omega
    have hd : dn 1 (i + 1) c i (c + 1) = true := by unfold dn; rw [if_neg (by omega), decide_eq_true_iff]; right; omega
    have hx1 : xo 1 (i + 1) = i := by unfold xo; rw [if_neg (by omega)]; omega
    have hx2 : xo 1 c = c + 1 := by unfold xo; rw [if_pos h2]
    have ht : tsE xss 1 (i + 1) c = el (rw_ xss i) (c + 1) := by unfold tsE; rw [if_neg (by omega), hx1, hx2]
    unfold stE; rw [hd, if_pos rfl, ht]
  · rw [if_neg e1]
    by_cases e2 : r = i ∧ c = k + 1
    · rw [if_pos e2]
      obtain ⟨rfl, rfl⟩ := e2
      have hb : bt 1 (k + 1) = 1 := by unfold bt at *; omega
      have hd : dn 1 r (k + 1) r (k + 1) = true := by unfold dn; rw [if_pos h1, decide_eq_true_iff]; right; omega
      have hx1 : xo 1 (k + 1) = k := by unfold xo; rw [if_neg (by omega)]; omega
      have hx2 : xo 1 r = r + 1 := by unfold xo; rw [if_pos h1]
      have ht : tsE xss 1 r (k + 1) = el (rw_ xss (r + 1)) k := by unfold tsE; rw [if_neg (by omega), hx1, hx2]
      unfold stE; rw [hd, if_pos rfl, ht]
    · rw [if_neg e2]
      by_cases hq : bt 1 r = bt 1 c
      · unfold stE tsE; rw [if_pos hq]; split <;> split <;> rfl
      · have : dn 1 r c i (k + 1) = dn 1 r c i k := by
          unfold bt at h1 h2 hq
          unfold dn bt
          split
          · rw [decide_eq_decide]; omega
          · rw [decide_eq_decide]; omega
        unfold stE; rw [this]
theorem bt_in1 (n i : Nat) (hn : n = 2 ∨ n = 4 ∨ n = 8 ∨ n = 16) (hf : 1 < n) (hi : i < n) (h : bt 1 i = 0) : i + 1 < n := by unfold bt at h; omega
theorem xo_in1 (n i : Nat) (hn : n = 2 ∨ n = 4 ∨ n = 8 ∨ n = 16) (hf : 1 < n) (hi : i < n) : xo 1 i < n := by unfold xo bt; split <;> omega
theorem bits_or1 : ∀ i, i < 16 → ∀ k, k < 16 → bits .and .i64 (bits .or .i64 ((i : Nat) : Int) ((k : Nat) : Int)) 1 = if bt 1 i = 0 ∧ bt 1 k = 0 then 0 else 1 := by decide
theorem bits_and1 : ∀ i, i < 16 → bits .and .i64 ((i : Nat) : Int) 1 = if bt 1 i = 0 then 0 else 1 := by decide
theorem bits_xor1 : ∀ i, i < 16 → bits .xor .i64 ((i : Nat) : Int) 1 = ((xo 1 i : Nat) : Int) := by decide
theorem bits_pow1 : bits .and .i64 1 (1 - 1) = 0 := by decide
theorem stE_skip2 (xss : List (List Int)) (i k r c : Nat) (hi : i < 16) (hk : k < 16) (hr : r < 16) (hc : c < 16) (h : ¬ (bt 2 i = 0 ∧ bt 2 k = 0)) : stE xss 2 i (k + 1) r c = stE xss 2 i k r c := by
  by_cases hq : bt 2 r = bt 2 c
  · unfold stE tsE; rw [if_pos hq]; split <;> split <;> rfl
  · have : dn 2 r c i (k + 1) = dn 2 r c i k := by
      unfold bt at h hq
      unfold dn bt
      split
      · rw [decide_eq_decide]; omega
      · rw [decide_eq_decide]; omega
    unfold stE; rw [this]
theorem stE_turn2 (xss : List (List Int)) (n i k : Nat) (hn : n = 2 ∨ n = 4 ∨ n = 8 ∨ n = 16) (hf : 2 < n) (hi : i < n) (hk : k < n) (h1 : bt 2 i = 0) (h2 : bt 2 k = 0) :
    mat n (upd2 (upd2 (stE xss 2 i k) i (k + 2) (el (rw_ xss (i + 2)) k)) (i + 2) k (el (rw_ xss i) (k + 2))) = mat n (stE xss 2 i (k + 1)) := by
  apply mat_ext
  intro r c hr hc
  unfold upd2
  by_cases e1 : r = i + 2 ∧ c = k
  · rw [if_pos e1]
    obtain ⟨rfl, rfl⟩ := e1
    have hb : bt 2 (i + 2) = 1 := by unfold bt at *; omega
    have hd : dn 2 (i + 2) c i (c + 1) = true := by unfold dn; rw [if_neg (by omega), decide_eq_true_iff]; right; omega
    have hx1 : xo 2 (i + 2) = i := by unfold xo; rw [if_neg (by omega)]; omega
    have hx2 : xo 2 c = c + 2 := by unfold xo; rw [if_pos h2]
    have ht : tsE xss 2 (i + 2) c = el (rw_ xss i) (c + 2) := by unfold tsE; rw [if_neg (by omega), hx1, hx2]
    unfold stE; rw [hd, if_pos rfl, ht]
  · rw [if_neg e1]
    by_cases e2 : r = i ∧ c = k + 2
    · rw [if_pos e2]
      obtain ⟨rfl, rfl⟩ := e2
      have hb : bt 2 (k + 2) = 1 := by unfold bt at *; omega
      have hd : dn 2 r (k + 2) r (k + 1) = true := by unfold dn; rw [if_pos h1, decide_eq_true_iff]; right; omega
      have hx1 : xo 2 (k + 2) = k := by unfold xo; rw [if_neg (by omega)]; omega
      have hx2 : xo 2 r = r + 2 := by unfold xo; rw [if_pos h1]
      have ht : tsE xss 2 r (k + 2) = el (rw_ xss (r + 2)) k := by unfold tsE; rw [if_neg (by omega), hx1, hx2]
      unfold stE; rw [hd, if_pos rfl, ht]
    · rw [if_neg e2]
      by_cases hq : bt 2 r = bt 2 c
      · unfold stE tsE; rw [if_pos hq]; split <;> split <;> rfl
      · have : dn 2 r c i (k + 1) = dn 2 r c i k := by
          unfold bt at h1 h2 hq
          unfold dn bt
          split
          · rw [decide_eq_decide]; omega
          · rw [decide_eq_decide]; omega
        unfold stE; rw [this]
theorem bt_in2 (n i : Nat) (hn : n = 2 ∨ n = 4 ∨ n = 8 ∨ n = 16) (hf : 2 < n) (hi : i < n) (h : bt 2 i = 0) : i + 2 < n := by unfold bt at h; omega
theorem xo_in2 (n i : Nat) (hn : n = 2 ∨ n = 4 ∨ n = 8 ∨ n = 16) (hf : 2 < n) (hi : i < n) : xo 2 i < n := by unfold xo bt; split <;> omega
theorem bits_or2 : ∀ i, i < 16 → ∀ k, k < 16 → bits .and .i64 (bits .or .i64 ((i : Nat) : Int) ((k : Nat) : Int)) 2 = if bt 2 i = 0 ∧ bt 2 k = 0 then 0 else 2 := by decide
theorem bits_and2 : ∀ i, i < 16 → bits .and .i64 ((i : Nat) : Int) 2 = if bt 2 i = 0 then 0 else 2 := by decide
theorem bits_xor2 : ∀ i, i < 16 → bits .xor .i64 ((i : Nat) : Int) 2 = ((xo 2 i : Nat) : Int) := by decide
theorem bits_pow2 : bits .and .i64 2 (2 - 1) = 0 := by decide
theorem stE_skip4 (xss : List (List Int)) (i k r c : Nat) (hi : i < 16) (hk : k < 16) (hr : r < 16) (hc : c < 16) (h : ¬ (bt 4 i = 0 ∧ bt 4 k = 0)) : stE xss 4 i (k + 1) r c = stE xss 4 i k r c := by
  by_cases hq : bt 4 r = bt 4 c
  · unfold stE tsE; rw [if_pos hq]; split <;> split <;> rfl
  · have : dn 4 r c i (k + 1) = dn 4 r c i k := by
      unfold bt at h hq
      unfold dn bt
      split
      · rw [decide_eq_decide]; omega
      · rw [decide_eq_decide]; omega
    unfold stE; rw [this]
theorem stE_turn4 (xss : List (List Int)) (n i k : Nat) (hn : n = 2 ∨ n = 4 ∨ n = 8 ∨ n = 16) (hf : 4 < n) (hi : i < n) (hk : k < n) (h1 : bt 4 i = 0) (h2 : bt 4 k = 0) :
    mat n (upd2 (upd2 (stE xss 4 i k) i (k + 4) (el (rw_ xss (i + 4)) k)) (i + 4) k (el (rw_ xss i) (k + 4))) = mat n (stE xss 4 i (k + 1)) := by
  apply mat_ext
  intro r c hr hc
  unfold upd2
  by_cases e1 : r = i + 4 ∧ c = k
  · rw [if_pos e1]
    obtain ⟨rfl, rfl⟩ := e1
    have hb : bt 4 (i + 4) = 1 := by unfold bt at *; omega
    have hd : dn 4 (i + 4) c i (c + 1) = true := by unfold dn; rw [if_neg (by omega), decide_eq_true_iff]; right; omega
    have hx1 : xo 4 (i + 4) = i := by unfold xo; rw [if_neg (by omega)]; omega
    have hx2 : xo 4 c = c + 4 := by unfold xo; rw [if_pos h2]
    have ht : tsE xss 4 (i + 4) c = el (rw_ xss i) (c + 4) := by unfold tsE; rw [if_neg (by omega), hx1, hx2]
    unfold stE; rw [hd, if_pos rfl, ht]
  · rw [if_neg e1]
    by_cases e2 : r = i ∧ c = k + 4
    · rw [if_pos e2]
      obtain ⟨rfl, rfl⟩ := e2
      have hb : bt 4 (k + 4) = 1 := by unfold bt at *; omega
      have hd : dn 4 r (k + 4) r (k + 1) = true := by unfold dn; rw [if_pos h1, decide_eq_true_iff]; right; omega
      have hx1 : xo 4 (k + 4) = k := by unfold xo; rw [if_neg (by omega)]; omega
      have hx2 : xo 4 r = r + 4 := by unfold xo; rw [if_pos h1]
      have ht : tsE xss 4 r (k + 4) = el (rw_ xss (r + 4)) k := by unfold tsE; rw [if_neg (by omega), hx1, hx2]
      unfold stE; rw [hd, if_pos rfl, ht]
    · rw [if_neg e2]
      by_cases hq : bt 4 r = bt 4 c
      · unfold stE tsE; rw [if_pos hq]; split <;> split <;> rfl
      · have : dn 4 r c i (k + 1) = dn 4 r c i k := by
          unfold bt at h1 h2 hq
          unfold dn bt
          split
          · rw [decide_eq_decide]; omega
          · rw [decide_eq_decide]; omega
        unfold stE; rw [this]
theorem bt_in4 (n i : Nat) (hn : n = 2 ∨ n = 4 ∨ n = 8 ∨ n = 16) (hf : 4 < n) (hi : i < n) (h : bt 4 i = 0) : i + 4 < n := by unfold bt at h; omega
theorem xo_in4 (n i : Nat) (hn : n = 2 ∨ n = 4 ∨ n = 8 ∨ n = 16) (hf : 4 < n) (hi : i < n) : xo 4 i < n := by unfold xo bt; split <;> omega
theorem bits_or4 : ∀ i, i < 16 → ∀ k, k < 16 → bits .and .i64 (bits .or .i64 ((i : Nat) : Int) ((k : Nat) : Int)) 4 = if bt 4 i = 0 ∧ bt 4 k = 0 then 0 else 4 := by decide
theorem bits_and4 : ∀ i, i < 16 → bits .and .i64 ((i : Nat) : Int) 4 = if bt 4 i = 0 then 0 else 4 := by decide
theorem bits_xor4 : ∀ i, i < 16 → bits .xor .i64 ((i : Nat) : Int) 4 = ((xo 4 i : Nat) : Int) := by decide
theorem bits_pow4 : bits .and .i64 4 (4 - 1) = 0 := by decide
theorem stE_skip8 (xss : List (List Int)) (i k r c : Nat) (hi : i < 16) (hk : k < 16) (hr : r < 16) (hc : c < 16) (h : ¬ (bt 8 i = 0 ∧ bt 8 k = 0)) : stE xss 8 i (k + 1) r c = stE xss 8 i k r c := by
  by_cases hq : bt 8 r = bt 8 c
  · unfold stE tsE; rw [if_pos hq]; split <;> split <;> rfl
  · have : dn 8 r c i (k + 1) = dn 8 r c i k := by
      unfold bt at h hq
      unfold dn bt
      split
      · rw [decide_eq_decide]; omega
      · rw [decide_eq_decide]; omega
    unfold stE; rw [this]
theorem stE_turn8 (xss : List (List Int)) (n i k : Nat) (hn : n = 2 ∨ n = 4 ∨ n = 8 ∨ n = 16) (hf : 8 < n) (hi : i < n) (hk : k < n) (h1 : bt 8 i = 0) (h2 : bt 8 k = 0) :
    mat n (upd2 (upd2 (stE xss 8 i k) i (k + 8) (el (rw_ xss (i + 8)) k)) (i + 8) k (el (rw_ xss i) (k + 8))) = mat n (stE xss 8 i (k + 1)) := by
  apply mat_ext
  intro r c hr hc
  unfold upd2
  by_cases e1 : r = i + 8 ∧ c = k
  · rw [if_pos e1]
    obtain ⟨rfl, rfl⟩ := e1
    have hb : bt 8 (i + 8) = 1 := by unfold bt at *; omega
    have hd : dn 8 (i + 8) c i (c + 1) = true := by unfold dn; rw [if_neg (by omega), decide_eq_true_iff]; right; omega
    have hx1 : xo 8 (i + 8) = i := by unfold xo; rw [if_neg (by omega)]; omega
    have hx2 : xo 8 c = c + 8 := by unfold xo; rw [if_pos h2]
    have ht : tsE xss 8 (i + 8) c = el (rw_ xss i) (c + 8) := by unfold tsE; rw [if_neg (by omega), hx1, hx2]
    unfold stE; rw [hd, if_pos rfl, ht]
  · rw [if_neg e1]
    by_cases e2 : r = i ∧ c = k + 8
    · rw [if_pos e2]
      obtain ⟨rfl, rfl⟩ := e2
      have hb : bt 8 (k + 8) = 1 := by unfold bt at *; omega
      have hd : dn 8 r (k + 8) r (k + 1) = true := by unfold dn; rw [if_pos h1, decide_eq_true_iff]; right; omega
      have hx1 : xo 8 (k + 8) = k := by unfold xo; rw [if_neg (by omega)]; omega
      have hx2 : xo 8 r = r + 8 := by unfold xo; rw [if_pos h1]
      have ht : tsE xss 8 r (k + 8) = el (rw_ xss (r + 8)) k := by unfold tsE; rw [if_neg (by omega), hx1, hx2]
      unfold stE; rw [hd, if_pos rfl, ht]
    · rw [if_neg e2]
      by_cases hq : bt 8 r = bt 8 c
      · unfold stE tsE; rw [if_pos hq]; split <;> split <;> rfl
      · have : dn 8 r c i (k + 1) = dn 8 r c i k := by
          unfold bt at h1 h2 hq
          unfold dn bt
          split
          · rw [decide_eq_decide]; omega
          · rw [decide_eq_decide]; omega
        unfold stE; rw [this]
theorem bt_in8 (n i : Nat) (hn : n = 2 ∨ n = 4 ∨ n = 8 ∨ n = 16) (hf : 8 < n) (hi : i < n) (h : bt 8 i = 0) : i + 8 < n := by unfold bt at h; omega
theorem xo_in8 (n i : Nat) (hn : n = 2 ∨ n = 4 ∨ n = 8 ∨ n = 16) (hf : 8 < n) (hi : i < n) : xo 8 i < n := by unfold xo bt; split <;> omega
theorem bits_or8 : ∀ i, i < 16 → ∀ k, k < 16 → bits .and .i64 (bits .or .i64 ((i : Nat) : Int) ((k : Nat) : Int)) 8 = if bt 8 i = 0 ∧ bt 8 k = 0 then 0 else 8 := by decide
theorem bits_and8 : ∀ i, i < 16 → bits .and .i64 ((i : Nat) : Int) 8 = if bt 8 i = 0 then 0 else 8 := by decide
theorem bits_xor8 : ∀ i, i < 16 → bits .xor .i64 ((i : Nat) : Int) 8 = ((xo 8 i : Nat) : Int) := by decide
theorem bits_pow8 : bits .and .i64 8 (8 - 1) = 0 := by decide
/-- What holds of a distance that is a power of 2 below n. -/
structure FarOk (n far : Nat) : Prop where
  lt : far < n
  le : far ≤ 8
  pos : 1 ≤ far
  bor : ∀ i, i < 16 → ∀ k, k < 16 → bits .and .i64 (bits .or .i64 ((i : Nat) : Int) ((k : Nat) : Int)) (far : Int) = if bt far i = 0 ∧ bt far k = 0 then 0 else (far : Int)
  band : ∀ i, i < 16 → bits .and .i64 ((i : Nat) : Int) (far : Int) = if bt far i = 0 then 0 else (far : Int)
  bxor : ∀ i, i < 16 → bits .xor .i64 ((i : Nat) : Int) (far : Int) = ((xo far i : Nat) : Int)
  pow : bits .and .i64 (far : Int) ((far : Int) - 1) = 0
  btin : ∀ i, i < n → bt far i = 0 → i + far < n
  xoin : ∀ i, i < n → xo far i < n
  skip : ∀ xss i k r c, i < 16 → k < 16 → r < 16 → c < 16 → ¬ (bt far i = 0 ∧ bt far k = 0) → stE xss far i (k + 1) r c = stE xss far i k r c
  turn : ∀ xss i k, i < n → k < n → bt far i = 0 → bt far k = 0 → mat n (upd2 (upd2 (stE xss far i k) i (k + far) (el (rw_ xss (i + far)) k)) (i + far) k (el (rw_ xss i) (k + far))) = mat n (stE xss far i (k + 1))
theorem FarOk.of {n far : Nat} (hn : n = 2 ∨ n = 4 ∨ n = 8 ∨ n = 16) (hf : far = 1 ∨ far = 2 ∨ far = 4 ∨ far = 8) (hl : far < n) : FarOk n far := by
  rcases hf with rfl | rfl | rfl | rfl
  · exact ⟨hl, by omega, by omega, bits_or1, bits_and1, bits_xor1, bits_pow1, fun i hi h => bt_in1 n i hn hl hi h, fun i hi => xo_in1 n i hn hl hi, fun xss i k r c h1 h2 h3 h4 h => stE_skip1 xss i k r c h1 h2 h3 h4 h, fun xss i k hi hk h1 h2 => stE_turn1 xss n i k hn hl hi hk h1 h2⟩
  · exact ⟨hl, by omega, by omega, bits_or2, bits_and2, bits_xor2, bits_pow2, fun i hi h => bt_in2 n i hn hl hi h, fun i hi => xo_in2 n i hn hl hi, fun xss i k r c h1 h2 h3 h4 h => stE_skip2 xss i k r c h1 h2 h3 h4 h, fun xss i k hi hk h1 h2 => stE_turn2 xss n i k hn hl hi hk h1 h2⟩
  · exact ⟨hl, by omega, by omega, bits_or4, bits_and4, bits_xor4, bits_pow4, fun i hi h => bt_in4 n i hn hl hi h, fun i hi => xo_in4 n i hn hl hi, fun xss i k r c h1 h2 h3 h4 h => stE_skip4 xss i k r c h1 h2 h3 h4 h, fun xss i k hi hk h1 h2 => stE_turn4 xss n i k hn hl hi hk h1 h2⟩
  · exact ⟨hl, by omega, by omega, bits_or8, bits_and8, bits_xor8, bits_pow8, fun i hi h => bt_in8 n i hn hl hi h, fun i hi => xo_in8 n i hn hl hi, fun xss i k r c h1 h2 h3 h4 h => stE_skip8 xss i k r c h1 h2 h3 h4 h, fun xss i k hi hk h1 h2 => stE_turn8 xss n i k hn hl hi hk h1 h2⟩
theorem bits_not : ∀ f : Nat, f < 16 → (f = 0 ∨ f = 1 ∨ f = 2 ∨ f = 4 ∨ f = 8 ∨ (bits .and .i64 ((f : Nat) : Int) (((f : Nat) : Int) - 1) != 0) = true) := by decide
end Go.Proofs.Ytolcmehndambmaa
