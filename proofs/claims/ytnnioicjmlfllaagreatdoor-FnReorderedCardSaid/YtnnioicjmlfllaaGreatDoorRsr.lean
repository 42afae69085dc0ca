import Derived.Test.YtnnioicjmlfllaaGreatDoorRst
set_option linter.unusedVariables false
set_option linter.unusedSimpArgs false
namespace Go.Proofs.YtnnioicjmlfllaaGreatDoor
open Go.RowKit

/-! ### The first byte m of a text -/
theorem index_hit (m : UInt8) : ∀ (l : List UInt8) (k : Nat), (∀ j, j < k → l[j]? ≠ some m) → l[k]? = some m → Lib.index l [m] = k := by
  intro l
  induction l with
  | nil => intro k _ h; simp at h
  | cons b l ih =>
    intro k hn h
    unfold Lib.index
    cases k with
    | zero =>
      obtain rfl : b = m := by simpa using h
      simp [List.isPrefixOf]
    | succ k =>
      have hb : ¬ b = m := fun q => hn 0 (by omega) (by simp [q])
      have hb' : (m == b) = false := beq_eq_false_iff_ne.2 (fun q => hb q.symm)
      have e := ih k (fun j hj => by have := hn (j + 1) (by omega); simpa using this) (by simpa using h)
      have e2 : ¬ (k : Int) = -1 := by omega
      simp [List.isPrefixOf, hb', e, e2]
theorem index_miss (m : UInt8) : ∀ (l : List UInt8), (∀ j : Nat, l[j]? ≠ some m) → Lib.index l [m] = -1 := by
  intro l
  induction l with
  | nil => intro _; simp [Lib.index]
  | cons b l ih =>
    intro hn
    unfold Lib.index
    have hb : ¬ b = m := fun q => hn 0 (by simp [q])
    have hb' : (m == b) = false := beq_eq_false_iff_ne.2 (fun q => hb q.symm)
    have e := ih (fun j => by have := hn (j + 1); simpa using this)
    simp [List.isPrefixOf, hb', e]
theorem cut_hit {m : UInt8} {l : List UInt8} {k : Nat} (hn : ∀ j, j < k → l[j]? ≠ some m) (h : l[k]? = some m) : Lib.cut l [m] = (l.take k, l.drop (k + 1), true) := by
  unfold Lib.cut
  rw [index_hit m l k hn h, if_pos (by omega)]
  simp
theorem cut_miss {m : UInt8} {l : List UInt8} (hn : ∀ j : Nat, l[j]? ≠ some m) : Lib.cut l [m] = (l, [], false) := by
  unfold Lib.cut
  rw [index_miss m l hn, if_neg (by omega)]
theorem cut_len1 (l : List UInt8) (m : UInt8) : (Lib.cut l [m]).1.length ≤ l.length := by
  unfold Lib.cut
  split <;> simp <;> omega
theorem cut_len2 (l : List UInt8) (m : UInt8) : (Lib.cut l [m]).2.1.length ≤ l.length := by
  unfold Lib.cut
  split <;> simp <;> omega
theorem stmR_none {l : List UInt8} (h : (Lib.cut l [61]).2.1 = []) : stmR l = (⟨0, 0, 0, 0⟩, false) := by
  unfold stmR stmRs
  rw [h]
  rfl
/-- Each part of a cut text is no longer than the text. -/
theorem cutG_mem_len (m : UInt8) : ∀ (l cur p : List UInt8), p ∈ cutG m cur l → p.length ≤ cur.length + l.length := by
  intro l
  induction l with
  | nil => intro cur p h; simp [cutG] at h; subst h; simp
  | cons b l ih =>
    intro cur p h
    unfold cutG at h
    split at h
    · simp at h
      rcases h with rfl | h
      · simp
      · have := ih [] p h; simp at this ⊢; omega
    · have := ih _ p h; simp at this ⊢; omega
theorem cutL_mem_len {m : UInt8} {l p : List UInt8} (h : p ∈ cutL m l) : p.length ≤ l.length := by
  have := cutG_mem_len m l [] p h; simpa using this
end Go.Proofs.YtnnioicjmlfllaaGreatDoor
