import Derived.Test.YtnnioicjmlfllaaGreatDoorRop
import Derived.Lib.SplitLaws
set_option linter.unusedVariables false
set_option linter.unusedSimpArgs false
namespace Go.Proofs.YtnnioicjmlfllaaGreatDoor
open Go.RowKit

/-! ### The parts of a text between marks -/
/-- cur: what stands before l in the part that is open. -/
def cutG (m : UInt8) (cur : List UInt8) : List UInt8 → List (List UInt8)
  | [] => [cur]
  | b :: l => if b = m then cur :: cutG m [] l else cutG m (cur ++ [b]) l
def cutL (m : UInt8) (l : List UInt8) : List (List UInt8) := cutG m [] l
theorem cutG_ne (m : UInt8) : ∀ (l cur : List UInt8), cutG m cur l ≠ [] := by
  intro l
  induction l with
  | nil => intro cur; simp [cutG]
  | cons b l ih => intro cur; unfold cutG; split; · simp
                   · exact ih _
theorem cutG_join (m : UInt8) : ∀ (l cur : List UInt8), Lib.join (cutG m cur l) [m] = cur ++ l := by
  intro l
  induction l with
  | nil => intro cur; simp [cutG, Lib.join_one]
  | cons b l ih =>
    intro cur
    unfold cutG
    split
    · rename_i h
      subst h
      have hh := ih []
      cases hc : cutG b [] l with
      | nil => exact absurd hc (cutG_ne b l [])
      | cons x r =>
        rw [hc, Lib.join_cons] at hh
        rw [Lib.join_cons]
        simp only [Lib.joinTail, List.map_cons, List.flatten_cons, List.nil_append] at hh ⊢
        rw [← hh]; simp
    · rw [ih]; simp
/-- The parts, joined, are the text. -/
theorem cutL_join (m : UInt8) (l : List UInt8) : Lib.join (cutL m l) [m] = l := by unfold cutL; rw [cutG_join]; rfl
theorem extract_bstr (s : ByteArray) (f k : Nat) : s.extract f k = bstr ((s.data.toList.drop f).take (k - f)) := by
  apply ByteArray.ext
  simp [bstr, ByteArray.data_extract]
  apply Array.ext'
  simp
theorem cut_step_hit {m : UInt8} {l cur : List UInt8} {k : Nat} (h : l[k]? = some m) : cutG m cur (l.drop k) = cur :: cutG m [] (l.drop (k + 1)) := by
  obtain ⟨hk, hv⟩ := List.getElem?_eq_some_iff.1 h
  rw [List.drop_eq_getElem_cons hk, hv]
  conv => lhs; unfold cutG
  rw [if_pos rfl]
theorem cut_step_miss {m x : UInt8} {l cur : List UInt8} {k : Nat} (h : l[k]? = some x) (hx : x ≠ m) : cutG m cur (l.drop k) = cutG m (cur ++ [x]) (l.drop (k + 1)) := by
  obtain ⟨hk, hv⟩ := List.getElem?_eq_some_iff.1 h
  rw [List.drop_eq_getElem_cons hk, hv]
  conv => lhs; unfold cutG
  rw [if_neg hx]
theorem take_more {l : List UInt8} {f k : Nat} {x : UInt8} (h : l[k]? = some x) (hf : f ≤ k) : (l.drop f).take (k - f) ++ [x] = (l.drop f).take (k + 1 - f) := by
  have e : (l.drop f)[k - f]? = some x := by rw [List.getElem?_drop, ← h]; congr 1; omega
  rw [show k + 1 - f = (k - f) + 1 by omega, List.take_add_one, e]; rfl
end Go.Proofs.YtnnioicjmlfllaaGreatDoor
