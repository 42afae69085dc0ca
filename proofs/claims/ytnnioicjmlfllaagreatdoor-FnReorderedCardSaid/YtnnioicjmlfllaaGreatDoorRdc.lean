import Derived.Test.YtnnioicjmlfllaaGreatDoorRsr
import Derived.Test.YtnnioicjmlfllaaGreatDoorStmA
set_option linter.unusedVariables false
set_option linter.unusedSimpArgs false
namespace Go.Proofs.YtnnioicjmlfllaaGreatDoor
open Go.RowKit

/-! ### Code read: the plain function -/
def rdL (l : List UInt8) : List SmV := (cutL 59 l).map fun p => (stmR p).1
def rdB (l : List UInt8) : Bool := l.isEmpty || ((cutL 59 l).all (fun p => (stmR p).2) && codeB (rdL l))
def rdC (l : List UInt8) : List SmV := if rdB l = true ∧ l ≠ [] then rdL l else []
theorem rdC_len (l : List UInt8) : (rdC l).length ≤ 1048576 := by
  unfold rdC
  split
  · rename_i h
    obtain ⟨h1, h2⟩ := h
    unfold rdB at h1
    have : l.isEmpty = false := by cases l <;> simp_all
    rw [this] at h1
    simp only [Bool.false_or, Bool.and_eq_true] at h1
    have := codeB_len h1.2
    omega
  · simp
theorem rd_nil : rdB [] = true ∧ rdC [] = [] := ⟨rfl, by simp [rdC]⟩
theorem rd_yes {l : List UInt8} (hl : l ≠ []) (h1 : (cutL 59 l).all (fun p => (stmR p).2) = true) (h2 : codeB (rdL l) = true) : rdB l = true ∧ rdC l = rdL l := by
  have hb : rdB l = true := by unfold rdB; rw [h1, h2]; simp
  exact ⟨hb, by unfold rdC; rw [if_pos ⟨hb, hl⟩]⟩
theorem rd_bad {l : List UInt8} (hl : l ≠ []) {k : Nat} (hk : k < (cutL 59 l).length) (h : (stmR (ptx (cutL 59 l) k)).2 = false) : rdB l = false ∧ rdC l = [] := by
  have hb : rdB l = false := by
    unfold rdB
    have e : l.isEmpty = false := by cases l <;> simp_all
    have : (cutL 59 l).all (fun p => (stmR p).2) = false := by
      rw [List.all_eq_false]
      refine ⟨ptx (cutL 59 l) k, ?_, by simp [h]⟩
      unfold ptx
      rw [List.getD_eq_getElem?_getD, List.getElem?_eq_getElem hk]
      exact List.getElem_mem hk
    rw [e, this]; rfl
  exact ⟨hb, by unfold rdC; rw [if_neg (by simp [hb])]⟩
theorem rd_code {l : List UInt8} (hl : l ≠ []) (h : codeB (rdL l) = false) : rdB l = false ∧ rdC l = [] := by
  have hb : rdB l = false := by
    unfold rdB
    have e : l.isEmpty = false := by cases l <;> simp_all
    rw [e, h]; simp
  exact ⟨hb, by unfold rdC; rw [if_neg (by simp [hb])]⟩
theorem rd_long {l : List UInt8} (hl : l ≠ []) (h : 16 < (cutL 59 l).length) : rdB l = false ∧ rdC l = [] := rd_code hl (by
  cases q : codeB (rdL l) with
  | false => rfl
  | true => have := codeB_len q; simp [rdL] at this; omega)
theorem ptx_get {ps : List (List UInt8)} {k : Nat} (h : k < ps.length) : ps[k]? = some (ptx ps k) := by
  unfold ptx; rw [List.getD_eq_getElem?_getD, List.getElem?_eq_getElem h]; rfl
theorem ptx_take {ps : List (List UInt8)} {k : Nat} (h : k < ps.length) (f : List UInt8 → SmV) : (ps.take (k + 1)).map f = (ps.take k).map f ++ [f (ptx ps k)] := by
  rw [List.take_add_one, ptx_get h]; simp
theorem ptx_mem {ps : List (List UInt8)} {k : Nat} (h : k < ps.length) : ptx ps k ∈ ps := List.mem_of_getElem? (ptx_get h)
/-- All parts read: the code's text is the text. -/
theorem rd_text {l : List UInt8} (h : (cutL 59 l).all (fun p => (stmR p).2) = true) : Lib.join ((rdL l).map stmT) [59] = l := by
  have e : (rdL l).map stmT = cutL 59 l := by
    unfold rdL
    rw [List.map_map]
    conv => rhs; rw [← List.map_id (cutL 59 l)]
    apply List.map_congr_left
    intro p hp
    exact stmR_text (List.all_eq_true.1 h p hp)
  rw [e, cutL_join]
theorem rd_all {l : List UInt8} (h : ∀ k, k < (cutL 59 l).length → (stmR (ptx (cutL 59 l) k)).2 = true) : (cutL 59 l).all (fun p => (stmR p).2) = true := by
  rw [List.all_eq_true]
  intro p hp
  obtain ⟨k, hk, rfl⟩ := List.getElem_of_mem hp
  have := h k hk
  have e := ptx_get hk
  rw [List.getElem?_eq_getElem hk] at e
  rw [Option.some.inj e]; exact this
end Go.Proofs.YtnnioicjmlfllaaGreatDoor
