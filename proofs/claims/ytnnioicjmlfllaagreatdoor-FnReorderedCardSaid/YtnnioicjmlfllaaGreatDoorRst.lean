import Derived.Test.YtnnioicjmlfllaaGreatDoorCut4
set_option linter.unusedVariables false
set_option linter.unusedSimpArgs false
namespace Go.Proofs.YtnnioicjmlfllaaGreatDoor
open Go.RowKit

/-! ### One statement read: the plain function -/
def ptx (ps : List (List UInt8)) (k : Nat) : List UInt8 := ps.getD k []
def vNum (l : List UInt8) : Int := if valB l then valN l else 0
def oNum (l : List UInt8) : Int := if 0 ≤ opI (bstr l) then opI (bstr l) else 0
def oB (l : List UInt8) : Bool := decide (0 ≤ opI (bstr l))
/-- The left side, and the parts of the right one. -/
def stmRs (l : List UInt8) (ps : List (List UInt8)) : SmV × Bool :=
  if ps.length = 3 then (⟨oNum (ptx ps 1), vNum l, vNum (ptx ps 0), vNum (ptx ps 2)⟩, valB l && (valB (ptx ps 0) && (oB (ptx ps 1) && valB (ptx ps 2)))) else (⟨0, 0, 0, 0⟩, false)
def stmR (w : List UInt8) : SmV × Bool := stmRs (Lib.cut w [61]).1 (cutL 32 (Lib.cut w [61]).2.1)
theorem opI_text {l : List UInt8} (h : oB l = true) : ∃ k : Nat, k < 18 ∧ opI (bstr l) = k ∧ opTx k = l := by
  have h0 : 0 ≤ opI (bstr l) := by simpa [oB] using h
  have key : ∀ d, d ≤ 18 → 0 ≤ idxN (opEq (bstr l)) 18 d → ∃ k : Nat, k < 18 ∧ idxN (opEq (bstr l)) 18 d = k ∧ opEq (bstr l) k = true := by
    intro d
    induction d with
    | zero => intro _ h; simp [idxN] at h
    | succ d ih =>
      intro hd hh
      simp only [idxN] at hh ⊢
      by_cases q : opEq (bstr l) (18 - (d + 1)) = true
      · exact ⟨18 - (d + 1), by omega, by rw [if_pos q], q⟩
      · rw [if_neg q] at hh ⊢
        exact ih (by omega) hh
  obtain ⟨k, hk, he, hq⟩ := key 18 (Nat.le_refl _) h0
  refine ⟨k, hk, he, ?_⟩
  unfold opEq at hq
  rw [bstr_toList] at hq
  exact beq_iff_eq.1 hq
theorem join_cons2 (x : List UInt8) (r : List (List UInt8)) (sep : List UInt8) (h : r ≠ []) : Lib.join (x :: r) sep = x ++ sep ++ Lib.join r sep := by
  cases r with
  | nil => exact absurd rfl h
  | cons y r =>
    rw [Lib.join_cons, Lib.join_cons]
    simp [Lib.joinTail]
theorem cut_text {w : List UInt8} {m : UInt8} (h : ¬ Lib.index w [m] = -1) : (Lib.cut w [m]).1 ++ [m] ++ (Lib.cut w [m]).2.1 = w := by
  have hj := cutL_join m w
  have hc := cutG_index m w []
  have hge := Lib.index_ge w [m]
  rw [if_neg (by simpa using h)] at hc
  unfold cutL at hj
  rw [hc, join_cons2 _ _ _ (show cutL m (w.drop ((Lib.index w [m]).toNat + 1)) ≠ [] from cutG_ne m _ [])] at hj
  rw [cutL_join] at hj
  unfold Lib.cut
  rw [if_pos (by omega)]
  simpa using hj
theorem vNum_text {l : List UInt8} (h : valB l = true) : Lib.itoa (vNum l) = l := by
  unfold vNum
  rw [if_pos h]
  simp only [valB, Bool.and_eq_true, beq_iff_eq] at h
  exact h.2
theorem oNum_text {l : List UInt8} (h : oB l = true) : opTx (oNum l).toNat = l := by
  obtain ⟨k, hk, he, ht⟩ := opI_text h
  unfold oNum
  rw [he, if_pos (by omega)]
  exact ht
/-- What is read has the text that was read. -/
theorem stmR_text {w : List UInt8} (h : (stmR w).2 = true) : stmT (stmR w).1 = w := by
  have hi : ¬ Lib.index w [61] = -1 := by
    intro q
    have e : Lib.cut w [61] = (w, [], false) := by unfold Lib.cut; rw [if_neg (by rw [q]; decide)]
    unfold stmR stmRs at h
    rw [e] at h
    simp [cutL, cutG] at h
  have hw := cut_text hi
  have hj := cutL_join 32 (Lib.cut w [61]).2.1
  unfold stmR stmRs at h ⊢
  generalize (Lib.cut w [61]).1 = l at *
  generalize (Lib.cut w [61]).2.1 = r at *
  generalize cutL 32 r = ps at *
  match ps, h, hj with
  | [p0, p1, p2], h, hj =>
    simp [ptx] at h ⊢
    obtain ⟨h1, h2, h3, h4⟩ := h
    unfold stmT
    simp only [vNum_text h1, vNum_text h2, vNum_text h4, oNum_text h3]
    rw [← hw, ← hj]
    simp [Lib.join_cons, Lib.joinTail]
  | [], h, _ => simp at h
  | [_], h, _ => simp at h
  | [_, _], h, _ => simp at h
  | _ :: _ :: _ :: _ :: _, h, _ => simp at h
end Go.Proofs.YtnnioicjmlfllaaGreatDoor
