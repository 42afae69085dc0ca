import Derived.Test.YtolcmehndambmaaShfl
import Derived.Test.YtolcmehndambmaaIlv
import Derived.Test.YtolcmehndambmaaShuf4j
import Derived.Test.YtolcmehndambmaaHas
set_option linter.unusedVariables false
set_option linter.unusedSimpArgs false
namespace Go.Proofs.Ytolcmehndambmaa
open Go.RowKit

/-! ### Named shuffles: plain lists -/
def nmF (K L y : Nat) : List Int := (m_NamedShuffle (K : Int) (L : Int) (y : Int)).1
def nmB (K L y : Nat) : Bool := (m_NamedShuffle (K : Int) (L : Int) (y : Int)).2 && (shufB (nmF K L y) && decide ((nmF K L y).length = L))
def nmOne (L y : Nat) : Bool := nmB 3 L 0 && (nmB 4 L 0 && (nmB 0 L y && (nmB 1 L 0 && (nmB 2 L y && (nmB 5 L y &&
  (decide (pick (nmF 3 L 0) (nmF 4 L 0) = idl L) && (decide (pick (nmF 1 L 0) (nmF 1 L 0) = idl L) && (decide (pick (nmF 2 L y) (nmF 2 L y) = idl L) && decide (nmF 5 L y = List.replicate L (y : Int))))))))))
theorem nm_all : ([4, 8, 16].all fun L => (List.range L).all fun y => nmOne L y) = true := by decide +kernel
theorem nm_two : ([4, 8, 16].all fun L => (List.range L).all fun y => (List.range L).all fun t => decide (pick (nmF 0 L y) (nmF 0 L t) = nmF 0 L ((y + t) % L))) = true := by decide +kernel
theorem nm_zip : ([4, 8, 16].all fun L => decide (nmF 3 L 0 = (List.range L).map fun i => (((i / 2 + i % 2 * (L / 2) : Nat)) : Int))) = true := by decide +kernel
structure NmP (K L y : Nat) (q : List Int) : Prop where
  eq : m_NamedShuffle (K : Int) (L : Int) (y : Int) = (q, true)
  shuf : shufB q = true
  len : q.length = L
theorem nmP_of {K L y : Nat} (h : nmB K L y = true) : NmP K L y (nmF K L y) := by
  simp only [nmB, Bool.and_eq_true, decide_eq_true_eq] at h
  refine ⟨?_, h.2.1, h.2.2⟩
  rw [← h.1]; rfl
theorem nmd {L y t : Nat} (hL : L = 4 ∨ L = 8 ∨ L = 16) (hy : y < L) (ht : t < L) :
    ∃ zp uz f1 f2 f3 bk sw fl, (NmP 3 L 0 zp ∧ NmP 4 L 0 uz ∧ NmP 0 L y f1 ∧ NmP 0 L t f2 ∧ NmP 0 L ((y + t) % L) f3 ∧ NmP 1 L 0 bk ∧ NmP 2 L y sw ∧ NmP 5 L y fl) ∧
      pick zp uz = idl L ∧ pick f1 f2 = f3 ∧ pick bk bk = idl L ∧ pick sw sw = idl L ∧ (∀ i, i < L → el fl i = y) ∧ ∀ i, i < L → el zp i = ((i / 2 + i % 2 * (L / 2) : Nat) : Int) := by
  have h1 := nm_all
  have h2 := nm_two
  have h3 := nm_zip
  rw [List.all_eq_true] at h1 h2 h3
  have hm : L ∈ [4, 8, 16] := by simp; omega
  have h1 := h1 L hm
  have h2 := h2 L hm
  have h3 := h3 L hm
  rw [List.all_eq_true] at h1 h2
  have q1 := h1 y (List.mem_range.2 hy)
  have q2 := h1 t (List.mem_range.2 ht)
  have q3 := h1 ((y + t) % L) (List.mem_range.2 (Nat.mod_lt _ (by omega)))
  have h2 := h2 y (List.mem_range.2 hy)
  rw [List.all_eq_true] at h2
  have h2 := h2 t (List.mem_range.2 ht)
  simp only [nmOne, Bool.and_eq_true, decide_eq_true_eq] at q1 q2 q3 h2 h3
  obtain ⟨a1, a2, a3, a4, a5, a6, a7, a8, a9, a10⟩ := q1
  refine ⟨_, _, _, _, _, _, _, _, ⟨nmP_of a1, nmP_of a2, nmP_of a3, nmP_of q2.2.2.1, nmP_of q3.2.2.1, nmP_of a4, nmP_of a5, nmP_of a6⟩, a7, h2, a8, a9, fun i hi => ?_, fun i hi => ?_⟩
  · rw [a10]; unfold el; rw [List.getD_eq_getElem?_getD]; simp [hi]
  · rw [h3]; exact el_range (fun i => (((i / 2 + i % 2 * (L / 2) : Nat)) : Int)) hi
/-- Zipping is interleaving both halves. -/
theorem zip_ilv {L h : Nat} {a zp : List Int} (hL : L = 2 * h) (ha : a.length = L) (hl : zp.length = L) (hz : ∀ i, i < L → el zp i = ((i / 2 + i % 2 * (L / 2) : Nat) : Int)) : pick a zp = ilv (a.take h) (a.drop h) := by
  have hl' : (a.take h).length = h := by rw [List.length_take]; omega
  apply el_ext
  · rw [pick_length, ilv_length, hl']; omega
  · intro k hk
    rw [pick_length, hl] at hk
    rw [pick_el (by omega), hz k hk, Int.toNat_natCast, ilv_el _ _ (by rw [hl']; omega)]
    unfold ilE
    rw [show L / 2 = h from by omega]
    by_cases e : k % 2 = 0
    · rw [if_pos e, e, el_takeJ (by omega)]; congr 1; omega
    · rw [if_neg e, el_dropJ, show k % 2 = 1 from by omega]; congr 1; omega
theorem vec_take {b : Int} {a : List Int} {L h : Nat} (hL : L = 2 * h) (ha : a.length = L) (hv : vecB b a = true) (hh : lanesB (h : Int) = true) : vecB b (a.take h) = true ∧ vecB b (a.drop h) = true := by
  simp only [vecB, Bool.and_eq_true, List.all_eq_true] at hv ⊢
  have h1 : (a.take h).length = h := by rw [List.length_take]; omega
  have h2 : (a.drop h).length = h := by rw [List.length_drop]; omega
  rw [h1, h2]
  exact ⟨⟨⟨hv.1.1, hh⟩, fun x hx => hv.2 x (List.mem_of_mem_take hx)⟩, ⟨⟨hv.1.1, hh⟩, fun x hx => hv.2 x (List.mem_of_mem_drop hx)⟩⟩
end Go.Proofs.Ytolcmehndambmaa
