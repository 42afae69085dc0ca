import Derived.Test.YtmpdaafkphpnoaaDoorRdc3
import Derived.Test.YtmpdaafkphpnoaaDoorMarkC
set_option linter.unusedVariables false
set_option linter.unusedSimpArgs false
namespace Go.Proofs.YtmpdaafkphpnoaaDoor
open Go.RowKit

theorem empty_of {s : ByteArray} (h : s.data.toList = []) : s = { data := #[] } := by
  have := bstr_data s
  rw [h] at this
  exact this.symm
theorem ne_empty {s : ByteArray} (h : s.data.toList ≠ []) : s.toList.isEmpty = false := by
  rw [ByteArray.toList_eq]
  cases q : s.data.toList with
  | nil => exact absurd q h
  | cons a l => rfl
theorem i_ReadCode (w : World) (s : ByteArray) (hs : s.size ≤ 1048576) (hf : Fit3 w) :
    Calls Tryd.prog 17 #[.string s] w (RetC w (rdC s.data.toList) (rdB s.data.toList)) := by
  have hsz : s.data.toList.length = s.size := by rw [Array.length_toList]; rfl
  by_cases hl : s.data.toList = []
  · rw [hl, rd_nil.1, rd_nil.2, empty_of hl]
    exact i_ReadCode0 w
  · have hml : ∀ p, p ∈ cutL 59 s.data.toList → p.length ≤ 1048576 := fun p hp => Nat.le_trans (cutL_mem_len hp) (by omega)
    have hpn : cutL 59 s.data.toList ≠ [] := cutG_ne 59 _ []
    have hcl := cutL_len 59 s
    have hbs := bstr_data s
    have HXB : ∀ k, k < (cutL 59 s.data.toList).length → (stmR (ptx (cutL 59 s.data.toList) k)).2 = false → rdC s.data.toList = [] ∧ rdB s.data.toList = false := fun k hk h => (rd_bad hl hk h).symm
    have HXF : codeB ((cutL 59 s.data.toList).map smR) = false → rdC s.data.toList = [] ∧ rdB s.data.toList = false := fun h => (rd_code hl h).symm
    have HXT : (∀ k, k < (cutL 59 s.data.toList).length → (stmR (ptx (cutL 59 s.data.toList) k)).2 = true) → codeB ((cutL 59 s.data.toList).map smR) = true → rdC s.data.toList = (cutL 59 s.data.toList).map smR ∧ rdB s.data.toList = true := fun h h2 => (rd_yes hl (rd_all h) h2).symm
    have HXX : (∀ k, k < (cutL 59 s.data.toList).length → (stmR (ptx (cutL 59 s.data.toList) k)).2 = true) → bstr (codeT ((cutL 59 s.data.toList).map smR)) = s := fun h => by
      have := rd_text (rd_all h)
      rw [rdL_smR] at this
      unfold codeT
      rw [this, hbs]
    have CS := fun W (hW : Below w.heap.size w W) => g_Split W s 59 (shaped_below hf.s hW) hs
    generalize cutL 59 s.data.toList = ps at *
    refine i_ReadCodeM w s ps _ _ (ne_empty hl) (by omega) (hid fun W hW => (CS W hW).mono fun e w' hq => ?_) (hid fun W k hW hk => ?_) (hid fun W A c hR => ?_) (hid fun W A c hW hR hc ha => ?_) (hid HXB) (hid HXF) (hid HXT)
    · obtain ⟨v, rfl, ho, hb⟩ := hq
      obtain ⟨g, c, rfl, h1, _⟩ := own_prt ho hpn
      exact ⟨g, c, rfl, h1, hb⟩
    · have := i_readStmt W (bstr (ptx ps k)) (by rw [bstr_size]; exact hml _ (ptx_mem hk)) (hf.below hW)
      rw [bstr_toList] at this
      exact this
    · have := i_ValidCodeB W A c (ps.map smR) (by rw [List.length_map]; omega) hR
      rw [List.length_map] at this
      exact this
    · have := i_codeText W A c (ps.map smR) hc (hf.p.below hW) (hf.a.below hW) hR
      rw [List.length_map, HXX ha] at this
      exact this
theorem s_l03Read (w : World) (s : ByteArray) (hs : s.size ≤ 1048576) :
    Calls Tryd.prog 35 #[.string s] w (RetC w (rdC s.data.toList) (rdB s.data.toList)) := by
  have hsz : s.data.toList.length = s.size := by rw [Array.length_toList]; rfl
  by_cases hl : s.data.toList = []
  · rw [hl, rd_nil.1, rd_nil.2, empty_of hl]
    exact s_l03Read0 w
  · have hml : ∀ p, p ∈ cutL 59 s.data.toList → p.length ≤ 1048576 := fun p hp => Nat.le_trans (cutL_mem_len hp) (by omega)
    have hpn : cutL 59 s.data.toList ≠ [] := cutG_ne 59 _ []
    have hcl := cutL_len 59 s
    have HXB : ∀ k, k < (cutL 59 s.data.toList).length → (stmR (ptx (cutL 59 s.data.toList) k)).2 = false → rdC s.data.toList = [] ∧ rdB s.data.toList = false := fun k hk h => (rd_bad hl hk h).symm
    have HXF : codeB ((cutL 59 s.data.toList).map smR) = false → rdC s.data.toList = [] ∧ rdB s.data.toList = false := fun h => (rd_code hl h).symm
    have HXT : (∀ k, k < (cutL 59 s.data.toList).length → (stmR (ptx (cutL 59 s.data.toList) k)).2 = true) → codeB ((cutL 59 s.data.toList).map smR) = true → rdC s.data.toList = (cutL 59 s.data.toList).map smR ∧ rdB s.data.toList = true := fun h h2 => (rd_yes hl (rd_all h) h2).symm
    have HLG : 16 < (cutL 59 s.data.toList).length → rdB s.data.toList = false ∧ rdC s.data.toList = [] := fun h => rd_long hl h
    have CS := fun W => s_l01Cut W s 59 hs
    generalize cutL 59 s.data.toList = ps at *
    by_cases h16 : ps.length ≤ 16
    · refine s_l03ReadM w s ps _ _ (ne_empty hl) h16 (hid fun W hW => (CS W).mono fun e w' hq => ?_) (hid fun W k hk => ?_) (hid fun W A c hR => ?_) (hid HXB) (hid HXF) (hid HXT)
      · obtain ⟨v, rfl, ho, hb⟩ := hq
        obtain ⟨g, c, rfl, h1, _⟩ := own_prt ho hpn
        have hg1 := (ho.1.lt g rfl).1
        exact ⟨g, c, rfl, h1, ⟨hg1, ho.2 g rfl⟩, hb⟩
      · have := s_l03ReadStmt W (bstr (ptx ps k)) (by rw [bstr_size]; exact hml _ (ptx_mem hk))
        rw [bstr_toList] at this
        exact this
      · have := s_l03Is W A c (ps.map smR) (by rw [List.length_map]; omega) hR
        rw [List.length_map] at this
        exact this
    · obtain ⟨e1, e2⟩ := HLG (by omega)
      rw [e1, e2]
      refine s_l03ReadL w s ps.length (ne_empty hl) (by omega) (by omega) (hid fun W hW => (CS W).mono fun e w' hq => ?_)
      obtain ⟨v, rfl, ho, hb⟩ := hq
      obtain ⟨A, c, rfl, _⟩ := Own.shape ho
      exact ⟨A, c, rfl, hb⟩
theorem s_ReadCode (w : World) (s : ByteArray) (hs : s.size ≤ 1048576) :
    Calls Tryd.prog 16 #[.string s] w (RetC w (rdC s.data.toList) (rdB s.data.toList)) := by
  have C := hid (s_l03Read w s hs)
  generalize rdC s.data.toList = xs at *
  generalize rdB s.data.toList = b at *
  go_enter Tryd.func16, Tryd.ntmps16
  go_wp2_with (go_at_call 35; go_loud (refine C.out.mono ?_; rintro e w1 ⟨v, rfl, ho, hb⟩; have HO := hid ho; have HB := hid hb; clear ho hb))
  go_ret2
  exact ⟨_, rfl, HO.out, HB.out⟩
end Go.Proofs.YtmpdaafkphpnoaaDoor
