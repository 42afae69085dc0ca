import Derived.Test.YtnnioicjmlfllaaGreatDoorCut2
import Derived.Test.YtnnioicjmlfllaaGreatDoorShp
set_option linter.unusedVariables false
set_option linter.unusedSimpArgs false
namespace Go.Proofs.YtnnioicjmlfllaaGreatDoor
open Go.RowKit

theorem cutG_index (m : UInt8) : ∀ (l cur : List UInt8), cutG m cur l = if Lib.index l [m] == -1 then [cur ++ l] else (cur ++ l.take (Lib.index l [m]).toNat) :: cutL m (l.drop ((Lib.index l [m]).toNat + 1)) := by
  intro l
  induction l with
  | nil => intro cur; simp [cutG, Lib.index]
  | cons b l ih =>
    intro cur
    have hge := Lib.index_ge l [m]
    unfold cutG Lib.index
    by_cases hb : b = m
    · subst hb
      simp [List.isPrefixOf, cutL]
    · have hb' : (m == b) = false := by simpa using fun q => hb q.symm
      rw [if_neg hb, ih]
      by_cases hi : Lib.index l [m] = -1
      · simp [List.isPrefixOf, hb', hi]
      · have e1 : (Lib.index l [m] + 1).toNat = (Lib.index l [m]).toNat + 1 := by omega
        have e2 : ¬ Lib.index l [m] + 1 = -1 := by omega
        simp [List.isPrefixOf, hb', hi, e1, e2]
theorem split_cut (m : UInt8) : ∀ (fuel : Nat) (l : List UInt8), l.length < fuel → Lib.splitK [m] 0 (Lib.countFrom [m] fuel l) l = cutL m l := by
  intro fuel
  induction fuel with
  | zero => intro l h; omega
  | succ fuel ih =>
    intro l h
    have hc := cutG_index m l []
    unfold cutL Lib.countFrom
    rw [hc]
    by_cases hi : Lib.index l [m] = -1
    · simp [hi, Lib.splitK]
    · have hi' : (Lib.index l [m] == -1) = false := by simpa using hi
      rw [hi']
      simp only [Bool.false_eq_true, if_false]
      rw [Nat.add_comm, Lib.splitK, hi']
      simp only [Bool.false_eq_true, if_false, Nat.add_zero, List.length_singleton, List.nil_append]
      have hlt : (l.drop ((Lib.index l [m]).toNat + 1)).length < fuel := by
        rw [List.length_drop]
        cases l with
        | nil => simp [Lib.index] at hi
        | cons b r => simp at h ⊢; omega
      rw [ih _ hlt]
theorem cutG_len (m : UInt8) : ∀ (l cur : List UInt8), (cutG m cur l).length ≤ l.length + 1 := by
  intro l
  induction l with
  | nil => intro cur; simp [cutG]
  | cons b l ih =>
    intro cur
    unfold cutG
    split
    · have := ih []; simp; omega
    · have := ih (cur ++ [b]); simp; omega
theorem cutL_len (m : UInt8) (s : ByteArray) : (cutL m s.data.toList).length ≤ s.size + 1 := by
  have h := cutG_len m s.data.toList []
  have e : s.data.toList.length = s.size := by rw [Array.length_toList]; rfl
  rw [e] at h; exact h
theorem splitB_cut (s : ByteArray) (m : UInt8) : (Lib.splitB { data := #[m] } 0 (Lib.countB s { data := #[m] }) s).map Value.string = strs (cutL m s.data.toList) := by
  have h := Lib.splitB_data { data := #[m] } 0 (Lib.countB s { data := #[m] }) s
  have hc : Lib.splitK [m] 0 (Lib.countB s { data := #[m] }) s.data.toList = cutL m s.data.toList := split_cut m (s.data.toList.length + 1) s.data.toList (Nat.lt_succ_self _)
  rw [show ({ data := #[m] } : ByteArray).data.toList = [m] from rfl, hc] at h
  unfold strs
  rw [← h, List.map_map]
  apply List.map_congr_left
  intro b _
  simp [bstr_data]
theorem g_Split (w : World) (s : ByteArray) (m : UInt8) (h : w.ShapedOpen Tryz.prog) (hs : s.size ≤ 1048576) :
    Calls Tryz.prog 43 #[.string s, .string { data := #[m] }] w fun e w' => ∃ v, e = .returned v ∧ Own w' w.heap.size w'.heap.size 9 1 v (cutL m s.data.toList).length (strs (cutL m s.data.toList)) ∧ Below w.heap.size w w' := by
  refine (Tryz.strings_Split_shaped s { data := #[m] } w h (by omega) (by show 1 ≤ 1; omega)).mono ?_
  rintro e w' ⟨he, hw⟩
  have hb := splitB_cut s m
  have hl : (Lib.countB s { data := #[m] }) + 1 = (cutL m s.data.toList).length := by
    have h1 := Lib.splitB_all { data := #[m] } (by show 1 ≤ 1; omega) 0 _ s rfl
    have h2 := congrArg List.length hb
    simp only [List.length_map, strs] at h2
    omega
  rw [hb] at hw
  rw [hl] at he
  subst hw
  refine ⟨_, he, ?_, ballocw w _⟩
  have := Own.of (World.ownsRow_lit (base := w.heap.size) (e := 9) (size := 1) w (strs (cutL m s.data.toList)).toArray (cutL m s.data.toList).length (Nat.le_refl _) ?_ (by simp [strs]))
  · simpa using this
  · have := cutL_len m s
    simp only [maxLen]; omega
end Go.Proofs.YtnnioicjmlfllaaGreatDoor
