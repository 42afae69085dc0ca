import Derived.Test.YtnnioicjmlfllaaGreatDoorTxt
set_option linter.unusedVariables false
set_option linter.unusedSimpArgs false
namespace Go.Proofs.YtnnioicjmlfllaaGreatDoor
open Go.RowKit

theorem strs_snoc (l : List (List UInt8)) (b : List UInt8) : strs l ++ [.string (bstr b)] = strs (l ++ [b]) := by simp [strs]
theorem listT_ne {xs : List Int} (h : xs ≠ []) : listT xs = Lib.join (xs.map Lib.itoa) [44] := by unfold listT; rw [if_neg h]
theorem map_take_succ {α : Type} (f : Int → α) {xs : List Int} {k : Nat} (h : k < xs.length) : (xs.take (k + 1)).map f = (xs.take k).map f ++ [f (el xs k)] := by rw [el_take h]; simp
theorem take_len {xs : List Int} (h : listB xs = true) (k : Nat) : (Lib.join ((xs.take k).map Lib.itoa) [44]).length ≤ 840 := by
  have hj := join_len (l := (xs.take k).map Lib.itoa) (m := 11) [44] (by
      intro x hx
      obtain ⟨a, ha, rfl⟩ := List.mem_map.1 hx
      simp only [listB, Bool.and_eq_true, List.all_eq_true] at h
      have := inB_iff.1 (h.2 _ (List.mem_of_mem_take ha))
      exact itoa_len this.1 this.2)
  have hl := listB_len h
  rw [List.length_map, List.length_take, List.length_singleton] at hj
  omega
set_option maxRecDepth 100000 in
theorem i_listText (w : World) (A : Option Addr) (c : Nat) (xs : List Int) (hv : listB xs = true) (hp : Pow w) (hR : RdI w A xs) :
    Calls Tryz.prog 124 #[.slice A xs.length c] w fun e w' => e = .returned (.string (bstr (listT xs))) ∧ Below w.heap.size w w' := by
  have h70 := listB_len hv
  by_cases h0 : xs = []
  · subst h0
    clear hR
    go_enter Tryz.func124, Tryz.ntmps124
    go_wp2
    go_ret
    exact ⟨rfl, Below.refl _ _⟩
  · have hlz : ((xs.length : Int) == 0) = false := by have := List.length_pos_iff.2 h0; simp; omega
    have HN := hid h0
    have HT := hid (listT_ne h0)
    have HTL := hid (listT_len hv)
    clear h0
    have HV := hid hv
    have HP := hid hp
    clear hv hp
    go_enter Tryz.func124, Tryz.ntmps124
    go_wp2
    go_loopg [3, 11] xs.length (fun gg v s wr => ∃ k : Nat, k ≤ xs.length ∧ xs.length - k ≤ gg ∧ s = .int .i64 k ∧ Aside (Below w.heap.size w wr) ∧ Aside (Own wr w.heap.size wr.heap.size 9 1 v k (strs ((xs.take k).map Lib.itoa))))
    case atStart => exact ⟨0, Nat.zero_le _, by omega, rfl, Below.refl _ _, Own.nil _ _ _ _ _⟩
    case round =>
      obtain ⟨k, hk, hg, rfl, BW, OW⟩ := hrel
      by_cases hlt : k < xs.length
      · obtain ⟨b, off, rfl, hc⟩ := (hR.below BW.out).get hlt
        have C := hid (fun W (hW : Below w.heap.size w W) => i_Decimal W (el xs k) (by have := listB_el HV.out hlt; omega) (by have := listB_el HV.out hlt; omega) (HP.out.below hW))
        have HS := hid (show strs ((xs.take k).map Lib.itoa) ++ [.string (bstr (Lib.itoa (el xs k)))] = strs ((xs.take (k + 1)).map Lib.itoa) by rw [strs_snoc, map_take_succ _ hlt])
        go_wp2_with fail
        refine (C.out _ ⟨BW.out.os, BW.out.tape, BW.out.output, BW.out.size, BW.out.block⟩).mono ?_
        rintro e w2 ⟨rfl, hb2⟩
        have HB2 : Hid (Below w.heap.size w w2) := hid (bthen ⟨BW.out.os, BW.out.tape, BW.out.output, BW.out.size, BW.out.block⟩ hb2)
        have HOW : Hid (Own w2 w.heap.size w2.heap.size 9 1 u3 k (strs ((xs.take k).map Lib.itoa))) := hid (Own.wide (Own.eqv OW.out (Eqv.of hb2 (Nat.le_refl _))) (Nat.le_refl _) hb2.size)
        have hz2 := HB2.out.size
        clear OW hb2 BW C hc
        go_wp2_with (at_builtin; go_loud (refine wp_append1 w.heap.size rfl _ _ 82 9 (.string ⟨#[]⟩) 16 rfl Tryz.underlying82 infoStr rfl u3 k _ (.string (bstr (Lib.itoa (el xs k)))) rfl rfl rfl HOW.out hz2 (by omega) (by omega) ?_; intro v1 w4 hown1 hbel1; replace hown1 := hid hown1; replace hbel1 := hid hbel1))
        go_roundg (xs.length - (k + 1))
        case measure => omega
        case rel =>
          refine ⟨k + 1, by omega, by omega, by go_num, HB2.out.trans hbel1.out, ?_⟩
          show Own _ _ _ _ _ _ _ _
          rw [← HS.out]; exact hown1.out
      · obtain rfl : k = xs.length := by omega
        have C := hid (g_Join (w := wr) (lo := w.heap.size) (xs.map Lib.itoa) [44] (by have := HN.out; simpa using this) (by simp; omega) (by have := HTL.out; rw [HT.out] at this; omega) (by have := OW.out; rwa [List.take_length] at this))
        rw [← HT.out] at C
        go_wp2_with fail
        refine C.out.mono ?_
        rintro e w2 ⟨rfl, hb2⟩
        have HB2 := hid (bthen BW.out hb2)
        clear C hb2
        go_wp2_with fail
        go_ret
        exact ⟨rfl, HB2.out⟩

end Go.Proofs.YtnnioicjmlfllaaGreatDoor
