import Derived.Test.YtmpdaafkphpnoaaDoorTxt2
import Derived.Test.YtmpdaafkphpnoaaDoorRws3
set_option linter.unusedVariables false
set_option linter.unusedSimpArgs false
namespace Go.Proofs.YtmpdaafkphpnoaaDoor
open Go.RowKit

/-! ### The text of groups -/
def packB (gs : List (List Int)) : Bool := decide (gs.length ≤ 16) && gs.all listB
def packT (gs : List (List Int)) : List UInt8 := if gs = [] then [45] else Lib.join (gs.map listT) [47]
def packR (gs : List (List Int)) : Value := .tuple #[.string (bstr (if packB gs then packT gs else [])), .bool (packB gs)]
theorem packR_no {gs : List (List Int)} (h : packB gs = false) : packR gs = .tuple #[.string { data := #[] }, .bool false] := by unfold packR; rw [h]; rfl
theorem packR_yes {gs : List (List Int)} (h : packB gs = true) : packR gs = .tuple #[.string (bstr (packT gs)), .bool true] := by unfold packR; rw [h]; rfl
theorem packT_ne {gs : List (List Int)} (h : gs ≠ []) : packT gs = Lib.join (gs.map listT) [47] := by unfold packT; rw [if_neg h]
theorem packB_len {gs : List (List Int)} (h : packB gs = true) : gs.length ≤ 16 := by
  simp only [packB, Bool.and_eq_true, decide_eq_true_eq] at h; exact h.1
theorem packB_row {gs : List (List Int)} (h : packB gs = true) {k : Nat} (hk : k < gs.length) : listB (rw_ gs k) = true := by
  simp only [packB, Bool.and_eq_true, List.all_eq_true] at h; exact h.2 _ (rw_mem hk)
theorem rw_take {gs : List (List Int)} {k : Nat} (h : k < gs.length) : gs.take (k + 1) = gs.take k ++ [rw_ gs k] := by
  rw [List.take_add_one, rw_get h]; rfl
theorem rw_dropP {xss : List (List Int)} {k : Nat} (hk : k < xss.length) : xss.drop k = rw_ xss k :: xss.drop (k + 1) := by
  rw [List.drop_eq_getElem_cons hk]; congr 1; have := rw_get hk; rw [List.getElem?_eq_getElem hk] at this; exact Option.some.inj this
theorem mapr_take_succ {α : Type} (f : List Int → α) {gs : List (List Int)} {k : Nat} (h : k < gs.length) : (gs.take (k + 1)).map f = (gs.take k).map f ++ [f (rw_ gs k)] := by rw [rw_take h]; simp
theorem pack_len {gs : List (List Int)} (h : packB gs = true) (k : Nat) : (Lib.join ((gs.take k).map listT) [47]).length ≤ 13456 := by
  have hj := join_len (l := (gs.take k).map listT) (m := 840) [47] (by
      intro x hx
      obtain ⟨a, ha, rfl⟩ := List.mem_map.1 hx
      simp only [packB, Bool.and_eq_true, List.all_eq_true] at h
      exact listT_len (h.2 _ (List.mem_of_mem_take ha)))
  have hl := packB_len h
  rw [List.length_map, List.length_take, List.length_singleton] at hj
  omega
set_option maxRecDepth 100000 in
theorem i_PackingText (w : World) (A : Option Addr) (c : Nat) (gs : List (List Int)) (hl : BigR gs) (hp : Pow w) (hR : RdR w A gs) :
    Calls Tryd.prog 9 #[.agg #[.slice A gs.length c]] w fun e w' => e = .returned (packR gs) ∧ Below w.heap.size w w' := by
  have hn := hl.1
  have hb0 := ballocw w (.cells #[.slice A gs.length c] 28)
  have kb0 : (w.alloc (.cells #[.slice A gs.length c] 28)).cell? ⟨w.heap.size, 0, none⟩ = some (.slice A gs.length c) := cell_of_row _ _ _ _ _ _ (heap_alloc_new w _)
  by_cases h16 : gs.length ≤ 16
  · have h16' : ¬ (16 < (gs.length : Int)) := by omega
    obtain ⟨f, hf, hrr⟩ := id hR
    have hall := areAllR (w.alloc (.cells #[.slice A gs.length c] 28)) A gs.length c f 25 #[] (fun k => listB (rw_ gs k)) hn (hf.below hb0) (enters_of Tryd.func25 (by kernel_rfl) rfl) (fun W hW k hk => by
      obtain ⟨A', c', e, _, hq⟩ := hrr k hk
      rw [e]
      exact i_isList W A' c' (rw_ gs k) (hl.2 k hk) ((hq.below hb0).below hW))
    rw [allN_rows gs listB] at hall
    clear hf hrr f
    cases hb : gs.all listB with
    | false =>
      rw [hb] at hall
      have HM := hid (packR_no (show packB gs = false by simp [packB, hb]))
      have HA := hid hall
      have HB0 := hid hb0
      clear hb hall hR hl hb0
      go_enter Tryd.func9, Tryd.ntmps9
      go_wp2_with (go_at_call 24; go_loud (refine HA.out.mono ?_; rintro e w1 ⟨rfl, hb1⟩))
      go_ret2
      exact ⟨by rw [HM.out]; rfl, bthen HB0.out hb1⟩
    | true =>
      rw [hb] at hall
      have hv : packB gs = true := by simp [packB, hb, h16]
      have HM := hid (packR_yes hv)
      have HV := hid hv
      have HA := hid hall
      have HB0 := hid hb0
      have HP := hid hp
      clear hb hall hl hb0 hv hp
      by_cases h0 : gs = []
      · have hlz : ((gs.length : Int) == 0) = true := by rw [h0]; rfl
        have HT : Hid (packT gs = [45]) := hid (by rw [h0]; rfl)
        clear h0
        go_enter Tryd.func9, Tryd.ntmps9
        go_wp2_with (go_at_call 24; go_loud (refine HA.out.mono ?_; rintro e w1 ⟨rfl, hb1⟩; have kb1 := bcell hb1 kb0))
        go_ret2
        exact ⟨by rw [HM.out, HT.out]; rfl, bthen HB0.out hb1⟩
      · have hlz : ((gs.length : Int) == 0) = false := by have := List.length_pos_iff.2 h0; simp; omega
        have HN := hid h0
        have HT := hid (packT_ne h0)
        have HTL := hid (pack_len HV.out gs.length)
        clear h0
        go_enter Tryd.func9, Tryd.ntmps9
        go_wp2_with (go_at_call 24; go_loud (refine HA.out.mono ?_; rintro e w1 ⟨rfl, hb1⟩; have kb1 := bcell hb1 kb0))
        have HB1 := hid (bthen HB0.out hb1)
        have hz1 := HB1.out.size
        clear HA kb0 kb1 hb1 HB0
        go_loopg [4, 24] gs.length (fun gg v s wr => ∃ k : Nat, k ≤ gs.length ∧ gs.length - k ≤ gg ∧ s = .int .i64 k ∧ Aside (Below w.heap.size w wr) ∧ Aside (Own wr w.heap.size wr.heap.size 9 1 v k (strs ((gs.take k).map listT))))
        case atStart => exact ⟨0, Nat.zero_le _, by omega, rfl, HB1.out, Own.nil _ _ _ _ _⟩
        case round =>
          obtain ⟨k, hk, hg, rfl, BW, OW⟩ := hrel
          by_cases hlt : k < gs.length
          · obtain ⟨b, off, A', c', rfl, hc, _, hr⟩ := (hR.below BW.out).get hlt
            have C := hid (fun W (hW : Below wr.heap.size wr W) => i_listText W A' c' (rw_ gs k) (packB_row HV.out hlt) (HP.out.below (bthen BW.out hW)) (hr.below hW))
            have HS := hid (show strs ((gs.take k).map listT) ++ [.string (bstr (listT (rw_ gs k)))] = strs ((gs.take (k + 1)).map listT) by rw [strs_snoc, mapr_take_succ _ hlt])
            clear hr
            go_wp2_with fail
            refine (C.out _ (Below.refl _ _)).mono ?_
            rintro e w2 ⟨rfl, hb2⟩
            have HB2 : Hid (Below w.heap.size w w2) := hid (bthen ⟨BW.out.os, BW.out.tape, BW.out.output, BW.out.size, BW.out.block⟩ hb2)
            have HOW : Hid (Own w2 w.heap.size w2.heap.size 9 1 u4 k (strs ((gs.take k).map listT))) := hid (Own.wide (Own.eqv OW.out (Eqv.of hb2 (Nat.le_refl _))) (Nat.le_refl _) hb2.size)
            have hz2 := HB2.out.size
            clear OW hb2 BW C hc
            go_wp2_with (at_builtin; go_loud (refine wp_append1 w.heap.size rfl _ _ 50 9 (.string ⟨#[]⟩) 16 rfl Tryd.underlying50 infoStr rfl u4 k _ (.string (bstr (listT (rw_ gs k)))) rfl rfl rfl HOW.out hz2 (by omega) (by omega) ?_; intro v1 w4 hown1 hbel1; replace hown1 := hid hown1; replace hbel1 := hid hbel1))
            go_roundg (gs.length - (k + 1))
            case measure => omega
            case rel =>
              refine ⟨k + 1, by omega, by omega, by go_num, HB2.out.trans hbel1.out, ?_⟩
              show Own _ _ _ _ _ _ _ _
              rw [← HS.out]; exact hown1.out
          · obtain rfl : k = gs.length := by omega
            have C := hid (g_Join (w := wr) (lo := w.heap.size) (gs.map listT) [47] (by have := HN.out; simpa using this) (by simp; omega) (by have := HTL.out; rw [List.take_length] at this; omega) (by have := OW.out; rwa [List.take_length] at this))
            rw [← HT.out] at C
            go_wp2_with fail
            refine C.out.mono ?_
            rintro e w2 ⟨rfl, hb2⟩
            have HB2 := hid (bthen BW.out hb2)
            clear C hb2
            go_wp2_with fail
            go_ret2
            exact ⟨by rw [HM.out]; rfl, HB2.out⟩
  · have h16' : (16 < (gs.length : Int)) := by omega
    have HM := hid (packR_no (show packB gs = false by simp [packB]; omega))
    have HB0 := hid hb0
    clear h16 hR hl hb0
    go_enter Tryd.func9, Tryd.ntmps9
    go_wp2
    go_ret2
    exact ⟨by rw [HM.out]; rfl, HB0.out⟩
set_option maxRecDepth 100000 in
theorem s_l07Text (w : World) (B : Nat) (A : Option Addr) (c : Nat) (gs : List (List Int)) (hv : packB gs = true) (hR : RdR w A gs) (hB : w.cell? ⟨B, 0, none⟩ = some (.slice A gs.length c)) :
    Calls Tryd.prog 22 #[.pointer (some ⟨B, 0, none⟩)] w fun e w' => e = .returned (.string (bstr (packT gs))) ∧ Below w.heap.size w w' := by
  have h16 := packB_len hv
  have HV := hid hv
  clear hv
  go_enter Tryd.func22, Tryd.ntmps22
  go_wp2
  go_loopg [3, 4] gs.length (fun gg v s wr => ∃ (k : Nat) (t : List UInt8), k ≤ gs.length ∧ gs.length - k ≤ gg ∧ s = .int .i64 k ∧ v = .string (bstr t) ∧ Aside (t = if k = 0 then [45] else Lib.join ((gs.take k).map listT) [47]) ∧ Aside (Below w.heap.size w wr))
  case atStart => exact ⟨0, [45], Nat.zero_le _, by omega, rfl, rfl, rfl, Below.refl _ _⟩
  case round =>
    obtain ⟨k, t, hk, hg, rfl, rfl, TX, BW⟩ := hrel
    have kb := bcell BW.out hB
    by_cases hlt : k < gs.length
    · obtain ⟨b, off, A', c', rfl, hc, _, hr⟩ := (hR.below BW.out).get hlt
      have C := hid (fun W (hW : Below wr.heap.size wr W) => s_l01Text W A' c' (rw_ gs k) (packB_row HV.out hlt) (hr.below hW))
      have HLT := hid (listT_len (packB_row HV.out hlt))
      clear hr
      by_cases hk0 : k = 0
      · have hkz : ((k : Int) == 0) = true := by rw [hk0]; rfl
        have HS : Hid (listT (rw_ gs k) = if k + 1 = 0 then [45] else Lib.join ((gs.take (k + 1)).map listT) [47]) := hid (by
          rw [if_neg (by omega), mapr_take_succ _ hlt]
          subst hk0
          simp [Lib.join_one])
        clear hk0
        go_wp2_with (go_at_call 40; go_loud (refine (C.out _ (Below.refl _ _)).mono ?_; rintro e w2 ⟨rfl, hb2⟩; have HB2 : Hid (Below w.heap.size w w2) := hid (bthen ⟨BW.out.os, BW.out.tape, BW.out.output, BW.out.size, BW.out.block⟩ hb2); clear hb2 BW C hc))
        go_roundg (gs.length - (k + 1))
        case measure => omega
        case rel => exact ⟨k + 1, _, by omega, by omega, by go_num, rfl, HS.out, HB2.out⟩
      · have hkz : ((k : Int) == 0) = false := by simp; omega
        have TX' : t = Lib.join ((gs.take k).map listT) [47] := by have := TX.out; rw [if_neg hk0] at this; exact this
        have HS : Hid (t ++ ([47] ++ listT (rw_ gs k)) = if k + 1 = 0 then [45] else Lib.join ((gs.take (k + 1)).map listT) [47]) := hid (by
          rw [if_neg (by omega), TX', mapr_take_succ _ hlt, join_snoc, List.append_assoc]
          intro q
          have := congrArg List.length q
          rw [List.length_map, List.length_take, List.length_nil] at this; omega)
        have htl := pack_len HV.out k
        rw [← TX'] at htl
        have f1 : ¬ 9223372036854775807 < 1 + (bstr (listT (rw_ gs k))).size := by have := HLT.out; rw [bstr_size]; omega
        have f2 : ¬ 9223372036854775807 < (bstr t).size + (({ data := #[47] } : ByteArray) ++ bstr (listT (rw_ gs k))).size := by
          have := HLT.out
          rw [show (({ data := #[47] } : ByteArray) ++ bstr (listT (rw_ gs k))) = bstr ([47] ++ listT (rw_ gs k)) from bstr_append [47] _, bstr_size, bstr_size]; simp; omega
        clear htl TX' hk0
        go_wp2_with (go_at_call 40; go_loud (refine (C.out _ (Below.refl _ _)).mono ?_; rintro e w2 ⟨rfl, hb2⟩; have HB2 : Hid (Below w.heap.size w w2) := hid (bthen ⟨BW.out.os, BW.out.tape, BW.out.output, BW.out.size, BW.out.block⟩ hb2); clear hb2 BW C hc))
        go_roundg (gs.length - (k + 1))
        case measure => omega
        case rel => exact ⟨k + 1, _, by omega, by omega, by go_num, congrArg Value.string ((congrArg (bstr t ++ ·) (bstr_append [47] _)).trans (bstr_append _ _)), HS.out, HB2.out⟩
    · obtain rfl : k = gs.length := by omega
      have TX' : Hid (bstr (packT gs) = bstr t) := hid (by
        have := TX.out
        rw [this, List.take_length]
        unfold packT
        by_cases q : gs = []
        · rw [if_pos q, if_pos (by rw [q]; rfl)]
        · rw [if_neg q, if_neg (fun z => q (List.eq_nil_of_length_eq_zero z))])
      clear TX
      go_wp2
      go_ret
      exact ⟨by rw [TX'.out]; rfl, BW.out⟩
set_option maxRecDepth 100000 in
theorem s_PackingText (w : World) (A : Option Addr) (c : Nat) (gs : List (List Int)) (hl : BigR gs) (hR : RdR w A gs) :
    Calls Tryd.prog 7 #[.agg #[.slice A gs.length c]] w fun e w' => e = .returned (packR gs) ∧ Below w.heap.size w w' := by
  have hn := hl.1
  have hb0 := ballocw w (.cells #[.slice A gs.length c] 28)
  have kb0 : (w.alloc (.cells #[.slice A gs.length c] 28)).cell? ⟨w.heap.size, 0, none⟩ = some (.slice A gs.length c) := cell_of_row _ _ _ _ _ _ (heap_alloc_new w _)
  have HB0 := hid hb0
  have HL := hid hl
  clear hl
  by_cases h16 : gs.length ≤ 16
  · have h16' : ¬ (16 < (gs.length : Int)) := by omega
    go_enter Tryd.func7, Tryd.ntmps7
    go_wp2
    go_loopg [4] gs.length (fun gg s wr => ∃ k : Nat, k ≤ gs.length ∧ gs.length - k ≤ gg ∧ s = .int .i64 k ∧ Aside (Below (w.heap.size + 1) (w.alloc (.cells #[.slice A gs.length c] 28)) wr) ∧ Aside (gs.all listB = (gs.drop k).all listB))
    case atStart => exact ⟨0, Nat.zero_le _, by omega, rfl, Below.refl _ _, rfl⟩
    case round =>
      obtain ⟨k, hk, hg, rfl, BW, IX⟩ := hrel
      have hBW : Below w.heap.size w wr := bthen HB0.out (by simpa using BW.out)
      have kb : wr.cell? ⟨w.heap.size, 0, none⟩ = some (.slice A gs.length c) := bcell (by simpa using BW.out) kb0
      by_cases hlt : k < gs.length
      · obtain ⟨b, off, A', c', rfl, hc, _, hr⟩ := (hR.below hBW).get hlt
        have C := hid (fun W (hW : Below wr.heap.size wr W) => s_l01List W A' c' (rw_ gs k) (HL.out.2 k hlt) (hr.below hW))
        have HBW := hid hBW
        have IX' : Aside (gs.all listB = (listB (rw_ gs k) && (gs.drop (k + 1)).all listB)) := by have := IX.out; rw [rw_dropP hlt] at this; exact this
        clear hr hBW IX
        cases hq : listB (rw_ gs k) with
        | true =>
          rw [hq] at C IX'
          have IX'' : Aside (gs.all listB = (gs.drop (k + 1)).all listB) := IX'.out
          clear IX' hq
          go_wp2_with (go_at_call 21; go_loud (refine (C.out _ (Below.refl _ _)).mono ?_; rintro e w2 ⟨rfl, hb2⟩; have HB2 : Hid (Below (w.heap.size + 1) (w.alloc (.cells #[.slice (some ⟨b, off, none⟩) gs.length c] 28)) w2) := hid (by have := bthen (w := (w.alloc (.cells #[.slice (some ⟨b, off, none⟩) gs.length c] 28))) (by simpa using BW.out) hb2; simpa using this); clear hb2 BW C hc))
          go_roundg (gs.length - (k + 1))
          case measure => omega
          case rel => exact ⟨k + 1, by omega, by omega, by go_num, HB2.out, IX''⟩
        | false =>
          rw [hq] at C IX'
          have IX'' : Hid (packR gs = _) := hid (packR_no (show packB gs = false by unfold packB; rw [IX'.out]; simp))
          clear IX' hq
          go_wp2_with (go_at_call 21; go_loud (refine (C.out _ (Below.refl _ _)).mono ?_; rintro e w2 ⟨rfl, hb2⟩; have HB2 := hid (bthen HBW.out hb2); clear hb2 BW C hc))
          go_ret2
          exact ⟨by rw [IX''.out]; rfl, HB2.out⟩
      · obtain rfl : k = gs.length := by omega
        have hv : packB gs = true := by
          have := IX.out; unfold packB; rw [this, List.drop_length]; simp [h16]
        have C := hid (s_l07Text wr w.heap.size A c gs hv (hR.below hBW) kb)
        have HM := hid (packR_yes hv)
        have HBW := hid hBW
        clear IX BW hBW hv
        go_wp2_with (go_at_call 22; go_loud (refine C.out.mono ?_; rintro e w2 ⟨rfl, hb2⟩; have HB2 := hid (bthen HBW.out hb2); clear hb2))
        go_ret2
        exact ⟨by rw [HM.out]; rfl, HB2.out⟩
  · have h16' : (16 < (gs.length : Int)) := by omega
    have HM := hid (packR_no (show packB gs = false by simp [packB]; omega))
    clear h16 hR hb0
    go_enter Tryd.func7, Tryd.ntmps7
    go_wp2
    go_ret2
    exact ⟨by rw [HM.out]; rfl, HB0.out⟩
end Go.Proofs.YtmpdaafkphpnoaaDoor
