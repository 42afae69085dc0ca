import Derived.Test.YtmpdaafkphpnoaaDoorRdc2
set_option linter.unusedVariables false
set_option linter.unusedSimpArgs false
namespace Go.Proofs.YtmpdaafkphpnoaaDoor
open Go.RowKit

theorem OC.emp (w : World) : OC (w.alloc (.cells #[] 57)) w.heap.size (w.heap.size + 1) (.slice (some ⟨w.heap.size, 0, none⟩) 0 0) [] := by
  have := Own.of (World.ownsRow_lit (base := w.heap.size) (e := 57) (size := 4) w #[] 0 (Nat.le_refl _) (by simp [maxLen]) rfl)
  simpa [OC, sfl, ints] using this
theorem s_l03Read0 (w : World) : Calls Tryd.prog 35 #[.string { data := #[] }] w (RetC w [] true) := by
  have HO := hid (OC.emp w)
  have HB := hid (ballocw w (.cells #[] 57))
  go_enter Tryd.func35, Tryd.ntmps35
  go_wp2
  go_ret2
  exact ⟨_, rfl, HO.out.wide (Nat.le_refl _) (by simp), HB.out⟩
set_option maxRecDepth 100000 in
theorem s_l03ReadL (w : World) (s : ByteArray) (n : Nat) (hne : s.toList.isEmpty = false) (hn : 16 < n) (hn2 : n ≤ 9223372036854775807)
    (CS : Hid (∀ W, Below w.heap.size w W → Calls Tryd.prog 60 #[.string s, .int .u8 59] W fun e w' => ∃ A c, e = .returned (.slice A n c) ∧ Below W.heap.size W w')) :
    Calls Tryd.prog 35 #[.string s] w (RetC w [] false) := by
  have HB := hid (ballocw w (.cells #[] 57))
  have hnz : (16 : Int) < (n : Int) := by omega
  go_enter Tryd.func35, Tryd.ntmps35
  go_wp2_with (go_at_call 60; go_loud (refine (CS.out _ HB.out).mono ?_; rintro e w1 ⟨A, c1, rfl, hb1⟩; have HB1 := hid (bthen HB.out hb1); clear hb1))
  go_ret2
  exact ⟨_, rfl, OC.nil _ _ _, HB1.out⟩
set_option maxRecDepth 100000 in
set_option maxHeartbeats 1000000 in
theorem s_l03ReadM (w : World) (s : ByteArray) (ps : List (List UInt8)) (xs : List SmV) (bb : Bool) (hne : s.toList.isEmpty = false) (hn : ps.length ≤ 16)
    (CS : Hid (∀ W, Below w.heap.size w W → Calls Tryd.prog 60 #[.string s, .int .u8 59] W fun e w' => ∃ g c, e = .returned (.slice (some ⟨g, 0, none⟩) ps.length c) ∧ Prt w' g ps ∧ (W.heap.size ≤ g ∧ g < w'.heap.size) ∧ Below W.heap.size W w'))
    (CR : Hid (∀ W k, k < ps.length → Calls Tryd.prog 61 #[.string (bstr (ptx ps k))] W fun e w' => e = .returned (.tuple #[sv (smR (ptx ps k)), .bool (stmR (ptx ps k)).2]) ∧ Below W.heap.size W w'))
    (CV : Hid (∀ W A c, RdC W A (ps.map smR) → Calls Tryd.prog 29 #[.slice A ps.length c] W fun e w' => e = .returned (.bool (codeB (ps.map smR))) ∧ W = w'))
    (HB : Hid (∀ k, k < ps.length → (stmR (ptx ps k)).2 = false → xs = [] ∧ bb = false))
    (HF : Hid (codeB (ps.map smR) = false → xs = [] ∧ bb = false))
    (HT : Hid ((∀ k, k < ps.length → (stmR (ptx ps k)).2 = true) → codeB (ps.map smR) = true → xs = ps.map smR ∧ bb = true)) :
    Calls Tryd.prog 35 #[.string s] w (RetC w xs bb) := by
  have HO0 := hid (OC.emp w)
  have HB0 := hid (ballocw w (.cells #[] 57))
  have hz0 : (w.alloc (.cells #[] 57)).heap.size = w.heap.size + 1 := by simp
  have HZ0 := hid hz0
  have hnz : ¬ (16 : Int) < (ps.length : Int) := by omega
  clear hz0
  go_enter Tryd.func35, Tryd.ntmps35
  go_wp2_with (go_at_call 60; go_loud (refine (CS.out _ HB0.out).mono ?_; rintro e w1 ⟨g, c1, rfl, hp1, hg1, hb1⟩; have HG1 := hid hg1; clear hg1; have HP1 := hid hp1; have HB1 := hid (bthen HB0.out hb1); have HO1 := hid ((OC.eqv HO0.out (Eqv.of hb1 (Nat.le_of_eq HZ0.out.symm))).wide (Nat.le_refl _) (Nat.le_trans (Nat.le_of_eq HZ0.out.symm) hb1.size)); clear hp1 hb1))
  go_loopg [4, 6] ps.length (fun gg v s6 wr => ∃ k : Nat, k ≤ ps.length ∧ ps.length - k ≤ gg ∧ s6 = .int .i64 k ∧ Aside (∀ j, j < k → (stmR (ptx ps j)).2 = true) ∧ Aside (OC wr w.heap.size wr.heap.size v ((ps.take k).map smR)) ∧ Aside (Below w.heap.size w wr) ∧ Aside (Prt wr g ps) ∧ Aside (v.ownBlock ≠ some g ∧ g < wr.heap.size))
  case atStart => exact ⟨0, Nat.zero_le _, by omega, rfl, fun j hj => absurd hj (Nat.not_lt_zero _), HO1.out, HB1.out, HP1.out, by simp [Value.ownBlock]; have := HG1.out; have := HZ0.out; omega, HG1.out.2⟩
  case round =>
    obtain ⟨k, hk, hg, rfl, AL, OW, BW, PW, NW⟩ := hrel
    clear HO1 HP1 HO0 HB0 HZ0 HB1 HG1
    by_cases hlt : k < ps.length
    · have hc := PW.out k hlt
      have hltz : (k : Int) < (ps.length : Int) := by omega
      have C := hid (CR.out wr k hlt)
      have HBk := hid (HB.out k hlt)
      have HTK := hid (ptx_take hlt smR)
      have HALk := hid (fun (h : (stmR (ptx ps k)).2 = true) => (show ∀ j, j < k + 1 → (stmR (ptx ps j)).2 = true from fun j hj => by
        by_cases e : j = k
        · subst e; exact h
        · exact AL.out j (by omega)))
      have HL : Hid (((ps.take k).map smR).length = k) := hid (by simp; omega)
      clear CS CR CV HB HF HT AL
      generalize bstr (ptx ps k) = t at *
      generalize (stmR (ptx ps k)).2 = ok at *
      generalize smR (ptx ps k) = y at *
      obtain ⟨yo, yd, ya, yb⟩ := y
      have hlen : ((ps.take k).map smR).length + 1 ≤ 2097152 := by rw [HL.out]; omega
      have HLEN := hid hlen
      clear hlen
      cases ok with
      | false =>
        obtain ⟨rfl, rfl⟩ := HBk.out rfl
        go_wp2_with (go_at_call 61; go_loud (refine C.out.mono ?_; rintro e w2 ⟨rfl, hb2⟩; have HB2 := hid hb2; clear hb2))
        go_ret2
        exact ⟨_, rfl, OC.nil _ _ _, balloc (bthen BW.out HB2.out) _⟩
      | true =>
        have HPW := hid PW.out
        clear PW
        go_wp2_with (first
          | (go_at_call 61; go_loud (refine C.out.mono ?_; rintro e w2 ⟨rfl, hb2⟩; have hb3 := bthen hb2 (ballocw w2 (.cells #[.int .i64 yo, .int .i64 yd, .int .i64 ya, .int .i64 yb] 57)); have HO3 := hid ((OC.eqv OW.out (Eqv.of hb3 (Nat.le_refl _))).wide (Nat.le_refl _) hb3.size); have HB3 := hid (bthen BW.out hb3); have HZ3 := hid HB3.out.size; have HP3 := hid (HPW.out.below hb3); have HN3 := hid (Nat.lt_of_lt_of_le NW.out.2 hb3.size); clear hb2 hb3))
          | (at_builtin; go_loud (refine wp_appendCf w.heap.size rfl _ _ rfl u4 ((ps.take k).map smR) yo yd ya yb (w2.heap.size + 1) (by simp) rfl rfl HO3.out HZ3.out HLEN.out ?_; intro v4 w4 hown4 hbel4 hfar; have HO4 := hid hown4; have HB4 := hid (HB3.out.trans hbel4); have HF4 := hid (hfar g HN3.out NW.out.1); have HX4 := hid hbel4.size; clear hown4 hbel4 hfar)))
        go_roundg (ps.length - (k + 1))
        case measure => omega
        case rel => exact ⟨k + 1, by omega, by omega, by go_num, HALk.out (by first | rfl | trivial), by rw [HTK.out]; exact HO4.out, HB4.out, fun j hj => (World.cell?_of_block (a := ⟨g, j, none⟩) HF4.out.1).trans (HP3.out j hj), HF4.out.2, Nat.lt_of_lt_of_le HN3.out HX4.out⟩
    · obtain rfl : k = ps.length := by omega
      have OW' := hid OW.out
      rw [List.take_length] at OW'
      obtain ⟨A, c, rfl, _, _, hR⟩ := OW'.out.shp
      have CV' := hid (CV.out wr A c hR)
      have HT' := hid (HT.out AL.out)
      have hltz : ¬ (ps.length : Int) < (ps.length : Int) := by omega
      rw [List.length_map] at OW'
      clear CV HT HB CS CR OW hR AL PW
      cases hv : codeB (ps.map smR) with
      | false =>
        rw [hv] at CV'
        obtain ⟨rfl, rfl⟩ := HF.out hv
        clear HT' hv HF
        go_wp2_with (go_at_call 29; go_loud (refine CV'.out.mono ?_; rintro e w2 ⟨rfl, rfl⟩))
        go_ret2
        exact ⟨_, rfl, OC.nil _ _ _, BW.out⟩
      | true =>
        rw [hv] at CV'
        obtain ⟨rfl, rfl⟩ := HT'.out hv
        clear HT' hv HF
        go_wp2_with (go_at_call 29; go_loud (refine CV'.out.mono ?_; rintro e w2 ⟨rfl, rfl⟩))
        go_ret2
        exact ⟨_, rfl, OW'.out, BW.out⟩
end Go.Proofs.YtmpdaafkphpnoaaDoor
