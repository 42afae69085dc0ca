import Derived.Test.YtmpdaafkphpnoaaGreatUnt
import Derived.Test.YtmpdaafkphpnoaaGreatOwnA
import Derived.Test.YtmpdaafkphpnoaaGreatHts3
import Derived.Test.YtmpdaafkphpnoaaGreatCalm
set_option linter.unusedVariables false
set_option linter.unusedSimpArgs false
namespace Go.Proofs.YtmpdaafkphpnoaaGreat
open Go.RowKit

theorem fst_has (xs : List Int) (v : Int) : decide (0 ≤ fst xs v) = hasB xs v := by
  rw [Bool.eq_iff_iff, decide_eq_true_iff, hasB_iff]
  have := fst_neg (xs := xs) (v := v)
  constructor
  · intro h
    apply Classical.byContradiction
    intro q
    have := this.2 q
    omega
  · intro h
    rcases Int.lt_or_le (fst xs v) 0 with q | q
    · exact absurd h (this.1 q)
    · exact q
theorem i_units1 (W : World) (A : Option Addr) (c b : Nat) (u : List Int) (i : Int) (hl : u.length ≤ 1048576) (hb : W.cell? ⟨b, 0, none⟩ = some (.int .i64 i)) (hR : RdI W A u) :
    Calls Tryz.prog 133 #[.slice A u.length c, .pointer (some ⟨b, 0, none⟩)] W fun e w' => e = .returned (.bool (hasB u i)) ∧ W = w' := by
  have C := hid (g_Contains W A c u i (by omega) hR)
  rw [fst_has] at C
  clear hR
  generalize hasB u i = r at *
  go_enter Tryz.func133, Tryz.ntmps133
  go_wp2_with (go_at_call 134; go_loud (refine C.out.mono ?_; rintro e w1 ⟨rfl, rfl⟩))
  go_ret
  exact ⟨rfl, rfl⟩
theorem i_units2 (W : World) (A A' : Option Addr) (c c' : Nat) (u v : List Int) (a b : Nat) (hl : u.length ≤ 1048576) (hl' : v.length ≤ 1048576) (h1 : 1 ≤ u.length) (h1' : 1 ≤ v.length) (ha : Lib.minOf u = a) (hb : Lib.minOf v = b) (ha16 : a < 16) (hb16 : b < 16) (hR : RdI W A u) (hR' : RdI W A' v) :
    Calls Tryz.prog 136 #[.slice A u.length c, .slice A' v.length c'] W fun e w' => e = .returned (.int .i64 ((a : Int) - b)) ∧ W = w' := by
  have C := hid (g_Min W A c u hl h1 hR)
  have C' := hid (g_Min W A' c' v hl' h1' hR')
  rw [ha] at C
  rw [hb] at C'
  clear hR hR' ha hb hl hl' h1 h1'
  generalize u.length = n at *
  generalize v.length = n' at *
  go_enter Tryz.func136, Tryz.ntmps136
  go_wp2_with fail
  refine C.out.mono ?_
  rintro e w1 ⟨rfl, rfl⟩
  go_wp2_with fail
  refine C'.out.mono ?_
  rintro e w2 ⟨rfl, rfl⟩
  go_wp2_with fail
  go_ret
  exact ⟨rfl, rfl⟩
theorem ndL_set {cs : List SmV} {j : Nat} (h : j < cs.length) : ((ndL cs).take j ++ List.replicate (cs.length - j) 0).set j (ndM cs j j : Int) = (ndL cs).take (j + 1) ++ List.replicate (cs.length - (j + 1)) 0 := by
  have e : (ndL cs).take (j + 1) = (ndL cs).take j ++ [(ndM cs j j : Int)] := by rw [el_take (by rw [ndL_length]; exact h), ndL_el h]
  obtain ⟨m, hm⟩ : ∃ m, cs.length - j = m + 1 := ⟨cs.length - j - 1, by omega⟩
  have hl : ((ndL cs).take j).length = j := by rw [List.length_take, ndL_length]; omega
  rw [e, hm, show cs.length - (j + 1) = m from by omega, List.replicate_succ, List.set_append_right _ _ (by omega), hl, Nat.sub_self]
  simp
theorem ndL_len {cs : List SmV} {j : Nat} (h : j ≤ cs.length) : ((ndL cs).take j ++ List.replicate (cs.length - j) 0).length = cs.length := by
  rw [List.length_append, List.length_take, ndL_length, List.length_replicate]; omega
theorem ndL_zero {cs : List SmV} {j : Nat} (h : j < cs.length) : ((ndL cs).take j ++ List.replicate (cs.length - j) 0).set j (ndM cs j 0 : Int) = (ndL cs).take j ++ List.replicate (cs.length - j) 0 := by
  obtain ⟨m, hm⟩ : ∃ m, cs.length - j = m + 1 := ⟨cs.length - j - 1, by omega⟩
  have hl : ((ndL cs).take j).length = j := by rw [List.length_take, ndL_length]; omega
  rw [hm, List.replicate_succ, List.set_append_right _ _ (by omega), hl, Nat.sub_self]
  simp [ndM]
set_option maxRecDepth 100000 in
set_option maxHeartbeats 1000000 in
theorem i_before (w : World) (A : Option Addr) (c : Nat) (cs : List SmV) (h16 : cs.length ≤ 16) (hR : RdC w A cs) :
    Calls Tryz.prog 137 #[.slice A cs.length c] w fun e w' => ∃ v, e = .returned v ∧ Own w' w.heap.size w'.heap.size 3 1 v cs.length (ints (ndL cs)) ∧ Below w.heap.size w w' := by
  have hmk := makeGoInt cs.length (by omega)
  have HR := hid hR
  have H16 := hid h16
  have HNL := hid (ndL_length cs)
  clear hR
  go_enter Tryz.func137, Tryz.ntmps137
  go_wp2
  clear hmk
  go_loopg [11] cs.length (fun gg s wr => ∃ j : Nat, j ≤ cs.length ∧ cs.length - j ≤ gg ∧ s = .int .i64 j ∧ Aside (Below w.heap.size w wr) ∧
    Aside (Own wr w.heap.size (w.heap.size + 1) 3 1 (.slice (some ⟨w.heap.size, 0, none⟩) cs.length cs.length) cs.length (ints ((ndL cs).take j ++ List.replicate (cs.length - j) 0))))
  case atStart => exact ⟨0, Nat.zero_le _, by omega, rfl, ballocw w _, by unfold Aside; simpa [ints_replicate] using own_made w 3 (.int .i64 0) cs.length (by omega)⟩
  case round =>
    obtain ⟨j, hj, hg, rfl, BW, OW⟩ := hrel
    obtain ⟨wk, rfl⟩ : ∃ wk : World, wk = wr := ⟨_, rfl⟩
    by_cases hlt : j < cs.length
    · have hltz : (j : Int) < (cs.length : Int) := by omega
      have OW0 := OW.out
      rw [← ndL_zero hlt] at OW0
      have HLX := hid (ndL_len (cs := cs) (j := j) (by omega))
      have HST := hid (ndL_set hlt)
      have HO0 := hid OW0
      have HG := hid hg
      have HJ := hid hlt
      clear OW0 OW hg hj
      generalize (ndL cs).take j ++ List.replicate (cs.length - j) 0 = X at *
      go_wp2
      go_loopg [15] j (fun gg s wr => ∃ i : Nat, i ≤ j ∧ j - i ≤ gg ∧ s = .int .i64 i ∧ Aside (Below w.heap.size w wr) ∧
        Aside (Own wr w.heap.size (w.heap.size + 1) 3 1 (.slice (some ⟨w.heap.size, 0, none⟩) cs.length cs.length) cs.length (ints (X.set j (ndM cs j i : Int)))))
      case atStart => exact ⟨0, Nat.zero_le _, by omega, rfl, BW.out, HO0.out⟩
      case round =>
        obtain ⟨i, hi, hgi, rfl, BJ, OJ⟩ := hrel
        obtain ⟨wi, rfl⟩ : ∃ wi : World, wi = wr := ⟨_, rfl⟩
        clear HO0
        by_cases hil : i < j
        · obtain ⟨b, off, rfl, hat⟩ := (HR.out.below BJ.out).at (by omega)
          obtain ⟨e1, e2, e3, e4⟩ := hat i (by omega)
          obtain ⟨i1, i2, i3, i4⟩ := hat j hlt
          have hq := fun W => i_follows W (sel cs i) (sel cs j)
          have hnx : ndM cs j (i + 1) = if folB (sel cs i) (sel cs j) then ndM cs j i ||| 2 ^ i else ndM cs j i := rfl
          have HM16 := hid (ndM_small cs j (k := i) (by omega))
          have HGI := hid hgi
          have HIL := hid hil
          have hiz : (i : Int) < (j : Int) := by omega
          have hi16 : i < 16 := by omega
          have hz1 : (i : Int) < (cs.length : Int) := by omega
          clear hat hgi hi
          generalize hx : sel cs i = x at *
          generalize hy : sel cs j = y at *
          clear hx hy
          cases hf : folB x y with
          | false =>
            rw [hf] at hq hnx
            have HQ := hid hq
            have HNX : Hid (ndM cs j (i + 1) = ndM cs j i) := hid hnx
            clear hf hq hnx
            obtain ⟨xo, xd, xa, xb⟩ := x
            obtain ⟨yo, yd, ya, yb⟩ := y
            have e1 := lcell e1
            have e2 := lcell e2
            have e3 := lcell e3
            have e4 := lcell e4
            have i1 := lcell i1
            have i2 := lcell i2
            have i3 := lcell i3
            have i4 := lcell i4
            go_wp2
            refine wp_region_calm (by kernel_rfl) (by kernel_rfl) ?_
            repeat (go_big_quiet_step (exact calm_of (HQ.out _)))
            refine wpQuiet_nil ?_
            intro _ hw'
            obtain ⟨xq, hw''⟩ := hw'
            subst hw''
            have BJ3 := hid (bthen BJ.out xq.below)
            have OJ3 := hid (Own.eqv OJ.out (Eqv.of xq.below (by have : w.heap.size < wi.heap.size := (OJ.out.1.lt _ rfl).2; omega)))
            go_wp2_with fail
            go_roundg (j - (i + 1))
            case measure => have := HIL.out; have := HGI.out; go_light; omega
            case rel => exact ⟨i + 1, HIL.out, Nat.le_refl _, by have := HIL.out; go_num, BJ3.out, by rw [HNX.out]; exact OJ3.out⟩
          | true =>
            rw [hf] at hq hnx
            have HQ := hid hq
            have HNX : Hid (ndM cs j (i + 1) = ndM cs j i ||| 2 ^ i) := hid hnx
            have HY : Hid (bits .or .i64 ((ndM cs j i : Nat) : Int) (wrap64 ((2 : Int) ^ i)) = ((ndM cs j (i + 1) : Nat) : Int)) := hid (by rw [HNX.out, pow_wrap hi16, msk_or _ _ HM16.out (pow_small16 hi16)])
            clear hf hq hnx HNX
            obtain ⟨xo, xd, xa, xb⟩ := x
            obtain ⟨yo, yd, ya, yb⟩ := y
            have e1 := lcell e1
            have e2 := lcell e2
            have e3 := lcell e3
            have e4 := lcell e4
            have i1 := lcell i1
            have i2 := lcell i2
            have i3 := lcell i3
            have i4 := lcell i4
            have hjl : j < X.length := by have := HLX.out; omega
            have HJX := hid hjl
            clear hjl
            generalize ndM cs j i = m1 at *
            go_wp2
            refine wp_region_calm (by kernel_rfl) (by kernel_rfl) ?_
            repeat (go_big_quiet_step (exact calm_of (HQ.out _)))
            refine wpQuiet_nil ?_
            intro _ hw'
            obtain ⟨xq, hw''⟩ := hw'
            subst hw''
            have BJ3 := hid (bthen BJ.out xq.below)
            have OJ3 := hid (Own.eqv OJ.out (Eqv.of xq.below (by have : w.heap.size < wi.heap.size := (OJ.out.1.lt _ rfl).2; omega)))
            generalize xq.val = W3 at *
            clear e1 e2 e3 e4 i1 i2 i3 i4
            obtain ⟨hck, hfk⟩ := own_cell (own_drew OJ3.out) (k := j) (by rw [List.length_set]; exact HJX.out)
            have hck' := (own_cell OJ3.out (k := j) (by rw [List.length_set]; exact HJX.out)).1
            rw [el_set_same HJX.out] at hck hck'
            have OJ4 := hid (own_drew (own_put OJ3.out j (bits .or .i64 (m1 : Int) (wrap64 ((2 : Int) ^ i)))))
            rw [List.set_set] at OJ4
            have BJ4 := hid (bdrew (bset BJ3.out (Nat.le_refl w.heap.size) (p := ⟨w.heap.size, j, none⟩) (.int .i64 (bits .or .i64 (m1 : Int) (wrap64 ((2 : Int) ^ i))))))
            have HI16 := hid hi16
            clear HM16
            go_wp2
            go_still_tail 8, (by kernel_rfl)
            change wpList _ _ _ _ _ W3.drew
            go_wp2
            go_roundg (j - (i + 1))
            case measure => have := HIL.out; have := HGI.out; go_light; omega
            case rel => exact ⟨i + 1, HIL.out, Nat.le_refl _, by have := HIL.out; go_num, BJ4.out, by rw [← HY.out]; exact OJ4.out⟩
        · obtain rfl : i = j := by omega
          rw [HST.out] at OJ
          have hiz : ¬ (i : Int) < (i : Int) := by omega
          go_wp2
          go_roundg (cs.length - (i + 1))
          case measure => have := HJ.out; have := HG.out; go_light; omega
          case rel => exact ⟨i + 1, HJ.out, Nat.le_refl _, by have := HJ.out; go_num, BJ.out, OJ.out⟩
    · obtain rfl : j = cs.length := by omega
      have hltz : ¬ (cs.length : Int) < (cs.length : Int) := by omega
      go_wp2
      go_ret
      refine ⟨_, rfl, ?_, BW.out⟩
      have := OW.out
      rw [Nat.sub_self, List.replicate_zero, List.append_nil, List.take_of_length_le (by rw [HNL.out]; exact Nat.le_refl _)] at this
      exact Own.wide this (Nat.le_refl _) (by have : w.heap.size < wk.heap.size := (this.1.lt _ rfl).2; omega)
end Go.Proofs.YtmpdaafkphpnoaaGreat
