import Derived.Test.YtcknhjeefdbhbaaTask3
set_option linter.unusedVariables false
set_option linter.unusedSimpArgs false
namespace Go.Proofs.Ytcknhjeefdbhbaa
open Go.RowKit

theorem task_eq (a b : TaskV) : decide (a = b) = (decide (a.port = b.port) && (decide (a.lat = b.lat) && decide (a.needs = b.needs))) := by
  cases a; cases b; rw [Bool.eq_iff_iff]; simp
set_option maxRecDepth 100000 in
theorem l_eqTaskS (w : World) (A B : Option Addr) (c d : Nat) (xs ys : List TaskV) (hl : BigT xs) (hl' : BigT ys) (hA : RdT w A xs) (hB : RdT w B ys) :
    Calls Try.prog 65 #[.slice A xs.length c, .slice B ys.length d] w fun e w' => e = .returned (.bool (decide (xs = ys))) ∧ Below w.heap.size w w' := by
  have hn := hl.1
  have hn' := hl'.1
  have HX1 : Hid (BigT xs) := hid hl
  have HY1 : Hid (BigT ys) := hid hl'
  have HRA := hid hA
  have HRB := hid hB
  clear hl hl' hA hB
  by_cases hlen : xs.length = ys.length
  · have hne : ((xs.length : Int) != (ys.length : Int)) = false := by simp [hlen]
    have HL := hid hlen
    clear hlen
    go_enter Try.func65, Try.ntmps65
    go_wp2
    go_loopg [5] xs.length (fun gg s wr => ∃ k : Nat, k ≤ xs.length ∧ xs.length - k ≤ gg ∧ s = .int .i64 k ∧ Aside (Below w.heap.size w wr) ∧ Aside (∀ j, j < k → tel xs j = tel ys j))
    case atStart => exact ⟨0, Nat.zero_le _, by omega, rfl, Below.refl _ _, fun j hj => absurd hj (Nat.not_lt_zero _)⟩
    case round =>
      obtain ⟨k, hk, hg, rfl, BW, EQ⟩ := hrel
      by_cases hlt : k < xs.length
      · obtain ⟨b, off, A1, c1, rfl, ha0, ha1, ha2, _, hr⟩ := (HRA.out.below BW.out).get hlt
        obtain ⟨b', off', A2, c2, rfl, hb0, hb1, hb2, _, hr'⟩ := (HRB.out.below BW.out).get (k := k) (by have := HL.out; omega)
        have hlt' : (k : Int) < (ys.length : Int) := by have := HL.out; omega
        have hbd : Below wr.heap.size wr wr.drew := ⟨rfl, rfl, rfl, Nat.le_refl _, fun _ _ => rfl⟩
        have hq := l_eqTask wr.drew (tel xs k).port (tel xs k).lat (tel ys k).port (tel ys k).lat A1 A2 (tel xs k).needs.length c1 (tel ys k).needs.length c2 (decide ((tel xs k).needs = (tel ys k).needs))
          (hid fun W hW => l_eqInt64S W A1 A2 c1 c2 (tel xs k).needs (tel ys k).needs (HX1.out.2 k hlt) (HY1.out.2 k (by have := HL.out; omega)) ((hr.below hbd).below hW) ((hr'.below hbd).below hW))
        rw [← task_eq] at hq
        clear hr hr' hbd
        have BW2 : Hid (Below w.heap.size w wr.drew) := hid ⟨BW.out.os, BW.out.tape, BW.out.output, BW.out.size, BW.out.block⟩
        by_cases hx : tel xs k = tel ys k
        · have hx' : decide (tel xs k = tel ys k) = true := by simpa using hx
          rw [hx'] at hq
          have HX := hid hx
          have HQ := hid hq
          clear hx hx' hq BW
          go_wp2
          go_still_tail 8, (by kernel_rfl)
          change wpList _ _ _ _ _ wr.drew
          clear ha0 ha1 ha2 hb0 hb1 hb2
          go_wp2_with fail
          refine HQ.out.mono ?_
          rintro e w3 ⟨rfl, hb3⟩
          have BW3 : Aside (Below w.heap.size w w3) := bthen BW2.out hb3
          clear HQ
          go_wp2_with fail
          go_roundg (xs.length - (k + 1))
          case measure => omega
          case rel =>
            refine ⟨k + 1, by omega, by omega, by go_num, BW3, (show Aside _ from fun j hj => ?_)⟩
            by_cases e : j = k
            · subst e; exact HX.out
            · exact EQ.out j (by omega)
        · have hx' : decide (tel xs k = tel ys k) = false := by simpa using hx
          rw [hx'] at hq
          have hne' : decide (xs = ys) = false := by simp; rintro rfl; exact hx rfl
          have HN := hid hne'
          have HQ := hid hq
          clear hx hx' hne' hq BW
          go_wp2
          go_still_tail 8, (by kernel_rfl)
          change wpList _ _ _ _ _ wr.drew
          clear ha0 ha1 ha2 hb0 hb1 hb2
          go_wp2_with fail
          refine HQ.out.mono ?_
          rintro e w3 ⟨rfl, hb3⟩
          have BW3 := bthen BW2.out hb3
          clear HQ
          go_wp2_with fail
          go_ret
          exact ⟨by rw [HN.out]; rfl, BW3⟩
      · have : k = xs.length := by omega
        subst this
        have he : xs = ys := tel_ext HL.out (fun k hk => EQ.out k hk)
        have HE : Aside (decide (xs = ys) = true) := by simp [Aside, he]
        clear he
        go_wp2
        go_ret
        exact ⟨by rw [HE.out]; rfl, BW.out⟩
  · have hne : ((xs.length : Int) != (ys.length : Int)) = true := by simp; omega
    have hn : decide (xs = ys) = false := by simp; rintro rfl; exact hlen rfl
    have HN := hid hn
    clear hn hlen
    go_enter Try.func65, Try.ntmps65
    go_wp2
    go_ret
    exact ⟨by rw [HN.out]; rfl, Below.refl _ _⟩
theorem l_eqTaskSO (w : World) (lo hi lo' hi' : Nat) (v v' : Value) (xs ys : List TaskV) (hl : tsz xs ≤ 1048576) (hl' : tsz ys ≤ 1048576) (h : OT w lo hi v xs) (h' : OT w lo' hi' v' ys) :
    Calls Try.prog 65 #[v, v'] w fun e w' => e = .returned (.bool (decide (xs = ys))) ∧ Below w.heap.size w w' := by
  obtain ⟨A, c, rfl, _, _, hr⟩ := h.shp
  obtain ⟨A', c', rfl, _, _, hr'⟩ := h'.shp
  exact l_eqTaskS w A A' c c' xs ys (bigT_of hl) (bigT_of hl') hr hr'
end Go.Proofs.Ytcknhjeefdbhbaa
