import Derived.Test.YtjcpjmijhloimaaRange2
import Derived.StillTailTactics
set_option linter.unusedVariables false
set_option linter.unusedSimpArgs false
namespace Go.Proofs.Ytjcpjmijhloimaa
open Go.RowKit

theorem pel_ext {xs ys : List PI} (h : xs.length = ys.length) (he : ∀ k, k < xs.length → pel xs k = pel ys k) : xs = ys := by
  apply List.ext_getElem? ; intro k
  by_cases hk : k < xs.length
  · rw [pel_get hk, pel_get (by omega), he k hk]
  · rw [List.getElem?_eq_none (by omega), List.getElem?_eq_none (by omega)]
theorem RdP.get {w : World} {A : Option Addr} {xs : List PI} (h : RdP w A xs) {k : Nat} (hk : k < xs.length) :
    ∃ b off, A = some ⟨b, off, none⟩ ∧ w.cell? ⟨b, off + k * 2, none⟩ = some (.int .i64 (pel xs k).1) ∧ w.cell? ⟨b, off + k * 2 + 1, none⟩ = some (.int .i64 (pel xs k).2) := h k hk
set_option maxRecDepth 100000 in
theorem l_eqRangeS (w : World) (A B : Option Addr) (c d : Nat) (xs ys : List PI) (hl : xs.length ≤ 9223372036854775807) (hl' : ys.length ≤ 9223372036854775807) (hA : RdP w A xs) (hB : RdP w B ys) :
    Calls Try.prog 41 #[.slice A xs.length c, .slice B ys.length d] w fun e w' => e = .returned (.bool (decide (xs = ys))) ∧ Below w.heap.size w w' := by
  by_cases hlen : xs.length = ys.length
  · have hne : ((xs.length : Int) != (ys.length : Int)) = false := by simp [hlen]
    have HL := hid hlen
    clear hlen
    go_enter Try.func41, Try.ntmps41
    go_wp2
    go_loopg [5] xs.length (fun gg s wr => ∃ k : Nat, k ≤ xs.length ∧ xs.length - k ≤ gg ∧ s = .int .i64 k ∧ Aside (Below w.heap.size w wr) ∧ Aside (∀ j, j < k → pel xs j = pel ys j))
    case atStart => exact ⟨0, Nat.zero_le _, by omega, rfl, Below.refl _ _, fun j hj => absurd hj (Nat.not_lt_zero _)⟩
    case round =>
      obtain ⟨k, hk, hg, rfl, BW, EQ⟩ := hrel
      by_cases hlt : k < xs.length
      · obtain ⟨b, off, rfl, hc, hc1⟩ := (hA.below BW.out).get hlt
        obtain ⟨b', off', rfl, hc', hc1'⟩ := (hB.below BW.out).get (k := k) (by have := HL.out; omega)
        have hlt' : (k : Int) < (ys.length : Int) := by have := HL.out; omega
        have hq := fun W => l_eqRange W (pel xs k).1 (pel xs k).2 (pel ys k).1 (pel ys k).2
        have HQ : Hid (((pel xs k).1 == (pel ys k).1 && (pel xs k).2 == (pel ys k).2) = decide (pel xs k = pel ys k)) := hid (by rw [Bool.eq_iff_iff]; simp [Prod.ext_iff])
        rw [HQ.out] at hq
        clear hA hB HQ
        by_cases hx : pel xs k = pel ys k
        · have hx' : decide (pel xs k = pel ys k) = true := by simpa using hx
          rw [hx'] at hq
          have HX := hid hx
          clear hx hx'
          go_wp2
          go_still_tail 8, (by kernel_rfl)
          change wpList _ _ _ _ _ wr.drew
          have BW2 : Below w.heap.size w wr.drew := ⟨BW.out.os, BW.out.tape, BW.out.output, BW.out.size, BW.out.block⟩
          clear BW hc hc1 hc' hc1'
          generalize wr.drew = w2 at BW2 ⊢
          go_wp2_with fail
          refine (hq _).mono ?_
          rintro e w3 ⟨rfl, hb3⟩
          have BW3 := bthen BW2 hb3
          clear hq
          go_wp2_with fail
          go_roundg (xs.length - (k + 1))
          case measure => omega
          case rel =>
            refine ⟨k + 1, by omega, by omega, by go_num, BW3, (show Aside _ from fun j hj => ?_)⟩
            by_cases e : j = k
            · subst e; exact HX.out
            · exact EQ.out j (by omega)
        · have hx' : decide (pel xs k = pel ys k) = false := by simpa using hx
          rw [hx'] at hq
          have hne' : decide (xs = ys) = false := by simp; rintro rfl; exact hx rfl
          have HN := hid hne'
          clear hx hx' hne'
          go_wp2
          go_still_tail 8, (by kernel_rfl)
          change wpList _ _ _ _ _ wr.drew
          have BW2 : Below w.heap.size w wr.drew := ⟨BW.out.os, BW.out.tape, BW.out.output, BW.out.size, BW.out.block⟩
          clear BW hc hc1 hc' hc1'
          generalize wr.drew = w2 at BW2 ⊢
          go_wp2_with fail
          refine (hq _).mono ?_
          rintro e w3 ⟨rfl, hb3⟩
          have BW3 := bthen BW2 hb3
          clear hq
          go_wp2_with fail
          go_ret
          exact ⟨by rw [HN.out]; rfl, BW3⟩
      · have : k = xs.length := by omega
        subst this
        have he : xs = ys := pel_ext HL.out (fun k hk => EQ.out k hk)
        have HE : Aside (decide (xs = ys) = true) := by simp [Aside, he]
        clear he
        go_wp2
        go_ret
        exact ⟨by rw [HE.out]; rfl, BW.out⟩
  · have hne : ((xs.length : Int) != (ys.length : Int)) = true := by simp; omega
    have hn : decide (xs = ys) = false := by simp; rintro rfl; exact hlen rfl
    have HN := hid hn
    clear hn hlen
    go_enter Try.func41, Try.ntmps41
    go_wp2
    go_ret
    exact ⟨by rw [HN.out]; rfl, Below.refl _ _⟩
set_option maxRecDepth 100000 in
set_option maxHeartbeats 2000000 in
theorem s_l06Ranges (w : World) (A : Option Addr) (c : Nat) (xs : List PI) (hl : xs.length ≤ 1048576) (hR : RdP w A xs) :
    Calls Try.prog 163 #[.slice A xs.length c] w fun e w' => e = .returned (.bool (rngsB xs)) ∧ Below w.heap.size w w' := by
  have q0 := fun x => s_l00In x 0 200
  have q1 := fun x a => s_l00In x a 200
  go_enter Try.func163, Try.ntmps163
  go_wp2
  go_loopg [3] xs.length (fun gg s wr => ∃ k : Nat, k ≤ xs.length ∧ xs.length - k ≤ gg ∧ s = .int .i64 k ∧ Aside (Below w.heap.size w wr) ∧ Aside (xs.all rngB = (xs.drop k).all rngB))
  case atStart => exact ⟨0, Nat.zero_le _, by omega, rfl, Below.refl _ _, rfl⟩
  case round =>
    obtain ⟨k, hk, hg, rfl, BW, AL⟩ := hrel
    by_cases hlt : k < xs.length
    · obtain ⟨b, off, rfl, hc, hc1⟩ := (hR.below BW.out).get hlt
      have hq := AL.out
      rw [pel_drop hlt, List.all_cons] at hq
      have c0 := q0 (pel xs k).1
      have hr : rngB (pel xs k) = (inB (pel xs k).1 0 200 && inB (pel xs k).2 ((pel xs k).1 + 1) 200) := by
        unfold rngB inB; rw [Bool.eq_iff_iff]; simp; omega
      cases h0 : inB (pel xs k).1 0 200 with
      | false =>
        rw [h0] at c0
        have HN : Hid (rngsB xs = false) := hid (by unfold rngsB; rw [hq, hr, h0]; simp)
        clear hr hq AL hR q0 q1 h0
        generalize (pel xs k).1 = x at hc c0
        generalize (pel xs k).2 = y at hc1
        go_wp2
        go_quiet (exact Calls.quiet_of_same ((c0 _).mono fun e w' h => ⟨h.1, h.2.symm⟩))
        go_wp2
        go_ret
        exact ⟨ret_b (by rw [HN.out]), bdrewN BW.out _⟩
      | true =>
        rw [h0] at c0
        have hx := inB_iff.1 h0
        have c1 := q1 (pel xs k).2 ((pel xs k).1 + 1)
        cases h1 : inB (pel xs k).2 ((pel xs k).1 + 1) 200 with
        | false =>
          rw [h1] at c1
          have HN : Hid (rngsB xs = false) := hid (by unfold rngsB; rw [hq, hr, h1]; simp)
          clear hr hq AL hR q0 q1 h0 h1
          generalize (pel xs k).1 = x at hc c0 c1 hx
          generalize (pel xs k).2 = y at hc1 c1
          obtain ⟨hx0, hx1⟩ := hx
          go_wp2
          go_quiet (first | with_reducible exact Calls.quiet_of_same ((c0 _).mono fun e w' h => ⟨h.1, h.2.symm⟩) | with_reducible exact Calls.quiet_of_same ((c1 _).mono fun e w' h => ⟨h.1, h.2.symm⟩))
          go_wp2
          go_ret
          exact ⟨ret_b (by rw [HN.out]), bdrewN BW.out _⟩
        | true =>
          rw [h1] at c1
          have AL' : Aside (xs.all rngB = (xs.drop (k + 1)).all rngB) := by unfold Aside; rw [hq, hr, h0, h1]; simp
          clear hr hq AL hR q0 q1 h0 h1
          generalize (pel xs k).1 = x at hc c0 c1 hx
          generalize (pel xs k).2 = y at hc1 c1
          obtain ⟨hx0, hx1⟩ := hx
          go_wp2
          go_quiet (first | with_reducible exact Calls.quiet_of_same ((c0 _).mono fun e w' h => ⟨h.1, h.2.symm⟩) | with_reducible exact Calls.quiet_of_same ((c1 _).mono fun e w' h => ⟨h.1, h.2.symm⟩))
          go_wp2
          go_roundg (xs.length - (k + 1))
          case measure => omega
          case rel => exact ⟨k + 1, by omega, by omega, by go_num, bdrewN BW.out _, AL'⟩
    · have : k = xs.length := by omega
      subst this
      have HE : Hid (rngsB xs = decide (xs.length ≤ 12)) := hid (by unfold rngsB; rw [AL.out]; simp)
      by_cases h : (xs.length : Int) ≤ 12
      all_goals
        clear AL q0 q1
        go_wp2
        go_ret
        exact ⟨ret_b (by rw [HE.out]; simp; omega), BW.out⟩
end Go.Proofs.Ytjcpjmijhloimaa
