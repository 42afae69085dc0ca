import Derived.Test.YtbijdbdgdolnpaaRws3
set_option linter.unusedVariables false
set_option linter.unusedSimpArgs false
namespace Go.Proofs.Ytbijdbdgdolnpaa
open Go.RowKit

theorem drewN_add (w : World) (a b : Nat) : (w.drewN a).drewN b = w.drewN (a + b) := by simp [World.drewN, Nat.add_assoc]
theorem l_r8SameQ (w : World) (A B : Option Addr) (c d : Nat) (xs ys : List Int) (hl : xs.length ≤ 9223372036854775807) (hl' : ys.length ≤ 9223372036854775807) (hA : RdI w A xs) (hB : RdI w B ys) :
    Calls Try.prog 61 #[.slice A xs.length c, .slice B ys.length d] w fun e w' => e = .returned (.bool (decide (xs = ys))) ∧ ∃ m, w' = w.drewN m := by
  by_cases hlen : xs.length = ys.length
  · have hne : ((xs.length : Int) != (ys.length : Int)) = false := by simp [hlen]
    have HL := hid hlen
    clear hlen
    go_enter Try.func61, Try.ntmps61
    go_wp2
    go_loopg [5] xs.length (fun gg s wr => ∃ k : Nat, k ≤ xs.length ∧ xs.length - k ≤ gg ∧ s = .int .i64 k ∧ Aside (∃ m, wr = w.drewN m) ∧ Aside (∀ j, j < k → el xs j = el ys j))
    case atStart => exact ⟨0, Nat.zero_le _, by omega, rfl, ⟨0, rfl⟩, fun j hj => absurd hj (Nat.not_lt_zero _)⟩
    case round =>
      obtain ⟨k, hk, hg, rfl, BW, EQ⟩ := hrel
      obtain ⟨m, rfl⟩ := BW.out
      by_cases hlt : k < xs.length
      · obtain ⟨b, off, rfl, hc⟩ := hA k hlt
        obtain ⟨b', off', rfl, hc'⟩ := hB k (by have := HL.out; omega)
        have hlt' : (k : Int) < (ys.length : Int) := by have := HL.out; omega
        by_cases hx : el xs k = el ys k
        · have hb : (el xs k != el ys k) = false := by simp [hx]
          have HX := hid hx
          clear hx hA hB
          go_wp2
          go_quiet (fail)
          go_wp2
          go_roundg (xs.length - (k + 1))
          case measure => omega
          case rel =>
            refine ⟨k + 1, by omega, by omega, by go_num, (by first | exact ⟨_, rfl⟩ | exact ⟨_, drewN_add w _ _⟩), (show Aside _ from fun j hj => ?_)⟩
            by_cases e : j = k
            · subst e; exact HX.out
            · exact EQ.out j (by omega)
        · have hb : (el xs k != el ys k) = true := by simp [hx]
          have hne' : decide (xs = ys) = false := by simp; rintro rfl; exact hx rfl
          have HN := hid hne'
          clear hx hA hB hne'
          go_wp2
          go_quiet (fail)
          go_wp2
          go_ret
          exact ⟨by rw [HN.out]; rfl, (by first | exact ⟨_, rfl⟩ | exact ⟨_, drewN_add w _ _⟩)⟩
      · have : k = xs.length := by omega
        subst this
        have he : xs = ys := el_ext HL.out (fun k hk => EQ.out k hk)
        have HE : Aside (decide (xs = ys) = true) := by simp [Aside, he]
        clear he
        go_wp2
        go_ret
        exact ⟨by rw [HE.out]; rfl, ⟨m, rfl⟩⟩
  · have hne : ((xs.length : Int) != (ys.length : Int)) = true := by simp; omega
    have hn : decide (xs = ys) = false := by simp; rintro rfl; exact hlen rfl
    have HN := hid hn
    clear hn hlen
    go_enter Try.func61, Try.ntmps61
    go_wp2
    go_ret
    exact ⟨by rw [HN.out]; rfl, ⟨0, rfl⟩⟩

set_option maxRecDepth 100000 in
theorem l_r8RowsQ (w : World) (A B : Option Addr) (c d : Nat) (xs ys : List (List Int)) (hl : BigR xs) (hl' : BigR ys) (hA : RdR w A xs) (hB : RdR w B ys) :
    Calls Try.prog 19 #[.slice A xs.length c, .slice B ys.length d] w fun e w' => e = .returned (.bool (decide (xs = ys))) ∧ ∃ m, w' = w.drewN m := by
  have hn := hl.1
  have hn' := hl'.1
  have HX1 : Hid (BigR xs) := hid hl
  have HY1 : Hid (BigR ys) := hid hl'
  have HRA := hid hA
  have HRB := hid hB
  clear hl hl' hA hB
  by_cases hlen : xs.length = ys.length
  · have hne : ((xs.length : Int) != (ys.length : Int)) = false := by simp [hlen]
    have HL := hid hlen
    clear hlen
    go_enter Try.func19, Try.ntmps19
    go_wp2
    go_loopg [5] xs.length (fun gg s wr => ∃ k : Nat, k ≤ xs.length ∧ xs.length - k ≤ gg ∧ s = .int .i64 k ∧ Aside (∃ m, wr = w.drewN m) ∧ Aside (∀ j, j < k → rw_ xs j = rw_ ys j))
    case atStart => exact ⟨0, Nat.zero_le _, by omega, rfl, ⟨0, rfl⟩, fun j hj => absurd hj (Nat.not_lt_zero _)⟩
    case round =>
      obtain ⟨k, hk, hg, rfl, BW, EQ⟩ := hrel
      obtain ⟨m, hm⟩ := BW.out
      have HM := hid hm
      have HRA' : RdR wr A xs := by rw [hm]; exact HRA.out
      have HRB' : RdR wr B ys := by rw [hm]; exact HRB.out
      clear hm
      by_cases hlt : k < xs.length
      · obtain ⟨b, off, A1, c1, rfl, hc, _, hr⟩ := HRA'.get hlt
        obtain ⟨b', off', A2, c2, rfl, hc', _, hr'⟩ := HRB'.get (k := k) (by have := HL.out; omega)
        have hlt' : (k : Int) < (ys.length : Int) := by have := HL.out; omega
        have hq := fun W (hA : RdI W A1 (rw_ xs k)) (hB : RdI W A2 (rw_ ys k)) => l_r8SameQ W A1 A2 c1 c2 (rw_ xs k) (rw_ ys k) (HX1.out.2 k hlt) (HY1.out.2 k (by have := HL.out; omega)) hA hB
        have HQR := hid (fun n : Nat => (And.intro (show RdI (wr.drewN n) A1 (rw_ xs k) from hr) (show RdI (wr.drewN n) A2 (rw_ ys k) from hr')))
        clear hr hr' HRA' HRB'
        by_cases hx : rw_ xs k = rw_ ys k
        · have hx' : decide (rw_ xs k = rw_ ys k) = true := by simpa using hx
          simp only [hx'] at hq
          have HX := hid hx
          have HQ := hid hq
          clear hx hx' hq
          generalize (rw_ xs k).length = n1 at *
          generalize (rw_ ys k).length = n2 at *
          go_wp2
          go_quiet (exact Calls.quiet_of (HQ.out _ (HQR.out _).1 (HQR.out _).2))
          clear hc hc' HQ HQR
          go_wp2_with fail
          go_roundg (xs.length - (k + 1))
          case measure => omega
          case rel =>
            refine ⟨k + 1, by omega, by omega, by go_num, ⟨_, by rw [HM.out]; exact drewN_add w _ _⟩, (show Aside _ from fun j hj => ?_)⟩
            by_cases e : j = k
            · subst e; exact HX.out
            · exact EQ.out j (by omega)
        · have hx' : decide (rw_ xs k = rw_ ys k) = false := by simpa using hx
          simp only [hx'] at hq
          have hne' : decide (xs = ys) = false := by simp; rintro rfl; exact hx rfl
          have HN := hid hne'
          have HQ := hid hq
          clear hx hx' hne' hq
          generalize (rw_ xs k).length = n1 at *
          generalize (rw_ ys k).length = n2 at *
          go_wp2
          go_quiet (exact Calls.quiet_of (HQ.out _ (HQR.out _).1 (HQR.out _).2))
          clear hc hc' HQ HQR
          go_wp2_with fail
          go_ret
          exact ⟨by rw [HN.out]; rfl, ⟨_, by rw [HM.out]; exact drewN_add w _ _⟩⟩
      · have : k = xs.length := by omega
        subst this
        have he : xs = ys := rw_ext HL.out (fun k hk => EQ.out k hk)
        have HE : Aside (decide (xs = ys) = true) := by simp [Aside, he]
        clear he
        go_wp2
        go_ret
        exact ⟨by rw [HE.out]; rfl, ⟨m, HM.out⟩⟩
  · have hne : ((xs.length : Int) != (ys.length : Int)) = true := by simp; omega
    have hn : decide (xs = ys) = false := by simp; rintro rfl; exact hlen rfl
    have HN := hid hn
    clear hn hlen
    go_enter Try.func19, Try.ntmps19
    go_wp2
    go_ret
    exact ⟨by rw [HN.out]; rfl, ⟨0, rfl⟩⟩
end Go.Proofs.Ytbijdbdgdolnpaa
