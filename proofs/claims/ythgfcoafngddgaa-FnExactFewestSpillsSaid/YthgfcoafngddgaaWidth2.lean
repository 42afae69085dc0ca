import Derived.Test.YthgfcoafngddgaaWidth
set_option linter.unusedVariables false
set_option linter.unusedSimpArgs false
namespace Go.Proofs.Ythgfcoafngddgaa
open Go.RowKit

theorem s_l00Max (w : World) (a b : Int) : Calls Try.prog 160 #[.int .i64 a, .int .i64 b] w fun e w' => e = .returned (.int .i64 (max a b)) ∧ w = w' := by
  by_cases h : b < a
  all_goals
    go_enter Try.func160, Try.ntmps160
    go_wp2
    go_ret
    exact ⟨ret_i (by omega), rfl⟩
set_option maxRecDepth 100000 in
theorem s_l06Width (w : World) (A : Option Addr) (c : Nat) (xs : List PI) (hl : xs.length ≤ 1048576) (hR : RdP w A xs) :
    Calls Try.prog 131 #[.slice A xs.length c, .int .i64 0] w fun e w' => e = .returned (.int .i64 (widN xs xs.length)) ∧ Below w.heap.size w w' := by
  have HR := hid hR
  clear hR
  have hbz : (bits BinOp.and IntKind.i64 0 1 == 0) = true := by decide
  have hmx := s_l00Max
  have HM := hid hmx
  clear hmx
  go_enter Try.func131, Try.ntmps131
  go_wp2
  go_loopg [5, 6] xs.length (fun gg m s wr => ∃ k : Nat, k ≤ xs.length ∧ xs.length - k ≤ gg ∧ s = .int .i64 k ∧ m = .int .i64 (widN xs k) ∧ Aside (Below w.heap.size w wr))
  case atStart => exact ⟨0, Nat.zero_le _, by omega, rfl, rfl, Below.refl _ _⟩
  case round =>
    obtain ⟨k, hk, hg, rfl, rfl, BW⟩ := hrel
    by_cases hlt : k < xs.length
    · obtain ⟨b, off, rfl, hc, hc1⟩ := (HR.out.below BW.out).get hlt
      obtain ⟨wo, rfl⟩ : ∃ wo : World, wo = wr := ⟨_, rfl⟩
      rcases hp : pel xs k with ⟨x, y⟩
      simp only [hp] at hc hc1
      have HW : Hid (widN xs (k + 1) = max (widN xs k) (cntN xs x xs.length)) := hid (by simp only [widN, hp])
      clear hp
      have HC0 := hid hc
      clear hc hc1
      go_wp2_with fail
      go_loopg [7, 8] xs.length (fun gg m s wj => ∃ j : Nat, j ≤ xs.length ∧ xs.length - j ≤ gg ∧ s = .int .i64 j ∧ m = .int .i64 (cntN xs x j) ∧ Aside (Below wo.heap.size wo wj))
      case atStart => exact ⟨0, Nat.zero_le _, by omega, rfl, rfl, Below.refl _ _⟩
      case round =>
        obtain ⟨j, hj, hgj, rfl, rfl, BJ⟩ := hrel
        by_cases hlj : j < xs.length
        · obtain ⟨b', off', e', hd, hd1⟩ := ((HR.out.below BW.out).below BJ.out).get hlj
          cases e'
          have hbx := bcell BJ.out HC0.out
          obtain ⟨hcj0, hcj1⟩ := cntN_range xs x j
          rcases hp : pel xs j with ⟨p, q⟩
          have hst : cntN xs x (j + 1) = cntN xs x j + (if (decide (p ≤ x) && decide (x < q)) = true then 1 else 0) := by simp only [cntN, hp, cont]
          simp only [hp] at hd hd1
          clear hp
          by_cases h1 : p ≤ x
          · by_cases h2 : x < q
            · have HT : Hid (cntN xs x (j + 1) = cntN xs x j + 1) := hid (by rw [hst]; simp [h1, h2])
              clear hst HW HR HC0
              go_wp2
              go_quiet (fail)
              go_wp2
              go_roundg (xs.length - (j + 1))
              case measure => omega
              case rel => exact ⟨j + 1, by omega, by omega, by go_num, by rw [HT.out], bdrewN BJ.out _⟩
            · have HT : Hid (cntN xs x (j + 1) = cntN xs x j) := hid (by rw [hst]; simp [h1, h2])
              clear hst HW HR HC0
              go_wp2
              go_quiet (fail)
              go_wp2
              go_roundg (xs.length - (j + 1))
              case measure => omega
              case rel => exact ⟨j + 1, by omega, by omega, by go_num, by rw [HT.out], bdrewN BJ.out _⟩
          · have HT : Hid (cntN xs x (j + 1) = cntN xs x j) := hid (by rw [hst]; simp [h1])
            have hd1' : decide (p ≤ x) = false := by simpa using h1
            clear hst HW HR HC0 h1
            go_wp2
            go_quiet (fail)
            go_wp2
            go_roundg (xs.length - (j + 1))
            case measure => omega
            case rel => exact ⟨j + 1, by omega, by omega, by go_num, by rw [HT.out], bdrewN BJ.out _⟩
        · have : j = xs.length := by omega
          subst this
          have hcm := HM.out wr (widN xs k) (cntN xs x xs.length)
          have BF : Hid (Below w.heap.size w wr) := hid (bthen BW.out BJ.out)
          clear HR HC0
          go_wp2_with fail
          refine hcm.mono ?_
          rintro e w' ⟨rfl, rfl⟩
          go_wp2_with fail
          go_roundg (xs.length - (k + 1))
          case measure => omega
          case rel => exact ⟨k + 1, by omega, by omega, by go_num, by rw [HW.out], BF.out⟩
    · have : k = xs.length := by omega
      subst this
      go_wp2_with fail
      go_ret
      exact ⟨rfl, BW.out⟩
end Go.Proofs.Ythgfcoafngddgaa
