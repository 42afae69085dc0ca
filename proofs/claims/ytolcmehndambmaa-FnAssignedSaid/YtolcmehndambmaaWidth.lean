import Derived.Test.YtolcmehndambmaaRange4
set_option linter.unusedVariables false
set_option linter.unusedSimpArgs false
namespace Go.Proofs.Ytolcmehndambmaa
open Go.RowKit

/-- Whether a range contains a time; how many of the first k do; the greatest such number at where one of the first k begins. -/
def cont (q : PI) (x : Int) : Bool := decide (q.1 ≤ x) && decide (x < q.2)
def cntN (xs : List PI) (x : Int) : Nat → Int
  | 0 => 0
  | k + 1 => cntN xs x k + (if cont (pel xs k) x then 1 else 0)
def widN (xs : List PI) : Nat → Int
  | 0 => 0
  | k + 1 => max (widN xs k) (cntN xs (pel xs k).1 xs.length)
theorem cntN_range (xs : List PI) (x : Int) : ∀ k : Nat, 0 ≤ cntN xs x k ∧ cntN xs x k ≤ k
  | 0 => ⟨Int.le_refl _, Int.le_refl _⟩
  | k + 1 => by have := cntN_range xs x k; simp only [cntN]; split <;> omega
theorem widN_range (xs : List PI) : ∀ k : Nat, 0 ≤ widN xs k ∧ widN xs k ≤ xs.length
  | 0 => ⟨Int.le_refl _, by simp [widN]⟩
  | k + 1 => by have := widN_range xs k; have := cntN_range xs (pel xs k).1 xs.length; simp only [widN]; omega
set_option maxRecDepth 100000 in
theorem i_width (w : World) (A : Option Addr) (c : Nat) (xs : List PI) (hl : xs.length ≤ 1048576) (hR : RdP w A xs) :
    Calls Try.prog 54 #[.slice A xs.length c] w fun e w' => e = .returned (.int .i64 (widN xs xs.length)) ∧ Below w.heap.size w w' := by
  have HR := hid hR
  clear hR
  go_enter Try.func54, Try.ntmps54
  go_wp2
  go_loopg [3, 11] xs.length (fun gg m s wr => ∃ k : Nat, k ≤ xs.length ∧ xs.length - k ≤ gg ∧ s = .int .i64 k ∧ m = .int .i64 (widN xs k) ∧ Aside (Below w.heap.size w wr))
  case atStart => exact ⟨0, Nat.zero_le _, by omega, rfl, rfl, Below.refl _ _⟩
  case round =>
    obtain ⟨k, hk, hg, rfl, rfl, BW⟩ := hrel
    by_cases hlt : k < xs.length
    · obtain ⟨b, off, rfl, hc, hc1⟩ := (HR.out.below BW.out).get hlt
      obtain ⟨wo, rfl⟩ : ∃ wo : World, wo = wr := ⟨_, rfl⟩
      rcases hp : pel xs k with ⟨x, y⟩
      simp only [hp] at hc hc1
      have HW : Hid (widN xs (k + 1) = max (widN xs k) (cntN xs x xs.length)) := hid (by simp only [widN, hp])
      clear hp
      have BW2 : Hid (Below w.heap.size w (wo.alloc (.cells #[.int .i64 x, .int .i64 y] 34))) := hid (balloc BW.out _)
      have hB := BW.out.size
      have HW1 := hid (widN_range xs k)
      have HW2 := hid (cntN_range xs x xs.length)
      have HB0 : Hid ((wo.alloc (.cells #[.int .i64 x, .int .i64 y] 34)).cell? ⟨wo.heap.size, 0, none⟩ = some (.int .i64 x)) := hid (by simp)
      go_wp2_with fail
      clear hc hc1
      go_loopg [6, 17] xs.length (fun gg m s wj => ∃ j : Nat, j ≤ xs.length ∧ xs.length - j ≤ gg ∧ s = .int .i64 j ∧ m = .int .i64 (cntN xs x j) ∧ Aside (Below (wo.alloc (.cells #[.int .i64 x, .int .i64 y] 34)).heap.size (wo.alloc (.cells #[.int .i64 x, .int .i64 y] 34)) wj))
      case atStart => exact ⟨0, Nat.zero_le _, by omega, rfl, rfl, Below.refl _ _⟩
      case round =>
        obtain ⟨j, hj, hgj, rfl, rfl, BJ⟩ := hrel
        by_cases hlj : j < xs.length
        · obtain ⟨b', off', e', hd, hd1⟩ := ((HR.out.below BW2.out).below BJ.out).get hlj
          cases e'
          have hbx := bcell BJ.out HB0.out
          have BJ2 : Hid (Below (wo.alloc (.cells #[.int .i64 x, .int .i64 y] 34)).heap.size (wo.alloc (.cells #[.int .i64 x, .int .i64 y] 34)) (wr.alloc (.cells #[.int .i64 (pel xs j).1, .int .i64 (pel xs j).2] 34))) := hid (balloc BJ.out _)
          have hsz := BJ.out.size
          obtain ⟨hcj0, hcj1⟩ := cntN_range xs x j
          rcases hp : pel xs j with ⟨p, q⟩
          have hst : cntN xs x (j + 1) = cntN xs x j + (if (decide (p ≤ x) && decide (x < q)) = true then 1 else 0) := by simp only [cntN, hp, cont]
          simp only [hp] at hd hd1 BJ2
          have hbx2 : (wr.alloc (.cells #[.int .i64 p, .int .i64 q] 34)).cell? ⟨wo.heap.size, 0, none⟩ = some (.int .i64 x) := bcell (ballocw wr _) hbx
          clear hp
          by_cases h1 : p ≤ x
          · by_cases h2 : x < q
            · skip
              have HT : Hid (cntN xs x (j + 1) = cntN xs x j + 1) := hid (by rw [hst]; simp [h1, h2])
              clear hst HW HW1 HW2 HR
              go_wp2_with fail
              go_roundg (xs.length - (j + 1))
              case measure => omega
              case rel => exact ⟨j + 1, by omega, by omega, by go_num, by rw [HT.out], BJ2.out⟩
            · skip
              have HT : Hid (cntN xs x (j + 1) = cntN xs x j) := hid (by rw [hst]; simp [h1, h2])
              clear hst HW HW1 HW2 HR
              go_wp2_with fail
              go_roundg (xs.length - (j + 1))
              case measure => omega
              case rel => exact ⟨j + 1, by omega, by omega, by go_num, by rw [HT.out], BJ2.out⟩
          · skip
            have HT : Hid (cntN xs x (j + 1) = cntN xs x j) := hid (by rw [hst]; simp [h1])
            clear hst HW HW1 HW2 HR
            go_wp2_with fail
            go_roundg (xs.length - (j + 1))
            case measure => omega
            case rel => exact ⟨j + 1, by omega, by omega, by go_num, by rw [HT.out], BJ2.out⟩
        · have : j = xs.length := by omega
          subst this
          obtain ⟨w1, w2⟩ := HW1.out
          obtain ⟨w3, w4⟩ := HW2.out
          have BF : Hid (Below w.heap.size w wr) := hid (bthen BW2.out BJ.out)
          by_cases hmx : widN xs k < cntN xs x xs.length
          · have HW' : Hid (widN xs (k + 1) = cntN xs x xs.length) := hid (by rw [HW.out]; omega)
            clear HW1 HW2 HR HB0 HW
            go_wp2_with fail
            go_roundg (xs.length - (k + 1))
            case measure => omega
            case rel => exact ⟨k + 1, by omega, by omega, by go_num, by rw [HW'.out], BF.out⟩
          · have HW' : Hid (widN xs (k + 1) = widN xs k) := hid (by rw [HW.out]; omega)
            clear HW1 HW2 HR HB0 HW
            go_wp2_with fail
            go_roundg (xs.length - (k + 1))
            case measure => omega
            case rel => exact ⟨k + 1, by omega, by omega, by go_num, by rw [HW'.out], BF.out⟩
    · have : k = xs.length := by omega
      subst this
      go_wp2_with fail
      go_ret
      exact ⟨rfl, BW.out⟩
def m_WidthOf (xs : List PI) : Int × Bool := if rngsB xs then (widN xs xs.length, true) else (0, false)
def RetNB (w : World) (r : Int × Bool) (en : Ending) (w' : World) : Prop := en = .returned (.tuple #[.int .i64 r.1, .bool r.2]) ∧ Below w.heap.size w w'
theorem i_WidthOf (w : World) (A : Option Addr) (c : Nat) (xs : List PI) (hl : xs.length ≤ 1048576) (hR : RdP w A xs) :
    Calls Try.prog 13 #[.slice A xs.length c] w (RetNB w (m_WidthOf xs)) := by
  have c0 := i_ValidRanges w A c xs hl hR
  have c1 := fun W (hW : Below w.heap.size w W) => i_width W A c xs hl (hR.below hW)
  clear hR
  unfold m_WidthOf
  generalize widN xs xs.length = r at c1 ⊢
  generalize rngsB xs = b at c0 ⊢
  cases b with
  | false =>
    clear c1
    go_enter Try.func13, Try.ntmps13
    go_wp2_with fail
    refine c0.mono ?_
    rintro e w1 ⟨rfl, hb1⟩
    go_wp2_with fail
    go_ret2
    exact ⟨rfl, hb1⟩
  | true =>
    go_enter Try.func13, Try.ntmps13
    go_wp2_with fail
    refine c0.mono ?_
    rintro e w1 ⟨rfl, hb1⟩
    go_wp2_with fail
    refine (c1 _ hb1).mono ?_
    rintro e w2 ⟨rfl, hb2⟩
    go_wp2_with fail
    go_ret2
    exact ⟨rfl, bthen hb1 hb2⟩
end Go.Proofs.Ytolcmehndambmaa
