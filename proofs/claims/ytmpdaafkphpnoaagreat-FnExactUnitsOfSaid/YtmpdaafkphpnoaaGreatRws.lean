import Derived.Test.YtmpdaafkphpnoaaGreatShuf5
import Derived.Test.YtmpdaafkphpnoaaGreatLawO
import Derived.Test.YtmpdaafkphpnoaaGreatSz
import Derived.StillTailTactics
set_option linter.unusedVariables false
set_option linter.unusedSimpArgs false
namespace Go.Proofs.YtmpdaafkphpnoaaGreat
open Go.RowKit

/-- How many numbers the first k rows have. -/
def rtot (xss : List (List Int)) : Nat → Nat
  | 0 => 0
  | k + 1 => rtot xss k + (rw_ xss k).length
theorem rtot_mono (xss : List (List Int)) {j k : Nat} (h : j ≤ k) : rtot xss j ≤ rtot xss k := by
  induction k with
  | zero => obtain rfl : j = 0 := by omega
            exact Nat.le_refl _
  | succ k ih => by_cases e : j = k + 1
                 · subst e; exact Nat.le_refl _
                 · have := ih (by omega); simp only [rtot]; omega
def rsz (xss : List (List Int)) : Nat := xss.length + rtot xss xss.length
theorem rsz_row {xss : List (List Int)} {m k : Nat} (h : rsz xss ≤ m) (hk : k < xss.length) : (rw_ xss k).length ≤ m := by
  have := rtot_mono xss (j := k + 1) (k := xss.length) (by omega); simp only [rtot] at this; unfold rsz at h; omega
theorem rsz_len {xss : List (List Int)} {m : Nat} (h : rsz xss ≤ m) : xss.length ≤ m := by unfold rsz at h; omega
def BigR (xss : List (List Int)) : Prop := xss.length ≤ 9223372036854775807 ∧ ∀ k, k < xss.length → (rw_ xss k).length ≤ 9223372036854775807
theorem l_szInt64S (w : World) (A : Option Addr) (n c : Nat) (left : Int) (hn : n ≤ 9223372036854775807) (h0 : 0 ≤ left) (h1 : left ≤ 1048576) :
    Calls Tryz.prog 121 #[.slice A n c, .int .i64 left] w fun e w' => e = .returned (.int .i64 (szR left n)) ∧ w = w' := by
  unfold szR
  by_cases h : left < n
  · have h' : left - n < 0 := by omega
    go_enter Tryz.func121, Tryz.ntmps121
    go_wp2
    go_ret
    exact ⟨ret_i (by simp [h]), rfl⟩
  · have h' : ¬ left - n < 0 := by omega
    go_enter Tryz.func121, Tryz.ntmps121
    go_wp2
    go_ret
    exact ⟨ret_i (by simp [h]), rfl⟩
set_option maxRecDepth 100000 in
theorem l_szInt64SSO (w : World) (A : Option Addr) (c : Nat) (xs : List (List Int)) (left : Int) (hl : BigR xs) (h0 : 0 ≤ left) (h1 : left ≤ 1048576) (hR : RdR w A xs) :
    Calls Tryz.prog 77 #[.slice A xs.length c, .int .i64 left] w fun e w' => e = .returned (.int .i64 (szR left (rsz xs))) ∧ Below w.heap.size w w' := by
  obtain ⟨hl0, hl1⟩ := hl
  have HR := hid hR
  have HL := hid hl1
  have HM : Hid (∀ k, k ≤ xs.length → rtot xs k ≤ rtot xs xs.length) := hid fun k hk => rtot_mono xs hk
  have hsz : rsz xs = xs.length + rtot xs xs.length := rfl
  have hs := l_szInt64S
  have HS := hid hs
  clear hR hl1 hs
  have HN : Hid (left < (xs.length : Int) + (rtot xs xs.length : Int) → -1 = szR left (rsz xs)) := hid fun h => by unfold szR; rw [if_pos (by omega)]
  have HP : Hid (¬ left < (xs.length : Int) + (rtot xs xs.length : Int) → left - xs.length - rtot xs xs.length = szR left (rsz xs)) := hid fun h => by unfold szR; rw [if_neg (by omega)]; omega
  clear hsz
  generalize szR left (rsz xs) = G at HN HP ⊢
  by_cases h : left < xs.length
  · have h' : left - xs.length < 0 := by omega
    clear HR HL HM HS
    go_enter Tryz.func77, Tryz.ntmps77
    go_wp2
    go_ret
    exact ⟨ret_i (HN.out (by omega)), Below.refl _ _⟩
  · have h' : ¬ left - xs.length < 0 := by omega
    go_enter Tryz.func77, Tryz.ntmps77
    go_wp2
    go_loopg [1, 5] xs.length (fun gg l s wr => ∃ k : Nat, k ≤ xs.length ∧ xs.length - k ≤ gg ∧ s = .int .i64 k ∧ l = .int .i64 (left - xs.length - rtot xs k) ∧ Aside ((rtot xs k : Int) ≤ left - xs.length) ∧ Aside (w = wr))
    case atStart => exact ⟨0, Nat.zero_le _, by omega, rfl, by simp [rtot], (by show ((rtot xs 0 : Nat) : Int) ≤ _; simp only [rtot]; omega), rfl⟩
    case round =>
      obtain ⟨k, hk, hg, rfl, rfl, LE, BW⟩ := hrel
      obtain rfl := BW.out
      have hle := LE.out
      by_cases hlt : k < xs.length
      · obtain ⟨b, off, A', c', rfl, hc, _, _⟩ := HR.out.get hlt
        have hrl := HL.out k hlt
        have hsk := HS.out w A' (rw_ xs k).length c' (left - xs.length - rtot xs k) hrl (by omega) (by omega)
        have hst : rtot xs (k + 1) = rtot xs k + (rw_ xs k).length := rfl
        have hmk := HM.out (k + 1) (by omega)
        unfold szR at hsk
        by_cases hq : left - xs.length - rtot xs k < ((rw_ xs k).length : Nat)
        · rw [if_pos hq] at hsk
          have HF : Hid (left < (xs.length : Int) + (rtot xs xs.length : Int)) := hid (by omega)
          clear HS HM HL HR hst hmk hq LE
          generalize rtot xs k = t at *
          go_wp2_with fail
          refine hsk.mono ?_
          rintro e w' ⟨rfl, rfl⟩
          go_wp2_with fail
          go_ret
          exact ⟨ret_i (HN.out HF.out), Below.refl _ _⟩
        · rw [if_neg hq] at hsk
          have LE' : Aside ((rtot xs (k + 1) : Int) ≤ left - xs.length) := by show ((rtot xs (k + 1) : Nat) : Int) ≤ _; omega
          have HE : Hid (left - xs.length - rtot xs k - (rw_ xs k).length = left - xs.length - rtot xs (k + 1)) := hid (by omega)
          have hnn : 0 ≤ left - xs.length - rtot xs k - ((rw_ xs k).length : Nat) := by omega
          clear HM HL hst hmk hq LE
          go_wp2_with fail
          refine hsk.mono ?_
          rintro e w' ⟨rfl, rfl⟩
          clear hsk
          go_wp2_with fail
          go_roundg (xs.length - (k + 1))
          case measure => omega
          case rel => exact ⟨k + 1, by omega, by omega, by go_num, by rw [HE.out], LE', rfl⟩
      · have : k = xs.length := by omega
        subst this
        clear HS HM HL HR
        have HF : Hid (¬ left < (xs.length : Int) + (rtot xs xs.length : Int)) := hid (by omega)
        go_wp2_with fail
        go_ret
        exact ⟨ret_i (HP.out HF.out), Below.refl _ _⟩
end Go.Proofs.YtmpdaafkphpnoaaGreat
