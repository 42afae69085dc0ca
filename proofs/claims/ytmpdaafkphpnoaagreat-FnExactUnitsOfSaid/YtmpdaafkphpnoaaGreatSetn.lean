import Derived.Test.YtmpdaafkphpnoaaGreatLawI
import Derived.Test.YtmpdaafkphpnoaaGreatWord
import Derived.Test.YtmpdaafkphpnoaaGreatFn
set_option linter.unusedVariables false
set_option linter.unusedSimpArgs false
namespace Go.Proofs.YtmpdaafkphpnoaaGreat
open Go.RowKit

/-- The first k numbers rise; rise and lie within bounds. -/
def setN (xs : List Int) : Nat → Bool
  | 0 => true
  | k + 1 => setN xs k && (decide (k = 0) || decide (el xs (k - 1) < el xs k))
def risN (xs : List Int) (lo hi : Int) : Nat → Bool
  | 0 => true
  | k + 1 => risN xs lo hi k && (inB (el xs k) lo hi && (decide (k = 0) || decide (el xs (k - 1) < el xs k)))
theorem setN_mono {xs : List Int} {j k : Nat} (h : setN xs j = false) (hk : j ≤ k) : setN xs k = false := by
  induction k with
  | zero => obtain rfl : j = 0 := by omega
            exact h
  | succ k ih => by_cases e : j = k + 1
                 · subst e; exact h
                 · simp only [setN]; rw [ih (by omega)]; rfl
theorem risN_mono {xs : List Int} {lo hi : Int} {j k : Nat} (h : risN xs lo hi j = false) (hk : j ≤ k) : risN xs lo hi k = false := by
  induction k with
  | zero => obtain rfl : j = 0 := by omega
            exact h
  | succ k ih => by_cases e : j = k + 1
                 · subst e; exact h
                 · simp only [risN]; rw [ih (by omega)]; rfl
theorem risN_eq (xs : List Int) (lo hi : Int) (k : Nat) : risN xs lo hi k = (setN xs k && allN k (fun i => inB (el xs i) lo hi)) := by
  induction k with
  | zero => simp [risN, setN, allN]
  | succ k ih =>
    have : allN (k + 1) (fun i => inB (el xs i) lo hi) = (allN k (fun i => inB (el xs i) lo hi) && inB (el xs k) lo hi) := by unfold allN; rw [List.range_succ, List.all_append]; simp
    simp only [risN, setN]
    rw [ih, this]
    cases setN xs k <;> cases allN k (fun i => inB (el xs i) lo hi) <;> cases inB (el xs k) lo hi <;> simp
set_option maxRecDepth 100000 in
theorem i_isSet (w : World) (A : Option Addr) (c : Nat) (xs : List Int) (hl : xs.length ≤ 1048576) (hR : RdI w A xs) :
    Calls Tryz.prog 192 #[.slice A xs.length c] w fun e w' => e = .returned (.bool (setN xs xs.length)) ∧ Below w.heap.size w w' := by
  have HR := hid hR
  clear hR
  go_enter Tryz.func192, Tryz.ntmps192
  go_wp2
  go_loopg [3] xs.length (fun gg s wr => ∃ j : Nat, (j + 1 ≤ xs.length ∨ j = 0) ∧ xs.length - j ≤ gg ∧ s = .int .i64 ((j : Int) + 1) ∧ Aside (Below w.heap.size w wr) ∧ Aside (setN xs (j + 1) = true))
  case atStart => exact ⟨0, .inr rfl, by omega, rfl, Below.refl _ _, rfl⟩
  case round =>
    obtain ⟨j, hj, hg, rfl, BW, AL⟩ := hrel
    by_cases hlt : j + 1 < xs.length
    · obtain ⟨b, off, rfl, hc⟩ := (HR.out.below BW.out).get (k := j) (by omega)
      obtain ⟨b', off', e', hc'⟩ := (HR.out.below BW.out).get (k := j + 1) hlt
      cases e'
      have hlt' : (j : Int) + 1 < (xs.length : Int) := by omega
      have hst : setN xs (j + 1 + 1) = (setN xs (j + 1) && (decide (j + 1 = 0) || decide (el xs j < el xs (j + 1)))) := rfl
      rw [AL.out] at hst
      by_cases hx : el xs j < el xs (j + 1)
      · have hd : decide (el xs (j + 1) ≤ el xs j) = false := by simpa using hx
        have AL' : Aside (setN xs (j + 1 + 1) = true) := by unfold Aside; rw [hst]; simp [hx]
        clear hst AL hx HR
        go_wp2
        go_quiet (fail)
        go_wp2
        go_roundg (xs.length - (j + 1))
        case measure => omega
        case rel => exact ⟨j + 1, by omega, by omega, by go_num, bdrewN BW.out _, AL'⟩
      · have hd : decide (el xs (j + 1) ≤ el xs j) = true := by simpa using hx
        have HN : Hid (setN xs xs.length = false) := hid (setN_mono (j := j + 1 + 1) (by rw [hst]; simp [hx]) (by omega))
        clear hst AL hx HR
        go_wp2
        go_quiet (fail)
        go_wp2
        go_ret
        exact ⟨ret_b (by rw [HN.out]), bdrewN BW.out _⟩
    · have hlt' : ¬ (j : Int) + 1 < (xs.length : Int) := by omega
      have HN : Hid (setN xs xs.length = true) := hid (by
        by_cases e : xs.length = 0
        · rw [e]; rfl
        · rw [show xs.length = j + 1 from by omega]; exact AL.out)
      clear AL HR hlt
      go_wp2
      go_ret
      exact ⟨ret_b (by rw [HN.out]), BW.out⟩
end Go.Proofs.YtmpdaafkphpnoaaGreat
