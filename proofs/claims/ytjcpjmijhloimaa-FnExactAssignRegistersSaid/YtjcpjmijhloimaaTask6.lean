import Derived.Test.YtjcpjmijhloimaaTask5
set_option linter.unusedVariables false
set_option linter.unusedSimpArgs false
namespace Go.Proofs.Ytjcpjmijhloimaa
open Go.RowKit

set_option maxRecDepth 100000 in
set_option maxHeartbeats 1000000 in
theorem s_l00Rises (w : World) (A : Option Addr) (c : Nat) (xs : List Int) (lo hi : Int) (hl : xs.length ≤ 1048576) (hR : RdI w A xs) :
    Calls Try.prog 218 #[.slice A xs.length c, .int .i64 lo, .int .i64 hi] w fun e w' => e = .returned (.bool (risN xs lo hi xs.length)) ∧ Below w.heap.size w w' := by
  have HR := hid hR
  have HQ := hid (fun x => s_l00In x lo hi)
  clear hR
  go_enter Try.func218, Try.ntmps218
  go_wp2
  go_loopg [7] xs.length (fun gg s wr => ∃ k : Nat, k ≤ xs.length ∧ xs.length - k ≤ gg ∧ s = .int .i64 k ∧ Aside (Below w.heap.size w wr) ∧ Aside (risN xs lo hi k = true))
  case atStart => exact ⟨0, Nat.zero_le _, by omega, rfl, Below.refl _ _, rfl⟩
  case round =>
    obtain ⟨k, hk, hg, rfl, BW, AL⟩ := hrel
    by_cases hlt : k < xs.length
    · have hq := HQ.out (el xs k)
      have hst : risN xs lo hi (k + 1) = (risN xs lo hi k && (inB (el xs k) lo hi && (decide (k = 0) || decide (el xs (k - 1) < el xs k)))) := rfl
      rw [AL.out] at hst
      obtain ⟨b, off, rfl, hc⟩ := (HR.out.below BW.out).get hlt
      cases h0 : inB (el xs k) lo hi with
      | false =>
        rw [h0] at hq
        have HC := hid hq
        have HN : Hid (risN xs lo hi xs.length = false) := hid (risN_mono (j := k + 1) (by rw [hst, h0]; simp) (by omega))
        clear hst AL hq h0 HR HQ
        go_wp2
        go_quiet (with_reducible exact Calls.quiet_of_same ((HC.out _).mono fun e w' h => ⟨h.1, h.2.symm⟩))
        go_wp2
        go_ret
        exact ⟨ret_b (by rw [HN.out]), bdrewN BW.out _⟩
      | true =>
        rw [h0] at hq hst
        have HC := hid hq
        cases k with
        | zero =>
          have AL' : Aside (risN xs lo hi (0 + 1) = true) := by unfold Aside; rw [hst]; simp
          have hc0 : wr.cell? ⟨b, off, none⟩ = some (.int .i64 (el xs 0)) := by simpa using hc
          have hlt0 : (0 : Int) < (xs.length : Int) := by omega
          clear hst AL hq h0 HR HQ hc
          go_wp2
          go_quiet (with_reducible exact Calls.quiet_of_same ((HC.out _).mono fun e w' h => ⟨h.1, h.2.symm⟩))
          go_wp2
          go_roundg (xs.length - (0 + 1))
          case measure => omega
          case rel => exact ⟨0 + 1, by omega, by omega, by go_num, bdrewN BW.out _, AL'⟩
        | succ j =>
          obtain ⟨b', off', e', hc'⟩ := (HR.out.below BW.out).get (k := j) (by omega)
          cases e'
          rw [show j + 1 - 1 = j from by omega] at hst
          by_cases hx : el xs j < el xs (j + 1)
          · have hd : decide (el xs (j + 1) ≤ el xs j) = false := by simpa using hx
            have AL' : Aside (risN xs lo hi (j + 1 + 1) = true) := by unfold Aside; rw [hst]; simp [hx]
            clear hst AL hq h0 HR HQ hx
            go_wp2
            go_quiet (with_reducible exact Calls.quiet_of_same ((HC.out _).mono fun e w' h => ⟨h.1, h.2.symm⟩))
            go_wp2
            go_roundg (xs.length - (j + 1 + 1))
            case measure => omega
            case rel => exact ⟨j + 1 + 1, by omega, by omega, by go_num, bdrewN BW.out _, AL'⟩
          · have hd : decide (el xs (j + 1) ≤ el xs j) = true := by simpa using hx
            have HN : Hid (risN xs lo hi xs.length = false) := hid (risN_mono (j := j + 1 + 1) (by rw [hst]; simp [hx]) (by omega))
            clear hst AL hq h0 HR HQ hx
            go_wp2
            go_quiet (with_reducible exact Calls.quiet_of_same ((HC.out _).mono fun e w' h => ⟨h.1, h.2.symm⟩))
            go_wp2
            go_ret
            exact ⟨ret_b (by rw [HN.out]), bdrewN BW.out _⟩
    · have : k = xs.length := by omega
      subst this
      have HN := hid AL.out
      clear AL HR HQ
      go_wp2
      go_ret
      exact ⟨ret_b (by rw [HN.out]), BW.out⟩
/-- A task at place i that is valid; tasks that are. -/
def taskB (i : Nat) (t : TaskV) : Bool := inB t.port 0 2 && (inB t.lat 1 6 && risN t.needs 0 ((i : Int) - 1) t.needs.length)
def tasksN (ts : List TaskV) : Nat → Bool
  | 0 => true
  | k + 1 => tasksN ts k && taskB k (tel ts k)
def tasksB (ts : List TaskV) : Bool := decide (ts.length ≤ 8) && tasksN ts ts.length
theorem tasksN_mono {ts : List TaskV} {j k : Nat} (h : tasksN ts j = false) (hk : j ≤ k) : tasksN ts k = false := by
  induction k with
  | zero => obtain rfl : j = 0 := by omega
            exact h
  | succ k ih => by_cases e : j = k + 1
                 · subst e; exact h
                 · simp only [tasksN]; rw [ih (by omega)]; rfl
theorem i_ValidTasks1 (W : World) (B : Nat) (i : Nat) (x : Int) (hi : i ≤ 1048576) (hB : W.cell? ⟨B, 0, none⟩ = some (.int .i64 i)) :
    Calls Try.prog 172 #[.int .i64 x, .pointer (some ⟨B, 0, none⟩)] W fun e w' => e = .returned (.bool (inB x 0 ((i : Int) - 1))) ∧ Below W.heap.size W w' := by
  have c0 := i_within x 0 ((i : Int) - 1)
  generalize inB x 0 ((i : Int) - 1) = r at c0 ⊢
  go_enter Try.func172, Try.ntmps172
  go_wp2_with fail
  refine (c0 _).mono ?_
  rintro e w' ⟨rfl, rfl⟩
  go_wp2_with fail
  go_ret
  exact ⟨rfl, Below.refl _ _⟩
end Go.Proofs.Ytjcpjmijhloimaa
