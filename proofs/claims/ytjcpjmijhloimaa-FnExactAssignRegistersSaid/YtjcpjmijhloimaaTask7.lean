import Derived.Test.YtjcpjmijhloimaaTask6
set_option linter.unusedVariables false
set_option linter.unusedSimpArgs false
namespace Go.Proofs.Ytjcpjmijhloimaa
open Go.RowKit

set_option maxRecDepth 100000 in
set_option maxHeartbeats 1000000 in
theorem s_l06Is (w : World) (A : Option Addr) (c : Nat) (ts : List TaskV) (hl : tsz ts ≤ 1048576) (hR : RdT w A ts) :
    Calls Try.prog 177 #[.slice A ts.length c] w fun e w' => e = .returned (.bool (tasksB ts)) ∧ Below w.heap.size w w' := by
  have hn := tsz_len hl
  have HL : Hid (tsz ts ≤ 1048576) := hid hl
  have HR := hid hR
  have HQ := hid (fun x a b W => s_l00In x a b W)
  clear hR hl
  by_cases h8 : ts.length ≤ 8
  · have h8' : ¬ (8 : Int) < (ts.length : Int) := by omega
    have HB : Hid (tasksB ts = tasksN ts ts.length) := hid (by unfold tasksB; simp [h8])
    clear h8
    go_enter Try.func177, Try.ntmps177
    go_wp2
    go_loopg [3] ts.length (fun gg s wr => ∃ k : Nat, k ≤ ts.length ∧ ts.length - k ≤ gg ∧ s = .int .i64 k ∧ Aside (Below w.heap.size w wr) ∧ Aside (tasksN ts k = true))
    case atStart => exact ⟨0, Nat.zero_le _, by omega, rfl, Below.refl _ _, rfl⟩
    case round =>
      obtain ⟨k, hk, hg, rfl, BW, AL⟩ := hrel
      by_cases hlt : k < ts.length
      · obtain ⟨b, off, A', c', rfl, hc0, hc1, hc2, _, hr⟩ := (HR.out.below BW.out).get hlt
        have hst : tasksN ts (k + 1) = (tasksN ts k && taskB k (tel ts k)) := rfl
        rw [AL.out, Bool.true_and] at hst
        have HN : Hid (taskB k (tel ts k) = false → tasksB ts = false) := hid fun h => by rw [HB.out]; exact tasksN_mono (j := k + 1) (by rw [hst, h]) (by omega)
        have q0 := HQ.out (tel ts k).port 0 2 wr
        have hrl : (tel ts k).needs.length ≤ 1048576 := tsz_row HL.out hlt
        cases h0 : inB (tel ts k).port 0 2 with
        | false =>
          rw [h0] at q0
          have H0 := hid q0
          have HF := hid (HN.out (by unfold taskB; rw [h0]; rfl))
          clear hst AL HN q0 h0 HQ HR hr hrl
          generalize tel ts k = t at *
          go_wp2_with fail
          refine H0.out.mono ?_
          rintro e w' ⟨rfl, rfl⟩
          go_wp2_with fail
          go_ret
          exact ⟨ret_b (by rw [HF.out]), BW.out⟩
        | true =>
          rw [h0] at q0
          have q1 := HQ.out (tel ts k).lat 1 6 wr
          cases h1 : inB (tel ts k).lat 1 6 with
          | false =>
            rw [h1] at q1
            have H0 := hid q0
            have H1 := hid q1
            have HF := hid (HN.out (by unfold taskB; rw [h1]; simp))
            clear hst AL HN q0 q1 h0 h1 HQ HR hr hrl
            generalize tel ts k = t at *
            go_wp2_with fail
            refine H0.out.mono ?_
            rintro e w' ⟨rfl, rfl⟩
            go_wp2_with fail
            refine H1.out.mono ?_
            rintro e w' ⟨rfl, rfl⟩
            go_wp2_with fail
            go_ret
            exact ⟨ret_b (by rw [HF.out]), BW.out⟩
          | true =>
            rw [h1] at q1
            have q2 := s_l00Rises wr A' c' (tel ts k).needs 0 ((k : Int) - 1) hrl hr
            have H0 := hid q0
            have H1 := hid q1
            cases h2 : risN (tel ts k).needs 0 ((k : Int) - 1) (tel ts k).needs.length with
            | false =>
              rw [h2] at q2
              have H2 := hid q2
              have HF := hid (HN.out (by unfold taskB; rw [h2]; simp))
              clear hst AL HN q0 q1 q2 h0 h1 h2 HQ HR hr hrl
              generalize tel ts k = t at *
              go_wp2_with fail
              refine H0.out.mono ?_
              rintro e w' ⟨rfl, rfl⟩
              go_wp2_with fail
              refine H1.out.mono ?_
              rintro e w' ⟨rfl, rfl⟩
              go_wp2_with fail
              refine H2.out.mono ?_
              rintro e w' ⟨rfl, hb1⟩
              go_wp2_with fail
              go_ret
              exact ⟨ret_b (by rw [HF.out]), bthen BW.out hb1⟩
            | true =>
              rw [h2] at q2
              have H2 := hid q2
              have AL' : Aside (tasksN ts (k + 1) = true) := by unfold Aside; rw [hst]; unfold taskB; rw [h0, h1, h2]; rfl
              clear hst AL HN q0 q1 q2 h0 h1 h2 hr hrl
              generalize tel ts k = t at *
              go_wp2_with fail
              refine H0.out.mono ?_
              rintro e w' ⟨rfl, rfl⟩
              go_wp2_with fail
              refine H1.out.mono ?_
              rintro e w' ⟨rfl, rfl⟩
              go_wp2_with fail
              refine H2.out.mono ?_
              rintro e w' ⟨rfl, hb1⟩
              have BW2 : Aside (Below w.heap.size w w') := bthen BW.out hb1
              clear H0 H1 H2 hc0 hc1 hc2
              go_wp2_with fail
              go_roundg (ts.length - (k + 1))
              case measure => omega
              case rel => exact ⟨k + 1, by omega, by omega, by go_num, BW2, AL'⟩
      · have : k = ts.length := by omega
        subst this
        have HN := hid (HB.out.trans AL.out)
        clear AL HR HQ
        go_wp2
        go_ret
        exact ⟨ret_b (by rw [HN.out]), BW.out⟩
  · have h8' : (8 : Int) < (ts.length : Int) := by omega
    have HF : Hid (tasksB ts = false) := hid (by unfold tasksB; simp [h8])
    clear h8 HR HQ
    go_enter Try.func177, Try.ntmps177
    go_wp2
    go_ret
    exact ⟨ret_b (by rw [HF.out]), Below.refl _ _⟩
end Go.Proofs.Ytjcpjmijhloimaa
