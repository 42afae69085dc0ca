import Derived.Test.YtjcpjmijhloimaaTask7
set_option linter.unusedVariables false
set_option linter.unusedSimpArgs false
namespace Go.Proofs.Ytjcpjmijhloimaa
open Go.RowKit

theorem taskB_eq (k : Nat) (t : TaskV) : taskB k t = (inB t.port 0 2 && (inB t.lat 1 6 && (setN t.needs t.needs.length && t.needs.all (fun x => inB x 0 ((k : Int) - 1))))) := by
  unfold taskB; rw [risN_eq, allN_ints t.needs (fun x => inB x 0 ((k : Int) - 1))]
abbrev TW (w : World) (k : Nat) (t : TaskV) (A : Option Addr) (c : Nat) : World := (w.alloc (.cells #[.int .i64 (k : Nat)] 3)).alloc (.cells #[.int .i64 t.port, .int .i64 t.lat, .slice A t.needs.length c] 74)
set_option maxRecDepth 100000 in
set_option maxHeartbeats 2000000 in
theorem i_ValidTasks (w : World) (A : Option Addr) (c : Nat) (ts : List TaskV) (hl : tsz ts ≤ 1048576) (hR : RdT w A ts) :
    Calls Try.prog 113 #[.slice A ts.length c] w fun e w' => e = .returned (.bool (tasksB ts)) ∧ Below w.heap.size w w' := by
  have hn := tsz_len hl
  have HL : Hid (tsz ts ≤ 1048576) := hid hl
  have HR := hid hR
  have HQ := hid (fun x a b W => i_within x a b W)
  clear hR hl
  have HB : Hid (tasksN ts ts.length = false → tasksB ts = false) := hid fun h => by unfold tasksB; rw [h]; simp
  have HE : Hid (tasksN ts ts.length = true → decide (ts.length ≤ 8) = tasksB ts) := hid fun h => by unfold tasksB; rw [h]; simp
  go_enter Try.func113, Try.ntmps113
  go_wp2
  go_loopg [7] ts.length (fun gg s wr => ∃ k : Nat, k ≤ ts.length ∧ ts.length - k ≤ gg ∧ s = .int .i64 k ∧ Aside (Below w.heap.size w wr) ∧ Aside (tasksN ts k = true))
  case atStart => exact ⟨0, Nat.zero_le _, by omega, rfl, Below.refl _ _, rfl⟩
  case round =>
    obtain ⟨k, hk, hg, rfl, BW, AL⟩ := hrel
    by_cases hlt : k < ts.length
    · obtain ⟨b, off, A', c', rfl, hc0, hc1, hc2, _, hr⟩ := (HR.out.below BW.out).get hlt
      have hst : tasksN ts (k + 1) = (tasksN ts k && taskB k (tel ts k)) := rfl
      rw [AL.out, Bool.true_and] at hst
      have HN : Hid (taskB k (tel ts k) = false → tasksB ts = false) := hid fun h => HB.out (tasksN_mono (j := k + 1) (by rw [hst, h]) (by omega))
      have hrl : (tel ts k).needs.length ≤ 1048576 := tsz_row HL.out hlt
      have HTB := hid (taskB_eq k (tel ts k))
      have hbt : Below wr.heap.size wr (TW wr k (tel ts k) A' c') := balloc (ballocw wr _) _
      have BT : Hid (Below w.heap.size w (TW wr k (tel ts k) A' c')) := hid (bthen BW.out hbt)
      have HS := hid (i_isSet (TW wr k (tel ts k) A' c') A' c' (tel ts k).needs hrl (hr.below hbt))
      have d0 : (TW wr k (tel ts k) A' c').cell? ⟨wr.heap.size, 0, none⟩ = some (.int .i64 (k : Nat)) := by simp [TW]
      have d3 : (TW wr k (tel ts k) A' c').cell? ⟨wr.heap.size + 1, 2, none⟩ = some (.slice A' (tel ts k).needs.length c') := by simp [TW]
      have HD3 := hid d3
      have HA := hid (fun W (hW : Below (TW wr k (tel ts k) A' c').heap.size (TW wr k (tel ts k) A' c') W) => by
        have h := areAllI W A' (tel ts k).needs.length c' (fun i => .int .i64 (el (tel ts k).needs i)) 172 #[.pointer (some ⟨wr.heap.size, 0, none⟩)] (fun i => inB (el (tel ts k).needs i) 0 ((k : Int) - 1)) (by omega) ((hr.below hbt).below hW)
          (enters_of Try.func172 (by kernel_rfl) rfl) (fun W' hW' i hi => i_ValidTasks1 W' wr.heap.size k (el (tel ts k).needs i) (by omega) (bcell hW' (bcell hW d0)))
        rw [allN_ints (tel ts k).needs (fun x => inB x 0 ((k : Int) - 1))] at h
        exact h)
      have q0 := HQ.out (tel ts k).port 0 2 (TW wr k (tel ts k) A' c')
      have q1 := HQ.out (tel ts k).lat 1 6 (TW wr k (tel ts k) A' c')
      clear d0 d3 hbt hr
      cases h0 : inB (tel ts k).port 0 2 with
      | false =>
        rw [h0] at q0
        have H0 := hid q0
        have HF := hid (HN.out (by rw [HTB.out, h0]; rfl))
        clear hst AL HN HQ HTB HB HE q0 q1 h0 HR HA HS hrl HD3
        generalize tel ts k = t at *
        go_wp2_with fail
        refine H0.out.mono ?_
        rintro e w' ⟨rfl, rfl⟩
        go_wp2_with fail
        go_ret
        exact ⟨ret_b (by rw [HF.out]), BT.out⟩
      | true =>
        rw [h0] at q0
        have H0 := hid q0
        cases h1 : inB (tel ts k).lat 1 6 with
        | false =>
          rw [h1] at q1
          have H1 := hid q1
          have HF := hid (HN.out (by rw [HTB.out, h1]; simp))
          clear hst AL HN HQ HTB HB HE q0 q1 h0 h1 HR HA HS hrl HD3
          generalize tel ts k = t at *
          go_wp2_with fail
          refine H0.out.mono ?_
          rintro e w' ⟨rfl, rfl⟩
          go_wp2_with fail
          refine H1.out.mono ?_
          rintro e w' ⟨rfl, rfl⟩
          go_wp2_with fail
          go_ret
          exact ⟨ret_b (by rw [HF.out]), BT.out⟩
        | true =>
          rw [h1] at q1
          have H1 := hid q1
          have hs := HS.out
          cases h2 : setN (tel ts k).needs (tel ts k).needs.length with
          | false =>
            rw [h2] at hs
            have H2 := hid hs
            have HF := hid (HN.out (by rw [HTB.out, h2]; simp))
            clear hst AL HN HQ HTB HB HE q0 q1 h0 h1 h2 HR HA HS hs hrl HD3
            generalize tel ts k = t at *
            go_wp2_with fail
            refine H0.out.mono ?_
            rintro e w' ⟨rfl, rfl⟩
            go_wp2_with fail
            refine H1.out.mono ?_
            rintro e w' ⟨rfl, rfl⟩
            go_wp2_with fail
            refine H2.out.mono ?_
            rintro e w1 ⟨rfl, hb1⟩
            go_wp2_with fail
            go_ret
            exact ⟨ret_b (by rw [HF.out]), bthen BT.out hb1⟩
          | true =>
            rw [h2] at hs
            have H2 := hid hs
            have ha := HA.out
            cases h3 : (tel ts k).needs.all (fun x => inB x 0 ((k : Int) - 1)) with
            | false =>
              simp only [h3] at ha
              have HA := hid ha
              have HF := hid (HN.out (by rw [HTB.out, h3]; simp))
              clear hst AL HN HQ HTB HB HE q0 q1 h0 h1 h2 h3 HR HS hs ha hrl
              generalize tel ts k = t at *
              go_wp2_with fail
              refine H0.out.mono ?_
              rintro e w' ⟨rfl, rfl⟩
              go_wp2_with fail
              refine H1.out.mono ?_
              rintro e w' ⟨rfl, rfl⟩
              go_wp2_with fail
              refine H2.out.mono ?_
              rintro e w1 ⟨rfl, hb1⟩
              have hd3 := bcell hb1 HD3.out
              have H3 := hid (HA.out w1 hb1)
              clear HA
              go_wp2_with fail
              refine H3.out.mono ?_
              rintro e w2 ⟨rfl, hb2⟩
              clear hd3 H3
              go_wp2_with fail
              go_ret
              exact ⟨ret_b (by rw [HF.out]), bthen BT.out (bthen hb1 hb2)⟩
            | true =>
              simp only [h3] at ha
              have HA := hid ha
              have AL' : Aside (tasksN ts (k + 1) = true) := by unfold Aside; rw [hst, HTB.out, h0, h1, h2, h3]; rfl
              clear hst AL HN HTB q0 q1 h0 h1 h2 h3 HS hs ha hrl
              generalize tel ts k = t at *
              go_wp2_with fail
              refine H0.out.mono ?_
              rintro e w' ⟨rfl, rfl⟩
              go_wp2_with fail
              refine H1.out.mono ?_
              rintro e w' ⟨rfl, rfl⟩
              go_wp2_with fail
              refine H2.out.mono ?_
              rintro e w1 ⟨rfl, hb1⟩
              have hd3 := bcell hb1 HD3.out
              have H3 := hid (HA.out w1 hb1)
              clear HA
              go_wp2_with fail
              refine H3.out.mono ?_
              rintro e w2 ⟨rfl, hb2⟩
              clear hd3 H3
              have BW2 : Aside (Below w.heap.size w w2) := bthen BT.out (bthen hb1 hb2)
              clear H0 H1 H2 hc0 hc1 hc2
              go_wp2_with fail
              go_roundg (ts.length - (k + 1))
              case measure => omega
              case rel => exact ⟨k + 1, by omega, by omega, by go_num, BW2, AL'⟩
    · have : k = ts.length := by omega
      subst this
      have HF := hid (HE.out AL.out)
      clear AL HR HQ HB HE
      by_cases h8 : (ts.length : Int) ≤ 8
      all_goals
        go_wp2
        go_ret
        exact ⟨ret_b (by rw [← HF.out]; simp; omega), BW.out⟩
end Go.Proofs.Ytjcpjmijhloimaa
