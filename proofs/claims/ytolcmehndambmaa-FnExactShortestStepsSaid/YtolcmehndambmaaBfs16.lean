import Derived.Test.YtolcmehndambmaaBfs12
import Derived.Test.YtolcmehndambmaaBfs14
set_option linter.unusedVariables false
set_option linter.unusedSimpArgs false
namespace Go.Proofs.Ytolcmehndambmaa
open Go.RowKit

theorem s_SSno (w : World) (A G : Option Addr) (c cg : Nat) (al : List (List Int)) (goal : List Int) (s : Int) (hl : rsz al ≤ 1048576) (hgl : goal.length ≤ 1048576) (hR : RdR w A al) (hG : RdI w G goal) (hno : shG al goal s = false) :
    Calls Try.prog 39 #[.slice A al.length c, .slice G goal.length cg, .int .i64 s] w fun e w' => e = .returned (.tuple #[.slice none 0 0, .bool false]) ∧ Below w.heap.size w w' := by
  have hlen := rsz_len hl
  have c0 := s_l04Allowed w A c al hl hR
  cases h0 : alwB al with
  | false =>
    rw [h0] at c0
    have C0 := hid c0
    clear c0 h0 hR hG hno
    go_enter Try.func39, Try.ntmps39
    go_wp2_with fail
    refine C0.out.mono ?_
    rintro e w1 ⟨rfl, hb1⟩
    go_wp2_with fail
    go_ret2
    exact ⟨rfl, hb1⟩
  | true =>
    rw [h0] at c0
    have C0 := hid c0
    have C1 := hid (fun W (hW : Below w.heap.size w W) => s_l04Is W G cg goal (by omega) (hG.below hW))
    cases h1 : shufB goal with
    | false =>
      rw [h1] at C1
      clear c0 h0 hR hG hno h1
      go_enter Try.func39, Try.ntmps39
      go_wp2_with fail
      refine C0.out.mono ?_
      rintro e w1 ⟨rfl, hb1⟩
      go_wp2_with fail
      refine (C1.out _ hb1).mono ?_
      rintro e w2 ⟨rfl, hb2⟩
      go_wp2_with fail
      go_ret2
      exact ⟨rfl, bthen hb1 hb2⟩
    | true =>
      rw [h1] at C1
      have hq := alwB_len h0
      obtain ⟨b0, o0, A0, c0', rfl, hc0, hcc0, _⟩ := hR.get (k := 0) (by omega)
      rw [Nat.add_zero] at hc0
      have HC0 := hid hc0
      have hal0 : (0 : Int) < (al.length : Int) := by omega
      by_cases h2 : goal.length = (rw_ al 0).length
      · have hne : ((goal.length : Int) != ((rw_ al 0).length : Int)) = false := by simp [h2]
        have h3 : inB s 0 5 = false := by simpa [shG, h0, h1, h2] using hno
        have c2 := fun W => s_l00In s 0 5 W
        simp only [h3] at c2
        have C2 := hid c2
        clear c0 c2 h0 hR hG hno h1 h2 h3 hc0
        generalize (rw_ al 0).length = n0 at *
        go_enter Try.func39, Try.ntmps39
        go_wp2_with fail
        refine C0.out.mono ?_
        rintro e w1 ⟨rfl, hb1⟩
        go_wp2_with fail
        refine (C1.out _ hb1).mono ?_
        rintro e w2 ⟨rfl, hb2⟩
        have hc2 := bcell (bthen hb1 hb2) HC0.out
        go_wp2_with (go_at_call 91; refine (C2.out _).mono ?_; rintro e w' ⟨rfl, rfl⟩)
        go_ret2
        exact ⟨rfl, bthen hb1 hb2⟩
      · have hne : ((goal.length : Int) != ((rw_ al 0).length : Int)) = true := by simp; omega
        clear c0 h0 hR hG hno h1 h2 hc0
        generalize (rw_ al 0).length = n0 at *
        go_enter Try.func39, Try.ntmps39
        go_wp2_with fail
        refine C0.out.mono ?_
        rintro e w1 ⟨rfl, hb1⟩
        go_wp2_with fail
        refine (C1.out _ hb1).mono ?_
        rintro e w2 ⟨rfl, hb2⟩
        have hc2 := bcell (bthen hb1 hb2) HC0.out
        go_wp2_with fail
        go_ret2
        exact ⟨rfl, bthen hb1 hb2⟩
set_option maxRecDepth 100000 in
theorem s_ShortestSteps (w : World) (A : Option Addr) (c : Nat) (al : List (List Int)) (G : Option Addr) (cg : Nat) (goal : List Int) (s : Int) (hl : rsz al ≤ 1048576) (hR : RdR w A al) (hgl : goal.length ≤ 1048576) (hG : RdI w G goal) :
    Calls Try.prog 39 #[.slice A al.length c, .slice G goal.length cg, .int .i64 s] w (RetIB w (m_ShortestSteps al goal s)) := by
  unfold m_ShortestSteps
  cases hno : shG al goal s with
  | false =>
    refine (s_SSno w A G c cg al goal s hl hgl hR hG hno).mono ?_
    rintro e w' ⟨rfl, hb⟩
    exact ⟨_, rfl, Own.nil _ _ _ _ _, hb⟩
  | true =>
    have hlen := rsz_len hl
    have h0 : alwB al = true := by unfold shG at hno; simp only [Bool.and_eq_true] at hno; exact hno.1
    have h1 : shufB goal = true := by unfold shG at hno; simp only [Bool.and_eq_true] at hno; exact hno.2.1
    have h2 : goal.length = (rw_ al 0).length := by unfold shG at hno; simp only [Bool.and_eq_true, decide_eq_true_eq] at hno; exact hno.2.2.1
    have h3 : inB s 0 5 = true := by unfold shG at hno; simp only [Bool.and_eq_true] at hno; exact hno.2.2.2
    have hs := inB_iff.1 h3
    obtain ⟨q1, q2, q3, q4, q5⟩ := alw_hal h0
    obtain ⟨m, rfl⟩ : ∃ m : Nat, s = (m : Int) := ⟨s.toNat, by omega⟩
    have c0 := s_l04Allowed w A c al hl hR
    rw [h0] at c0
    have C0 := hid c0
    have C1 := hid (fun W (hW : Below w.heap.size w W) => s_l04Is W G cg goal (by omega) (hG.below hW))
    rw [h1] at C1
    have c2 := fun W => s_l00In (m : Int) 0 5 W
    simp only [h3] at c2
    have C2 := hid c2
    have C3 := hid (fun W (hW : Below w.heap.size w W) => s_l04Reached W A G c cg al goal (rw_ al 0).length m q2 q3 q5 (by omega) q1 (hR.below hW) hgl (hG.below hW))
    have C4 := hid (fun W (hW : Below w.heap.size w W) (A2 : Option Addr) (c2 : Nat) (xs : List Int) (hx : xs.length ≤ 1048576) (h : RdI W A2 xs) => s_l00Same W A2 G c2 cg xs goal (by omega) (by omega) h (hG.below hW))
    have HM : Hid ((m : Int).toNat = m) := hid (by omega)
    rw [HM.out]
    have HAN := hid (AllN.lv (n := (rw_ al 0).length) (fun k hk => (q1 k hk).1) m)
    have HLL : Hid (1 ≤ (lvO al (rw_ al 0).length m).length ∧ (lvO al (rw_ al 0).length m).length ≤ 1365) := hid ⟨by
      obtain ⟨N, e⟩ := lvO_mono al (rw_ al 0).length 0 m
      rw [Nat.zero_add] at e
      rw [e, List.length_append]; simp [lvO], lv_len q3 m (by omega)⟩
    obtain ⟨b0, o0, A0, c0', rfl, hc0, hcc0, _⟩ := hR.get (k := 0) (by omega)
    rw [Nat.add_zero] at hc0
    have HC0 := hid hc0
    have hal0 : (0 : Int) < (al.length : Int) := by omega
    have hne : ((goal.length : Int) != ((rw_ al 0).length : Int)) = false := by simp [h2]
    have h16 : (rw_ al 0).length ≤ 16 := q5
    clear c0 c2 h0 hR hG hno h1 h2 h3 hc0 q1 HM
    generalize hO : lvO al (rw_ al 0).length m = O at *
    clear hO
    generalize (rw_ al 0).length = n0 at *
    rw [if_pos rfl]
    generalize hMM : (if ixG O goal < 0 then (([] : List Int), false) else ((qel O (ixG O goal).toNat).1, true)) = MM
    have HMM := hid hMM
    clear hMM
    go_enter Try.func39, Try.ntmps39
    go_wp2_with fail
    refine C0.out.mono ?_
    rintro e w1 ⟨rfl, hb1⟩
    go_wp2_with fail
    refine (C1.out _ hb1).mono ?_
    rintro e w2 ⟨rfl, hb2⟩
    have HB2 := hid (bthen hb1 hb2)
    have hc2 := bcell HB2.out HC0.out
    go_wp2_with (go_at_call 91; refine (C2.out _).mono ?_; rintro e w' ⟨rfl, rfl⟩)
    refine (C3.out _ HB2.out).mono ?_
    rintro e w3 ⟨A3, L, c3, rfl, hb3, T, hq3, hrq⟩
    have HB3 := hid (bthen HB2.out hb3)
    obtain ⟨hL1, hL2, hres⟩ := Rq_last hrq HLL.out.1
    obtain ⟨L', rfl⟩ : ∃ L', L = L' + 1 := ⟨L - 1, by omega⟩
    rw [Nat.add_sub_cancel] at hres
    obtain ⟨A', c', e', hget⟩ := hq3.getO
    cases e'
    obtain ⟨bt, A5, c5, A6, c6, rfl, x1, x2, t2, ow⟩ := hget L' (by omega)
    obtain ⟨N, eO⟩ := hrq.1
    have hTl : T.length ≤ 1365 := by have := HLL.out.2; rw [eO, List.length_append] at this; omega
    have hdl : (qel T L').2.length ≤ 16 := by
      have : (qel T L').2.length = n0 := HAN.out _ (by rw [eO]; exact List.mem_append_left _ (qel_mem (by omega)))
      omega
    have hba := ballocw w3 (.cells #[.slice A5 (qel T L').1.length c5, .slice A6 (qel T L').2.length c6] 108)
    have CS := hid (C4.out (w3.alloc (.cells #[.slice A5 (qel T L').1.length c5, .slice A6 (qel T L').2.length c6] 108)) (bthen HB3.out hba) A6 c6 (qel T L').2 (by omega) (t2.rd.below hba))
    have HOW := hid ow
    have HRES := hid hres
    have HBA := hid hba
    clear C0 C1 C2 C3 C4 HAN HLL hres hget ow t2 hrq hq3 hb3 hba eO hc2 hb1 hb2
    generalize qel T L' = r at *
    go_wp2_with fail
    refine CS.out.mono ?_
    rintro e w4 ⟨rfl, hb4⟩
    have HB4 := hid (bthen (bthen HB3.out HBA.out) hb4)
    have HO4 := hid (Own.wide (own_blk HOW.out fun b hb => (bthen HBA.out hb4).block b (own_at HOW.out hb).2.2) (Nat.le_refl _) (bthen HBA.out hb4).size)
    rcases HRES.out with ⟨hy, hi0, hiq⟩ | ⟨hn, hi0⟩
    · have hd : decide (r.2 = goal) = true := by simpa using hy
      have HEE : Hid (MM = (r.1, true)) := hid (by rw [← HMM.out, if_neg (by omega), hiq])
      have k4 : w4.cell? ⟨w3.heap.size, 0, none⟩ = some (.slice A5 r.1.length c5) := bcell hb4 (by simp)
      rw [hd]
      clear CS hy hi0 hiq HRES hb4
      go_wp2_with fail
      go_ret2
      rw [HEE.out]
      exact ⟨_, rfl, Own.wide HO4.out HB2.out.size (Nat.le_refl _), HB4.out⟩
    · have hd : decide (r.2 = goal) = false := by simpa using hn
      rw [hd]
      have HEE : Hid (MM = ([], false)) := hid (by rw [← HMM.out, if_pos hi0])
      clear CS hn hi0 HRES hb4
      go_wp2_with fail
      go_ret2
      rw [HEE.out]
      exact ⟨_, rfl, Own.nil _ _ _ _ _, HB4.out⟩
end Go.Proofs.Ytolcmehndambmaa
