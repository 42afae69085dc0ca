import Derived.Test.YtolcmehndambmaaBfs7
import Derived.Test.YtolcmehndambmaaBfs14
set_option linter.unusedVariables false
set_option linter.unusedSimpArgs false
namespace Go.Proofs.Ytolcmehndambmaa
open Go.RowKit

set_option maxRecDepth 100000 in
theorem i_SSno (w : World) (A G : Option Addr) (c cg : Nat) (al : List (List Int)) (goal : List Int) (s : Int) (hl : rsz al ≤ 1048576) (hgl : goal.length ≤ 1048576) (hR : RdR w A al) (hG : RdI w G goal) (hno : shG al goal s = false) :
    Calls Try.prog 40 #[.slice A al.length c, .slice G goal.length cg, .int .i64 s] w fun e w' => e = .returned (.tuple #[.slice none 0 0, .bool false]) ∧ Below w.heap.size w w' := by
  have hlen := rsz_len hl
  have hba := ballocw w (.cells #[.slice G goal.length cg] 29)
  have kg : (w.alloc (.cells #[.slice G goal.length cg] 29)).cell? ⟨w.heap.size, 0, none⟩ = some (.slice G goal.length cg) := by simp
  have k1 : ∀ x : Lat (w.alloc (.cells #[.slice G goal.length cg] 29)), _ := fun x => lcell kg x
  have C0 := hid (fun W (hW : Below (w.alloc (.cells #[.slice G goal.length cg] 29)).heap.size (w.alloc (.cells #[.slice G goal.length cg] 29)) W) => i_areAllowed W A c al hl (hR.below (bthen hba hW)))
  have C1 := hid (fun W (hW : Below (w.alloc (.cells #[.slice G goal.length cg] 29)).heap.size (w.alloc (.cells #[.slice G goal.length cg] 29)) W) => i_IsShuffle W G cg goal (by omega) (hG.below (bthen hba hW)))
  have HBA := hid hba
  cases h0 : alwB al with
  | false =>
    rw [h0] at C0
    clear h0 hR hG hno hba C1
    go_enter Try.func40, Try.ntmps40
    go_wp2
    refine wp_region_calm (by kernel_rfl) (by kernel_rfl) ?_
    repeat (go_big_quiet_step (exact calm_of (C0.out _ (Lat.below _))))
    refine wpQuiet_nil ?_
    intro _ hw'
    obtain ⟨xq, hw''⟩ := hw'
    subst hw''
    go_wp2
    go_ret2
    exact ⟨rfl, bthen HBA.out xq.below⟩
  | true =>
    rw [h0] at C0
    cases h1 : shufB goal with
    | false =>
      rw [h1] at C1
      clear h0 hR hG hno h1 hba
      go_enter Try.func40, Try.ntmps40
      go_wp2
      refine wp_region_calm (by kernel_rfl) (by kernel_rfl) ?_
      repeat (go_big_quiet_step (first | exact calm_of (C0.out _ (Lat.below _)) | exact calm_of (C1.out _ (Lat.below _))))
      refine wpQuiet_nil ?_
      intro _ hw'
      obtain ⟨xq, hw''⟩ := hw'
      subst hw''
      go_wp2
      go_ret2
      exact ⟨rfl, bthen HBA.out xq.below⟩
    | true =>
      rw [h1] at C1
      have hq := alwB_len h0
      obtain ⟨b0, o0, A0, c0', rfl, hc0, hcc0, _⟩ := hR.get (k := 0) (by omega)
      rw [Nat.add_zero] at hc0
      have k2 : ∀ x : Lat (w.alloc (.cells #[.slice G goal.length cg] 29)), _ := fun x => lcell (bcell hba hc0) x
      have hal0 : (0 : Int) < (al.length : Int) := by omega
      by_cases h2 : goal.length = (rw_ al 0).length
      · have hne : ((goal.length : Int) != ((rw_ al 0).length : Int)) = false := by simp [h2]
        have h3 : inB s 0 5 = false := by simpa [shG, h0, h1, h2] using hno
        have c2 := fun W => i_within s 0 5 W
        simp only [h3] at c2
        have C2 := hid c2
        clear c2 h0 hR hG hno h1 h2 h3 hc0 hba
        generalize (rw_ al 0).length = n0 at *
        go_enter Try.func40, Try.ntmps40
        go_wp2
        refine wp_region_calm (by kernel_rfl) (by kernel_rfl) ?_
        repeat (go_big_quiet_step (first | exact calm_of (C0.out _ (Lat.below _)) | exact calm_of (C1.out _ (Lat.below _)) | exact calm_same (C2.out _)))
        refine wpQuiet_nil ?_
        intro _ hw'
        obtain ⟨xq, hw''⟩ := hw'
        subst hw''
        go_wp2
        go_ret2
        exact ⟨rfl, bthen HBA.out xq.below⟩
      · have hne : ((goal.length : Int) != ((rw_ al 0).length : Int)) = true := by simp; omega
        clear h0 hR hG hno h1 h2 hc0 hba
        generalize (rw_ al 0).length = n0 at *
        go_enter Try.func40, Try.ntmps40
        go_wp2
        refine wp_region_calm (by kernel_rfl) (by kernel_rfl) ?_
        repeat (go_big_quiet_step (first | exact calm_of (C0.out _ (Lat.below _)) | exact calm_of (C1.out _ (Lat.below _))))
        refine wpQuiet_nil ?_
        intro _ hw'
        obtain ⟨xq, hw''⟩ := hw'
        subst hw''
        go_wp2
        go_ret2
        exact ⟨rfl, bthen HBA.out xq.below⟩
set_option maxRecDepth 100000 in
theorem i_ShortestSteps (w : World) (A : Option Addr) (c : Nat) (al : List (List Int)) (G : Option Addr) (cg : Nat) (goal : List Int) (s : Int) (hl : rsz al ≤ 1048576) (hR : RdR w A al) (hgl : goal.length ≤ 1048576) (hG : RdI w G goal) :
    Calls Try.prog 40 #[.slice A al.length c, .slice G goal.length cg, .int .i64 s] w (RetIB w (m_ShortestSteps al goal s)) := by
  unfold m_ShortestSteps
  cases hno : shG al goal s with
  | false =>
    refine (i_SSno w A G c cg al goal s hl hgl hR hG hno).mono ?_
    rintro e w' ⟨rfl, hb⟩
    exact ⟨_, rfl, Own.nil _ _ _ _ _, hb⟩
  | true =>
    have hlen := rsz_len hl
    have h0 : alwB al = true := by unfold shG at hno; simp only [Bool.and_eq_true] at hno; exact hno.1
    have h1 : shufB goal = true := by unfold shG at hno; simp only [Bool.and_eq_true] at hno; exact hno.2.1
    have h2 : goal.length = (rw_ al 0).length := by unfold shG at hno; simp only [Bool.and_eq_true, decide_eq_true_eq] at hno; exact hno.2.2.1
    have h3 : inB s 0 5 = true := by unfold shG at hno; simp only [Bool.and_eq_true] at hno; exact hno.2.2.2
    have hs := inB_iff.1 h3
    obtain ⟨q1, q2, q3, q4, q5⟩ := alw_hal h0
    obtain ⟨m, rfl⟩ : ∃ m : Nat, s = (m : Int) := ⟨s.toNat, by omega⟩
    have hba := ballocw w (.cells #[.slice G goal.length cg] 29)
    have kg : (w.alloc (.cells #[.slice G goal.length cg] 29)).cell? ⟨w.heap.size, 0, none⟩ = some (.slice G goal.length cg) := by simp
    have k1 : ∀ x : Lat (w.alloc (.cells #[.slice G goal.length cg] 29)), _ := fun x => lcell kg x
    have C0 := hid (fun W (hW : Below (w.alloc (.cells #[.slice G goal.length cg] 29)).heap.size (w.alloc (.cells #[.slice G goal.length cg] 29)) W) => i_areAllowed W A c al hl (hR.below (bthen hba hW)))
    have C1 := hid (fun W (hW : Below (w.alloc (.cells #[.slice G goal.length cg] 29)).heap.size (w.alloc (.cells #[.slice G goal.length cg] 29)) W) => i_IsShuffle W G cg goal (by omega) (hG.below (bthen hba hW)))
    rw [h0] at C0
    rw [h1] at C1
    have c2 := fun W => i_within (m : Int) 0 5 W
    simp only [h3] at c2
    have C2 := hid c2
    have C3 := hid (fun W (hW : Below w.heap.size w W) => i_reached W A c al (rw_ al 0).length m q2 q3 q5 (by omega) q1 (hR.below hW))
    have HG := hid hG
    have HM : Hid ((m : Int).toNat = m) := hid (by omega)
    rw [HM.out]
    have HAN := hid (AllN.lv (n := (rw_ al 0).length) (fun k hk => (q1 k hk).1) m)
    have hO5 : (lvO al (rw_ al 0).length m).length ≤ 1365 := lv_len q3 m (by omega)
    obtain ⟨b0, o0, A0, c0', rfl, hc0, hcc0, _⟩ := hR.get (k := 0) (by omega)
    rw [Nat.add_zero] at hc0
    have k2 : ∀ x : Lat (w.alloc (.cells #[.slice G goal.length cg] 29)), _ := fun x => lcell (bcell hba hc0) x
    have hal0 : (0 : Int) < (al.length : Int) := by omega
    have hne : ((goal.length : Int) != ((rw_ al 0).length : Int)) = false := by simp [h2]
    have HBA := hid hba
    have HKG := hid kg
    have HR5 := hid (ixG_range (lvO al (rw_ al 0).length m) goal)
    clear c2 h0 hR hG hno h1 h2 h3 hc0 q1 HM hba
    generalize hO : lvO al (rw_ al 0).length m = O at *
    clear hO
    generalize (rw_ al 0).length = n0 at *
    rw [if_pos rfl]
    generalize hMM : (if ixG O goal < 0 then (([] : List Int), false) else ((qel O (ixG O goal).toNat).1, true)) = MM
    have HMM := hid hMM
    clear hMM
    go_enter Try.func40, Try.ntmps40
    go_wp2
    refine wp_region_calm (by kernel_rfl) (by kernel_rfl) ?_
    repeat (go_big_quiet_step (first | exact calm_of (C0.out _ (Lat.below _)) | exact calm_of (C1.out _ (Lat.below _)) | exact calm_same (C2.out _)))
    refine wpQuiet_nil ?_
    intro _ hw'
    obtain ⟨xq, hw''⟩ := hw'
    subst hw''
    have HB1 := hid (bthen HBA.out xq.below)
    have kq := bcell xq.below HKG.out
    have HKQ := hid kq
    clear k1 k2 C0 C1 C2 HKG
    go_wp2_with fail
    refine (C3.out _ HB1.out).mono ?_
    rintro e w3 ⟨A3, c3, rfl, hq3, hb3⟩
    have hk3 := bcell hb3 HKQ.out
    have HB3 := hid (bthen HB1.out hb3)
    have HQ3 := hid hq3
    have CI : Hid (Calls Try.prog 99 #[.slice A3 O.length c3, .func (.func 100) #[] #[.pointer (some ⟨w.heap.size, 0, none⟩)]] w3 fun e w' => e = .returned (.int .i64 (ixG O goal)) ∧ Below w3.heap.size w3 w') := hid (by
      obtain ⟨A', c', F, e', hr, hf⟩ := hq3.seen
      cases e'
      exact indexFuncQ w3 A3 c3 O 100 #[.pointer (some ⟨w.heap.size, 0, none⟩)] (fun k => decide ((qel O k).2 = goal)) (by omega) F hr (enters_of Try.func100 (by kernel_rfl) rfl) (fun V hV k hk => by
        obtain ⟨A1, n1, c1, A2, c2, e, h2⟩ := hf k hk
        have hdl : (qel O k).2.length = n0 := HAN.out _ (qel_mem hk)
        dsimp only
        rw [e]
        exact i_eqS1 V w.heap.size A1 A2 G n1 c1 c2 cg (qel O k).2 goal (by omega) hgl (bcell hV hk3) (h2.below hV) ((HG.out.below HB3.out).below hV)))
    clear C3 hq3 hb3 kq
    go_wp2_with fail
    refine CI.out.mono ?_
    rintro e w4 ⟨rfl, hb4⟩
    have HB4 := hid (bthen HB3.out hb4)
    obtain ⟨A', c', e', hget⟩ := (HQ3.out.below hb4).getO
    cases e'
    have hz3 := HB1.out.size
    rcases HR5.out with hi0 | ⟨hi0, hi1⟩
    · have HEE : Hid (MM = ([], false)) := hid (by rw [← HMM.out, if_pos hi0])
      clear CI hb4 hget
      generalize ixG O goal = ix at *
      go_wp2_with fail
      go_ret2
      rw [HEE.out]
      exact ⟨_, rfl, Own.nil _ _ _ _ _, HB4.out⟩
    · obtain ⟨i, hi⟩ : ∃ i : Nat, ixG O goal = (i : Int) := ⟨(ixG O goal).toNat, by omega⟩
      have HEE : Hid (MM = ((qel O i).1, true)) := hid (by rw [← HMM.out, if_neg (by omega), hi]; rfl)
      have hiO : i < O.length := by omega
      obtain ⟨bt, A5, c5, A6, c6, rfl, x1, x2, t2, ow⟩ := hget i hiO
      have HOW := hid ow
      have hiz : (i : Int) < (O.length : Int) := by omega
      rw [hi]
      clear CI hb4 hget ow t2 HMM hi hi0 hi1 HR5
      go_wp2_with fail
      go_ret2
      rw [HEE.out]
      exact ⟨_, rfl, Own.wide HOW.out hz3 (Nat.le_refl _), HB4.out⟩
end Go.Proofs.Ytolcmehndambmaa
