import Derived.Test.YthgfcoafngddgaaSched2
set_option linter.unusedVariables false
set_option linter.unusedSimpArgs false
namespace Go.Proofs.Ythgfcoafngddgaa
open Go.RowKit

theorem Sml.of {xs : List Int} (h : timeN xs = true) : Sml xs := fun k hk => by
  rw [timeN_eq] at h
  unfold allN at h
  have := inB_iff.1 (List.all_eq_true.1 h k (List.mem_range.2 hk))
  omega
theorem i_IsSchedule1 (W : World) (x : Int) : Calls Try.prog 163 #[.int .i64 x] W fun e w' => e = .returned (.bool (inB x 0 200)) ∧ Below W.heap.size W w' := by
  have c0 := i_within x 0 200
  generalize inB x 0 200 = r at c0 ⊢
  go_enter Try.func163, Try.ntmps163
  go_wp2_with fail
  refine (c0 _).mono ?_
  rintro e w' ⟨rfl, rfl⟩
  go_wp2_with fail
  go_ret
  exact ⟨rfl, Below.refl _ _⟩
theorem i_times (w : World) (A : Option Addr) (c : Nat) (xs : List Int) (hn : xs.length ≤ 1048576) (hR : RdI w A xs) :
    Calls Try.prog 113 #[.slice A xs.length c, .func (.func 163) #[] #[]] w fun e w' => e = .returned (.bool (timeN xs)) ∧ Below w.heap.size w w' := by
  have h := areAllI w A xs.length c (fun j => .int .i64 (el xs j)) 163 #[] (fun j => inB (el xs j) 0 200) (by omega) hR
    (enters_of Try.func163 (by kernel_rfl) rfl) (fun W' hW' j hj => i_IsSchedule1 W' (el xs j))
  rw [allN_ints xs (fun x => inB x 0 200)] at h
  exact h
set_option maxRecDepth 100000 in
theorem i_IsSchedule (w : World) (A' A : Option Addr) (c' c : Nat) (ts : List TaskV) (xs : List Int) (hlt : tsz ts ≤ 1048576) (hT : RdT w A' ts) (hl : xs.length ≤ 1048576) (hR : RdI w A xs) :
    Calls Try.prog 82 #[.slice A' ts.length c', .slice A xs.length c] w fun e w' => e = .returned (.bool (schedB ts xs)) ∧ Below w.heap.size w w' := by
  have c0 := i_ValidTasks w A' c' ts hlt hT
  have hn := tsz_len hlt
  have C1 := hid (fun W (hW : Below w.heap.size w W) => i_times W A c xs hl (hR.below hW))
  cases h0 : tasksB ts with
  | false =>
    rw [h0] at c0
    have HF : Hid (false = schedB ts xs) := hid (by unfold schedB; rw [h0]; rfl)
    have C0 := hid c0
    clear c0 h0 hT hR C1 hlt
    generalize schedB ts xs = r at HF ⊢
    go_enter Try.func82, Try.ntmps82
    go_wp2_with fail
    refine C0.out.mono ?_
    rintro e w1 ⟨rfl, hb1⟩
    go_wp2_with fail
    go_ret
    exact ⟨ret_b HF.out, hb1⟩
  | true =>
    rw [h0] at c0
    have C0 := hid c0
    have hO := TOk.of h0
    by_cases hq : xs.length = ts.length
    · have hne : ((xs.length : Int) != (ts.length : Int)) = false := by simp [hq]
      cases h1 : timeN xs with
      | false =>
        simp only [h1] at C1
        have HF : Hid (false = schedB ts xs) := hid (by unfold schedB; rw [h1]; simp)
        clear c0 h0 h1 hT hR hlt hq hO
        generalize schedB ts xs = r at HF ⊢
        go_enter Try.func82, Try.ntmps82
        go_wp2_with fail
        refine C0.out.mono ?_
        rintro e w1 ⟨rfl, hb1⟩
        go_wp2_with fail
        refine (C1.out _ hb1).mono ?_
        rintro e w2 ⟨rfl, hb2⟩
        go_wp2_with fail
        go_ret
        exact ⟨ret_b HF.out, bthen hb1 hb2⟩
      | true =>
        simp only [h1] at C1
        have hS := Sml.of h1
        have C2 := hid (fun W (hW : Below w.heap.size w W) i hi => i_fits W A A' c c' xs ts i hq hi hO hS (hR.below hW) (hT.below hW))
        have HE : Hid (fitN ts xs xs.length = schedB ts xs) := hid (by unfold schedB; rw [h0, h1]; simp [hq])
        have HN : Hid (∀ k, k < ts.length → fitN ts xs k = true → fitB ts xs k = false → false = schedB ts xs) := hid fun k hk h2 h3 => by
          rw [← HE.out]; exact (fitN_mono (j := k + 1) (by simp only [fitN]; rw [h3]; simp) (by omega)).symm
        have HQ := hid hq
        clear c0 h0 h1 hT hR hlt hq hO hS
        generalize schedB ts xs = r at HE HN ⊢
        go_enter Try.func82, Try.ntmps82
        go_wp2_with fail
        refine C0.out.mono ?_
        rintro e w1 ⟨rfl, hb1⟩
        go_wp2_with fail
        refine (C1.out _ hb1).mono ?_
        rintro e w2 ⟨rfl, hb2⟩
        have BW2 := hid (bthen hb1 hb2)
        clear hb1 hb2 C0 C1
        go_wp2_with fail
        go_loopg [23] ts.length (fun gg s wr => ∃ k : Nat, k ≤ ts.length ∧ ts.length - k ≤ gg ∧ s = .int .i64 k ∧ Aside (Below w.heap.size w wr) ∧ Aside (fitN ts xs k = true))
        case atStart => exact ⟨0, Nat.zero_le _, by omega, rfl, BW2.out, rfl⟩
        case round =>
          obtain ⟨k, hk, hg, rfl, BW, AL⟩ := hrel
          by_cases hlt : k < ts.length
          · have hc := C2.out wr BW.out k hlt
            cases h3 : fitB ts xs k with
            | false =>
              rw [h3] at hc
              have HC := hid hc
              have HF := hid (HN.out k hlt AL.out h3)
              clear hc h3 HN HE C2 HQ BW2 AL
              go_wp2_with fail
              refine HC.out.mono ?_
              rintro e w3 ⟨rfl, hb3⟩
              go_wp2_with fail
              go_ret
              exact ⟨ret_b HF.out, bthen BW.out hb3⟩
            | true =>
              rw [h3] at hc
              have HC := hid hc
              have AL' : Aside (fitN ts xs (k + 1) = true) := by unfold Aside; simp only [fitN]; rw [AL.out, h3]; rfl
              clear hc h3 HN HE C2 HQ BW2 AL
              go_wp2_with fail
              refine HC.out.mono ?_
              rintro e w3 ⟨rfl, hb3⟩
              have BW' : Aside (Below w.heap.size w w3) := bthen BW.out hb3
              clear HC
              go_wp2_with fail
              go_roundg (ts.length - (k + 1))
              case measure => omega
              case rel => exact ⟨k + 1, by omega, by omega, by go_num, BW', AL'⟩
          · have : k = ts.length := by omega
            subst this
            have HF : Hid (true = r) := hid (by rw [← HE.out, HQ.out, AL.out])
            clear HN HE C2 HQ BW2 AL
            go_wp2_with fail
            go_ret
            exact ⟨ret_b HF.out, BW.out⟩
    · have hne : ((xs.length : Int) != (ts.length : Int)) = true := by simp; omega
      have HF : Hid (false = schedB ts xs) := hid (by unfold schedB; simp [hq])
      clear c0 h0 hT hR C1 hlt hq hO
      generalize schedB ts xs = r at HF ⊢
      go_enter Try.func82, Try.ntmps82
      go_wp2_with fail
      refine C0.out.mono ?_
      rintro e w1 ⟨rfl, hb1⟩
      go_wp2_with fail
      go_ret
      exact ⟨ret_b HF.out, hb1⟩
end Go.Proofs.Ythgfcoafngddgaa
