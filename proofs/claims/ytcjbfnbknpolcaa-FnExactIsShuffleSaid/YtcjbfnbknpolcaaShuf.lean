import Derived.Test.YtcjbfnbknpolcaaWord
import Derived.Test.YtcjbfnbknpolcaaLawI
set_option linter.unusedVariables false
set_option linter.unusedSimpArgs false
namespace Go.Proofs.Ytcjbfnbknpolcaa
open Go.RowKit

def shufB (xs : List Int) : Bool := lanesB xs.length && xs.all (fun x => inB x 0 ((xs.length : Int) - 1))
theorem shufB_len {xs : List Int} (h : shufB xs = true) : xs.length ≤ 16 := by
  simp only [shufB, Bool.and_eq_true] at h; have := lanesB_or h.1; omega
theorem shufB_el {xs : List Int} (h : shufB xs = true) {k : Nat} (hk : k < xs.length) : 0 ≤ el xs k ∧ el xs k < xs.length := by
  simp only [shufB, Bool.and_eq_true, List.all_eq_true] at h; have := inB_iff.1 (h.2 _ (el_mem hk)); omega

theorem i_IsShuffle1 (W : World) (B : Nat) (A : Option Addr) (n c : Nat) (x : Int) (hn : n ≤ 9223372036854775807) (hc : W.cell? ⟨B, 0, none⟩ = some (.slice A n c)) :
    Calls Try.prog 56 #[.int .i64 x, .pointer (some ⟨B, 0, none⟩)] W fun e w' => e = .returned (.bool (inB x 0 ((n : Int) - 1))) ∧ Below W.heap.size W w' := by
  have h0 : (0 : Int) ≤ n := by omega
  go_enter Try.func56, Try.ntmps56
  go_wp2_with (first | (go_at_call 54; refine (i_lengthI _ _ _ _).mono ?_; rintro e w' ⟨rfl, rfl⟩) | (go_at_call 57; refine (i_within _ _ _ _).mono ?_; rintro e w' ⟨rfl, rfl⟩))
  go_ret
  exact ⟨rfl, Below.refl _ _⟩
theorem i_IsShuffle (w : World) (A : Option Addr) (c : Nat) (xs : List Int) (hl : xs.length ≤ 9223372036854775807) (hR : RdI w A xs) :
    Calls Try.prog 19 #[.slice A xs.length c] w fun e w' => e = .returned (.bool (shufB xs)) ∧ Below w.heap.size w w' := by
  have hb1 : Below w.heap.size w (w.alloc (.cells #[.slice A xs.length c] 28)) := ballocw _ _
  have hall := areAllI (w.alloc (.cells #[.slice A xs.length c] 28)) A xs.length c _ 56 #[.pointer (some ⟨w.heap.size, 0, none⟩)] (fun k => inB (el xs k) 0 ((xs.length : Int) - 1)) hl (hR.below hb1)
    (enters_of Try.func56 (by kernel_rfl) rfl) (fun W hW k hk => i_IsShuffle1 W w.heap.size A xs.length c (el xs k) hl ((hW.cell (p := ⟨w.heap.size, 0, none⟩) (by simp)).trans (by simp)))
  rw [allN_ints xs (fun x => inB x 0 ((xs.length : Int) - 1))] at hall
  have hcc := hall.mono (fun e w' ⟨h1, h2⟩ => (⟨h1, bthen hb1 h2⟩ : e = Ending.returned (.bool (xs.all fun x => inB x 0 ((xs.length : Int) - 1))) ∧ Below w.heap.size w w'))
  have hs : shufB xs = (lanesB xs.length && xs.all (fun x => inB x 0 ((xs.length : Int) - 1))) := rfl
  generalize (xs.all fun x => inB x 0 ((xs.length : Int) - 1)) = r at hcc hs
  have HS := hid hs
  clear hs hall hR
  have hlan := i_isLanes (xs.length : Int) (w.alloc (.cells #[.slice A xs.length c] 28))
  cases hb : lanesB xs.length with
  | true =>
    rw [hb] at hlan
    have HB := hid hb
    clear hb
    go_enter Try.func19, Try.ntmps19
    go_wp2_with (first | (go_at_call 54; refine (i_lengthI _ _ _ _).mono ?_; rintro e w' ⟨rfl, rfl⟩) | (go_at_call 51; refine hlan.mono ?_; rintro e w' ⟨rfl, rfl⟩) | (go_at_call 55; refine hcc.mono ?_; rintro e w' ⟨rfl, hb'⟩))
    go_ret
    exact ⟨ret_b (by rw [HS.out, HB.out]; rfl), hb'⟩
  | false =>
    rw [hb] at hlan
    have HB := hid hb
    clear hb
    go_enter Try.func19, Try.ntmps19
    go_wp2_with (first | (go_at_call 54; refine (i_lengthI _ _ _ _).mono ?_; rintro e w' ⟨rfl, rfl⟩) | (go_at_call 51; refine hlan.mono ?_; rintro e w' ⟨rfl, rfl⟩))
    go_ret
    exact ⟨ret_b (by rw [HS.out, HB.out]; rfl), hb1⟩
theorem s_l04Is (w : World) (A : Option Addr) (c : Nat) (xs : List Int) (hl : xs.length ≤ 9223372036854775807) (hR : RdI w A xs) :
    Calls Try.prog 53 #[.slice A xs.length c] w fun e w' => e = .returned (.bool (shufB xs)) ∧ Below w.heap.size w w' := by
  have hw := fun x => s_l00In x 0 ((xs.length : Int) - 1)
  have hb := fun W => s_l02Lanes (xs.length : Int) W
  have h0 : (0 : Int) ≤ xs.length := by omega
  go_enter Try.func53, Try.ntmps53
  go_wp2
  go_loopg [4] xs.length (fun gg s wr => ∃ k : Nat, k ≤ xs.length ∧ xs.length - k ≤ gg ∧ s = .int .i64 k ∧ Aside (Below w.heap.size w wr) ∧ Aside ((xs.all fun x => inB x 0 ((xs.length : Int) - 1)) = (xs.drop k).all fun x => inB x 0 ((xs.length : Int) - 1)))
  case atStart => exact ⟨0, Nat.zero_le _, by omega, rfl, Below.refl _ _, rfl⟩
  case round =>
    obtain ⟨k, hk, hg, rfl, BW, AL⟩ := hrel
    by_cases hlt : k < xs.length
    · obtain ⟨b', off, rfl, hc⟩ := hR.below BW.out k hlt
      have hq := AL.out
      rw [el_drop hlt, List.all_cons] at hq
      have hw' := hw (el xs k)
      cases hx : inB (el xs k) 0 ((xs.length : Int) - 1) with
      | true =>
        rw [hx] at hq hw'
        have AL' : Aside ((xs.all fun x => inB x 0 ((xs.length : Int) - 1)) = (xs.drop (k + 1)).all fun x => inB x 0 ((xs.length : Int) - 1)) := hq
        clear hx hq AL hR hw hb
        go_wp2_with (go_at_call 77; refine (hw' _).mono ?_; rintro e w' ⟨rfl, rfl⟩)
        go_roundg (xs.length - (k + 1))
        case measure => omega
        case rel => exact ⟨k + 1, by omega, by omega, by go_num, BW, AL'⟩
      | false =>
        rw [hx] at hq hw'
        have AL' : Aside (shufB xs = false) := by unfold shufB; rw [hq]; simp [Aside]
        clear hx hq AL hR hw hb
        go_wp2_with (go_at_call 77; refine (hw' _).mono ?_; rintro e w' ⟨rfl, rfl⟩)
        go_ret
        exact ⟨ret_b (by rw [AL'.out]), BW.out⟩
    · have : k = xs.length := by omega
      subst this
      have AL' : Aside (shufB xs = lanesB xs.length) := by have := AL.out; unfold shufB; rw [this]; simp [Aside]
      clear AL hw
      go_wp2_with (go_at_call 76; refine (hb _).mono ?_; rintro e w' ⟨rfl, rfl⟩)
      go_ret
      exact ⟨ret_b (by rw [AL'.out]), BW.out⟩
theorem s_IsShuffle (w : World) (A : Option Addr) (c : Nat) (xs : List Int) (hl : xs.length ≤ 9223372036854775807) (hR : RdI w A xs) :
    Calls Try.prog 17 #[.slice A xs.length c] w fun e w' => e = .returned (.bool (shufB xs)) ∧ Below w.heap.size w w' := by
  have h := s_l04Is w A c xs hl hR
  clear hR
  go_enter Try.func17, Try.ntmps17
  go_wp2_with (go_at_call 53; refine h.mono ?_; rintro e w' ⟨rfl, hb'⟩)
  go_ret
  exact ⟨rfl, hb'⟩
end Go.Proofs.Ytcjbfnbknpolcaa
