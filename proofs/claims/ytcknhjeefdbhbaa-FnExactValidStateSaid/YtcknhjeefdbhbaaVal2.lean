import Derived.Test.YtcknhjeefdbhbaaVal
import Derived.Test.YtcknhjeefdbhbaaFn
import Derived.Test.YtcknhjeefdbhbaaWord
set_option linter.unusedVariables false
set_option linter.unusedSimpArgs false
namespace Go.Proofs.Ytcknhjeefdbhbaa
open Go.RowKit

theorem i_IsMask11 (W : World) (x : Int) : Calls Try.prog 168 #[.int .i64 x] W fun e w' => e = .returned (.bool (inB x 0 1)) ∧ Below W.heap.size W w' := by
  by_cases h0 : x = 0
  · subst h0
    go_enter Try.func168, Try.ntmps168
    go_wp2
    go_ret
    exact ⟨ret_b (by simp [inB]), Below.refl _ _⟩
  · have hb0 : (x == 0) = false := by simpa using h0
    have HE : Hid ((x == 1) = inB x 0 1) := hid (by rw [Bool.eq_iff_iff, inB_iff]; simp; omega)
    clear h0
    go_enter Try.func168, Try.ntmps168
    go_wp2
    go_ret
    exact ⟨ret_b HE.out, Below.refl _ _⟩
theorem i_IsMask (w : World) (A : Option Addr) (c : Nat) (xs : List Int) (hl : xs.length ≤ 1048576) (hR : RdI w A xs) :
    Calls Try.prog 80 #[.slice A xs.length c] w fun e w' => e = .returned (.bool (maskB xs)) ∧ Below w.heap.size w w' := by
  have hlen := fun W => i_lengthI A xs.length c W
  have hall := fun W' (hW : Below w.heap.size w W') => areAllI W' A xs.length c (fun k => .int .i64 (el xs k)) 168 #[] (fun k => inB (el xs k) 0 1) (by omega) (hR.below hW) (enters_of Try.func168 (by kernel_rfl) rfl) (fun W hW k hk => i_IsMask11 W (el xs k))
  simp only [allN_ints xs (fun x => inB x 0 1)] at hall
  have hlan := fun W => i_isLanes (xs.length : Int) W
  clear hR
  unfold maskB
  generalize (xs.all fun x => inB x 0 1) = r at hall ⊢
  have HALL := hid hall
  have HLEN := hid hlen
  clear hall hlen
  cases hb : lanesB (xs.length : Int) with
  | false =>
    rw [hb] at hlan
    have HLAN := hid hlan
    clear hlan hb
    go_enter Try.func80, Try.ntmps80
    go_wp2_with fail
    refine (HLEN.out _).mono ?_
    rintro e w' ⟨rfl, rfl⟩
    go_wp2_with fail
    refine (HLAN.out _).mono ?_
    rintro e w' ⟨rfl, rfl⟩
    go_wp2_with fail
    go_ret
    exact ⟨ret_b (by simp), Below.refl _ _⟩
  | true =>
    rw [hb] at hlan
    have HLAN := hid hlan
    clear hlan hb
    go_enter Try.func80, Try.ntmps80
    go_wp2_with fail
    refine (HLEN.out _).mono ?_
    rintro e w' ⟨rfl, rfl⟩
    go_wp2_with fail
    refine (HLAN.out _).mono ?_
    rintro e w' ⟨rfl, rfl⟩
    go_wp2_with fail
    refine (HALL.out _ (Below.refl _ _)).mono ?_
    rintro e w1 ⟨rfl, hb1⟩
    go_wp2_with fail
    go_ret
    exact ⟨ret_b (by simp), hb1⟩
theorem i_VS2a (W : World) (B : Nat) (la bi : Int) (A : Option Addr) (n c : Nat) (hl : n ≤ 1048576) (h0 : W.cell? ⟨B, 0, none⟩ = some (.int .i64 la))
    (HV : Hid (∀ W', Below W.heap.size W W' → Calls Try.prog 80 #[.slice A n c] W' fun e w' => e = .returned (.bool false) ∧ Below W'.heap.size W' w')) :
    Calls Try.prog 79 #[.slice A n c, .pointer (some ⟨B, 0, none⟩)] W fun e w' => e = .returned (.bool false) ∧ Below W.heap.size W w' := by
  have hbd := bdrew1 W
  have h0d : W.drew.cell? ⟨B, 0, none⟩ = some (.int .i64 la) := h0
  go_enter Try.func79, Try.ntmps79
  go_wp2
  first | go_region_with (first | (go_at_call 80; refine (HV.out _ hbd).mono ?_; rintro e w1 ⟨rfl, hb1⟩; have k0 := bcell hb1 h0d; have k2 : Below W.heap.size W w1 := bthen hbd hb1)) | fail
  all_goals
    go_wp2
    go_ret
    exact ⟨rfl, by assumption⟩
set_option maxHeartbeats 2000000 in
theorem i_VS2b (W : World) (B : Nat) (la bi : Int) (A : Option Addr) (n c : Nat) (b : Bool) (hl : n ≤ 1048576) (hb : ((n : Int) == la) = b) (h0 : W.cell? ⟨B, 0, none⟩ = some (.int .i64 la))
    (HV : Hid (∀ W', Below W.heap.size W W' → Calls Try.prog 80 #[.slice A n c] W' fun e w' => e = .returned (.bool true) ∧ Below W'.heap.size W' w'))
    (HL : Hid (∀ W', Calls Try.prog 78 #[.slice A n c] W' fun e w' => e = .returned (.int .i64 n) ∧ W' = w')) :
    Calls Try.prog 79 #[.slice A n c, .pointer (some ⟨B, 0, none⟩)] W fun e w' => e = .returned (.bool b) ∧ Below W.heap.size W w' := by
  have hbd := bdrew1 W
  have h0d : W.drew.cell? ⟨B, 0, none⟩ = some (.int .i64 la) := h0
  go_enter Try.func79, Try.ntmps79
  go_wp2
  first | go_region_with (first | (go_at_call 80; refine (HV.out _ hbd).mono ?_; rintro e w1 ⟨rfl, hb1⟩; have k0 := bcell hb1 h0d; have k2 : Below W.heap.size W w1 := bthen hbd hb1) | (go_at_call 78; refine (HL.out _).mono ?_; rintro e w2 ⟨rfl, rfl⟩)) | fail
  all_goals
    go_wp2
    go_ret
    exact ⟨rfl, by assumption⟩
theorem i_VS1 (W : World) (B : Nat) (la bi : Int) (A : Option Addr) (c : Nat) (xs : List Int) (hl : xs.length ≤ 1048576) (h0 : W.cell? ⟨B, 0, none⟩ = some (.int .i64 la)) (h1 : W.cell? ⟨B, 1, none⟩ = some (.int .i64 bi)) (hR : RdI W A xs) :
    Calls Try.prog 76 #[.slice A xs.length c, .pointer (some ⟨B, 0, none⟩)] W fun e w' => e = .returned (.bool (vrowB la bi xs)) ∧ Below W.heap.size W w' := by
  have HV := fun W' (hW : Below W.heap.size W W') => i_IsVector W' bi A c xs (by omega) (hR.below hW)
  unfold vrowB
  cases hv : vecB bi xs with
  | false => simp only [hv] at HV; exact i_VS1a W B la bi A xs.length c hl h0 h1 (hid HV)
  | true => simp only [hv] at HV; exact i_VS1b W B la bi A xs.length c _ hl rfl h0 h1 (hid HV) (hid fun W' => i_lengthI A xs.length c W')
theorem i_VS2 (W : World) (B : Nat) (la bi : Int) (A : Option Addr) (c : Nat) (xs : List Int) (hl : xs.length ≤ 1048576) (h0 : W.cell? ⟨B, 0, none⟩ = some (.int .i64 la)) (hR : RdI W A xs) :
    Calls Try.prog 79 #[.slice A xs.length c, .pointer (some ⟨B, 0, none⟩)] W fun e w' => e = .returned (.bool (mrowB la xs)) ∧ Below W.heap.size W w' := by
  have HV := fun W' (hW : Below W.heap.size W W') => i_IsMask W' A c xs hl (hR.below hW)
  unfold mrowB
  cases hv : maskB xs with
  | false => simp only [hv] at HV; exact i_VS2a W B la bi A xs.length c hl h0 (hid HV)
  | true => simp only [hv] at HV; exact i_VS2b W B la bi A xs.length c _ hl rfl h0 (hid HV) (hid fun W' => i_lengthI A xs.length c W')
theorem i_isMemory1 (W : World) (B : Nat) (bi x : Int) (hc : W.cell? ⟨B, 1, none⟩ = some (.int .i64 bi)) :
    Calls Try.prog 163 #[.int .i64 x, .pointer (some ⟨B, 0, none⟩)] W fun e w' => e = .returned (.bool (wordB bi x)) ∧ Below W.heap.size W w' := by
  have hd := i_IsWord bi x W
  go_enter Try.func163, Try.ntmps163
  go_wp2_with (go_at_call 164; refine hd.mono ?_; rintro e w' ⟨rfl, rfl⟩)
  go_ret
  exact ⟨rfl, Below.refl _ _⟩
theorem i_isMemory (w : World) (la bi : Int) (A : Option Addr) (c : Nat) (xs : List Int) (hl : xs.length ≤ 1048576) (hR : RdI w A xs) :
    Calls Try.prog 74 #[mv la bi, .slice A xs.length c] w fun e w' => e = .returned (.bool (memB bi xs)) ∧ Below w.heap.size w w' := by
  have hb1 : Below w.heap.size w (w.alloc (.cells #[.int .i64 la, .int .i64 bi] 30)) := ballocw _ _
  have hall := areAllI (w.alloc (.cells #[.int .i64 la, .int .i64 bi] 30)) A xs.length c (fun k => .int .i64 (el xs k)) 163 #[.pointer (some ⟨w.heap.size, 0, none⟩)] (fun k => wordB bi (el xs k)) (by omega) (hR.below hb1)
    (enters_of Try.func163 (by kernel_rfl) rfl) (fun W hW k hk => i_isMemory1 W w.heap.size bi (el xs k) ((hW.cell (p := ⟨w.heap.size, 1, none⟩) (by simp)).trans (by simp)))
  rw [allN_ints xs (wordB bi)] at hall
  clear hR
  unfold memB
  generalize xs.all (wordB bi) = r at hall ⊢
  have HALL := hid hall
  have HB1 := hid hb1
  clear hall hb1
  by_cases h : xs.length = 64
  · have hb : ((xs.length : Int) == 64) = true := by simp; omega
    have HD : Hid (decide (xs.length = 64) = true) := hid (by simpa using h)
    clear h
    go_enter Try.func74, Try.ntmps74
    go_wp2_with fail
    refine HALL.out.mono ?_
    rintro e w1 ⟨rfl, hb1⟩
    go_wp2_with fail
    go_ret
    exact ⟨ret_b (by rw [HD.out]; simp), bthen HB1.out hb1⟩
  · have hb : ((xs.length : Int) == 64) = false := by simp; omega
    have HD : Hid (decide (xs.length = 64) = false) := hid (by simpa using h)
    clear h
    go_enter Try.func74, Try.ntmps74
    go_wp2_with fail
    go_ret
    exact ⟨ret_b (by rw [HD.out]; simp), HB1.out⟩
end Go.Proofs.Ytcknhjeefdbhbaa
