import Derived.Test.YtolcmehndambmaaMach
import Derived.Test.YtolcmehndambmaaFn
set_option linter.unusedVariables false
set_option linter.unusedSimpArgs false
namespace Go.Proofs.Ytolcmehndambmaa
open Go.RowKit

def memB (bi : Int) (xs : List Int) : Bool := decide (xs.length = 64) && xs.all (wordB bi)
theorem i_isMemory1 (W : World) (B : Nat) (bi x : Int) (hc : W.cell? ⟨B, 1, none⟩ = some (.int .i64 bi)) :
    Calls Try.prog 155 #[.int .i64 x, .pointer (some ⟨B, 0, none⟩)] W fun e w' => e = .returned (.bool (wordB bi x)) ∧ Below W.heap.size W w' := by
  have hd := i_IsWord bi x W
  go_enter Try.func155, Try.ntmps155
  go_wp2_with (go_at_call 85; refine hd.mono ?_; rintro e w' ⟨rfl, rfl⟩)
  go_ret
  exact ⟨rfl, Below.refl _ _⟩
theorem i_isMemory (w : World) (la bi : Int) (A : Option Addr) (c : Nat) (xs : List Int) (hl : xs.length ≤ 1048576) (hR : RdI w A xs) :
    Calls Try.prog 107 #[mv la bi, .slice A xs.length c] w fun e w' => e = .returned (.bool (memB bi xs)) ∧ Below w.heap.size w w' := by
  have hb1 : Below w.heap.size w (w.alloc (.cells #[.int .i64 la, .int .i64 bi] 65)) := ballocw _ _
  have hall := areAllI (w.alloc (.cells #[.int .i64 la, .int .i64 bi] 65)) A xs.length c (fun k => .int .i64 (el xs k)) 155 #[.pointer (some ⟨w.heap.size, 0, none⟩)] (fun k => wordB bi (el xs k)) (by omega) (hR.below hb1)
    (enters_of Try.func155 (by kernel_rfl) rfl) (fun W hW k hk => i_isMemory1 W w.heap.size bi (el xs k) ((hW.cell (p := ⟨w.heap.size, 1, none⟩) (by simp)).trans (by simp)))
  rw [allN_ints xs (wordB bi)] at hall
  clear hR
  unfold memB
  generalize xs.all (wordB bi) = r at hall ⊢
  have HALL := hid hall
  have HB1 := hid hb1
  clear hall hb1
  by_cases h : xs.length = 64
  · have hb : ((xs.length : Int) == 64) = true := by simp; omega
    have HD : Hid (decide (xs.length = 64) = true) := hid (by simpa using h)
    clear h
    go_enter Try.func107, Try.ntmps107
    go_wp2_with fail
    refine HALL.out.mono ?_
    rintro e w1 ⟨rfl, hb1⟩
    go_wp2_with fail
    go_ret
    exact ⟨ret_b (by rw [HD.out]; simp), bthen HB1.out hb1⟩
  · have hb : ((xs.length : Int) == 64) = false := by simp; omega
    have HD : Hid (decide (xs.length = 64) = false) := hid (by simpa using h)
    clear h
    go_enter Try.func107, Try.ntmps107
    go_wp2_with fail
    go_ret
    exact ⟨ret_b (by rw [HD.out]; simp), HB1.out⟩
end Go.Proofs.Ytolcmehndambmaa
