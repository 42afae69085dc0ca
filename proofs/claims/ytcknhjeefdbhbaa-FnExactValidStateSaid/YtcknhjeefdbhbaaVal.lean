import Derived.Test.YtcknhjeefdbhbaaState2
import Derived.Test.YtcknhjeefdbhbaaClone
import Derived.Deep.RegionWith
set_option linter.unusedVariables false
set_option linter.unusedSimpArgs false
namespace Go.Proofs.Ytcknhjeefdbhbaa
open Go.RowKit

/-! ### Valid states -/
def vrowB (la bi : Int) (xs : List Int) : Bool := vecB bi xs && ((xs.length : Int) == la)
def mrowB (la : Int) (xs : List Int) : Bool := maskB xs && ((xs.length : Int) == la)
def memB (bi : Int) (xs : List Int) : Bool := decide (xs.length = 64) && xs.all (wordB bi)
def stateB (la bi : Int) (s : StV) : Bool := machB la bi && (decide (s.vec.length = 8) && (decide (s.msk.length = 4) && (memB bi s.mem && (s.vec.all (vrowB la bi) && s.msk.all (mrowB la)))))
theorem bdrew1 (W : World) : Below W.heap.size W W.drew := ⟨rfl, rfl, rfl, Nat.le_refl _, fun _ _ => rfl⟩
theorem i_VS1a (W : World) (B : Nat) (la bi : Int) (A : Option Addr) (n c : Nat) (hl : n ≤ 1048576) (h0 : W.cell? ⟨B, 0, none⟩ = some (.int .i64 la)) (h1 : W.cell? ⟨B, 1, none⟩ = some (.int .i64 bi))
    (HV : Hid (∀ W', Below W.heap.size W W' → Calls Try.prog 77 #[.int .i64 bi, .slice A n c] W' fun e w' => e = .returned (.bool false) ∧ Below W'.heap.size W' w')) :
    Calls Try.prog 76 #[.slice A n c, .pointer (some ⟨B, 0, none⟩)] W fun e w' => e = .returned (.bool false) ∧ Below W.heap.size W w' := by
  have hbd := bdrew1 W
  have h0d : W.drew.cell? ⟨B, 0, none⟩ = some (.int .i64 la) := h0
  have h1d : W.drew.cell? ⟨B, 1, none⟩ = some (.int .i64 bi) := h1
  go_enter Try.func76, Try.ntmps76
  go_wp2
  first | go_region_with (first | (go_at_call 77; refine (HV.out _ hbd).mono ?_; rintro e w1 ⟨rfl, hb1⟩; have k0 := bcell hb1 h0d; have k1 := bcell hb1 h1d; have k2 : Below W.heap.size W w1 := bthen hbd hb1)) | fail
  all_goals
    go_wp2
    go_ret
    exact ⟨rfl, by assumption⟩
set_option maxHeartbeats 2000000 in
theorem i_VS1b (W : World) (B : Nat) (la bi : Int) (A : Option Addr) (n c : Nat) (b : Bool) (hl : n ≤ 1048576) (hb : ((n : Int) == la) = b) (h0 : W.cell? ⟨B, 0, none⟩ = some (.int .i64 la)) (h1 : W.cell? ⟨B, 1, none⟩ = some (.int .i64 bi))
    (HV : Hid (∀ W', Below W.heap.size W W' → Calls Try.prog 77 #[.int .i64 bi, .slice A n c] W' fun e w' => e = .returned (.bool true) ∧ Below W'.heap.size W' w'))
    (HL : Hid (∀ W', Calls Try.prog 78 #[.slice A n c] W' fun e w' => e = .returned (.int .i64 n) ∧ W' = w')) :
    Calls Try.prog 76 #[.slice A n c, .pointer (some ⟨B, 0, none⟩)] W fun e w' => e = .returned (.bool b) ∧ Below W.heap.size W w' := by
  have hbd := bdrew1 W
  have h0d : W.drew.cell? ⟨B, 0, none⟩ = some (.int .i64 la) := h0
  have h1d : W.drew.cell? ⟨B, 1, none⟩ = some (.int .i64 bi) := h1
  go_enter Try.func76, Try.ntmps76
  go_wp2
  first | go_region_with (first | (go_at_call 77; refine (HV.out _ hbd).mono ?_; rintro e w1 ⟨rfl, hb1⟩; have k0 := bcell hb1 h0d; have k1 := bcell hb1 h1d; have k2 : Below W.heap.size W w1 := bthen hbd hb1) | (go_at_call 78; refine (HL.out _).mono ?_; rintro e w2 ⟨rfl, rfl⟩)) | fail
  all_goals
    go_wp2
    go_ret
    exact ⟨rfl, by assumption⟩
end Go.Proofs.Ytcknhjeefdbhbaa
