import Derived.Test.YtolcmehndambmaaSrc2
set_option linter.unusedVariables false
set_option linter.unusedSimpArgs false
namespace Go.Proofs.Ytolcmehndambmaa
open Go.RowKit

set_option maxRecDepth 100000 in
theorem l_r8At (w : World) (A : Option Addr) (c : Nat) (bs : List Int) (k n : Int) (hl : bs.length ≤ 1048576) (hk0 : 0 ≤ k) (hk : k ≤ 1048576) (hn : 0 ≤ n) (hn2 : n ≤ 1048576) (hR : RdU w A bs) :
    Calls Try.prog 14 #[.slice A bs.length c, .int .i64 k, .int .i64 n] w fun e w' => ∃ z, e = .returned (.int .i64 z) ∧ (0 ≤ z ∧ (1 ≤ n → z < n)) ∧ w = w' := by
  by_cases h1 : n ≤ 1
  · clear hR
    go_enter Try.func14, Try.ntmps14
    go_wp2
    go_ret
    exact ⟨0, rfl, ⟨by omega, by omega⟩, rfl⟩
  · by_cases h2 : k < (bs.length : Int)
    · obtain ⟨j, rfl⟩ : ∃ j : Nat, k = j := ⟨k.toNat, by omega⟩
      obtain ⟨b, off, rfl, hc⟩ := hR.get (k := j) (by omega)
      have hb := hR.2 j (by omega)
      obtain ⟨hb0, hb1⟩ := hb
      clear hR
      generalize el bs j = x at *
      have ht := tmod_range (x := x) (n := n) hb0 (by omega)
      have HT := hid ht
      have hle : ¬ ((bs.length : Int) ≤ (j : Int)) := by omega
      clear ht
      go_enter Try.func14, Try.ntmps14
      go_wp2
      go_ret
      exact ⟨_, rfl, ⟨Int.emod_nonneg _ (by omega), fun _ => Int.emod_lt_of_pos _ (by omega)⟩, rfl⟩
    · clear hR
      have hle : (bs.length : Int) ≤ k := by omega
      go_enter Try.func14, Try.ntmps14
      go_wp2
      go_ret
      exact ⟨0, rfl, ⟨by omega, by omega⟩, rfl⟩
end Go.Proofs.Ytolcmehndambmaa
