import Derived.Lib.Slices
import Derived.Lib.Walk
import Derived.Test.YtmpdaafkphpnoaaGreatStm2
import Derived.Test.YtmpdaafkphpnoaaGreatSeq
import Derived.Test.YtmpdaafkphpnoaaGreatShuf
set_option linter.unusedVariables false
set_option linter.unusedSimpArgs false
namespace Go.Proofs.YtmpdaafkphpnoaaGreat
open Go.RowKit

/-! ### Small functions over lists of numbers -/
theorem el_getD (xs : List Int) (k : Nat) : el xs k = xs.getD k 0 := rfl
theorem g_Max (w : World) (A : Option Addr) (c : Nat) (xs : List Int) (hl : xs.length ≤ 1048576) (h1 : 1 ≤ xs.length) (hR : RdI w A xs) :
    Calls Tryz.prog 187 #[.slice A xs.length c] w fun e w' => e = .returned (.int .i64 (Lib.maxOf xs)) ∧ w = w' := by
  obtain ⟨b, off, rfl, h0⟩ := hR.get (k := 0) (by omega)
  have h0' : w.cell? ⟨b, off, none⟩ = some (.int .i64 (el xs 0)) := by simpa using h0
  have hn1 : ¬ (xs.length : Int) < 1 := by omega
  go_enter Tryz.func187, Tryz.ntmps187
  go_wp2
  go_loopg [3, 4] xs.length (fun gg m i wr => ∃ k : Nat, 0 < k ∧ k ≤ xs.length ∧ xs.length - k ≤ gg ∧ i = .int .i64 k ∧ m = .int .i64 (Lib.maxOf (xs.take k)) ∧ Aside (w = wr))
  case atStart =>
    exact ⟨1, Nat.one_pos, h1, by omega, rfl, by rw [Lib.maxOf_one]; rfl, rfl⟩
  case round =>
    obtain ⟨k, hk0, hk, hg, rfl, rfl, BW⟩ := hrel
    obtain rfl := BW.out
    by_cases hlt : k < xs.length
    · obtain ⟨b', off', e, hc⟩ := hR.get hlt
      cases e
      have HS : Hid (Lib.maxOf (xs.take (k + 1)) = max (Lib.maxOf (xs.take k)) (el xs k)) := hid (Lib.maxOf_step xs k hk0 hlt)
      have HT := hid (show k < xs.length from hlt)
      obtain ⟨r, hr⟩ : ∃ r, Lib.maxOf (xs.take (k + 1)) = r := ⟨_, rfl⟩
      have HR2 := hid hr
      rw [hr] at HS
      clear hr
      generalize Lib.maxOf (xs.take k) = q at *
      generalize el xs k = z at *
      go_wp2
      go_roundg (xs.length - (k + 1))
      case measure => omega
      case rel => exact ⟨k + 1, by omega, by omega, by omega, by go_num, by rw [HR2.out, HS.out], rfl⟩
    · obtain rfl : k = xs.length := by omega
      rw [List.take_length]
      go_wp2
      go_ret
      exact ⟨rfl, rfl⟩
theorem g_Min (w : World) (A : Option Addr) (c : Nat) (xs : List Int) (hl : xs.length ≤ 1048576) (h1 : 1 ≤ xs.length) (hR : RdI w A xs) :
    Calls Tryz.prog 131 #[.slice A xs.length c] w fun e w' => e = .returned (.int .i64 (Lib.minOf xs)) ∧ w = w' := by
  obtain ⟨b, off, rfl, h0⟩ := hR.get (k := 0) (by omega)
  have h0' : w.cell? ⟨b, off, none⟩ = some (.int .i64 (el xs 0)) := by simpa using h0
  have hn1 : ¬ (xs.length : Int) < 1 := by omega
  go_enter Tryz.func131, Tryz.ntmps131
  go_wp2
  go_loopg [3, 4] xs.length (fun gg m i wr => ∃ k : Nat, 0 < k ∧ k ≤ xs.length ∧ xs.length - k ≤ gg ∧ i = .int .i64 k ∧ m = .int .i64 (Lib.minOf (xs.take k)) ∧ Aside (w = wr))
  case atStart =>
    exact ⟨1, Nat.one_pos, h1, by omega, rfl, by rw [Lib.minOf_one]; rfl, rfl⟩
  case round =>
    obtain ⟨k, hk0, hk, hg, rfl, rfl, BW⟩ := hrel
    obtain rfl := BW.out
    by_cases hlt : k < xs.length
    · obtain ⟨b', off', e, hc⟩ := hR.get hlt
      cases e
      have HS : Hid (Lib.minOf (xs.take (k + 1)) = min (Lib.minOf (xs.take k)) (el xs k)) := hid (Lib.minOf_step xs k hk0 hlt)
      have HT := hid (show k < xs.length from hlt)
      obtain ⟨r, hr⟩ : ∃ r, Lib.minOf (xs.take (k + 1)) = r := ⟨_, rfl⟩
      have HR2 := hid hr
      rw [hr] at HS
      clear hr
      generalize Lib.minOf (xs.take k) = q at *
      generalize el xs k = z at *
      go_wp2
      go_roundg (xs.length - (k + 1))
      case measure => omega
      case rel => exact ⟨k + 1, by omega, by omega, by omega, by go_num, by rw [HR2.out, HS.out], rfl⟩
    · obtain rfl : k = xs.length := by omega
      rw [List.take_length]
      go_wp2
      go_ret
      exact ⟨rfl, rfl⟩
theorem i_cellD (w : World) (x : SmV) : Calls Tryz.prog 191 #[sv x] w fun e w' => e = .returned (.int .i64 x.d) ∧ Below w.heap.size w w' := by
  obtain ⟨o, d, a, b⟩ := x
  go_enter Tryz.func191, Tryz.ntmps191
  go_wp2
  go_ret
  exact ⟨rfl, ballocw _ _⟩
theorem i_cellA (w : World) (x : SmV) : Calls Tryz.prog 184 #[sv x] w fun e w' => e = .returned (.int .i64 x.a) ∧ Below w.heap.size w w' := by
  obtain ⟨o, d, a, b⟩ := x
  go_enter Tryz.func184, Tryz.ntmps184
  go_wp2
  go_ret
  exact ⟨rfl, ballocw _ _⟩
theorem i_cellB (w : World) (x : SmV) : Calls Tryz.prog 185 #[sv x] w fun e w' => e = .returned (.int .i64 x.b) ∧ Below w.heap.size w w' := by
  obtain ⟨o, d, a, b⟩ := x
  go_enter Tryz.func185, Tryz.ntmps185
  go_wp2
  go_ret
  exact ⟨rfl, ballocw _ _⟩
theorem i_lengthC (A : Option Addr) (n c : Nat) (w : World) : Calls Tryz.prog 132 #[.slice A n c] w fun e w' => e = .returned (.int .i64 n) ∧ w = w' := by
  go_enter Tryz.func132, Tryz.ntmps132
  go_wp2
  go_ret
  exact ⟨rfl, rfl⟩
end Go.Proofs.YtmpdaafkphpnoaaGreat
