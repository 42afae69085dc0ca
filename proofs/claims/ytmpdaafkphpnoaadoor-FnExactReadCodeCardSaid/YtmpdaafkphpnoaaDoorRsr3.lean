import Derived.Test.YtmpdaafkphpnoaaDoorRsr2
set_option linter.unusedVariables false
set_option linter.unusedSimpArgs false
namespace Go.Proofs.YtmpdaafkphpnoaaDoor
open Go.RowKit

set_option maxRecDepth 100000 in
theorem s_l03ReadStmtN (w : World) (s : ByteArray) (hs : s.size ≤ 1048576) (HQ : Hid (∀ j (h : j < s.size), ((((s[j]'h).toNat : Int)) != 61) = true)) :
    Calls Tryd.prog 61 #[.string s] w fun e w' => e = .returned (.tuple #[sv ⟨0, 0, 0, 0⟩, .bool false]) ∧ Below w.heap.size w w' := by
  have HR0 := hid (RB.made w)
  have HB0 := hid (ballocw w (.cells #[.int .i64 0, .int .i64 0, .int .i64 0, .int .i64 0] 57))
  go_enter Tryd.func61, Tryd.ntmps61
  go_wp2
  go_loopg [4] s.size (fun gg s4 wr => ∃ k : Nat, k ≤ s.size ∧ s.size - k ≤ gg ∧ s4 = .int .i64 k ∧ Aside (RB wr w.heap.size) ∧ Aside (Below w.heap.size w wr))
  case atStart => exact ⟨0, Nat.zero_le _, by omega, rfl, HR0.out, HB0.out⟩
  case round =>
    obtain ⟨k, hk, hg, rfl, RW, BW⟩ := hrel
    clear HR0 HB0
    by_cases hlt : k < s.size
    · have hq := HQ.out k hlt
      have hltz : (k : Int) < (s.size : Int) := by omega
      go_wp2
      go_roundg (s.size - (k + 1))
      case measure => omega
      case rel => exact ⟨k + 1, by omega, by omega, by go_num, RW, BW⟩
    · obtain rfl : k = s.size := by omega
      obtain ⟨q0, q1, q2, q3, qf⟩ := RW.out.at_
      have f0 := qf 0
      have f1 := qf 1
      have f2 := qf 2
      have f3 := qf 3
      have hltz : ¬ (s.size : Int) < (s.size : Int) := by omega
      clear qf HQ hlt
      go_wp2
      refine bodyPost_ret (results_row_tmp4 rfl _ _ w.heap.size 57 #[.int .i64 0, .int .i64 0, .int .i64 0, .int .i64 0] (0, 0) _ rfl (RW.out.fin 0 0 0 0) Tryd.underlying57 rfl (by kernel_rfl)) rfl ?_
      exact ⟨rfl, RB.fin_below BW.out (Nat.le_refl _) 0 0 0 0⟩
set_option maxRecDepth 100000 in
theorem s_l03ReadStmt0 (w : World) (s tr : ByteArray) (K n : Nat) (hs : s.size ≤ 1048576) (hn : ¬ n = 3) (hn2 : n ≤ 9223372036854775807) (hK : K < s.size) (hit : Hid ((((s[K]'hK).toNat : Int) != 61) = false)) (HQ : Hid (∀ j (h : j < s.size), j < K → ((((s[j]'h).toNat : Int)) != 61) = true))
    (HTR : Hid (s.extract (K + 1) s.size = tr))
    (C1 : Hid (∀ W, Below w.heap.size w W → Calls Tryd.prog 60 #[.string tr, .int .u8 32] W fun e w' => ∃ A c, e = .returned (.slice A n c) ∧ Below W.heap.size W w')) :
    Calls Tryd.prog 61 #[.string s] w fun e w' => e = .returned (.tuple #[sv ⟨0, 0, 0, 0⟩, .bool false]) ∧ Below w.heap.size w w' := by
  have HR0 := hid (RB.made w)
  have HB0 := hid (ballocw w (.cells #[.int .i64 0, .int .i64 0, .int .i64 0, .int .i64 0] 57))
  have hne : ((n : Int) != 3) = true := by simp; omega
  have HS := hid hs
  clear hn hs
  go_enter Tryd.func61, Tryd.ntmps61
  go_wp2
  go_loopg [4] K (fun gg s4 wr => ∃ k : Nat, k ≤ K ∧ K - k ≤ gg ∧ s4 = .int .i64 k ∧ Aside (RB wr w.heap.size) ∧ Aside (Below w.heap.size w wr))
  case atStart => exact ⟨0, Nat.zero_le _, by omega, rfl, HR0.out, HB0.out⟩
  case round =>
    obtain ⟨k, hk, hg, rfl, RW, BW⟩ := hrel
    clear HR0 HB0
    by_cases hlt : k < K
    · have hlt2 : k < s.size := by omega
      have hq := HQ.out k hlt2 hlt
      have hs := HS.out
      have hltz : (k : Int) < (s.size : Int) := by omega
      go_wp2
      go_roundg (K - (k + 1))
      case measure => omega
      case rel => exact ⟨k + 1, by omega, by omega, by go_num, RW, BW⟩
    · obtain rfl : k = K := by omega
      have hq := hit.out
      have hs := HS.out
      have hltz : (k : Int) < (s.size : Int) := by omega
      have hkz : ((k : Int) == (s.size : Int)) = false := by simp; omega
      have h1z : (k : Int) + 1 ≤ (s.size : Int) := by omega
      clear HQ hlt hit hk hg
      go_wp2_with (go_at_call 60; go_loud (rw [HTR.out]; refine (C1.out _ BW.out).mono ?_; rintro e w2 ⟨A2, c2, rfl, hb2⟩; have HR2 := hid (RW.out.below hb2); have HB2 := hid (bthen BW.out hb2); clear hb2; obtain ⟨q0, q1, q2, q3, qf⟩ := HR2.out.at_; have f0 := qf 0; have f1 := qf 1; have f2 := qf 2; have f3 := qf 3; clear qf))
      refine bodyPost_ret (results_row_tmp4 rfl _ _ w.heap.size 57 #[.int .i64 0, .int .i64 0, .int .i64 0, .int .i64 0] (0, 0) _ rfl (HR2.out.fin 0 0 0 0) Tryd.underlying57 rfl (by kernel_rfl)) rfl ?_
      exact ⟨rfl, RB.fin_below HB2.out (Nat.le_refl _) 0 0 0 0⟩
set_option maxRecDepth 100000 in
theorem s_l03ReadStmt3 (w : World) (s tl tr t0 t1 t2 : ByteArray) (K : Nat) (b1 b2 b3 b4 : Bool) (o d a b : Int) (hs : s.size ≤ 1048576) (hK : K < s.size) (hit : Hid ((((s[K]'hK).toNat : Int) != 61) = false)) (HQ : Hid (∀ j (h : j < s.size), j < K → ((((s[j]'h).toNat : Int)) != 61) = true))
    (HTR : Hid (s.extract (K + 1) s.size = tr)) (HTL : Hid (s.extract 0 K = tl))
    (C1 : Hid (∀ W, Below w.heap.size w W → Calls Tryd.prog 60 #[.string tr, .int .u8 32] W fun e w' => ∃ g c, e = .returned (.slice (some ⟨g, 0, none⟩) 3 c) ∧ C3 w' g t0 t1 t2 ∧ Below W.heap.size W w'))
    (D0 : Hid (∀ W, Below w.heap.size w W → Calls Tryd.prog 76 #[.string tl] W fun e w' => e = .returned (.tuple #[.int .i64 d, .bool b1]) ∧ Below W.heap.size W w'))
    (D1 : Hid (∀ W, Below w.heap.size w W → Calls Tryd.prog 76 #[.string t0] W fun e w' => e = .returned (.tuple #[.int .i64 a, .bool b2]) ∧ Below W.heap.size W w'))
    (D2 : Hid (∀ W, Below w.heap.size w W → Calls Tryd.prog 77 #[.string t1] W fun e w' => e = .returned (.tuple #[.int .i64 o, .bool b3]) ∧ Below W.heap.size W w'))
    (D3 : Hid (∀ W, Below w.heap.size w W → Calls Tryd.prog 76 #[.string t2] W fun e w' => e = .returned (.tuple #[.int .i64 b, .bool b4]) ∧ Below W.heap.size W w')) :
    Calls Tryd.prog 61 #[.string s] w fun e w' => e = .returned (.tuple #[sv ⟨o, d, a, b⟩, .bool (b1 && (b2 && (b3 && b4)))]) ∧ Below w.heap.size w w' := by
  have HR0 := hid (RB.made w)
  have HB0 := hid (ballocw w (.cells #[.int .i64 0, .int .i64 0, .int .i64 0, .int .i64 0] 57))
  have HS := hid hs
  clear hs
  cases b1
  rotate_left
  cases b2
  rotate_left
  cases b3
  rotate_left
  cases b4
  all_goals
    go_enter Tryd.func61, Tryd.ntmps61
    go_wp2
    go_loopg [4] K (fun gg s4 wr => ∃ k : Nat, k ≤ K ∧ K - k ≤ gg ∧ s4 = .int .i64 k ∧ Aside (RB wr w.heap.size) ∧ Aside (Below w.heap.size w wr))
    case atStart => exact ⟨0, Nat.zero_le _, by omega, rfl, HR0.out, HB0.out⟩
    case round =>
      obtain ⟨k, hk, hg, rfl, RW, BW⟩ := hrel
      clear HR0 HB0
      by_cases hlt : k < K
      · have hlt2 : k < s.size := by omega
        have hq := HQ.out k hlt2 hlt
        have hs := HS.out
        have hltz : (k : Int) < (s.size : Int) := by omega
        go_wp2
        go_roundg (K - (k + 1))
        case measure => omega
        case rel => exact ⟨k + 1, by omega, by omega, by go_num, RW, BW⟩
      · obtain rfl : k = K := by omega
        have hq := hit.out
        have hs := HS.out
        have hltz : (k : Int) < (s.size : Int) := by omega
        have hkz : ((k : Int) == (s.size : Int)) = false := by simp; omega
        have h1z : (k : Int) + 1 ≤ (s.size : Int) := by omega
        clear HQ hlt hit hk hg
        go_wp2_with (first
          | (go_at_call 60; go_loud (rw [HTR.out]; refine (C1.out _ BW.out).mono ?_; rintro e w2 ⟨g2, c2, rfl, hg2, hb2⟩; have HR2 := hid (RW.out.below hb2); have HB2 := hid (bthen BW.out hb2); have HG2 := hid hg2; clear hb2 hg2))
          | (go_at_call 76; rw [HTL.out]; with_reducible refine (D0.out _ HB2.out).mono ?_; rintro e w3 ⟨rfl, hb3⟩; have HR3 := hid (HR2.out.below hb3); have HB3 := hid (bthen HB2.out hb3); have HG3 := hid (HG2.out.below hb3); have k0 := HG3.out.c0; clear hb3)
          | (go_at_call 76; with_reducible refine (D1.out _ HB3.out).mono ?_; rintro e w4 ⟨rfl, hb4⟩; have HR4 := hid (HR3.out.below hb4); have HB4 := hid (bthen HB3.out hb4); have HG4 := hid (HG3.out.below hb4); have k1 := HG4.out.c1; clear hb4 k0)
          | (go_at_call 77; with_reducible refine (D2.out _ HB4.out).mono ?_; rintro e w5 ⟨rfl, hb5⟩; have HR5 := hid (HR4.out.below hb5); have HB5 := hid (bthen HB4.out hb5); have HG5 := hid (HG4.out.below hb5); have k2 := HG5.out.c2; clear hb5 k1)
          | (go_at_call 76; with_reducible refine (D3.out _ HB5.out).mono ?_; rintro e w6 ⟨rfl, hb6⟩; have HR6 := hid (HR5.out.below hb6); have HB6 := hid (bthen HB5.out hb6); obtain ⟨q0, q1, q2, q3, qf⟩ := HR6.out.at_; have f0 := qf 0; have f1 := qf 1; have f2 := qf 2; have f3 := qf 3; clear hb6 k2 qf))
        refine bodyPost_ret (results_row_tmp4 rfl _ _ w.heap.size 57 #[.int .i64 o, .int .i64 d, .int .i64 a, .int .i64 b] (0, 0) _ rfl (HR6.out.fin o d a b) Tryd.underlying57 rfl (by kernel_rfl)) rfl ?_
        exact ⟨rfl, RB.fin_below HB6.out (Nat.le_refl _) o d a b⟩
end Go.Proofs.YtmpdaafkphpnoaaDoor
