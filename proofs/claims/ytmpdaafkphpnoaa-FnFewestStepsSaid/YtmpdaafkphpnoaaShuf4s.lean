import Derived.Test.YtmpdaafkphpnoaaShuf4j
set_option linter.unusedVariables false
set_option linter.unusedSimpArgs false
namespace Go.Proofs.Ytmpdaafkphpnoaa
open Go.RowKit

theorem nmap_snoc (F : Nat → Int) (k : Nat) : (List.range (k + 1)).map F = (List.range k).map F ++ [F k] := by simp [List.range_succ]
theorem nmap_len (F : Nat → Int) (k : Nat) : ((List.range k).map F).length = k := by simp
abbrev TrueAt (w : World) (f : Nat) (args : Array Value) (b : Bool) : Prop := Calls Try.prog f args w fun e w' => e = .returned (.bool b) ∧ w = w'
set_option maxRecDepth 100000 in
set_option maxHeartbeats 2000000 in
theorem s_NK0 (w : World) (n : Nat) (h2 : 2 ≤ n) (hn : n ≤ 16) (F : Nat → Int) (hF : Hid (∀ k : Nat, k < n → ((k : Nat) + 0) % (n : Nat) = F k))
    (c0 : TrueAt w 79 #[.int .i64 (n : Nat)] true) (c1 : TrueAt w 59 #[.int .i64 0, .int .i64 0, .int .i64 5] true) (c2 : TrueAt w 59 #[.int .i64 0, .int .i64 0, .int .i64 ((n : Nat) - 1)] true) :
    Calls Try.prog 40 #[.int .i64 0, .int .i64 (n : Nat), .int .i64 0] w (RetIB w ((List.range n).map F, true)) := by
  have hne : (((n : Nat) : Int) == 0) = false := by simp; omega
  go_enter Try.func40, Try.ntmps40
  go_wp2_with fail
  refine c0.mono ?_
  rintro e w1 ⟨rfl, rfl⟩
  go_wp2_with fail
  refine c1.mono ?_
  rintro e w1 ⟨rfl, rfl⟩
  go_wp2_with fail
  refine c2.mono ?_
  rintro e w1 ⟨rfl, rfl⟩
  go_wp2_with fail
  go_loopg [8, 9] n (fun gg v s wr => ∃ k : Nat, k ≤ n ∧ n - k ≤ gg ∧ s = .int .i64 k ∧ Aside (Below w.heap.size w wr) ∧
    Aside (Own wr w.heap.size wr.heap.size 2 1 v k (ints ((List.range k).map F))))
  case atStart =>
    refine ⟨0, by omega, by omega, rfl, ?_, ?_⟩
    · show Below _ _ _; exact ballocw _ _
    · have := Own.of (World.ownsRow_lit (base := w.heap.size) (e := 2) (size := 1) w #[] 0 (Nat.le_refl _) (by simp [maxLen]) rfl)
      simpa [Aside, ints] using this
  case round =>
    obtain ⟨k, hk, hg, rfl, BW, OW⟩ := hrel
    by_cases hlt : k < n
    · have hsz := BW.out.size
      have HP := hid (nmap_snoc F k)
      have HE := hid (hF.out k hlt)
      go_wp2_with (first | (at_builtin; refine wp_append1 w.heap.size rfl _ _ 27 2 (.int .i64 0) 8 rfl Try.underlying27 infoInt rfl u8 k _ (.int .i64 _) rfl rfl rfl OW.out hsz (by omega) (by omega) ?_; intro v1 w1 hown1 hbel1))
      go_roundg (n - (k + 1))
      case measure => omega
      case rel =>
        refine ⟨k + 1, by omega, by omega, by go_num, ?_, ?_⟩
        · show Below _ _ _; exact BW.out.trans hbel1
        · show Own _ _ _ _ _ _ _ _; rw [HP.out, ← HE.out, ints_append]; exact hown1
    · have hkk : k = n := by omega
      subst hkk
      go_wp2_with fail
      go_ret2
      have HK := nmap_len F k
      refine ⟨_, rfl, ?_, BW.out⟩
      show OI _ _ _ _ _
      unfold OI OwnI
      rw [HK]
      exact OW.out
set_option maxRecDepth 100000 in
set_option maxHeartbeats 2000000 in
theorem s_NK0p (w : World) (n : Nat) (h2 : 2 ≤ n) (hn : n ≤ 16) (by_ : Int) (hp : 0 < by_) (hp2 : by_ < 16) (F : Nat → Int) (hF : Hid (∀ k : Nat, k < n → ((k : Nat) + by_) % (n : Nat) = F k))
    (c0 : TrueAt w 79 #[.int .i64 (n : Nat)] true) (c1 : TrueAt w 59 #[.int .i64 0, .int .i64 0, .int .i64 5] true) (c2 : TrueAt w 59 #[.int .i64 by_, .int .i64 0, .int .i64 ((n : Nat) - 1)] true) :
    Calls Try.prog 40 #[.int .i64 0, .int .i64 (n : Nat), .int .i64 by_] w (RetIB w ((List.range n).map F, true)) := by
  have hne : (((n : Nat) : Int) == 0) = false := by simp; omega
  go_enter Try.func40, Try.ntmps40
  go_wp2_with fail
  refine c0.mono ?_
  rintro e w1 ⟨rfl, rfl⟩
  go_wp2_with fail
  refine c1.mono ?_
  rintro e w1 ⟨rfl, rfl⟩
  go_wp2_with fail
  refine c2.mono ?_
  rintro e w1 ⟨rfl, rfl⟩
  go_wp2_with fail
  go_loopg [8, 9] n (fun gg v s wr => ∃ k : Nat, k ≤ n ∧ n - k ≤ gg ∧ s = .int .i64 k ∧ Aside (Below w.heap.size w wr) ∧
    Aside (Own wr w.heap.size wr.heap.size 2 1 v k (ints ((List.range k).map F))))
  case atStart =>
    refine ⟨0, by omega, by omega, rfl, ?_, ?_⟩
    · show Below _ _ _; exact ballocw _ _
    · have := Own.of (World.ownsRow_lit (base := w.heap.size) (e := 2) (size := 1) w #[] 0 (Nat.le_refl _) (by simp [maxLen]) rfl)
      simpa [Aside, ints] using this
  case round =>
    obtain ⟨k, hk, hg, rfl, BW, OW⟩ := hrel
    by_cases hlt : k < n
    · have hsz := BW.out.size
      have HP := hid (nmap_snoc F k)
      have HE := hid (hF.out k hlt)
      go_wp2_with (first | (at_builtin; refine wp_append1 w.heap.size rfl _ _ 27 2 (.int .i64 0) 8 rfl Try.underlying27 infoInt rfl u8 k _ (.int .i64 _) rfl rfl rfl OW.out hsz (by omega) (by omega) ?_; intro v1 w1 hown1 hbel1))
      go_roundg (n - (k + 1))
      case measure => omega
      case rel =>
        refine ⟨k + 1, by omega, by omega, by go_num, ?_, ?_⟩
        · show Below _ _ _; exact BW.out.trans hbel1
        · show Own _ _ _ _ _ _ _ _; rw [HP.out, ← HE.out, ints_append]; exact hown1
    · have hkk : k = n := by omega
      subst hkk
      go_wp2_with fail
      go_ret2
      have HK := nmap_len F k
      refine ⟨_, rfl, ?_, BW.out⟩
      show OI _ _ _ _ _
      unfold OI OwnI
      rw [HK]
      exact OW.out
set_option maxRecDepth 100000 in
set_option maxHeartbeats 2000000 in
theorem s_NK1 (w : World) (n : Nat) (h2 : 2 ≤ n) (hn : n ≤ 16) (F : Nat → Int) (hF : Hid (∀ k : Nat, k < n → (n : Nat) - 1 - (k : Nat) = F k))
    (c0 : TrueAt w 79 #[.int .i64 (n : Nat)] true) (c1 : TrueAt w 59 #[.int .i64 1, .int .i64 0, .int .i64 5] true) (c2 : TrueAt w 59 #[.int .i64 0, .int .i64 0, .int .i64 ((n : Nat) - 1)] true) :
    Calls Try.prog 40 #[.int .i64 1, .int .i64 (n : Nat), .int .i64 0] w (RetIB w ((List.range n).map F, true)) := by
  have hne : (((n : Nat) : Int) == 0) = false := by simp; omega
  go_enter Try.func40, Try.ntmps40
  go_wp2_with fail
  refine c0.mono ?_
  rintro e w1 ⟨rfl, rfl⟩
  go_wp2_with fail
  refine c1.mono ?_
  rintro e w1 ⟨rfl, rfl⟩
  go_wp2_with fail
  refine c2.mono ?_
  rintro e w1 ⟨rfl, rfl⟩
  go_wp2_with fail
  go_loopg [8, 9] n (fun gg v s wr => ∃ k : Nat, k ≤ n ∧ n - k ≤ gg ∧ s = .int .i64 k ∧ Aside (Below w.heap.size w wr) ∧
    Aside (Own wr w.heap.size wr.heap.size 2 1 v k (ints ((List.range k).map F))))
  case atStart =>
    refine ⟨0, by omega, by omega, rfl, ?_, ?_⟩
    · show Below _ _ _; exact ballocw _ _
    · have := Own.of (World.ownsRow_lit (base := w.heap.size) (e := 2) (size := 1) w #[] 0 (Nat.le_refl _) (by simp [maxLen]) rfl)
      simpa [Aside, ints] using this
  case round =>
    obtain ⟨k, hk, hg, rfl, BW, OW⟩ := hrel
    by_cases hlt : k < n
    · have hsz := BW.out.size
      have HP := hid (nmap_snoc F k)
      have HE := hid (hF.out k hlt)
      go_wp2_with (first | (at_builtin; refine wp_append1 w.heap.size rfl _ _ 27 2 (.int .i64 0) 8 rfl Try.underlying27 infoInt rfl u8 k _ (.int .i64 _) rfl rfl rfl OW.out hsz (by omega) (by omega) ?_; intro v1 w1 hown1 hbel1))
      go_roundg (n - (k + 1))
      case measure => omega
      case rel =>
        refine ⟨k + 1, by omega, by omega, by go_num, ?_, ?_⟩
        · show Below _ _ _; exact BW.out.trans hbel1
        · show Own _ _ _ _ _ _ _ _; rw [HP.out, ← HE.out, ints_append]; exact hown1
    · have hkk : k = n := by omega
      subst hkk
      go_wp2_with fail
      go_ret2
      have HK := nmap_len F k
      refine ⟨_, rfl, ?_, BW.out⟩
      show OI _ _ _ _ _
      unfold OI OwnI
      rw [HK]
      exact OW.out
set_option maxRecDepth 100000 in
set_option maxHeartbeats 2000000 in
theorem s_NK2 (w : World) (n : Nat) (h2 : 2 ≤ n) (hn : n ≤ 16) (F : Nat → Int) (hF : Hid (∀ k : Nat, k < n → bits .xor .i64 (k : Nat) 0 = F k))
    (c0 : TrueAt w 79 #[.int .i64 (n : Nat)] true) (c1 : TrueAt w 59 #[.int .i64 2, .int .i64 0, .int .i64 5] true) (c2 : TrueAt w 59 #[.int .i64 0, .int .i64 0, .int .i64 ((n : Nat) - 1)] true) :
    Calls Try.prog 40 #[.int .i64 2, .int .i64 (n : Nat), .int .i64 0] w (RetIB w ((List.range n).map F, true)) := by
  have hne : (((n : Nat) : Int) == 0) = false := by simp; omega
  go_enter Try.func40, Try.ntmps40
  go_wp2_with fail
  refine c0.mono ?_
  rintro e w1 ⟨rfl, rfl⟩
  go_wp2_with fail
  refine c1.mono ?_
  rintro e w1 ⟨rfl, rfl⟩
  go_wp2_with fail
  refine c2.mono ?_
  rintro e w1 ⟨rfl, rfl⟩
  go_wp2_with fail
  go_loopg [8, 9] n (fun gg v s wr => ∃ k : Nat, k ≤ n ∧ n - k ≤ gg ∧ s = .int .i64 k ∧ Aside (Below w.heap.size w wr) ∧
    Aside (Own wr w.heap.size wr.heap.size 2 1 v k (ints ((List.range k).map F))))
  case atStart =>
    refine ⟨0, by omega, by omega, rfl, ?_, ?_⟩
    · show Below _ _ _; exact ballocw _ _
    · have := Own.of (World.ownsRow_lit (base := w.heap.size) (e := 2) (size := 1) w #[] 0 (Nat.le_refl _) (by simp [maxLen]) rfl)
      simpa [Aside, ints] using this
  case round =>
    obtain ⟨k, hk, hg, rfl, BW, OW⟩ := hrel
    by_cases hlt : k < n
    · have hsz := BW.out.size
      have HP := hid (nmap_snoc F k)
      have HE := hid (hF.out k hlt)
      go_wp2_with (first | (at_builtin; refine wp_append1 w.heap.size rfl _ _ 27 2 (.int .i64 0) 8 rfl Try.underlying27 infoInt rfl u8 k _ (.int .i64 _) rfl rfl rfl OW.out hsz (by omega) (by omega) ?_; intro v1 w1 hown1 hbel1))
      go_roundg (n - (k + 1))
      case measure => omega
      case rel =>
        refine ⟨k + 1, by omega, by omega, by go_num, ?_, ?_⟩
        · show Below _ _ _; exact BW.out.trans hbel1
        · show Own _ _ _ _ _ _ _ _; rw [HP.out, ← HE.out, ints_append]; exact hown1
    · have hkk : k = n := by omega
      subst hkk
      go_wp2_with fail
      go_ret2
      have HK := nmap_len F k
      refine ⟨_, rfl, ?_, BW.out⟩
      show OI _ _ _ _ _
      unfold OI OwnI
      rw [HK]
      exact OW.out
set_option maxRecDepth 100000 in
set_option maxHeartbeats 2000000 in
theorem s_NK2p (w : World) (n : Nat) (h2 : 2 ≤ n) (hn : n ≤ 16) (by_ : Int) (hp : 0 < by_) (hp2 : by_ < 16) (F : Nat → Int) (hF : Hid (∀ k : Nat, k < n → bits .xor .i64 (k : Nat) by_ = F k))
    (c0 : TrueAt w 79 #[.int .i64 (n : Nat)] true) (c1 : TrueAt w 59 #[.int .i64 2, .int .i64 0, .int .i64 5] true) (c2 : TrueAt w 59 #[.int .i64 by_, .int .i64 0, .int .i64 ((n : Nat) - 1)] true) :
    Calls Try.prog 40 #[.int .i64 2, .int .i64 (n : Nat), .int .i64 by_] w (RetIB w ((List.range n).map F, true)) := by
  have hne : (((n : Nat) : Int) == 0) = false := by simp; omega
  go_enter Try.func40, Try.ntmps40
  go_wp2_with fail
  refine c0.mono ?_
  rintro e w1 ⟨rfl, rfl⟩
  go_wp2_with fail
  refine c1.mono ?_
  rintro e w1 ⟨rfl, rfl⟩
  go_wp2_with fail
  refine c2.mono ?_
  rintro e w1 ⟨rfl, rfl⟩
  go_wp2_with fail
  go_loopg [8, 9] n (fun gg v s wr => ∃ k : Nat, k ≤ n ∧ n - k ≤ gg ∧ s = .int .i64 k ∧ Aside (Below w.heap.size w wr) ∧
    Aside (Own wr w.heap.size wr.heap.size 2 1 v k (ints ((List.range k).map F))))
  case atStart =>
    refine ⟨0, by omega, by omega, rfl, ?_, ?_⟩
    · show Below _ _ _; exact ballocw _ _
    · have := Own.of (World.ownsRow_lit (base := w.heap.size) (e := 2) (size := 1) w #[] 0 (Nat.le_refl _) (by simp [maxLen]) rfl)
      simpa [Aside, ints] using this
  case round =>
    obtain ⟨k, hk, hg, rfl, BW, OW⟩ := hrel
    by_cases hlt : k < n
    · have hsz := BW.out.size
      have HP := hid (nmap_snoc F k)
      have HE := hid (hF.out k hlt)
      go_wp2_with (first | (at_builtin; refine wp_append1 w.heap.size rfl _ _ 27 2 (.int .i64 0) 8 rfl Try.underlying27 infoInt rfl u8 k _ (.int .i64 _) rfl rfl rfl OW.out hsz (by omega) (by omega) ?_; intro v1 w1 hown1 hbel1))
      go_roundg (n - (k + 1))
      case measure => omega
      case rel =>
        refine ⟨k + 1, by omega, by omega, by go_num, ?_, ?_⟩
        · show Below _ _ _; exact BW.out.trans hbel1
        · show Own _ _ _ _ _ _ _ _; rw [HP.out, ← HE.out, ints_append]; exact hown1
    · have hkk : k = n := by omega
      subst hkk
      go_wp2_with fail
      go_ret2
      have HK := nmap_len F k
      refine ⟨_, rfl, ?_, BW.out⟩
      show OI _ _ _ _ _
      unfold OI OwnI
      rw [HK]
      exact OW.out
set_option maxRecDepth 100000 in
set_option maxHeartbeats 2000000 in
theorem s_NK3 (w : World) (n : Nat) (h2 : 2 ≤ n) (hn : n ≤ 16) (F : Nat → Int) (hF : Hid (∀ k : Nat, k < n → wrap64 (((k : Nat) : Int) / 2 + wrap64 (((k : Nat) : Int) % 2 * (((n : Nat) : Int) / 2))) = F k))
    (c0 : TrueAt w 79 #[.int .i64 (n : Nat)] true) (c1 : TrueAt w 59 #[.int .i64 3, .int .i64 0, .int .i64 5] true) (c2 : TrueAt w 59 #[.int .i64 0, .int .i64 0, .int .i64 ((n : Nat) - 1)] true) :
    Calls Try.prog 40 #[.int .i64 3, .int .i64 (n : Nat), .int .i64 0] w (RetIB w ((List.range n).map F, true)) := by
  have hne : (((n : Nat) : Int) == 0) = false := by simp; omega
  go_enter Try.func40, Try.ntmps40
  go_wp2_with fail
  refine c0.mono ?_
  rintro e w1 ⟨rfl, rfl⟩
  go_wp2_with fail
  refine c1.mono ?_
  rintro e w1 ⟨rfl, rfl⟩
  go_wp2_with fail
  refine c2.mono ?_
  rintro e w1 ⟨rfl, rfl⟩
  go_wp2_with fail
  go_loopg [8, 9] n (fun gg v s wr => ∃ k : Nat, k ≤ n ∧ n - k ≤ gg ∧ s = .int .i64 k ∧ Aside (Below w.heap.size w wr) ∧
    Aside (Own wr w.heap.size wr.heap.size 2 1 v k (ints ((List.range k).map F))))
  case atStart =>
    refine ⟨0, by omega, by omega, rfl, ?_, ?_⟩
    · show Below _ _ _; exact ballocw _ _
    · have := Own.of (World.ownsRow_lit (base := w.heap.size) (e := 2) (size := 1) w #[] 0 (Nat.le_refl _) (by simp [maxLen]) rfl)
      simpa [Aside, ints] using this
  case round =>
    obtain ⟨k, hk, hg, rfl, BW, OW⟩ := hrel
    by_cases hlt : k < n
    · have hsz := BW.out.size
      have HP := hid (nmap_snoc F k)
      have HE := hid (hF.out k hlt)
      go_wp2_with (first | (at_builtin; refine wp_append1 w.heap.size rfl _ _ 27 2 (.int .i64 0) 8 rfl Try.underlying27 infoInt rfl u8 k _ (.int .i64 _) rfl rfl rfl OW.out hsz (by omega) (by omega) ?_; intro v1 w1 hown1 hbel1))
      go_roundg (n - (k + 1))
      case measure => omega
      case rel =>
        refine ⟨k + 1, by omega, by omega, by go_num, ?_, ?_⟩
        · show Below _ _ _; exact BW.out.trans hbel1
        · show Own _ _ _ _ _ _ _ _; rw [HP.out, ← HE.out, ints_append]; exact hown1
    · have hkk : k = n := by omega
      subst hkk
      go_wp2_with fail
      go_ret2
      have HK := nmap_len F k
      refine ⟨_, rfl, ?_, BW.out⟩
      show OI _ _ _ _ _
      unfold OI OwnI
      rw [HK]
      exact OW.out
set_option maxRecDepth 100000 in
set_option maxHeartbeats 2000000 in
theorem s_NK4 (w : World) (n : Nat) (h2 : 2 ≤ n) (hn : n ≤ 16) (F : Nat → Int) (hF : Hid (∀ k : Nat, k < n → wrap64 (((k : Nat) : Int) / 2 + wrap64 (((k : Nat) : Int) % 2 * (((n : Nat) : Int) / 2))) = F k))
    (c0 : TrueAt w 79 #[.int .i64 (n : Nat)] true) (c1 : TrueAt w 59 #[.int .i64 4, .int .i64 0, .int .i64 5] true) (c2 : TrueAt w 59 #[.int .i64 0, .int .i64 0, .int .i64 ((n : Nat) - 1)] true)
    (Q : Value → World → Prop) (ci : ∀ W v, OI W w.heap.size W.heap.size v ((List.range n).map F) → Below w.heap.size w W → Calls Try.prog 80 #[v] W fun e w' => ∃ v', e = .returned v' ∧ Q v' w') :
    Calls Try.prog 40 #[.int .i64 4, .int .i64 (n : Nat), .int .i64 0] w (fun e w' => ∃ v, e = .returned (.tuple #[v, .bool true]) ∧ Q v w') := by
  have hne : (((n : Nat) : Int) == 0) = false := by simp; omega
  go_enter Try.func40, Try.ntmps40
  go_wp2_with fail
  refine c0.mono ?_
  rintro e w1 ⟨rfl, rfl⟩
  go_wp2_with fail
  refine c1.mono ?_
  rintro e w1 ⟨rfl, rfl⟩
  go_wp2_with fail
  refine c2.mono ?_
  rintro e w1 ⟨rfl, rfl⟩
  go_wp2_with fail
  go_loopg [8, 9] n (fun gg v s wr => ∃ k : Nat, k ≤ n ∧ n - k ≤ gg ∧ s = .int .i64 k ∧ Aside (Below w.heap.size w wr) ∧
    Aside (Own wr w.heap.size wr.heap.size 2 1 v k (ints ((List.range k).map F))))
  case atStart =>
    refine ⟨0, by omega, by omega, rfl, ?_, ?_⟩
    · show Below _ _ _; exact ballocw _ _
    · have := Own.of (World.ownsRow_lit (base := w.heap.size) (e := 2) (size := 1) w #[] 0 (Nat.le_refl _) (by simp [maxLen]) rfl)
      simpa [Aside, ints] using this
  case round =>
    obtain ⟨k, hk, hg, rfl, BW, OW⟩ := hrel
    by_cases hlt : k < n
    · have hsz := BW.out.size
      have HP := hid (nmap_snoc F k)
      have HE := hid (hF.out k hlt)
      go_wp2_with (first | (at_builtin; refine wp_append1 w.heap.size rfl _ _ 27 2 (.int .i64 0) 8 rfl Try.underlying27 infoInt rfl u8 k _ (.int .i64 _) rfl rfl rfl OW.out hsz (by omega) (by omega) ?_; intro v1 w1 hown1 hbel1))
      go_roundg (n - (k + 1))
      case measure => omega
      case rel =>
        refine ⟨k + 1, by omega, by omega, by go_num, ?_, ?_⟩
        · show Below _ _ _; exact BW.out.trans hbel1
        · show Own _ _ _ _ _ _ _ _; rw [HP.out, ← HE.out, ints_append]; exact hown1
    · have hkk : k = n := by omega
      subst hkk
      have ho : OI wr w.heap.size wr.heap.size u8 ((List.range k).map F) := by unfold OI OwnI; rw [nmap_len F k]; exact OW.out
      go_wp2_with fail
      refine (ci _ _ ho BW.out).mono ?_
      rintro e w2 ⟨v2, rfl, hq⟩
      go_wp2_with fail
      go_ret2
      exact ⟨_, rfl, hq⟩
set_option maxRecDepth 100000 in
set_option maxHeartbeats 2000000 in
theorem s_NK5 (w : World) (n : Nat) (h2 : 2 ≤ n) (hn : n ≤ 16) (F : Nat → Int) (hF : Hid (∀ k : Nat, k < n → 0 = F k))
    (c0 : TrueAt w 79 #[.int .i64 (n : Nat)] true) (c1 : TrueAt w 59 #[.int .i64 5, .int .i64 0, .int .i64 5] true) (c2 : TrueAt w 59 #[.int .i64 0, .int .i64 0, .int .i64 ((n : Nat) - 1)] true) :
    Calls Try.prog 40 #[.int .i64 5, .int .i64 (n : Nat), .int .i64 0] w (RetIB w ((List.range n).map F, true)) := by
  have hne : (((n : Nat) : Int) == 0) = false := by simp; omega
  go_enter Try.func40, Try.ntmps40
  go_wp2_with fail
  refine c0.mono ?_
  rintro e w1 ⟨rfl, rfl⟩
  go_wp2_with fail
  refine c1.mono ?_
  rintro e w1 ⟨rfl, rfl⟩
  go_wp2_with fail
  refine c2.mono ?_
  rintro e w1 ⟨rfl, rfl⟩
  go_wp2_with fail
  go_loopg [8, 9] n (fun gg v s wr => ∃ k : Nat, k ≤ n ∧ n - k ≤ gg ∧ s = .int .i64 k ∧ Aside (Below w.heap.size w wr) ∧
    Aside (Own wr w.heap.size wr.heap.size 2 1 v k (ints ((List.range k).map F))))
  case atStart =>
    refine ⟨0, by omega, by omega, rfl, ?_, ?_⟩
    · show Below _ _ _; exact ballocw _ _
    · have := Own.of (World.ownsRow_lit (base := w.heap.size) (e := 2) (size := 1) w #[] 0 (Nat.le_refl _) (by simp [maxLen]) rfl)
      simpa [Aside, ints] using this
  case round =>
    obtain ⟨k, hk, hg, rfl, BW, OW⟩ := hrel
    by_cases hlt : k < n
    · have hsz := BW.out.size
      have HP := hid (nmap_snoc F k)
      have HE := hid (hF.out k hlt)
      go_wp2_with (first | (at_builtin; refine wp_append1 w.heap.size rfl _ _ 27 2 (.int .i64 0) 8 rfl Try.underlying27 infoInt rfl u8 k _ (.int .i64 _) rfl rfl rfl OW.out hsz (by omega) (by omega) ?_; intro v1 w1 hown1 hbel1))
      go_roundg (n - (k + 1))
      case measure => omega
      case rel =>
        refine ⟨k + 1, by omega, by omega, by go_num, ?_, ?_⟩
        · show Below _ _ _; exact BW.out.trans hbel1
        · show Own _ _ _ _ _ _ _ _; rw [HP.out, ← HE.out, ints_append]; exact hown1
    · have hkk : k = n := by omega
      subst hkk
      go_wp2_with fail
      go_ret2
      have HK := nmap_len F k
      refine ⟨_, rfl, ?_, BW.out⟩
      show OI _ _ _ _ _
      unfold OI OwnI
      rw [HK]
      exact OW.out
set_option maxRecDepth 100000 in
set_option maxHeartbeats 2000000 in
theorem s_NK5p (w : World) (n : Nat) (h2 : 2 ≤ n) (hn : n ≤ 16) (by_ : Int) (hp : 0 < by_) (hp2 : by_ < 16) (F : Nat → Int) (hF : Hid (∀ k : Nat, k < n → by_ = F k))
    (c0 : TrueAt w 79 #[.int .i64 (n : Nat)] true) (c1 : TrueAt w 59 #[.int .i64 5, .int .i64 0, .int .i64 5] true) (c2 : TrueAt w 59 #[.int .i64 by_, .int .i64 0, .int .i64 ((n : Nat) - 1)] true) :
    Calls Try.prog 40 #[.int .i64 5, .int .i64 (n : Nat), .int .i64 by_] w (RetIB w ((List.range n).map F, true)) := by
  have hne : (((n : Nat) : Int) == 0) = false := by simp; omega
  go_enter Try.func40, Try.ntmps40
  go_wp2_with fail
  refine c0.mono ?_
  rintro e w1 ⟨rfl, rfl⟩
  go_wp2_with fail
  refine c1.mono ?_
  rintro e w1 ⟨rfl, rfl⟩
  go_wp2_with fail
  refine c2.mono ?_
  rintro e w1 ⟨rfl, rfl⟩
  go_wp2_with fail
  go_loopg [8, 9] n (fun gg v s wr => ∃ k : Nat, k ≤ n ∧ n - k ≤ gg ∧ s = .int .i64 k ∧ Aside (Below w.heap.size w wr) ∧
    Aside (Own wr w.heap.size wr.heap.size 2 1 v k (ints ((List.range k).map F))))
  case atStart =>
    refine ⟨0, by omega, by omega, rfl, ?_, ?_⟩
    · show Below _ _ _; exact ballocw _ _
    · have := Own.of (World.ownsRow_lit (base := w.heap.size) (e := 2) (size := 1) w #[] 0 (Nat.le_refl _) (by simp [maxLen]) rfl)
      simpa [Aside, ints] using this
  case round =>
    obtain ⟨k, hk, hg, rfl, BW, OW⟩ := hrel
    by_cases hlt : k < n
    · have hsz := BW.out.size
      have HP := hid (nmap_snoc F k)
      have HE := hid (hF.out k hlt)
      go_wp2_with (first | (at_builtin; refine wp_append1 w.heap.size rfl _ _ 27 2 (.int .i64 0) 8 rfl Try.underlying27 infoInt rfl u8 k _ (.int .i64 _) rfl rfl rfl OW.out hsz (by omega) (by omega) ?_; intro v1 w1 hown1 hbel1))
      go_roundg (n - (k + 1))
      case measure => omega
      case rel =>
        refine ⟨k + 1, by omega, by omega, by go_num, ?_, ?_⟩
        · show Below _ _ _; exact BW.out.trans hbel1
        · show Own _ _ _ _ _ _ _ _; rw [HP.out, ← HE.out, ints_append]; exact hown1
    · have hkk : k = n := by omega
      subst hkk
      go_wp2_with fail
      go_ret2
      have HK := nmap_len F k
      refine ⟨_, rfl, ?_, BW.out⟩
      show OI _ _ _ _ _
      unfold OI OwnI
      rw [HK]
      exact OW.out
end Go.Proofs.Ytmpdaafkphpnoaa
