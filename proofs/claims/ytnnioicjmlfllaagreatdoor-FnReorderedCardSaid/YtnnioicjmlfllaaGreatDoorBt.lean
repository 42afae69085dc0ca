import Derived.Test.YtnnioicjmlfllaaGreatDoorSrc3
set_option linter.unusedVariables false
set_option linter.unusedSimpArgs false
namespace Go.Proofs.YtnnioicjmlfllaaGreatDoor
open Go.RowKit

theorem s_B10Bits (w : World) (A : Option Addr) (c : Nat) (bs : List Int) (hl : bs.length ≤ 1048576) (hR : RdU w A bs) :
    Calls Tryz.prog 7 #[.slice A bs.length c] w fun e w' => ∃ b, e = .returned (.int .i64 b) ∧ bitsB b = true ∧ Below w.heap.size w w' := by
  have C1 := hid (s_l00From w A c bs)
  have C2 := hid (fun W B c2 hS hL => s_among w W B 0 A c bs (some ⟨W.heap.size - 1, 0, none⟩) c2 [8, 4, 16] (by simp) (by simp) hl (by omega) hR hS hL)
  clear hR
  go_enter Tryz.func7, Tryz.ntmps7
  go_wp2_with fail
  refine C1.out.mono ?_
  rintro e w1 ⟨rfl, hs1, hz⟩
  have hlt := hs1.lt
  have C3 := hid (C2.out (w1.alloc (.cells (ints [8, 4, 16]).toArray 2)) w.heap.size 3 (hs1.below (ballocw _ _)) (by
    rw [show (w1.alloc (.cells (ints [8, 4, 16]).toArray 2)).heap.size - 1 = w1.heap.size by simp]
    exact lit_rd w1 w.heap.size [8, 4, 16] hlt (by simp)))
  rw [show (w1.alloc (.cells (ints [8, 4, 16]).toArray 2)).heap.size - 1 = w1.heap.size by simp] at C3
  clear C1 C2 hs1 hz hlt
  go_wp2_with fail
  refine C3.out.mono ?_
  rintro e w2 ⟨j, rfl, hj, hs2, hc2⟩
  have HB : Hid (bitsB (el [8, 4, 16] j) = true) := hid (by
    rcases (show j = 0 ∨ j = 1 ∨ j = 2 by simp at hj; omega) with rfl | rfl | rfl <;> rfl)
  have HS := hid hs2.bel'
  clear hs2 hc2 C3
  go_wp2_with fail
  go_ret
  exact ⟨_, rfl, HB.out, HS.out⟩
set_option maxRecDepth 100000 in
theorem s_B10Cells4 (w : World) (A : Option Addr) (c : Nat) (bs : List Int) (hl : bs.length ≤ 1048576) (hR : RdU w A bs) :
    Calls Tryz.prog 9 #[.slice A bs.length c, .int .i64 4] w fun e w' => ∃ v xs, e = .returned v ∧ (xs.length = 32 ∧ xs.all (wordB 4) = true) ∧ OI w' w.heap.size w'.heap.size v xs ∧ Below w.heap.size w w' := by
  have C1 := hid (s_l00From w A c bs)
  have CP := hid (fun W M (hM : M ≤ 1000) hS => s_pick w W w.heap.size M A c bs 16 hl (by omega) (by omega) hR hS)
  clear hR
  go_enter Tryz.func9, Tryz.ntmps9
  go_wp2_with fail
  refine C1.out.mono ?_
  rintro e w1 ⟨rfl, hs1, hz⟩
  have hlt := hs1.lt
  have hown := Own.of (World.ownsRow_lit (base := w1.heap.size) (e := 2) (size := 1) w1 #[] 0 (Nat.le_refl _) (by simp [maxLen]) rfl)
  have HG : Hid (Grw w w1 (w1.alloc (.cells #[] 2)) w.heap.size 0 A c bs (.slice (some ⟨w1.heap.size, 0, none⟩) 0 0) []) := hid ⟨hs1.below (ballocw _ _), Chg.of (ballocw _ _) (Nat.le_refl _), by simpa [OwnI, ints] using hown⟩
  have HZ := hid hz
  clear hown hs1 hz C1
  go_wp2_with fail
  go_loopg [6, 7] 32 (fun gg v s wr => ∃ k : Nat, k ≤ 32 ∧ 32 - k ≤ gg ∧ s = .int .i64 k ∧ Aside (∃ xs M, (xs.length = k ∧ xs.all (wordB 4) = true) ∧ M ≤ 4 * k ∧ Grw w w1 wr w.heap.size M A c bs v xs))
  case atStart => exact ⟨0, Nat.zero_le _, by omega, rfl, ⟨[], 0, ⟨rfl, rfl⟩, by omega, HG.out⟩⟩
  case round =>
    obtain ⟨k, hk, hg, rfl, GG⟩ := hrel
    clear HG
    obtain ⟨xs, M, ⟨hx1, hx2⟩, hM, hG⟩ := GG.out
    clear GG
    by_cases hlk : k < 32
    · have hlk' : (k : Int) < 32 := by omega
      have hC := hid (CP.out wr M (by omega) hG.src)
      have HG := hid hG
      have HX := hid hx2
      have HL := hid hx1
      clear hG hx2 hx1 CP
      go_wp2_with fail
      refine hC.out.mono ?_
      rintro e w3 ⟨x, rfl, ⟨hx0, hx1, _⟩, hs2, hc2⟩
      have hxt := hx1 (by omega)
      have hg2 := HG.out.drew hlt hs2 hc2
      have HG2 := hid hg2
      have HW : Hid (wordB 4 x = true) := hid (by simp [wordB, bitsB, inB_iff, top]; omega)
      have hz : w1.heap.size ≤ w3.heap.size := hg2.chg.size
      have hxl : xs.length ≤ 1000 := by have := HL.out; omega
      clear hs2 hc2 hC HG hg2 hx0 hx1 hxt
      go_wp2_with (at_builtin; refine wp_append1 w1.heap.size rfl _ _ 27 2 (.int .i64 0) 8 rfl Tryz.underlying27 infoInt rfl u6 xs.length _ (.int .i64 x) rfl rfl rfl HG2.out.own hz (by omega) (by omega) ?_; intro v1 w4 hown1 hbel1)
      have hh : Aside (∃ ys M, (ys.length = k + 1 ∧ ys.all (wordB 4) = true) ∧ M ≤ 4 * (k + 1) ∧ Grw w w1 w4 w.heap.size M A c bs v1 ys) :=
        ⟨xs ++ [x], M + 2, ⟨by rw [List.length_append, List.length_singleton, HL.out], by rw [List.all_append, HX.out]; simp [HW.out]⟩, by omega, HG2.out.app hlt hbel1 hown1⟩
      clear HG2 HW HX HL hown1 hbel1 hM
      go_roundg (32 - (k + 1))
      case measure => omega
      case rel => exact ⟨k + 1, by omega, by omega, by go_num, hh⟩
    · have hlk' : ¬ (k : Int) < 32 := by omega
      obtain rfl : k = 32 := by omega
      obtain ⟨A1, c1, rfl, _, _, _⟩ := Own.int hG.own
      have HX := hid hx2
      have HL := hid hx1
      have HG := hid hG
      clear hx1 hx2 hG CP
      go_wp2_with fail
      go_ret
      exact ⟨_, rfl, xs, ⟨HL.out, List.all_eq_true.1 HX.out⟩, Own.wide HG.out.own (by have := HZ.out; omega) (Nat.le_refl _), HG.out.src.bel'⟩
set_option maxRecDepth 100000 in
theorem s_B10Memory4 (w : World) (A : Option Addr) (c : Nat) (bs : List Int) (hl : bs.length ≤ 1048576) (hR : RdU w A bs) :
    Calls Tryz.prog 52 #[.slice A bs.length c, .int .i64 4] w fun e w' => ∃ v xs, e = .returned v ∧ (xs.length = 64 ∧ xs.all (wordB 4) = true) ∧ OI w' w.heap.size w'.heap.size v xs ∧ Below w.heap.size w w' := by
  have C1 := hid (s_l00From w A c bs)
  have CP := hid (fun W M (hM : M ≤ 1000) hS => s_pick w W w.heap.size M A c bs 16 hl (by omega) (by omega) hR hS)
  clear hR
  go_enter Tryz.func52, Tryz.ntmps52
  go_wp2_with fail
  refine C1.out.mono ?_
  rintro e w1 ⟨rfl, hs1, hz⟩
  have hlt := hs1.lt
  have hown := Own.of (World.ownsRow_lit (base := w1.heap.size) (e := 2) (size := 1) w1 #[] 0 (Nat.le_refl _) (by simp [maxLen]) rfl)
  have HG : Hid (Grw w w1 (w1.alloc (.cells #[] 2)) w.heap.size 0 A c bs (.slice (some ⟨w1.heap.size, 0, none⟩) 0 0) []) := hid ⟨hs1.below (ballocw _ _), Chg.of (ballocw _ _) (Nat.le_refl _), by simpa [OwnI, ints] using hown⟩
  have HZ := hid hz
  clear hown hs1 hz C1
  go_wp2_with fail
  go_loopg [6, 7] 64 (fun gg v s wr => ∃ k : Nat, k ≤ 64 ∧ 64 - k ≤ gg ∧ s = .int .i64 k ∧ Aside (∃ xs M, (xs.length = k ∧ xs.all (wordB 4) = true) ∧ M ≤ 4 * k ∧ Grw w w1 wr w.heap.size M A c bs v xs))
  case atStart => exact ⟨0, Nat.zero_le _, by omega, rfl, ⟨[], 0, ⟨rfl, rfl⟩, by omega, HG.out⟩⟩
  case round =>
    obtain ⟨k, hk, hg, rfl, GG⟩ := hrel
    clear HG
    obtain ⟨xs, M, ⟨hx1, hx2⟩, hM, hG⟩ := GG.out
    clear GG
    by_cases hlk : k < 64
    · have hlk' : (k : Int) < 64 := by omega
      have hC := hid (CP.out wr M (by omega) hG.src)
      have HG := hid hG
      have HX := hid hx2
      have HL := hid hx1
      clear hG hx2 hx1 CP
      go_wp2_with fail
      refine hC.out.mono ?_
      rintro e w3 ⟨x, rfl, ⟨hx0, hx1, _⟩, hs2, hc2⟩
      have hxt := hx1 (by omega)
      have hg2 := HG.out.drew hlt hs2 hc2
      have HG2 := hid hg2
      have HW : Hid (wordB 4 x = true) := hid (by simp [wordB, bitsB, inB_iff, top]; omega)
      have hz : w1.heap.size ≤ w3.heap.size := hg2.chg.size
      have hxl : xs.length ≤ 1000 := by have := HL.out; omega
      clear hs2 hc2 hC HG hg2 hx0 hx1 hxt
      go_wp2_with (at_builtin; refine wp_append1 w1.heap.size rfl _ _ 27 2 (.int .i64 0) 8 rfl Tryz.underlying27 infoInt rfl u6 xs.length _ (.int .i64 x) rfl rfl rfl HG2.out.own hz (by omega) (by omega) ?_; intro v1 w4 hown1 hbel1)
      have hh : Aside (∃ ys M, (ys.length = k + 1 ∧ ys.all (wordB 4) = true) ∧ M ≤ 4 * (k + 1) ∧ Grw w w1 w4 w.heap.size M A c bs v1 ys) :=
        ⟨xs ++ [x], M + 2, ⟨by rw [List.length_append, List.length_singleton, HL.out], by rw [List.all_append, HX.out]; simp [HW.out]⟩, by omega, HG2.out.app hlt hbel1 hown1⟩
      clear HG2 HW HX HL hown1 hbel1 hM
      go_roundg (64 - (k + 1))
      case measure => omega
      case rel => exact ⟨k + 1, by omega, by omega, by go_num, hh⟩
    · have hlk' : ¬ (k : Int) < 64 := by omega
      obtain rfl : k = 64 := by omega
      obtain ⟨A1, c1, rfl, _, _, _⟩ := Own.int hG.own
      have HX := hid hx2
      have HL := hid hx1
      have HG := hid hG
      clear hx1 hx2 hG CP
      go_wp2_with fail
      go_ret
      exact ⟨_, rfl, xs, ⟨HL.out, List.all_eq_true.1 HX.out⟩, Own.wide HG.out.own (by have := HZ.out; omega) (Nat.le_refl _), HG.out.src.bel'⟩
set_option maxRecDepth 100000 in
theorem s_B10Cells8 (w : World) (A : Option Addr) (c : Nat) (bs : List Int) (hl : bs.length ≤ 1048576) (hR : RdU w A bs) :
    Calls Tryz.prog 9 #[.slice A bs.length c, .int .i64 8] w fun e w' => ∃ v xs, e = .returned v ∧ (xs.length = 32 ∧ xs.all (wordB 8) = true) ∧ OI w' w.heap.size w'.heap.size v xs ∧ Below w.heap.size w w' := by
  have C1 := hid (s_l00From w A c bs)
  have CP := hid (fun W M (hM : M ≤ 1000) hS => s_pick w W w.heap.size M A c bs 256 hl (by omega) (by omega) hR hS)
  clear hR
  go_enter Tryz.func9, Tryz.ntmps9
  go_wp2_with fail
  refine C1.out.mono ?_
  rintro e w1 ⟨rfl, hs1, hz⟩
  have hlt := hs1.lt
  have hown := Own.of (World.ownsRow_lit (base := w1.heap.size) (e := 2) (size := 1) w1 #[] 0 (Nat.le_refl _) (by simp [maxLen]) rfl)
  have HG : Hid (Grw w w1 (w1.alloc (.cells #[] 2)) w.heap.size 0 A c bs (.slice (some ⟨w1.heap.size, 0, none⟩) 0 0) []) := hid ⟨hs1.below (ballocw _ _), Chg.of (ballocw _ _) (Nat.le_refl _), by simpa [OwnI, ints] using hown⟩
  have HZ := hid hz
  clear hown hs1 hz C1
  go_wp2_with fail
  go_loopg [6, 7] 32 (fun gg v s wr => ∃ k : Nat, k ≤ 32 ∧ 32 - k ≤ gg ∧ s = .int .i64 k ∧ Aside (∃ xs M, (xs.length = k ∧ xs.all (wordB 8) = true) ∧ M ≤ 4 * k ∧ Grw w w1 wr w.heap.size M A c bs v xs))
  case atStart => exact ⟨0, Nat.zero_le _, by omega, rfl, ⟨[], 0, ⟨rfl, rfl⟩, by omega, HG.out⟩⟩
  case round =>
    obtain ⟨k, hk, hg, rfl, GG⟩ := hrel
    clear HG
    obtain ⟨xs, M, ⟨hx1, hx2⟩, hM, hG⟩ := GG.out
    clear GG
    by_cases hlk : k < 32
    · have hlk' : (k : Int) < 32 := by omega
      have hC := hid (CP.out wr M (by omega) hG.src)
      have HG := hid hG
      have HX := hid hx2
      have HL := hid hx1
      clear hG hx2 hx1 CP
      go_wp2_with fail
      refine hC.out.mono ?_
      rintro e w3 ⟨x, rfl, ⟨hx0, hx1, _⟩, hs2, hc2⟩
      have hxt := hx1 (by omega)
      have hg2 := HG.out.drew hlt hs2 hc2
      have HG2 := hid hg2
      have HW : Hid (wordB 8 x = true) := hid (by simp [wordB, bitsB, inB_iff, top]; omega)
      have hz : w1.heap.size ≤ w3.heap.size := hg2.chg.size
      have hxl : xs.length ≤ 1000 := by have := HL.out; omega
      clear hs2 hc2 hC HG hg2 hx0 hx1 hxt
      go_wp2_with (at_builtin; refine wp_append1 w1.heap.size rfl _ _ 27 2 (.int .i64 0) 8 rfl Tryz.underlying27 infoInt rfl u6 xs.length _ (.int .i64 x) rfl rfl rfl HG2.out.own hz (by omega) (by omega) ?_; intro v1 w4 hown1 hbel1)
      have hh : Aside (∃ ys M, (ys.length = k + 1 ∧ ys.all (wordB 8) = true) ∧ M ≤ 4 * (k + 1) ∧ Grw w w1 w4 w.heap.size M A c bs v1 ys) :=
        ⟨xs ++ [x], M + 2, ⟨by rw [List.length_append, List.length_singleton, HL.out], by rw [List.all_append, HX.out]; simp [HW.out]⟩, by omega, HG2.out.app hlt hbel1 hown1⟩
      clear HG2 HW HX HL hown1 hbel1 hM
      go_roundg (32 - (k + 1))
      case measure => omega
      case rel => exact ⟨k + 1, by omega, by omega, by go_num, hh⟩
    · have hlk' : ¬ (k : Int) < 32 := by omega
      obtain rfl : k = 32 := by omega
      obtain ⟨A1, c1, rfl, _, _, _⟩ := Own.int hG.own
      have HX := hid hx2
      have HL := hid hx1
      have HG := hid hG
      clear hx1 hx2 hG CP
      go_wp2_with fail
      go_ret
      exact ⟨_, rfl, xs, ⟨HL.out, List.all_eq_true.1 HX.out⟩, Own.wide HG.out.own (by have := HZ.out; omega) (Nat.le_refl _), HG.out.src.bel'⟩
set_option maxRecDepth 100000 in
theorem s_B10Memory8 (w : World) (A : Option Addr) (c : Nat) (bs : List Int) (hl : bs.length ≤ 1048576) (hR : RdU w A bs) :
    Calls Tryz.prog 52 #[.slice A bs.length c, .int .i64 8] w fun e w' => ∃ v xs, e = .returned v ∧ (xs.length = 64 ∧ xs.all (wordB 8) = true) ∧ OI w' w.heap.size w'.heap.size v xs ∧ Below w.heap.size w w' := by
  have C1 := hid (s_l00From w A c bs)
  have CP := hid (fun W M (hM : M ≤ 1000) hS => s_pick w W w.heap.size M A c bs 256 hl (by omega) (by omega) hR hS)
  clear hR
  go_enter Tryz.func52, Tryz.ntmps52
  go_wp2_with fail
  refine C1.out.mono ?_
  rintro e w1 ⟨rfl, hs1, hz⟩
  have hlt := hs1.lt
  have hown := Own.of (World.ownsRow_lit (base := w1.heap.size) (e := 2) (size := 1) w1 #[] 0 (Nat.le_refl _) (by simp [maxLen]) rfl)
  have HG : Hid (Grw w w1 (w1.alloc (.cells #[] 2)) w.heap.size 0 A c bs (.slice (some ⟨w1.heap.size, 0, none⟩) 0 0) []) := hid ⟨hs1.below (ballocw _ _), Chg.of (ballocw _ _) (Nat.le_refl _), by simpa [OwnI, ints] using hown⟩
  have HZ := hid hz
  clear hown hs1 hz C1
  go_wp2_with fail
  go_loopg [6, 7] 64 (fun gg v s wr => ∃ k : Nat, k ≤ 64 ∧ 64 - k ≤ gg ∧ s = .int .i64 k ∧ Aside (∃ xs M, (xs.length = k ∧ xs.all (wordB 8) = true) ∧ M ≤ 4 * k ∧ Grw w w1 wr w.heap.size M A c bs v xs))
  case atStart => exact ⟨0, Nat.zero_le _, by omega, rfl, ⟨[], 0, ⟨rfl, rfl⟩, by omega, HG.out⟩⟩
  case round =>
    obtain ⟨k, hk, hg, rfl, GG⟩ := hrel
    clear HG
    obtain ⟨xs, M, ⟨hx1, hx2⟩, hM, hG⟩ := GG.out
    clear GG
    by_cases hlk : k < 64
    · have hlk' : (k : Int) < 64 := by omega
      have hC := hid (CP.out wr M (by omega) hG.src)
      have HG := hid hG
      have HX := hid hx2
      have HL := hid hx1
      clear hG hx2 hx1 CP
      go_wp2_with fail
      refine hC.out.mono ?_
      rintro e w3 ⟨x, rfl, ⟨hx0, hx1, _⟩, hs2, hc2⟩
      have hxt := hx1 (by omega)
      have hg2 := HG.out.drew hlt hs2 hc2
      have HG2 := hid hg2
      have HW : Hid (wordB 8 x = true) := hid (by simp [wordB, bitsB, inB_iff, top]; omega)
      have hz : w1.heap.size ≤ w3.heap.size := hg2.chg.size
      have hxl : xs.length ≤ 1000 := by have := HL.out; omega
      clear hs2 hc2 hC HG hg2 hx0 hx1 hxt
      go_wp2_with (at_builtin; refine wp_append1 w1.heap.size rfl _ _ 27 2 (.int .i64 0) 8 rfl Tryz.underlying27 infoInt rfl u6 xs.length _ (.int .i64 x) rfl rfl rfl HG2.out.own hz (by omega) (by omega) ?_; intro v1 w4 hown1 hbel1)
      have hh : Aside (∃ ys M, (ys.length = k + 1 ∧ ys.all (wordB 8) = true) ∧ M ≤ 4 * (k + 1) ∧ Grw w w1 w4 w.heap.size M A c bs v1 ys) :=
        ⟨xs ++ [x], M + 2, ⟨by rw [List.length_append, List.length_singleton, HL.out], by rw [List.all_append, HX.out]; simp [HW.out]⟩, by omega, HG2.out.app hlt hbel1 hown1⟩
      clear HG2 HW HX HL hown1 hbel1 hM
      go_roundg (64 - (k + 1))
      case measure => omega
      case rel => exact ⟨k + 1, by omega, by omega, by go_num, hh⟩
    · have hlk' : ¬ (k : Int) < 64 := by omega
      obtain rfl : k = 64 := by omega
      obtain ⟨A1, c1, rfl, _, _, _⟩ := Own.int hG.own
      have HX := hid hx2
      have HL := hid hx1
      have HG := hid hG
      clear hx1 hx2 hG CP
      go_wp2_with fail
      go_ret
      exact ⟨_, rfl, xs, ⟨HL.out, List.all_eq_true.1 HX.out⟩, Own.wide HG.out.own (by have := HZ.out; omega) (Nat.le_refl _), HG.out.src.bel'⟩
set_option maxRecDepth 100000 in
theorem s_B10Cells16 (w : World) (A : Option Addr) (c : Nat) (bs : List Int) (hl : bs.length ≤ 1048576) (hR : RdU w A bs) :
    Calls Tryz.prog 9 #[.slice A bs.length c, .int .i64 16] w fun e w' => ∃ v xs, e = .returned v ∧ (xs.length = 32 ∧ xs.all (wordB 16) = true) ∧ OI w' w.heap.size w'.heap.size v xs ∧ Below w.heap.size w w' := by
  have C1 := hid (s_l00From w A c bs)
  have CP := hid (fun W M (hM : M ≤ 1000) hS => s_pick w W w.heap.size M A c bs 65536 hl (by omega) (by omega) hR hS)
  clear hR
  go_enter Tryz.func9, Tryz.ntmps9
  go_wp2_with fail
  refine C1.out.mono ?_
  rintro e w1 ⟨rfl, hs1, hz⟩
  have hlt := hs1.lt
  have hown := Own.of (World.ownsRow_lit (base := w1.heap.size) (e := 2) (size := 1) w1 #[] 0 (Nat.le_refl _) (by simp [maxLen]) rfl)
  have HG : Hid (Grw w w1 (w1.alloc (.cells #[] 2)) w.heap.size 0 A c bs (.slice (some ⟨w1.heap.size, 0, none⟩) 0 0) []) := hid ⟨hs1.below (ballocw _ _), Chg.of (ballocw _ _) (Nat.le_refl _), by simpa [OwnI, ints] using hown⟩
  have HZ := hid hz
  clear hown hs1 hz C1
  go_wp2_with fail
  go_loopg [6, 7] 32 (fun gg v s wr => ∃ k : Nat, k ≤ 32 ∧ 32 - k ≤ gg ∧ s = .int .i64 k ∧ Aside (∃ xs M, (xs.length = k ∧ xs.all (wordB 16) = true) ∧ M ≤ 4 * k ∧ Grw w w1 wr w.heap.size M A c bs v xs))
  case atStart => exact ⟨0, Nat.zero_le _, by omega, rfl, ⟨[], 0, ⟨rfl, rfl⟩, by omega, HG.out⟩⟩
  case round =>
    obtain ⟨k, hk, hg, rfl, GG⟩ := hrel
    clear HG
    obtain ⟨xs, M, ⟨hx1, hx2⟩, hM, hG⟩ := GG.out
    clear GG
    by_cases hlk : k < 32
    · have hlk' : (k : Int) < 32 := by omega
      have hC := hid (CP.out wr M (by omega) hG.src)
      have HG := hid hG
      have HX := hid hx2
      have HL := hid hx1
      clear hG hx2 hx1 CP
      go_wp2_with fail
      refine hC.out.mono ?_
      rintro e w3 ⟨x, rfl, ⟨hx0, hx1, _⟩, hs2, hc2⟩
      have hxt := hx1 (by omega)
      have hg2 := HG.out.drew hlt hs2 hc2
      have HG2 := hid hg2
      have HW : Hid (wordB 16 x = true) := hid (by simp [wordB, bitsB, inB_iff, top]; omega)
      have hz : w1.heap.size ≤ w3.heap.size := hg2.chg.size
      have hxl : xs.length ≤ 1000 := by have := HL.out; omega
      clear hs2 hc2 hC HG hg2 hx0 hx1 hxt
      go_wp2_with (at_builtin; refine wp_append1 w1.heap.size rfl _ _ 27 2 (.int .i64 0) 8 rfl Tryz.underlying27 infoInt rfl u6 xs.length _ (.int .i64 x) rfl rfl rfl HG2.out.own hz (by omega) (by omega) ?_; intro v1 w4 hown1 hbel1)
      have hh : Aside (∃ ys M, (ys.length = k + 1 ∧ ys.all (wordB 16) = true) ∧ M ≤ 4 * (k + 1) ∧ Grw w w1 w4 w.heap.size M A c bs v1 ys) :=
        ⟨xs ++ [x], M + 2, ⟨by rw [List.length_append, List.length_singleton, HL.out], by rw [List.all_append, HX.out]; simp [HW.out]⟩, by omega, HG2.out.app hlt hbel1 hown1⟩
      clear HG2 HW HX HL hown1 hbel1 hM
      go_roundg (32 - (k + 1))
      case measure => omega
      case rel => exact ⟨k + 1, by omega, by omega, by go_num, hh⟩
    · have hlk' : ¬ (k : Int) < 32 := by omega
      obtain rfl : k = 32 := by omega
      obtain ⟨A1, c1, rfl, _, _, _⟩ := Own.int hG.own
      have HX := hid hx2
      have HL := hid hx1
      have HG := hid hG
      clear hx1 hx2 hG CP
      go_wp2_with fail
      go_ret
      exact ⟨_, rfl, xs, ⟨HL.out, List.all_eq_true.1 HX.out⟩, Own.wide HG.out.own (by have := HZ.out; omega) (Nat.le_refl _), HG.out.src.bel'⟩
set_option maxRecDepth 100000 in
theorem s_B10Memory16 (w : World) (A : Option Addr) (c : Nat) (bs : List Int) (hl : bs.length ≤ 1048576) (hR : RdU w A bs) :
    Calls Tryz.prog 52 #[.slice A bs.length c, .int .i64 16] w fun e w' => ∃ v xs, e = .returned v ∧ (xs.length = 64 ∧ xs.all (wordB 16) = true) ∧ OI w' w.heap.size w'.heap.size v xs ∧ Below w.heap.size w w' := by
  have C1 := hid (s_l00From w A c bs)
  have CP := hid (fun W M (hM : M ≤ 1000) hS => s_pick w W w.heap.size M A c bs 65536 hl (by omega) (by omega) hR hS)
  clear hR
  go_enter Tryz.func52, Tryz.ntmps52
  go_wp2_with fail
  refine C1.out.mono ?_
  rintro e w1 ⟨rfl, hs1, hz⟩
  have hlt := hs1.lt
  have hown := Own.of (World.ownsRow_lit (base := w1.heap.size) (e := 2) (size := 1) w1 #[] 0 (Nat.le_refl _) (by simp [maxLen]) rfl)
  have HG : Hid (Grw w w1 (w1.alloc (.cells #[] 2)) w.heap.size 0 A c bs (.slice (some ⟨w1.heap.size, 0, none⟩) 0 0) []) := hid ⟨hs1.below (ballocw _ _), Chg.of (ballocw _ _) (Nat.le_refl _), by simpa [OwnI, ints] using hown⟩
  have HZ := hid hz
  clear hown hs1 hz C1
  go_wp2_with fail
  go_loopg [6, 7] 64 (fun gg v s wr => ∃ k : Nat, k ≤ 64 ∧ 64 - k ≤ gg ∧ s = .int .i64 k ∧ Aside (∃ xs M, (xs.length = k ∧ xs.all (wordB 16) = true) ∧ M ≤ 4 * k ∧ Grw w w1 wr w.heap.size M A c bs v xs))
  case atStart => exact ⟨0, Nat.zero_le _, by omega, rfl, ⟨[], 0, ⟨rfl, rfl⟩, by omega, HG.out⟩⟩
  case round =>
    obtain ⟨k, hk, hg, rfl, GG⟩ := hrel
    clear HG
    obtain ⟨xs, M, ⟨hx1, hx2⟩, hM, hG⟩ := GG.out
    clear GG
    by_cases hlk : k < 64
    · have hlk' : (k : Int) < 64 := by omega
      have hC := hid (CP.out wr M (by omega) hG.src)
      have HG := hid hG
      have HX := hid hx2
      have HL := hid hx1
      clear hG hx2 hx1 CP
      go_wp2_with fail
      refine hC.out.mono ?_
      rintro e w3 ⟨x, rfl, ⟨hx0, hx1, _⟩, hs2, hc2⟩
      have hxt := hx1 (by omega)
      have hg2 := HG.out.drew hlt hs2 hc2
      have HG2 := hid hg2
      have HW : Hid (wordB 16 x = true) := hid (by simp [wordB, bitsB, inB_iff, top]; omega)
      have hz : w1.heap.size ≤ w3.heap.size := hg2.chg.size
      have hxl : xs.length ≤ 1000 := by have := HL.out; omega
      clear hs2 hc2 hC HG hg2 hx0 hx1 hxt
      go_wp2_with (at_builtin; refine wp_append1 w1.heap.size rfl _ _ 27 2 (.int .i64 0) 8 rfl Tryz.underlying27 infoInt rfl u6 xs.length _ (.int .i64 x) rfl rfl rfl HG2.out.own hz (by omega) (by omega) ?_; intro v1 w4 hown1 hbel1)
      have hh : Aside (∃ ys M, (ys.length = k + 1 ∧ ys.all (wordB 16) = true) ∧ M ≤ 4 * (k + 1) ∧ Grw w w1 w4 w.heap.size M A c bs v1 ys) :=
        ⟨xs ++ [x], M + 2, ⟨by rw [List.length_append, List.length_singleton, HL.out], by rw [List.all_append, HX.out]; simp [HW.out]⟩, by omega, HG2.out.app hlt hbel1 hown1⟩
      clear HG2 HW HX HL hown1 hbel1 hM
      go_roundg (64 - (k + 1))
      case measure => omega
      case rel => exact ⟨k + 1, by omega, by omega, by go_num, hh⟩
    · have hlk' : ¬ (k : Int) < 64 := by omega
      obtain rfl : k = 64 := by omega
      obtain ⟨A1, c1, rfl, _, _, _⟩ := Own.int hG.own
      have HX := hid hx2
      have HL := hid hx1
      have HG := hid hG
      clear hx1 hx2 hG CP
      go_wp2_with fail
      go_ret
      exact ⟨_, rfl, xs, ⟨HL.out, List.all_eq_true.1 HX.out⟩, Own.wide HG.out.own (by have := HZ.out; omega) (Nat.le_refl _), HG.out.src.bel'⟩
theorem s_B10Cells (w : World) (A : Option Addr) (c : Nat) (bs : List Int) (b : Int) (hb : bitsB b = true) (hl : bs.length ≤ 1048576) (hR : RdU w A bs) :
    Calls Tryz.prog 9 #[.slice A bs.length c, .int .i64 b] w fun e w' => ∃ v xs, e = .returned v ∧ (xs.length = 32 ∧ xs.all (wordB b) = true) ∧ OI w' w.heap.size w'.heap.size v xs ∧ Below w.heap.size w w' := by
  rcases bitsB_or hb with rfl | rfl | rfl
  · exact s_B10Cells4 w A c bs hl hR
  · exact s_B10Cells8 w A c bs hl hR
  · exact s_B10Cells16 w A c bs hl hR
theorem s_B10Memory (w : World) (A : Option Addr) (c : Nat) (bs : List Int) (b : Int) (hb : bitsB b = true) (hl : bs.length ≤ 1048576) (hR : RdU w A bs) :
    Calls Tryz.prog 52 #[.slice A bs.length c, .int .i64 b] w fun e w' => ∃ v xs, e = .returned v ∧ (xs.length = 64 ∧ xs.all (wordB b) = true) ∧ OI w' w.heap.size w'.heap.size v xs ∧ Below w.heap.size w w' := by
  rcases bitsB_or hb with rfl | rfl | rfl
  · exact s_B10Memory4 w A c bs hl hR
  · exact s_B10Memory8 w A c bs hl hR
  · exact s_B10Memory16 w A c bs hl hR
theorem l_b10Long (w : World) (A A' : Option Addr) (n c n' c' : Nat) (hn : n ≤ 9223372036854775807) (hn' : n' ≤ 9223372036854775807) :
    Calls Tryz.prog 5 #[.slice A n c, .slice A' n' c'] w fun e w' => e = .returned (.bool (decide (1048576 < n) || decide (1048576 < n'))) ∧ w = w' := by
  by_cases h1 : (1048576 : Int) < n
  · go_enter Tryz.func5, Tryz.ntmps5
    go_wp2
    go_ret
    exact ⟨ret_b (by simp; omega), rfl⟩
  · by_cases h2 : (1048576 : Int) < n'
    all_goals
      go_enter Tryz.func5, Tryz.ntmps5
      go_wp2
      go_ret
      exact ⟨ret_b (by rw [Bool.eq_iff_iff]; simp; omega), rfl⟩
end Go.Proofs.YtnnioicjmlfllaaGreatDoor
