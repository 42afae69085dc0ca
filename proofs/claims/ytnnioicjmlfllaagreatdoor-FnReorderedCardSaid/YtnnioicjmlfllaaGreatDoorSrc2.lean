import Derived.Test.YtnnioicjmlfllaaGreatDoorSrc
import Derived.Test.YtnnioicjmlfllaaGreatDoorWord
set_option linter.unusedVariables false
set_option linter.unusedSimpArgs false
namespace Go.Proofs.YtnnioicjmlfllaaGreatDoor
open Go.RowKit

theorem SrcE.mono {w0 w : World} {B N M c : Nat} {A : Option Addr} {bs : List Int} (h : SrcE w0 w B N A c bs) (hN : N ≤ M) : SrcE w0 w B M A c bs := by
  obtain ⟨k, sd, h⟩ := h
  exact ⟨k, sd, h.ge, h.bel, h.hp, Nat.le_trans h.at_le hN, h.sd0, h.sd1⟩
theorem SrcE.lt {w0 w : World} {B N c : Nat} {A : Option Addr} {bs : List Int} (h : SrcE w0 w B N A c bs) : B < w.heap.size := by
  obtain ⟨k, sd, h⟩ := h
  by_cases e : B < w.heap.size
  · exact e
  · have := h.hp; rw [Array.getElem?_eq_none (by omega)] at this; cases this
theorem SrcE.below {w0 w w' : World} {B N c : Nat} {A : Option Addr} {bs : List Int} (h : SrcE w0 w B N A c bs) (hb : Below w.heap.size w w') : SrcE w0 w' B N A c bs := by
  have hl := h.lt
  obtain ⟨k, sd, h⟩ := h
  exact ⟨k, sd, h.ge, bthen h.bel hb, (hb.block B hl).trans h.hp, h.at_le, h.sd0, h.sd1⟩
theorem SrcE.bel' {w0 w : World} {B N c : Nat} {A : Option Addr} {bs : List Int} (h : SrcE w0 w B N A c bs) : Below w0.heap.size w0 w := by obtain ⟨k, sd, h⟩ := h; exact h.bel
theorem SrcE.ge' {w0 w : World} {B N c : Nat} {A : Option Addr} {bs : List Int} (h : SrcE w0 w B N A c bs) : w0.heap.size ≤ B := by obtain ⟨k, sd, h⟩ := h; exact h.ge
theorem s_l00From (w : World) (A : Option Addr) (c : Nat) (bs : List Int) : Calls Tryz.prog 31 #[.slice A bs.length c] w fun e w' => e = .returned (.pointer (some ⟨w.heap.size, 0, none⟩)) ∧ SrcE w w' w.heap.size 0 A c bs ∧ w'.heap.size = w.heap.size + 1 := by
  go_enter Tryz.func31, Tryz.ntmps31
  go_wp2
  go_ret
  refine ⟨rfl, ⟨0, 0, Nat.le_refl _, ballocw _ _, ?_, Nat.le_refl _, by omega, by omega⟩, by simp⟩
  exact heap_alloc_new _ _
theorem tmod_range {x n : Int} (h0 : 0 ≤ x) (h1 : 0 < n) : 0 ≤ x.tmod n ∧ x.tmod n < n := by
  rw [Int.tmod_eq_emod_of_nonneg h0]; exact ⟨Int.emod_nonneg _ (by omega), Int.emod_lt_of_pos _ h1⟩
set_option maxRecDepth 100000 in
theorem s_pick (w0 w : World) (B N : Nat) (A : Option Addr) (c : Nat) (bs : List Int) (n : Int) (hl : bs.length ≤ 1048576) (hN : N ≤ 1073741824) (hn : n ≤ 65536) (hR : RdU w0 A bs) (hS : SrcE w0 w B N A c bs) :
    Calls Tryz.prog 36 #[.pointer (some ⟨B, 0, none⟩), .int .i64 n] w fun e w' => ∃ r, e = .returned (.int .i64 r) ∧ (0 ≤ r ∧ (1 < n → r < n) ∧ (n ≤ 1 → r = 0)) ∧ SrcE w0 w' B (N + 2) A c bs ∧ Chg B (B + 1) w w' := by
  by_cases h1 : n ≤ 1
  · have HS := hid (hS.mono (M := N + 2) (by omega))
    clear hR hS
    go_enter Tryz.func36, Tryz.ntmps36
    go_wp2
    go_ret
    exact ⟨0, rfl, by omega, HS.out, Chg.refl _ _ _⟩
  · have C1 := hid (s_next w0 w B N A c bs hl (by omega) hR hS)
    have hn0 : n ≠ 0 := by omega
    by_cases h2 : 200 < n
    · have C2 := hid (fun W (h : SrcE w0 W B (N + 1) A c bs) => s_next w0 W B (N + 1) A c bs hl (by omega) hR h)
      clear hR hS
      go_enter Tryz.func36, Tryz.ntmps36
      go_wp2_with fail
      refine C1.out.mono ?_
      rintro e w1 ⟨x, rfl, ⟨hx0, hx1⟩, hs1, hc1⟩
      have C3 := hid (C2.out w1 hs1)
      have HC := hid hc1
      clear hs1 hc1 C1 C2
      go_wp2_with fail
      refine C3.out.mono ?_
      rintro e w2 ⟨y, rfl, ⟨hy0, hy1⟩, hs2, hc2⟩
      have HS := hid hs2
      have HC2 := hid (HC.out.trans hc2)
      clear hs2 hc2 C3 HC
      go_wp2_with fail
      go_ret
      exact ⟨_, rfl, ⟨Int.emod_nonneg _ hn0, fun _ => Int.emod_lt_of_pos _ (by omega), fun h => by omega⟩, HS.out, HC2.out⟩
    · clear hS
      go_enter Tryz.func36, Tryz.ntmps36
      go_wp2_with fail
      refine C1.out.mono ?_
      rintro e w1 ⟨x, rfl, ⟨hx0, hx1⟩, hs1, hc1⟩
      have HS := hid (hs1.mono (M := N + 2) (by omega))
      have HC := hid hc1
      clear hs1 hc1 C1
      go_wp2_with fail
      go_ret
      exact ⟨_, rfl, ⟨Int.emod_nonneg _ hn0, fun _ => Int.emod_lt_of_pos _ (by omega), fun h => by omega⟩, HS.out, HC.out⟩
theorem s_one (w0 w : World) (B N : Nat) (A : Option Addr) (c : Nat) (bs : List Int) (n : Int) (hl : bs.length ≤ 1048576) (hN : N ≤ 1073741824) (hn : n ≤ 65536) (hR : RdU w0 A bs) (hS : SrcE w0 w B N A c bs) :
    Calls Tryz.prog 79 #[.pointer (some ⟨B, 0, none⟩), .int .i64 n] w fun e w' => ∃ b, e = .returned (.bool b) ∧ SrcE w0 w' B (N + 2) A c bs ∧ Chg B (B + 1) w w' := by
  have C1 := hid (s_pick w0 w B N A c bs n hl hN hn hR hS)
  clear hR hS
  go_enter Tryz.func79, Tryz.ntmps79
  go_wp2_with fail
  refine C1.out.mono ?_
  rintro e w1 ⟨x, rfl, _, hs1, hc1⟩
  have HS := hid hs1
  have HC := hid hc1
  clear hs1 hc1 C1
  go_wp2_with fail
  go_ret
  exact ⟨_, rfl, HS.out, HC.out⟩
theorem s_among (w0 w : World) (B N : Nat) (A : Option Addr) (c : Nat) (bs : List Int) (A2 : Option Addr) (c2 : Nat) (xs : List Int) (hx : 1 ≤ xs.length) (hx2 : xs.length ≤ 65536) (hl : bs.length ≤ 1048576) (hN : N ≤ 1073741824) (hR : RdU w0 A bs) (hS : SrcE w0 w B N A c bs)
    (hL : ∀ W, Chg B (B + 1) w W → RdI W A2 xs) :
    Calls Tryz.prog 33 #[.pointer (some ⟨B, 0, none⟩), .slice A2 xs.length c2] w fun e w' => ∃ j, e = .returned (.int .i64 (el xs j)) ∧ j < xs.length ∧ SrcE w0 w' B (N + 2) A c bs ∧ Chg B (B + 1) w w' := by
  have C1 := hid (s_pick w0 w B N A c bs (xs.length : Nat) hl hN (by omega) hR hS)
  have HL := hid hL
  clear hR hS hL
  go_enter Tryz.func33, Tryz.ntmps33
  go_wp2_with fail
  refine C1.out.mono ?_
  rintro e w1 ⟨x, rfl, ⟨hx0, hx1, hx2⟩, hs1, hc1⟩
  obtain ⟨j, hj⟩ : ∃ j : Nat, x = j := ⟨x.toNat, by omega⟩
  subst hj
  have hjl : j < xs.length := by omega
  obtain ⟨b, off, rfl, hc⟩ := (HL.out w1 hc1).get hjl
  have hjl' : (j : Int) < (xs.length : Int) := by omega
  have HS := hid hs1
  have HC := hid hc1
  clear hs1 hc1 C1 HL hx1 hx2
  go_wp2_with fail
  go_ret
  exact ⟨j, rfl, hjl, HS.out, HC.out⟩
/-- A list that was just built, apart from the source's block. -/
theorem lit_rd (w : World) (B : Nat) (xs : List Int) (hB : B < w.heap.size) (hl : xs.length ≤ 1048576) :
    ∀ W, Chg B (B + 1) (w.alloc (.cells (ints xs).toArray 2)) W → RdI W (some ⟨w.heap.size, 0, none⟩) xs := fun W hc k hk => by
  refine ⟨w.heap.size, 0, rfl, ?_⟩
  have h := (hc.block w.heap.size (by simp) (by omega)).trans (heap_alloc_new w _)
  rw [cell_of_row _ _ _ _ _ _ h, Nat.zero_add, List.getElem?_toArray, ints_get hk]

end Go.Proofs.YtnnioicjmlfllaaGreatDoor
