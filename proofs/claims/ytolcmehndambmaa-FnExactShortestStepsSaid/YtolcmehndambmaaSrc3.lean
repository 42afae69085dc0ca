import Derived.Test.YtolcmehndambmaaSrc2
import Derived.Test.YtolcmehndambmaaLawO
set_option linter.unusedVariables false
set_option linter.unusedSimpArgs false
namespace Go.Proofs.Ytolcmehndambmaa
open Go.RowKit

theorem chg_alloc {w W : World} (B : Nat) (h : Chg B (B + 1) w W) (o : Obj) : Chg B (B + 1) w (W.alloc o) := h.trans (Chg.of (ballocw W o) (Nat.le_refl _))
theorem s_DrawGood4 (w0 w : World) (B N : Nat) (A : Option Addr) (c : Nat) (bs : List Int) (hl : bs.length ≤ 1048576) (hN : N ≤ 1000000000) (hR : RdU w0 A bs) (hS : SrcE w0 w B N A c bs) :
    Calls Try.prog 132 #[.pointer (some ⟨B, 0, none⟩), .int .i64 4] w fun e w' => ∃ x, e = .returned (.int .i64 x) ∧ (0 ≤ x ∧ x < 16) ∧ SrcE w0 w' B (N + 4) A c bs ∧ Chg B (B + 1) w w' := by
  have C1 := hid (s_one w0 w B N A c bs 4 hl (by omega) (by omega) hR hS)
  have C2 := hid (fun W hS2 => s_pick w0 W B (N + 2) A c bs 16 hl (by omega) (by omega) hR hS2)
  have C3 := hid (fun W c2 hS2 hL => s_among w0 W B (N + 2) A c bs (some ⟨W.heap.size - 1, 0, none⟩) c2 [0,15,8,7,1] (by simp) (by simp) hl (by omega) hR hS2 hL)
  clear hR hS
  go_enter Try.func132, Try.ntmps132
  go_wp2_with fail
  refine C1.out.mono ?_
  rintro e w1 ⟨b, rfl, hs1, hc1⟩
  have hlt := hs1.lt
  have hc2 := chg_alloc B hc1 (.cells (ints [0,15,8,7,1]).toArray 2)
  cases b with
  | true =>
    have C4 := hid (C3.out (w1.alloc (.cells (ints [0,15,8,7,1]).toArray 2)) 5 (hs1.below (ballocw _ _)) (by
      rw [show (w1.alloc (.cells (ints [0,15,8,7,1]).toArray 2)).heap.size - 1 = w1.heap.size by simp]
      exact lit_rd w1 B [0,15,8,7,1] hlt (by simp)))
    rw [show (w1.alloc (.cells (ints [0,15,8,7,1]).toArray 2)).heap.size - 1 = w1.heap.size by simp] at C4
    have HC := hid hc2
    clear C1 C2 C3 hs1 hlt hc1 hc2
    go_wp2_with fail
    refine C4.out.mono ?_
    rintro e w2 ⟨j, rfl, hj, hs2, hc3⟩
    have HB : Hid (0 ≤ el [0,15,8,7,1] j ∧ el [0,15,8,7,1] j < 16) := hid (by
      rcases (show j = 0 ∨ j = 1 ∨ j = 2 ∨ j = 3 ∨ j = 4 by simp at hj; omega) with rfl | rfl | rfl | rfl | rfl <;> decide)
    have HS := hid hs2
    have HC2 := hid (HC.out.trans hc3)
    clear hs2 hc3 C4 HC
    go_wp2_with fail
    go_ret
    exact ⟨_, rfl, HB.out, HS.out, HC2.out⟩
  | false =>
    have C4 := hid (C2.out w1 hs1)
    have HC := hid hc1
    clear C1 C2 C3 hs1 hlt hc1 hc2
    go_wp2_with fail
    refine C4.out.mono ?_
    rintro e w2 ⟨x, rfl, ⟨hx0, hx1, _⟩, hs2, hc3⟩
    have HB : Hid (0 ≤ x ∧ x < 16) := hid ⟨hx0, hx1 (by omega)⟩
    have HS := hid hs2
    have HC2 := hid (HC.out.trans hc3)
    clear hs2 hc3 C4 HC hx0 hx1
    go_wp2_with fail
    go_ret
    exact ⟨_, rfl, HB.out, HS.out, HC2.out⟩
theorem s_DrawGood8 (w0 w : World) (B N : Nat) (A : Option Addr) (c : Nat) (bs : List Int) (hl : bs.length ≤ 1048576) (hN : N ≤ 1000000000) (hR : RdU w0 A bs) (hS : SrcE w0 w B N A c bs) :
    Calls Try.prog 132 #[.pointer (some ⟨B, 0, none⟩), .int .i64 8] w fun e w' => ∃ x, e = .returned (.int .i64 x) ∧ (0 ≤ x ∧ x < 256) ∧ SrcE w0 w' B (N + 4) A c bs ∧ Chg B (B + 1) w w' := by
  have C1 := hid (s_one w0 w B N A c bs 4 hl (by omega) (by omega) hR hS)
  have C2 := hid (fun W hS2 => s_pick w0 W B (N + 2) A c bs 256 hl (by omega) (by omega) hR hS2)
  have C3 := hid (fun W c2 hS2 hL => s_among w0 W B (N + 2) A c bs (some ⟨W.heap.size - 1, 0, none⟩) c2 [0,255,128,127,1] (by simp) (by simp) hl (by omega) hR hS2 hL)
  clear hR hS
  go_enter Try.func132, Try.ntmps132
  go_wp2_with fail
  refine C1.out.mono ?_
  rintro e w1 ⟨b, rfl, hs1, hc1⟩
  have hlt := hs1.lt
  have hc2 := chg_alloc B hc1 (.cells (ints [0,255,128,127,1]).toArray 2)
  cases b with
  | true =>
    have C4 := hid (C3.out (w1.alloc (.cells (ints [0,255,128,127,1]).toArray 2)) 5 (hs1.below (ballocw _ _)) (by
      rw [show (w1.alloc (.cells (ints [0,255,128,127,1]).toArray 2)).heap.size - 1 = w1.heap.size by simp]
      exact lit_rd w1 B [0,255,128,127,1] hlt (by simp)))
    rw [show (w1.alloc (.cells (ints [0,255,128,127,1]).toArray 2)).heap.size - 1 = w1.heap.size by simp] at C4
    have HC := hid hc2
    clear C1 C2 C3 hs1 hlt hc1 hc2
    go_wp2_with fail
    refine C4.out.mono ?_
    rintro e w2 ⟨j, rfl, hj, hs2, hc3⟩
    have HB : Hid (0 ≤ el [0,255,128,127,1] j ∧ el [0,255,128,127,1] j < 256) := hid (by
      rcases (show j = 0 ∨ j = 1 ∨ j = 2 ∨ j = 3 ∨ j = 4 by simp at hj; omega) with rfl | rfl | rfl | rfl | rfl <;> decide)
    have HS := hid hs2
    have HC2 := hid (HC.out.trans hc3)
    clear hs2 hc3 C4 HC
    go_wp2_with fail
    go_ret
    exact ⟨_, rfl, HB.out, HS.out, HC2.out⟩
  | false =>
    have C4 := hid (C2.out w1 hs1)
    have HC := hid hc1
    clear C1 C2 C3 hs1 hlt hc1 hc2
    go_wp2_with fail
    refine C4.out.mono ?_
    rintro e w2 ⟨x, rfl, ⟨hx0, hx1, _⟩, hs2, hc3⟩
    have HB : Hid (0 ≤ x ∧ x < 256) := hid ⟨hx0, hx1 (by omega)⟩
    have HS := hid hs2
    have HC2 := hid (HC.out.trans hc3)
    clear hs2 hc3 C4 HC hx0 hx1
    go_wp2_with fail
    go_ret
    exact ⟨_, rfl, HB.out, HS.out, HC2.out⟩
theorem s_DrawGood16 (w0 w : World) (B N : Nat) (A : Option Addr) (c : Nat) (bs : List Int) (hl : bs.length ≤ 1048576) (hN : N ≤ 1000000000) (hR : RdU w0 A bs) (hS : SrcE w0 w B N A c bs) :
    Calls Try.prog 132 #[.pointer (some ⟨B, 0, none⟩), .int .i64 16] w fun e w' => ∃ x, e = .returned (.int .i64 x) ∧ (0 ≤ x ∧ x < 65536) ∧ SrcE w0 w' B (N + 4) A c bs ∧ Chg B (B + 1) w w' := by
  have C1 := hid (s_one w0 w B N A c bs 4 hl (by omega) (by omega) hR hS)
  have C2 := hid (fun W hS2 => s_pick w0 W B (N + 2) A c bs 65536 hl (by omega) (by omega) hR hS2)
  have C3 := hid (fun W c2 hS2 hL => s_among w0 W B (N + 2) A c bs (some ⟨W.heap.size - 1, 0, none⟩) c2 [0,65535,32768,32767,1] (by simp) (by simp) hl (by omega) hR hS2 hL)
  clear hR hS
  go_enter Try.func132, Try.ntmps132
  go_wp2_with fail
  refine C1.out.mono ?_
  rintro e w1 ⟨b, rfl, hs1, hc1⟩
  have hlt := hs1.lt
  have hc2 := chg_alloc B hc1 (.cells (ints [0,65535,32768,32767,1]).toArray 2)
  cases b with
  | true =>
    have C4 := hid (C3.out (w1.alloc (.cells (ints [0,65535,32768,32767,1]).toArray 2)) 5 (hs1.below (ballocw _ _)) (by
      rw [show (w1.alloc (.cells (ints [0,65535,32768,32767,1]).toArray 2)).heap.size - 1 = w1.heap.size by simp]
      exact lit_rd w1 B [0,65535,32768,32767,1] hlt (by simp)))
    rw [show (w1.alloc (.cells (ints [0,65535,32768,32767,1]).toArray 2)).heap.size - 1 = w1.heap.size by simp] at C4
    have HC := hid hc2
    clear C1 C2 C3 hs1 hlt hc1 hc2
    go_wp2_with fail
    refine C4.out.mono ?_
    rintro e w2 ⟨j, rfl, hj, hs2, hc3⟩
    have HB : Hid (0 ≤ el [0,65535,32768,32767,1] j ∧ el [0,65535,32768,32767,1] j < 65536) := hid (by
      rcases (show j = 0 ∨ j = 1 ∨ j = 2 ∨ j = 3 ∨ j = 4 by simp at hj; omega) with rfl | rfl | rfl | rfl | rfl <;> decide)
    have HS := hid hs2
    have HC2 := hid (HC.out.trans hc3)
    clear hs2 hc3 C4 HC
    go_wp2_with fail
    go_ret
    exact ⟨_, rfl, HB.out, HS.out, HC2.out⟩
  | false =>
    have C4 := hid (C2.out w1 hs1)
    have HC := hid hc1
    clear C1 C2 C3 hs1 hlt hc1 hc2
    go_wp2_with fail
    refine C4.out.mono ?_
    rintro e w2 ⟨x, rfl, ⟨hx0, hx1, _⟩, hs2, hc3⟩
    have HB : Hid (0 ≤ x ∧ x < 65536) := hid ⟨hx0, hx1 (by omega)⟩
    have HS := hid hs2
    have HC2 := hid (HC.out.trans hc3)
    clear hs2 hc3 C4 HC hx0 hx1
    go_wp2_with fail
    go_ret
    exact ⟨_, rfl, HB.out, HS.out, HC2.out⟩
theorem s_DrawGood (w0 w : World) (B N : Nat) (A : Option Addr) (c : Nat) (bs : List Int) (b : Int) (hb : bitsB b = true) (hl : bs.length ≤ 1048576) (hN : N ≤ 1000000000) (hR : RdU w0 A bs) (hS : SrcE w0 w B N A c bs) :
    Calls Try.prog 132 #[.pointer (some ⟨B, 0, none⟩), .int .i64 b] w fun e w' => ∃ x, e = .returned (.int .i64 x) ∧ wordB b x = true ∧ SrcE w0 w' B (N + 4) A c bs ∧ Chg B (B + 1) w w' := by
  rcases bitsB_or hb with rfl | rfl | rfl
  · exact (s_DrawGood4 w0 w B N A c bs hl hN hR hS).mono fun e w' ⟨x, h1, h2, h3, h4⟩ => ⟨x, h1, by simp [wordB, bitsB, inB_iff, top]; omega, h3, h4⟩
  · exact (s_DrawGood8 w0 w B N A c bs hl hN hR hS).mono fun e w' ⟨x, h1, h2, h3, h4⟩ => ⟨x, h1, by simp [wordB, bitsB, inB_iff, top]; omega, h3, h4⟩
  · exact (s_DrawGood16 w0 w B N A c bs hl hN hR hS).mono fun e w' ⟨x, h1, h2, h3, h4⟩ => ⟨x, h1, by simp [wordB, bitsB, inB_iff, top]; omega, h3, h4⟩
/-- A row of the call's own that grows while a source in block B is drawn from. -/
structure Grw (w0 w wr : World) (B N : Nat) (A : Option Addr) (c : Nat) (bs : List Int) (v : Value) (xs : List Int) : Prop where
  src : SrcE w0 wr B N A c bs
  chg : Chg B (B + 1) w wr
  own : OwnI wr w.heap.size wr.heap.size 2 v xs
theorem Grw.drew {w0 w wr w1 : World} {B N M c : Nat} {A : Option Addr} {bs : List Int} {v : Value} {xs : List Int} (h : Grw w0 w wr B N A c bs v xs) (hB : B < w.heap.size) (hs : SrcE w0 w1 B M A c bs) (hc : Chg B (B + 1) wr w1) :
    Grw w0 w w1 B M A c bs v xs := ⟨hs, h.chg.trans hc, Own.wide (Own.eqv h.own (hc.eqv (by omega) (Nat.le_refl _))) (Nat.le_refl _) hc.size⟩
theorem Grw.app {w0 w wr w1 : World} {B N c : Nat} {A : Option Addr} {bs : List Int} {v v1 : Value} {xs : List Int} {x : Int} (h : Grw w0 w wr B N A c bs v xs) (hB : B < w.heap.size) (hb : Below w.heap.size wr w1) (ho : Own w1 w.heap.size w1.heap.size 2 1 v1 (xs.length + 1) (ints xs ++ [.int .i64 x])) :
    Grw w0 w w1 B N A c bs v1 (xs ++ [x]) := by
  have hz := h.chg.size
  refine ⟨?_, ⟨hb.os.trans h.chg.os, hb.tape.trans h.chg.tape, hb.output.trans h.chg.output, Nat.le_trans h.chg.size hb.size, fun j hj hn => (hb.block j hj).trans (h.chg.block j hj hn)⟩, ?_⟩
  · obtain ⟨k, sd, s⟩ := h.src
    have hw0 : w0.heap.size ≤ w.heap.size := Nat.le_trans s.ge (Nat.le_of_lt hB)
    exact ⟨k, sd, s.ge, s.bel.trans (hb.mono hw0), (hb.block B hB).trans s.hp, s.at_le, s.sd0, s.sd1⟩
  · unfold OwnI; rw [ints_append, List.length_append]; exact ho
set_option maxRecDepth 100000 in
theorem s_DrawWords (w0 w : World) (B N : Nat) (A : Option Addr) (c : Nat) (bs : List Int) (b : Int) (n : Nat) (hb : bitsB b = true) (hn : n ≤ 1000) (hl : bs.length ≤ 1048576) (hN : N ≤ 1000000) (hR : RdU w0 A bs) (hS : SrcE w0 w B N A c bs) :
    Calls Try.prog 71 #[.pointer (some ⟨B, 0, none⟩), .int .i64 b, .int .i64 (n : Nat)] w fun e w' => ∃ v xs M, e = .returned v ∧ (xs.length = n ∧ xs.all (wordB b) = true) ∧ M ≤ N + 4 * n ∧ Grw w0 w w' B M A c bs v xs := by
  have CG := hid (fun W M (hM : M ≤ N + 4 * n) hS => s_DrawGood w0 W B M A c bs b hb hl (by omega) hR hS)
  have hlt := hS.lt
  have hown := Own.of (World.ownsRow_lit (base := w.heap.size) (e := 2) (size := 1) w #[] 0 (Nat.le_refl _) (by simp [maxLen]) rfl)
  have HG : Hid (Grw w0 w (w.alloc (.cells #[] 2)) B N A c bs (.slice (some ⟨w.heap.size, 0, none⟩) 0 0) []) := hid ⟨hS.below (ballocw _ _), Chg.of (ballocw _ _) (Nat.le_refl _), by simpa [OwnI, ints] using hown⟩
  clear hown hR hS
  go_enter Try.func71, Try.ntmps71
  go_wp2
  go_loopg [2, 7] n (fun gg s v wr => ∃ k : Nat, k ≤ n ∧ k ≤ gg ∧ s = .int .i64 k ∧ Aside (∃ xs M, (xs.length = n - k ∧ xs.all (wordB b) = true) ∧ M ≤ N + 4 * (n - k) ∧ Grw w0 w wr B M A c bs v xs))
  case atStart => exact ⟨n, Nat.le_refl _, Nat.le_refl _, rfl, ⟨[], N, ⟨by simp, rfl⟩, by omega, HG.out⟩⟩
  case round =>
    obtain ⟨k, hk, hg, rfl, GG⟩ := hrel
    clear HG
    obtain ⟨xs, M, ⟨hx1, hx2⟩, hM, hG⟩ := GG.out
    clear GG
    cases k with
    | zero =>
      have HX := hid (And.intro hx1 hx2)
      have HG := hid hG
      have HM := hid hM
      clear hx1 hx2 hG hM CG
      go_wp2_with fail
      go_ret
      exact ⟨_, xs, M, rfl, HX.out, HM.out, HG.out⟩
    | succ j =>
      have hC := hid (CG.out wr M (by omega) hG.src)
      have HG := hid hG
      have HX := hid hx2
      have hj0 : (0 : Int) < ((j + 1 : Nat) : Int) := by omega
      clear hG hx2 CG
      go_wp2_with fail
      refine hC.out.mono ?_
      rintro e w1 ⟨x, rfl, hw, hs1, hc1⟩
      have hg2 := HG.out.drew hlt hs1 hc1
      have HG2 := hid hg2
      have HW := hid hw
      have hz : w.heap.size ≤ w1.heap.size := hg2.chg.size
      clear hw hs1 hc1 hC HG hg2
      go_wp2_with (at_builtin; refine wp_append1 w.heap.size rfl _ _ 29 2 (.int .i64 0) 8 rfl Try.underlying29 infoInt rfl u7 xs.length _ (.int .i64 x) rfl rfl rfl HG2.out.own hz (by omega) (by omega) ?_; intro v1 w3 hown1 hbel1)
      go_roundg j
      case measure => omega
      case rel =>
        refine ⟨j, by omega, by omega, (by congr 1), (show Aside _ from ⟨xs ++ [x], M + 4, ⟨by rw [List.length_append, List.length_singleton]; omega, by rw [List.all_append, HX.out]; simp [HW.out]⟩, by omega, HG2.out.app hlt hbel1 hown1⟩)⟩
theorem s_R8Vector (w : World) (A : Option Addr) (c : Nat) (bs : List Int) (b : Int) (n : Nat) (hb : bitsB b = true) (hn : n ≤ 1000) (hl : bs.length ≤ 1048576) (hR : RdU w A bs) :
    Calls Try.prog 27 #[.slice A bs.length c, .int .i64 b, .int .i64 (n : Nat)] w fun e w' => ∃ v xs, e = .returned v ∧ (xs.length = n ∧ xs.all (wordB b) = true) ∧ OI w' w.heap.size w'.heap.size v xs ∧ Below w.heap.size w w' := by
  have C1 := hid (s_l00From w A c bs)
  have C2 := hid (fun W B hS => s_DrawWords w W B 0 A c bs b n hb hn hl (by omega) hR hS)
  clear hR
  go_enter Try.func27, Try.ntmps27
  go_wp2_with fail
  refine C1.out.mono ?_
  rintro e w1 ⟨rfl, hs1, hz⟩
  have C3 := hid (C2.out w1 _ hs1)
  clear C1 C2 hs1
  go_wp2_with fail
  refine C3.out.mono ?_
  rintro e w2 ⟨v, xs, M, rfl, hx, _, hg⟩
  obtain ⟨A1, c1, rfl, _, _, _⟩ := Own.int hg.own
  have HX := hid hx
  have HG := hid hg
  clear hx hg C3
  go_wp2_with fail
  go_ret
  exact ⟨_, xs, rfl, HX.out, Own.wide HG.out.own (by omega) (Nat.le_refl _), HG.out.src.bel'⟩
end Go.Proofs.Ytolcmehndambmaa
