import Derived.Test.YtnnioicjmlfllaaGreatDoorBt
import Derived.Test.YtnnioicjmlfllaaGreatDoorStmA
set_option linter.unusedVariables false
set_option linter.unusedSimpArgs false
namespace Go.Proofs.YtnnioicjmlfllaaGreatDoor
open Go.RowKit

/-- Statements of the call's own that grow while a source in block B is drawn from. -/
structure GrwC (w0 w wr : World) (B N : Nat) (A : Option Addr) (c : Nat) (bs : List Int) (v : Value) (xs : List SmV) : Prop where
  src : SrcE w0 wr B N A c bs
  chg : Chg B (B + 1) w wr
  own : OC wr w.heap.size wr.heap.size v xs
theorem OC.eqv' {w w' : World} {lo hi : Nat} {v : Value} {xs : List SmV} (h : OC w lo hi v xs) (hq : Eqv lo hi w w') : OC w' lo hi v xs := Own.eqv h hq
theorem GrwC.drew {w0 w wr w1 : World} {B N M c : Nat} {A : Option Addr} {bs : List Int} {v : Value} {xs : List SmV} (h : GrwC w0 w wr B N A c bs v xs) (hB : B < w.heap.size) (hs : SrcE w0 w1 B M A c bs) (hc : Chg B (B + 1) wr w1) :
    GrwC w0 w w1 B M A c bs v xs := ⟨hs, h.chg.trans hc, OC.wide (OC.eqv' h.own (hc.eqv (by omega) (Nat.le_refl _))) (Nat.le_refl _) hc.size⟩
theorem GrwC.app {w0 w wr w1 : World} {B N c : Nat} {A : Option Addr} {bs : List Int} {v1 : Value} {xs : List SmV} (hsrc : SrcE w0 wr B N A c bs) (hchg : Chg B (B + 1) w wr) (hB : B < w.heap.size) (hb : Below w.heap.size wr w1) (ho : OC w1 w.heap.size w1.heap.size v1 xs) :
    GrwC w0 w w1 B N A c bs v1 xs := by
  have hz := hchg.size
  refine ⟨?_, ⟨hb.os.trans hchg.os, hb.tape.trans hchg.tape, hb.output.trans hchg.output, Nat.le_trans hchg.size hb.size, fun j hj hn => (hb.block j hj).trans (hchg.block j hj hn)⟩, ho⟩
  obtain ⟨k, sd, s⟩ := hsrc
  have hw0 : w0.heap.size ≤ w.heap.size := Nat.le_trans s.ge (Nat.le_of_lt hB)
  exact ⟨k, sd, s.ge, s.bel.trans (hb.mono hw0), (hb.block B hB).trans s.hp, s.at_le, s.sd0, s.sd1⟩
theorem SrcE.setF {w0 w : World} {B N c : Nat} {A : Option Addr} {bs : List Int} (h : SrcE w0 w B N A c bs) {g : Nat} (hg : B < g) (k : Nat) (u : Value) : SrcE w0 (w.setCell ⟨g, k, none⟩ u) B N A c bs := by
  obtain ⟨k', sd, s⟩ := h
  have := s.ge
  exact ⟨k', sd, s.ge, bset s.bel (p := ⟨g, k, none⟩) (by show _ ≤ g; omega) u, (heap_setCell_other _ _ _ _ (by show B ≠ g; omega)).trans s.hp, s.at_le, s.sd0, s.sd1⟩
theorem Chg.farF {B g : Nat} {w wr : World} (h : Chg B (B + 1) w wr) (hg : w.heap.size ≤ g) (k : Nat) (u : Value) : Chg B (B + 1) w (wr.setCell ⟨g, k, none⟩ u) :=
  ⟨h.os, h.tape, h.output, by have := h.size; simp [World.setCell]; omega, fun j hj hn => (heap_setCell_other _ _ _ _ (by show j ≠ g; omega)).trans (h.block j hj hn)⟩
/-- A statement that is being made in its box at b1. -/
structure StB (w0 w wr : World) (B N : Nat) (A : Option Addr) (c : Nat) (bs : List Int) (v : Value) (xs : List SmV) (b1 : Nat) (p q r s : Int) : Prop where
  src : SrcE w0 wr B N A c bs
  chg : Chg B (B + 1) w wr
  own : OC wr w.heap.size b1 v xs
  box : wr.heap[b1]? = some (.cells #[.int .i64 p, .int .i64 q, .int .i64 r, .int .i64 s] 45)
  lt : b1 < wr.heap.size
  ge : w.heap.size ≤ b1
theorem StB.drew {w0 w wr w1 : World} {B N M c b1 : Nat} {A : Option Addr} {bs : List Int} {v : Value} {xs : List SmV} {p q r s : Int} (h : StB w0 w wr B N A c bs v xs b1 p q r s) (hB : B < w.heap.size) (hs : SrcE w0 w1 B M A c bs) (hc : Chg B (B + 1) wr w1) :
    StB w0 w w1 B M A c bs v xs b1 p q r s := by
  have hge := h.ge
  have hlt := h.lt
  have hz := hc.size
  exact ⟨hs, h.chg.trans hc, OC.eqv' h.own (hc.eqv (.inr (by omega)) (by omega)), (hc.block _ hlt (.inr (by omega))).trans h.box, by omega, hge⟩
theorem StB.put1 {w0 w wr : World} {B N c b1 : Nat} {A : Option Addr} {bs : List Int} {v : Value} {xs : List SmV} {p q r s : Int} (h : StB w0 w wr B N A c bs v xs b1 p q r s) (hB : B < w.heap.size) (x : Int) :
    StB w0 w (wr.setCell ⟨b1, 1, none⟩ (.int .i64 x)) B N A c bs v xs b1 p x r s := by
  have hge := h.ge
  have hlt := h.lt
  have hz : (wr.setCell ⟨b1, 1, none⟩ (.int .i64 x)).heap.size = wr.heap.size := by simp [World.setCell]
  exact ⟨h.src.setF (by omega) 1 _, h.chg.farF (by omega) 1 _, OC.eqv' h.own fun j _ h2 => heap_setCell_other _ _ _ _ (by show j ≠ b1; omega), heap_setCell_same _ _ 1 _ _ (.int .i64 x) h.box, by omega, hge⟩
theorem StB.put2 {w0 w wr : World} {B N c b1 : Nat} {A : Option Addr} {bs : List Int} {v : Value} {xs : List SmV} {p q r s : Int} (h : StB w0 w wr B N A c bs v xs b1 p q r s) (hB : B < w.heap.size) (x : Int) :
    StB w0 w (wr.setCell ⟨b1, 2, none⟩ (.int .i64 x)) B N A c bs v xs b1 p q x s := by
  have hge := h.ge
  have hlt := h.lt
  have hz : (wr.setCell ⟨b1, 2, none⟩ (.int .i64 x)).heap.size = wr.heap.size := by simp [World.setCell]
  exact ⟨h.src.setF (by omega) 2 _, h.chg.farF (by omega) 2 _, OC.eqv' h.own fun j _ h2 => heap_setCell_other _ _ _ _ (by show j ≠ b1; omega), heap_setCell_same _ _ 2 _ _ (.int .i64 x) h.box, by omega, hge⟩
theorem StB.put3 {w0 w wr : World} {B N c b1 : Nat} {A : Option Addr} {bs : List Int} {v : Value} {xs : List SmV} {p q r s : Int} (h : StB w0 w wr B N A c bs v xs b1 p q r s) (hB : B < w.heap.size) (x : Int) :
    StB w0 w (wr.setCell ⟨b1, 3, none⟩ (.int .i64 x)) B N A c bs v xs b1 p q r x := by
  have hge := h.ge
  have hlt := h.lt
  have hz : (wr.setCell ⟨b1, 3, none⟩ (.int .i64 x)).heap.size = wr.heap.size := by simp [World.setCell]
  exact ⟨h.src.setF (by omega) 3 _, h.chg.farF (by omega) 3 _, OC.eqv' h.own fun j _ h2 => heap_setCell_other _ _ _ _ (by show j ≠ b1; omega), heap_setCell_same _ _ 3 _ _ (.int .i64 x) h.box, by omega, hge⟩
theorem GrwC.make {w0 w wr : World} {B N c : Nat} {A : Option Addr} {bs : List Int} {v : Value} {xs : List SmV} (h : GrwC w0 w wr B N A c bs v xs) (hB : B < w.heap.size) (p q r s : Int) :
    StB w0 w (wr.alloc (.cells #[.int .i64 p, .int .i64 q, .int .i64 r, .int .i64 s] 45)) B N A c bs v xs wr.heap.size p q r s :=
  ⟨h.src.below (ballocw _ _), h.chg.trans (Chg.of (ballocw _ _) (Nat.le_refl _)), OC.eqv' h.own (Eqv.of (ballocw _ _) (Nat.le_refl _)), heap_alloc_new _ _, by simp, h.chg.size⟩
/-- Good statements, few. -/
def GoodC (xs : List SmV) (few : Int) : Prop := ∀ k, k < xs.length → (0 ≤ (sel xs k).o ∧ (sel xs k).o ≤ 17) ∧ (0 ≤ (sel xs k).d ∧ (sel xs k).d < few) ∧ (0 ≤ (sel xs k).a ∧ (sel xs k).a < few) ∧ (0 ≤ (sel xs k).b ∧ (sel xs k).b < few)
theorem GoodC.snoc {xs : List SmV} {few : Int} (h : GoodC xs few) {o d a b : Int} (ho : 0 ≤ o ∧ o ≤ 17) (hd : 0 ≤ d ∧ d < few) (ha : 0 ≤ a ∧ a < few) (hb : 0 ≤ b ∧ b < few) : GoodC (xs ++ [⟨o, d, a, b⟩]) few := by
  intro k hk
  rw [List.length_append, List.length_singleton] at hk
  by_cases e : k < xs.length
  · rw [show sel (xs ++ [⟨o, d, a, b⟩]) k = sel xs k by unfold sel; rw [List.getD_eq_getElem?_getD, List.getD_eq_getElem?_getD, List.getElem?_append_left e]]
    exact h k e
  · obtain rfl : k = xs.length := by omega
    rw [show sel (xs ++ [⟨o, d, a, b⟩]) xs.length = ⟨o, d, a, b⟩ by unfold sel; rw [List.getD_eq_getElem?_getD]; simp]
    exact ⟨ho, hd, ha, hb⟩
theorem GoodC.code {xs : List SmV} {few : Int} (h : GoodC xs few) (hf : few ≤ 32) (hl : xs.length ≤ 16) : codeB xs = true := by
  unfold codeB
  rw [decide_eq_true hl, Bool.true_and, List.all_eq_true]
  intro x hx
  obtain ⟨k, hk, rfl⟩ := List.mem_iff_getElem.1 hx
  have e : xs[k] = sel xs k := by have := sel_get hk; rw [List.getElem?_eq_getElem hk] at this; exact Option.some.inj this
  rw [e]
  have := h k hk
  simp [stmB, inB]; omega
set_option maxRecDepth 100000 in
set_option maxHeartbeats 1000000 in
theorem s_l03DrawSized (w0 w : World) (B N : Nat) (A : Option Addr) (c : Nat) (bs : List Int) (n : Nat) (few : Int) (hf0 : 3 ≤ few) (hf1 : few ≤ 14) (hn : n ≤ 16) (hl : bs.length ≤ 1048576) (hN : N ≤ 1000000) (hR : RdU w0 A bs) (hS : SrcE w0 w B N A c bs) :
    Calls Tryz.prog 80 #[.pointer (some ⟨B, 0, none⟩), .int .i64 (n : Nat), .int .i64 few] w fun e w' => ∃ v xs M, e = .returned v ∧ (xs.length = n ∧ GoodC xs few) ∧ GrwC w0 w w' B M A c bs v xs := by
  have CP := hid (fun W M n' (hM : M ≤ N + 8 * n) (hn' : n' ≤ 65536) hS => s_pick w0 W B M A c bs n' hl (by omega) hn' hR hS)
  have hlt := hS.lt
  have hown := Own.of (World.ownsRow_lit (base := w.heap.size) (e := 45) (size := 4) w #[] 0 (Nat.le_refl _) (by simp [maxLen]) rfl)
  have HG : Hid (GrwC w0 w (w.alloc (.cells #[] 45)) B N A c bs (.slice (some ⟨w.heap.size, 0, none⟩) 0 0) []) := hid ⟨hS.below (ballocw _ _), Chg.of (ballocw _ _) (Nat.le_refl _), by simpa [OC, sfl, ints] using hown⟩
  clear hown hR hS
  go_enter Tryz.func80, Tryz.ntmps80
  go_wp2
  go_loopg [1, 7] n (fun gg s v wr => ∃ k : Nat, k ≤ n ∧ k ≤ gg ∧ s = .int .i64 k ∧ Aside (∃ xs M, (xs.length = n - k ∧ GoodC xs few) ∧ M ≤ N + 8 * (n - k) ∧ GrwC w0 w wr B M A c bs v xs))
  case atStart => exact ⟨n, Nat.le_refl _, Nat.le_refl _, rfl, ⟨[], N, ⟨by simp, fun k hk => absurd hk (Nat.not_lt_zero _)⟩, by omega, HG.out⟩⟩
  case round =>
    obtain ⟨k, hk, hg, rfl, GG⟩ := hrel
    clear HG
    obtain ⟨xs, M, ⟨hx1, hx2⟩, hM, hG⟩ := GG.out
    clear GG
    cases k with
    | zero =>
      have HX := hid (And.intro hx1 hx2)
      have HG := hid hG
      clear hx1 hx2 hG hM CP
      go_wp2_with fail
      go_ret
      exact ⟨_, xs, M, rfl, HX.out, HG.out⟩
    | succ j =>
      have hC := hid (CP.out wr M 18 (by omega) (by omega) hG.src)
      have HG := hid hG
      have HX := hid hx2
      have HL := hid hx1
      have hj0 : (0 : Int) < ((j + 1 : Nat) : Int) := by omega
      clear hG hx2 hx1
      go_wp2_with fail
      refine hC.out.mono ?_
      rintro e w1 ⟨o, rfl, ⟨ho0, ho1, _⟩, hs1, hc1⟩
      have ho1 := ho1 (by omega)
      have hT := (HG.out.drew hlt hs1 hc1).make hlt o 0 0 0
      have k1 : (w1.alloc (.cells #[.int .i64 o, .int .i64 0, .int .i64 0, .int .i64 0] 45)).cell? ⟨w1.heap.size, 1, none⟩ = some (.int .i64 0) := by rw [cell_of_row _ _ _ _ _ _ hT.box]; rfl
      have hC2 := hid (CP.out _ (M + 2) few (by omega) (by omega) hT.src)
      have HT := hid hT
      clear hC hs1 hc1 hT HG k1
      go_wp2_with fail
      refine hC2.out.mono ?_
      rintro e w2 ⟨d, rfl, ⟨hd0, hd1, _⟩, hs1, hc1⟩
      have hd1 := hd1 (by omega)
      have hT2 := HT.out.drew hlt hs1 hc1
      have kf := frozen_of_row _ _ 1 _ _ hT2.box
      have kc : w2.cell? ⟨w1.heap.size, 1, none⟩ = some (.int .i64 0) := by rw [cell_of_row _ _ _ _ _ _ hT2.box]; rfl
      have hT3 := hT2.put1 hlt d
      have HT3 := hid hT3
      have hC3 := hid (CP.out _ (M + 2 + 2) few (by omega) (by omega) hT3.src)
      clear HT hT2 hT3 hs1 hc1 hC2
      generalize w1.heap.size = b1 at *
      go_wp2_with fail
      refine hC3.out.mono ?_
      rintro e w3 ⟨a, rfl, ⟨ha0, ha1, _⟩, hs1, hc1⟩
      have ha1 := ha1 (by omega)
      have hT2 := HT3.out.drew hlt hs1 hc1
      have kf := frozen_of_row _ _ 2 _ _ hT2.box
      have kc : w3.cell? ⟨b1, 2, none⟩ = some (.int .i64 0) := by rw [cell_of_row _ _ _ _ _ _ hT2.box]; rfl
      have hT3 := hT2.put2 hlt a
      have HT4 := hid hT3
      have hC4 := hid (CP.out _ (M + 2 + 2 + 2) few (by omega) (by omega) hT3.src)
      clear HT3 hT2 hT3 hs1 hc1 hC3
      go_wp2_with fail
      refine hC4.out.mono ?_
      rintro e w4 ⟨b, rfl, ⟨hb0, hb1, _⟩, hs1, hc1⟩
      have hb1 := hb1 (by omega)
      have hT2 := HT4.out.drew hlt hs1 hc1
      have kf := frozen_of_row _ _ 3 _ _ hT2.box
      have kc : w4.cell? ⟨b1, 3, none⟩ = some (.int .i64 0) := by rw [cell_of_row _ _ _ _ _ _ hT2.box]; rfl
      have hT3 := hT2.put3 hlt b
      have HT5 := hid hT3
      have q0 : (w4.setCell ⟨b1, 3, none⟩ (.int .i64 b)).cell? ⟨b1, 0, none⟩ = some (.int .i64 o) := by rw [cell_of_row _ _ _ _ _ _ hT3.box]; rfl
      have q1 : (w4.setCell ⟨b1, 3, none⟩ (.int .i64 b)).cell? ⟨b1, 1, none⟩ = some (.int .i64 d) := by rw [cell_of_row _ _ _ _ _ _ hT3.box]; rfl
      have q2 : (w4.setCell ⟨b1, 3, none⟩ (.int .i64 b)).cell? ⟨b1, 2, none⟩ = some (.int .i64 a) := by rw [cell_of_row _ _ _ _ _ _ hT3.box]; rfl
      have q3 : (w4.setCell ⟨b1, 3, none⟩ (.int .i64 b)).cell? ⟨b1, 3, none⟩ = some (.int .i64 b) := by rw [cell_of_row _ _ _ _ _ _ hT3.box]; rfl
      have hge := hT3.ge
      have hlt3 := hT3.lt
      have HOW := hid (OC.wide hT3.own (Nat.le_refl _) (Nat.le_of_lt hlt3))
      have hxl : xs.length ≤ 16 := by have := HL.out; omega
      clear HT4 hT2 hT3 hs1 hc1 hC4
      go_wp2_with (at_builtin; refine wp_appendC w.heap.size rfl _ _ rfl u7 xs o d a b _ (by simp [World.setCell]) rfl rfl HOW.out (by omega) (by omega) ?_; intro v1 w5 hown1 hbel1)
      have GG : Aside (∃ ys M', (ys.length = n - j ∧ GoodC ys few) ∧ M' ≤ N + 8 * (n - j) ∧ GrwC w0 w w5 B M' A c bs v1 ys) :=
        ⟨_, M + 2 + 2 + 2 + 2, ⟨by rw [List.length_append, List.length_singleton, HL.out]; omega, HX.out.snoc ⟨ho0, by omega⟩ ⟨hd0, hd1⟩ ⟨ha0, ha1⟩ ⟨hb0, hb1⟩⟩, by omega, GrwC.app HT5.out.src HT5.out.chg hlt hbel1 hown1⟩
      clear HT5 HX HL HOW hown1 hbel1 q0 q1 q2 q3 hM
      go_roundg j
      case measure => omega
      case rel => exact ⟨j, by omega, by omega, (by congr 1), GG⟩
set_option maxRecDepth 100000 in
theorem s_l03DrawOk (w0 w : World) (B N : Nat) (A : Option Addr) (c : Nat) (bs : List Int) (hl : bs.length ≤ 1048576) (hN : N ≤ 900000) (hR : RdU w0 A bs) (hS : SrcE w0 w B N A c bs) :
    Calls Tryz.prog 32 #[.pointer (some ⟨B, 0, none⟩)] w fun e w' => ∃ v xs, e = .returned v ∧ codeB xs = true ∧ OC w' w.heap.size w'.heap.size v xs ∧ ∃ M, SrcE w0 w' B M A c bs := by
  have CP := hid (fun W M n' (hM : M ≤ N + 8) (hn' : n' ≤ 65536) hS => s_pick w0 W B M A c bs n' hl (by omega) hn' hR hS)
  have CO := hid (fun W M n (hM : M ≤ N + 8) (hn : n ≤ 65536) hS => s_one w0 W B M A c bs n hl (by omega) hn hR hS)
  have CD := hid (fun W M n few h1 h2 h3 (hM : M ≤ N + 8) hS => s_l03DrawSized w0 W B M A c bs n few h1 h2 h3 hl (by omega) hR hS)
  have C1 := hid (CP.out w N 8 (by omega) (by omega) hS)
  clear hR hS
  go_enter Tryz.func32, Tryz.ntmps32
  go_wp2_with fail
  refine C1.out.mono ?_
  rintro e w1 ⟨n, rfl, ⟨hn0, hn1, _⟩, hs1, hc1⟩
  have hn1 := hn1 (by omega)
  obtain ⟨n, rfl⟩ : ∃ m : Nat, n = m := ⟨n.toNat, by omega⟩
  have C2 := hid (CO.out w1 _ 16 (by omega) (by omega) hs1)
  have HZ := hid hc1.size
  clear C1 hs1 hc1
  go_wp2_with fail
  refine C2.out.mono ?_
  rintro e w2 ⟨b, rfl, hs2, hc2⟩
  have C3 := hid (CP.out w2 _ 12 (by omega) (by omega) hs2)
  have HZ2 := hid (Nat.le_trans HZ.out hc2.size)
  clear C2 hs2 hc2 HZ CO CP
  cases b with
  | true =>
    go_wp2_with fail
    refine C3.out.mono ?_
    rintro e w3 ⟨f, rfl, ⟨hf0, hf1, _⟩, hs3, hc3⟩
    have hf1 := hf1 (by omega)
    have C4 := hid (CD.out w3 _ 16 (3 + f) (by omega) (by omega) (by omega) (by omega) hs3)
    have HZ3 := hid (Nat.le_trans HZ2.out hc3.size)
    clear C3 hs3 hc3 HZ2 CD
    go_wp2_with fail
    refine C4.out.mono ?_
    rintro e w4 ⟨v, xs, M, rfl, ⟨hx1, hx2⟩, hg⟩
    have HX := hid (hx2.code (by omega) (by omega))
    have HG := hid hg
    clear hx1 hx2 hg C4
    go_wp2_with fail
    go_ret
    exact ⟨_, xs, rfl, HX.out, OC.wide HG.out.own HZ3.out (Nat.le_refl _), M, HG.out.src⟩
  | false =>
    go_wp2_with fail
    refine C3.out.mono ?_
    rintro e w3 ⟨f, rfl, ⟨hf0, hf1, _⟩, hs3, hc3⟩
    have hf1 := hf1 (by omega)
    have C4 := hid (CD.out w3 _ n (3 + f) (by omega) (by omega) (by omega) (by omega) hs3)
    have HZ3 := hid (Nat.le_trans HZ2.out hc3.size)
    clear C3 hs3 hc3 HZ2 CD
    go_wp2_with fail
    refine C4.out.mono ?_
    rintro e w4 ⟨v, xs, M, rfl, ⟨hx1, hx2⟩, hg⟩
    have HX := hid (hx2.code (by omega) (by omega))
    have HG := hid hg
    clear hx1 hx2 hg C4
    go_wp2_with fail
    go_ret
    exact ⟨_, xs, rfl, HX.out, OC.wide HG.out.own HZ3.out (Nat.le_refl _), M, HG.out.src⟩
theorem s_B10Code (w : World) (A : Option Addr) (c : Nat) (bs : List Int) (hl : bs.length ≤ 1048576) (hR : RdU w A bs) :
    Calls Tryz.prog 6 #[.slice A bs.length c] w fun e w' => ∃ v xs, e = .returned v ∧ codeB xs = true ∧ OC w' w.heap.size w'.heap.size v xs ∧ Below w.heap.size w w' := by
  have C1 := hid (s_l00From w A c bs)
  have C2 := hid (fun W B hS => s_l03DrawOk w W B 0 A c bs hl (by omega) hR hS)
  clear hR
  go_enter Tryz.func6, Tryz.ntmps6
  go_wp2_with fail
  refine C1.out.mono ?_
  rintro e w1 ⟨rfl, hs1, hz⟩
  have C3 := hid (C2.out w1 _ hs1)
  have HZ := hid hz
  clear C1 C2 hs1 hz
  go_wp2_with fail
  refine C3.out.mono ?_
  rintro e w2 ⟨v, xs, rfl, hx, ho, M, hs⟩
  have HX := hid hx
  have HO := hid ho
  have HS := hid hs.bel'
  clear hx ho hs C3
  go_wp2_with fail
  go_ret
  exact ⟨_, xs, rfl, HX.out, OC.wide HO.out (by have := HZ.out; omega) (Nat.le_refl _), HS.out⟩
end Go.Proofs.YtnnioicjmlfllaaGreatDoor
