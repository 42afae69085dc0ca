import Derived.Test.YtmpdaafkphpnoaaFst2
import Derived.Test.YtmpdaafkphpnoaaSrc5
import Derived.Test.YtmpdaafkphpnoaaRwsA
set_option linter.unusedVariables false
set_option linter.unusedSimpArgs false
namespace Go.Proofs.Ytmpdaafkphpnoaa
open Go.RowKit

/-- Rows of the call's own that grow while a source in block B is drawn from. -/
structure GrwR (w0 w wr : World) (B N : Nat) (A : Option Addr) (c : Nat) (bs : List Int) (v : Value) (xss : List (List Int)) : Prop where
  src : SrcE w0 wr B N A c bs
  chg : Chg B (B + 1) w wr
  own : OR wr w.heap.size wr.heap.size v xss
theorem GrwR.app {w0 w w1 : World} {B N c : Nat} {A : Option Addr} {bs : List Int} {v1 : Value} {xss : List (List Int)} (hsrc : SrcE w0 w1 B N A c bs) (hchg : Chg B (B + 1) w w1) (hB : B < w.heap.size) {w2 : World} (hb : Below w.heap.size w1 w2) (ho : OR w2 w.heap.size w2.heap.size v1 xss) :
    GrwR w0 w w2 B N A c bs v1 xss := by
  have hz := hchg.size
  refine ⟨?_, ⟨hb.os.trans hchg.os, hb.tape.trans hchg.tape, hb.output.trans hchg.output, Nat.le_trans hchg.size hb.size, fun j hj hn => (hb.block j hj).trans (hchg.block j hj hn)⟩, ho⟩
  obtain ⟨k, sd, s⟩ := hsrc
  have hw0 : w0.heap.size ≤ w.heap.size := Nat.le_trans s.ge (Nat.le_of_lt hB)
  exact ⟨k, sd, s.ge, s.bel.trans (hb.mono hw0), (hb.block B hB).trans s.hp, s.at_le, s.sd0, s.sd1⟩
/-- Allowed shuffles of n lanes. -/
def AlwP (n : Nat) (al : List (List Int)) : Prop := ∀ k, k < al.length → (rw_ al k).length = n ∧ shufB (rw_ al k) = true
theorem AlwP.snoc {n : Nat} {al : List (List Int)} {row : List Int} (h : AlwP n al) (h1 : row.length = n) (h2 : shufB row = true) : AlwP n (al ++ [row]) := by
  intro k hk
  rw [List.length_append, List.length_singleton] at hk
  by_cases e : k = al.length
  · subst e; rw [rw_last]; exact ⟨h1, h2⟩
  · rw [rw_snoc _ _ _ (by omega)]; exact h k (by omega)
theorem OR.litR (w : World) : OR (w.alloc (.cells #[] 27)) w.heap.size (w.heap.size + 1) (.slice (some ⟨w.heap.size, 0, none⟩) 0 0) [] := by
  have h := Own.of (World.ownsRow_lit (base := w.heap.size) (e := 27) (size := 1) w #[] 0 (Nat.le_refl _) (by simp [maxLen]) rfl)
  refine ⟨fun _ => .slice none 0 0, ?_, fun k hk => absurd hk (Nat.not_lt_zero _), fun i j a b _ hj => absurd hj (Nat.not_lt_zero _), fun k a b hk => absurd hk (Nat.not_lt_zero _)⟩
  simpa using h
set_option maxRecDepth 100000 in
set_option maxHeartbeats 1000000 in
theorem s_R8Allowed (w : World) (A : Option Addr) (c : Nat) (bs : List Int) (n : Nat) (hn : n = 2 ∨ n = 4 ∨ n = 8 ∨ n = 16) (hl : bs.length ≤ 1048576) (hR : RdU w A bs) :
    Calls Try.prog 7 #[.slice A bs.length c, .int .i64 (n : Nat)] w fun e w' => ∃ v al, e = .returned v ∧ (1 ≤ al.length ∧ al.length ≤ 3 ∧ AlwP n al) ∧ OR w' w.heap.size w'.heap.size v al ∧ Below w.heap.size w w' := by
  have C1 := hid (s_l00From w A c bs)
  have CP := hid (fun W B hS => s_pick w W B 0 A c bs 3 hl (by omega) (by omega) hR hS)
  have CD := hid (fun W B N (hN : N ≤ 900000) hS => s_DrawOk w W B N A c bs n hn hl hN hR hS)
  have hn16 : n ≤ 16 := by omega
  clear hR hn
  go_enter Try.func7, Try.ntmps7
  go_wp2_with fail
  refine C1.out.mono ?_
  rintro e w1 ⟨rfl, hs1, hz⟩
  have hlt : w.heap.size < w1.heap.size := hs1.lt
  have hB := hs1.bel'
  have hzl : w.heap.size ≤ w1.heap.size := by omega
  clear hz
  have HO := hid (OR.litR w1)
  have HS := hid (hs1.below (ballocw w1 (.cells #[] 27)))
  have HC := hid (Chg.of (lo := w.heap.size) (hi := w.heap.size + 1) (ballocw w1 (.cells #[] 27)) (Nat.le_refl _))
  have HG : Hid (GrwR w w1 (w1.alloc (.cells #[] 27)) w.heap.size 0 A c bs (.slice (some ⟨w1.heap.size, 0, none⟩) 0 0) []) := hid ⟨HS.out, HC.out, OR.wide HO.out (Nat.le_refl _) (by simp)⟩
  have HB := hid hB
  have C2 := hid (CP.out _ w.heap.size HS.out)
  clear C1 hs1 CP HO HS HC hB
  go_wp2_with fail
  refine C2.out.mono ?_
  rintro e w2 ⟨m, rfl, ⟨hm0, hm1, _⟩, hs2, hc2⟩
  obtain ⟨m, rfl⟩ : ∃ j : Nat, m = j := ⟨m.toNat, by omega⟩
  have hm3 : m ≤ 2 := by have := hm1 (by omega); omega
  have HG2 : Hid (GrwR w w1 w2 w.heap.size 2 A c bs (.slice (some ⟨w1.heap.size, 0, none⟩) 0 0) []) := hid ⟨hs2, HG.out.chg.trans hc2, OR.wide (OR.eqv HG.out.own (hc2.eqv (.inr (by omega)) (Nat.le_refl _))) (Nat.le_refl _) hc2.size⟩
  clear HG C2 hs2 hc2 hm1 hm0
  go_wp2_with fail
  go_loopg [6, 7] (m + 1) (fun gg v s wr => ∃ k : Nat, k ≤ m + 1 ∧ k ≤ gg ∧ s = .int .i64 k ∧ Aside (∃ al N, (al.length = m + 1 - k ∧ AlwP n al) ∧ N ≤ 2 + 100 * (m + 1 - k) ∧ GrwR w w1 wr w.heap.size N A c bs v al))
  case atStart => exact ⟨m + 1, Nat.le_refl _, Nat.le_refl _, (by go_num), ⟨[], 2, ⟨by simp, fun k hk => absurd hk (Nat.not_lt_zero _)⟩, by omega, HG2.out⟩⟩
  case round =>
    obtain ⟨k, hk, hg, rfl, GG⟩ := hrel
    clear HG2
    obtain ⟨al, N, ⟨hx1, hx2⟩, hN, hG⟩ := GG.out
    clear GG
    cases k with
    | zero =>
      have HX : Hid (1 ≤ al.length ∧ al.length ≤ 3 ∧ AlwP n al) := hid ⟨by omega, by omega, hx2⟩
      have HG := hid hG
      clear hx1 hx2 hG hN CD
      go_wp2_with fail
      go_ret
      exact ⟨_, al, rfl, HX.out, OR.wide HG.out.own (by omega) (Nat.le_refl _), HG.out.src.bel'⟩
    | succ j =>
      have hC := hid (CD.out wr w.heap.size N (by omega) hG.src)
      have HG := hid hG
      have HX := hid hx2
      have hj0 : (0 : Int) < ((j + 1 : Nat) : Int) := by omega
      clear hG hx2 CD
      go_wp2_with fail
      refine hC.out.mono ?_
      rintro e w3 ⟨v, row, rfl, ⟨hr1, hr2⟩, hg3⟩
      obtain ⟨A1, c1, rfl, _, _, _⟩ := Own.int hg3.own
      have hz1 : w1.heap.size ≤ wr.heap.size := HG.out.chg.size
      have hz2 : wr.heap.size ≤ w3.heap.size := hg3.chg.size
      have HS3 := hid hg3.src
      have HC3 := hid (HG.out.chg.trans hg3.chg)
      have HO3 := hid (OR.eqv HG.out.own (hg3.chg.eqv (.inr (by omega)) (Nat.le_refl _)))
      have HR3 : Hid (OI w3 wr.heap.size w3.heap.size (.slice A1 row.length c1) row) := hid hg3.own
      have HW := hid hr1
      have HQ := hid hr2
      clear hr1 hr2 hg3 hC HG
      go_wp2_with (at_builtin; refine wp_appendR w1.heap.size wr.heap.size rfl _ _ rfl u6 al A1 c1 row rfl rfl HO3.out HR3.out hz1 hz2 (by omega) ?_; intro v1 w4 hown1 hbel1)
      have HF := hid (GrwR.app HS3.out HC3.out hlt hbel1 hown1)
      clear hown1 hbel1
      go_roundg j
      case measure => omega
      case rel =>
        refine ⟨j, by omega, by omega, (by congr 1), (show Aside _ from ⟨al ++ [row], _, ⟨by rw [List.length_append, List.length_singleton]; omega, HX.out.snoc HQ.out HW.out⟩, ?_, HF.out⟩)⟩
        omega
end Go.Proofs.Ytmpdaafkphpnoaa
