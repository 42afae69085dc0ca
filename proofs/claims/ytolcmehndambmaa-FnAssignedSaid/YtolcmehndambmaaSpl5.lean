import Derived.Test.YtolcmehndambmaaSpl2
import Derived.Test.YtolcmehndambmaaSrc2
import Derived.Test.YtolcmehndambmaaRwsA
import Derived.Test.YtolcmehndambmaaHas
import Derived.Deep.AppendLies
set_option linter.unusedVariables false
set_option linter.unusedSimpArgs false
namespace Go.Proofs.Ytolcmehndambmaa
open Go.RowKit

/-! ### append(v, x) of one struct of two cells, that tells where the new row lies and what it leaves -/
theorem wp_append2L {P : Program} {ops : Array Oper} {rest : List Oper} {o : Oper} {a : Act} {Q : Exit → Act → World → Prop} {W : World} (lo : Nat) (hgd : o.guard = none) (s x : Operand) (t e : TypeId) (z : Value) (bytes : Nat)
    (ho : o.op = .call { callee := .builtin .append, args := #[s, x], argTypes := #[t, t] })
    (ht : P.underlying t = some (.slice e)) (hinfo : (P.info? e).map (fun i => (i.zero, i.size, i.bytes)) = some (some z, 2, bytes)) (hz : z.cells.size = 2)
    (v : Value) (n : Nat) (cs : List Value) (y1 y2 : Value) (B : Nat) (hB : W.heap.size = B) (hs : a.eval s = v) (hx : a.eval x = .slice (some ⟨B, 0, none⟩) 1 1) (h1 : y1.oneCell' = true) (h2 : y2.oneCell' = true)
    (HO : Own W lo W.heap.size e 2 v n cs) (hlo : lo ≤ W.heap.size) (hl : n + 1 ≤ 9223372036854775807) (hby : (n + 1) * bytes ≤ 140737488355328)
    (h : ∀ g cap w1, Own w1 lo w1.heap.size e 2 (.slice (some ⟨g, 0, none⟩) (n + 1) cap) (n + 1) (cs ++ [y1, y2]) → Below lo W w1 → (∀ k, k < W.heap.size → some k ≠ v.ownBlock → w1.heap[k]? = W.heap[k]?) → (v.ownBlock = some g ∨ W.heap.size < g) → wpList P ops Q rest (a.put o.dst (.slice (some ⟨g, 0, none⟩) (n + 1) cap)) w1) :
    wpList P ops Q (o :: rest) a (W.alloc (.cells #[y1, y2] e)) := by
  obtain ⟨i0, hi, hzz⟩ := Option.map_eq_some_iff.1 hinfo
  simp only [Prod.mk.injEq] at hzz
  obtain ⟨hz0, hz1, hz2⟩ := hzz
  subst hB
  refine wpList_append_lies (w := W.alloc (.cells #[y1, y2] e)) hgd s x t ho lo e i0 z 2 bytes ht hi hz0 hz1 hz2 hz (by omega) v n cs hs (HO.1.alloc _) ⟨W.heap.size, 0, none⟩ 1 1 [y1, y2] hx rfl
    (World.news_of_block (cs := #[y1, y2]) (t := e) (fr := (0, 0)) (heap_alloc_new W _)) (by simp [h1, h2]) (by omega) (by simp only [maxLen]; omega) hby (by simp; omega) (W.heap.size + 1) (by simp) ?_
  intro g cap w1 hown hg hlies hlt
  refine h g cap w1 (Own.of hown) ?_ ?_ ?_
  · refine ((Below.refl lo W).alloc hlo _).grown hg (by simp; omega) ?_
    intro k hk
    exact (HO.1.lt k hk).1
  · intro k hk hne
    rw [hg.block k (by simp; omega) hne]
    exact (ballocw W (.cells #[y1, y2] e)).block k hk
  · rcases hlies with h3 | h3
    · exact .inl h3
    · right; omega
theorem infoRng8 : (Try.prog.info? 34).map (fun i => (i.zero, i.size, i.bytes)) = some (some (.agg #[.int .i64 0, .int .i64 0]), 2, 16) := by kernel_rfl
/-- Ranges of the call's own that grow while a source in block B is drawn from. -/
structure GrwP (w0 w wr : World) (B N : Nat) (A : Option Addr) (c : Nat) (bs : List Int) (v : Value) (xs : List PI) : Prop where
  src : SrcE w0 wr B N A c bs
  chg : Chg B (B + 1) w wr
  own : OP wr w.heap.size wr.heap.size v xs
theorem GrwP.drew {w0 w wr w1 : World} {B N M c : Nat} {A : Option Addr} {bs : List Int} {v : Value} {xs : List PI} (h : GrwP w0 w wr B N A c bs v xs) (hB : B < w.heap.size) (hs : SrcE w0 w1 B M A c bs) (hc : Chg B (B + 1) wr w1) :
    GrwP w0 w w1 B M A c bs v xs := ⟨hs, h.chg.trans hc, Own.wide (Own.eqv h.own (hc.eqv (by omega) (Nat.le_refl _))) (Nat.le_refl _) hc.size⟩
theorem GrwP.app {w0 w wr w1 : World} {B N c : Nat} {A : Option Addr} {bs : List Int} {v v1 : Value} {xs : List PI} {p : PI} (h : GrwP w0 w wr B N A c bs v xs) (hB : B < w.heap.size) (hb : Below w.heap.size wr w1) (ho : Own w1 w.heap.size w1.heap.size 34 2 v1 (xs.length + 1) (ints (pfl xs) ++ [.int .i64 p.1, .int .i64 p.2])) :
    GrwP w0 w w1 B N A c bs v1 (xs ++ [p]) := by
  have hz := h.chg.size
  refine ⟨?_, ⟨hb.os.trans h.chg.os, hb.tape.trans h.chg.tape, hb.output.trans h.chg.output, Nat.le_trans h.chg.size hb.size, fun j hj hn => (hb.block j hj).trans (h.chg.block j hj hn)⟩, ?_⟩
  · obtain ⟨k, sd, s⟩ := h.src
    have hw0 : w0.heap.size ≤ w.heap.size := Nat.le_trans s.ge (Nat.le_of_lt hB)
    exact ⟨k, sd, s.ge, s.bel.trans (hb.mono hw0), (hb.block B hB).trans s.hp, s.at_le, s.sd0, s.sd1⟩
  · unfold OP; rw [pfl_append, ints_append, List.length_append]; exact ho
set_option maxRecDepth 100000 in
theorem s_R8Ranges (w : World) (A : Option Addr) (c : Nat) (bs : List Int) (hl : bs.length ≤ 1048576) (hR : RdU w A bs) :
    Calls Try.prog 12 #[.slice A bs.length c] w fun e w' => ∃ v xs, e = .returned v ∧ (xs.length ≤ 8 ∧ xs.all rngB = true) ∧ OP w' w.heap.size w'.heap.size v xs ∧ Below w.heap.size w w' := by
  have C1 := hid (s_l00From w A c bs)
  have CP := hid (fun W B N n (hN : N ≤ 1073741824) (hn : n ≤ 65536) hS => s_pick w W B N A c bs n hl hN hn hR hS)
  clear hR
  go_enter Try.func12, Try.ntmps12
  go_wp2_with fail
  refine C1.out.mono ?_
  rintro e w1 ⟨rfl, hs1, hz⟩
  have hown := Own.of (World.ownsRow_lit (base := w1.heap.size) (e := 34) (size := 2) w1 #[] 0 (Nat.le_refl _) (by simp [maxLen]) rfl)
  have hlt : w.heap.size < w1.heap.size := hs1.lt
  have HG : Hid (GrwP w w1 (w1.alloc (.cells #[] 34)) w.heap.size 0 A c bs (.slice (some ⟨w1.heap.size, 0, none⟩) 0 0) []) := hid ⟨hs1.below (ballocw _ _), Chg.of (ballocw _ _) (Nat.le_refl _), by simpa [OP, ints, pfl] using hown⟩
  have C2 := hid (CP.out (w1.alloc (.cells #[] 34)) w.heap.size 0 9 (by omega) (by omega) HG.out.src)
  have HZ := hid hz
  clear hown C1 hs1 hz
  go_wp2_with fail
  refine C2.out.mono ?_
  rintro e w2 ⟨n, rfl, ⟨hn0, hn1, _⟩, hs2, hc2⟩
  have HG2 := hid (HG.out.drew hlt hs2 hc2)
  obtain ⟨n, rfl⟩ : ∃ m : Nat, n = m := ⟨n.toNat, by omega⟩
  have hn8 : n ≤ 8 := by have := hn1 (by omega); omega
  clear HG C2 hs2 hc2 hn1 hn0
  go_wp2_with fail
  go_loopg [4, 5] n (fun gg v s wr => ∃ k : Nat, k ≤ n ∧ k ≤ gg ∧ s = .int .i64 k ∧ Aside (∃ xs M, (xs.length = n - k ∧ xs.all rngB = true) ∧ M ≤ 2 + 4 * (n - k) ∧ GrwP w w1 wr w.heap.size M A c bs v xs))
  case atStart => exact ⟨n, Nat.le_refl _, Nat.le_refl _, rfl, ⟨[], 2, ⟨by simp, rfl⟩, by omega, HG2.out⟩⟩
  case round =>
    obtain ⟨k, hk, hg, rfl, GG⟩ := hrel
    clear HG2
    obtain ⟨xs, M, ⟨hx1, hx2⟩, hM, hG⟩ := GG.out
    clear GG
    cases k with
    | zero =>
      have HX := hid (And.intro hx1 hx2)
      have HG := hid hG
      clear hx1 hx2 hG hM CP
      go_wp2_with fail
      go_ret
      refine ⟨_, xs, rfl, ⟨by have := HX.out.1; omega, HX.out.2⟩, Own.wide HG.out.own (by have := HZ.out; omega) (Nat.le_refl _), HG.out.src.bel'⟩
    | succ j =>
      have hC := hid (CP.out wr w.heap.size M 12 (by omega) (by omega) hG.src)
      have HG := hid hG
      have HX := hid hx2
      have hj0 : (0 : Int) < ((j + 1 : Nat) : Int) := by omega
      clear hG hx2
      go_wp2_with fail
      refine hC.out.mono ?_
      rintro e w2 ⟨x, rfl, ⟨h0, h1, _⟩, hs1, hc1⟩
      have h1 := h1 (by omega)
      have HG2 := hid (HG.out.drew hlt hs1 hc1)
      have hC2 := hid (CP.out w2 w.heap.size (M + 2) 6 (by omega) (by omega) hs1)
      clear hs1 hc1 hC HG CP
      go_wp2_with fail
      refine hC2.out.mono ?_
      rintro e w3 ⟨y, rfl, ⟨h2, h3, _⟩, hs1, hc1⟩
      have h3 := h3 (by omega)
      have hg3 := HG2.out.drew hlt hs1 hc1
      have HG3 := hid hg3
      have HW : Hid (rngB (x, x + (1 + y)) = true) := hid (by unfold rngB; simp; omega)
      have hz : w1.heap.size ≤ w3.heap.size := hg3.chg.size
      clear hs1 hc1 hC2 HG2 hg3
      go_wp2_with (at_builtin; refine wp_append2 w1.heap.size rfl _ _ 24 34 (.agg #[.int .i64 0, .int .i64 0]) 16 rfl Try.underlying24 infoRng8 rfl u4 xs.length _ (.int .i64 x) (.int .i64 (x + (1 + y))) w3.heap.size rfl rfl rfl rfl rfl HG3.out.own hz (by omega) (by omega) ?_; intro v1 w4 hown1 hbel1)
      go_roundg j
      case measure => omega
      case rel =>
        refine ⟨j, by omega, by omega, (by congr 1), (show Aside _ from ⟨xs ++ [(x, x + (1 + y))], M + 2 + 2, ⟨by rw [List.length_append, List.length_singleton]; omega, by rw [List.all_append, HX.out]; simp [HW.out]⟩, by omega, HG3.out.app hlt hbel1 hown1⟩)⟩
end Go.Proofs.Ytolcmehndambmaa
