import Derived.Test.YtmpdaafkphpnoaaBfs6
import Derived.Test.YtmpdaafkphpnoaaIlv
import Derived.Deep.RegionLaw
import Derived.Test.YtmpdaafkphpnoaaBase
import Derived.Test.YtmpdaafkphpnoaaBfs14
import Derived.Test.YtmpdaafkphpnoaaFst3
import Derived.Test.YtmpdaafkphpnoaaSrc2
import Derived.Test.YtmpdaafkphpnoaaCat
import Derived.Test.YtmpdaafkphpnoaaLawO
import Derived.Test.YtmpdaafkphpnoaaShuf2
import Derived.Test.YtmpdaafkphpnoaaSrc6
import Derived.WalkKit
import Derived.ProofKit
import Derived.OpenShut
import Derived.Test.YtmpdaafkphpnoaaSrc
import Derived.Test.YtmpdaafkphpnoaaRows
import Derived.ShutString
import Derived.ChangeOld
import Derived.Below
set_option linter.unusedVariables false
set_option linter.unusedSimpArgs false
namespace Go.Proofs.Ytmpdaafkphpnoaa
open Go.RowKit

theorem rei_ne : (58 : Nat) ≠ 2 := by decide
theorem reb_ne : (58 : Nat) ≠ 54 := by decide
theorem rsb_ne : (54 : Nat) ≠ 2 := by decide
def nxt (O : List PQ) (b : Nat) : List PQ := O.drop b
theorem nxt_length (O : List PQ) (b : Nat) : (nxt O b).length = O.length - b := by simp [nxt]
theorem nxt_app {O : List PQ} {b : Nat} (h : b ≤ O.length) (p : PQ) : nxt (O ++ [p]) b = nxt O b ++ [p] := by unfold nxt; rw [List.drop_append_of_le_length h]
theorem RI.turn {e tS : TypeId} {W w1 : World} {lo bo : Nat} {vb vo vn vw : Value} {O N Wl : List PQ} (h : RI e tS W w1 lo bo vb vo vn vw O N Wl) : RI e tS W w1 lo bo vb vo (.slice none 0 0) vn O [] N :=
  ⟨h.bel, h.lo1, h.box, h.o, AQ.nil _ _ _ _, h.n, fun b _ q => by simp [Value.ownBlock] at q, h.on, fun b q _ => by simp [Value.ownBlock] at q⟩
abbrev RJ (W w1 : World) (lo bo : Nat) (vb vo vn vw : Value) (O N Wl : List PQ) : Prop := RI 58 54 W w1 lo bo vb vo vn vw O N Wl
/-- All that a round holds. -/
structure SK (W w : World) (lo bo : Nat) (vb vo vn vw : Value) (O N Wl : List PQ) (br : Nat) (obr : Obj) (b1 : Nat) (x1 y1 : Value) (p : PQ) (A1 A2 : Option Addr) (r : PQ) : Prop where
  j : RJ W w lo bo vb vo vn vw O N Wl
  xb : RX W br obr vo vn
  xo : RX W b1 (.cells #[x1, y1] 58) vo vn
  t1 : RdT W kb0 A1 r.1
  t2 : RdT W kb0 A2 r.2
  p : PK W lo kb0 x1 y1 p
  z : lo ≤ W.heap.size
theorem SK.below {W W' w : World} {lo bo : Nat} {vb vo vn vw : Value} {O N Wl : List PQ} {br : Nat} {obr : Obj} {b1 : Nat} {x1 y1 : Value} {p : PQ} {A1 A2 : Option Addr} {r : PQ} (h : SK W w lo bo vb vo vn vw O N Wl br obr b1 x1 y1 p A1 A2 r) (hb : Below W.heap.size W W') : SK W' w lo bo vb vo vn vw O N Wl br obr b1 x1 y1 p A1 A2 r :=
  ⟨h.j.below h.z hb, h.xb.below hb, h.xo.below hb, h.t1.keep (Kp.of hb), h.t2.keep (Kp.of hb), h.p.keep (Kp.of hb), Nat.le_trans h.z hb.size⟩
theorem SK.cells {W w : World} {lo bo : Nat} {vb vo vn vw : Value} {O N Wl : List PQ} {br : Nat} {obr : Obj} {b1 : Nat} {x1 y1 : Value} {p : PQ} {A1 A2 : Option Addr} {r : PQ} (h : SK W w lo bo vb vo vn vw O N Wl br obr b1 x1 y1 p A1 A2 r) : W.cell? ⟨b1, 0, none⟩ = some x1 ∧ W.cell? ⟨b1, 1, none⟩ = some y1 := by
  constructor
  · rw [cell_of_row _ _ _ _ _ _ h.xo.at_]; rfl
  · rw [cell_of_row _ _ _ _ _ _ h.xo.at_]; rfl
theorem SK.boxc {W w : World} {lo bo : Nat} {vb vo vn vw : Value} {O N Wl : List PQ} {br : Nat} {obr : Obj} {b1 : Nat} {x1 y1 : Value} {p : PQ} {A1 A2 : Option Addr} {r : PQ} (h : SK W w lo bo vb vo vn vw O N Wl br obr b1 x1 y1 p A1 A2 r) : W.cell? ⟨bo, 0, none⟩ = some vb ∧ W.frozen? ⟨bo, 0, none⟩ = false := by
  refine ⟨?_, frozen_of_row _ _ _ _ _ h.j.box⟩
  rw [cell_of_row _ _ _ _ _ _ h.j.box]; rfl
theorem SK.appO {W w2 w : World} {lo bo : Nat} {vb vo vo' vn vw : Value} {O O' N Wl : List PQ} {br : Nat} {obr : Obj} {b1 : Nat} {x1 y1 : Value} {p : PQ} {A1 A2 : Option Addr} {r : PQ} (h : SK W w lo bo vb vo vn vw O N Wl br obr b1 x1 y1 p A1 A2 r) (ha : Apd W w2 lo vo vo') (hq : AQ 58 w2 lo kb0 vo' O') : SK w2 w lo bo vb vo' vn vw O' N Wl br obr b1 x1 y1 p A1 A2 r :=
  ⟨RI.appO reb_ne h.j ha hq, h.xb.appO ha, h.xo.appO ha, h.t1.keep ha.kp, h.t2.keep ha.kp, h.p.keep ha.kp, Nat.le_trans h.z ha.kp.size⟩
theorem SK.appN {W w2 w : World} {lo bo : Nat} {vb vo vn vn' vw : Value} {O N N' Wl : List PQ} {br : Nat} {obr : Obj} {b1 : Nat} {x1 y1 : Value} {p : PQ} {A1 A2 : Option Addr} {r : PQ} (h : SK W w lo bo vb vo vn vw O N Wl br obr b1 x1 y1 p A1 A2 r) (ha : Apd W w2 lo vn vn') (hq : AQ 58 w2 lo kb0 vn' N') : SK w2 w lo bo vb vo vn' vw O N' Wl br obr b1 x1 y1 p A1 A2 r :=
  ⟨RI.appN reb_ne h.j ha hq, h.xb.appN ha, h.xo.appN ha, h.t1.keep ha.kp, h.t2.keep ha.kp, h.p.keep ha.kp, Nat.le_trans h.z ha.kp.size⟩
theorem SK.store {W w : World} {lo bo : Nat} {vb vo vn vw : Value} {O N Wl : List PQ} {br : Nat} {obr : Obj} {b1 : Nat} {x1 y1 : Value} {p : PQ} {A1 A2 : Option Addr} {r : PQ} (h : SK W w lo bo vb vo vn vw O N Wl br obr b1 x1 y1 p A1 A2 r) (hr : br ≠ bo) (h1 : b1 ≠ bo) : SK (W.setCell ⟨bo, 0, none⟩ vo) w lo bo vo vo vn vw O N Wl br obr b1 x1 y1 p A1 A2 r := by
  have hsz : (W.setCell ⟨bo, 0, none⟩ vo).heap.size = W.heap.size := by simp [World.setCell]
  have hK : Kp kb0 W (W.setCell ⟨bo, 0, none⟩ vo) := ⟨by omega, fun b cs fr _ hc => Below.heap_setCell _ _ _ _ fun q => by
    subst q
    rw [h.j.box] at hc
    cases hc⟩
  exact ⟨RI.store reb_ne rsb_ne h.j, h.xb.store hr, h.xo.store h1, h.t1.keep hK, h.t2.keep hK, h.p.keep hK, by have := h.z; omega⟩
theorem Apd.of {W w1 : World} {lo g n c : Nat} {v : Value} (hk : Kp kb0 W w1) (hkeep : ∀ k, k < W.heap.size → v.ownBlock ≠ some k → w1.heap[k]? = W.heap[k]?) (hat : v.ownBlock = some g ∨ g = W.heap.size) (hb : Below lo W w1) : Apd W w1 lo v (.slice (some ⟨g, 0, none⟩) n c) := by
  refine ⟨hk, hkeep, ?_, hb⟩
  rcases hat with q | q
  · exact .inl q
  · exact .inr (by rw [q]; rfl)
theorem AQ.seen {e : TypeId} {w : World} {lo : Nat} {kb : Nat → Prop} {v : Value} {qs : List PQ} (h : AQ e w lo kb v qs) : ∃ A c F, v = .slice A qs.length c ∧ RdQ w A qs F ∧ ∀ k, k < qs.length → ∃ A1 n1 c1 A2 c2, F k = (.slice A1 n1 c1, .slice A2 (qel qs k).2.length c2) ∧ RdI w A2 (qel qs k).2 := by
  obtain ⟨f, h1, h2⟩ := h
  obtain ⟨A, c, rfl, _, _, hs⟩ := h1.shape
  refine ⟨A, c, f, rfl, fun k hk => ?_, fun k hk => ?_⟩
  · rcases hs with ⟨_, h0⟩ | ⟨g, rfl, _, _, hcell, _⟩
    · omega
    · have hq := qcs_get f qs.length hk
      exact ⟨g, rfl, hcell _ _ hq.1, hcell _ _ hq.2⟩
  · obtain ⟨A1, c1, A2, c2, e1, e2, _, r2, _⟩ := h2 k hk
    exact ⟨A1, _, c1, A2, c2, by rw [← e1, ← e2], r2.rd⟩
theorem i_seenA (W : World) (Bo lo : Nat) (kb : Nat → Prop) (vo : Value) (A3 : Option Addr) (c3 n : Nat) (O : List PQ) (s : List Int) (hO : O.length ≤ 1048576) (hs : s.length = n) (hn : n ≤ 16) (hlen : AllN n O)
    (ho : W.cell? ⟨Bo, 0, none⟩ = some vo) (hq : AQ 58 W lo kb vo O) (h3 : RdI W A3 s) :
    Calls Try.prog 53 #[.slice A3 n c3, .pointer (some ⟨Bo, 0, none⟩)] W fun e w' => e = .returned (.bool (seenB O s)) ∧ Below W.heap.size W w' := by
  obtain ⟨A, c, F, rfl, hr, hf⟩ := hq.seen
  subst hs
  exact i_seen W Bo A A3 c c3 O s F hO (by omega) (fun k hk => by rw [hlen _ (qel_mem hk)]; omega) ho hr hf h3
set_option maxRecDepth 100000 in
set_option maxHeartbeats 4000000 in
theorem i_reached (w : World) (A : Option Addr) (c : Nat) (al : List (List Int)) (n most : Nat) (h1 : 1 ≤ al.length) (h4 : al.length ≤ 4) (hn : n ≤ 16) (hm : most ≤ 5) (hal : ∀ k, k < al.length → (rw_ al k).length = n ∧ shufB (rw_ al k) = true) (hR : RdR w A al) :
    Calls Try.prog 27 #[.slice A al.length c, .int .i64 (most : Nat)] w fun e w' => ∃ A' c', e = .returned (.slice A' (lvO al n most).length c') ∧ AQ 58 w' w.heap.size kb0 (.slice A' (lvO al n most).length c') (lvO al n most) ∧ Below w.heap.size w w' := by
  obtain ⟨b0, o0, A0, c0, rfl, hc0, hcc0, hr0⟩ := hR.get (k := 0) (by omega)
  rw [(hal 0 (by omega)).1] at hc0 hcc0
  rw [Nat.add_zero] at hc0
  have HR := hid hR
  have HAL := hid hal
  have C0 := hid (i_sameR w n (by omega))
  have HL0 : Hid (lvO al n 0 = [([], idl n)]) := hid rfl
  have hal0 : (0 : Int) < (al.length : Int) := by omega
  clear hR hal hr0
  go_enter Try.func27, Try.ntmps27
  go_wp2_with fail
  refine C0.out.mono ?_
  rintro e w1 ⟨A1, c1, rfl, ho1, hb1⟩
  have hp1 : PK w1 w.heap.size kb0 (.slice none 0 0) (.slice A1 n c1) ([], idl n) := ⟨none, 0, A1, c1, rfl, by simp [idl_length], fun k hk => absurd hk (Nat.not_lt_zero _), RdT.of ho1 fun _ _ q => q, Own.nil _ _ _ _ _, fun _ _ q => q⟩
  have HQ1 := hid (AQ.lit 58 (lo := w.heap.size) hp1 hb1.size)
  have hb2 := ballocw w1 (.cells #[.slice none 0 0, .slice A1 n c1] 58)
  have C1 := hid (g_CloneQ1 (w1.alloc (.cells #[.slice none 0 0, .slice A1 n c1] 58)) w1.heap.size (.slice none 0 0) (.slice A1 n c1) ([], idl n) rfl rfl (heap_alloc_new _ _) w.heap.size (by simp; have := hb1.size; omega) (hp1.keep (Kp.of hb2)))
  have HB2 := hid (bthen hb1 hb2)
  have hz1 := hb1.size
  have hsz1 : (w1.alloc (.cells #[.slice none 0 0, .slice A1 n c1] 58)).heap.size = w1.heap.size + 1 := by simp
  clear C0 ho1 hb1 hb2 hp1
  go_wp2_with fail
  refine C1.out.mono ?_
  rintro e w3 ⟨g3, cap3, rfl, hg30, hq3, hb3⟩
  have hz3 := hb3.size
  rw [hsz1] at hz3
  have hg3 := (hq3.own (b := g3) rfl)
  have HI : Hid (RJ (w3.alloc (.cells #[.slice (some ⟨g3, 0, none⟩) 1 cap3] 54)) w w.heap.size w3.heap.size (.slice (some ⟨g3, 0, none⟩) 1 cap3) (.slice (some ⟨g3, 0, none⟩) 1 cap3) (.slice none 0 0) (.slice (some ⟨w1.heap.size, 0, none⟩) 1 1) (lvO al n 0) [] (lvO al n 0)) := hid (by
    have hb4 := ballocw w3 (.cells #[.slice (some ⟨g3, 0, none⟩) 1 cap3] 54)
    rw [HL0.out]
    refine ⟨bthen HB2.out (bthen hb3 hb4), by omega, heap_alloc_new _ _, hq3.below hb4, AQ.nil _ _ _ _, (HQ1.out.below hb3).below hb4, fun b _ q => by simp [Value.ownBlock] at q, fun b q r => ?_, fun b q _ => by simp [Value.ownBlock] at q⟩
    simp [Value.ownBlock] at q r
    omega)
  clear C1 HQ1 HB2 hq3 hb3
  go_wp2_with fail
  clear hc0 hcc0 hg3 hsz1
  generalize w3.alloc (.cells #[.slice (some ⟨g3, 0, none⟩) 1 cap3] 54) = W4 at *
  generalize hbo : w3.heap.size = bo at *
  have hwbo : w.heap.size ≤ bo := by omega
  go_loopg [5, 26] most (fun gg vw s wr => ∃ l : Nat, l ≤ most ∧ most - l ≤ gg ∧ s = .int .i64 l ∧ ∃ vo Aw cw, vw = .slice Aw ((lvO al n l).length - lvA al n l) cw ∧ Aside (w.heap.size ≤ wr.heap.size) ∧ Aside (RJ wr w w.heap.size bo vo vo (.slice none 0 0) vw (lvO al n l) [] ((lvO al n l).drop (lvA al n l))))
  case atStart => exact ⟨0, Nat.zero_le _, by omega, rfl, _, _, _, rfl, HI.out.bel.size, HI.out⟩
  case round =>
    obtain ⟨l, hl, hg, rfl, vo, Aw, cw, rfl, ZW, RW⟩ := hrel
    obtain ⟨wl, rfl⟩ : ∃ wl : World, wl = wr := ⟨_, rfl⟩
    clear HI
    have hw4 := lv_width (n := n) h4 l
    have h45 : 4 ^ l ≤ 1024 := Nat.le_trans (Nat.pow_le_pow_right (by omega) (show l ≤ 5 by omega)) (by decide)
    have hO5 := lv_len (n := n) h4 l (by omega)
    by_cases hlt : l < most
    · have hlt' : (l : Int) < (most : Int) := by omega
      have HLS := hid (lvO_succ al n l)
      have HAN : Hid (AllN n (lvO al n l)) := hid (AllN.lv (fun k hk => (HAL.out k hk).1) l)
      have HST : Hid (∀ j, j < (lvO al n l).length - lvA al n l → (qel (lvO al n l) (lvA al n l + j)).1.length = l) := hid fun j hj => (lv_steps al n l (lvA al n l + j) (by omega)).2 (by omega)
      have HLA : Hid (lvA al n (l + 1) = (lvO al n l).length) := hid rfl
      have HX0 : Hid (exR al (lvA al n l) 0 (lvO al n l) = lvO al n l) := hid rfl
      generalize hO0 : lvO al n l = O0 at *
      generalize hA0 : lvA al n l = a0 at *
      have HM : Hid (a0 ≤ O0.length) := hid (by rw [← hO0, ← hA0]; exact lvA_le al n l)
      clear hO0 hA0
      generalize hm0 : O0.length - a0 = m at *
      have HMM := hid hm0
      clear hm0
      go_wp2_with fail
      go_loopg [8, 30] m (fun gg vn s wr => ∃ j : Nat, j ≤ m ∧ m - j ≤ gg ∧ s = .int .i64 j ∧ ∃ vo An cn, vn = .slice An ((exR al a0 j O0).length - O0.length) cn ∧ Aside (w.heap.size ≤ wr.heap.size) ∧ Aside (RJ wr w w.heap.size bo vo vo vn (.slice Aw m cw) (exR al a0 j O0) (nxt (exR al a0 j O0) O0.length) (O0.drop a0)))
      case atStart => exact ⟨0, Nat.zero_le _, by omega, rfl, vo, none, 0, by simp [exR], ZW, by simpa [exR, Aside, nxt] using RW.out⟩
      case round =>
        obtain ⟨j, hj, hgj, rfl, vo, An, cn, rfl, ZJ, RJJ⟩ := hrel
        clear RW ZW
        obtain ⟨wj, rfl⟩ : ∃ wj : World, wj = wr := ⟨_, rfl⟩
        by_cases hltj : j < m
        · have hltj' : (j : Int) < (m : Int) := by omega
          have HR2 := hid RJJ.out
          have hwl : (O0.drop a0).length = m := by rw [List.length_drop]; exact HMM.out
          obtain ⟨A', c', e', hc1, hc2, hget⟩ := RJJ.out.w.get
          rw [hwl] at e' hget
          cases e'
          obtain ⟨bw, A1, c1', A2, c2', rfl, x1, x2, t1, t2⟩ := hget j hltj
          have hqe : qel (O0.drop a0) j = qel O0 (a0 + j) := by unfold qel; rw [List.getD_eq_getElem?_getD, List.getD_eq_getElem?_getD, List.getElem?_drop]
          rw [hqe] at x1 x2 t1 t2
          have hst := HST.out j hltj
          have hdo : (qel O0 (a0 + j)).2.length = n := HAN.out _ (qel_mem (by have := HMM.out; have := HM.out; omega))
          rw [hst] at x1
          rw [hdo] at x2
          have HQE : Hid (qel (exR al a0 j O0) (a0 + j) = qel O0 (a0 + j)) := hid (exR_app _ _ _ _ (by have := HMM.out; have := HM.out; omega))
          have HXS : Hid (exR al a0 (j + 1) O0 = exK al (qel O0 (a0 + j)) al.length (exR al a0 j O0)) := hid (by show exK al (qel (exR al a0 j O0) (a0 + j)) _ _ = _; rw [HQE.out])
          have HX1 : Hid (exK al (qel O0 (a0 + j)) 0 (exR al a0 j O0) = exR al a0 j O0) := hid rfl
          have HLN : Hid (∀ k, k ≤ al.length → (exK al (qel O0 (a0 + j)) k (exR al a0 j O0)).length ≤ 7000) := hid fun k hk => by
            have := ex_len al a0 j k (qel O0 (a0 + j)) O0 h4 hk; omega
          have HPR : Hid (∀ k, O0.length ≤ (exK al (qel O0 (a0 + j)) k (exR al a0 j O0)).length) := hid fun k => by
            obtain ⟨N, e, _⟩ := exK_pre al (qel O0 (a0 + j)) k (exR al a0 j O0)
            obtain ⟨M, e2, _⟩ := exR_pre al a0 j O0
            rw [e, e2, List.length_append, List.length_append]; omega
          have HANK : Hid (∀ k, k ≤ al.length → AllN n (exK al (qel O0 (a0 + j)) k (exR al a0 j O0))) := hid fun k hk => AllN.exK (AllN.exR HAN.out a0 (fun k hk => (HAL.out k hk).1) j) _ (fun k hk => (HAL.out k hk).1) k hk
          have HST1 := hid hst
          have HDO := hid hdo
          have T1 := hid t1
          have T2 := hid t2
          have hbx := ballocw wj (.cells #[.slice A1 l c1', .slice A2 n c2'] 58)
          have HRX : Hid (RX (wj.alloc (.cells #[.slice A1 l c1', .slice A2 n c2'] 58)) wj.heap.size (.cells #[.slice A1 l c1', .slice A2 n c2'] 58) vo (.slice An ((exR al a0 j O0).length - O0.length) cn)) := hid ⟨heap_alloc_new _ _, fun q => by have := (RJJ.out.o.own q).2.1; omega, fun q => by have := (RJJ.out.n.own q).2.1; omega⟩
          have hxz : (wj.alloc (.cells #[.slice A1 l c1', .slice A2 n c2'] 58)).heap.size = wj.heap.size + 1 := by simp
          have HRJ : Hid (RJ (wj.alloc (.cells #[.slice A1 l c1', .slice A2 n c2'] 58)) w w.heap.size bo vo vo (.slice An ((exR al a0 j O0).length - O0.length) cn) (.slice (some ⟨bw, 0, none⟩) m cw) (exR al a0 j O0) (nxt (exR al a0 j O0) O0.length) (O0.drop a0)) := hid (RJJ.out.below ZJ.out hbx)
          have HT1 : Hid (RdT (wj.alloc (.cells #[.slice A1 l c1', .slice A2 n c2'] 58)) kb0 A1 (qel O0 (a0 + j)).1) := hid (t1.keep (Kp.of hbx))
          have HT2 : Hid (RdT (wj.alloc (.cells #[.slice A1 l c1', .slice A2 n c2'] 58)) kb0 A2 (qel O0 (a0 + j)).2) := hid (t2.keep (Kp.of hbx))
          have hzj := ZJ.out
          clear RJJ hc1 hc2 hget t1 t2 T1 T2 hqe hst hdo HR2 hwl HX0 hbx HST HAN HQE HLS ZJ
          generalize qel O0 (a0 + j) = r at *
          generalize exR al a0 j O0 = E at *
          go_wp2_with fail
          generalize wj.alloc (.cells #[.slice A1 l c1', .slice A2 n c2'] 58) = W5 at *
          generalize hbr : wj.heap.size = br at *
          go_loopg [8, 36] al.length (fun gg vn s wr => ∃ k : Nat, k ≤ al.length ∧ al.length - k ≤ gg ∧ s = .int .i64 k ∧ ∃ vo An cn, vn = .slice An ((exK al r k E).length - O0.length) cn ∧ Aside (w.heap.size ≤ wr.heap.size) ∧ Aside (RJ wr w w.heap.size bo vo vo vn (.slice (some ⟨bw, 0, none⟩) m cw) (exK al r k E) (nxt (exK al r k E) O0.length) (O0.drop a0)) ∧ Aside (RX wr br (.cells #[.slice A1 l c1', .slice A2 n c2'] 58) vo vn) ∧ Aside (RdT wr kb0 A1 r.1) ∧ Aside (RdT wr kb0 A2 r.2))
          case atStart => exact ⟨0, Nat.zero_le _, by omega, rfl, vo, An, cn, rfl, HRJ.out.bel.size, HRJ.out, HRX.out, HT1.out, HT2.out⟩
          case round =>
            obtain ⟨k, hk, hgk, rfl, vo, An, cn, rfl, ZK, RK, XK, TK1, TK2⟩ := hrel
            clear HRJ HRX HT1 HT2 x1 x2
            obtain ⟨wk, rfl⟩ : ∃ wk : World, wk = wr := ⟨_, rfl⟩
            by_cases hltk : k < al.length
            · have hltk' : (k : Int) < (al.length : Int) := by omega
              have HMZ : Hid (al.length - (k + 1) < gk) := hid (by omega)
              have HK1 : Hid (k + 1 ≤ al.length) := hid (by omega)
              have HK2 : Hid (al.length - (k + 1) ≤ al.length - (k + 1)) := hid (Nat.le_refl _)
              obtain ⟨bs, os, As, cs, e1, hcs, hccs, hrs⟩ := (HR.out.below RK.out.bel).get (k := k) hltk
              cases e1
              have hsl := (HAL.out k hltk).1
              have hss := (HAL.out k hltk).2
              rw [hsl] at hcs hccs
              have y0 : wk.cell? ⟨br, 0, none⟩ = some (.slice A1 l c1') := by rw [cell_of_row _ _ _ _ _ _ XK.out.at_]; rfl
              have y1 : wk.cell? ⟨br, 1, none⟩ = some (.slice A2 n c2') := by rw [cell_of_row _ _ _ _ _ _ XK.out.at_]; rfl
              have cp := i_picked wk A2 As c2' cs r.2 (rw_ al k) (fun q hq => by
                have := shufB_el hss hq
                rw [hsl] at this; rw [HDO.out]; exact this) (by have := HDO.out; omega) (by omega) TK2.out.rd hrs
              rw [HDO.out, hsl] at cp
              have CP := hid cp
              have HPL : Hid ((pick r.2 (rw_ al k)).length = n) := hid (by rw [pick_length]; exact hsl)
              have HE1 : Hid (seenB (exK al r k E) (pick r.2 (rw_ al k)) = true → exK al r (k + 1) E = exK al r k E) := hid fun h => by show ex1 al r k (exK al r k E) = _; unfold ex1; rw [if_pos h]
              have HE2 : Hid (seenB (exK al r k E) (pick r.2 (rw_ al k)) = false → exK al r (k + 1) E = exK al r k E ++ [(r.1 ++ [(k : Int)], pick r.2 (rw_ al k))]) := hid fun h => by show ex1 al r k (exK al r k E) = _; unfold ex1; rw [if_neg (by rw [h]; exact Bool.false_ne_true)]
              have hlk := HLN.out k (by omega)
              have hprk := HPR.out k
              have hank := HANK.out k (by omega)
              have HAK := hid hank
              clear cp hrs hsl hss hank
              generalize exK al r k E = O at *
              generalize pick r.2 (rw_ al k) = sh at *
              go_wp2_with fail
              refine CP.out.mono ?_
              rintro e w6 ⟨v6, rfl, ho6, hb6⟩
              obtain ⟨A6, c6, rfl, _, _, hr6⟩ := Own.int ho6
              have hpl := HPL.out
              rw [hpl]
              rw [hpl] at ho6
              have hz6 := hb6.size
              have RK6 := hid (RK.out.below ZK.out hb6)
              have XK6 := hid (XK.out.below hb6)
              have TK16 := hid (TK1.out.keep (Kp.of hb6))
              have TK26 := hid (TK2.out.keep (Kp.of hb6))
              have TS6 := hid (RdT.of (kb := kb0) (c := c6) (n := n) (A := A6) (w := w6) (lo := wk.heap.size) (hi := w6.heap.size) (xs := sh) ho6 (fun _ _ q => q))
              have hbo6 : w6.cell? ⟨bo, 0, none⟩ = some vo := by rw [cell_of_row _ _ _ _ _ _ RK6.out.box]; rfl
              have CS := hid (i_seenA w6 bo w.heap.size kb0 vo A6 c6 n O sh (by omega) hpl hn HAK.out hbo6 RK6.out.o hr6)
              have ZK6 := ZK.out
              clear RK XK TK1 TK2 CP ho6 hb6 hr6 hpl hcs hccs y0 y1 hbo6 ZK
              cases hsn : seenB O sh with
              | true =>
                rw [hsn] at CS
                have HEK := hid (HE1.out hsn)
                clear HE1 HE2 hsn TS6
                go_wp2_with fail
                refine CS.out.mono ?_
                rintro e w7 ⟨rfl, hb7⟩
                have hz7 := hb7.size
                have RK7 := hid (RK6.out.below (Nat.le_trans ZK6 hz6) hb7)
                have XK7 := hid (XK6.out.below hb7)
                have TK17 := hid (TK16.out.keep (Kp.of hb7))
                have TK27 := hid (TK26.out.keep (Kp.of hb7))
                clear CS RK6 XK6 TK16 TK26 hb7
                go_wp2_with fail
                go_roundg (al.length - (k + 1))
                case measure => omega
                case rel => exact ⟨k + 1, by omega, by omega, by go_num, vo, An, cn, by rw [HEK.out], by show _ ≤ _; omega, by unfold Aside; rw [HEK.out]; exact RK7.out, XK7.out, TK17.out, TK27.out⟩
              | false =>
                rw [hsn] at CS
                have HEK := hid (HE2.out hsn)
                clear HE1 HE2 hsn
                go_wp2_with fail
                refine CS.out.mono ?_
                rintro e w7 ⟨rfl, hb7⟩
                have hz7 := hb7.size
                have RK7 := hid (RK6.out.below (Nat.le_trans ZK6 hz6) hb7)
                have XK7 := hid (XK6.out.below hb7)
                have TK17 := hid (TK16.out.keep (Kp.of hb7))
                have TK27 := hid (TK26.out.keep (Kp.of hb7))
                have TS7 := hid (TS6.out.keep (Kp.of hb7))
                have z0 : w7.cell? ⟨br, 0, none⟩ = some (.slice A1 l c1') := by rw [cell_of_row _ _ _ _ _ _ XK7.out.at_]; rfl
                have CL := hid (g_CloneM w7 A1 c1' l r.1 HST1.out (by omega) TK17.out.rd)
                clear CS RK6 XK6 TK16 TK26 hb7 TS6
                go_wp2_with fail
                refine CL.out.mono ?_
                rintro e w8 ⟨A8, c8, rfl, ho8, hb8⟩
                have hz8 := hb8.size
                have ho8l : Own w8 w7.heap.size w8.heap.size 2 1 (.slice A8 l c8) l (ints r.1) := by
                  have := ho8; unfold OI OwnI at this; rw [HST1.out] at this; exact this
                have HO8L := hid ho8l
                have HB8 := hid hb8
                clear CL ho8 ho8l hb8 z0
                go_wp2_with (at_builtin; refine wp_append1 w7.heap.size rfl _ _ 27 2 (.int .i64 0) 8 rfl Try.underlying27 infoInt rfl (.slice A8 l c8) l _ (.int .i64 (k : Nat)) rfl rfl rfl HO8L.out hz8 (by omega) (by omega) ?_; intro v9 w9 hown9 hbel9; obtain ⟨A9, c9, e9, _, _, _⟩ := Own.shape hown9; subst e9; have HO9 := hid hown9; have HB9 := hid (HB8.out.trans hbel9); clear hown9 hbel9)
                have h9l : OwnI w9 w7.heap.size w9.heap.size 2 (.slice A9 (l + 1) c9) (r.1 ++ [(k : Int)]) := by
                  have := HO9.out
                  unfold OwnI
                  rw [ints_append, List.length_append, HST1.out]
                  exact this
                have hpk : PK w9 w.heap.size kb0 (.slice A9 (l + 1) c9) (.slice A6 n c6) (r.1 ++ [(k : Int)], sh) := ⟨A9, c9, A6, c6, by simp [HST1.out], by simp [HPL.out], RdT.of h9l fun _ _ q => q, TS7.out.keep (Kp.of HB9.out), (by have q := (Own.wide h9l (show w.heap.size ≤ w7.heap.size by omega) (Nat.le_refl w9.heap.size)); simp only [List.length_append, List.length_singleton, HST1.out]; exact q), fun _ _ q => q⟩
                have hbv := ballocw w9 (.cells #[.slice A9 (l + 1) c9, .slice A6 n c6] 58)
                have hz9 := HB9.out.size
                have hsv : (w9.alloc (.cells #[.slice A9 (l + 1) c9, .slice A6 n c6] 58)).heap.size = w9.heap.size + 1 := by simp
                have HSV : Hid (SK (w9.alloc (.cells #[.slice A9 (l + 1) c9, .slice A6 n c6] 58)) w w.heap.size bo vo vo (.slice An (O.length - O0.length) cn) (.slice (some ⟨bw, 0, none⟩) m cw) O (nxt O O0.length) (O0.drop a0) br (.cells #[.slice A1 l c1', .slice A2 n c2'] 58) w9.heap.size (.slice A9 (l + 1) c9) (.slice A6 n c6) (r.1 ++ [(k : Int)], sh) A1 A2 r) := hid
                  ⟨(RK7.out.below (by omega) HB9.out).below (by omega) hbv, (XK7.out.below HB9.out).below hbv, ⟨heap_alloc_new _ _, fun q => by have := (RK7.out.o.own q).2.1; omega, fun q => by have := (RK7.out.n.own q).2.1; omega⟩, (TK17.out.keep (Kp.of HB9.out)).keep (Kp.of hbv), (TK27.out.keep (Kp.of HB9.out)).keep (Kp.of hbv), hpk.keep (Kp.of hbv), by omega⟩
                have hbrbo : br ≠ bo := fun q => by
                  have h1 := XK7.out.at_
                  rw [q, RK7.out.box] at h1
                  cases h1
                have h1bo : w9.heap.size ≠ bo := by
                  have := lt_of_heap RK7.out.box
                  omega
                clear RK7 XK7 TK17 TK27 TS7 HO8L HB8 HO9 HB9 h9l hpk hbv
                generalize hV : w9.alloc (.cells #[.slice A9 (l + 1) c9, .slice A6 n c6] 58) = V at *
                clear hV
                generalize w9.heap.size = b14 at *
                have HS1 : Hid (SK (V.alloc (.cells #[.slice A9 (l + 1) c9, .slice A6 n c6] 58)).drew w w.heap.size bo vo vo (.slice An (O.length - O0.length) cn) (.slice (some ⟨bw, 0, none⟩) m cw) O (nxt O O0.length) (O0.drop a0) br (.cells #[.slice A1 l c1', .slice A2 n c2'] 58) b14 (.slice A9 (l + 1) c9) (.slice A6 n c6) (r.1 ++ [(k : Int)], sh) A1 A2 r) := hid ((HSV.out.below (bdrewL V)).below (ballocw V.drew (.cells #[.slice A9 (l + 1) c9, .slice A6 n c6] 58)))
                have HS2 : Hid (SK ((V.alloc (.cells #[.slice A9 (l + 1) c9, .slice A6 n c6] 58)).alloc (.cells #[.slice A9 (l + 1) c9, .slice A6 n c6] 58)).drew w w.heap.size bo vo vo (.slice An (O.length - O0.length) cn) (.slice (some ⟨bw, 0, none⟩) m cw) O (nxt O O0.length) (O0.drop a0) br (.cells #[.slice A1 l c1', .slice A2 n c2'] 58) b14 (.slice A9 (l + 1) c9) (.slice A6 n c6) (r.1 ++ [(k : Int)], sh) A1 A2 r) := hid (((HSV.out.below (bdrewL V)).below (ballocw V.drew (.cells #[.slice A9 (l + 1) c9, .slice A6 n c6] 58))).below (ballocw (V.drew.alloc (.cells #[.slice A9 (l + 1) c9, .slice A6 n c6] 58)) (.cells #[.slice A9 (l + 1) c9, .slice A6 n c6] 58)))
                have k0 := HSV.out.boxc.1
                have k1 : (V.alloc (.cells #[.slice A9 (l + 1) c9, .slice A6 n c6] 58)).cell? ⟨bo, 0, none⟩ = some vo := HS1.out.boxc.1
                have k2 : ((V.alloc (.cells #[.slice A9 (l + 1) c9, .slice A6 n c6] 58)).alloc (.cells #[.slice A9 (l + 1) c9, .slice A6 n c6] 58)).cell? ⟨bo, 0, none⟩ = some vo := HS2.out.boxc.1
                obtain ⟨e0, e1⟩ := HSV.out.cells
                have e2 : (V.alloc (.cells #[.slice A9 (l + 1) c9, .slice A6 n c6] 58)).cell? ⟨b14, 0, none⟩ = some (.slice A9 (l + 1) c9) := HS1.out.cells.1
                have e3 : (V.alloc (.cells #[.slice A9 (l + 1) c9, .slice A6 n c6] 58)).cell? ⟨b14, 1, none⟩ = some (.slice A6 n c6) := HS1.out.cells.2
                have c10 : (V.alloc (.cells #[.slice A9 (l + 1) c9, .slice A6 n c6] 58)).drew.heap[V.heap.size]? = some (.cells #[.slice A9 (l + 1) c9, .slice A6 n c6] 58) := heap_alloc_new V _
                have hs1 : (V.alloc (.cells #[.slice A9 (l + 1) c9, .slice A6 n c6] 58)).heap.size = V.heap.size + 1 := by simp
                have hs2 : ((V.alloc (.cells #[.slice A9 (l + 1) c9, .slice A6 n c6] 58)).alloc (.cells #[.slice A9 (l + 1) c9, .slice A6 n c6] 58)).drew.heap.size = V.heap.size + 1 + 1 := by show ((V.alloc (.cells #[.slice A9 (l + 1) c9, .slice A6 n c6] 58)).alloc (.cells #[.slice A9 (l + 1) c9, .slice A6 n c6] 58)).heap.size = _; simp
                have c21 : ((V.alloc (.cells #[.slice A9 (l + 1) c9, .slice A6 n c6] 58)).alloc (.cells #[.slice A9 (l + 1) c9, .slice A6 n c6] 58)).drew.heap[V.heap.size + 1]? = some (.cells #[.slice A9 (l + 1) c9, .slice A6 n c6] 58) := by rw [← hs1]; exact heap_alloc_new _ _
                have c20 : ((V.alloc (.cells #[.slice A9 (l + 1) c9, .slice A6 n c6] 58)).alloc (.cells #[.slice A9 (l + 1) c9, .slice A6 n c6] 58)).drew.heap[V.heap.size]? = some (.cells #[.slice A9 (l + 1) c9, .slice A6 n c6] 58) := (heap_alloc_old (V.alloc (.cells #[.slice A9 (l + 1) c9, .slice A6 n c6] 58)) (.cells #[.slice A9 (l + 1) c9, .slice A6 n c6] 58) (by omega)).trans c10
                have hl20 : V.heap.size < ((V.alloc (.cells #[.slice A9 (l + 1) c9, .slice A6 n c6] 58)).alloc (.cells #[.slice A9 (l + 1) c9, .slice A6 n c6] 58)).drew.heap.size := by omega
                have hl21 : V.heap.size + 1 < ((V.alloc (.cells #[.slice A9 (l + 1) c9, .slice A6 n c6] 58)).alloc (.cells #[.slice A9 (l + 1) c9, .slice A6 n c6] 58)).drew.heap.size := by omega
                have hne0 : vo.ownBlock ≠ some V.heap.size := fun q => by have := (HSV.out.j.o.own q).2.1; omega
                have hne1 : vo.ownBlock ≠ some (V.heap.size + 1) := fun q => by have := (HSV.out.j.o.own q).2.1; omega
                clear hsv hs1 hs2
                go_region_law (first | (refine step_appQ 54 58 rei_ne Try.underlying54 infoReach w.heap.size V.heap.size kb0 rfl _ _ rfl vo O (r.1 ++ [(k : Int)], sh) (.slice A9 (l + 1) c9) (.slice A6 n c6) rfl rfl rfl rfl c10 HS1.out.j.o HS1.out.p HS1.out.z (by omega) ?_; intro g20 cap20 w20 hq20 hkp20 hke20 hat20 hbe20; have HT2 := hid (HS1.out.appO (Apd.of hkp20 hke20 hat20 hbe20) hq20); have f20 := HT2.out.cells; obtain ⟨e4, e5⟩ := f20; have HT2b := hid (HT2.out.below (ballocw w20 (.cells #[.slice A9 (l + 1) c9, .slice A6 n c6] 58))); have c2a : (w20.alloc (.cells #[.slice A9 (l + 1) c9, .slice A6 n c6] 58)).heap[w20.heap.size]? = some (.cells #[.slice A9 (l + 1) c9, .slice A6 n c6] 58) := heap_alloc_new _ _) | (refine step_appQ 54 58 rei_ne Try.underlying54 infoReach w.heap.size V.heap.size kb0 rfl _ _ rfl vo O (r.1 ++ [(k : Int)], sh) (.slice A9 (l + 1) c9) (.slice A6 n c6) rfl rfl rfl rfl c20 HS2.out.j.o HS2.out.p HS2.out.z (by omega) ?_; intro g20 cap20 w20 hq20 hkp20 hke20 hat20 hbe20; have HT2 := hid (HS2.out.appO (Apd.of hkp20 hke20 hat20 hbe20) hq20); have c2b := (hke20 (V.heap.size + 1) hl21 hne1).trans c21) | (refine step_appQ 54 58 rei_ne Try.underlying54 infoReach w.heap.size (V.heap.size + 1) kb0 rfl _ _ rfl vo O (r.1 ++ [(k : Int)], sh) (.slice A9 (l + 1) c9) (.slice A6 n c6) rfl rfl rfl rfl c21 HS2.out.j.o HS2.out.p HS2.out.z (by omega) ?_; intro g20 cap20 w20 hq20 hkp20 hke20 hat20 hbe20; have HT2 := hid (HS2.out.appO (Apd.of hkp20 hke20 hat20 hbe20) hq20); have c2c := (hke20 V.heap.size hl20 hne0).trans c20) | (refine step_appQ 54 58 rei_ne Try.underlying54 infoReach w.heap.size w20.heap.size kb0 rfl _ _ rfl (.slice An (O.length - O0.length) cn) (nxt O O0.length) (r.1 ++ [(k : Int)], sh) (.slice A9 (l + 1) c9) (.slice A6 n c6) rfl rfl rfl rfl c2a HT2b.out.j.n HT2b.out.p HT2b.out.z (by rw [nxt_length]; omega) ?_; intro g30 cap30 w30 hq30 hkp30 hke30 hat30 hbe30; rw [nxt_length] at hq30; rw [nxt_length]; have HT3 := hid (HT2b.out.appN (Apd.of hkp30 hke30 hat30 hbe30) hq30); have q31 := HT3.out.boxc; obtain ⟨q31, f31⟩ := q31; have HT4 := hid (HT3.out.store hbrbo h1bo)) | (refine step_appQ 54 58 rei_ne Try.underlying54 infoReach w.heap.size (V.heap.size + 1) kb0 rfl _ _ rfl (.slice An (O.length - O0.length) cn) (nxt O O0.length) (r.1 ++ [(k : Int)], sh) (.slice A9 (l + 1) c9) (.slice A6 n c6) rfl rfl rfl rfl c2b HT2.out.j.n HT2.out.p HT2.out.z (by rw [nxt_length]; omega) ?_; intro g30 cap30 w30 hq30 hkp30 hke30 hat30 hbe30; rw [nxt_length] at hq30; rw [nxt_length]; have HT3 := hid (HT2.out.appN (Apd.of hkp30 hke30 hat30 hbe30) hq30); have q31 := HT3.out.boxc; obtain ⟨q31, f31⟩ := q31; have HT4 := hid (HT3.out.store hbrbo h1bo)) | (refine step_appQ 54 58 rei_ne Try.underlying54 infoReach w.heap.size V.heap.size kb0 rfl _ _ rfl (.slice An (O.length - O0.length) cn) (nxt O O0.length) (r.1 ++ [(k : Int)], sh) (.slice A9 (l + 1) c9) (.slice A6 n c6) rfl rfl rfl rfl c2c HT2.out.j.n HT2.out.p HT2.out.z (by rw [nxt_length]; omega) ?_; intro g30 cap30 w30 hq30 hkp30 hke30 hat30 hbe30; rw [nxt_length] at hq30; rw [nxt_length]; have HT3 := hid (HT2.out.appN (Apd.of hkp30 hke30 hat30 hbe30) hq30); have q31 := HT3.out.boxc; obtain ⟨q31, f31⟩ := q31; have HT4 := hid (HT3.out.store hbrbo h1bo)))
                all_goals
                  have HNX : Hid (nxt (O ++ [(r.1 ++ [(k : Int)], sh)]) O0.length = nxt O O0.length ++ [(r.1 ++ [(k : Int)], sh)]) := hid (nxt_app hprk _)
                  have HLE : Hid ((O ++ [(r.1 ++ [(k : Int)], sh)]).length - O0.length = O.length - O0.length + 1) := hid (by simp; omega)
                  have HLO : Hid ((O ++ [(r.1 ++ [(k : Int)], sh)]).length = O.length + 1) := hid (by simp)
                  clear HSV HS1 HS2 k0 k1 k2 c10 c21 c20 hne0 hne1 HT2
                  go_wp2
                  go_roundg (al.length - (k + 1))
                  case measure => exact HMZ.out
                  case rel => exact ⟨k + 1, HK1.out, Nat.le_refl _, by go_num, _, _, _, by rw [HEK.out, HLE.out], HT4.out.z, by unfold Aside; rw [HEK.out, HNX.out]; exact HT4.out.j, HT4.out.xb, HT4.out.t1, HT4.out.t2⟩
            · obtain rfl : k = al.length := by omega
              have hnlt : ¬ (al.length : Int) < (al.length : Int) := by omega
              go_wp2_with fail
              go_roundg (m - (j + 1))
              case measure => omega
              case rel => exact ⟨j + 1, by omega, by omega, by go_num, vo, An, cn, by rw [HXS.out], ZK, by unfold Aside; rw [HXS.out]; exact RK.out⟩
        · obtain rfl : j = m := by omega
          have hnlt : ¬ (j : Int) < (j : Int) := by omega
          go_wp2_with fail
          go_roundg (most - (l + 1))
          case measure => omega
          case rel => exact ⟨l + 1, by omega, by omega, by go_num, vo, An, cn, by rw [HLS.out, HLA.out], ZJ, by unfold Aside; rw [HLS.out, HLA.out]; exact RI.turn RJJ.out⟩
    · obtain rfl : l = most := by omega
      have hnlt : ¬ (l : Int) < (l : Int) := by omega
      obtain ⟨A9, c9, F9, rfl, _⟩ := RW.out.o.seen
      have x0 : wl.cell? ⟨bo, 0, none⟩ = some (.slice A9 (lvO al n l).length c9) := by rw [cell_of_row _ _ _ _ _ _ RW.out.box]; rfl
      have HF := hid RW.out
      go_wp2_with fail
      go_ret
      exact ⟨A9, c9, rfl, HF.out.o, HF.out.bel⟩
end Go.Proofs.Ytmpdaafkphpnoaa
set_option linter.unusedVariables false
namespace Go.Proofs.Ytmpdaafkphpnoaa
open Go.RowKit

/-- What a call leaves that returns a number and a bool. -/
def RetNB (w : World) (r : Int × Bool) (en : Ending) (w' : World) : Prop := en = .returned (.tuple #[.int .i64 r.1, .bool r.2]) ∧ Below w.heap.size w w'
end Go.Proofs.Ytmpdaafkphpnoaa
set_option linter.unusedVariables false
set_option linter.unusedSimpArgs false
namespace Go.Proofs.Ytmpdaafkphpnoaa
open Go.RowKit

/-! ### CountReached -/
def m_CountReached (al : List (List Int)) (s : Int) : Int × Bool := if alwB al && inB s 0 5 then ((lvO al (rw_ al 0).length s.toNat).length, true) else (0, false)
theorem Rq_nil {O : List PQ} {L n : Nat} {T : List PQ} (h : Rq O [] L T) (hA : AllN n O) (hn : 1 ≤ n) : L = O.length := by
  obtain ⟨⟨N, e⟩, h1, h2⟩ := h
  rcases h2 with ⟨f, rfl, hf, _⟩ | ⟨rfl, rfl, _⟩
  · have hm : qel T f ∈ O := by rw [e]; exact List.mem_append_left _ (qel_mem (by omega))
    have := hA _ hm
    rw [hf] at this; simp at this; omega
  · rfl
theorem i_lengthQ (A : Option Addr) (n c : Nat) (w : World) : Calls Try.prog 31 #[.slice A n c] w fun e w' => e = .returned (.int .i64 n) ∧ w = w' := by
  go_enter Try.func31, Try.ntmps31
  go_wp2
  go_ret
  exact ⟨rfl, rfl⟩
theorem i_CountReached (w : World) (A : Option Addr) (c : Nat) (al : List (List Int)) (s : Int) (hl : rsz al ≤ 1048576) (hR : RdR w A al) :
    Calls Try.prog 10 #[.slice A al.length c, .int .i64 s] w (RetNB w (m_CountReached al s)) := by
  have hlen := rsz_len hl
  have c0 := i_areAllowed w A c al hl hR
  unfold m_CountReached
  cases h0 : alwB al with
  | false =>
    rw [h0] at c0
    have C0 := hid c0
    clear c0 h0 hR
    go_enter Try.func10, Try.ntmps10
    go_wp2_with fail
    refine C0.out.mono ?_
    rintro e w1 ⟨rfl, hb1⟩
    go_wp2_with fail
    go_ret2
    exact ⟨rfl, hb1⟩
  | true =>
    rw [h0] at c0
    have C0 := hid c0
    have c1 := fun W => i_within s 0 5 W
    cases h1 : inB s 0 5 with
    | false =>
      rw [h1] at c1
      have C1 := hid c1
      clear c0 h0 hR c1 h1
      go_enter Try.func10, Try.ntmps10
      go_wp2_with fail
      refine C0.out.mono ?_
      rintro e w1 ⟨rfl, hb1⟩
      go_wp2_with (go_at_call 26; refine (C1.out _).mono ?_; rintro e w' ⟨rfl, rfl⟩)
      go_ret2
      exact ⟨rfl, hb1⟩
    | true =>
      rw [h1] at c1
      have C1 := hid c1
      have hs := inB_iff.1 h1
      obtain ⟨q1, q2, q3, q4, q5⟩ := alw_hal h0
      obtain ⟨m, rfl⟩ : ∃ m : Nat, s = (m : Int) := ⟨s.toNat, by omega⟩
      have C2 := hid (fun W (hW : Below w.heap.size w W) => i_reached W A c al (rw_ al 0).length m q2 q3 q5 (by omega) q1 (hR.below hW))
      have HM : Hid ((m : Int).toNat = m) := hid (by omega)
      rw [HM.out]
      have hlo : (lvO al (rw_ al 0).length m).length ≤ 1365 := lv_len q3 m (by omega)
      clear c0 h0 hR c1 h1 q1 HM
      generalize hO : lvO al (rw_ al 0).length m = O at *
      clear hO
      go_enter Try.func10, Try.ntmps10
      go_wp2_with fail
      refine C0.out.mono ?_
      rintro e w1 ⟨rfl, hb1⟩
      go_wp2_with (first | (go_at_call 26; refine (C1.out _).mono ?_; rintro e w' ⟨rfl, rfl⟩) | (go_at_call 27; refine (C2.out _ hb1).mono ?_; rintro e w2 ⟨A2, c2, rfl, _, hb2⟩) | (go_at_call 31; refine (i_lengthQ _ _ _ _).mono ?_; rintro e w' ⟨rfl, rfl⟩))
      go_ret2
      exact ⟨rfl, bthen hb1 hb2⟩

end Go.Proofs.Ytmpdaafkphpnoaa
set_option linter.unusedVariables false
set_option linter.unusedSimpArgs false
namespace Go.Proofs.Ytmpdaafkphpnoaa
open Go.RowKit

set_option maxRecDepth 100000 in
theorem i_SSno (w : World) (A G : Option Addr) (c cg : Nat) (al : List (List Int)) (goal : List Int) (s : Int) (hl : rsz al ≤ 1048576) (hgl : goal.length ≤ 1048576) (hR : RdR w A al) (hG : RdI w G goal) (hno : shG al goal s = false) :
    Calls Try.prog 9 #[.slice A al.length c, .slice G goal.length cg, .int .i64 s] w fun e w' => e = .returned (.tuple #[.slice none 0 0, .bool false]) ∧ Below w.heap.size w w' := by
  have hlen := rsz_len hl
  have hba := ballocw w (.cells #[.slice G goal.length cg] 27)
  have kg : (w.alloc (.cells #[.slice G goal.length cg] 27)).cell? ⟨w.heap.size, 0, none⟩ = some (.slice G goal.length cg) := by simp
  have k1 : ∀ x : Lat (w.alloc (.cells #[.slice G goal.length cg] 27)), _ := fun x => lcell kg x
  have C0 := hid (fun W (hW : Below (w.alloc (.cells #[.slice G goal.length cg] 27)).heap.size (w.alloc (.cells #[.slice G goal.length cg] 27)) W) => i_areAllowed W A c al hl (hR.below (bthen hba hW)))
  have C1 := hid (fun W (hW : Below (w.alloc (.cells #[.slice G goal.length cg] 27)).heap.size (w.alloc (.cells #[.slice G goal.length cg] 27)) W) => i_IsShuffle W G cg goal (by omega) (hG.below (bthen hba hW)))
  have HBA := hid hba
  cases h0 : alwB al with
  | false =>
    rw [h0] at C0
    clear h0 hR hG hno hba C1
    go_enter Try.func9, Try.ntmps9
    go_wp2
    refine wp_region_calm (by kernel_rfl) (by kernel_rfl) ?_
    repeat (go_big_quiet_step (exact calm_of (C0.out _ (Lat.below _))))
    refine wpQuiet_nil ?_
    intro _ hw'
    obtain ⟨xq, hw''⟩ := hw'
    subst hw''
    go_wp2
    go_ret2
    exact ⟨rfl, bthen HBA.out xq.below⟩
  | true =>
    rw [h0] at C0
    cases h1 : shufB goal with
    | false =>
      rw [h1] at C1
      clear h0 hR hG hno h1 hba
      go_enter Try.func9, Try.ntmps9
      go_wp2
      refine wp_region_calm (by kernel_rfl) (by kernel_rfl) ?_
      repeat (go_big_quiet_step (first | exact calm_of (C0.out _ (Lat.below _)) | exact calm_of (C1.out _ (Lat.below _))))
      refine wpQuiet_nil ?_
      intro _ hw'
      obtain ⟨xq, hw''⟩ := hw'
      subst hw''
      go_wp2
      go_ret2
      exact ⟨rfl, bthen HBA.out xq.below⟩
    | true =>
      rw [h1] at C1
      have hq := alwB_len h0
      obtain ⟨b0, o0, A0, c0', rfl, hc0, hcc0, _⟩ := hR.get (k := 0) (by omega)
      rw [Nat.add_zero] at hc0
      have k2 : ∀ x : Lat (w.alloc (.cells #[.slice G goal.length cg] 27)), _ := fun x => lcell (bcell hba hc0) x
      have hal0 : (0 : Int) < (al.length : Int) := by omega
      by_cases h2 : goal.length = (rw_ al 0).length
      · have hne : ((goal.length : Int) != ((rw_ al 0).length : Int)) = false := by simp [h2]
        have h3 : inB s 0 5 = false := by simpa [shG, h0, h1, h2] using hno
        have c2 := fun W => i_within s 0 5 W
        simp only [h3] at c2
        have C2 := hid c2
        clear c2 h0 hR hG hno h1 h2 h3 hc0 hba
        generalize (rw_ al 0).length = n0 at *
        go_enter Try.func9, Try.ntmps9
        go_wp2
        refine wp_region_calm (by kernel_rfl) (by kernel_rfl) ?_
        repeat (go_big_quiet_step (first | exact calm_of (C0.out _ (Lat.below _)) | exact calm_of (C1.out _ (Lat.below _)) | exact calm_same (C2.out _)))
        refine wpQuiet_nil ?_
        intro _ hw'
        obtain ⟨xq, hw''⟩ := hw'
        subst hw''
        go_wp2
        go_ret2
        exact ⟨rfl, bthen HBA.out xq.below⟩
      · have hne : ((goal.length : Int) != ((rw_ al 0).length : Int)) = true := by simp; omega
        clear h0 hR hG hno h1 h2 hc0 hba
        generalize (rw_ al 0).length = n0 at *
        go_enter Try.func9, Try.ntmps9
        go_wp2
        refine wp_region_calm (by kernel_rfl) (by kernel_rfl) ?_
        repeat (go_big_quiet_step (first | exact calm_of (C0.out _ (Lat.below _)) | exact calm_of (C1.out _ (Lat.below _))))
        refine wpQuiet_nil ?_
        intro _ hw'
        obtain ⟨xq, hw''⟩ := hw'
        subst hw''
        go_wp2
        go_ret2
        exact ⟨rfl, bthen HBA.out xq.below⟩
set_option maxRecDepth 100000 in
theorem i_ShortestSteps (w : World) (A : Option Addr) (c : Nat) (al : List (List Int)) (G : Option Addr) (cg : Nat) (goal : List Int) (s : Int) (hl : rsz al ≤ 1048576) (hR : RdR w A al) (hgl : goal.length ≤ 1048576) (hG : RdI w G goal) :
    Calls Try.prog 9 #[.slice A al.length c, .slice G goal.length cg, .int .i64 s] w (RetIB w (m_ShortestSteps al goal s)) := by
  unfold m_ShortestSteps
  cases hno : shG al goal s with
  | false =>
    refine (i_SSno w A G c cg al goal s hl hgl hR hG hno).mono ?_
    rintro e w' ⟨rfl, hb⟩
    exact ⟨_, rfl, Own.nil _ _ _ _ _, hb⟩
  | true =>
    have hlen := rsz_len hl
    have h0 : alwB al = true := by unfold shG at hno; simp only [Bool.and_eq_true] at hno; exact hno.1
    have h1 : shufB goal = true := by unfold shG at hno; simp only [Bool.and_eq_true] at hno; exact hno.2.1
    have h2 : goal.length = (rw_ al 0).length := by unfold shG at hno; simp only [Bool.and_eq_true, decide_eq_true_eq] at hno; exact hno.2.2.1
    have h3 : inB s 0 5 = true := by unfold shG at hno; simp only [Bool.and_eq_true] at hno; exact hno.2.2.2
    have hs := inB_iff.1 h3
    obtain ⟨q1, q2, q3, q4, q5⟩ := alw_hal h0
    obtain ⟨m, rfl⟩ : ∃ m : Nat, s = (m : Int) := ⟨s.toNat, by omega⟩
    have hba := ballocw w (.cells #[.slice G goal.length cg] 27)
    have kg : (w.alloc (.cells #[.slice G goal.length cg] 27)).cell? ⟨w.heap.size, 0, none⟩ = some (.slice G goal.length cg) := by simp
    have k1 : ∀ x : Lat (w.alloc (.cells #[.slice G goal.length cg] 27)), _ := fun x => lcell kg x
    have C0 := hid (fun W (hW : Below (w.alloc (.cells #[.slice G goal.length cg] 27)).heap.size (w.alloc (.cells #[.slice G goal.length cg] 27)) W) => i_areAllowed W A c al hl (hR.below (bthen hba hW)))
    have C1 := hid (fun W (hW : Below (w.alloc (.cells #[.slice G goal.length cg] 27)).heap.size (w.alloc (.cells #[.slice G goal.length cg] 27)) W) => i_IsShuffle W G cg goal (by omega) (hG.below (bthen hba hW)))
    rw [h0] at C0
    rw [h1] at C1
    have c2 := fun W => i_within (m : Int) 0 5 W
    simp only [h3] at c2
    have C2 := hid c2
    have C3 := hid (fun W (hW : Below w.heap.size w W) => i_reached W A c al (rw_ al 0).length m q2 q3 q5 (by omega) q1 (hR.below hW))
    have HG := hid hG
    have HM : Hid ((m : Int).toNat = m) := hid (by omega)
    rw [HM.out]
    have HAN := hid (AllN.lv (n := (rw_ al 0).length) (fun k hk => (q1 k hk).1) m)
    have hO5 : (lvO al (rw_ al 0).length m).length ≤ 1365 := lv_len q3 m (by omega)
    obtain ⟨b0, o0, A0, c0', rfl, hc0, hcc0, _⟩ := hR.get (k := 0) (by omega)
    rw [Nat.add_zero] at hc0
    have k2 : ∀ x : Lat (w.alloc (.cells #[.slice G goal.length cg] 27)), _ := fun x => lcell (bcell hba hc0) x
    have hal0 : (0 : Int) < (al.length : Int) := by omega
    have hne : ((goal.length : Int) != ((rw_ al 0).length : Int)) = false := by simp [h2]
    have HBA := hid hba
    have HKG := hid kg
    have HR5 := hid (ixG_range (lvO al (rw_ al 0).length m) goal)
    clear c2 h0 hR hG hno h1 h2 h3 hc0 q1 HM hba
    generalize hO : lvO al (rw_ al 0).length m = O at *
    clear hO
    generalize (rw_ al 0).length = n0 at *
    rw [if_pos rfl]
    generalize hMM : (if ixG O goal < 0 then (([] : List Int), false) else ((qel O (ixG O goal).toNat).1, true)) = MM
    have HMM := hid hMM
    clear hMM
    go_enter Try.func9, Try.ntmps9
    go_wp2
    refine wp_region_calm (by kernel_rfl) (by kernel_rfl) ?_
    repeat (go_big_quiet_step (first | exact calm_of (C0.out _ (Lat.below _)) | exact calm_of (C1.out _ (Lat.below _)) | exact calm_same (C2.out _)))
    refine wpQuiet_nil ?_
    intro _ hw'
    obtain ⟨xq, hw''⟩ := hw'
    subst hw''
    have HB1 := hid (bthen HBA.out xq.below)
    have kq := bcell xq.below HKG.out
    have HKQ := hid kq
    clear k1 k2 C0 C1 C2 HKG
    go_wp2_with fail
    refine (C3.out _ HB1.out).mono ?_
    rintro e w3 ⟨A3, c3, rfl, hq3, hb3⟩
    have hk3 := bcell hb3 HKQ.out
    have HB3 := hid (bthen HB1.out hb3)
    have HQ3 := hid hq3
    have CI : Hid (Calls Try.prog 28 #[.slice A3 O.length c3, .func (.func 29) #[] #[.pointer (some ⟨w.heap.size, 0, none⟩)]] w3 fun e w' => e = .returned (.int .i64 (ixG O goal)) ∧ Below w3.heap.size w3 w') := hid (by
      obtain ⟨A', c', F, e', hr, hf⟩ := hq3.seen
      cases e'
      exact indexFuncQ w3 A3 c3 O 29 #[.pointer (some ⟨w.heap.size, 0, none⟩)] (fun k => decide ((qel O k).2 = goal)) (by omega) F hr (enters_of Try.func29 (by kernel_rfl) rfl) (fun V hV k hk => by
        obtain ⟨A1, n1, c1, A2, c2, e, h2⟩ := hf k hk
        have hdl : (qel O k).2.length = n0 := HAN.out _ (qel_mem hk)
        dsimp only
        rw [e]
        exact i_eqS1 V w.heap.size A1 A2 G n1 c1 c2 cg (qel O k).2 goal (by omega) hgl (bcell hV hk3) (h2.below hV) ((HG.out.below HB3.out).below hV)))
    clear C3 hq3 hb3 kq
    go_wp2_with fail
    refine CI.out.mono ?_
    rintro e w4 ⟨rfl, hb4⟩
    have HB4 := hid (bthen HB3.out hb4)
    obtain ⟨A', c', e', hget⟩ := (HQ3.out.below hb4).getO
    cases e'
    have hz3 := HB1.out.size
    rcases HR5.out with hi0 | ⟨hi0, hi1⟩
    · have HEE : Hid (MM = ([], false)) := hid (by rw [← HMM.out, if_pos hi0])
      clear CI hb4 hget
      generalize ixG O goal = ix at *
      go_wp2_with fail
      go_ret2
      rw [HEE.out]
      exact ⟨_, rfl, Own.nil _ _ _ _ _, HB4.out⟩
    · obtain ⟨i, hi⟩ : ∃ i : Nat, ixG O goal = (i : Int) := ⟨(ixG O goal).toNat, by omega⟩
      have HEE : Hid (MM = ((qel O i).1, true)) := hid (by rw [← HMM.out, if_neg (by omega), hi]; rfl)
      have hiO : i < O.length := by omega
      obtain ⟨bt, A5, c5, A6, c6, rfl, x1, x2, t2, ow⟩ := hget i hiO
      have HOW := hid ow
      have hiz : (i : Int) < (O.length : Int) := by omega
      rw [hi]
      clear CI hb4 hget ow t2 HMM hi hi0 hi1 HR5
      go_wp2_with fail
      go_ret2
      rw [HEE.out]
      exact ⟨_, rfl, Own.wide HOW.out hz3 (Nat.le_refl _), HB4.out⟩
end Go.Proofs.Ytmpdaafkphpnoaa
set_option linter.unusedVariables false
set_option linter.unusedSimpArgs false
namespace Go.Proofs.Ytmpdaafkphpnoaa
open Go.RowKit

theorem AlwP.alwB {n : Nat} {al : List (List Int)} (h : AlwP n al) (h1 : 1 ≤ al.length) (h3 : al.length ≤ 3) : alwB al = true ∧ (rw_ al 0).length = n := by
  have hn := (h 0 (by omega)).1
  refine ⟨?_, hn⟩
  unfold Go.Proofs.Ytmpdaafkphpnoaa.alwB
  rw [inB_iff.2 ⟨by omega, by omega⟩, Bool.true_and, List.all_eq_true]
  intro s hs
  obtain ⟨k, hk, e⟩ := List.getElem_of_mem hs
  have e2 : rw_ al k = s := by unfold rw_; rw [List.getD_eq_getElem?_getD, List.getElem?_eq_getElem hk]; simpa using e
  have := h k hk
  rw [e2] at this
  rw [this.2, this.1, hn]; simp
theorem rtot_le {al : List (List Int)} {n : Nat} (h : ∀ k, k < al.length → (rw_ al k).length = n) : ∀ k, k ≤ al.length → rtot al k ≤ n * k := by
  intro k
  induction k with
  | zero => intro _; simp [rtot]
  | succ k ih =>
    intro hk
    have := ih (by omega)
    have := h k (by omega)
    simp only [rtot]
    rw [Nat.mul_succ]; omega
theorem AlwP.rsz {n : Nat} {al : List (List Int)} (h : AlwP n al) (h3 : al.length ≤ 3) (hn : n ≤ 16) : rsz al ≤ 64 := by
  have h1 := rtot_le (fun k hk => (h k hk).1) al.length (Nat.le_refl _)
  have : n * al.length ≤ 16 * 3 := Nat.mul_le_mul hn h3
  unfold Go.Proofs.Ytmpdaafkphpnoaa.rsz; omega
theorem snocI {P : List Int → Prop} (nil : P []) (snoc : ∀ ks k, P ks → P (ks ++ [k])) (ks : List Int) : P ks := by
  have h : ∀ rs : List Int, P rs.reverse := fun rs => by
    induction rs with
    | nil => exact nil
    | cons k rs ih => rw [List.reverse_cons]; exact snoc _ _ ih
  have := h ks.reverse
  rwa [List.reverse_reverse] at this
/-- Where steps lead: a shuffle of n lanes. -/
theorem run_shuf {n : Nat} {al : List (List Int)} (h : AlwP n al) (hn : lanesB n = true) : ∀ ks : List Int, (∀ k ∈ ks, 0 ≤ k ∧ k < al.length) → shufB (runI al (idl n) ks) = true ∧ (runI al (idl n) ks).length = n := by
  intro ks
  induction ks using snocI with
  | nil => intro _; exact ⟨(idl_ord n).shuf hn, idl_length n⟩
  | snoc ks k ih =>
    intro hk
    have hi := ih fun x hx => hk x (List.mem_append_left _ hx)
    have hkk := hk k (by simp)
    have ha := h k.toNat (by omega)
    rw [runI_snoc]
    exact ⟨pick_shuf hi.1 ha.2 (by rw [ha.1, hi.2]), by rw [pick_length, ha.1]⟩
theorem run_step {n : Nat} {al : List (List Int)} (h : AlwP n al) (hn : lanesB n = true) {ks : List Int} (hk : ∀ k ∈ ks, 0 ≤ k ∧ k < al.length) {k : Int} (h0 : 0 ≤ k) (h1 : k < al.length) :
    m_ThenShuffle (runI al (idl n) ks) (rw_ al k.toNat) = (runI al (idl n) (ks ++ [k]), true) := by
  have hi := run_shuf h hn ks hk
  have ha := h k.toNat (by omega)
  unfold m_ThenShuffle
  rw [hi.1, ha.2, hi.2, ha.1, runI_snoc]; simp
/-- All that the law asks of the search. -/
theorem few_law {n : Nat} {al : List (List Int)} (h : AlwP n al) (hn : lanesB n = true) (h1 : 1 ≤ al.length) (h3 : al.length ≤ 3) (ks : List Int) (hk : ∀ k ∈ ks, 0 ≤ k ∧ k < al.length) (hd : ks.length ≤ 5) :
    ∃ st fw mn, m_ShortestSteps al (runI al (idl n) ks) 5 = (st, true) ∧ st.length ≤ ks.length ∧ runI al (idl n) st = runI al (idl n) ks ∧ (∀ k ∈ st, 0 ≤ k ∧ k < al.length)
      ∧ m_CountReached al ks.length = (fw, true) ∧ m_CountReached al 5 = (mn, true) ∧ 1 ≤ fw ∧ fw ≤ mn ∧ (m_ShortestSteps al (runI al (idl n) ks) ((st.length : Int) - 1)).2 = false := by
  obtain ⟨ha, hr⟩ := h.alwB h1 h3
  have hs := run_shuf h hn ks hk
  obtain ⟨g, g1, g2, g3, g4, g5, g6⟩ := fewest al n 5 ks (fun k hk' => by have := hk k hk'; omega) hd
  have hsh : ∀ s, inB s 0 5 = true → shG al (runI al (idl n) ks) s = true := fun s hs' => by unfold shG; rw [ha, hs.1, hs.2, hr, hs']; simp
  have e0 : m_ShortestSteps al (runI al (idl n) ks) 5 = ((qel (lvO al n 5) g).1, true) := by
    unfold m_ShortestSteps
    rw [hsh 5 rfl, hr, if_pos rfl]
    rw [show (5 : Int).toNat = 5 from rfl, g2, if_neg (by omega)]
    rfl
  have hcr : ∀ m : Nat, m ≤ 5 → m_CountReached al m = (((lvO al n m).length : Int), true) := fun m hm => by
    unfold m_CountReached
    rw [ha, inB_iff.2 ⟨by omega, by omega⟩, hr]; rfl
  obtain ⟨N, eN⟩ := lvO_mono al n ks.length (5 - ks.length)
  obtain ⟨M, eM⟩ := lvO_mono al n 0 ks.length
  rw [show ks.length + (5 - ks.length) = 5 by omega] at eN
  rw [Nat.zero_add] at eM
  refine ⟨_, _, _, e0, g3, g4, g5, hcr _ hd, hcr 5 (Nat.le_refl _), ?_, ?_, ?_⟩
  · rw [eM, List.length_append]; simp [lvO]; omega
  · rw [eN, List.length_append]; omega
  · unfold m_ShortestSteps
    by_cases q : (qel (lvO al n 5) g).1.length = 0
    · rw [q]
      have : shG al (runI al (idl n) ks) (((0 : Nat) : Int) - 1) = false := by
        unfold shG; rw [show inB (((0 : Nat) : Int) - 1) 0 5 = false from rfl]; simp
      rw [this]; rfl
    · have hg6 := g6 ((qel (lvO al n 5) g).1.length - 1) (by omega)
      split
      · rw [hr, show ((((qel (lvO al n 5) g).1.length : Nat) : Int) - 1).toNat = (qel (lvO al n 5) g).1.length - 1 by omega, if_pos hg6]
      · rfl
end Go.Proofs.Ytmpdaafkphpnoaa
set_option linter.unusedVariables false
set_option linter.unusedSimpArgs false
namespace Go.Proofs.Ytmpdaafkphpnoaa
open Go.RowKit

set_option maxRecDepth 100000 in
theorem l_r8At (w : World) (A : Option Addr) (c : Nat) (bs : List Int) (k n : Int) (hl : bs.length ≤ 1048576) (hk0 : 0 ≤ k) (hk : k ≤ 1048576) (hn : 0 ≤ n) (hn2 : n ≤ 1048576) (hR : RdU w A bs) :
    Calls Try.prog 6 #[.slice A bs.length c, .int .i64 k, .int .i64 n] w fun e w' => ∃ z, e = .returned (.int .i64 z) ∧ (0 ≤ z ∧ (1 ≤ n → z < n)) ∧ w = w' := by
  by_cases h1 : n ≤ 1
  · clear hR
    go_enter Try.func6, Try.ntmps6
    go_wp2
    go_ret
    exact ⟨0, rfl, ⟨by omega, by omega⟩, rfl⟩
  · by_cases h2 : k < (bs.length : Int)
    · obtain ⟨j, rfl⟩ : ∃ j : Nat, k = j := ⟨k.toNat, by omega⟩
      obtain ⟨b, off, rfl, hc⟩ := hR.get (k := j) (by omega)
      have hb := hR.2 j (by omega)
      obtain ⟨hb0, hb1⟩ := hb
      clear hR
      generalize el bs j = x at *
      have ht := tmod_range (x := x) (n := n) hb0 (by omega)
      have HT := hid ht
      have hle : ¬ ((bs.length : Int) ≤ (j : Int)) := by omega
      clear ht
      go_enter Try.func6, Try.ntmps6
      go_wp2
      go_ret
      exact ⟨_, rfl, ⟨Int.emod_nonneg _ (by omega), fun _ => Int.emod_lt_of_pos _ (by omega)⟩, rfl⟩
    · clear hR
      have hle : (bs.length : Int) ≤ k := by omega
      go_enter Try.func6, Try.ntmps6
      go_wp2
      go_ret
      exact ⟨0, rfl, ⟨by omega, by omega⟩, rfl⟩
def cntX (xs : List Int) (x : Int) : Nat → Nat
  | 0 => 0
  | k + 1 => cntX xs x k + (if el xs k = x then 1 else 0)
theorem cntX_le (xs : List Int) (x : Int) (k : Nat) : cntX xs x k ≤ k := by
  induction k with
  | zero => simp [cntX]
  | succ k ih => simp only [cntX]; split <;> omega
theorem cntX_pos (xs : List Int) (x : Int) {k : Nat} (hk : k ≤ xs.length) : 0 < cntX xs x k ↔ x ∈ xs.take k := by
  induction k with
  | zero => simp [cntX]
  | succ k ih =>
    simp only [cntX]
    rw [el_take (by omega), List.mem_append, ← ih (by omega)]
    by_cases h : el xs k = x
    · rw [if_pos h]; simp [h]
    · rw [if_neg h]; simp; omega
end Go.Proofs.Ytmpdaafkphpnoaa
set_option linter.unusedVariables false
set_option linter.unusedSimpArgs false
namespace Go.Proofs.Ytmpdaafkphpnoaa
open Go.RowKit

/-- append([]int64{}, row...). -/
theorem wp_appendE {ops : Array Oper} {rest : List Oper} {o : Oper} {a : Act} {Q : Exit → Act → World → Prop} {W : World} (lo : Nat) (hgd : o.guard = none) (s x : Operand)
    (ho : o.op = .call { callee := .builtin .append, args := #[s, x], argTypes := #[27, 27] })
    (v : Value) (A : Option Addr) (c q : Nat) (ys : List Int) (hq : ys.length = q) (hs : a.eval s = v) (hx : a.eval x = .slice A q c)
    (HO : Own W lo W.heap.size 2 1 v 0 []) (hR : RdI W A ys) (hlo : lo ≤ W.heap.size) (hl : q ≤ 1048576)
    (h : ∀ A1 c1 w1, OI w1 lo w1.heap.size (.slice A1 q c1) ys → Below lo W w1 → wpList Try.prog ops Q rest (a.put o.dst (.slice A1 q c1)) w1) :
    wpList Try.prog ops Q (o :: rest) a W := by
  subst hq
  refine wp_appendS lo hgd s x 27 2 (.int .i64 0) 8 ho Try.underlying27 infoInt rfl v 0 [] A c ys hs hx HO hR hlo (by omega) (by omega) ?_
  intro v1 w1 hown hb
  have ho : OwnI w1 lo w1.heap.size 2 v1 ys := by
    unfold OwnI
    simpa using hown
  obtain ⟨A1, c1, rfl, _, _, _⟩ := Own.int ho
  exact h A1 c1 w1 ho hb
end Go.Proofs.Ytmpdaafkphpnoaa
set_option linter.unusedVariables false
set_option linter.unusedSimpArgs false
namespace Go.Proofs.Ytmpdaafkphpnoaa
open Go.RowKit

/-- Steps: their numbers. -/
def StP (al : List (List Int)) (ks : List Int) : Prop := ∀ k ∈ ks, 0 ≤ k ∧ k < al.length
theorem StP.snoc {al : List (List Int)} {ks : List Int} (h : StP al ks) {k : Int} (h0 : 0 ≤ k) (h1 : k < al.length) : StP al (ks ++ [k]) := by
  intro x hx
  rcases List.mem_append.1 hx with h2 | h2
  · exact h x h2
  · obtain rfl := List.mem_singleton.1 h2; exact ⟨h0, h1⟩
theorem StP.take {al : List (List Int)} {ks : List Int} (h : StP al ks) (k : Nat) : StP al (ks.take k) := fun x hx => h x (List.mem_of_mem_take hx)
theorem OI.rdn' {w : World} {lo hi n c : Nat} {A : Option Addr} {xs : List Int} (h : OI w lo hi (.slice A n c) xs) (hl : xs.length = n) : RdI w A xs := by
  subst hl; exact OI.rd h
theorem take_el {ks : List Int} {k : Nat} (hk : k < ks.length) : ks.take (k + 1) = ks.take k ++ [el ks k] := by
  rw [List.take_add_one, el_get hk]; rfl
set_option maxRecDepth 100000 in
set_option maxHeartbeats 20000000 in
theorem law_FewestSteps (w : World) (A0 : Option Addr) (c0 : Nat) (xs0 : List Int) (A1 : Option Addr) (c1 : Nat) (xs1 : List Int) (hl0 : xs0.length ≤ 9223372036854775807) (hR0 : RdU w A0 xs0) (hl1 : xs1.length ≤ 9223372036854775807) (hR1 : RdU w A1 xs1) :
    Calls Try.prog 3 #[.slice A0 xs0.length c0, .slice A1 xs1.length c1] w fun e w' => e = .returned (.bool true) ∧ Below w.heap.size w w' := by
  have CL := hid (l_r8Long w A0 A1 xs0.length c0 xs1.length c1 hl0 hl1)
  cases hlong : (decide (48 < xs0.length) || decide (48 < xs1.length)) with
  | true =>
    rw [hlong] at CL
    clear hlong hR0 hR1
    go_enter Try.func3, Try.ntmps3
    go_wp2_with fail
    refine CL.out.mono ?_
    rintro e w1 ⟨rfl, rfl⟩
    go_wp2_with fail
    go_ret
    exact ⟨rfl, Below.refl _ _⟩
  | false =>
    rw [hlong] at CL
    have hs0 : xs0.length ≤ 48 := by simp at hlong; omega
    have hs1 : xs1.length ≤ 48 := by simp at hlong; omega
    have HU0 := hid hR0
    have HU1 := hid hR1
    clear hlong hR0 hR1 hl0 hl1
    go_enter Try.func3, Try.ntmps3
    go_wp2_with fail
    refine CL.out.mono ?_
    rintro e w0 ⟨rfl, rfl⟩
    clear CL
    have CC := hid (l_r8At w A0 c0 xs0 40 2 (by omega) (by omega) (by omega) (by omega) (by omega) HU0.out)
    go_wp2_with fail
    refine CC.out.mono ?_
    rintro e w0 ⟨z, rfl, ⟨hz0, hz1⟩, rfl⟩
    clear CC
    replace hz1 := hz1 (by omega)
    obtain ⟨n, hn⟩ : ∃ n : Nat, 2 + 2 * z = (n : Int) := ⟨(2 + 2 * z).toNat, by omega⟩
    have hn24 : n = 2 ∨ n = 4 := by omega
    have HN := hid hn24
    have HL : Hid (lanesB n = true) := hid (by rcases hn24 with rfl | rfl <;> rfl)
    have hn4 : n ≤ 4 := by omega
    clear hn24
    have CC := hid (s_R8Allowed w A0 c0 xs0 n (by have := HN.out; omega) (by omega) HU0.out)
    go_wp2_with fail
    clear hn hz0 hz1
    refine CC.out.mono ?_
    rintro e w1 ⟨v, al, rfl, ⟨ha1, ha3, halw⟩, ho, hb⟩
    clear CC
    have BW := hid hb
    obtain ⟨Aa, ca, rfl, hca, _, ra⟩ := OR.shp ho
    have HALW := hid halw
    have RA := hid ra
    have HSZ := hid (halw.rsz ha3 (by omega))
    clear ra ho halw hb
    have CC := hid (l_r8At w1 A1 c1 xs1 0 6 (by omega) (by omega) (by omega) (by omega) (by omega) (HU1.out.below BW.out))
    go_wp2_with fail
    refine CC.out.mono ?_
    rintro e w0 ⟨d, rfl, ⟨hd0, hd1⟩, rfl⟩
    clear CC
    replace hd1 := hd1 (by omega)
    obtain ⟨d, rfl⟩ : ∃ j : Nat, d = j := ⟨d.toNat, by omega⟩
    have hd5 : d ≤ 5 := by omega
    clear hd0 hd1
    have hown := Own.of (World.ownsRow_lit (base := w1.heap.size) (e := 2) (size := 1) w1 #[] 0 (Nat.le_refl _) (by simp [maxLen]) rfl)
    have HO := hid hown
    clear hown
    have hzw : w.heap.size ≤ w1.heap.size := BW.out.size
    go_wp2_with fail
    go_loopg [8, 9] n (fun gg v s wr => ∃ k : Nat, k ≤ n ∧ n - k ≤ gg ∧ s = .int .i64 k ∧ Aside (Below w1.heap.size w1 wr) ∧ Aside (Own wr w1.heap.size wr.heap.size 2 1 v k (ints (idl k))))
    case atStart => exact ⟨0, Nat.zero_le _, by omega, rfl, ballocw w1 _, by simpa [Aside, idl, ints] using HO.out⟩
    case round =>
      obtain ⟨k, hk, hg, rfl, BW1, OW⟩ := hrel
      clear HO
      by_cases hlt : k < n
      · have hsz := BW1.out.size
        go_wp2_with (at_builtin; refine wp_append1 w1.heap.size rfl _ _ 27 2 (.int .i64 0) 8 rfl Try.underlying27 infoInt rfl u8 k _ (.int .i64 (k : Nat)) rfl rfl rfl OW.out hsz (by omega) (by omega) ?_; intro v1 w2 hown1 hbel1)
        go_roundg (n - (k + 1))
        case measure => omega
        case rel =>
          refine ⟨k + 1, by omega, by omega, by go_num, ?_, ?_⟩
          · show Below _ _ _; exact BW1.out.trans hbel1
          · show Own _ _ _ _ _ _ _ _; rw [idl_snoc, ints_append]; exact hown1
      · obtain rfl : n = k := by omega
        have hkk : ¬ (n : Int) < (n : Int) := by omega
        have OI1 : Hid (OI wr w1.heap.size wr.heap.size u8 (idl n)) := hid (by show OwnI _ _ _ _ _ _; unfold OwnI; rw [idl_length]; exact OW.out)
        obtain ⟨Ag, cg, e8, hcg, _, rg⟩ := OI.shp OI1.out
        rw [idl_length] at e8 hcg
        subst e8
        have hzw2' := BW1.out.size
        replace BW := hid (bthen BW.out BW1.out)
        replace RA := hid (RA.out.below BW1.out)
        have RG := hid rg
        clear OI1 OW rg BW1
        obtain ⟨w2, rfl⟩ : ∃ w2 : World, w2 = wr := ⟨_, rfl⟩
        have hzw2 : w1.heap.size ≤ w2.heap.size := hzw2'
        have hown := Own.of (World.ownsRow_lit (base := w2.heap.size) (e := 2) (size := 1) w2 #[] 0 (Nat.le_refl _) (by simp [maxLen]) rfl)
        have HO := hid hown
        have HBA := hid (ballocw w2 (.cells #[] 2))
        have RG' := hid (RG.out.below HBA.out)
        have HIL : Hid ((idl n).length = n) := hid (idl_length n)
        clear hown
        go_wp2_with (at_builtin; refine wp_appendE w2.heap.size rfl _ _ rfl (.slice (some ⟨w2.heap.size, 0, none⟩) 0 0) Ag cg n (idl n) HIL.out rfl rfl HO.out RG'.out HBA.out.size (by omega) ?_; intro An cn w3 hn3 hb3)
        have RN := hid (OI.rdn' hn3 HIL.out)
        have hb3' := HBA.out.trans hb3
        replace BW := hid (bthen BW.out hb3')
        replace RA := hid (RA.out.below hb3')
        replace RG := hid (RG.out.below hb3')
        clear hn3 hb3 hb3' RG' HBA HO
        go_loopg [8, 11] d (fun gg v s wr => ∃ j : Nat, j ≤ d ∧ d - j ≤ gg ∧ s = .int .i64 j ∧ ∃ G cG, v = .slice G n cG ∧ Aside (Below w3.heap.size w3 wr) ∧ Aside (∃ ks, ks.length = j ∧ StP al ks ∧ RdI wr G (runI al (idl n) ks)))
        case atStart => exact ⟨0, Nat.zero_le _, by omega, rfl, Ag, cg, rfl, (Below.refl _ _ : Below w3.heap.size w3 w3), (⟨[], rfl, fun x hx => absurd hx (by simp), RG.out⟩ : ∃ ks, _)⟩
        case round =>
          obtain ⟨j, hj, hg2, rfl, G, cG, rfl, BW1, KS⟩ := hrel
          obtain ⟨w4, rfl⟩ : ∃ w4 : World, w4 = wr := ⟨_, rfl⟩
          obtain ⟨ks, hkl, hst, rgk⟩ := KS.out
          have RGK := hid rgk
          have HST := hid hst
          have HKL := hid hkl
          clear KS rgk hst hkl RG
          by_cases hjd : j < d
          · have hjd' : (j : Int) < (d : Int) := by omega
            have CC := hid (l_r8At w4 A1 c1 xs1 ((j : Int) + 1) al.length (by omega) (by omega) (by omega) (by omega) (by omega) (HU1.out.below (bthen BW.out BW1.out)))
            go_wp2_with fail
            refine CC.out.mono ?_
            rintro e w0 ⟨z, rfl, ⟨hz0, hz1⟩, rfl⟩
            clear CC
            replace hz1 := hz1 (by omega)
            obtain ⟨z, rfl⟩ : ∃ m : Nat, z = m := ⟨z.toNat, by omega⟩
            have hzl : z < al.length := by omega
            obtain ⟨ba, oa, A', c', rfl, kc, hcc, rrow⟩ := (RA.out.below BW1.out).get hzl
            have RR := hid rrow
            have hrs := run_shuf HALW.out HL.out ks HST.out
            have hrow := (HALW.out z hzl).1
            have CC := i_ThenShuffle w4 G cG (runI al (idl n) ks) A' c' (rw_ al z) (by omega) RGK.out (by omega) RR.out
            rw [show m_ThenShuffle (runI al (idl n) ks) (rw_ al z) = (runI al (idl n) (ks ++ [(z : Int)]), true) from run_step HALW.out HL.out HST.out hz0 hz1, hrs.2, hrow] at CC
            rw [hrow] at kc
            have HS2 := hid (StP.snoc HST.out hz0 hz1)
            have HR2 := hid (run_shuf HALW.out HL.out (ks ++ [(z : Int)]) HS2.out).2
            have HK2 : Hid ((ks ++ [(z : Int)]).length = j + 1) := hid (by rw [List.length_append, HKL.out]; rfl)
            replace CC := hid CC
            clear hrs hrow RR rrow
            go_wp2_with fail
            refine CC.out.mono ?_
            rintro e w5 ⟨v, rfl, ho, hb⟩
            clear CC
            obtain ⟨Az, cz, rfl, hcz, _, rz⟩ := OI.shp ho
            rw [show ((runI al (idl n) (ks ++ [(z : Int)]), true) : List Int × Bool).1 = runI al (idl n) (ks ++ [(z : Int)]) from rfl, HR2.out] at hcz
            rw [show ((runI al (idl n) (ks ++ [(z : Int)]), true) : List Int × Bool).1 = runI al (idl n) (ks ++ [(z : Int)]) from rfl, HR2.out]
            have BW2 : Aside (Below w3.heap.size w3 w5) := bthen BW1.out hb
            have KS : Aside (∃ ks, ks.length = j + 1 ∧ StP al ks ∧ RdI w5 Az (runI al (idl n) ks)) := ⟨_, HK2.out, HS2.out, rz⟩
            clear rz ho hb HR2 HS2 HK2 RGK HST HKL kc BW1
            go_wp2_with fail
            go_roundg (d - (j + 1))
            case measure => omega
            case rel => exact ⟨j + 1, by omega, by omega, by go_num, Az, cz, rfl, BW2, KS⟩
          · obtain rfl : d = j := by omega
            have hjj : ¬ (d : Int) < (d : Int) := by omega
            replace BW := hid (bthen BW.out BW1.out)
            replace RA := hid (RA.out.below BW1.out)
            replace RN := hid (RN.out.below BW1.out)
            clear BW1
            obtain ⟨st, fw, mn, f1, f2, f3, f4, f5, f6, f7, f8, f9⟩ := few_law HALW.out HL.out ha1 ha3 ks HST.out (by have := HKL.out; omega)
            have hrs := run_shuf HALW.out HL.out ks HST.out
            have HGL := hid hrs.2
            have F3 := hid f3
            have F4 : Hid (StP al st) := hid f4
            have F9 := hid f9
            rw [HKL.out] at f5 f2
            have F5 := hid f5
            have F6 := hid f6
            have F1 := hid f1
            clear f1 f3 f4 f5 f6 f9 hrs HST HKL
            generalize hgo : runI al (idl n) ks = goal at *
            clear hgo
            have CC := i_ShortestSteps w4 Aa ca al G cG goal 5 (by have := HSZ.out; omega) RA.out (by have := HGL.out; omega) RGK.out
            rw [F1.out, HGL.out] at CC
            replace CC := hid CC
            clear F1
            go_wp2_with fail
            refine CC.out.mono ?_
            rintro e w5 ⟨v, rfl, ho, hb⟩
            clear CC
            obtain ⟨As, cs, rfl, hcs, _, rs⟩ := OI.shp ho
            have RS := hid (show RdI w5 As st from rs)
            replace BW := hid (bthen BW.out hb)
            replace RA := hid (RA.out.below hb)
            replace RN := hid (RN.out.below hb)
            replace RGK := hid (RGK.out.below hb)
            rw [show ((st, true) : List Int × Bool).1 = st from rfl] at hcs
            rw [show ((st, true) : List Int × Bool).1 = st from rfl]
            clear ho rs hb
            have CC := i_CountReached w5 Aa ca al d (by have := HSZ.out; omega) RA.out
            rw [F5.out] at CC
            replace CC := hid CC
            go_wp2_with fail
            refine CC.out.mono ?_
            rintro e w6 ⟨rfl, hb⟩
            clear CC F5
            replace BW := hid (bthen BW.out hb)
            replace RA := hid (RA.out.below hb)
            replace RN := hid (RN.out.below hb)
            replace RGK := hid (RGK.out.below hb)
            replace RS := hid (RS.out.below hb)
            clear hb
            have CC := i_CountReached w6 Aa ca al 5 (by have := HSZ.out; omega) RA.out
            rw [F6.out] at CC
            replace CC := hid CC
            go_wp2_with fail
            refine CC.out.mono ?_
            rintro e w7 ⟨rfl, hb⟩
            clear CC F6
            replace BW := hid (bthen BW.out hb)
            replace RA := hid (RA.out.below hb)
            replace RN := hid (RN.out.below hb)
            replace RGK := hid (RGK.out.below hb)
            replace RS := hid (RS.out.below hb)
            clear hb
            have hsd : decide (d < st.length) = false := by simp; omega
            have hfw : decide (fw < 1) = false := by simp; omega
            have hmf : decide (mn < fw) = false := by simp; omega
            go_wp2_with fail
            go_loopg [10, 20] st.length (fun gg v s wr => ∃ k : Nat, k ≤ st.length ∧ st.length - k ≤ gg ∧ s = .int .i64 k ∧ ∃ M cM, v = .slice M n cM ∧ Aside (Below w7.heap.size w7 wr) ∧ Aside (RdI wr M (runI al (idl n) (st.take k))))
            case atStart => exact ⟨0, Nat.zero_le _, by omega, rfl, An, cn, rfl, (Below.refl _ _ : Below w7.heap.size w7 w7), (by simpa [runI, Aside] using RN.out)⟩
            case round =>
              obtain ⟨k, hk, hg3, rfl, M, cM, rfl, BW1, RM⟩ := hrel
              obtain ⟨w8, rfl⟩ : ∃ w8 : World, w8 = wr := ⟨_, rfl⟩
              clear RN
              by_cases hks : k < st.length
              · have hks' : (k : Int) < (st.length : Int) := by omega
                obtain ⟨bs, os, rfl, ks0⟩ := RdI.get (RS.out.below BW1.out) hks
                have hkr := F4.out (el st k) (el_mem hks)
                obtain ⟨z, hz⟩ : ∃ z : Nat, el st k = z := ⟨(el st k).toNat, by omega⟩
                rw [hz] at ks0 hkr
                have hzl : z < al.length := by omega
                obtain ⟨ba, oa, A', c', rfl, kc, hcc, rrow⟩ := (RA.out.below BW1.out).get hzl
                have RR := hid rrow
                have HST : Hid (StP al (st.take k)) := hid (F4.out.take k)
                have hrs := run_shuf HALW.out HL.out (st.take k) HST.out
                have hrow := (HALW.out z hzl).1
                have CC := i_ThenShuffle w8 M cM (runI al (idl n) (st.take k)) A' c' (rw_ al z) (by omega) RM.out (by omega) RR.out
                rw [show m_ThenShuffle (runI al (idl n) (st.take k)) (rw_ al z) = (runI al (idl n) (st.take k ++ [(z : Int)]), true) from run_step (k := (z : Int)) HALW.out HL.out HST.out hkr.1 hkr.2, hrs.2, hrow, ← hz, ← take_el hks] at CC
                rw [hrow] at kc
                have HR2 := hid (run_shuf HALW.out HL.out (st.take (k + 1)) (F4.out.take (k + 1))).2
                have hz0 : ¬ (z : Int) < 0 := by omega
                have hz1 : ¬ (al.length : Int) ≤ (z : Int) := by omega
                have hz2 : (z : Int) < (al.length : Int) := by omega
                replace CC := hid CC
                clear hrs hrow RR rrow HST hz hkr
                go_wp2_with fail
                refine CC.out.mono ?_
                rintro e w9 ⟨v, rfl, ho, hb⟩
                clear CC
                obtain ⟨Az, cz, rfl, hcz, _, rz⟩ := OI.shp ho
                rw [show ((runI al (idl n) (st.take (k + 1)), true) : List Int × Bool).1 = runI al (idl n) (st.take (k + 1)) from rfl, HR2.out] at hcz
                rw [show ((runI al (idl n) (st.take (k + 1)), true) : List Int × Bool).1 = runI al (idl n) (st.take (k + 1)) from rfl, HR2.out]
                have BW2 : Aside (Below w7.heap.size w7 w9) := bthen BW1.out hb
                have KS : Aside (RdI w9 Az (runI al (idl n) (st.take (k + 1)))) := rz
                clear rz ho hb HR2 kc ks0 BW1 RM
                go_wp2_with fail
                go_roundg (st.length - (k + 1))
                case measure => omega
                case rel => exact ⟨k + 1, by omega, by omega, by go_num, Az, cz, rfl, BW2, KS⟩
              · obtain rfl : k = st.length := by omega
                have hss : ¬ (st.length : Int) < (st.length : Int) := by omega
                rw [List.take_length] at RM
                have hf3 := F3.out
                rw [hf3] at RM
                clear hf3
                replace BW := hid (bthen BW.out BW1.out)
                replace RA := hid (RA.out.below BW1.out)
                replace RGK := hid (RGK.out.below BW1.out)
                clear BW1
                have CC := i_ShortestSteps w8 Aa ca al G cG goal ((st.length : Int) - 1) (by have := HSZ.out; omega) RA.out (by have := HGL.out; omega) RGK.out
                have HF9 : Hid (m_ShortestSteps al goal ((st.length : Int) - 1) = ((m_ShortestSteps al goal ((st.length : Int) - 1)).1, false)) := hid (by rw [← F9.out])
                rw [HF9.out, HGL.out] at CC
                replace CC := hid CC
                clear F9 HF9
                generalize (m_ShortestSteps al goal ((st.length : Int) - 1)).1 = s6 at CC
                go_wp2_with fail
                refine CC.out.mono ?_
                rintro e w9 ⟨v, rfl, ho, hb⟩
                clear CC
                obtain ⟨A6, c6, rfl, _, _, _⟩ := OI.shp ho
                replace BW := hid (bthen BW.out hb)
                replace RGK := hid (RGK.out.below hb)
                have RM2 := hid (RdI.below RM.out hb)
                clear ho hb RM
                have CC := l_r8Same w9 M G cM cG goal goal (by rw [HGL.out]; omega) (by rw [HGL.out]; omega) RM2.out RGK.out
                rw [show decide (goal = goal) = true by simp, HGL.out] at CC
                replace CC := hid CC
                go_wp2_with fail
                refine CC.out.mono ?_
                rintro e wz ⟨rfl, hb⟩
                clear CC
                have BW6 := hid (bthen BW.out hb)
                clear hb
                go_wp2_with fail
                go_ret
                exact ⟨rfl, BW6.out⟩
end Go.Proofs.Ytmpdaafkphpnoaa
set_option linter.unusedVariables false
set_option linter.unusedSimpArgs false
namespace Go.Proofs.Ytmpdaafkphpnoaa
open Go.ChangeShapes Go.WideShapes Go.ChangeAt Go.RowKit
theorem own : ownKnob Try.prog.godebug = none := by kernel_rfl
theorem laidOut : laidOutB Try.prog = true := by kernel_rfl
theorem cellsInt : Try.prog.cellsOf 2 = 1 := by kernel_rfl
set_option maxRecDepth 100000 in
theorem open_I {H : Type} {enc : TypeId × Value → H} {W : World} {base : Nat} {v : Value} {d : DataW H} {p : List MemPlace}
    (hv : Value.okWide Try.prog W .any base 27 v) (h : DataW.Trod enc Try.prog W 0 (fun _ => true) true 27 v d p) :
    ∃ (A : Option Addr) (c : Nat) (xs : List Int), v = .slice A xs.length c ∧ xs.length ≤ 9223372036854775807 ∧ RdI W A xs := by
  obtain ⟨a, len, cap, rfl⟩ := okWide_slice Try.underlying27 hv
  obtain ⟨fuel, hf⟩ := h
  rcases open_ints Try.underlying27 Try.underlying2 cellsInt hf with ⟨hcs, _⟩ | ⟨x, l, c, zs, hcs, _, hl, hm, hz, _, hcell, _⟩
  · simp [Value.cells] at hcs
    obtain ⟨rfl, rfl, rfl⟩ := hcs
    exact ⟨none, 0, [], rfl, by simp, fun k hk => absurd hk (Nat.not_lt_zero _)⟩
  · simp [Value.cells] at hcs
    obtain ⟨rfl, rfl, rfl⟩ := hcs
    simp only [if_true] at hz
    have hlen : (zs.take len).length = len := by rw [List.length_take]; omega
    refine ⟨some x, cap, zs.take len, by rw [hlen], by rw [hlen]; simp only [maxLen] at hm; omega, ?_⟩
    intro k hk
    rw [hlen] at hk
    have hc := hcell k (by omega)
    have he : el (zs.take len) k = zs.getD k 0 := by
      unfold el; rw [List.getD_eq_getElem?_getD, List.getD_eq_getElem?_getD, List.getElem?_take_of_lt hk]
    have hs : x.spot = none := by
      have hc0 := hcell 0 (by omega)
      cases hx : x.spot with
      | none => rfl
      | some s =>
        rw [show x.add 0 = x from rfl] at hc0
        simp only [World.cell?] at hc0
        split at hc0
        · rw [if_pos (by rw [hx]; rfl)] at hc0; cases hc0
        · cases hc0
    obtain ⟨b, off, s⟩ := x
    obtain rfl : s = none := hs
    refine ⟨b, off, rfl, ?_⟩
    show W.cell? _ = some (.int .i64 (el (List.take len zs) k))
    rw [he, ← hc]
    congr 1
    unfold Addr.add
    split
    · rename_i h; subst h; rfl
    · rfl
end Go.Proofs.Ytmpdaafkphpnoaa
set_option linter.unusedVariables false
set_option linter.unusedSimpArgs false
namespace Go.Proofs.Ytmpdaafkphpnoaa
open Go.ChangeShapes Go.WideShapes Go.ChangeAt Go.RowKit
theorem cellsU8 : Try.prog.cellsOf 5 = 1 := by kernel_rfl
set_option maxRecDepth 100000 in
theorem open_U {H : Type} {enc : TypeId × Value → H} {W : World} {base : Nat} {v : Value} {d : DataW H} {p : List MemPlace}
    (hv : Value.okWide Try.prog W .any base 22 v) (h : DataW.Trod enc Try.prog W 0 (fun _ => true) true 22 v d p) :
    ∃ (A : Option Addr) (c : Nat) (xs : List Int), v = .slice A xs.length c ∧ xs.length ≤ 9223372036854775807 ∧ RdU W A xs := by
  obtain ⟨a, len, cap, rfl⟩ := okWide_slice Try.underlying22 hv
  obtain ⟨fuel, hf⟩ := h
  rcases open_ints Try.underlying22 Try.underlying5 cellsU8 hf with ⟨hcs, _⟩ | ⟨x, l, c, zs, hcs, _, hl, hm, hz, _, hcell, hwf⟩
  · simp [Value.cells] at hcs
    obtain ⟨rfl, rfl, rfl⟩ := hcs
    exact ⟨none, 0, [], rfl, by simp, fun k hk => absurd hk (Nat.not_lt_zero _), fun k hk => absurd hk (Nat.not_lt_zero _)⟩
  · simp [Value.cells] at hcs
    obtain ⟨rfl, rfl, rfl⟩ := hcs
    simp only [if_true] at hz
    have hlen : (zs.take len).length = len := by rw [List.length_take]; omega
    have he : ∀ k, k < len → el (zs.take len) k = zs.getD k 0 := fun k hk => by
      unfold el; rw [List.getD_eq_getElem?_getD, List.getD_eq_getElem?_getD, List.getElem?_take_of_lt hk]
    refine ⟨some x, cap, zs.take len, by rw [hlen], by rw [hlen]; simp only [maxLen] at hm; omega, ?_, ?_⟩
    · intro k hk
      rw [hlen] at hk
      have hc := hcell k (by omega)
      have hs : x.spot = none := by
        have hc0 := hcell 0 (by omega)
        cases hx : x.spot with
        | none => rfl
        | some s =>
          rw [show x.add 0 = x from rfl] at hc0
          simp only [World.cell?] at hc0
          split at hc0
          · rw [if_pos (by rw [hx]; rfl)] at hc0; cases hc0
          · cases hc0
      obtain ⟨b, off, s⟩ := x
      obtain rfl : s = none := hs
      refine ⟨b, off, rfl, ?_⟩
      show W.cell? _ = some (.int .u8 (el (List.take len zs) k))
      rw [he k hk, ← hc]
      congr 1
      unfold Addr.add
      split
      · rename_i h; subst h; rfl
      · rfl
    · intro k hk
      rw [hlen] at hk
      rw [he k hk]
      have hm' : zs.getD k 0 ∈ zs := by
        rw [List.getD_eq_getElem?_getD, List.getElem?_eq_getElem (by omega)]; exact List.getElem_mem _
      have hw := hwf _ hm'
      simp only [Lit.wf, Bool.and_eq_true, decide_eq_true_eq] at hw
      exact hw
end Go.Proofs.Ytmpdaafkphpnoaa
/- For every input the law FnFewestSteps holds: the call returns true; no condition. -/
set_option linter.unusedVariables false
set_option linter.unusedSimpArgs false
namespace Go.Proofs.Ytmpdaafkphpnoaa.fnFewestSteps
open Go.ChangeShapes Go.WideShapes Go.ChangeAt Go.RowKit
open Go.ChangeMaps (open_string shut_string)
theorem own : ownKnob Try.prog.godebug = none := by kernel_rfl
theorem laidOut : laidOutB Try.prog = true := by kernel_rfl
set_option maxRecDepth 100000 in
theorem lifted (os : Os) (started : os.Started) (H : Type) (enc : TypeId × Value → H) :
    ReturnsInHanded {} Try.checked os 3 .any (Rows.fnFewestStepsSpec.pre6 enc Try.prog Try.f3 Rows.fnFewestStepsRow.domain false) (Rows.fnFewestStepsSpec.post enc Try.prog Try.f3 false true false false) := by
  refine returnsInHanded_of_change (C := Try.checked) own started (by kernel_rfl) Try.func3
    (ChangeSpec.witness6 (enc := enc) (C := Try.checked) false ⟨#[], #[.slice none 0 0, .slice none 0 0], []⟩ 8 (by kernel_rfl) (by kernel_rfl) (by kernel_rfl) (by kernel_rfl)) ?_
  intro W base args ds gs before hval0 hW hcnd _
  have hval : ∀ (j : Nat) t v, Try.f3.params[j]? = some t → args[j]? = some v → Value.okWide Try.prog W .any base t v := hval0
  have hW' := hW
  obtain ⟨p, q, hA0, hV, rfl, hfz, hnd⟩ := hW
  have hA : DataW.TrodAll enc Try.prog W 0 (fun _ => true) true Try.f3.params.toList args.toList ds p := hA0
  rw [Try.params3] at hA hval
  obtain ⟨v0, vs0, d0, ds0, p0, q0, hargs, rfl, rfl, h0, r0⟩ := trodAll_cons hA
  obtain ⟨v1, vs1, d1, ds1, p1, q1, rfl, rfl, rfl, h1, r1⟩ := trodAll_cons r0
  obtain ⟨rfl, rfl, rfl⟩ := trodAll_nil r1
  obtain rfl : args = #[v0, v1] := by cases args; simp_all
  obtain ⟨rfl, rfl⟩ := trodVars_none hV
  have k0 := h0
  have lt0 : ∀ x ∈ p0, x.block < W.heap.size := by obtain ⟨m, hm⟩ := k0; exact DataW.trod_lt m _ _ _ hm
  obtain ⟨A0, c0, xs0, rfl, hl0, hR0⟩ := open_U (hval 0 22 v0 rfl rfl) h0
  have k1 := h1
  have lt1 : ∀ x ∈ p1, x.block < W.heap.size := by obtain ⟨m, hm⟩ := k1; exact DataW.trod_lt m _ _ _ hm
  obtain ⟨A1, c1, xs1, rfl, hl1, hR1⟩ := open_U (hval 1 22 v1 rfl rfl) h1
  clear hA0 hval0
  refine (law_FewestSteps W A0 c0 xs0 A1 c1 xs1 hl0 hR0 hl1 hR1).mono fun e W' ⟨he, bel⟩ => ?_
  subst he
  exact ⟨_, rfl, _, _, _, [], _, [], hW', trodAll_mk1 (shut_bool Try.underlying4 _), (trodAll_cons_mk (Below.trod laidOut (by kernel_rfl) (of_decide_eq_true (by kernel_rfl)) k0 bel lt0) (trodAll_cons_mk (Below.trod laidOut (by kernel_rfl) (of_decide_eq_true (by kernel_rfl)) k1 bel lt1) trodAll_mk0)), rfl, bel.frame _, fun h => by cases h⟩
theorem over : Rows.fnFewestStepsRow.holds Try.pinned (OpenSpec.ofChange Rows.fnFewestStepsSpec) :=
  OpenClaim.holds_of_wide 3 Try.f3 rfl rfl rfl rfl rfl rfl rfl ⟨rfl, rfl, rfl, rfl, rfl⟩ rfl rfl rfl rfl rfl (by kernel_rfl) Try.func3 (by kernel_rfl)
    (of_decide_eq_true (by kernel_rfl)) (by unfold Func.isWrapper; first | (rw [if_pos (by decide +kernel)]; kernel_rfl) | (rw [if_neg (by decide +kernel)]; exact ⟨rfl, rfl⟩))
    (fun os started H enc _ => lifted os started H enc)
theorem proved : Rows.FnFewestStepsSaid := over
#print axioms proved
end Go.Proofs.Ytmpdaafkphpnoaa.fnFewestSteps
