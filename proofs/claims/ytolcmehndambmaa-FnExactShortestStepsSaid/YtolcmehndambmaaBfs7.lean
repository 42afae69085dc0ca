import Derived.Test.YtolcmehndambmaaBfs6
import Derived.Test.YtolcmehndambmaaIlv
import Derived.Deep.RegionLaw
set_option linter.unusedVariables false
set_option linter.unusedSimpArgs false
namespace Go.Proofs.Ytolcmehndambmaa
open Go.RowKit

theorem rei_ne : (104 : Nat) ≠ 2 := by decide
theorem reb_ne : (104 : Nat) ≠ 105 := by decide
theorem rsb_ne : (105 : Nat) ≠ 2 := by decide
def nxt (O : List PQ) (b : Nat) : List PQ := O.drop b
theorem nxt_length (O : List PQ) (b : Nat) : (nxt O b).length = O.length - b := by simp [nxt]
theorem nxt_app {O : List PQ} {b : Nat} (h : b ≤ O.length) (p : PQ) : nxt (O ++ [p]) b = nxt O b ++ [p] := by unfold nxt; rw [List.drop_append_of_le_length h]
theorem RI.turn {e tS : TypeId} {W w1 : World} {lo bo : Nat} {vb vo vn vw : Value} {O N Wl : List PQ} (h : RI e tS W w1 lo bo vb vo vn vw O N Wl) : RI e tS W w1 lo bo vb vo (.slice none 0 0) vn O [] N :=
  ⟨h.bel, h.lo1, h.box, h.o, AQ.nil _ _ _ _, h.n, fun b _ q => by simp [Value.ownBlock] at q, h.on, fun b q _ => by simp [Value.ownBlock] at q⟩
abbrev RJ (W w1 : World) (lo bo : Nat) (vb vo vn vw : Value) (O N Wl : List PQ) : Prop := RI 104 105 W w1 lo bo vb vo vn vw O N Wl
/-- All that a round holds. -/
structure SK (W w : World) (lo bo : Nat) (vb vo vn vw : Value) (O N Wl : List PQ) (br : Nat) (obr : Obj) (b1 : Nat) (x1 y1 : Value) (p : PQ) (A1 A2 : Option Addr) (r : PQ) : Prop where
  j : RJ W w lo bo vb vo vn vw O N Wl
  xb : RX W br obr vo vn
  xo : RX W b1 (.cells #[x1, y1] 104) vo vn
  t1 : RdT W kb0 A1 r.1
  t2 : RdT W kb0 A2 r.2
  p : PK W lo kb0 x1 y1 p
  z : lo ≤ W.heap.size
theorem SK.below {W W' w : World} {lo bo : Nat} {vb vo vn vw : Value} {O N Wl : List PQ} {br : Nat} {obr : Obj} {b1 : Nat} {x1 y1 : Value} {p : PQ} {A1 A2 : Option Addr} {r : PQ} (h : SK W w lo bo vb vo vn vw O N Wl br obr b1 x1 y1 p A1 A2 r) (hb : Below W.heap.size W W') : SK W' w lo bo vb vo vn vw O N Wl br obr b1 x1 y1 p A1 A2 r :=
  ⟨h.j.below h.z hb, h.xb.below hb, h.xo.below hb, h.t1.keep (Kp.of hb), h.t2.keep (Kp.of hb), h.p.keep (Kp.of hb), Nat.le_trans h.z hb.size⟩
theorem SK.cells {W w : World} {lo bo : Nat} {vb vo vn vw : Value} {O N Wl : List PQ} {br : Nat} {obr : Obj} {b1 : Nat} {x1 y1 : Value} {p : PQ} {A1 A2 : Option Addr} {r : PQ} (h : SK W w lo bo vb vo vn vw O N Wl br obr b1 x1 y1 p A1 A2 r) : W.cell? ⟨b1, 0, none⟩ = some x1 ∧ W.cell? ⟨b1, 1, none⟩ = some y1 := by
  constructor
  · rw [cell_of_row _ _ _ _ _ _ h.xo.at_]; rfl
  · rw [cell_of_row _ _ _ _ _ _ h.xo.at_]; rfl
theorem SK.boxc {W w : World} {lo bo : Nat} {vb vo vn vw : Value} {O N Wl : List PQ} {br : Nat} {obr : Obj} {b1 : Nat} {x1 y1 : Value} {p : PQ} {A1 A2 : Option Addr} {r : PQ} (h : SK W w lo bo vb vo vn vw O N Wl br obr b1 x1 y1 p A1 A2 r) : W.cell? ⟨bo, 0, none⟩ = some vb ∧ W.frozen? ⟨bo, 0, none⟩ = false := by
  refine ⟨?_, frozen_of_row _ _ _ _ _ h.j.box⟩
  rw [cell_of_row _ _ _ _ _ _ h.j.box]; rfl
theorem SK.appO {W w2 w : World} {lo bo : Nat} {vb vo vo' vn vw : Value} {O O' N Wl : List PQ} {br : Nat} {obr : Obj} {b1 : Nat} {x1 y1 : Value} {p : PQ} {A1 A2 : Option Addr} {r : PQ} (h : SK W w lo bo vb vo vn vw O N Wl br obr b1 x1 y1 p A1 A2 r) (ha : Apd W w2 lo vo vo') (hq : AQ 104 w2 lo kb0 vo' O') : SK w2 w lo bo vb vo' vn vw O' N Wl br obr b1 x1 y1 p A1 A2 r :=
  ⟨RI.appO reb_ne h.j ha hq, h.xb.appO ha, h.xo.appO ha, h.t1.keep ha.kp, h.t2.keep ha.kp, h.p.keep ha.kp, Nat.le_trans h.z ha.kp.size⟩
theorem SK.appN {W w2 w : World} {lo bo : Nat} {vb vo vn vn' vw : Value} {O N N' Wl : List PQ} {br : Nat} {obr : Obj} {b1 : Nat} {x1 y1 : Value} {p : PQ} {A1 A2 : Option Addr} {r : PQ} (h : SK W w lo bo vb vo vn vw O N Wl br obr b1 x1 y1 p A1 A2 r) (ha : Apd W w2 lo vn vn') (hq : AQ 104 w2 lo kb0 vn' N') : SK w2 w lo bo vb vo vn' vw O N' Wl br obr b1 x1 y1 p A1 A2 r :=
  ⟨RI.appN reb_ne h.j ha hq, h.xb.appN ha, h.xo.appN ha, h.t1.keep ha.kp, h.t2.keep ha.kp, h.p.keep ha.kp, Nat.le_trans h.z ha.kp.size⟩
theorem SK.store {W w : World} {lo bo : Nat} {vb vo vn vw : Value} {O N Wl : List PQ} {br : Nat} {obr : Obj} {b1 : Nat} {x1 y1 : Value} {p : PQ} {A1 A2 : Option Addr} {r : PQ} (h : SK W w lo bo vb vo vn vw O N Wl br obr b1 x1 y1 p A1 A2 r) (hr : br ≠ bo) (h1 : b1 ≠ bo) : SK (W.setCell ⟨bo, 0, none⟩ vo) w lo bo vo vo vn vw O N Wl br obr b1 x1 y1 p A1 A2 r := by
  have hsz : (W.setCell ⟨bo, 0, none⟩ vo).heap.size = W.heap.size := by simp [World.setCell]
  have hK : Kp kb0 W (W.setCell ⟨bo, 0, none⟩ vo) := ⟨by omega, fun b cs fr _ hc => Below.heap_setCell _ _ _ _ fun q => by
    subst q
    rw [h.j.box] at hc
    cases hc⟩
  exact ⟨RI.store reb_ne rsb_ne h.j, h.xb.store hr, h.xo.store h1, h.t1.keep hK, h.t2.keep hK, h.p.keep hK, by have := h.z; omega⟩
theorem Apd.of {W w1 : World} {lo g n c : Nat} {v : Value} (hk : Kp kb0 W w1) (hkeep : ∀ k, k < W.heap.size → v.ownBlock ≠ some k → w1.heap[k]? = W.heap[k]?) (hat : v.ownBlock = some g ∨ g = W.heap.size) (hb : Below lo W w1) : Apd W w1 lo v (.slice (some ⟨g, 0, none⟩) n c) := by
  refine ⟨hk, hkeep, ?_, hb⟩
  rcases hat with q | q
  · exact .inl q
  · exact .inr (by rw [q]; rfl)
theorem AQ.seen {e : TypeId} {w : World} {lo : Nat} {kb : Nat → Prop} {v : Value} {qs : List PQ} (h : AQ e w lo kb v qs) : ∃ A c F, v = .slice A qs.length c ∧ RdQ w A qs F ∧ ∀ k, k < qs.length → ∃ A1 n1 c1 A2 c2, F k = (.slice A1 n1 c1, .slice A2 (qel qs k).2.length c2) ∧ RdI w A2 (qel qs k).2 := by
  obtain ⟨f, h1, h2⟩ := h
  obtain ⟨A, c, rfl, _, _, hs⟩ := h1.shape
  refine ⟨A, c, f, rfl, fun k hk => ?_, fun k hk => ?_⟩
  · rcases hs with ⟨_, h0⟩ | ⟨g, rfl, _, _, hcell, _⟩
    · omega
    · have hq := qcs_get f qs.length hk
      exact ⟨g, rfl, hcell _ _ hq.1, hcell _ _ hq.2⟩
  · obtain ⟨A1, c1, A2, c2, e1, e2, _, r2, _⟩ := h2 k hk
    exact ⟨A1, _, c1, A2, c2, by rw [← e1, ← e2], r2.rd⟩
theorem i_seenA (W : World) (Bo lo : Nat) (kb : Nat → Prop) (vo : Value) (A3 : Option Addr) (c3 n : Nat) (O : List PQ) (s : List Int) (hO : O.length ≤ 1048576) (hs : s.length = n) (hn : n ≤ 16) (hlen : AllN n O)
    (ho : W.cell? ⟨Bo, 0, none⟩ = some vo) (hq : AQ 104 W lo kb vo O) (h3 : RdI W A3 s) :
    Calls Try.prog 147 #[.slice A3 n c3, .pointer (some ⟨Bo, 0, none⟩)] W fun e w' => e = .returned (.bool (seenB O s)) ∧ Below W.heap.size W w' := by
  obtain ⟨A, c, F, rfl, hr, hf⟩ := hq.seen
  subst hs
  exact i_seen W Bo A A3 c c3 O s F hO (by omega) (fun k hk => by rw [hlen _ (qel_mem hk)]; omega) ho hr hf h3
set_option maxRecDepth 100000 in
set_option maxHeartbeats 4000000 in
theorem i_reached (w : World) (A : Option Addr) (c : Nat) (al : List (List Int)) (n most : Nat) (h1 : 1 ≤ al.length) (h4 : al.length ≤ 4) (hn : n ≤ 16) (hm : most ≤ 5) (hal : ∀ k, k < al.length → (rw_ al k).length = n ∧ shufB (rw_ al k) = true) (hR : RdR w A al) :
    Calls Try.prog 96 #[.slice A al.length c, .int .i64 (most : Nat)] w fun e w' => ∃ A' c', e = .returned (.slice A' (lvO al n most).length c') ∧ AQ 104 w' w.heap.size kb0 (.slice A' (lvO al n most).length c') (lvO al n most) ∧ Below w.heap.size w w' := by
  obtain ⟨b0, o0, A0, c0, rfl, hc0, hcc0, hr0⟩ := hR.get (k := 0) (by omega)
  rw [(hal 0 (by omega)).1] at hc0 hcc0
  rw [Nat.add_zero] at hc0
  have HR := hid hR
  have HAL := hid hal
  have C0 := hid (i_sameR w n (by omega))
  have HL0 : Hid (lvO al n 0 = [([], idl n)]) := hid rfl
  have hal0 : (0 : Int) < (al.length : Int) := by omega
  clear hR hal hr0
  go_enter Try.func96, Try.ntmps96
  go_wp2_with fail
  refine C0.out.mono ?_
  rintro e w1 ⟨A1, c1, rfl, ho1, hb1⟩
  have hp1 : PK w1 w.heap.size kb0 (.slice none 0 0) (.slice A1 n c1) ([], idl n) := ⟨none, 0, A1, c1, rfl, by simp [idl_length], fun k hk => absurd hk (Nat.not_lt_zero _), RdT.of ho1 fun _ _ q => q, Own.nil _ _ _ _ _, fun _ _ q => q⟩
  have HQ1 := hid (AQ.lit 104 (lo := w.heap.size) hp1 hb1.size)
  have hb2 := ballocw w1 (.cells #[.slice none 0 0, .slice A1 n c1] 104)
  have C1 := hid (g_CloneQ1 (w1.alloc (.cells #[.slice none 0 0, .slice A1 n c1] 104)) w1.heap.size (.slice none 0 0) (.slice A1 n c1) ([], idl n) rfl rfl (heap_alloc_new _ _) w.heap.size (by simp; have := hb1.size; omega) (hp1.keep (Kp.of hb2)))
  have HB2 := hid (bthen hb1 hb2)
  have hz1 := hb1.size
  have hsz1 : (w1.alloc (.cells #[.slice none 0 0, .slice A1 n c1] 104)).heap.size = w1.heap.size + 1 := by simp
  clear C0 ho1 hb1 hb2 hp1
  go_wp2_with fail
  refine C1.out.mono ?_
  rintro e w3 ⟨g3, cap3, rfl, hg30, hq3, hb3⟩
  have hz3 := hb3.size
  rw [hsz1] at hz3
  have hg3 := (hq3.own (b := g3) rfl)
  have HI : Hid (RJ (w3.alloc (.cells #[.slice (some ⟨g3, 0, none⟩) 1 cap3] 105)) w w.heap.size w3.heap.size (.slice (some ⟨g3, 0, none⟩) 1 cap3) (.slice (some ⟨g3, 0, none⟩) 1 cap3) (.slice none 0 0) (.slice (some ⟨w1.heap.size, 0, none⟩) 1 1) (lvO al n 0) [] (lvO al n 0)) := hid (by
    have hb4 := ballocw w3 (.cells #[.slice (some ⟨g3, 0, none⟩) 1 cap3] 105)
    rw [HL0.out]
    refine ⟨bthen HB2.out (bthen hb3 hb4), by omega, heap_alloc_new _ _, hq3.below hb4, AQ.nil _ _ _ _, (HQ1.out.below hb3).below hb4, fun b _ q => by simp [Value.ownBlock] at q, fun b q r => ?_, fun b q _ => by simp [Value.ownBlock] at q⟩
    simp [Value.ownBlock] at q r
    omega)
  clear C1 HQ1 HB2 hq3 hb3
  go_wp2_with fail
  clear hc0 hcc0 hg3 hsz1
  generalize w3.alloc (.cells #[.slice (some ⟨g3, 0, none⟩) 1 cap3] 105) = W4 at *
  generalize hbo : w3.heap.size = bo at *
  have hwbo : w.heap.size ≤ bo := by omega
  go_loopg [5, 26] most (fun gg vw s wr => ∃ l : Nat, l ≤ most ∧ most - l ≤ gg ∧ s = .int .i64 l ∧ ∃ vo Aw cw, vw = .slice Aw ((lvO al n l).length - lvA al n l) cw ∧ Aside (w.heap.size ≤ wr.heap.size) ∧ Aside (RJ wr w w.heap.size bo vo vo (.slice none 0 0) vw (lvO al n l) [] ((lvO al n l).drop (lvA al n l))))
  case atStart => exact ⟨0, Nat.zero_le _, by omega, rfl, _, _, _, rfl, HI.out.bel.size, HI.out⟩
  case round =>
    obtain ⟨l, hl, hg, rfl, vo, Aw, cw, rfl, ZW, RW⟩ := hrel
    obtain ⟨wl, rfl⟩ : ∃ wl : World, wl = wr := ⟨_, rfl⟩
    clear HI
    have hw4 := lv_width (n := n) h4 l
    have h45 : 4 ^ l ≤ 1024 := Nat.le_trans (Nat.pow_le_pow_right (by omega) (show l ≤ 5 by omega)) (by decide)
    have hO5 := lv_len (n := n) h4 l (by omega)
    by_cases hlt : l < most
    · have hlt' : (l : Int) < (most : Int) := by omega
      have HLS := hid (lvO_succ al n l)
      have HAN : Hid (AllN n (lvO al n l)) := hid (AllN.lv (fun k hk => (HAL.out k hk).1) l)
      have HST : Hid (∀ j, j < (lvO al n l).length - lvA al n l → (qel (lvO al n l) (lvA al n l + j)).1.length = l) := hid fun j hj => (lv_steps al n l (lvA al n l + j) (by omega)).2 (by omega)
      have HLA : Hid (lvA al n (l + 1) = (lvO al n l).length) := hid rfl
      have HX0 : Hid (exR al (lvA al n l) 0 (lvO al n l) = lvO al n l) := hid rfl
      generalize hO0 : lvO al n l = O0 at *
      generalize hA0 : lvA al n l = a0 at *
      have HM : Hid (a0 ≤ O0.length) := hid (by rw [← hO0, ← hA0]; exact lvA_le al n l)
      clear hO0 hA0
      generalize hm0 : O0.length - a0 = m at *
      have HMM := hid hm0
      clear hm0
      go_wp2_with fail
      go_loopg [8, 30] m (fun gg vn s wr => ∃ j : Nat, j ≤ m ∧ m - j ≤ gg ∧ s = .int .i64 j ∧ ∃ vo An cn, vn = .slice An ((exR al a0 j O0).length - O0.length) cn ∧ Aside (w.heap.size ≤ wr.heap.size) ∧ Aside (RJ wr w w.heap.size bo vo vo vn (.slice Aw m cw) (exR al a0 j O0) (nxt (exR al a0 j O0) O0.length) (O0.drop a0)))
      case atStart => exact ⟨0, Nat.zero_le _, by omega, rfl, vo, none, 0, by simp [exR], ZW, by simpa [exR, Aside, nxt] using RW.out⟩
      case round =>
        obtain ⟨j, hj, hgj, rfl, vo, An, cn, rfl, ZJ, RJJ⟩ := hrel
        clear RW ZW
        obtain ⟨wj, rfl⟩ : ∃ wj : World, wj = wr := ⟨_, rfl⟩
        by_cases hltj : j < m
        · have hltj' : (j : Int) < (m : Int) := by omega
          have HR2 := hid RJJ.out
          have hwl : (O0.drop a0).length = m := by rw [List.length_drop]; exact HMM.out
          obtain ⟨A', c', e', hc1, hc2, hget⟩ := RJJ.out.w.get
          rw [hwl] at e' hget
          cases e'
          obtain ⟨bw, A1, c1', A2, c2', rfl, x1, x2, t1, t2⟩ := hget j hltj
          have hqe : qel (O0.drop a0) j = qel O0 (a0 + j) := by unfold qel; rw [List.getD_eq_getElem?_getD, List.getD_eq_getElem?_getD, List.getElem?_drop]
          rw [hqe] at x1 x2 t1 t2
          have hst := HST.out j hltj
          have hdo : (qel O0 (a0 + j)).2.length = n := HAN.out _ (qel_mem (by have := HMM.out; have := HM.out; omega))
          rw [hst] at x1
          rw [hdo] at x2
          have HQE : Hid (qel (exR al a0 j O0) (a0 + j) = qel O0 (a0 + j)) := hid (exR_app _ _ _ _ (by have := HMM.out; have := HM.out; omega))
          have HXS : Hid (exR al a0 (j + 1) O0 = exK al (qel O0 (a0 + j)) al.length (exR al a0 j O0)) := hid (by show exK al (qel (exR al a0 j O0) (a0 + j)) _ _ = _; rw [HQE.out])
          have HX1 : Hid (exK al (qel O0 (a0 + j)) 0 (exR al a0 j O0) = exR al a0 j O0) := hid rfl
          have HLN : Hid (∀ k, k ≤ al.length → (exK al (qel O0 (a0 + j)) k (exR al a0 j O0)).length ≤ 7000) := hid fun k hk => by
            have := ex_len al a0 j k (qel O0 (a0 + j)) O0 h4 hk; omega
          have HPR : Hid (∀ k, O0.length ≤ (exK al (qel O0 (a0 + j)) k (exR al a0 j O0)).length) := hid fun k => by
            obtain ⟨N, e, _⟩ := exK_pre al (qel O0 (a0 + j)) k (exR al a0 j O0)
            obtain ⟨M, e2, _⟩ := exR_pre al a0 j O0
            rw [e, e2, List.length_append, List.length_append]; omega
          have HANK : Hid (∀ k, k ≤ al.length → AllN n (exK al (qel O0 (a0 + j)) k (exR al a0 j O0))) := hid fun k hk => AllN.exK (AllN.exR HAN.out a0 (fun k hk => (HAL.out k hk).1) j) _ (fun k hk => (HAL.out k hk).1) k hk
          have HST1 := hid hst
          have HDO := hid hdo
          have T1 := hid t1
          have T2 := hid t2
          have hbx := ballocw wj (.cells #[.slice A1 l c1', .slice A2 n c2'] 104)
          have HRX : Hid (RX (wj.alloc (.cells #[.slice A1 l c1', .slice A2 n c2'] 104)) wj.heap.size (.cells #[.slice A1 l c1', .slice A2 n c2'] 104) vo (.slice An ((exR al a0 j O0).length - O0.length) cn)) := hid ⟨heap_alloc_new _ _, fun q => by have := (RJJ.out.o.own q).2.1; omega, fun q => by have := (RJJ.out.n.own q).2.1; omega⟩
          have hxz : (wj.alloc (.cells #[.slice A1 l c1', .slice A2 n c2'] 104)).heap.size = wj.heap.size + 1 := by simp
          have HRJ : Hid (RJ (wj.alloc (.cells #[.slice A1 l c1', .slice A2 n c2'] 104)) w w.heap.size bo vo vo (.slice An ((exR al a0 j O0).length - O0.length) cn) (.slice (some ⟨bw, 0, none⟩) m cw) (exR al a0 j O0) (nxt (exR al a0 j O0) O0.length) (O0.drop a0)) := hid (RJJ.out.below ZJ.out hbx)
          have HT1 : Hid (RdT (wj.alloc (.cells #[.slice A1 l c1', .slice A2 n c2'] 104)) kb0 A1 (qel O0 (a0 + j)).1) := hid (t1.keep (Kp.of hbx))
          have HT2 : Hid (RdT (wj.alloc (.cells #[.slice A1 l c1', .slice A2 n c2'] 104)) kb0 A2 (qel O0 (a0 + j)).2) := hid (t2.keep (Kp.of hbx))
          have hzj := ZJ.out
          clear RJJ hc1 hc2 hget t1 t2 T1 T2 hqe hst hdo HR2 hwl HX0 hbx HST HAN HQE HLS ZJ
          generalize qel O0 (a0 + j) = r at *
          generalize exR al a0 j O0 = E at *
          go_wp2_with fail
          generalize wj.alloc (.cells #[.slice A1 l c1', .slice A2 n c2'] 104) = W5 at *
          generalize hbr : wj.heap.size = br at *
          go_loopg [8, 36] al.length (fun gg vn s wr => ∃ k : Nat, k ≤ al.length ∧ al.length - k ≤ gg ∧ s = .int .i64 k ∧ ∃ vo An cn, vn = .slice An ((exK al r k E).length - O0.length) cn ∧ Aside (w.heap.size ≤ wr.heap.size) ∧ Aside (RJ wr w w.heap.size bo vo vo vn (.slice (some ⟨bw, 0, none⟩) m cw) (exK al r k E) (nxt (exK al r k E) O0.length) (O0.drop a0)) ∧ Aside (RX wr br (.cells #[.slice A1 l c1', .slice A2 n c2'] 104) vo vn) ∧ Aside (RdT wr kb0 A1 r.1) ∧ Aside (RdT wr kb0 A2 r.2))
          case atStart => exact ⟨0, Nat.zero_le _, by omega, rfl, vo, An, cn, rfl, HRJ.out.bel.size, HRJ.out, HRX.out, HT1.out, HT2.out⟩
          case round =>
            obtain ⟨k, hk, hgk, rfl, vo, An, cn, rfl, ZK, RK, XK, TK1, TK2⟩ := hrel
            clear HRJ HRX HT1 HT2 x1 x2
            obtain ⟨wk, rfl⟩ : ∃ wk : World, wk = wr := ⟨_, rfl⟩
            by_cases hltk : k < al.length
            · have hltk' : (k : Int) < (al.length : Int) := by omega
              have HMZ : Hid (al.length - (k + 1) < gk) := hid (by omega)
              have HK1 : Hid (k + 1 ≤ al.length) := hid (by omega)
              have HK2 : Hid (al.length - (k + 1) ≤ al.length - (k + 1)) := hid (Nat.le_refl _)
              obtain ⟨bs, os, As, cs, e1, hcs, hccs, hrs⟩ := (HR.out.below RK.out.bel).get (k := k) hltk
              cases e1
              have hsl := (HAL.out k hltk).1
              have hss := (HAL.out k hltk).2
              rw [hsl] at hcs hccs
              have y0 : wk.cell? ⟨br, 0, none⟩ = some (.slice A1 l c1') := by rw [cell_of_row _ _ _ _ _ _ XK.out.at_]; rfl
              have y1 : wk.cell? ⟨br, 1, none⟩ = some (.slice A2 n c2') := by rw [cell_of_row _ _ _ _ _ _ XK.out.at_]; rfl
              have cp := i_picked wk A2 As c2' cs r.2 (rw_ al k) (fun q hq => by
                have := shufB_el hss hq
                rw [hsl] at this; rw [HDO.out]; exact this) (by have := HDO.out; omega) (by omega) TK2.out.rd hrs
              rw [HDO.out, hsl] at cp
              have CP := hid cp
              have HPL : Hid ((pick r.2 (rw_ al k)).length = n) := hid (by rw [pick_length]; exact hsl)
              have HE1 : Hid (seenB (exK al r k E) (pick r.2 (rw_ al k)) = true → exK al r (k + 1) E = exK al r k E) := hid fun h => by show ex1 al r k (exK al r k E) = _; unfold ex1; rw [if_pos h]
              have HE2 : Hid (seenB (exK al r k E) (pick r.2 (rw_ al k)) = false → exK al r (k + 1) E = exK al r k E ++ [(r.1 ++ [(k : Int)], pick r.2 (rw_ al k))]) := hid fun h => by show ex1 al r k (exK al r k E) = _; unfold ex1; rw [if_neg (by rw [h]; exact Bool.false_ne_true)]
              have hlk := HLN.out k (by omega)
              have hprk := HPR.out k
              have hank := HANK.out k (by omega)
              have HAK := hid hank
              clear cp hrs hsl hss hank
              generalize exK al r k E = O at *
              generalize pick r.2 (rw_ al k) = sh at *
              go_wp2_with fail
              refine CP.out.mono ?_
              rintro e w6 ⟨v6, rfl, ho6, hb6⟩
              obtain ⟨A6, c6, rfl, _, _, hr6⟩ := Own.int ho6
              have hpl := HPL.out
              rw [hpl]
              rw [hpl] at ho6
              have hz6 := hb6.size
              have RK6 := hid (RK.out.below ZK.out hb6)
              have XK6 := hid (XK.out.below hb6)
              have TK16 := hid (TK1.out.keep (Kp.of hb6))
              have TK26 := hid (TK2.out.keep (Kp.of hb6))
              have TS6 := hid (RdT.of (kb := kb0) (c := c6) (n := n) (A := A6) (w := w6) (lo := wk.heap.size) (hi := w6.heap.size) (xs := sh) ho6 (fun _ _ q => q))
              have hbo6 : w6.cell? ⟨bo, 0, none⟩ = some vo := by rw [cell_of_row _ _ _ _ _ _ RK6.out.box]; rfl
              have CS := hid (i_seenA w6 bo w.heap.size kb0 vo A6 c6 n O sh (by omega) hpl hn HAK.out hbo6 RK6.out.o hr6)
              have ZK6 := ZK.out
              clear RK XK TK1 TK2 CP ho6 hb6 hr6 hpl hcs hccs y0 y1 hbo6 ZK
              cases hsn : seenB O sh with
              | true =>
                rw [hsn] at CS
                have HEK := hid (HE1.out hsn)
                clear HE1 HE2 hsn TS6
                go_wp2_with fail
                refine CS.out.mono ?_
                rintro e w7 ⟨rfl, hb7⟩
                have hz7 := hb7.size
                have RK7 := hid (RK6.out.below (Nat.le_trans ZK6 hz6) hb7)
                have XK7 := hid (XK6.out.below hb7)
                have TK17 := hid (TK16.out.keep (Kp.of hb7))
                have TK27 := hid (TK26.out.keep (Kp.of hb7))
                clear CS RK6 XK6 TK16 TK26 hb7
                go_wp2_with fail
                go_roundg (al.length - (k + 1))
                case measure => omega
                case rel => exact ⟨k + 1, by omega, by omega, by go_num, vo, An, cn, by rw [HEK.out], by show _ ≤ _; omega, by unfold Aside; rw [HEK.out]; exact RK7.out, XK7.out, TK17.out, TK27.out⟩
              | false =>
                rw [hsn] at CS
                have HEK := hid (HE2.out hsn)
                clear HE1 HE2 hsn
                go_wp2_with fail
                refine CS.out.mono ?_
                rintro e w7 ⟨rfl, hb7⟩
                have hz7 := hb7.size
                have RK7 := hid (RK6.out.below (Nat.le_trans ZK6 hz6) hb7)
                have XK7 := hid (XK6.out.below hb7)
                have TK17 := hid (TK16.out.keep (Kp.of hb7))
                have TK27 := hid (TK26.out.keep (Kp.of hb7))
                have TS7 := hid (TS6.out.keep (Kp.of hb7))
                have z0 : w7.cell? ⟨br, 0, none⟩ = some (.slice A1 l c1') := by rw [cell_of_row _ _ _ _ _ _ XK7.out.at_]; rfl
                have CL := hid (g_CloneM w7 A1 c1' l r.1 HST1.out (by omega) TK17.out.rd)
                clear CS RK6 XK6 TK16 TK26 hb7 TS6
                go_wp2_with fail
                refine CL.out.mono ?_
                rintro e w8 ⟨A8, c8, rfl, ho8, hb8⟩
                have hz8 := hb8.size
                have ho8l : Own w8 w7.heap.size w8.heap.size 2 1 (.slice A8 l c8) l (ints r.1) := by
                  have := ho8; unfold OI OwnI at this; rw [HST1.out] at this; exact this
                have HO8L := hid ho8l
                have HB8 := hid hb8
                clear CL ho8 ho8l hb8 z0
                go_wp2_with (at_builtin; refine wp_append1 w7.heap.size rfl _ _ 29 2 (.int .i64 0) 8 rfl Try.underlying29 infoInt rfl (.slice A8 l c8) l _ (.int .i64 (k : Nat)) rfl rfl rfl HO8L.out hz8 (by omega) (by omega) ?_; intro v9 w9 hown9 hbel9; obtain ⟨A9, c9, e9, _, _, _⟩ := Own.shape hown9; subst e9; have HO9 := hid hown9; have HB9 := hid (HB8.out.trans hbel9); clear hown9 hbel9)
                have h9l : OwnI w9 w7.heap.size w9.heap.size 2 (.slice A9 (l + 1) c9) (r.1 ++ [(k : Int)]) := by
                  have := HO9.out
                  unfold OwnI
                  rw [ints_append, List.length_append, HST1.out]
                  exact this
                have hpk : PK w9 w.heap.size kb0 (.slice A9 (l + 1) c9) (.slice A6 n c6) (r.1 ++ [(k : Int)], sh) := ⟨A9, c9, A6, c6, by simp [HST1.out], by simp [HPL.out], RdT.of h9l fun _ _ q => q, TS7.out.keep (Kp.of HB9.out), (by have q := (Own.wide h9l (show w.heap.size ≤ w7.heap.size by omega) (Nat.le_refl w9.heap.size)); simp only [List.length_append, List.length_singleton, HST1.out]; exact q), fun _ _ q => q⟩
                have hbv := ballocw w9 (.cells #[.slice A9 (l + 1) c9, .slice A6 n c6] 104)
                have hz9 := HB9.out.size
                have hsv : (w9.alloc (.cells #[.slice A9 (l + 1) c9, .slice A6 n c6] 104)).heap.size = w9.heap.size + 1 := by simp
                have HSV : Hid (SK (w9.alloc (.cells #[.slice A9 (l + 1) c9, .slice A6 n c6] 104)) w w.heap.size bo vo vo (.slice An (O.length - O0.length) cn) (.slice (some ⟨bw, 0, none⟩) m cw) O (nxt O O0.length) (O0.drop a0) br (.cells #[.slice A1 l c1', .slice A2 n c2'] 104) w9.heap.size (.slice A9 (l + 1) c9) (.slice A6 n c6) (r.1 ++ [(k : Int)], sh) A1 A2 r) := hid
                  ⟨(RK7.out.below (by omega) HB9.out).below (by omega) hbv, (XK7.out.below HB9.out).below hbv, ⟨heap_alloc_new _ _, fun q => by have := (RK7.out.o.own q).2.1; omega, fun q => by have := (RK7.out.n.own q).2.1; omega⟩, (TK17.out.keep (Kp.of HB9.out)).keep (Kp.of hbv), (TK27.out.keep (Kp.of HB9.out)).keep (Kp.of hbv), hpk.keep (Kp.of hbv), by omega⟩
                have hbrbo : br ≠ bo := fun q => by
                  have h1 := XK7.out.at_
                  rw [q, RK7.out.box] at h1
                  cases h1
                have h1bo : w9.heap.size ≠ bo := by
                  have := lt_of_heap RK7.out.box
                  omega
                clear RK7 XK7 TK17 TK27 TS7 HO8L HB8 HO9 HB9 h9l hpk hbv
                generalize hV : w9.alloc (.cells #[.slice A9 (l + 1) c9, .slice A6 n c6] 104) = V at *
                clear hV
                generalize w9.heap.size = b14 at *
                have HS1 : Hid (SK (V.alloc (.cells #[.slice A9 (l + 1) c9, .slice A6 n c6] 104)).drew w w.heap.size bo vo vo (.slice An (O.length - O0.length) cn) (.slice (some ⟨bw, 0, none⟩) m cw) O (nxt O O0.length) (O0.drop a0) br (.cells #[.slice A1 l c1', .slice A2 n c2'] 104) b14 (.slice A9 (l + 1) c9) (.slice A6 n c6) (r.1 ++ [(k : Int)], sh) A1 A2 r) := hid ((HSV.out.below (bdrewL V)).below (ballocw V.drew (.cells #[.slice A9 (l + 1) c9, .slice A6 n c6] 104)))
                have HS2 : Hid (SK ((V.alloc (.cells #[.slice A9 (l + 1) c9, .slice A6 n c6] 104)).alloc (.cells #[.slice A9 (l + 1) c9, .slice A6 n c6] 104)).drew w w.heap.size bo vo vo (.slice An (O.length - O0.length) cn) (.slice (some ⟨bw, 0, none⟩) m cw) O (nxt O O0.length) (O0.drop a0) br (.cells #[.slice A1 l c1', .slice A2 n c2'] 104) b14 (.slice A9 (l + 1) c9) (.slice A6 n c6) (r.1 ++ [(k : Int)], sh) A1 A2 r) := hid (((HSV.out.below (bdrewL V)).below (ballocw V.drew (.cells #[.slice A9 (l + 1) c9, .slice A6 n c6] 104))).below (ballocw (V.drew.alloc (.cells #[.slice A9 (l + 1) c9, .slice A6 n c6] 104)) (.cells #[.slice A9 (l + 1) c9, .slice A6 n c6] 104)))
                have k0 := HSV.out.boxc.1
                have k1 : (V.alloc (.cells #[.slice A9 (l + 1) c9, .slice A6 n c6] 104)).cell? ⟨bo, 0, none⟩ = some vo := HS1.out.boxc.1
                have k2 : ((V.alloc (.cells #[.slice A9 (l + 1) c9, .slice A6 n c6] 104)).alloc (.cells #[.slice A9 (l + 1) c9, .slice A6 n c6] 104)).cell? ⟨bo, 0, none⟩ = some vo := HS2.out.boxc.1
                obtain ⟨e0, e1⟩ := HSV.out.cells
                have e2 : (V.alloc (.cells #[.slice A9 (l + 1) c9, .slice A6 n c6] 104)).cell? ⟨b14, 0, none⟩ = some (.slice A9 (l + 1) c9) := HS1.out.cells.1
                have e3 : (V.alloc (.cells #[.slice A9 (l + 1) c9, .slice A6 n c6] 104)).cell? ⟨b14, 1, none⟩ = some (.slice A6 n c6) := HS1.out.cells.2
                have c10 : (V.alloc (.cells #[.slice A9 (l + 1) c9, .slice A6 n c6] 104)).drew.heap[V.heap.size]? = some (.cells #[.slice A9 (l + 1) c9, .slice A6 n c6] 104) := heap_alloc_new V _
                have hs1 : (V.alloc (.cells #[.slice A9 (l + 1) c9, .slice A6 n c6] 104)).heap.size = V.heap.size + 1 := by simp
                have hs2 : ((V.alloc (.cells #[.slice A9 (l + 1) c9, .slice A6 n c6] 104)).alloc (.cells #[.slice A9 (l + 1) c9, .slice A6 n c6] 104)).drew.heap.size = V.heap.size + 1 + 1 := by show ((V.alloc (.cells #[.slice A9 (l + 1) c9, .slice A6 n c6] 104)).alloc (.cells #[.slice A9 (l + 1) c9, .slice A6 n c6] 104)).heap.size = _; simp
                have c21 : ((V.alloc (.cells #[.slice A9 (l + 1) c9, .slice A6 n c6] 104)).alloc (.cells #[.slice A9 (l + 1) c9, .slice A6 n c6] 104)).drew.heap[V.heap.size + 1]? = some (.cells #[.slice A9 (l + 1) c9, .slice A6 n c6] 104) := by rw [← hs1]; exact heap_alloc_new _ _
                have c20 : ((V.alloc (.cells #[.slice A9 (l + 1) c9, .slice A6 n c6] 104)).alloc (.cells #[.slice A9 (l + 1) c9, .slice A6 n c6] 104)).drew.heap[V.heap.size]? = some (.cells #[.slice A9 (l + 1) c9, .slice A6 n c6] 104) := (heap_alloc_old (V.alloc (.cells #[.slice A9 (l + 1) c9, .slice A6 n c6] 104)) (.cells #[.slice A9 (l + 1) c9, .slice A6 n c6] 104) (by omega)).trans c10
                have hl20 : V.heap.size < ((V.alloc (.cells #[.slice A9 (l + 1) c9, .slice A6 n c6] 104)).alloc (.cells #[.slice A9 (l + 1) c9, .slice A6 n c6] 104)).drew.heap.size := by omega
                have hl21 : V.heap.size + 1 < ((V.alloc (.cells #[.slice A9 (l + 1) c9, .slice A6 n c6] 104)).alloc (.cells #[.slice A9 (l + 1) c9, .slice A6 n c6] 104)).drew.heap.size := by omega
                have hne0 : vo.ownBlock ≠ some V.heap.size := fun q => by have := (HSV.out.j.o.own q).2.1; omega
                have hne1 : vo.ownBlock ≠ some (V.heap.size + 1) := fun q => by have := (HSV.out.j.o.own q).2.1; omega
                clear hsv hs1 hs2
                go_region_law (first | (refine step_appQ 105 104 rei_ne Try.underlying105 infoReach w.heap.size V.heap.size kb0 rfl _ _ rfl vo O (r.1 ++ [(k : Int)], sh) (.slice A9 (l + 1) c9) (.slice A6 n c6) rfl rfl rfl rfl c10 HS1.out.j.o HS1.out.p HS1.out.z (by omega) ?_; intro g20 cap20 w20 hq20 hkp20 hke20 hat20 hbe20; have HT2 := hid (HS1.out.appO (Apd.of hkp20 hke20 hat20 hbe20) hq20); have f20 := HT2.out.cells; obtain ⟨e4, e5⟩ := f20; have HT2b := hid (HT2.out.below (ballocw w20 (.cells #[.slice A9 (l + 1) c9, .slice A6 n c6] 104))); have c2a : (w20.alloc (.cells #[.slice A9 (l + 1) c9, .slice A6 n c6] 104)).heap[w20.heap.size]? = some (.cells #[.slice A9 (l + 1) c9, .slice A6 n c6] 104) := heap_alloc_new _ _) | (refine step_appQ 105 104 rei_ne Try.underlying105 infoReach w.heap.size V.heap.size kb0 rfl _ _ rfl vo O (r.1 ++ [(k : Int)], sh) (.slice A9 (l + 1) c9) (.slice A6 n c6) rfl rfl rfl rfl c20 HS2.out.j.o HS2.out.p HS2.out.z (by omega) ?_; intro g20 cap20 w20 hq20 hkp20 hke20 hat20 hbe20; have HT2 := hid (HS2.out.appO (Apd.of hkp20 hke20 hat20 hbe20) hq20); have c2b := (hke20 (V.heap.size + 1) hl21 hne1).trans c21) | (refine step_appQ 105 104 rei_ne Try.underlying105 infoReach w.heap.size (V.heap.size + 1) kb0 rfl _ _ rfl vo O (r.1 ++ [(k : Int)], sh) (.slice A9 (l + 1) c9) (.slice A6 n c6) rfl rfl rfl rfl c21 HS2.out.j.o HS2.out.p HS2.out.z (by omega) ?_; intro g20 cap20 w20 hq20 hkp20 hke20 hat20 hbe20; have HT2 := hid (HS2.out.appO (Apd.of hkp20 hke20 hat20 hbe20) hq20); have c2c := (hke20 V.heap.size hl20 hne0).trans c20) | (refine step_appQ 105 104 rei_ne Try.underlying105 infoReach w.heap.size w20.heap.size kb0 rfl _ _ rfl (.slice An (O.length - O0.length) cn) (nxt O O0.length) (r.1 ++ [(k : Int)], sh) (.slice A9 (l + 1) c9) (.slice A6 n c6) rfl rfl rfl rfl c2a HT2b.out.j.n HT2b.out.p HT2b.out.z (by rw [nxt_length]; omega) ?_; intro g30 cap30 w30 hq30 hkp30 hke30 hat30 hbe30; rw [nxt_length] at hq30; rw [nxt_length]; have HT3 := hid (HT2b.out.appN (Apd.of hkp30 hke30 hat30 hbe30) hq30); have q31 := HT3.out.boxc; obtain ⟨q31, f31⟩ := q31; have HT4 := hid (HT3.out.store hbrbo h1bo)) | (refine step_appQ 105 104 rei_ne Try.underlying105 infoReach w.heap.size (V.heap.size + 1) kb0 rfl _ _ rfl (.slice An (O.length - O0.length) cn) (nxt O O0.length) (r.1 ++ [(k : Int)], sh) (.slice A9 (l + 1) c9) (.slice A6 n c6) rfl rfl rfl rfl c2b HT2.out.j.n HT2.out.p HT2.out.z (by rw [nxt_length]; omega) ?_; intro g30 cap30 w30 hq30 hkp30 hke30 hat30 hbe30; rw [nxt_length] at hq30; rw [nxt_length]; have HT3 := hid (HT2.out.appN (Apd.of hkp30 hke30 hat30 hbe30) hq30); have q31 := HT3.out.boxc; obtain ⟨q31, f31⟩ := q31; have HT4 := hid (HT3.out.store hbrbo h1bo)) | (refine step_appQ 105 104 rei_ne Try.underlying105 infoReach w.heap.size V.heap.size kb0 rfl _ _ rfl (.slice An (O.length - O0.length) cn) (nxt O O0.length) (r.1 ++ [(k : Int)], sh) (.slice A9 (l + 1) c9) (.slice A6 n c6) rfl rfl rfl rfl c2c HT2.out.j.n HT2.out.p HT2.out.z (by rw [nxt_length]; omega) ?_; intro g30 cap30 w30 hq30 hkp30 hke30 hat30 hbe30; rw [nxt_length] at hq30; rw [nxt_length]; have HT3 := hid (HT2.out.appN (Apd.of hkp30 hke30 hat30 hbe30) hq30); have q31 := HT3.out.boxc; obtain ⟨q31, f31⟩ := q31; have HT4 := hid (HT3.out.store hbrbo h1bo)))
                all_goals
                  have HNX : Hid (nxt (O ++ [(r.1 ++ [(k : Int)], sh)]) O0.length = nxt O O0.length ++ [(r.1 ++ [(k : Int)], sh)]) := hid (nxt_app hprk _)
                  have HLE : Hid ((O ++ [(r.1 ++ [(k : Int)], sh)]).length - O0.length = O.length - O0.length + 1) := hid (by simp; omega)
                  have HLO : Hid ((O ++ [(r.1 ++ [(k : Int)], sh)]).length = O.length + 1) := hid (by simp)
                  clear HSV HS1 HS2 k0 k1 k2 c10 c21 c20 hne0 hne1 HT2
                  go_wp2
                  go_roundg (al.length - (k + 1))
                  case measure => exact HMZ.out
                  case rel => exact ⟨k + 1, HK1.out, Nat.le_refl _, by go_num, _, _, _, by rw [HEK.out, HLE.out], HT4.out.z, by unfold Aside; rw [HEK.out, HNX.out]; exact HT4.out.j, HT4.out.xb, HT4.out.t1, HT4.out.t2⟩
            · obtain rfl : k = al.length := by omega
              have hnlt : ¬ (al.length : Int) < (al.length : Int) := by omega
              go_wp2_with fail
              go_roundg (m - (j + 1))
              case measure => omega
              case rel => exact ⟨j + 1, by omega, by omega, by go_num, vo, An, cn, by rw [HXS.out], ZK, by unfold Aside; rw [HXS.out]; exact RK.out⟩
        · obtain rfl : j = m := by omega
          have hnlt : ¬ (j : Int) < (j : Int) := by omega
          go_wp2_with fail
          go_roundg (most - (l + 1))
          case measure => omega
          case rel => exact ⟨l + 1, by omega, by omega, by go_num, vo, An, cn, by rw [HLS.out, HLA.out], ZJ, by unfold Aside; rw [HLS.out, HLA.out]; exact RI.turn RJJ.out⟩
    · obtain rfl : l = most := by omega
      have hnlt : ¬ (l : Int) < (l : Int) := by omega
      obtain ⟨A9, c9, F9, rfl, _⟩ := RW.out.o.seen
      have x0 : wl.cell? ⟨bo, 0, none⟩ = some (.slice A9 (lvO al n l).length c9) := by rw [cell_of_row _ _ _ _ _ _ RW.out.box]; rfl
      have HF := hid RW.out
      go_wp2_with fail
      go_ret
      exact ⟨A9, c9, rfl, HF.out.o, HF.out.bel⟩
end Go.Proofs.Ytolcmehndambmaa
