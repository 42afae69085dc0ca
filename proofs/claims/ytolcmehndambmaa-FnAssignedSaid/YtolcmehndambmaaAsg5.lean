import Derived.Test.YtolcmehndambmaaAsg4
import Derived.Test.YtolcmehndambmaaReg
import Derived.Laws.EntriesVeiled
set_option linter.unusedVariables false
set_option linter.unusedSimpArgs false
namespace Go.Proofs.Ytolcmehndambmaa
open Go.RowKit

/-- The boxes and rows of AssignRegisters: the ranges' box at D, the order in lo1..hi1, the list in lo2..hi2, its box at O. -/
structure ArW (w : World) (D O : Nat) (A : Option Addr) (c : Nat) (rs : List PI) (A6 : Option Addr) (c6 : Nat) (Ao : Option Addr) (co : Nat) (lo1 hi1 lo2 hi2 : Nat) (out : List Int) (W : World) : Prop where
  below : Below w.heap.size w W
  box : W.heap[D]? = some (.cells #[.slice A rs.length c] 24)
  ord : OwnI W lo1 hi1 2 (.slice A6 rs.length c6) (ordR rs)
  obox : W.heap[O]? = some (.cells #[.slice Ao rs.length co] 29)
  out_ : OwnI W lo2 hi2 2 (.slice Ao rs.length co) out
  h1 : w.heap.size ≤ D
  h2 : D < lo1
  h3 : lo1 ≤ hi1
  h4 : hi1 ≤ lo2
  h5 : lo2 ≤ hi2
  h6 : hi2 ≤ O
  h7 : O < W.heap.size
theorem ArW.later {w W W' : World} {D O : Nat} {A : Option Addr} {c : Nat} {rs : List PI} {A6 : Option Addr} {c6 : Nat} {Ao : Option Addr} {co lo1 hi1 lo2 hi2 : Nat} {out : List Int} (h : ArW w D O A c rs A6 c6 Ao co lo1 hi1 lo2 hi2 out W) (hb : Below W.heap.size W W') : ArW w D O A c rs A6 c6 Ao co lo1 hi1 lo2 hi2 out W' := by
  have h1 := h.h1; have h2 := h.h2; have h3 := h.h3; have h4 := h.h4; have h5 := h.h5; have h6 := h.h6; have h7 := h.h7
  have hz := hb.size
  exact ⟨bthen h.below hb, (hb.block _ (by omega)).trans h.box, h.ord.eqv (Eqv.of hb (by omega)), (hb.block _ (by omega)).trans h.obox, h.out_.eqv (Eqv.of hb (by omega)), h1, h2, h3, h4, h5, h6, by omega⟩
theorem ArW.at {w W : World} {D O : Nat} {A : Option Addr} {c : Nat} {rs : List PI} {A6 : Option Addr} {c6 : Nat} {Ao : Option Addr} {co lo1 hi1 lo2 hi2 : Nat} {out : List Int} (h : ArW w D O A c rs A6 c6 Ao co lo1 hi1 lo2 hi2 out W) {j : Nat} (hj : j < out.length) :
    ∃ g, Ao = some ⟨g, 0, none⟩ ∧ W.cell? ⟨g, j, none⟩ = some (.int .i64 (el out j)) ∧ W.frozen? ⟨g, j, none⟩ = false ∧ ∀ x, ArW w D O A c rs A6 c6 Ao co lo1 hi1 lo2 hi2 (out.set j x) (W.setCell ⟨g, j, none⟩ (.int .i64 x)) := by
  have h1 := h.h1; have h2 := h.h2; have h3 := h.h3; have h4 := h.h4; have h5 := h.h5; have h6 := h.h6; have h7 := h.h7
  obtain ⟨g, rfl, g1, g2, p1, p2, pset⟩ := OwnI.at h.out_ hj
  refine ⟨g, rfl, p1, p2, fun x => ?_⟩
  have hc := chg_set W g1 g2 j (.int .i64 x)
  have hz := hc.size
  exact ⟨h.below.trans (hc.below (by omega) h.below.size), (hc.block _ (by omega) (.inl (by omega))).trans h.box, h.ord.eqv (hc.eqv (.inl (by omega)) (by omega)), (hc.block _ (by omega) (.inr (by omega))).trans h.obox, pset x, h1, h2, h3, h4, h5, h6, by omega⟩
set_option maxRecDepth 100000 in
set_option maxHeartbeats 1000000 in
theorem i_AssignRegisters1 (w : World) (A : Option Addr) (c : Nat) (rs : List PI) (R : Int) (hr : rngsB rs = true) (hq : inB R 0 12 = true) (hR : RdP w A rs)
    (C0 : Hid (∀ W, Below w.heap.size w W → Calls Try.prog 16 #[.slice A rs.length c] W fun e w' => e = .returned (.bool true) ∧ Below W.heap.size W w')) :
    Calls Try.prog 15 #[.slice A rs.length c, .int .i64 R] w (RetIB w (asgR (asgN rs R rs.length))) := by
  have hn := rngs_len hr
  have C1 := hid (fun W => i_isRegisters W R)
  rw [hq] at C1
  have CS := hid (fun W => i_same W rs.length (by omega))
  have HRR := hid hr
  have HRD := hid hR
  have HB0 : Hid (Below w.heap.size w (w.alloc (.cells #[.slice A rs.length c] 24))) := hid (ballocw _ _)
  have HX0 : Hid ((w.alloc (.cells #[.slice A rs.length c] 24)).heap[w.heap.size]? = some (.cells #[.slice A rs.length c] 24)) := hid (heap_alloc_new _ _)
  have CV := hid (C0.out _ HB0.out)
  have hz0 : (w.alloc (.cells #[.slice A rs.length c] 24)).heap.size = w.heap.size + 1 := by simp
  clear hr hR hq C0
  obtain ⟨res, hres⟩ : ∃ res, res = asgN rs R rs.length := ⟨_, rfl⟩
  have HRES := hid hres
  rw [← hres]
  clear hres
  obtain ⟨W0, hW0⟩ : ∃ W0, W0 = w.alloc (.cells #[.slice A rs.length c] 24) := ⟨_, rfl⟩
  go_enter Try.func15, Try.ntmps15
  go_wp2_with fail
  refine CV.out.mono ?_
  rintro e w1 ⟨rfl, hb1⟩
  rw [← hW0] at hb1 HX0 HB0 hz0
  clear hW0
  have hz1 := hb1.size
  have HX1 : Hid (w1.heap[w.heap.size]? = some (.cells #[.slice A rs.length c] 24)) := hid ((hb1.block _ (by omega)).trans HX0.out)
  have k1 : w1.cell? ⟨w.heap.size, 0, none⟩ = some (.slice A rs.length c) := by rw [cell_of_row _ _ _ _ _ _ HX1.out]; rfl
  have HB1 := hid (bthen HB0.out hb1)
  clear CV HX0 HB0 hb1
  go_wp2_with fail
  refine (C1.out _).mono ?_
  rintro e w2 ⟨rfl, rfl⟩
  have C2 := hid (CS.out w1)
  clear C1 CS
  go_wp2_with fail
  refine C2.out.mono ?_
  rintro e w3 ⟨v6, rfl, ho6, hb3⟩
  obtain ⟨A6, c6, rfl, _, _, _⟩ := Own.int ho6
  have hil := idl_length rs.length
  rw [hil] at ho6
  have HO6 := hid ho6
  have HX3 : Hid (w3.heap[w.heap.size]? = some (.cells #[.slice A rs.length c] 24)) := hid ((hb3.block _ (by omega)).trans HX1.out)
  have k3 : w3.cell? ⟨w.heap.size, 0, none⟩ = some (.slice A rs.length c) := by rw [cell_of_row _ _ _ _ _ _ HX3.out]; rfl
  have HB3 := hid (bthen HB1.out hb3)
  have hz3 := hb3.size
  have hC : CmpC w3 w1.heap.size w3.heap.size 58 #[.pointer (some ⟨w.heap.size, 0, none⟩)] rs := fun W hW i k hi hk => by
    have hxw : W.heap[w.heap.size]? = some (.cells #[.slice A rs.length c] 24) := (hW.block _ (by omega) (.inl (by omega))).trans HX3.out
    exact i_AR1 W w.heap.size A c rs i k HRR.out hi hk (by rw [cell_of_row _ _ _ _ _ _ hxw]; rfl) (HRD.out.below (HB3.out.trans (hW.below (by omega) (by omega))))
  have C3 := hid (i_SortStable w3 w1.heap.size w3.heap.size A6 c6 58 #[.pointer (some ⟨w.heap.size, 0, none⟩)] rs HRR.out (Nat.le_refl _) (enters_of Try.func58 (by kernel_rfl) rfl) hC HO6.out)
  rw [hil]
  clear C2 ho6 hb3 hC HX1 HB1 k1 HO6 hil
  go_wp2_with fail
  refine C3.out.mono ?_
  rintro e w4 ⟨rfl, hc4, ho4⟩
  have HX4 : Hid (w4.heap[w.heap.size]? = some (.cells #[.slice A rs.length c] 24)) := hid ((hc4.block _ (by omega) (.inl (by omega))).trans HX3.out)
  have k4 : w4.cell? ⟨w.heap.size, 0, none⟩ = some (.slice A rs.length c) := by rw [cell_of_row _ _ _ _ _ _ HX4.out]; rfl
  have HB4 := hid (HB3.out.trans (hc4.below (by omega : w.heap.size ≤ w1.heap.size) (by omega)))
  have hz4 := hc4.size
  have HO4 := hid ho4
  have c4 := i_lanesOf w4 rs.length 60 #[] (fun _ => -1) (by omega) (enters_of Try.func60 (by kernel_rfl) rfl) (fun W hW k hk => i_AR2 W k)
  rw [map_const] at c4
  have C4 := hid c4
  clear C3 hc4 ho4 c4 HX3 HB3 k3
  go_wp2_with fail
  refine C4.out.mono ?_
  rintro e w5 ⟨v7, rfl, ho7, hb5⟩
  obtain ⟨Ao, co, rfl, _, _, _⟩ := Own.int ho7
  have hrl : (List.replicate rs.length (-1 : Int)).length = rs.length := List.length_replicate
  rw [hrl] at ho7
  rw [hrl]
  have hz5 := hb5.size
  have hAR : ArW w w.heap.size w5.heap.size A c rs A6 c6 Ao co w1.heap.size w3.heap.size w4.heap.size w5.heap.size (List.replicate rs.length (-1)) (w5.alloc (.cells #[.slice Ao rs.length co] 29)) := by
    have hb6 := ballocw w5 (.cells #[.slice Ao rs.length co] 29)
    exact ⟨bthen (bthen HB4.out hb5) hb6, (hb6.block _ (by omega)).trans ((hb5.block _ (by omega)).trans HX4.out), (HO4.out.eqv (Eqv.of hb5 (by omega))).eqv (Eqv.of hb6 (by omega)), heap_alloc_new _ _, Own.eqv ho7 (Eqv.of hb6 (Nat.le_refl _)), Nat.le_refl _, by omega, by omega, by omega, by omega, Nat.le_refl _, by simp⟩
  have HAR := hid hAR
  have HA0 : Hid (asgN rs R 0 = some (List.replicate rs.length (-1))) := hid rfl
  have HAS : Hid (∀ m, asgN rs R (m + 1) = match asgN rs R m with
    | none => none
    | some out => if regN rs out (el (ordR rs) m).toNat < R then some (out.set (el (ordR rs) m).toNat (regN rs out (el (ordR rs) m).toNat)) else none) := hid fun _ => rfl
  clear C4 ho7 hb5 HX4 HB4 k4 HO4 hrl hAR
  generalize w1.heap.size = lo1 at *
  generalize w3.heap.size = hi1 at *
  generalize w4.heap.size = lo2 at *
  generalize hOO : w5.heap.size = O at *
  clear hz0 hz1 hz3 hz4 hz5
  go_wp2_with fail
  go_loopg [31] rs.length (fun gg s wr => ∃ m : Nat, m ≤ rs.length ∧ rs.length - m ≤ gg ∧ s = .int .i64 m ∧ Aside (∃ out, asgN rs R m = some out ∧ ArW w w.heap.size O A c rs A6 c6 Ao co lo1 hi1 lo2 O out wr))
  case atStart => exact ⟨0, Nat.zero_le _, by omega, rfl, _, HA0.out, hOO ▸ HAR.out⟩
  case round =>
    obtain ⟨m, hm, hgm, rfl, XX⟩ := hrel
    clear HAR HA0
    obtain ⟨out, hout, hA⟩ := XX.out
    clear XX
    by_cases hlt : m < rs.length
    · have hlt' : (m : Int) < (rs.length : Int) := by omega
      have hinv := asg_inv hm hout
      have hol := hinv.len
      obtain ⟨j, hj, hjn⟩ := ord_in rs hlt
      obtain ⟨g6, rfl, _, _, p6, _, _⟩ := OwnI.at hA.ord (k := m) (by rw [ordR_length]; exact hlt)
      rw [hj] at p6
      have HASm := hid (HAS.out m)
      rw [hout, hj, Int.toNat_natCast] at HASm
      have hrr := reg_range rs out j
      have HRT := hid (fun q h0 h1 => reg_taken rs out j (q := q) h0 h1)
      have HRF := hid (reg_free hol j)
      have HNO := hid (fun h => asg_none (R := R) (rs := rs) (m := m + 1) (j := rs.length) h hlt)
      have HA := hid hA
      have HOL := hid hol
      have h7 := hA.h7
      have h1 := hA.h1
      have h2 := hA.h2
      have h3 := hA.h3
      have h4 := hA.h4
      have h5 := hA.h5
      have h6 := hA.h6
      obtain ⟨W3, hW3⟩ : ∃ W3, W3 = ((wr.alloc (.cells #[.int .i64 (j : Nat)] 2)).alloc (.cells #[.int .i64 0] 2)).alloc (.cells #[.func (.func 61) #[] #[.pointer (some ⟨O, 0, none⟩), .pointer (some ⟨wr.heap.size + 1, 0, none⟩), .pointer (some ⟨w.heap.size, 0, none⟩), .pointer (some ⟨wr.heap.size, 0, none⟩)]] 84) := ⟨_, rfl⟩
      have hb3 : Below wr.heap.size wr W3 := by rw [hW3]; exact balloc (balloc (ballocw _ _) _) _
      have hw3 : W3.heap.size = wr.heap.size + 3 := by rw [hW3]; simp
      have r1 : W3.heap[wr.heap.size]? = some (.cells #[.int .i64 (j : Nat)] 2) := by
        rw [hW3, heap_alloc_old _ _ (by simp <;> omega), heap_alloc_old _ _ (by simp <;> omega)]; exact heap_alloc_new _ _
      have r2 : W3.heap[wr.heap.size + 1]? = some (.cells #[.int .i64 0] 2) := by
        rw [hW3, heap_alloc_old _ _ (by simp <;> omega)]
        have := heap_alloc_new (wr.alloc (.cells #[.int .i64 (j : Nat)] 2)) (.cells #[.int .i64 0] 2)
        rwa [show (wr.alloc (.cells #[.int .i64 (j : Nat)] 2)).heap.size = wr.heap.size + 1 by simp] at this
      have r3 : W3.heap[wr.heap.size + 2]? = some (.cells #[.func (.func 61) #[] #[.pointer (some ⟨O, 0, none⟩), .pointer (some ⟨wr.heap.size + 1, 0, none⟩), .pointer (some ⟨w.heap.size, 0, none⟩), .pointer (some ⟨wr.heap.size, 0, none⟩)]] 84) := by
        rw [hW3]
        have := heap_alloc_new ((wr.alloc (.cells #[.int .i64 (j : Nat)] 2)).alloc (.cells #[.int .i64 0] 2)) (.cells #[.func (.func 61) #[] #[.pointer (some ⟨O, 0, none⟩), .pointer (some ⟨wr.heap.size + 1, 0, none⟩), .pointer (some ⟨w.heap.size, 0, none⟩), .pointer (some ⟨wr.heap.size, 0, none⟩)]] 84)
        rwa [show ((wr.alloc (.cells #[.int .i64 (j : Nat)] 2)).alloc (.cells #[.int .i64 0] 2)).heap.size = wr.heap.size + 2 by simp] at this
      -- what holds in each world of the search
      have HK : Hid (∀ W, Chg (wr.heap.size + 1) (wr.heap.size + 2) W3 W → W.heap[wr.heap.size]? = some (.cells #[.int .i64 (j : Nat)] 2) ∧ W.heap[wr.heap.size + 2]? = some (.cells #[.func (.func 61) #[] #[.pointer (some ⟨O, 0, none⟩), .pointer (some ⟨wr.heap.size + 1, 0, none⟩), .pointer (some ⟨w.heap.size, 0, none⟩), .pointer (some ⟨wr.heap.size, 0, none⟩)]] 84) ∧
          ArW w w.heap.size O A c rs (some ⟨g6, 0, none⟩) c6 Ao co lo1 hi1 lo2 O out W) := hid fun W hW => by
        have hb : Below wr.heap.size wr W := hb3.trans (hW.below (by omega) (by omega))
        exact ⟨(hW.block _ (by omega) (.inl (by omega))).trans r1, (hW.block _ (by omega) (.inr (by omega))).trans r3, HA.out.later hb⟩
      have HTK : Hid (∀ W r, Chg (wr.heap.size + 1) (wr.heap.size + 2) W3 W → W.heap[wr.heap.size + 1]? = some (.cells #[.int .i64 r] 2) →
          Calls Try.prog 63 #[.slice (some ⟨g6, 0, none⟩) rs.length c6, .func (.func 64) #[] #[.pointer (some ⟨wr.heap.size + 2, 0, none⟩)]] W fun e w' => e = .returned (.bool (tknN rs out j r rs.length)) ∧ Below W.heap.size W w') := hid fun W r hW hr => by
        obtain ⟨q1, q2, q3⟩ := HK.out W hW
        exact i_taken W (wr.heap.size + 2) O (wr.heap.size + 1) w.heap.size wr.heap.size Ao A (some ⟨g6, 0, none⟩) co c c6 out r rs j HOL.out hn hjn
          ⟨by rw [cell_of_row _ _ _ _ _ _ q3.obox]; rfl, by rw [cell_of_row _ _ _ _ _ _ hr]; rfl, by rw [cell_of_row _ _ _ _ _ _ q3.box]; rfl, by rw [cell_of_row _ _ _ _ _ _ q1]; rfl, OwnI.rd q3.out_, HRD.out.below q3.below⟩
          (by rw [cell_of_row _ _ _ _ _ _ q2]; rfl) (OwnI.rd q3.ord)
      have R2 := hid r2
      clear hinv hol hA hout r1 r2 r3 HAS
      go_wp2_with fail
      rw [← hW3]
      clear hW3
      obtain ⟨wo, rfl⟩ : ∃ wo : World, wo = wr := ⟨_, rfl⟩
      go_loopg [40] (regN rs out j).toNat (fun gg s wr => ∃ r : Int, 0 ≤ r ∧ r ≤ regN rs out j ∧ (regN rs out j - r).toNat ≤ gg ∧ Aside (Chg (wo.heap.size + 1) (wo.heap.size + 2) W3 wr) ∧ Aside (wr.heap[wo.heap.size + 1]? = some (.cells #[.int .i64 r] 2)))
      case atStart => exact ⟨0, Int.le_refl _, hrr.1, by omega, Chg.refl _ _ _, R2.out⟩
      case round =>
        obtain ⟨r, hr0, hr1, hgr, BC, RC⟩ := hrel
        clear R2
        have C9 := HTK.out wr r BC.out RC.out
        cases htk : tknN rs out j r rs.length with
        | true =>
          rw [htk] at C9
          have hlr : r < regN rs out j := by
            by_cases e : r = regN rs out j
            · have h := HRF.out; rw [← e, htk] at h; cases h
            · omega
          have C9H := hid C9
          clear C9 htk HASm HNO HRT HRF HK HTK
          generalize regN rs out j = q at *
          go_wp2_with fail
          refine C9H.out.mono ?_
          rintro e w9 ⟨rfl, hb9⟩
          have hwz := BC.out.size
          have hrow : w9.heap[wo.heap.size + 1]? = some (.cells #[.int .i64 r] 2) := (hb9.block _ (by omega)).trans RC.out
          have kc : w9.cell? ⟨wo.heap.size + 1, 0, none⟩ = some (.int .i64 r) := by rw [cell_of_row _ _ _ _ _ _ hrow]; rfl
          have kf := frozen_of_row _ _ 0 _ _ hrow
          have BX : Aside (Chg (wo.heap.size + 1) (wo.heap.size + 2) W3 (w9.setCell ⟨wo.heap.size + 1, 0, none⟩ (.int .i64 (r + 1)))) := (BC.out.trans (Chg.of hb9 (Nat.le_refl _))).trans (chg_set _ (Nat.le_refl _) (Nat.lt_succ_self _) 0 _)
          have RX : Aside ((w9.setCell ⟨wo.heap.size + 1, 0, none⟩ (.int .i64 (r + 1))).heap[wo.heap.size + 1]? = some (.cells #[.int .i64 (r + 1)] 2)) := heap_setCell_same _ _ 0 _ _ (.int .i64 (r + 1)) hrow
          clear C9H hb9 hrow BC RC hwz
          go_wp2_with fail
          go_roundg (q - (r + 1)).toNat
          case measure => omega
          case rel => exact ⟨r + 1, by omega, by omega, Nat.le_refl _, BX, RX⟩
        | false =>
          rw [htk] at C9
          have hre : r = regN rs out j := by
            by_cases e : r < regN rs out j
            · have h := HRT.out r hr0 e; rw [htk] at h; cases h
            · omega
          have C9H := hid C9
          rw [← hre] at HASm
          clear C9 htk HRT HRF HTK hr1 hgr hre
          go_wp2_with fail
          refine C9H.out.mono ?_
          rintro e w9 ⟨rfl, hb9⟩
          have hwz := BC.out.size
          have hbc9 := BC.out.trans (Chg.of hb9 (Nat.le_refl _) : Chg (wo.heap.size + 1) (wo.heap.size + 2) wr w9)
          have hrow : w9.heap[wo.heap.size + 1]? = some (.cells #[.int .i64 r] 2) := (hb9.block _ (by omega)).trans RC.out
          have kc : w9.cell? ⟨wo.heap.size + 1, 0, none⟩ = some (.int .i64 r) := by rw [cell_of_row _ _ _ _ _ _ hrow]; rfl
          obtain ⟨q1, q2, q3⟩ := HK.out w9 hbc9
          have ki : w9.cell? ⟨wo.heap.size, 0, none⟩ = some (.int .i64 (j : Nat)) := by rw [cell_of_row _ _ _ _ _ _ q1]; rfl
          have ko : w9.cell? ⟨O, 0, none⟩ = some (.slice Ao rs.length co) := by rw [cell_of_row _ _ _ _ _ _ q3.obox]; rfl
          have hji : (j : Int) < (rs.length : Int) := by omega
          clear C9H hb9 hrow BC RC hbc9 HK q1 q2
          by_cases hrR : r < R
          · have hrR' : ¬ R ≤ r := by omega
            obtain ⟨g, rfl, p1, p2, pset⟩ := q3.at (j := j) (by rw [HOL.out]; exact hjn)
            have XX : Aside (∃ out, asgN rs R (m + 1) = some out ∧ ArW w w.heap.size O A c rs (some ⟨g6, 0, none⟩) c6 (some ⟨g, 0, none⟩) co lo1 hi1 lo2 O out (w9.setCell ⟨g, j, none⟩ (.int .i64 r))) := ⟨_, by have h := HASm.out; simp only [if_pos hrR] at h; exact h, pset r⟩
            clear q3 pset HASm HNO
            generalize el out j = oj at *
            go_wp2_with fail
            go_roundg (rs.length - (m + 1))
            case measure => omega
            case rel => exact ⟨m + 1, by omega, by omega, by go_num, XX⟩
          · have hrR' : R ≤ r := by omega
            have HR : Hid (RetIB w (asgR res) (.returned (.tuple #[.slice none 0 0, .bool false])) w9) := hid (by
              have h := HASm.out
              simp only [if_neg hrR] at h
              rw [HRES.out, HNO.out h]
              exact ⟨_, rfl, Own.nil _ _ _ _ _, q3.below⟩)
            clear q3 HASm HNO HRES
            go_wp2_with fail
            go_ret2
            exact HR.out
    · have hmn : m = rs.length := by omega
      subst hmn
      have hlt' : ¬ ((rs.length : Nat) : Int) < ((rs.length : Nat) : Int) := by omega
      have kO : wr.cell? ⟨O, 0, none⟩ = some (.slice Ao rs.length co) := by rw [cell_of_row _ _ _ _ _ _ hA.obox]; rfl
      have HR : Hid (RetIB w (asgR res) (.returned (.tuple #[.slice Ao rs.length co, .bool true])) wr) := hid (by
        have e := HRES.out
        rw [hout] at e
        subst e
        have h1 := hA.h1; have h2 := hA.h2; have h3 := hA.h3; have h4 := hA.h4; have h5 := hA.h5; have h6 := hA.h6; have h7 := hA.h7
        exact ⟨_, rfl, Own.wide hA.out_ (by omega) (by omega), hA.below⟩)
      clear hA hout HAS HRES
      go_wp2_with fail
      go_ret2
      exact HR.out
theorem i_ARno (w : World) (A : Option Addr) (n c : Nat) (R : Int) (C0 : Hid (∀ W, Below w.heap.size w W → Calls Try.prog 16 #[.slice A n c] W fun e w' => e = .returned (.bool false) ∧ Below W.heap.size W w')) :
    Calls Try.prog 15 #[.slice A n c, .int .i64 R] w (RetIB w ([], false)) := by
  have HB0 : Hid (Below w.heap.size w (w.alloc (.cells #[.slice A n c] 24))) := hid (ballocw _ _)
  have CV := hid (C0.out _ HB0.out)
  clear C0
  go_enter Try.func15, Try.ntmps15
  go_wp2_with fail
  refine CV.out.mono ?_
  rintro e w1 ⟨rfl, hb1⟩
  have HB1 := hid (bthen HB0.out hb1)
  clear CV HB0 hb1
  go_wp2_with fail
  go_ret2
  exact ⟨_, rfl, Own.nil _ _ _ _ _, HB1.out⟩
theorem i_ARnr (w : World) (A : Option Addr) (n c : Nat) (R : Int) (hq : inB R 0 12 = false) (C0 : Hid (∀ W, Below w.heap.size w W → Calls Try.prog 16 #[.slice A n c] W fun e w' => e = .returned (.bool true) ∧ Below W.heap.size W w')) :
    Calls Try.prog 15 #[.slice A n c, .int .i64 R] w (RetIB w ([], false)) := by
  have HB0 : Hid (Below w.heap.size w (w.alloc (.cells #[.slice A n c] 24))) := hid (ballocw _ _)
  have CV := hid (C0.out _ HB0.out)
  have C1 := hid (fun W => i_isRegisters W R)
  rw [hq] at C1
  clear C0 hq
  go_enter Try.func15, Try.ntmps15
  go_wp2_with fail
  refine CV.out.mono ?_
  rintro e w1 ⟨rfl, hb1⟩
  have HB1 := hid (bthen HB0.out hb1)
  clear CV HB0 hb1
  go_wp2_with fail
  refine (C1.out _).mono ?_
  rintro e w2 ⟨rfl, rfl⟩
  clear C1
  go_wp2_with fail
  go_ret2
  exact ⟨_, rfl, Own.nil _ _ _ _ _, HB1.out⟩
theorem i_AssignRegisters (w : World) (A : Option Addr) (c : Nat) (rs : List PI) (R : Int) (hl : rs.length ≤ 1048576) (hR : RdP w A rs) :
    Calls Try.prog 15 #[.slice A rs.length c, .int .i64 R] w (RetIB w (m_AssignRegisters rs R)) := by
  have C0 := fun W (hW : Below w.heap.size w W) => i_ValidRanges W A c rs hl (hR.below hW)
  unfold m_AssignRegisters
  cases h1 : rngsB rs with
  | false =>
    rw [h1] at C0
    simpa using i_ARno w A rs.length c R (hid C0)
  | true =>
    rw [h1] at C0
    cases h2 : inB R 0 12 with
    | false => simpa using i_ARnr w A rs.length c R h2 (hid C0)
    | true => simpa using i_AssignRegisters1 w A c rs R h1 h2 hR (hid C0)
end Go.Proofs.Ytolcmehndambmaa
