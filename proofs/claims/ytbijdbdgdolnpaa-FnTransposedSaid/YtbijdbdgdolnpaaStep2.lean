import Derived.Test.YtbijdbdgdolnpaaStep
import Derived.BigRegion
set_option linter.unusedVariables false
set_option linter.unusedSimpArgs false
namespace Go.Proofs.Ytbijdbdgdolnpaa
open Go.RowKit

theorem rw_set_same {xss : List (List Int)} {r : Nat} (h : r < xss.length) (y : List Int) : rw_ (xss.set r y) r = y := by
  unfold rw_; rw [List.getD_eq_getElem?_getD, List.getElem?_set_self h]; rfl
theorem rw_set_other {xss : List (List Int)} {r j : Nat} (h : r ≠ j) (y : List Int) : rw_ (xss.set r y) j = rw_ xss j := by
  unfold rw_; rw [List.getD_eq_getElem?_getD, List.getElem?_set_ne h, List.getD_eq_getElem?_getD]
/-- A row of rows of the call's own: where it lies, what is in it, and what a store leaves. -/
structure RowAt (w : World) (lo hi : Nat) (A : Option Addr) (c : Nat) (xss : List (List Int)) (r b g cr : Nat) : Prop where
  outer : A = some ⟨b, 0, none⟩
  cell : w.cell? ⟨b, r, none⟩ = some (.slice (some ⟨g, 0, none⟩) (rw_ xss r).length cr)
  ge : lo ≤ g
  ne : b ≠ g
  at_ : ∀ k, k < (rw_ xss r).length → w.cell? ⟨g, k, none⟩ = some (.int .i64 (el (rw_ xss r) k)) ∧ w.frozen? ⟨g, k, none⟩ = false
  set_ : ∀ k x, OR (w.setCell ⟨g, k, none⟩ (.int .i64 x)) lo hi (.slice A xss.length c) (xss.set r ((rw_ xss r).set k x))
theorem OR.row {w : World} {lo hi c : Nat} {A : Option Addr} {xss : List (List Int)} (h : OR w lo hi (.slice A xss.length c) xss) {r : Nat} (hr : r < xss.length) (hne : 0 < (rw_ xss r).length) :
    ∃ b g cr, RowAt w lo hi A c xss r b g cr := by
  obtain ⟨f, h1, h2, h3, h4⟩ := h
  obtain ⟨A', c', e, _, _, hs⟩ := h1.shape
  cases e
  rcases hs with ⟨_, h0⟩ | ⟨b, rfl, hb1, hb2, hcell, _⟩
  · omega
  have h2r := h2 r hr
  obtain ⟨Ar, cr, er, _, _, hsr⟩ := Own.shape h2r
  rcases hsr with ⟨_, h0⟩ | ⟨g, rfl, hg1, hg2, hcr, hfr⟩
  · omega
  have hbg : b ≠ g := h4 r b g hr rfl (by rw [er]; rfl)
  refine ⟨b, g, cr, rfl, ?_, hg1, hbg, fun k hk => ⟨hcr k _ (ints_get hk), hfr k⟩, fun k x => ?_⟩
  · have := hcell r (f r) (by simp [hr]); rw [er] at this; exact this
  · have hk : ∀ j, j ≠ g → (w.setCell ⟨g, k, none⟩ (.int .i64 x)).heap[j]? = w.heap[j]? := fun j hj => heap_setCell_other _ _ _ _ hj
    refine ⟨f, ?_, fun j hj => ?_, fun i j a b' hij hj ha hb => h3 i j a b' hij (by simpa using hj) ha hb, fun j a b' hj ha hb => h4 j a b' (by simpa using hj) ha hb⟩
    · rw [List.length_set]
      refine own_blk h1 fun j hj => hk j ?_
      simp only [Value.ownBlock, Option.some.injEq] at hj
      omega
    · rw [List.length_set] at hj
      by_cases e : j = r
      · subst e
        rw [rw_set_same hr]
        rw [er] at h2r ⊢
        have := Own.set h2r k (.int .i64 x)
        rw [ints_set] at this
        unfold OI OwnI
        rw [List.length_set]
        exact this
      · rw [rw_set_other (Ne.symm e)]
        exact own_blk (h2 j hj) fun i hi => hk i fun e2 => by
          subst e2
          rcases Nat.lt_or_ge j r with hlt | hge
          · exact h3 j r i i hlt hr hi (by rw [er]; rfl) rfl
          · exact h3 r j i i (by omega) hj (by rw [er]; rfl) hi rfl
theorem OR.row2 {w : World} {lo hi c : Nat} {A : Option Addr} {xss : List (List Int)} (h : OR w lo hi (.slice A xss.length c) xss) {r s : Nat} (hr : r < xss.length) (hs : s < xss.length) (hrs : r ≠ s) (h1 : 0 < (rw_ xss r).length) (h2 : 0 < (rw_ xss s).length) :
    ∃ b g1 c1 g2 c2, RowAt w lo hi A c xss r b g1 c1 ∧ RowAt w lo hi A c xss s b g2 c2 ∧ g1 ≠ g2 ∧ ∀ k x j y, OR ((w.setCell ⟨g1, k, none⟩ (.int .i64 x)).setCell ⟨g2, j, none⟩ (.int .i64 y)) lo hi (.slice A xss.length c) ((xss.set r ((rw_ xss r).set k x)).set s ((rw_ xss s).set j y)) := by
  obtain ⟨b, g1, c1, R1⟩ := OR.row h hr h1
  obtain ⟨b', g2, c2, R2⟩ := OR.row h hs h2
  have e := R2.outer
  rw [R1.outer] at e
  cases e
  have hne : g1 ≠ g2 := by
    obtain ⟨f, o1, o2, o3, o4⟩ := h
    obtain ⟨A', c', e, _, _, hsh⟩ := o1.shape
    cases e
    rcases hsh with ⟨_, h0⟩ | ⟨b2, e2, _, _, hcell, _⟩
    · omega
    have := R1.outer
    rw [e2] at this
    cases this
    have k1 := hcell r (f r) (by simp [hr])
    have k2 := hcell s (f s) (by simp [hs])
    rw [R1.cell] at k1
    rw [R2.cell] at k2
    have e1 : (f r).ownBlock = some g1 := by rw [← Option.some.inj k1]; rfl
    have e2 : (f s).ownBlock = some g2 := by rw [← Option.some.inj k2]; rfl
    rcases Nat.lt_or_ge r s with hlt | hge
    · exact o3 r s g1 g2 hlt hs e1 e2
    · exact Ne.symm (o3 s r g2 g1 (by omega) hr e2 e1)
  refine ⟨b, g1, c1, g2, c2, R1, R2, hne, fun k x j y => ?_⟩
  have ho := R1.set_ k x
  have hl : (xss.set r ((rw_ xss r).set k x)).length = xss.length := List.length_set
  have hrw : rw_ (xss.set r ((rw_ xss r).set k x)) s = rw_ xss s := rw_set_other hrs _
  have ho' : OR (w.setCell ⟨g1, k, none⟩ (.int .i64 x)) lo hi (.slice A (xss.set r ((rw_ xss r).set k x)).length c) (xss.set r ((rw_ xss r).set k x)) := by rw [hl]; exact ho
  obtain ⟨b3, g3, c3, R3⟩ := OR.row ho' (r := s) (by rw [hl]; exact hs) (by rw [hrw]; exact h2)
  have e := R3.outer
  rw [R1.outer] at e
  cases e
  have hc3 := R3.cell
  rw [World.cell?_setCell_other _ _ _ _ (by intro e; cases e; exact R1.ne rfl), R2.cell] at hc3
  have : g3 = g2 := by have := Option.some.inj hc3; simp at this; exact this.1.symm
  subst this
  have := R3.set_ j y
  rw [hrw, hl] at this
  exact this
theorem i_TS0 (w : World) (b : Int) (A : Option Addr) (n c : Nat) (far : Int) (hn : n ≤ 1048576) (C0 : Hid (Calls Try.prog 65 #[.int .i64 b, .slice A n c] w fun e w' => e = .returned (.bool false) ∧ Below w.heap.size w w')) :
    Calls Try.prog 20 #[.int .i64 b, .slice A n c, .int .i64 far] w (RetRB w ([], false)) := by
  go_enter Try.func20, Try.ntmps20
  go_wp2_with fail
  refine C0.out.mono ?_
  rintro e w1 ⟨rfl, hb1⟩
  go_wp2_with fail
  go_ret2
  exact ⟨_, rfl, OR.nil _ _ _, hb1⟩
theorem i_lengthR' (A : Option Addr) (n c : Nat) (w : World) : Calls Try.prog 69 #[.slice A n c] w fun e w' => e = .returned (.int .i64 n) ∧ w = w' := i_lengthR A n c w
theorem i_TSin (w : World) (b : Int) (A : Option Addr) (n c : Nat) (far : Int) (hn1 : 1 ≤ n) (hn : n ≤ 1048576) (h : inB far 1 ((n : Int) - 1) = false) (C0 : Hid (Calls Try.prog 65 #[.int .i64 b, .slice A n c] w fun e w' => e = .returned (.bool true) ∧ Below w.heap.size w w')) :
    Calls Try.prog 20 #[.int .i64 b, .slice A n c, .int .i64 far] w (RetRB w ([], false)) := by
  have CL := hid (fun W => i_lengthR' A n c W)
  have CI := hid (fun W => i_within far 1 ((n : Int) - 1) W)
  rw [h] at CI
  clear h
  go_enter Try.func20, Try.ntmps20
  go_wp2_with fail
  refine C0.out.mono ?_
  rintro e w1 ⟨rfl, hb1⟩
  go_wp2_with fail
  refine (CL.out _).mono ?_
  rintro e w2 ⟨rfl, rfl⟩
  go_wp2_with fail
  refine (CI.out _).mono ?_
  rintro e w2 ⟨rfl, rfl⟩
  go_wp2_with fail
  go_ret2
  exact ⟨_, rfl, OR.nil _ _ _, hb1⟩
theorem i_TSno (w : World) (b : Int) (A : Option Addr) (n c : Nat) (far : Nat) (hn1 : 1 ≤ n) (hn : n ≤ 1048576) (hf : far < 16) (hf0 : 1 ≤ far) (h : inB far 1 ((n : Int) - 1) = true) (hb : (bits .and .i64 ((far : Nat) : Int) (((far : Nat) : Int) - 1) != 0) = true) (C0 : Hid (Calls Try.prog 65 #[.int .i64 b, .slice A n c] w fun e w' => e = .returned (.bool true) ∧ Below w.heap.size w w')) :
    Calls Try.prog 20 #[.int .i64 b, .slice A n c, .int .i64 (far : Nat)] w (RetRB w ([], false)) := by
  have CL := hid (fun W => i_lengthR' A n c W)
  have CI := hid (fun W => i_within far 1 ((n : Int) - 1) W)
  rw [h] at CI
  clear h
  go_enter Try.func20, Try.ntmps20
  go_wp2_with fail
  refine C0.out.mono ?_
  rintro e w1 ⟨rfl, hb1⟩
  go_wp2_with fail
  refine (CL.out _).mono ?_
  rintro e w2 ⟨rfl, rfl⟩
  go_wp2_with fail
  refine (CI.out _).mono ?_
  rintro e w2 ⟨rfl, rfl⟩
  go_wp2_with fail
  go_ret2
  exact ⟨_, rfl, OR.nil _ _ _, hb1⟩
theorem stE_sq {xss : List (List Int)} {n far i k : Nat} (hr : ROk xss) (hn : xss.length = n) (h : ∀ r c, r < n → c < n → stE xss far i (k + 1) r c = stE xss far i k r c) : mat n (stE xss far i k) = mat n (stE xss far i (k + 1)) := mat_ext fun r c h1 h2 => (h r c h1 h2).symm
set_option maxRecDepth 100000 in
set_option maxHeartbeats 2000000 in
theorem i_TS (w : World) (b : Int) (A : Option Addr) (c : Nat) (xss : List (List Int)) (far : Nat) (hO : ROk xss) (hR : RdR w A xss) (hF : FarOk xss.length far) (h : inB far 1 ((xss.length : Int) - 1) = true)
    (C0 : Hid (Calls Try.prog 65 #[.int .i64 b, .slice A xss.length c] w fun e w' => e = .returned (.bool true) ∧ Below w.heap.size w w')) :
    Calls Try.prog 20 #[.int .i64 b, .slice A xss.length c, .int .i64 (far : Nat)] w (RetRB w (mat xss.length (tsE xss far), true)) := by
  have hfew := hO.few
  have CL := hid (fun W => i_lengthR' A xss.length c W)
  have CI := hid (fun W => i_within far 1 ((xss.length : Int) - 1) W)
  rw [h] at CI
  have hp : (bits .and .i64 ((far : Nat) : Int) (((far : Nat) : Int) - 1) != 0) = false := by rw [hF.pow]; rfl
  have hf1 := hF.pos
  have hf8 := hF.le
  have hn1 : 1 ≤ xss.length := by omega
  have hn16 : xss.length ≤ 16 := by omega
  have HO := hid hO
  have HR := hid hR
  have HF := hid hF
  clear h hO hR hF hfew
  go_enter Try.func20, Try.ntmps20
  go_wp2_with fail
  refine C0.out.mono ?_
  rintro e w1 ⟨rfl, hb1⟩
  go_wp2_with fail
  refine (CL.out _).mono ?_
  rintro e w2 ⟨rfl, rfl⟩
  go_wp2_with fail
  refine (CI.out _).mono ?_
  rintro e w2 ⟨rfl, rfl⟩
  have HB1 := hid hb1
  clear hb1 C0 CI
  go_wp2_with fail
  clear hp
  go_loopg [8, 34] xss.length (fun gg v s wr => ∃ i : Nat, i ≤ xss.length ∧ xss.length - i ≤ gg ∧ s = .int .i64 i ∧ Aside (Below w.heap.size w wr) ∧ Aside (OR wr w.heap.size wr.heap.size v (xss.take i)))
  case atStart => exact ⟨0, Nat.zero_le _, by omega, rfl, HB1.out, OR.nil _ _ _⟩
  case round =>
    obtain ⟨i, hi, hg, rfl, BW, OW⟩ := hrel
    clear HB1
    by_cases hlt : i < xss.length
    · have hlt' : (i : Int) < (xss.length : Int) := by omega
      obtain ⟨bo, off, A', c', rfl, hc, _, hr⟩ := (HR.out.below BW.out).get hlt
      have hlen := HO.out.row i hlt
      have hcall := g_Clone wr A' c' (rw_ xss i) (by omega) hr
      have HCALL := hid hcall
      have HTK : Hid (xss.take (i + 1) = xss.take i ++ [rw_ xss i]) := hid (by rw [List.take_add_one, rw_get hlt]; rfl)
      have hrl : (rw_ xss i).length ≤ 16 := by omega
      have HOW := hid OW.out
      have HBW := hid BW.out
      clear hcall hr hlen OW BW HR HO HF CL
      go_wp2_with fail
      refine HCALL.out.mono ?_
      rintro e w2 ⟨v2, rfl, ho2, hb2⟩
      obtain ⟨A2, c2, rfl, _, _, _⟩ := Own.int ho2
      have hr2 := HOW.out.eqv (Eqv.of hb2 (Nat.le_refl _))
      have HSW : Hid (w.heap.size ≤ wr.heap.size) := hid HBW.out.size
      have HSL : Hid (wr.heap.size ≤ w2.heap.size) := hid hb2.size
      have hcnt : (xss.take i).length + 1 ≤ 1048576 := by rw [List.length_take]; omega
      have HB2 := hid (bthen HBW.out hb2)
      clear HCALL HOW HBW hb2 hc
      go_wp2_with (at_builtin; refine wp_appendR w.heap.size wr.heap.size rfl _ _ rfl u8 _ A2 c2 (rw_ xss i) rfl rfl hr2 ho2 HSW.out HSL.out hcnt ?_; intro v1 w3 hr3 hb3)
      go_roundg (xss.length - (i + 1))
      case measure => omega
      case rel =>
        refine ⟨i + 1, by omega, by omega, by go_num, ?_, ?_⟩
        · show Below _ _ _; exact HB2.out.trans hb3
        · show OR _ _ _ _ _
          rw [HTK.out]
          exact hr3
    · have : i = xss.length := by omega
      subst this
      have hm : OR wr w.heap.size wr.heap.size u8 (mat xss.length (stE xss far 0 0)) := by
        have h1 := OW.out
        rw [List.take_length, ← mat_self HO.out] at h1
        have e : mat xss.length (fun r c => el (rw_ xss r) c) = mat xss.length (stE xss far 0 0) := mat_ext fun r c _ _ => (stE_start xss far r c).symm
        rw [e] at h1
        exact h1
      obtain ⟨Ao, co, eu, _, _, _⟩ := hm.shp
      rw [mat_length] at eu
      subst eu
      have HM0 := hid hm
      have HBW := hid BW.out
      have hz := BW.out.size
      obtain ⟨wa, rfl⟩ : ∃ wa : World, wa = wr := ⟨_, rfl⟩
      clear hm OW BW
      go_wp2_with fail
      refine (CL.out _).mono ?_
      rintro e w2 ⟨rfl, rfl⟩
      go_wp2_with fail
      go_loopg [46] xss.length (fun gg s wq => ∃ i : Nat, i ≤ xss.length ∧ xss.length - i ≤ gg ∧ s = .int .i64 i ∧ Aside (Below w.heap.size w wq) ∧ Aside (OR wq w.heap.size wa.heap.size (.slice Ao xss.length co) (mat xss.length (stE xss far i 0))) ∧ Aside (wa.heap.size ≤ wq.heap.size))
      case atStart => exact ⟨0, Nat.zero_le _, by omega, rfl, HBW.out, HM0.out, Nat.le_refl _⟩
      case round =>
        obtain ⟨i, hi, hgi, rfl, BI, OI', SI⟩ := hrel
        obtain ⟨wi, rfl⟩ : ∃ wi : World, wi = wr := ⟨_, rfl⟩
        clear HM0 HBW
        by_cases hli : i < xss.length
        · have hli' : (i : Int) < (xss.length : Int) := by omega
          have HBI := hid BI.out
          have HOI := hid OI'.out
          clear BI OI'
          go_wp2_with fail
          refine (CL.out _).mono ?_
          rintro e w2 ⟨rfl, rfl⟩
          go_wp2_with fail
          go_loopg [51] xss.length (fun gg s wq => ∃ k : Nat, k ≤ xss.length ∧ xss.length - k ≤ gg ∧ s = .int .i64 k ∧ Aside (Below w.heap.size w wq) ∧ Aside (OR wq w.heap.size wa.heap.size (.slice Ao xss.length co) (mat xss.length (stE xss far i k))) ∧ Aside (wa.heap.size ≤ wq.heap.size))
          case atStart => exact ⟨0, Nat.zero_le _, by omega, rfl, HBI.out, HOI.out, SI.out⟩
          case round =>
            obtain ⟨k, hk, hgk, rfl, BK, OK, SK⟩ := hrel
            clear HBI HOI
            by_cases hlk : k < xss.length
            · have hlk' : (k : Int) < (xss.length : Int) := by omega
              have hbor := HF.out.bor i (by omega) k (by omega)
              by_cases hb : bt far i = 0 ∧ bt far k = 0
              · rw [if_pos hb] at hbor
                have hi1 := HF.out.btin i hli hb.1
                have hk1 := HF.out.btin k hlk hb.2
                have HT := hid (HF.out.turn xss i k hli hlk hb.1 hb.2)
                have ok : OR wr w.heap.size wa.heap.size (.slice Ao (mat xss.length (stE xss far i k)).length co) (mat xss.length (stE xss far i k)) := by rw [mat_length]; exact OK.out
                have hl1 := mat_row_length (stE xss far i k) hli
                have hl2 := mat_row_length (stE xss far i k) hi1
                obtain ⟨b0, g1, d1, g2, d2, R1, R2, hg12, hset⟩ := OR.row2 ok (r := i) (s := i + far) (by rw [mat_length]; exact hli) (by rw [mat_length]; exact hi1) (by omega) (by omega) (by omega)
                have hout := R1.outer
                subst hout
                have e1 := R1.cell
                have e2 := R2.cell
                rw [hl1] at e1
                rw [hl2] at e2
                obtain ⟨e3, e4⟩ := R1.at_ (k + far) (by omega)
                obtain ⟨e5, e6⟩ := R2.at_ k (by omega)
                obtain ⟨bo, off, A', c', rfl, hc, _, hr⟩ := (HR.out.below BK.out).get hi1
                obtain ⟨bo', off', A'', c'', ee, hc2, _, hr2⟩ := (HR.out.below BK.out).get hli
                cases ee
                have hx1 := HO.out.row (i + far) hi1
                have hx2 := HO.out.row i hli
                obtain ⟨b3, o3, rfl, hv1⟩ := hr.get (k := k) (by omega)
                obtain ⟨b4, o4, rfl, hv2⟩ := hr2.get (k := k + far) (by omega)
                rw [hx1] at hc
                rw [hx2] at hc2
                have hM := hid (hset (k + far) (el (rw_ xss (i + far)) k) k (el (rw_ xss i) (k + far)))
                have hge := R1.ge
                have hge2 := R2.ge
                have hne1 := R1.ne
                have hne2 := R2.ne
                have hsetE : Hid ((((mat xss.length (stE xss far i k)).set i ((rw_ (mat xss.length (stE xss far i k)) i).set (k + far) (el (rw_ xss (i + far)) k))).set (i + far) ((rw_ (mat xss.length (stE xss far i k)) (i + far)).set k (el (rw_ xss i) (k + far)))) = mat xss.length (stE xss far i (k + 1))) := hid (by
                  rw [mat_set _ _ hli hk1, ← HT.out]
                  have e : rw_ (mat xss.length (stE xss far i k)) (i + far) = rw_ (mat xss.length (upd2 (stE xss far i k) i (k + far) (el (rw_ xss (i + far)) k))) (i + far) := by
                    rw [← mat_set (stE xss far i k) _ hli hk1, rw_set_other (by omega)]
                  rw [e, mat_set _ _ hi1 hlk])
                rw [hsetE.out, mat_length] at hM
                have HBK := hid (bset (bset BK.out (p := ⟨g1, k + far, none⟩) hge (.int .i64 (el (rw_ xss (i + far)) k))) (p := ⟨g2, k, none⟩) hge2 (.int .i64 (el (rw_ xss i) (k + far))))
                obtain ⟨p, hp⟩ : ∃ p, p = i + far := ⟨_, rfl⟩
                obtain ⟨q, hq⟩ : ∃ q, q = k + far := ⟨_, rfl⟩
                rw [← hp] at e2 hc hv1 hM hi1 HBK
                rw [← hq] at e3 e4 hv2 hM hk1 HBK
                have hip : (i : Int) + (far : Int) = (p : Int) := by omega
                have hkq : (k : Int) + (far : Int) = (q : Int) := by omega
                have hpl : (p : Int) < (xss.length : Int) := by omega
                have hql : (q : Int) < (xss.length : Int) := by omega
                have HSK := hid SK.out
                clear hsetE hset HT R1 R2 ok hl1 hl2 hr hr2 hx1 hx2 OK BK SK HF HO HR CL hb hp hq
                generalize el (rw_ xss p) k = x1 at *
                generalize el (rw_ xss i) q = x2 at *
                generalize el (rw_ (mat xss.length (stE xss far i k)) i) q = y1 at *
                go_wp2_with fail
                go_region
                go_wp2_with fail
                go_roundg (xss.length - (k + 1))
                case measure => omega
                case rel => exact ⟨k + 1, by omega, by omega, by go_num, ⟨HBK.out.os, HBK.out.tape, HBK.out.output, HBK.out.size, HBK.out.block⟩, hM.out, (by show _ ≤ _; have := HSK.out; simpa [World.setCell, World.drew] using this)⟩
              · rw [if_neg hb] at hbor
                have HE : Hid (mat xss.length (stE xss far i k) = mat xss.length (stE xss far i (k + 1))) := hid (stE_sq HO.out rfl (fun r c h1 h2 => HF.out.skip xss i k r c (by omega) (by omega) (by omega) (by omega) hb))
                have OK' := hid OK.out
                rw [HE.out] at OK'
                have hfz : ((far : Int) == 0) = false := by simp; omega
                clear hb HE OK HF HO HR CL
                go_wp2_with fail
                go_roundg (xss.length - (k + 1))
                case measure => omega
                case rel => exact ⟨k + 1, by omega, by omega, by go_num, BK, OK'.out, SK⟩
            · have : k = xss.length := by omega
              subst this
              have HE : Hid (mat xss.length (stE xss far i xss.length) = mat xss.length (stE xss far (i + 1) 0)) := hid (mat_ext fun r c h1 h2 => stE_row xss xss.length far i r c h1 h2 HF.out.lt)
              have OK' := hid OK.out
              rw [HE.out] at OK'
              clear HE OK HF HO HR CL
              go_wp2_with fail
              go_roundg (xss.length - (i + 1))
              case measure => omega
              case rel => exact ⟨i + 1, by omega, by omega, by go_num, BK, OK'.out, SK⟩
        · have : i = xss.length := by omega
          subst this
          have HE : Hid (mat xss.length (stE xss far xss.length 0) = mat xss.length (tsE xss far)) := hid (mat_ext fun r c h1 h2 => stE_end xss xss.length far r c h1)
          have OK' := hid OI'.out
          rw [HE.out] at OK'
          clear HE OI' HF HO HR CL
          go_wp2_with fail
          go_ret2
          exact ⟨_, rfl, OR.wide OK'.out (Nat.le_refl _) SI.out, BI.out⟩
theorem i_TransposeStep (w : World) (b : Int) (A : Option Addr) (c : Nat) (xss : List (List Int)) (far : Int) (hl : rsz xss ≤ 1048576) (hR : RdR w A xss) :
    Calls Try.prog 20 #[.int .i64 b, .slice A xss.length c, .int .i64 far] w (RetRB w (m_TransposeStep b xss far)) := by
  have hn := rsz_len hl
  have c0 := i_areRows w b A c xss hl hR
  cases h0 : rowsB b xss with
  | false =>
    rw [h0] at c0
    rw [show m_TransposeStep b xss far = ([], false) by unfold m_TransposeStep; rw [h0]; rfl]
    exact i_TS0 w b A xss.length c far hn (hid c0)
  | true =>
    rw [h0] at c0
    have hO := ROk.of h0
    have hfew := hO.few
    cases h1 : inB far 1 ((xss.length : Int) - 1) with
    | false =>
      rw [show m_TransposeStep b xss far = ([], false) by
        unfold m_TransposeStep; rw [h0]
        have h2 := inB_no.1 h1
        have : farB far xss.length = false := by
          cases hq : farB far xss.length with
          | false => rfl
          | true => exfalso; simp [farB] at hq; omega
        rw [this]; rfl]
      exact i_TSin w b A xss.length c far (by omega) hn h1 (hid c0)
    | true =>
      have h2 := inB_iff.1 h1
      obtain ⟨f, rfl⟩ : ∃ f : Nat, far = f := ⟨far.toNat, by omega⟩
      rcases bits_not f (by omega) with h | h | h | h | h | h
      · omega
      iterate 4
        · have hff : farB (f : Int) xss.length = true := by unfold farB; subst h; simp; omega
          have hm : m_TransposeStep b xss f = (mat xss.length (tsE xss f), true) := by unfold m_TransposeStep; rw [h0, hff]; rfl
          rw [hm]
          exact i_TS w b A c xss f hO hR (FarOk.of hfew (by omega) (by omega)) h1 (hid c0)
      · have hf1 : (f : Int) ≠ 1 ∧ (f : Int) ≠ 2 ∧ (f : Int) ≠ 4 ∧ (f : Int) ≠ 8 := by
          refine ⟨?_, ?_, ?_, ?_⟩ <;> (intro e; have e' : f = _ := Int.ofNat.inj e; subst e'; revert h; decide)
        rw [show m_TransposeStep b xss f = ([], false) by
          unfold m_TransposeStep; rw [h0]
          have : farB (f : Int) xss.length = false := by
            cases hq : farB (f : Int) xss.length with
            | false => rfl
            | true => exfalso; simp [farB] at hq; omega
          rw [this]; rfl]
        exact i_TSno w b A xss.length c f (by omega) hn (by omega) (by omega) h1 h (hid c0)
end Go.Proofs.Ytbijdbdgdolnpaa
