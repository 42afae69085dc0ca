import Derived.Test.YtjcpjmijhloimaaAsg6
set_option linter.unusedVariables false
set_option linter.unusedSimpArgs false
namespace Go.Proofs.Ytjcpjmijhloimaa
open Go.RowKit

theorem s_ARno (w : World) (A : Option Addr) (n c : Nat) (R : Int) (C0 : Hid (Calls Try.prog 96 #[.slice A n c, .int .i64 R] w fun e w' => e = .returned (.bool false) ∧ Below w.heap.size w w')) :
    Calls Try.prog 38 #[.slice A n c, .int .i64 R] w (RetIB w ([], false)) := by
  go_enter Try.func38, Try.ntmps38
  go_wp2_with fail
  refine C0.out.mono ?_
  rintro e w1 ⟨rfl, hb1⟩
  go_wp2_with fail
  go_ret2
  exact ⟨_, rfl, Own.nil _ _ _ _ _, hb1⟩
/-- The registers that are taken by the first k ranges. -/
def TkS (rs : List PI) (out : List Int) (j : Nat) (k : Nat) (tl : List Int) : Prop := tl.length ≤ k ∧ ∀ x, x ∈ tl ↔ ∃ q, q < k ∧ el out q = x ∧ 0 ≤ x ∧ meetB (pel rs q) (pel rs j) = true
theorem TkS.put {rs : List PI} {out : List Int} {j k : Nat} {tl : List Int} (h : TkS rs out j k tl) (h0 : 0 ≤ el out k) (hm : meetB (pel rs k) (pel rs j) = true) : TkS rs out j (k + 1) (putF tl (el out k)) := by
  refine ⟨by have := put_length tl (el out k); have := h.1; omega, fun x => ?_⟩
  rw [mem_put, h.2 x]
  constructor
  · rintro (e | ⟨q, hq, h1, h2, h3⟩)
    · exact ⟨k, by omega, e.symm, by omega, hm⟩
    · exact ⟨q, by omega, h1, h2, h3⟩
  · rintro ⟨q, hq, h1, h2, h3⟩
    by_cases e : q = k
    · subst e; exact .inl h1.symm
    · exact .inr ⟨q, by omega, h1, h2, h3⟩
theorem TkS.skip {rs : List PI} {out : List Int} {j k : Nat} {tl : List Int} (h : TkS rs out j k tl) (hn : ¬ (0 ≤ el out k ∧ meetB (pel rs k) (pel rs j) = true)) : TkS rs out j (k + 1) tl := by
  refine ⟨by have := h.1; omega, fun x => ?_⟩
  rw [h.2 x]
  constructor
  · rintro ⟨q, hq, h1, h2, h3⟩; exact ⟨q, by omega, h1, h2, h3⟩
  · rintro ⟨q, hq, h1, h2, h3⟩
    by_cases e : q = k
    · subst e; exact absurd ⟨by omega, h3⟩ hn
    · exact ⟨q, by omega, h1, h2, h3⟩
theorem TkS.has {rs : List PI} {out : List Int} {j : Nat} {tl : List Int} (h : TkS rs out j rs.length tl) {r : Int} (h0 : 0 ≤ r) : hasB tl r = tknN rs out j r rs.length := by
  rw [Bool.eq_iff_iff, hasB_iff, tkn_iff, h.2 r]
  constructor
  · rintro ⟨q, hq, h1, h2, h3⟩; exact ⟨q, hq, h1, h3⟩
  · rintro ⟨q, hq, h1, h3⟩; exact ⟨q, hq, h1, h0, h3⟩
set_option maxRecDepth 100000 in
set_option maxHeartbeats 2000000 in
theorem s_AssignRegisters1 (w : World) (A : Option Addr) (c : Nat) (rs : List PI) (R : Int) (hr : rngsB rs = true) (hR : RdP w A rs)
    (C0 : Hid (Calls Try.prog 96 #[.slice A rs.length c, .int .i64 R] w fun e w' => e = .returned (.bool true) ∧ Below w.heap.size w w')) :
    Calls Try.prog 38 #[.slice A rs.length c, .int .i64 R] w (RetIB w (asgR (asgN rs R rs.length))) := by
  have hn := rngs_len hr
  have CH := hid (fun W A c (xs : List Int) x (hl : xs.length ≤ 9223372036854775807) (h : RdI W A xs) => s_l00Has W A c xs x hl h)
  have CP := hid (fun W A c (xs : List Int) x (hl : xs.length ≤ 1048576) (h : RdI W A xs) => s_l00Put W A c xs x hl h)
  have HRR := hid (fun k (hk : k < rs.length) => rng_at hr hk)
  have HRD := hid hR
  obtain ⟨res, hres⟩ : ∃ res, res = asgN rs R rs.length := ⟨_, rfl⟩
  have HRES := hid hres
  rw [← hres]
  clear hres hr hR
  have HA0 : Hid (asgN rs R 0 = some (List.replicate rs.length (-1))) := hid rfl
  have HAS : Hid (∀ m, asgN rs R (m + 1) = match asgN rs R m with
    | none => none
    | some out => if regN rs out (el (ordR rs) m).toNat < R then some (out.set (el (ordR rs) m).toNat (regN rs out (el (ordR rs) m).toNat)) else none) := hid fun _ => rfl
  go_enter Try.func38, Try.ntmps38
  go_wp2_with fail
  refine C0.out.mono ?_
  rintro e w1 ⟨rfl, hb1⟩
  have hown := Own.of (World.ownsRow_lit (base := w1.heap.size) (e := 2) (size := 1) w1 #[] 0 (Nat.le_refl _) (by simp [maxLen]) rfl)
  have HO : Hid (OwnI (w1.alloc (.cells #[] 2)) w1.heap.size (w1.alloc (.cells #[] 2)).heap.size 2 (.slice (some ⟨w1.heap.size, 0, none⟩) 0 0) (List.replicate 0 (-1))) := hid (by simpa [OwnI, ints] using hown)
  have BASE := hid hb1
  have HB1 := hid (ballocw w1 (.cells #[] 2))
  have hz1 := hb1.size
  clear hown hb1 C0
  go_wp2_with fail
  go_loopg [6, 7] rs.length (fun gg v s wr => ∃ k : Nat, k ≤ rs.length ∧ rs.length - k ≤ gg ∧ s = .int .i64 k ∧ Aside (Below w1.heap.size w1 wr) ∧ Aside (OwnI wr w1.heap.size wr.heap.size 2 v (List.replicate k (-1))))
  case atStart => exact ⟨0, Nat.zero_le _, by omega, rfl, HB1.out, HO.out⟩
  case round =>
    obtain ⟨k, hk, hg, rfl, BW, OW⟩ := hrel
    clear HO HB1
    have hsz := BW.out.size
    by_cases hlt : k < rs.length
    · have hlt' : (k : Int) < (rs.length : Int) := by omega
      clear HAS HA0 HRES HRR CH CP BASE
      go_wp2_with (at_builtin; refine wp_append1 w1.heap.size rfl _ _ 25 2 (.int .i64 0) 8 rfl Try.underlying25 infoInt rfl u6 (List.replicate k (-1 : Int)).length _ (.int .i64 (-1)) rfl rfl rfl OW.out hsz (by simp; omega) (by simp; omega) ?_; intro v1 w2 hown1 hbel1)
      have B1 : Aside (Below w1.heap.size w1 w2) := BW.out.trans hbel1
      have O1 : Aside (OwnI w2 w1.heap.size w2.heap.size 2 v1 (List.replicate (k + 1) (-1))) := by
        unfold Aside OwnI
        rw [List.replicate_succ', List.length_append, List.length_singleton, ints_append]; exact hown1
      go_roundg (rs.length - (k + 1))
      case measure => omega
      case rel => exact ⟨k + 1, by omega, by omega, by go_num, B1, O1⟩
    · have hkn : k = rs.length := by omega
      subst hkn
      have hlt' : ¬ ((rs.length : Nat) : Int) < ((rs.length : Nat) : Int) := by omega
      obtain ⟨Ao, co, rfl, _, _, _⟩ := Own.int OW.out
      have hrl : (List.replicate rs.length (-1 : Int)).length = rs.length := List.length_replicate
      have HO2 : Hid (OwnI wr w1.heap.size wr.heap.size 2 (.slice Ao rs.length co) (List.replicate rs.length (-1))) := hid (by have := OW.out; rw [hrl] at this; exact this)
      have HBW : Hid (∀ W, Below wr.heap.size wr W → Below w.heap.size w W) := hid fun W hW => by
        exact bthen (bthen BASE.out BW.out) hW
      rw [hrl]
      clear OW hrl
      obtain ⟨w2, rfl⟩ : ∃ w2 : World, w2 = wr := ⟨_, rfl⟩
      have HLO : Hid (w.heap.size ≤ w1.heap.size) := hid hz1
      have hlo : w1.heap.size ≤ w2.heap.size := hsz
      clear BW BASE hz1 hsz
      go_wp2_with fail
      go_loopg [8] rs.length (fun gg s wr => ∃ m : Nat, m ≤ rs.length ∧ rs.length - m ≤ gg ∧ s = .int .i64 m ∧ Aside (∃ out, asgN rs R m = some out ∧ OwnI wr w1.heap.size w2.heap.size 2 (.slice Ao rs.length co) out ∧ Chg w1.heap.size w2.heap.size w2 wr))
      case atStart => exact ⟨0, Nat.zero_le _, by omega, rfl, _, HA0.out, HO2.out, Chg.refl _ _ _⟩
      case round =>
        obtain ⟨m, hm, hgm, rfl, XX⟩ := hrel
        clear HO2 HA0
        obtain ⟨out, hout, ho, hc2⟩ := XX.out
        clear XX
        have HBC : Hid (∀ W, Chg w1.heap.size w2.heap.size w2 W → Below w.heap.size w W) := hid fun W hW => (HBW.out w2 (Below.refl _ _)).trans (hW.below HLO.out (HBW.out w2 (Below.refl _ _)).size)
        by_cases hltm : m < rs.length
        · have hltm' : (m : Int) < (rs.length : Int) := by omega
          have hinv := asg_inv hm hout
          have hpck := pck_ord hinv hltm
          obtain ⟨j, hj, hjn⟩ := ord_in rs hltm
          have HASm := hid (HAS.out m)
          rw [hout, hj, Int.toNat_natCast] at HASm
          have hrr := reg_range rs out j
          have HRT := hid (fun q h0 h1 => reg_taken rs out j (q := q) h0 h1)
          have HRF := hid (reg_free hinv.len j)
          have HNO := hid (fun h => asg_none (R := R) (rs := rs) (m := m + 1) (j := rs.length) h hltm)
          have HOL := hid hinv.len
          have HSM := hid (fun i (hi : i < rs.length) => hinv.small hi)
          rw [hj] at hpck
          have HPCK := hid hpck
          have HPS := hid (pck_spec rs out)
          have HP0 : Hid (pckN rs out 0 = -1) := hid rfl
          have HPN : Hid (∀ i, pckN rs out (i + 1) = if decide (el out i < 0) && (decide (pckN rs out i < 0) || decide ((pel rs i).1 < frX rs (pckN rs out i))) then (i : Int) else pckN rs out i) := hid fun _ => rfl
          have HOW := hid ho
          have HC2 := hid hc2
          obtain ⟨wo, rfl⟩ : ∃ wo : World, wo = wr := ⟨_, rfl⟩
          have HRP : Hid (∀ W, Below wo.heap.size wo W → RdP W A rs) := hid fun W hW => HRD.out.below ((HBC.out wo HC2.out).trans (hW.mono (HBC.out wo HC2.out).size))
          have HOO : Hid (∀ W, Below wo.heap.size wo W → OwnI W w1.heap.size w2.heap.size 2 (.slice Ao rs.length co) out) := hid fun W hW => HOW.out.eqv (Eqv.of hW HC2.out.size)
          clear hinv hpck hout ho hc2 HAS
          go_wp2
          go_loopg [9, 10] rs.length (fun gg a s wr => ∃ i : Nat, i ≤ rs.length ∧ rs.length - i ≤ gg ∧ s = .int .i64 i ∧ a = .int .i64 (pckN rs out i) ∧ Aside (Below wo.heap.size wo wr))
          case atStart => exact ⟨0, Nat.zero_le _, by omega, rfl, (by rw [HP0.out]), Below.refl _ _⟩
          case round =>
            obtain ⟨i, hi, hgi, rfl, rfl, BI⟩ := hrel
            by_cases hlti : i < rs.length
            · have hlti' : (i : Int) < (rs.length : Int) := by omega
              obtain ⟨g, rfl, g1, g2, p1, p2, _⟩ := OwnI.at (HOO.out wr BI.out) (k := i) (by rw [HOL.out]; exact hlti)
              obtain ⟨b, off, rfl, c0, c1⟩ := (HRP.out wr BI.out).get hlti
              have hps := HPS.out i
              have hrp := HRP.out wr BI.out
              have HPi := hid (HPN.out i)
              have k1 := lcell p1
              have k2 := lcell c0
              clear HPS HPN HPCK HASm HRT HRF HNO HSM HRP HOO HBC HBW HP0 p1 p2 c0 c1 CH CP HRR HRES
              generalize pckN rs out i = at_ at *
              generalize (pel rs i).1 = fi at *
              generalize el out i = oi at *
              by_cases ho : oi < 0
              · rcases hps with ⟨ha, _⟩ | ⟨p, hp, ha, _, _⟩
                · subst ha
                  have HQ : Hid (pckN rs out (i + 1) = i) := hid (by rw [HPi.out, decide_eq_true ho]; rfl)
                  clear HPi hrp
                  go_wp2
                  refine wp_region_calm (by kernel_rfl) (by kernel_rfl) ?_
                  repeat (go_big_quiet_step (fail))
                  refine wpQuiet_nil ?_
                  intro _ hw'
                  obtain ⟨xq, hw''⟩ := hw'
                  subst hw''
                  have BX : Aside (Below wo.heap.size wo xq.val) := bthen BI.out xq.below
                  clear BI k1 k2
                  go_wp2
                  go_roundg (rs.length - (i + 1))
                  case measure => omega
                  case rel => exact ⟨i + 1, by omega, by omega, by go_num, (by rw [HQ.out]), BX⟩
                · subst ha
                  obtain ⟨b', off', e', d0, _⟩ := hrp.get (k := p) (by omega)
                  cases e'
                  have k3 := lcell d0
                  have hfp : frX rs (p : Int) = (pel rs p).1 := by unfold frX; rw [Int.toNat_natCast]
                  have hp0 : ¬ ((p : Int) < 0) := by omega
                  have hp0' : decide ((p : Int) < 0) = false := decide_eq_false hp0
                  have hpn : (p : Int) < (rs.length : Int) := by omega
                  rw [hfp] at HPi
                  clear hrp d0 hfp
                  generalize (pel rs p).1 = fp at *
                  by_cases hlf : fi < fp
                  · have HQ : Hid (pckN rs out (i + 1) = i) := hid (by rw [HPi.out, decide_eq_true ho, decide_eq_true hlf]; simp)
                    clear HPi
                    go_wp2
                    refine wp_region_calm (by kernel_rfl) (by kernel_rfl) ?_
                    repeat (go_big_quiet_step (fail))
                    refine wpQuiet_nil ?_
                    intro _ hw'
                    obtain ⟨xq, hw''⟩ := hw'
                    subst hw''
                    have BX : Aside (Below wo.heap.size wo xq.val) := bthen BI.out xq.below
                    clear BI k1 k2 k3
                    go_wp2
                    go_roundg (rs.length - (i + 1))
                    case measure => omega
                    case rel => exact ⟨i + 1, by omega, by omega, by go_num, (by rw [HQ.out]), BX⟩
                  · have HQ : Hid (pckN rs out (i + 1) = p) := hid (by rw [HPi.out, decide_eq_true ho, decide_eq_false hlf, decide_eq_false hp0]; simp)
                    clear HPi
                    go_wp2
                    refine wp_region_calm (by kernel_rfl) (by kernel_rfl) ?_
                    repeat (go_big_quiet_step (fail))
                    refine wpQuiet_nil ?_
                    intro _ hw'
                    obtain ⟨xq, hw''⟩ := hw'
                    subst hw''
                    have BX : Aside (Below wo.heap.size wo xq.val) := bthen BI.out xq.below
                    clear BI k1 k2 k3
                    go_wp2
                    go_roundg (rs.length - (i + 1))
                    case measure => omega
                    case rel => exact ⟨i + 1, by omega, by omega, by go_num, (by rw [HQ.out]), BX⟩
              · have HQ : Hid (pckN rs out (i + 1) = at_) := hid (by rw [HPi.out, decide_eq_false ho]; simp)
                have ho' : decide (oi < 0) = false := decide_eq_false ho
                clear HPi hrp hps
                go_wp2
                refine wp_region_calm (by kernel_rfl) (by kernel_rfl) ?_
                repeat (go_big_quiet_step (fail))
                refine wpQuiet_nil ?_
                intro _ hw'
                obtain ⟨xq, hw''⟩ := hw'
                subst hw''
                have BX : Aside (Below wo.heap.size wo xq.val) := bthen BI.out xq.below
                clear BI k1 k2
                go_wp2
                go_roundg (rs.length - (i + 1))
                case measure => omega
                case rel => exact ⟨i + 1, by omega, by omega, by go_num, (by rw [HQ.out]), BX⟩
            · have hin : i = rs.length := by omega
              subst hin
              have hlti' : ¬ ((rs.length : Nat) : Int) < ((rs.length : Nat) : Int) := by omega
              rw [HPCK.out]
              clear HPS HPN HPCK HP0
              obtain ⟨wi, rfl⟩ : ∃ wi : World, wi = wr := ⟨_, rfl⟩
              go_wp2
              go_loopg [11, 12] rs.length (fun gg v s wr => ∃ k : Nat, k ≤ rs.length ∧ rs.length - k ≤ gg ∧ s = .int .i64 k ∧ ∃ At nt ct, v = .slice At nt ct ∧ nt ≤ 12 ∧ Aside (Below wo.heap.size wo wr) ∧ Aside (∃ tl, tl.length = nt ∧ TkS rs out j k tl ∧ RdI wr At tl))
              case atStart => exact ⟨0, Nat.zero_le _, by omega, rfl, _, _, _, rfl, by omega, bthen BI.out (ballocw _ _), [], rfl, ⟨by simp, fun x => by simp⟩, fun k hk => absurd hk (Nat.not_lt_zero _)⟩
              case round =>
                obtain ⟨k, hk, hgk, rfl, At, nt, ct, rfl, hn12, BK, TK⟩ := hrel
                obtain ⟨tl, htl, hts, htr⟩ := TK.out
                clear TK
                by_cases hltk : k < rs.length
                · have hltk' : (k : Int) < (rs.length : Int) := by omega
                  have hjn' : (j : Int) < (rs.length : Int) := by omega
                  obtain ⟨g, rfl, g1, g2, p1, p2, _⟩ := OwnI.at (HOO.out wr BK.out) (k := k) (by rw [HOL.out]; exact hltk)
                  obtain ⟨b, off, rfl, c0, c1⟩ := (HRP.out wr BK.out).get hltk
                  obtain ⟨b', off', e', d0, d1⟩ := (HRP.out wr BK.out).get hjn
                  cases e'
                  have HOC : Hid (∀ W, Below wo.heap.size wo W → W.cell? ⟨g, k, none⟩ = some (.int .i64 (el out k))) := hid fun W hW => by
                    obtain ⟨g', e', _, _, p1', _⟩ := OwnI.at (HOO.out W hW) (k := k) (by rw [HOL.out]; exact hltk)
                    cases e'; exact p1'
                  have HPU := hid (fun h0 hm => hts.put (k := k) h0 hm)
                  have HSK := hid (fun hnot => hts.skip (k := k) hnot)
                  have hr1 := HRR.out k hltk
                  have hr2 := HRR.out j hjn
                  have hmi := meet_iff (a := pel rs k) (b := pel rs j) hr1.2.1 hr2.2.1
                  rw [hmi] at HPU HSK
                  have k1 := lcell p1
                  have k2 := lcell c0
                  have k3 := lcell c1
                  have k4 := lcell d0
                  have k5 := lcell d1
                  have CPT := hid (fun W x (hW : Below wr.heap.size wr W) => CP.out W At ct tl x (by omega) (htr.below hW))
                  rw [htl] at CPT
                  have HBK := hid BK.out
                  have hok := HSM.out k hltk
                  clear HASm HRT HRF HNO HSM HRP HOO HBC HBW CH CP HRR HRES p1 p2 c0 c1 d0 d1 hts hmi BI
                  generalize (pel rs k).1 = fk at *
                  generalize (pel rs k).2 = tk at *
                  generalize (pel rs j).1 = fj at *
                  generalize (pel rs j).2 = tj at *
                  generalize hok_ : el out k = ok at *
                  by_cases ho : 0 ≤ ok
                  · have ho' : decide (ok < 0) = false := decide_eq_false (by omega)
                    by_cases h1 : fk < tj
                    · by_cases h2 : fj < tk
                      · have hput := HPU.out ho (by simp [h1, h2])
                        clear HPU HSK
                        go_wp2
                        refine wp_region_calm (by kernel_rfl) (by kernel_rfl) ?_
                        repeat (go_big_quiet_step (fail))
                        refine wpQuiet_nil ?_
                        intro _ hw'
                        obtain ⟨xq, hw''⟩ := hw'
                        subst hw''
                        have hxb := bthen BK.out xq.below
                        have BX := hid hxb
                        have kc := HOC.out xq.val hxb
                        have C5 := hid (CPT.out xq.val ok xq.below)
                        have HPT := hid hput
                        have hpl := put_length tl ok
                        clear BK k1 k2 k3 k4 k5 htr CPT HOC hput hxb
                        go_wp2_with fail
                        refine C5.out.mono ?_
                        rintro e w5 ⟨v5, rfl, ho5, hb5⟩
                        obtain ⟨A5, c5, rfl, _, _, hr5⟩ := Own.int ho5
                        have BX5 : Aside (Below wo.heap.size wo w5) := bthen BX.out hb5
                        have TX : Aside (∃ tl', tl'.length = (putF tl ok).length ∧ TkS rs out j (k + 1) tl' ∧ RdI w5 A5 tl') := ⟨_, rfl, HPT.out, hr5⟩
                        have hn13 : (putF tl ok).length ≤ 12 := by have := HPT.out.1; omega
                        clear C5 ho5 hb5 hr5 HPT BX
                        go_wp2_with fail
                        go_roundg (rs.length - (k + 1))
                        case measure => omega
                        case rel => exact ⟨k + 1, by omega, by omega, by go_num, _, _, _, rfl, hn13, BX5, TX⟩
                      · have h2' : decide (fj < tk) = false := decide_eq_false h2
                        go_wp2
                        refine wp_region_calm (by kernel_rfl) (by kernel_rfl) ?_
                        repeat (go_big_quiet_step (fail))
                        refine wpQuiet_nil ?_
                        intro _ hw'
                        obtain ⟨xq, hw''⟩ := hw'
                        subst hw''
                        have BX : Aside (Below wo.heap.size wo xq.val) := bthen BK.out xq.below
                        have TX : Aside (∃ tl, tl.length = nt ∧ TkS rs out j (k + 1) tl ∧ RdI xq.val At tl) := ⟨tl, htl, HSK.out (fun h => by have h3 := h.2; rw [Bool.and_eq_true, decide_eq_true_eq, decide_eq_true_eq] at h3; omega), htr.below xq.below⟩
                        clear BK k1 k2 k3 k4 k5 htr HSK HPU
                        go_wp2
                        go_roundg (rs.length - (k + 1))
                        case measure => omega
                        case rel => exact ⟨k + 1, by omega, by omega, by go_num, _, _, _, rfl, hn12, BX, TX⟩
                    · have h1' : decide (fk < tj) = false := decide_eq_false h1
                      go_wp2
                      refine wp_region_calm (by kernel_rfl) (by kernel_rfl) ?_
                      repeat (go_big_quiet_step (fail))
                      refine wpQuiet_nil ?_
                      intro _ hw'
                      obtain ⟨xq, hw''⟩ := hw'
                      subst hw''
                      have BX : Aside (Below wo.heap.size wo xq.val) := bthen BK.out xq.below
                      have TX : Aside (∃ tl, tl.length = nt ∧ TkS rs out j (k + 1) tl ∧ RdI xq.val At tl) := ⟨tl, htl, HSK.out (fun h => by have h3 := h.2; rw [Bool.and_eq_true, decide_eq_true_eq, decide_eq_true_eq] at h3; omega), htr.below xq.below⟩
                      clear BK k1 k2 k3 k4 k5 htr HSK HPU
                      go_wp2
                      go_roundg (rs.length - (k + 1))
                      case measure => omega
                      case rel => exact ⟨k + 1, by omega, by omega, by go_num, _, _, _, rfl, hn12, BX, TX⟩
                  · have ho' : decide (0 ≤ ok) = false := decide_eq_false ho
                    go_wp2
                    refine wp_region_calm (by kernel_rfl) (by kernel_rfl) ?_
                    repeat (go_big_quiet_step (fail))
                    refine wpQuiet_nil ?_
                    intro _ hw'
                    obtain ⟨xq, hw''⟩ := hw'
                    subst hw''
                    have BX : Aside (Below wo.heap.size wo xq.val) := bthen BK.out xq.below
                    have TX : Aside (∃ tl, tl.length = nt ∧ TkS rs out j (k + 1) tl ∧ RdI xq.val At tl) := ⟨tl, htl, HSK.out (fun h => by have h3 := h.1; omega), htr.below xq.below⟩
                    clear BK k1 k2 k3 k4 k5 htr HSK HPU
                    go_wp2
                    go_roundg (rs.length - (k + 1))
                    case measure => omega
                    case rel => exact ⟨k + 1, by omega, by omega, by go_num, _, _, _, rfl, hn12, BX, TX⟩
                · have hkn : k = rs.length := by omega
                  subst hkn
                  have hltk' : ¬ ((rs.length : Nat) : Int) < ((rs.length : Nat) : Int) := by omega
                  have HHAS := hid (fun r h0 => hts.has (r := r) h0)
                  have CHT := hid (fun W r (hW : Below wr.heap.size wr W) => CH.out W At ct tl r (by omega) (htr.below hW))
                  rw [htl] at CHT
                  obtain ⟨wk, rfl⟩ : ∃ wk : World, wk = wr := ⟨_, rfl⟩
                  clear hts htr CH CP HSM HRP
                  go_wp2
                  go_loopg [13] (regN rs out j).toNat (fun gg s wr => ∃ r : Int, 0 ≤ r ∧ r ≤ regN rs out j ∧ (regN rs out j - r).toNat ≤ gg ∧ s = .int .i64 r ∧ Aside (wr = wk))
                  case atStart => exact ⟨0, Int.le_refl _, hrr.1, by omega, rfl, rfl⟩
                  case round =>
                    obtain ⟨r, hr0, hr1, hgr, rfl, BR⟩ := hrel
                    obtain rfl := BR.out
                    clear BR
                    have C9 := CHT.out wr r (Below.refl _ _)
                    rw [HHAS.out r hr0] at C9
                    cases htk : tknN rs out j r rs.length with
                    | true =>
                      rw [htk] at C9
                      have hlr : r < regN rs out j := by
                        by_cases e : r = regN rs out j
                        · have h := HRF.out; rw [← e, htk] at h; cases h
                        · omega
                      have C9H := hid C9
                      clear C9 htk HASm HNO HRT HRF HHAS CHT
                      generalize regN rs out j = q at *
                      go_wp2_with fail
                      refine C9H.out.mono ?_
                      rintro e w9 ⟨rfl, rfl⟩
                      go_wp2_with fail
                      go_roundg (q - (r + 1)).toNat
                      case measure => omega
                      case rel => exact ⟨r + 1, by omega, by omega, Nat.le_refl _, by go_num, rfl⟩
                    | false =>
                      rw [htk] at C9
                      have hre : r = regN rs out j := by
                        by_cases e : r < regN rs out j
                        · have h := HRT.out r hr0 e; rw [htk] at h; cases h
                        · omega
                      have C9H := hid C9
                      rw [← hre] at HASm
                      have hoK := HOO.out wr BK.out
                      obtain ⟨g, rfl, g1, g2, p1, p2, pset⟩ := OwnI.at hoK (k := j) (by rw [HOL.out]; exact hjn)
                      have hcK : Chg w1.heap.size w2.heap.size w2 wr := HC2.out.trans (Chg.of BK.out (Nat.le_refl _))
                      have hji : (j : Int) < (rs.length : Int) := by omega
                      have HST : Hid (∃ ys, ys = out.set j r ∧ OwnI (wr.setCell ⟨g, j, none⟩ (.int .i64 r)) w1.heap.size w2.heap.size 2 (.slice (some ⟨g, 0, none⟩) rs.length co) ys ∧ Chg w1.heap.size w2.heap.size w2 (wr.setCell ⟨g, j, none⟩ (.int .i64 r))) := hid ⟨_, rfl, pset r, hcK.trans (chg_set _ g1 g2 j _)⟩
                      have HBK := hid (HBC.out wr hcK)
                      clear C9 htk HRT HRF HHAS CHT HOO HBC HBW hcK hoK pset hre hr1 hgr
                      by_cases hrR : r < R
                      · have hrR' : ¬ R ≤ r := by omega
                        have XX : Aside (∃ out', asgN rs R (m + 1) = some out' ∧ OwnI (wr.setCell ⟨g, j, none⟩ (.int .i64 r)) w1.heap.size w2.heap.size 2 (.slice (some ⟨g, 0, none⟩) rs.length co) out' ∧ Chg w1.heap.size w2.heap.size w2 (wr.setCell ⟨g, j, none⟩ (.int .i64 r))) := by
                          obtain ⟨ys, e, h1, h2⟩ := HST.out
                          have h := HASm.out
                          simp only [if_pos hrR] at h
                          exact ⟨ys, by rw [e]; exact h, h1, h2⟩
                        clear HST HASm HNO HRES
                        generalize el out j = oj at *
                        go_wp2_with fail
                        refine C9H.out.mono ?_
                        rintro e w9 ⟨rfl, rfl⟩
                        go_wp2_with fail
                        go_roundg (rs.length - (m + 1))
                        case measure => omega
                        case rel => exact ⟨m + 1, by omega, by omega, by go_num, XX⟩
                      · have hrR' : R ≤ r := by omega
                        have HR : Hid (RetIB w (asgR res) (.returned (.tuple #[.slice none 0 0, .bool false])) wr) := hid (by
                          have h := HASm.out
                          simp only [if_neg hrR] at h
                          rw [HRES.out, HNO.out h]
                          exact ⟨_, rfl, Own.nil _ _ _ _ _, HBK.out⟩)
                        clear HST HASm HNO HRES HBK
                        go_wp2_with fail
                        refine C9H.out.mono ?_
                        rintro e w9 ⟨rfl, rfl⟩
                        go_wp2_with fail
                        go_ret2
                        exact HR.out
        · have hmn : m = rs.length := by omega
          subst hmn
          have hltm' : ¬ ((rs.length : Nat) : Int) < ((rs.length : Nat) : Int) := by omega
          have HR : Hid (RetIB w (asgR res) (.returned (.tuple #[.slice Ao rs.length co, .bool true])) wr) := hid (by
            rw [HRES.out, hout]
            exact ⟨_, rfl, Own.wide ho HLO.out hc2.size, HBC.out _ hc2⟩)
          clear hout ho hc2 HAS HRES HBC HBW
          go_wp2
          go_ret2
          exact HR.out
theorem s_AssignRegisters (w : World) (A : Option Addr) (c : Nat) (rs : List PI) (R : Int) (hl : rs.length ≤ 1048576) (hR : RdP w A rs) :
    Calls Try.prog 38 #[.slice A rs.length c, .int .i64 R] w (RetIB w (m_AssignRegisters rs R)) := by
  have c0 := s_l06Registers w A c rs R hl hR
  unfold m_AssignRegisters
  cases h1 : rngsB rs && inB R 0 12 with
  | false =>
    rw [h1] at c0
    simpa using s_ARno w A rs.length c R (hid c0)
  | true =>
    rw [h1] at c0
    rw [Bool.and_eq_true] at h1
    simpa using s_AssignRegisters1 w A c rs R h1.1 hR (hid c0)
theorem m_AssignRegisters_len (rs : List PI) (R : Int) : (m_AssignRegisters rs R).1.length ≤ 1048576 := by
  unfold m_AssignRegisters
  split
  · rename_i h
    rw [Bool.and_eq_true] at h
    have hn := rngs_len h.1
    cases e : asgN rs R rs.length with
    | none => simp [asgR]
    | some o => have := (asg_inv (Nat.le_refl _) e).len; simp only [asgR]; omega
  · simp
end Go.Proofs.Ytjcpjmijhloimaa
