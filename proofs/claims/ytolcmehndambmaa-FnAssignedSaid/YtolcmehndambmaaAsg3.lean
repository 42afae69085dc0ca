import Derived.Test.YtolcmehndambmaaAsg2
import Derived.Test.YtolcmehndambmaaCalm
import Derived.Test.YtolcmehndambmaaFn
import Derived.Test.YtolcmehndambmaaRange3
import Derived.Test.YtolcmehndambmaaOwnA
import Derived.BigRegion
set_option linter.unusedVariables false
set_option linter.unusedSimpArgs false
namespace Go.Proofs.Ytolcmehndambmaa
open Go.RowKit

theorem rng_at {rs : List PI} (h : rngsB rs = true) {k : Nat} (hk : k < rs.length) : 0 ≤ (pel rs k).1 ∧ (pel rs k).1 < (pel rs k).2 ∧ (pel rs k).2 ≤ 200 := by
  unfold rngsB at h
  rw [Bool.and_eq_true, List.all_eq_true] at h
  have := h.2 _ (pel_mem hk)
  unfold rngB at this
  simp only [Bool.and_eq_true, decide_eq_true_eq] at this
  omega
theorem rngs_len {rs : List PI} (h : rngsB rs = true) : rs.length ≤ 12 := by
  unfold rngsB at h; rw [Bool.and_eq_true, decide_eq_true_eq] at h; exact h.1
set_option maxRecDepth 100000 in
theorem i_AR1 (W : World) (D : Nat) (A : Option Addr) (c : Nat) (rs : List PI) (i k : Nat) (hr : rngsB rs = true) (hi : i < rs.length) (hk : k < rs.length) (hD : W.cell? ⟨D, 0, none⟩ = some (.slice A rs.length c)) (hR : RdP W A rs) :
    Calls Try.prog 58 #[.int .i64 (i : Nat), .int .i64 (k : Nat), .pointer (some ⟨D, 0, none⟩)] W fun e w' => e = .returned (.int .i64 ((pel rs i).1 - (pel rs k).1)) ∧ Below W.heap.size W w' := by
  obtain ⟨b, off, rfl, hc, _⟩ := hR.get hi
  obtain ⟨b', off', e', hc', _⟩ := hR.get hk
  cases e'
  have h1 := rng_at hr hi
  have h2 := rng_at hr hk
  have hlt : (i : Int) < (rs.length : Int) := by omega
  have hlk : (k : Int) < (rs.length : Int) := by omega
  clear hR hr
  generalize (pel rs i).1 = x at *
  generalize (pel rs k).1 = y at *
  generalize (pel rs i).2 = x2 at *
  generalize (pel rs k).2 = y2 at *
  go_enter Try.func58, Try.ntmps58
  go_wp2
  have l0 := lcell hD
  have l1 := lcell hc
  have l2 := lcell hc'
  refine wp_region_calm (by kernel_rfl) (by kernel_rfl) ?_
  repeat (go_big_quiet_step (fail))
  refine wpQuiet_nil ?_
  intro _ hw'
  obtain ⟨xq, hw''⟩ := hw'
  subst hw''
  have hb := xq.below
  go_wp2
  go_ret
  exact ⟨rfl, hb⟩
/-- The comparison, for the indices in a row. -/
def CmpC (W0 : World) (lo hi : Nat) (g : Nat) (lb : Array Value) (rs : List PI) : Prop :=
  ∀ W, Chg lo hi W0 W → ∀ i k : Nat, i < rs.length → k < rs.length → Calls Try.prog g (#[.int .i64 (i : Nat), .int .i64 (k : Nat)] ++ lb) W fun e w' => e = .returned (.int .i64 ((pel rs i).1 - (pel rs k).1)) ∧ Below W.heap.size W w'
set_option maxRecDepth 100000 in
set_option maxHeartbeats 1000000 in
theorem i_insertionSort (w : World) (lo hi g0 : Nat) (c : Nat) (g : Nat) (lb : Array Value) (rs : List PI) (hr : rngsB rs = true) (h0 : 0 < rs.length) (hhi : hi ≤ w.heap.size) (eg : Ent Try.prog g) (hC : CmpC w lo hi g lb rs)
    (ho : OwnI w lo hi 2 (.slice (some ⟨g0, 0, none⟩) rs.length c) (idl rs.length)) :
    Calls Try.prog 158 #[.slice (some ⟨g0, 0, none⟩) rs.length c, .int .i64 0, .int .i64 (rs.length : Nat), .func (.func g) #[] lb] w fun e w' =>
      e = .returned (.tuple #[]) ∧ Chg lo hi w w' ∧ OwnI w' lo hi 2 (.slice (some ⟨g0, 0, none⟩) rs.length c) (ordR rs) := by
  have hn := rngs_len hr
  have HC := hid hC
  have HO : Hid (OwnI w lo hi 2 (.slice (some ⟨g0, 0, none⟩) rs.length c) (srtN rs rs.length 1)) := hid ho
  have HSP := hid (srt_spec rs rs.length)
  have HSN : Hid (∀ i, srtN rs rs.length (i + 1) = insN rs i (srtN rs rs.length i)) := hid fun _ => rfl
  have HI0 : Hid (∀ xs, insN rs 0 xs = xs) := hid fun _ => rfl
  have HIS : Hid (∀ j xs, insN rs (j + 1) xs = if frX rs (el xs (j + 1)) < frX rs (el xs j) then insN rs j (swp xs (j + 1) j) else xs) := hid fun _ _ => rfl
  have HOR : Hid (ordR rs = srtN rs rs.length rs.length) := hid rfl
  have HRR := hid hr
  clear hC ho hr
  go_enter Try.func158, Try.ntmps158
  go_wp2
  go_loopg [8] rs.length (fun gg s wr => ∃ i : Nat, 1 ≤ i ∧ i ≤ rs.length ∧ rs.length - i ≤ gg ∧ s = .int .i64 i ∧ Aside (Chg lo hi w wr) ∧ Aside (OwnI wr lo hi 2 (.slice (some ⟨g0, 0, none⟩) rs.length c) (srtN rs rs.length i)))
  case atStart => exact ⟨1, Nat.le_refl _, by omega, by omega, (by go_num), Chg.refl _ _ _, HO.out⟩
  case round =>
    obtain ⟨i, hi1, hin, hgi, rfl, BW, OW⟩ := hrel
    clear HO
    by_cases hlti : i < rs.length
    · have hlti' : (i : Int) < (rs.length : Int) := by omega
      have hsp := HSP.out i (by omega)
      have hI : InsI rs rs.length i i (srtN rs rs.length i) := ⟨hsp.ord, hlti, Nat.le_refl _, hsp.rest i (Nat.le_refl _) hlti, fun k l hkl hl hk hli => hsp.sort k l hkl (by omega), fun l h1 h2 => absurd h1 (by omega), fun k hk hkn => hsp.rest k (by omega) hkn, fun k hk => by
        by_cases e : k = i
        · subst e; rw [hsp.rest k (Nat.le_refl _) hlti]; omega
        · have := hsp.low k (by omega); omega⟩
      have HX : Hid (∃ xs, InsI rs rs.length i i xs ∧ insN rs i xs = srtN rs rs.length (i + 1) ∧ OwnI wr lo hi 2 (.slice (some ⟨g0, 0, none⟩) rs.length c) xs) := hid ⟨_, hI, (HSN.out i).symm, OW.out⟩
      clear hsp hI OW HSP HSN HOR
      obtain ⟨wo, rfl⟩ : ∃ wo : World, wo = wr := ⟨_, rfl⟩
      go_wp2
      go_loopg [9] i (fun gg s wr => ∃ j : Nat, j ≤ i ∧ j ≤ gg ∧ s = .int .i64 j ∧ Aside (Chg lo hi w wr) ∧ Aside (∃ xs, InsI rs rs.length i j xs ∧ insN rs j xs = srtN rs rs.length (i + 1) ∧ OwnI wr lo hi 2 (.slice (some ⟨g0, 0, none⟩) rs.length c) xs))
      case atStart => exact ⟨i, Nat.le_refl _, Nat.le_refl _, rfl, BW, HX.out⟩
      case round =>
        obtain ⟨j, hj, hgj, rfl, BJ, XJ⟩ := hrel
        clear HX
        obtain ⟨xs, hI, hE, hO⟩ := XJ.out
        clear XJ
        cases j with
        | zero =>
          have HE : Hid (xs = srtN rs rs.length (i + 1)) := hid (by rw [← hE, HI0.out])
          have HO := hid hO
          clear hE hO hI HIS HI0
          go_wp2
          refine wp_region_calm (by kernel_rfl) (by kernel_rfl) ?_
          repeat (go_big_quiet_step (fail))
          refine wpQuiet_nil ?_
          intro _ hw'
          obtain ⟨xq, hw''⟩ := hw'
          subst hw''
          have BX : Aside (Chg lo hi w xq.val) := BJ.out.trans (Chg.of xq.below (Nat.le_refl _))
          have OX : Aside (OwnI xq.val lo hi 2 (.slice (some ⟨g0, 0, none⟩) rs.length c) (srtN rs rs.length (i + 1))) := by
            have hs := BJ.out.size
            have := HO.out.eqv (Eqv.of xq.below (by omega))
            rw [HE.out] at this
            exact this
          clear HE HO BJ
          go_wp2
          go_roundg (rs.length - (i + 1))
          case measure => omega
          case rel => exact ⟨i + 1, by omega, by omega, by omega, by go_num, BX, OX⟩
        | succ j =>
          have hjn : j + 1 < rs.length := by omega
          have hjn' : ((j + 1 : Nat) : Int) < (rs.length : Int) := by omega
          have hb1 := all_below hI.ord.1 hI.ord.2 (i := j + 1) hjn
          have hb2 := all_below hI.ord.1 hI.ord.2 (i := j) (by omega)
          have hxl := hI.ord.1
          obtain ⟨g', e', gb1, gb2, p1, p2, pset⟩ := OwnI.at hO (k := j + 1) (by omega)
          cases e'
          obtain ⟨g', e', _, _, p3, p4, _⟩ := OwnI.at hO (k := j) (by omega)
          cases e'
          obtain ⟨p, hp⟩ : ∃ p : Nat, el xs (j + 1) = p := ⟨(el xs (j + 1)).toNat, by omega⟩
          obtain ⟨q, hq⟩ : ∃ q : Nat, el xs j = q := ⟨(el xs j).toNat, by omega⟩
          have hwz := BJ.out.size
          have HCC := hid (fun (x : Lat wr) => HC.out x.val (BJ.out.trans (Chg.of x.below (Nat.le_refl _))) p q (by omega) (by omega))
          have hd := HIS.out j xs
          have HDN := hid hI.down
          have HO2 := hid (pset (el xs j))
          rw [hp] at p1
          rw [hq] at p3
          have r1 := rng_at HRR.out (k := p) (by omega)
          have r2 := rng_at HRR.out (k := q) (by omega)
          have hf1 : frX rs (el xs (j + 1)) = (pel rs p).1 := by unfold frX; rw [hp, Int.toNat_natCast]
          have hf2 : frX rs (el xs j) = (pel rs q).1 := by unfold frX; rw [hq, Int.toNat_natCast]
          have hfi : frX rs (i : Int) = (pel rs p).1 := by rw [← hI.at_]; exact hf1
          rw [hf1, hf2] at hd
          have HXS := hid hI.ord
          have HE := hid hE
          have HD := hid hd
          have HOO := hid hO
          have HSW : Hid ((xs.set (j + 1) (el xs j)).set j (el xs (j + 1)) = swp xs (j + 1) j) := hid rfl
          have l1 := lcell p1
          have l3 := lcell p3
          have HFI := hid hfi
          have HF2 := hid hf2
          clear hb1 hb2 hI hE hO hd hf1 hf2 pset HIS HI0 hfi
          generalize (pel rs p).1 = fp at *
          generalize (pel rs q).1 = fq at *
          generalize (pel rs p).2 = tp at *
          generalize (pel rs q).2 = tq at *
          have hj0 : (0 : Int) < ((j + 1 : Nat) : Int) := by omega
          have hj1 : ((j + 1 : Nat) : Int) - 1 = (j : Int) := by omega
          have hj2 : (j : Int) < (rs.length : Int) := by omega
          by_cases hlt : fp < fq
          · have hlt0 : fp - fq < 0 := by omega
            have HSTP : Hid (insN rs j (swp xs (j + 1) j) = srtN rs rs.length (i + 1)) := hid (by rw [← HE.out, HD.out, if_pos hlt])
            have HNI : Hid (InsI rs rs.length i j (swp xs (j + 1) j)) := hid (HDN.out (by rw [HFI.out, HF2.out]; exact hlt))
            clear HD HE HDN HFI HF2
            go_wp2
            refine wp_region_calm (by kernel_rfl) (by kernel_rfl) ?_
            repeat (go_big_quiet_step (exact calm_of (HCC.out _)))
            refine wpQuiet_nil ?_
            intro _ hw'
            obtain ⟨xq, hw''⟩ := hw'
            subst hw''
            have hox : OwnI xq.val lo hi 2 (.slice (some ⟨g0, 0, none⟩) rs.length c) xs := HOO.out.eqv (Eqv.of xq.below (by omega))
            obtain ⟨g', e', _, _, s1, s2, sset⟩ := OwnI.at hox (k := j + 1) (by omega)
            cases e'
            obtain ⟨g', e', _, _, s3, s4, _⟩ := OwnI.at hox (k := j) (by omega)
            cases e'
            have h2 := sset (el xs j)
            obtain ⟨g', e', _, _, s5, s6, sset2⟩ := OwnI.at h2 (k := j) (by rw [List.length_set]; omega)
            cases e'
            have h3 := sset2 (el xs (j + 1))
            rw [HSW.out, hp, hq] at h3
            have HM := hid h3
            have HBK : Hid (Chg lo hi w ((xq.val.setCell ⟨g0, j + 1, none⟩ (.int .i64 (q : Nat))).setCell ⟨g0, j, none⟩ (.int .i64 (p : Nat)))) := hid
              (((BJ.out.trans (Chg.of xq.below (Nat.le_refl _))).trans (chg_set _ gb1 gb2 (j + 1) _)).trans (chg_set _ gb1 gb2 j _))
            rw [hp] at s1
            rw [hq] at s3
            clear hox sset sset2 h2 h3 l1 l3 p1 p2 p3 p4 HCC HO2 HOO HSW HXS s5 s6 hp hq
            go_wp2_with fail
            go_region
            go_wp2_with fail
            go_roundg j
            case measure => omega
            case rel => exact ⟨j, by omega, by omega, (by go_num), ⟨HBK.out.os, HBK.out.tape, HBK.out.output, HBK.out.size, HBK.out.block⟩, ⟨_, HNI.out, HSTP.out, HM.out⟩⟩
          · have hlt0 : ¬ fp - fq < 0 := by omega
            have HXE : Hid (xs = srtN rs rs.length (i + 1)) := hid (by rw [← HE.out, HD.out, if_neg hlt])
            clear HD HE HDN HFI HF2
            go_wp2
            refine wp_region_calm (by kernel_rfl) (by kernel_rfl) ?_
            repeat (go_big_quiet_step (exact calm_of (HCC.out _)))
            refine wpQuiet_nil ?_
            intro _ hw'
            obtain ⟨xq, hw''⟩ := hw'
            subst hw''
            have BX : Aside (Chg lo hi w xq.val) := BJ.out.trans (Chg.of xq.below (Nat.le_refl _))
            have OX : Aside (OwnI xq.val lo hi 2 (.slice (some ⟨g0, 0, none⟩) rs.length c) (srtN rs rs.length (i + 1))) := by
              have := HOO.out.eqv (Eqv.of xq.below (by omega))
              rw [HXE.out] at this
              exact this
            clear HOO HXE BJ l1 l3 p1 p2 p3 p4 HCC HO2 HSW HXS hp hq
            go_wp2
            go_roundg (rs.length - (i + 1))
            case measure => omega
            case rel => exact ⟨i + 1, by omega, by omega, by omega, by go_num, BX, OX⟩
    · have hin2 : i = rs.length := by omega
      subst hin2
      have hlti' : ¬ ((rs.length : Nat) : Int) < ((rs.length : Nat) : Int) := by omega
      have HR : Hid (Chg lo hi w wr ∧ OwnI wr lo hi 2 (.slice (some ⟨g0, 0, none⟩) rs.length c) (ordR rs)) := hid ⟨BW.out, OW.out⟩
      clear BW OW
      go_wp2
      go_end0
      exact ⟨rfl, HR.out⟩
end Go.Proofs.Ytolcmehndambmaa
