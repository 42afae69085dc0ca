import Derived.Test.YtcknhjeefdbhbaaBst2
import Derived.Test.YtcknhjeefdbhbaaLst3
set_option linter.unusedVariables false
set_option linter.unusedSimpArgs false
namespace Go.Proofs.Ytcknhjeefdbhbaa
open Go.RowKit

theorem take_same {xs ys : List Int} {i n : Nat} (hx : xs.length = n) (hy : ys.length = n) (hi : i ≤ n) (h : ∀ k, k < i → el xs k = el ys k) : xs.take i = ys.take i := by
  apply el_ext
  · rw [List.length_take, List.length_take, hx, hy]
  · intro k hk
    rw [List.length_take] at hk
    rw [el_tk (by omega), el_tk (by omega), h k (by omega)]
def Sm0 (xs : List Int) : Prop := ∀ k, k < xs.length → 0 ≤ el xs k ∧ el xs k ≤ 1000
theorem Sm0.sml {xs : List Int} (h : Sm0 xs) : Sml xs := fun k hk => by have := h k hk; omega
theorem Sm0.set {xs : List Int} (h : Sm0 xs) (i : Nat) {t : Int} (h0 : 0 ≤ t) (h1 : t ≤ 1000) : Sm0 (xs.set i t) := fun k hk => by
  rw [List.length_set] at hk
  by_cases e : i = k
  · subst e; rw [el_set_same hk]; exact ⟨h0, h1⟩
  · rw [el_set_other e]; exact h k hk
/-- What complete leaves: the times at g. -/
def CmpR (g c1 : Nat) (ts : List TaskV) (L : Int) (d i : Nat) (xs : List Int) (W : World) (e : Ending) (W' : World) : Prop :=
  e = .returned (.bool (plD ts L d (xs.take i)).isSome) ∧ ∃ xs', OI W' g (g + 1) (.slice (some ⟨g, 0, none⟩) ts.length c1) xs' ∧ xs'.length = ts.length ∧ (∀ k, k < i → el xs' k = el xs k) ∧ Sm0 xs' ∧
    (∀ q, plD ts L d (xs.take i) = some q → xs' = q) ∧ Chg g (g + 1) W W'
set_option maxRecDepth 100000 in
set_option maxHeartbeats 1000000 in
theorem i_complete (ts : List TaskV) (hO : TOk ts) (L : Int) (hL0 : 0 ≤ L) (hL1 : L ≤ 300) (A' A2 : Option Addr) (c' c2 g c1 : Nat) (W0 : World) (hK : ∀ W, Chg g (g + 1) W0 W → RdT W A' ts ∧ RdI W A2 (hts ts)) :
    ∀ (d i : Nat) (xs : List Int) (W : World), i + d = ts.length → xs.length = ts.length → Sm0 xs → OI W g (g + 1) (.slice (some ⟨g, 0, none⟩) ts.length c1) xs → Chg g (g + 1) W0 W →
    Calls Try.prog 160 #[.slice A' ts.length c', .slice A2 ts.length c2, .slice (some ⟨g, 0, none⟩) ts.length c1, .int .i64 (i : Nat), .int .i64 L] W (CmpR g c1 ts L d i xs W) := by
  have hfew := hO.few
  intro d
  induction d with
  | zero =>
    intro i xs W hid' hxl hS hv hC
    have hi : i = ts.length := by omega
    have he : ((i : Int) == (ts.length : Int)) = true := by simp [hi]
    have HR : Hid (CmpR g c1 ts L 0 i xs W (.returned (.bool true)) W) := hid ⟨rfl, xs, hv, hxl, fun _ _ => rfl, hS, fun q hq => by
      simp only [plD, Option.some.injEq] at hq; rw [← hq, List.take_of_length_le (by omega)], Chg.refl _ _ _⟩
    clear hv hS hC hK hi
    generalize ts.length = n at *
    go_enter Try.func160, Try.ntmps160
    go_wp2
    go_ret
    exact HR.out
  | succ d ih =>
    intro i xs W hid' hxl hS hv hC
    have hi : i < ts.length := by omega
    have he : ((i : Int) == (ts.length : Int)) = false := by simp; omega
    have hin : (i : Int) < (ts.length : Int) := by omega
    have hpl : (xs.take i).length = i := by rw [List.length_take]; omega
    obtain ⟨T, hT⟩ : ∃ T : Nat, T = (L - el (hts ts) i + 1).toNat := ⟨_, rfl⟩
    have hhb := bnd_hts hO i
    have HPT : Hid (plD ts L (d + 1) (xs.take i) = plT (fun t => if fitP ts (xs.take i) t then plD ts L d (xs.take i ++ [t]) else none) (T - 0) ((0 : Nat) : Int)) := hid (by simp only [plD]; rw [hpl, hT]; rfl)
    have HK := hid hK
    have HO := hid hO
    have IH := hid ih
    have HV := hid hv
    have HS := hid hS
    have HC := hid hC
    have HXL := hid hxl
    have HID := hid hid'
    have HIN := hid hi
    have HF : Hid (∀ t : Nat, ∀ q, fitP ts (xs.take i) t = true → plD ts L d (xs.take i ++ [(t : Int)]) = q → (fun t => if fitP ts (xs.take i) t then plD ts L d (xs.take i ++ [t]) else none) (t : Int) = q) := hid fun t q h1 h2 => by
      show (if fitP ts (xs.take i) t then plD ts L d (xs.take i ++ [(t : Int)]) else none) = q
      rw [if_pos h1, h2]
    have HFN : Hid (∀ t : Nat, fitP ts (xs.take i) t = false → (fun t => if fitP ts (xs.take i) t then plD ts L d (xs.take i ++ [t]) else none) (t : Int) = none) := hid fun t h1 => by
      show (if fitP ts (xs.take i) t then plD ts L d (xs.take i ++ [(t : Int)]) else none) = none
      rw [if_neg (by rw [h1]; simp)]
    have HFP : Hid (∀ (ys : List Int) (t : Nat), ys.length = ts.length → (∀ k, k < i → el ys k = el xs k) → el ys i = t → fitB ts ys i = fitP ts (xs.take i) t ∧ ys.take (i + 1) = xs.take i ++ [(t : Int)] ∧ ys.take i = xs.take i) := hid fun ys t h1 h2 h3 => by
      have e1 : ys.take i = xs.take i := take_same h1 hxl (by omega) h2
      have e2 : ys.take (i + 1) = xs.take i ++ [(t : Int)] := by rw [el_take (by omega), e1, h3]
      refine ⟨?_, e2, e1⟩
      unfold fitP
      rw [hpl, ← e2]
      exact fitB_congr hO (by omega) fun k hk => (el_tk (by omega)).symm
    clear hv hS hC hK hxl hid' hO ih hpl hi
    have hHc : ∀ W, Chg g (g + 1) W0 W → ∃ b off, A2 = some ⟨b, off, none⟩ ∧ W.cell? ⟨b, off + i, none⟩ = some (.int .i64 (el (hts ts) i)) := fun W h => (HK.out W h).2.get (by rw [hts_length]; exact HIN.out)
    have HHC := hid hHc
    clear hHc
    obtain ⟨b2, off2, rfl, _⟩ := HHC.out W0 (Chg.refl _ _ _)
    have hTT : ∀ t : Nat, (t : Int) + el (hts ts) i ≤ L ↔ t < T := fun t => by omega
    have HTT := hid hTT
    have hT300 : T ≤ 301 := by omega
    clear hTT hT
    generalize (fun t => if fitP ts (xs.take i) t then plD ts L d (xs.take i ++ [t]) else none) = F at *
    unfold CmpR
    generalize plD ts L (d + 1) (xs.take i) = R at *
    obtain ⟨hh0, hh1⟩ := hhb
    generalize hhe : el (hts ts) i = h at *
    clear hhe
    go_enter Try.func160, Try.ntmps160
    go_wp2
    go_loopg [11] T (fun gg s wr => ∃ t : Nat, t ≤ T ∧ T - t ≤ gg ∧ s = .int .i64 t ∧ Aside (Chg g (g + 1) W wr) ∧ Aside (plT F (T - t) (t : Nat) = R) ∧
      Aside (∃ ys, OI wr g (g + 1) (.slice (some ⟨g, 0, none⟩) ts.length c1) ys ∧ ys.length = ts.length ∧ (∀ k, k < i → el ys k = el xs k) ∧ Sm0 ys))
    case atStart => exact ⟨0, Nat.zero_le _, by omega, rfl, Chg.refl _ _ _, HPT.out.symm, xs, HV.out, HXL.out, fun _ _ => rfl, HS.out⟩
    case round =>
      obtain ⟨t, ht, hg, rfl, BW, AL, hys⟩ := hrel
      obtain ⟨ys, hoy, hyl, hyk, hys⟩ := hys.out
      obtain ⟨b3, off3, e3, hch⟩ := HHC.out wr (HC.out.trans BW.out)
      cases e3
      by_cases hlt : t < T
      · have hle : (t : Int) + h ≤ L := (HTT.out t).2 hlt
        obtain ⟨g', hg', _, _, hcg, hfg, hset⟩ := OwnI.at hoy (k := i) (by have := HIN.out; omega)
        cases hg'
        have hch1 := chg_set wr (Nat.le_refl g) (Nat.lt_succ_self g) i (.int .i64 (t : Nat))
        have hC1 := BW.out.trans hch1
        have hK1 := HK.out _ (HC.out.trans hC1)
        have hzl : (ys.set i (t : Int)).length = ts.length := by simp [hyl]
        have hzk : ∀ k, k < i → el (ys.set i (t : Int)) k = el xs k := fun k hk => by rw [el_set_other (by omega), hyk k hk]
        have hzi : el (ys.set i (t : Int)) i = t := el_set_same (by have := HIN.out; omega) _
        have hzS := hys.set i (t := (t : Int)) (by omega) (by omega)
        obtain ⟨q1, q2, _⟩ := HFP.out (ys.set i (t : Int)) t hzl hzk hzi
        have CF := i_fits (wr.setCell ⟨g, i, none⟩ (.int .i64 (t : Nat))) (some ⟨g, 0, none⟩) A' c1 c' (ys.set i (t : Int)) ts i hzl HIN.out HO.out hzS.sml (OwnI.rd (hset t)) hK1.1
        rw [q1, hzl] at CF
        have hst := plT_step F hlt
        rw [AL.out] at hst
        have HST := hid hst
        have CFH := hid CF
        have HZL := hid hzl
        have HZK := hid hzk
        have HZS := hid hzS
        have HZO := hid (hset t)
        have HC1 := hid hC1
        have HQ2 := hid q2
        clear hst CF hzl hzk hzS hset hC1 hK1 q1 q2 hoy hyl hyk hys hzi hch1 AL BW HHC HPT HV HS HXL HTT
        cases hf : fitP ts (xs.take i) (t : Int) with
        | false =>
          rw [hf] at CFH
          have HN := hid (HFN.out t hf)
          clear hf HF HFN IH
          go_wp2_with fail
          refine CFH.out.mono ?_
          rintro e w5 ⟨rfl, hb5⟩
          have BW5 : Aside (Chg g (g + 1) W w5) := HC1.out.trans (Chg.of hb5 (Nat.le_refl _))
          have AL5 : Aside (plT F (T - (t + 1)) ((t + 1 : Nat) : Int) = R) := by unfold Aside; rw [HST.out, HN.out]; rfl
          have hgz : g < (wr.setCell ⟨g, i, none⟩ (.int .i64 (t : Nat))).heap.size := ((HZO.out).1.lt g rfl).2
          have YS5 : Aside (∃ ys, OI w5 g (g + 1) (.slice (some ⟨g, 0, none⟩) ts.length c1) ys ∧ ys.length = ts.length ∧ (∀ k, k < i → el ys k = el xs k) ∧ Sm0 ys) := ⟨_, OI.eqv HZO.out (Eqv.of hb5 (by omega)), HZL.out, HZK.out, HZS.out⟩
          clear hb5 HST HN CFH HZO HZL HZK HZS HC1 HQ2 hch
          go_wp2_with fail
          go_roundg (T - (t + 1))
          case measure => omega
          case rel => exact ⟨t + 1, by omega, by omega, by go_num, BW5, AL5, YS5⟩
        | true =>
          rw [hf] at CFH
          have HFT := hid (HF.out t)
          have hgz : g < (wr.setCell ⟨g, i, none⟩ (.int .i64 (t : Nat))).heap.size := ((HZO.out).1.lt g rfl).2
          have CR := hid (fun w5 (hb5 : Below (wr.setCell ⟨g, i, none⟩ (.int .i64 (t : Nat))).heap.size (wr.setCell ⟨g, i, none⟩ (.int .i64 (t : Nat))) w5) => IH.out (i + 1) (ys.set i (t : Int)) w5 (by have := HID.out; omega) HZL.out HZS.out (OI.eqv HZO.out (Eqv.of hb5 (by omega))) (HC.out.trans (HC1.out.trans (Chg.of hb5 (Nat.le_refl _)))))
          have e1 : ((i + 1 : Nat) : Int) = (i : Int) + 1 := by omega
          rw [e1] at CR
          unfold CmpR at CR
          rw [HQ2.out] at CR
          have HFT2 := hid (HFT.out _ hf rfl)
          clear HFT hf HF HFN IH e1
          generalize plD ts L d (xs.take i ++ [(t : Int)]) = R2 at *
          cases R2 with
          | some q =>
            have HRq : Hid (R = some q) := hid (by rw [HST.out, HFT2.out]; rfl)
            clear HST HFT2
            go_wp2_with fail
            refine CFH.out.mono ?_
            rintro e w5 ⟨rfl, hb5⟩
            have CR5 := hid (CR.out w5 hb5)
            have HC5 := hid (HC1.out.trans (Chg.of hb5 (Nat.le_refl _)))
            clear CR CFH hb5
            go_wp2_with fail
            refine CR5.out.mono ?_
            rintro e w6 ⟨rfl, zs, z1, z2, z3, z4, z5, z6⟩
            have hzq := z5 q rfl
            have HRR : Hid (Ending.returned (.bool true) = Ending.returned (.bool R.isSome) ∧ ∃ xs', OI w6 g (g + 1) (.slice (some ⟨g, 0, none⟩) ts.length c1) xs' ∧ xs'.length = ts.length ∧ (∀ k, k < i → el xs' k = el xs k) ∧ Sm0 xs' ∧ (∀ q, R = some q → xs' = q) ∧ Chg g (g + 1) W w6) := hid (by
              refine ⟨by rw [HRq.out]; rfl, zs, z1, z2, fun k hk => by rw [z3 k (by omega), HZK.out k hk], z4, fun q' hq' => ?_, HC5.out.trans z6⟩
              rw [HRq.out] at hq'; cases hq'; exact hzq)
            clear z1 z2 z3 z4 z5 z6 hzq HRq CR5 HC5 HZO HZL HZK HZS HC1 HQ2 hch
            go_wp2
            go_ret
            exact HRR.out
          | none =>
            have AL5 : Aside (plT F (T - (t + 1)) ((t + 1 : Nat) : Int) = R) := by unfold Aside; rw [HST.out, HFT2.out]; rfl
            clear HST HFT2
            go_wp2_with fail
            refine CFH.out.mono ?_
            rintro e w5 ⟨rfl, hb5⟩
            have CR5 := hid (CR.out w5 hb5)
            have HC5 := hid (HC1.out.trans (Chg.of hb5 (Nat.le_refl _)))
            clear CR CFH hb5
            go_wp2_with fail
            refine CR5.out.mono ?_
            rintro e w6 ⟨rfl, zs, z1, z2, z3, z4, z5, z6⟩
            have BW6 : Aside (Chg g (g + 1) W w6) := HC5.out.trans z6
            have YS6 : Aside (∃ ys, OI w6 g (g + 1) (.slice (some ⟨g, 0, none⟩) ts.length c1) ys ∧ ys.length = ts.length ∧ (∀ k, k < i → el ys k = el xs k) ∧ Sm0 ys) := ⟨zs, z1, z2, fun k hk => by rw [z3 k (by omega), HZK.out k hk], z4⟩
            clear z1 z2 z3 z4 z5 z6 CR5 HC5 HZO HZL HZK HZS HC1 HQ2 hch
            go_wp2_with fail
            go_roundg (T - (t + 1))
            case measure => omega
            case rel => exact ⟨t + 1, by omega, by omega, by go_num, BW6, AL5, YS6⟩
      · have hle : ¬ (t : Int) + h ≤ L := fun h1 => hlt ((HTT.out t).1 h1)
        have hRn : none = R := by have := AL.out; rw [show T - t = 0 by omega] at this; exact this
        have HRR : Hid (Ending.returned (.bool false) = Ending.returned (.bool R.isSome) ∧ ∃ xs', OI wr g (g + 1) (.slice (some ⟨g, 0, none⟩) ts.length c1) xs' ∧ xs'.length = ts.length ∧ (∀ k, k < i → el xs' k = el xs k) ∧ Sm0 xs' ∧ (∀ q, R = some q → xs' = q) ∧ Chg g (g + 1) W wr) :=
          hid ⟨by rw [← hRn]; rfl, ys, hoy, hyl, hyk, hys, (fun q hq => by rw [← hRn] at hq; cases hq), BW.out⟩
        clear hRn hoy hyl hyk hys AL BW HF HFN HFP IH HHC HPT HV HS HXL HTT hlt
        go_wp2
        go_ret
        exact HRR.out
end Go.Proofs.Ytcknhjeefdbhbaa
