import Derived.Test.YthgfcoafngddgaaSched2
set_option linter.unusedVariables false
set_option linter.unusedSimpArgs false
namespace Go.Proofs.Ythgfcoafngddgaa
open Go.RowKit

set_option maxRecDepth 100000 in
set_option maxHeartbeats 1000000 in
theorem s_l06Fits (w : World) (A' A : Option Addr) (c' c : Nat) (ts : List TaskV) (xs : List Int) (hO : TOk ts) (hl : xs.length ≤ 1048576) (hT : RdT w A' ts) (hR : RdI w A xs) :
    Calls Try.prog 80 #[.slice A' ts.length c', .slice A xs.length c] w fun e w' => e = .returned (.bool (decide (xs.length = ts.length) && (timeN xs && fitN ts xs xs.length))) ∧ Below w.heap.size w w' := by
  have hfew := hO.few
  by_cases hq : xs.length = ts.length
  · have hne : ((xs.length : Int) != (ts.length : Int)) = false := by simp [hq]
    rw [schedB_spec hq]
    have HQ := hid hq
    have HR := hid hR
    have HT := hid hT
    have HO := hid hO
    have HC := hid (fun x W => s_l00In x 0 200 W)
    have HM : Hid (∀ k, k < xs.length → (inB (el xs k) 0 200 && fitB ts xs k) = false → false = fitT ts xs xs.length) := hid fun k hk h => (fitT_mono (j := k + 1) (by simp only [fitT]; rw [h]; simp) (by omega)).symm
    clear hq hR hT hO
    generalize hr : fitT ts xs xs.length = r at HM ⊢
    have HR0 := hid hr
    clear hr
    go_enter Try.func80, Try.ntmps80
    go_wp2
    go_loopg [5] xs.length (fun gg s wr => ∃ k : Nat, k ≤ xs.length ∧ xs.length - k ≤ gg ∧ s = .int .i64 k ∧ Aside (Below w.heap.size w wr) ∧ Aside (fitT ts xs k = true ∧ ∀ j, j < k → inB (el xs j) 0 200 = true))
    case atStart => exact ⟨0, Nat.zero_le _, by omega, rfl, Below.refl _ _, rfl, fun j hj => absurd hj (Nat.not_lt_zero _)⟩
    case round =>
      obtain ⟨i, hi, hg, rfl, BW, AL⟩ := hrel
      obtain ⟨wo, rfl⟩ : ∃ wo : World, wo = wr := ⟨_, rfl⟩
      by_cases hlt : i < xs.length
      · obtain ⟨b, off, rfl, hc⟩ := (HR.out.below BW.out).get hlt
        have hc0 := HC.out (el xs i) wo
        have HM' := hid (HM.out i hlt)
        cases h0 : inB (el xs i) 0 200 with
        | false =>
          rw [h0] at hc0
          have HC0 := hid hc0
          have HF := hid (HM'.out (by rw [h0]; rfl))
          clear hc0 h0 HM HM' HC HR HT HO HQ AL HR0
          go_wp2_with fail
          refine HC0.out.mono ?_
          rintro e w' ⟨rfl, rfl⟩
          go_wp2_with fail
          go_ret
          exact ⟨ret_b HF.out, BW.out⟩
        | true =>
          rw [h0] at hc0
          have HC0 := hid hc0
          have HI := hid h0
          clear hc0 h0
          go_wp2_with fail
          refine HC0.out.mono ?_
          rintro e w' ⟨rfl, rfl⟩
          clear HC0
          go_wp2_with fail
          go_loopg [6] i (fun gg s wr => ∃ k : Nat, k ≤ i ∧ i - k ≤ gg ∧ s = .int .i64 k ∧ Aside (Below w.heap.size w wr) ∧ Aside (portN ts xs i k = true))
          case atStart => exact ⟨0, Nat.zero_le _, by omega, rfl, BW.out, rfl⟩
          case round =>
            obtain ⟨k, hk, hgk, rfl, BJ, PL⟩ := hrel
            by_cases hlk : k < i
            · obtain ⟨b1, off1, e1, hck⟩ := (HR.out.below BJ.out).get (k := k) (by omega)
              cases e1
              obtain ⟨b2, off2, e2, hci⟩ := (HR.out.below BJ.out).get (k := i) hlt
              cases e2
              obtain ⟨bt, offt, A2, c2, rfl, p0, p1, p2, _, _⟩ := (HT.out.below BJ.out).get (k := k) (by have := HQ.out; omega)
              obtain ⟨bt', offt', A3, c3, e3, q0, q1, q2, _, _⟩ := (HT.out.below BJ.out).get (k := i) (by have := HQ.out; omega)
              cases e3
              have hst : portN ts xs i (k + 1) = (portN ts xs i k && !((tel ts k).port == (tel ts i).port && el xs k == el xs i)) := rfl
              rw [PL.out, Bool.true_and] at hst
              have HN : Hid (((tel ts k).port == (tel ts i).port && el xs k == el xs i) = true → false = r) := hid fun h => HM'.out (by
                rw [HI.out]; unfold fitB; rw [portN_mono (j := k + 1) (by rw [hst, h]; rfl) (by omega)]; rfl)
              have HY : Hid (((tel ts k).port == (tel ts i).port && el xs k == el xs i) = false → portN ts xs i (k + 1) = true) := hid fun h => by rw [hst, h]; rfl
              have hi2 : (i : Int) < (ts.length : Int) := by have := HQ.out; omega
              have hk2 : (k : Int) < (ts.length : Int) := by omega
              have hi1 : (i : Int) < (xs.length : Int) := by omega
              have hk1 : (k : Int) < (xs.length : Int) := by omega
              have hki : (k : Int) < (i : Int) := by omega
              have BJ2 : Hid (∀ n, Below w.heap.size w (wr.drewN n)) := hid fun n => bdrewN BJ.out n
              clear p1 p2 q1 q2 hst hc HM HM' HC HR HT HO HQ AL HR0 BJ PL HI BW
              generalize (tel ts k).port = p at *
              generalize (tel ts i).port = q at *
              generalize el xs k = x at *
              generalize el xs i = y at *
              cases hpq : (p == q) with
              | false =>
                rw [hpq] at HY
                have PL' : Aside (portN ts xs i (k + 1) = true) := HY.out rfl
                clear HY HN
                go_wp2
                go_quiet (fail)
                go_wp2
                go_roundg (i - (k + 1))
                case measure => omega
                case rel => exact ⟨k + 1, by omega, by omega, by go_num, BJ2.out _, PL'⟩
              | true =>
                cases hxy : (x == y) with
                | false =>
                  rw [hpq, hxy] at HY
                  have PL' : Aside (portN ts xs i (k + 1) = true) := HY.out rfl
                  clear HY HN
                  go_wp2
                  go_quiet (fail)
                  go_wp2
                  go_roundg (i - (k + 1))
                  case measure => omega
                  case rel => exact ⟨k + 1, by omega, by omega, by go_num, BJ2.out _, PL'⟩
                | true =>
                  rw [hpq, hxy] at HN
                  have HN' := hid (HN.out rfl)
                  clear HY HN
                  go_wp2
                  go_quiet (fail)
                  go_wp2
                  go_ret
                  exact ⟨ret_b HN'.out, BJ2.out _⟩
            · have : k = i := by omega
              subst this
              have HP := hid PL.out
              have BJ' := hid BJ.out
              clear hc PL BJ BW
              go_wp2_with fail
              go_loopg [7] (tel ts k).needs.length (fun gg s wr => ∃ j : Nat, j ≤ (tel ts k).needs.length ∧ (tel ts k).needs.length - j ≤ gg ∧ s = .int .i64 j ∧ Aside (Below w.heap.size w wr) ∧ Aside (lateK ts xs k j = true))
              case atStart => exact ⟨0, Nat.zero_le _, by omega, rfl, BJ'.out, rfl⟩
              case round =>
                obtain ⟨j, hj, hgj, rfl, BN, LL⟩ := hrel
                obtain ⟨bt, offt, A2, c2, rfl, p0, p1, p2, _, hrn⟩ := (HT.out.below BN.out).get (k := k) (by have := HQ.out; omega)
                have hi2 : (k : Int) < (ts.length : Int) := by have := HQ.out; omega
                have hi1 : (k : Int) < (xs.length : Int) := by omega
                have hnl := HO.out.len k (by omega)
                by_cases hlj : j < (tel ts k).needs.length
                · obtain ⟨bn, offn, rfl, hcn⟩ := hrn.get hlj
                  have hnd := HO.out.need k (by omega) j hlj
                  obtain ⟨d, hd⟩ : ∃ d : Nat, el (tel ts k).needs j = d := ⟨(el (tel ts k).needs j).toNat, by omega⟩
                  have hdk : d < k := by omega
                  rw [hd] at hcn
                  obtain ⟨b1, off1, e1, hck⟩ := (HR.out.below BN.out).get (k := d) (by omega)
                  cases e1
                  obtain ⟨b2, off2, e2, hci⟩ := (HR.out.below BN.out).get (k := k) hlt
                  cases e2
                  obtain ⟨bt', offt', A3, c3, e3, q0, q1, q2, _, _⟩ := (HT.out.below BN.out).get (k := d) (by omega)
                  cases e3
                  have hid2 : (d : Int) < (ts.length : Int) := by omega
                  have hid1 : (d : Int) < (xs.length : Int) := by omega
                  have hlj' : (j : Int) < ((tel ts k).needs.length : Int) := by omega
                  have hla := HO.out.lat d (by omega)
                  obtain ⟨hla0, hla1⟩ := hla
                  have hxd := inB_iff.1 (AL.out.2 d hdk)
                  obtain ⟨hxd0, hxd1⟩ := hxd
                  have hst : lateK ts xs k (j + 1) = (lateK ts xs k j && lateB ts xs k (el (tel ts k).needs j)) := rfl
                  rw [LL.out, Bool.true_and, hd] at hst
                  have hlb : lateB ts xs k (d : Int) = decide (el xs d + (tel ts d).lat ≤ el xs k) := by simp [lateB]
                  rw [hlb] at hst
                  have HN : Hid (decide (el xs d + (tel ts d).lat ≤ el xs k) = false → false = r) := hid fun h => HM'.out (by
                    rw [HI.out]; unfold fitB; rw [HP.out, ← lateK_all, lateK_mono (j := j + 1) (by rw [hst, h]) (by omega)]; rfl)
                  have HY : Hid (decide (el xs d + (tel ts d).lat ≤ el xs k) = true → lateK ts xs k (j + 1) = true) := hid fun h => by rw [hst, h]
                  have BN2 : Hid (∀ n, Below w.heap.size w (wr.drewN n)) := hid fun n => bdrewN BN.out n
                  clear p0 p1 q0 q2 hst hlb hd hnd hrn HM HM' HC HR HT HO HQ AL HR0 LL HI HP BN BJ'
                  generalize hL : (tel ts k).needs.length = nl at *
                  generalize (tel ts d).lat = l at *
                  generalize el xs d = x at *
                  generalize el xs k = y at *
                  by_cases hxy : x + l ≤ y
                  · have hf : decide (y < x + l) = false := by simpa using hxy
                    have LL' := HY.out (by simpa using hxy)
                    clear HY HN hxy
                    go_wp2
                    go_quiet (fail)
                    go_wp2
                    go_roundg (nl - (j + 1))
                    case measure => omega
                    case rel => exact ⟨j + 1, by omega, by omega, by go_num, BN2.out _, LL'⟩
                  · have hf : decide (y < x + l) = true := by simpa using hxy
                    have HN' := hid (HN.out (by simpa using hxy))
                    clear HY HN hxy
                    go_wp2
                    go_quiet (fail)
                    go_wp2
                    go_ret
                    exact ⟨ret_b HN'.out, BN2.out _⟩
                · have : j = (tel ts k).needs.length := by omega
                  have hlj' : ¬ (j : Int) < ((tel ts k).needs.length : Int) := by omega
                  have HA : Aside (fitT ts xs (k + 1) = true ∧ ∀ j, j < k + 1 → inB (el xs j) 0 200 = true) := ⟨by
                      simp only [fitT]; rw [AL.out.1, HI.out]; unfold fitB; rw [HP.out, ← lateK_all, ← this, LL.out]; rfl, fun j hj => by
                      by_cases e : j = k
                      · subst e; exact HI.out
                      · exact AL.out.2 j (by omega)⟩
                  clear p0 p1 hrn HM HM' HC HR HT HO HQ AL HR0 LL HI HP BJ' this
                  generalize hL : (tel ts k).needs.length = nl at *
                  go_wp2
                  go_roundg (xs.length - (k + 1))
                  case measure => omega
                  case rel => exact ⟨k + 1, by omega, by omega, by go_num, BN, HA⟩
      · have : i = xs.length := by omega
        subst this
        have HF : Hid (true = r) := hid (by rw [← HR0.out, AL.out.1])
        clear HM HC HR HT HO HQ AL HR0
        go_wp2_with fail
        go_ret
        exact ⟨ret_b HF.out, BW.out⟩
  · have hne : ((xs.length : Int) != (ts.length : Int)) = true := by simp; omega
    have HF : Hid (false = (decide (xs.length = ts.length) && (timeN xs && fitN ts xs xs.length))) := hid (by simp [hq])
    clear hT hR hq hO
    generalize (decide (xs.length = ts.length) && (timeN xs && fitN ts xs xs.length)) = r at HF ⊢
    go_enter Try.func80, Try.ntmps80
    go_wp2_with fail
    go_ret
    exact ⟨ret_b HF.out, Below.refl _ _⟩
end Go.Proofs.Ythgfcoafngddgaa
