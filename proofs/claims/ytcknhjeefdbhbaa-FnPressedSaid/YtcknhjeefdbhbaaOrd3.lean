import Derived.Test.YtcknhjeefdbhbaaOrd
set_option linter.unusedVariables false
set_option linter.unusedSimpArgs false
namespace Go.Proofs.Ytcknhjeefdbhbaa
open Go.RowKit

/-- The first n of what the k-th task needs were seen. -/
def seenK (ts : List TaskV) (xs : List Int) (k : Nat) : Nat → Bool
  | 0 => true
  | j + 1 => seenK ts xs k j && hasB (xs.take k) (el (tel ts (el xs k).toNat).needs j)
theorem seenK_all (ts : List TaskV) (xs : List Int) (k : Nat) : seenK ts xs k (tel ts (el xs k).toNat).needs.length = seenB ts xs k := by
  have : ∀ n, seenK ts xs k n = allN n (fun j => hasB (xs.take k) (el (tel ts (el xs k).toNat).needs j)) := fun n => by
    induction n with
    | zero => rfl
    | succ n ih => rw [allN_succ]; simp only [seenK]; rw [ih]
  rw [this, seenB, allN_ints (tel ts (el xs k).toNat).needs (hasB (xs.take k))]
theorem seenK_mono {ts : List TaskV} {xs : List Int} {i j k : Nat} (h : seenK ts xs i j = false) (hk : j ≤ k) : seenK ts xs i k = false := by
  induction k with
  | zero => obtain rfl : j = 0 := by omega
            exact h
  | succ k ih => by_cases e : j = k + 1
                 · subst e; exact h
                 · simp only [seenK]; rw [ih (by omega)]; rfl
set_option maxRecDepth 100000 in
set_option maxHeartbeats 1000000 in
theorem s_l06Order (w : World) (A' A : Option Addr) (c' c : Nat) (ts : List TaskV) (xs : List Int) (hO : TOk ts) (hl : xs.length ≤ 1048576) (hT : RdT w A' ts) (hR : RdI w A xs) :
    Calls Try.prog 193 #[.slice A' ts.length c', .slice A xs.length c] w fun e w' => e = .returned (.bool (stepN ts xs xs.length && decide (xs.length = ts.length))) ∧ Below w.heap.size w w' := by
  have hfew := hO.few
  have HR := hid hR
  have HT := hid hT
  have HO := hid hO
  have HI := hid (fun x W => s_l00In x 0 ((ts.length : Int) - 1) W)
  have HH := hid (fun W A c (ys : List Int) v (h : RdI W A ys) (hl : ys.length ≤ 9223372036854775807) => s_l00Has W A c ys v hl h)
  have HM : Hid (∀ k, k < xs.length → stepB ts xs k = false → false = (stepN ts xs xs.length && decide (xs.length = ts.length))) := hid fun k hk h => by
    rw [stepN_mono (j := k + 1) (k := xs.length) (by simp only [stepN]; rw [h]; simp) (by omega)]; rfl
  have HD : Hid (stepN ts xs xs.length = true → ((xs.length : Int) == (ts.length : Int)) = (stepN ts xs xs.length && decide (xs.length = ts.length))) := hid fun h => by
    rw [h, Bool.true_and, Bool.eq_iff_iff]; simp; omega
  clear hR hT hO
  generalize (stepN ts xs xs.length && decide (xs.length = ts.length)) = r at HM HD ⊢
  have hown := Own.of (World.ownsRow_lit (base := w.heap.size) (e := 2) (size := 1) w #[] 0 (Nat.le_refl _) (by simp [maxLen]) rfl)
  have HOW := hid hown
  clear hown
  go_enter Try.func193, Try.ntmps193
  go_wp2
  go_loopg [5, 6] xs.length (fun gg v s wr => ∃ k : Nat, k ≤ xs.length ∧ xs.length - k ≤ gg ∧ s = .int .i64 k ∧ Aside (Below w.heap.size w wr) ∧ Aside (OwnI wr w.heap.size wr.heap.size 2 v (xs.take k)) ∧ Aside (stepN ts xs k = true))
  case atStart => exact ⟨0, Nat.zero_le _, by omega, rfl, ballocw w _, by simpa [Aside, ints, OwnI] using HOW.out, rfl⟩
  case round =>
    obtain ⟨k, hk, hg, rfl, BW, OW, ST⟩ := hrel
    obtain ⟨wo, rfl⟩ : ∃ wo : World, wo = wr := ⟨_, rfl⟩
    clear HOW
    by_cases hlt : k < xs.length
    · have hlt' : (k : Int) < (xs.length : Int) := by omega
      obtain ⟨b, off, rfl, hc⟩ := (HR.out.below BW.out).get hlt
      have hci := HI.out (el xs k) wo
      have HM' := hid (HM.out k hlt)
      have hln : (xs.take k).length = k := by rw [List.length_take]; omega
      obtain ⟨A1, c1, rfl, _, _, hr1⟩ := OW.out.int
      have hch := HH.out wo A1 c1 (xs.take k) (el xs k) hr1 (by omega)
      cases h0 : inB (el xs k) 0 ((ts.length : Int) - 1) with
      | false =>
        rw [h0] at hci
        have HC := hid hci
        have HF := hid (HM'.out (by unfold stepB; rw [h0]; rfl))
        clear hci h0 HM HM' HI HH HR HT HO HD ST OW hr1 hch hln
        generalize (xs.take k).length = tk at *
        go_wp2_with fail
        refine HC.out.mono ?_
        rintro e w' ⟨rfl, rfl⟩
        go_wp2_with fail
        go_ret
        exact ⟨ret_b HF.out, BW.out⟩
      | true =>
        rw [h0] at hci
        have HC := hid hci
        have hb := inB_iff.1 h0
        obtain ⟨i, hi⟩ : ∃ i : Nat, el xs k = i := ⟨(el xs k).toNat, by omega⟩
        have hin : i < ts.length := by omega
        cases h1 : hasB (xs.take k) (el xs k) with
        | true =>
          rw [h1] at hch
          have HCH := hid hch
          have HF := hid (HM'.out (by unfold stepB; rw [h1]; simp))
          clear hci h0 h1 HM HM' HI HH HR HT HO HD ST OW hr1 hch hln hb hi
          generalize (xs.take k).length = tk at *
          go_wp2_with fail
          refine HC.out.mono ?_
          rintro e w' ⟨rfl, rfl⟩
          go_wp2_with fail
          refine HCH.out.mono ?_
          rintro e w' ⟨rfl, rfl⟩
          go_wp2_with fail
          go_ret
          exact ⟨ret_b HF.out, BW.out⟩
        | false =>
          rw [h1] at hch
          have HCH := hid hch
          have HST : Hid (seenB ts xs k = false → false = r) := hid fun h => HM'.out (by unfold stepB; rw [h]; simp)
          have HSY : Hid (seenB ts xs k = true → stepN ts xs (k + 1) = true) := hid fun h => by simp only [stepN]; rw [ST.out]; unfold stepB; rw [h, h0, h1]; rfl
          have HSK : Hid (∀ j, seenK ts xs k (j + 1) = (seenK ts xs k j && hasB (xs.take k) (el (tel ts i).needs j))) := hid fun j => by simp only [seenK]; rw [hi, Int.toNat_natCast]
          have HSA : Hid (seenK ts xs k (tel ts i).needs.length = seenB ts xs k) := hid (by rw [← seenK_all, hi, Int.toNat_natCast])
          have HSM : Hid (∀ j, j ≤ (tel ts i).needs.length → seenK ts xs k j = false → seenB ts xs k = false) := hid fun j hj h => by rw [← HSA.out]; exact seenK_mono h hj
          have HTK : Hid (xs.take (k + 1) = xs.take k ++ [el xs k]) := hid (el_take hlt)
          have HR1 := hid hr1
          have HHH := hid (fun v => HH.out wo A1 c1 (xs.take k) v hr1 (by omega))
          have HOW := hid OW.out
          have HLN := hid hln
          rw [hi] at hc HC HCH HTK
          clear hci h0 h1 HM HM' HI HH HR HD ST OW hr1 hch hb hln
          generalize hT : xs.take k = tk at *
          clear hT
          go_wp2_with fail
          refine HC.out.mono ?_
          rintro e w' ⟨rfl, rfl⟩
          go_wp2_with fail
          refine HCH.out.mono ?_
          rintro e w' ⟨rfl, rfl⟩
          clear HC HCH hc
          go_wp2_with fail
          go_loopg [8] (tel ts i).needs.length (fun gg s wr => ∃ j : Nat, j ≤ (tel ts i).needs.length ∧ (tel ts i).needs.length - j ≤ gg ∧ s = .int .i64 j ∧ Aside (wo = wr) ∧ Aside (seenK ts xs k j = true))
          case atStart => exact ⟨0, Nat.zero_le _, by omega, rfl, rfl, rfl⟩
          case round =>
            obtain ⟨j, hj, hgj, rfl, BN, LL⟩ := hrel
            obtain rfl := BN.out
            obtain ⟨bt, offt, A2, c2, rfl, p0, p1, p2, _, hrn⟩ := (HT.out.below BW.out).get (k := i) hin
            have hnl := HO.out.len i hin
            have hin' : (i : Int) < (ts.length : Int) := by omega
            by_cases hlj : j < (tel ts i).needs.length
            · have hlj' : (j : Int) < ((tel ts i).needs.length : Int) := by omega
              obtain ⟨bn, offn, rfl, hcn⟩ := hrn.get hlj
              have hh := HHH.out (el (tel ts i).needs j)
              have hsk := HSK.out j
              rw [LL.out, Bool.true_and] at hsk
              cases h2 : hasB tk (el (tel ts i).needs j) with
              | false =>
                rw [h2] at hh hsk
                have HF := hid (HST.out (HSM.out (j + 1) (by omega) hsk))
                have HHC := hid hh
                clear hh hsk h2 HST HSY HSK HSA HSM HTK HR1 HHH HOW HT HO p0 p1 hrn LL
                generalize (tel ts i).needs.length = nl at *
                go_wp2_with fail
                refine HHC.out.mono ?_
                rintro e w' ⟨rfl, rfl⟩
                go_wp2_with fail
                go_ret
                exact ⟨ret_b HF.out, BW.out⟩
              | true =>
                rw [h2] at hh hsk
                have LL' : Aside (seenK ts xs k (j + 1) = true) := hsk
                have HHC := hid hh
                clear hh hsk h2 HST HSY HSK HSA HSM HTK HR1 HHH HOW HT HO p0 p1 hrn LL BW
                generalize (tel ts i).needs.length = nl at *
                go_wp2_with fail
                refine HHC.out.mono ?_
                rintro e w' ⟨rfl, rfl⟩
                clear HHC p2 hcn
                go_wp2_with fail
                go_roundg (nl - (j + 1))
                case measure => omega
                case rel => exact ⟨j + 1, by omega, by omega, by go_num, rfl, LL'⟩
            · have hjj : j = (tel ts i).needs.length := by omega
              have hlj' : ¬ (j : Int) < ((tel ts i).needs.length : Int) := by omega
              have hll := LL.out
              rw [hjj, HSA.out] at hll
              have ST' : Aside (stepN ts xs (k + 1) = true) := HSY.out hll
              have hsz := BW.out.size
              have hlen : tk.length ≤ 1048576 := by have := HLN.out; omega
              clear HST HSY HSK HSA HSM HR1 HHH HT HO p0 p1 hrn LL hjj hll
              generalize (tel ts i).needs.length = nl at *
              go_wp2_with ((at_builtin; refine wp_append1 w.heap.size rfl _ _ 25 2 (.int .i64 0) 8 rfl Try.underlying25 infoInt rfl (.slice A1 tk.length c1) tk.length _ (.int .i64 (i : Nat)) rfl rfl rfl HOW.out hsz (by omega) (by omega) ?_; intro v1 w1 hown1 hbel1))
              go_roundg (xs.length - (k + 1))
              case measure => omega
              case rel =>
                refine ⟨k + 1, by omega, by omega, by go_num, ?_, ?_, ST'⟩
                · show Below _ _ _; exact BW.out.trans hbel1
                · show OwnI _ _ _ _ _ _
                  rw [HTK.out]
                  unfold OwnI
                  rw [ints_append, List.length_append]
                  exact hown1
    · have : k = xs.length := by omega
      subst this
      have hlt' : ¬ ((xs.length : Nat) : Int) < ((xs.length : Nat) : Int) := by omega
      have HF := hid (HD.out ST.out)
      clear HM HI HH HR HT HO HD ST OW
      go_wp2_with fail
      go_ret
      exact ⟨ret_b HF.out, BW.out⟩
end Go.Proofs.Ytcknhjeefdbhbaa
