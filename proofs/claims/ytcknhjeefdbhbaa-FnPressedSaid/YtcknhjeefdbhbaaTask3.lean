import Derived.Test.YtcknhjeefdbhbaaTask2
set_option linter.unusedVariables false
set_option linter.unusedSimpArgs false
namespace Go.Proofs.Ytcknhjeefdbhbaa
open Go.RowKit

set_option maxRecDepth 100000 in
theorem l_toTaskSO (w : World) (A : Option Addr) (c : Nat) (xs : List TaskV) (hl : tsz xs ≤ 1048576) (hR : RdT w A xs) :
    Calls Try.prog 63 #[.slice A xs.length c] w fun e w' => ∃ v, e = .returned v ∧ OT w' w.heap.size w'.heap.size v xs ∧ Below w.heap.size w w' := by
  have hn := tsz_len hl
  have hmk := makeTasks xs.length hn
  have HL : Hid (tsz xs ≤ 1048576) := hid hl
  have HR := hid hR
  clear hl hR
  go_enter Try.func63, Try.ntmps63
  go_wp2_with fail
  clear hmk
  go_loopg [4] xs.length (fun gg s wr => ∃ k : Nat, k ≤ xs.length ∧ xs.length - k ≤ gg ∧ s = .int .i64 k ∧ Aside (Below w.heap.size w wr) ∧ Aside (∃ f, SofarT wr w.heap.size xs k f))
  case atStart =>
    refine ⟨0, Nat.zero_le _, by omega, rfl, ballocw w _, ⟨fun _ => .slice none 0 0, ?_, by simp, fun j hj => absurd hj (Nat.not_lt_zero _), fun i j a b _ hj => absurd hj (Nat.not_lt_zero _)⟩⟩
    simpa [tcs] using own_made3 w 132 xs.length hn
  case round =>
    obtain ⟨k, hk, hg, rfl, BW, SF⟩ := hrel
    by_cases hlt : k < xs.length
    · obtain ⟨f, hf⟩ := SF.out
      obtain ⟨b, off, A', c', rfl, hc, hc1, hc2, hcc, hr⟩ := (HR.out.below BW.out).get hlt
      have hrl : (tel xs k).needs.length ≤ 35184372088832 := Nat.le_trans (tsz_row HL.out hlt) (by decide)
      have hcall := l_toTask wr (tel xs k).port (tel xs k).lat A' (tel xs k).needs.length c' (tel xs k).needs (hid fun W hW => l_toInt64SO W A' c' (tel xs k).needs hrl (hr.below hW))
      have HF := hid hf
      have HC := hid hcall
      clear hf hr SF hcall hcc hrl
      go_wp2_with fail
      refine HC.out.mono ?_
      rintro e w1 ⟨v1, rfl, ho1, hb1⟩
      have hst := HF.out.step hlt hb1 ho1
      have ow1 : Own w1 _ _ _ _ _ _ _ := HF.out.outer.eqv (Eqv.of hb1 HF.out.size)
      obtain ⟨A0, c0, e0, _, _, hs⟩ := ow1.shape
      obtain ⟨rfl, rfl⟩ : A0 = some ⟨w.heap.size, 0, none⟩ ∧ c0 = xs.length := by cases e0; exact ⟨rfl, rfl⟩
      rcases hs with ⟨h0, _⟩ | ⟨g, hg', _, _, hcells, hfr⟩
      · cases h0
      obtain rfl : g = w.heap.size := by cases hg'; rfl
      obtain ⟨m, hm⟩ : ∃ m, xs.length - k = m + 1 := ⟨xs.length - k - 1, by omega⟩
      have hll := tcs_length xs f k
      have hck := hcells (k * 3) (.int .i64 0) (by rw [List.getElem?_append_right (by omega), hm, hll]; simp [tzs])
      have hck1 := hcells (k * 3 + 1) (.int .i64 0) (by rw [List.getElem?_append_right (by omega), hm, hll]; simp [tzs, show k * 3 + 1 - k * 3 = 1 from by omega])
      have hck2 := hcells (k * 3 + 2) (.slice none 0 0) (by rw [List.getElem?_append_right (by omega), hm, hll]; simp [tzs, show k * 3 + 2 - k * 3 = 2 from by omega])
      have hfk := hfr (k * 3)
      have hfk1 := hfr (k * 3 + 1)
      have hfk2 := hfr (k * 3 + 2)
      have HS := hid hst
      have BW' : Aside (Below w.heap.size w (((w1.setCell ⟨w.heap.size, k * 3, none⟩ (.int .i64 (tel xs k).port)).setCell ⟨w.heap.size, k * 3 + 1, none⟩ (.int .i64 (tel xs k).lat)).setCell ⟨w.heap.size, k * 3 + 2, none⟩ v1)) :=
        bset (bset (bset (bthen BW.out hb1) (Nat.le_refl _) _) (Nat.le_refl _) _) (Nat.le_refl _) _
      obtain ⟨A1, c1, rfl, _, _, _⟩ := ho1.shp
      clear hst ow1 e0 hg' hcells hfr ho1 HF HC hc hc1 hc2 hb1 hm hll
      go_wp2_with fail
      go_roundg (xs.length - (k + 1))
      case measure => omega
      case rel => exact ⟨k + 1, by omega, by omega, by go_num, BW', ⟨_, HS.out⟩⟩
    · have : k = xs.length := by omega
      subst this
      go_wp2_with fail
      go_ret
      obtain ⟨f, hf⟩ := SF.out
      exact ⟨_, rfl, hf.done, BW.out⟩
set_option maxRecDepth 100000 in
theorem l_szTaskSO (w : World) (A : Option Addr) (c : Nat) (xs : List TaskV) (left : Int) (hl : BigT xs) (h0 : 0 ≤ left) (h1 : left ≤ 1048576) (hR : RdT w A xs) :
    Calls Try.prog 61 #[.slice A xs.length c, .int .i64 left] w fun e w' => e = .returned (.int .i64 (szR left (tsz xs))) ∧ Below w.heap.size w w' := by
  obtain ⟨hl0, hl1⟩ := hl
  have HR := hid hR
  have HL := hid hl1
  have HM : Hid (∀ k, k ≤ xs.length → ttot xs k ≤ ttot xs xs.length) := hid fun k hk => ttot_mono xs hk
  have hsz : tsz xs = xs.length + ttot xs xs.length := rfl
  have hs := l_szTask
  have HS := hid hs
  clear hR hl1 hs
  have HN : Hid (left < (xs.length : Int) + (ttot xs xs.length : Int) → -1 = szR left (tsz xs)) := hid fun h => by unfold szR; rw [if_pos (by omega)]
  have HP : Hid (¬ left < (xs.length : Int) + (ttot xs xs.length : Int) → left - xs.length - ttot xs xs.length = szR left (tsz xs)) := hid fun h => by unfold szR; rw [if_neg (by omega)]; omega
  clear hsz
  generalize szR left (tsz xs) = G at HN HP ⊢
  by_cases h : left < xs.length
  · have h' : left - xs.length < 0 := by omega
    clear HR HL HM HS
    go_enter Try.func61, Try.ntmps61
    go_wp2
    go_ret
    exact ⟨ret_i (HN.out (by omega)), Below.refl _ _⟩
  · have h' : ¬ left - xs.length < 0 := by omega
    go_enter Try.func61, Try.ntmps61
    go_wp2
    go_loopg [1, 5] xs.length (fun gg l s wr => ∃ k : Nat, k ≤ xs.length ∧ xs.length - k ≤ gg ∧ s = .int .i64 k ∧ l = .int .i64 (left - xs.length - ttot xs k) ∧ Aside ((ttot xs k : Int) ≤ left - xs.length) ∧ Aside (Below w.heap.size w wr))
    case atStart => exact ⟨0, Nat.zero_le _, by omega, rfl, by simp [ttot], (by show ((ttot xs 0 : Nat) : Int) ≤ _; simp only [ttot]; omega), Below.refl _ _⟩
    case round =>
      obtain ⟨k, hk, hg, rfl, rfl, LE, BW⟩ := hrel
      have hle := LE.out
      by_cases hlt : k < xs.length
      · obtain ⟨b, off, A', c', rfl, hc, hc1, hc2, _, _⟩ := (HR.out.below BW.out).get hlt
        have hrl := HL.out k hlt
        have hsk := HS.out wr (tel xs k).port (tel xs k).lat A' (tel xs k).needs.length c' (left - xs.length - ttot xs k) hrl (by omega) (by omega)
        have hst : ttot xs (k + 1) = ttot xs k + (tel xs k).needs.length := rfl
        have hmk := HM.out (k + 1) (by omega)
        unfold szR at hsk
        by_cases hq : left - xs.length - ttot xs k < ((tel xs k).needs.length : Nat)
        · rw [if_pos hq] at hsk
          have HF : Hid (left < (xs.length : Int) + (ttot xs xs.length : Int)) := hid (by omega)
          have HSK := hid hsk
          clear HS HM HL HR hst hmk hq LE hsk
          generalize ttot xs k = t at *
          go_wp2_with fail
          refine HSK.out.mono ?_
          rintro e w' ⟨rfl, hb1⟩
          go_wp2_with fail
          go_ret
          exact ⟨ret_i (HN.out HF.out), bthen BW.out hb1⟩
        · rw [if_neg hq] at hsk
          have LE' : Aside ((ttot xs (k + 1) : Int) ≤ left - xs.length) := by show ((ttot xs (k + 1) : Nat) : Int) ≤ _; omega
          have HE : Hid (left - xs.length - ttot xs k - (tel xs k).needs.length = left - xs.length - ttot xs (k + 1)) := hid (by omega)
          have hnn : 0 ≤ left - xs.length - ttot xs k - ((tel xs k).needs.length : Nat) := by omega
          have HSK := hid hsk
          clear HM HL hst hmk hq LE hsk
          go_wp2_with fail
          refine HSK.out.mono ?_
          rintro e w' ⟨rfl, hb1⟩
          have BW2 : Aside (Below w.heap.size w w') := bthen BW.out hb1
          clear HSK hc hc1 hc2
          go_wp2_with fail
          go_roundg (xs.length - (k + 1))
          case measure => omega
          case rel => exact ⟨k + 1, by omega, by omega, by go_num, by rw [HE.out], LE', BW2⟩
      · have : k = xs.length := by omega
        subst this
        clear HS HM HL HR
        have HF : Hid (¬ left < (xs.length : Int) + (ttot xs xs.length : Int)) := hid (by omega)
        go_wp2_with fail
        go_ret
        exact ⟨ret_i (HP.out HF.out), BW.out⟩
end Go.Proofs.Ytcknhjeefdbhbaa
