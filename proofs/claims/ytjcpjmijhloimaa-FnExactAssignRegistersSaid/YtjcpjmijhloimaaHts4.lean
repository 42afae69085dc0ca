import Derived.Test.YtjcpjmijhloimaaHts3
set_option linter.unusedVariables false
set_option linter.unusedSimpArgs false
namespace Go.Proofs.Ytjcpjmijhloimaa
open Go.RowKit

set_option maxRecDepth 100000 in
set_option maxHeartbeats 1000000 in
theorem s_l06Heights (w : World) (A : Option Addr) (c : Nat) (ts : List TaskV) (hO : TOk ts) (hT : RdT w A ts) :
    Calls Try.prog 219 #[.slice A ts.length c] w (RetI w 2 (hts ts)) := by
  have hfew := hO.few
  have hmk := makeInt ts.length (by omega)
  have HO := hid hO
  have HT := hid hT
  clear hO hT
  go_enter Try.func219, Try.ntmps219
  go_wp2
  clear hmk
  go_loopg [4] ts.length (fun gg s wr => ∃ (i : Nat) (z : Int), i ≤ ts.length ∧ i ≤ gg ∧ s = .int .i64 z ∧ z = (i : Int) - 1 ∧ Aside (Below w.heap.size w wr) ∧
    Aside (Own wr w.heap.size (w.heap.size + 1) 2 1 (.slice (some ⟨w.heap.size, 0, none⟩) ts.length ts.length) ts.length (ints (htN ts (ts.length - i)))))
  case atStart => exact ⟨ts.length, _, Nat.le_refl _, Nat.le_refl _, rfl, rfl, ballocw w _, by unfold Aside; rw [Nat.sub_self]; simpa [htN, ints_replicate] using own_made w 2 (.int .i64 0) ts.length (by omega)⟩
  case round =>
    obtain ⟨i, z, hi, hg, rfl, hz, BW, OW⟩ := hrel
    obtain ⟨wo, rfl⟩ : ∃ wo : World, wo = wr := ⟨_, rfl⟩
    cases i with
    | zero =>
      obtain rfl : z = -1 := by omega
      clear hz
      go_wp2
      go_ret
      refine ⟨_, rfl, ?_, BW.out⟩
      have hs := BW.out.size
      have := OW.out
      have hsz := (this.1.lt w.heap.size rfl).2
      rw [Nat.sub_zero] at this
      unfold OwnI
      rw [hts_length]
      exact Own.wide this (Nat.le_refl _) (by omega)
    | succ j =>
      obtain rfl : z = (j : Int) := by omega
      clear hz
      obtain ⟨bt, offt, A1, c1, rfl, p0w, p1w, p2w, _, hrn⟩ := HT.out.get (k := j) (by omega)
      have p1 := bcell BW.out p1w
      have hla := HO.out.lat j (by omega)
      obtain ⟨hla0, hla1⟩ := hla
      have hb := bnd_htN HO.out (ts.length - (j + 1)) (by omega)
      have hbj := hb j
      obtain ⟨hbj0, hbj1⟩ := hbj
      have hll := htN_length ts (ts.length - (j + 1))
      obtain ⟨hcj, hfj⟩ := own_cell (own_drew OW.out) (k := j) (by omega)
      have hcj' := (own_cell OW.out (k := j) (by omega)).1
      have hjn : (j : Int) < (ts.length : Int) := by omega
      have HS := hid (htN_step (ts := ts) (j := j) (by omega))
      have HB := hid (bnd_set (x := el (htN ts (ts.length - (j + 1))) j + (tel ts j).lat) (bnd_wide hb (b' := 48) (by omega)) j (by omega) (by omega))
      have OW1 := hid (own_drew (own_put OW.out j (el (htN ts (ts.length - (j + 1))) j + (tel ts j).lat)))
      have bw1 := bset BW.out (Nat.le_refl w.heap.size) (p := ⟨w.heap.size, j, none⟩) (.int .i64 (el (htN ts (ts.length - (j + 1))) j + (tel ts j).lat))
      have hp2 := bcell bw1 p2w
      have BW1 := hid (bdrew bw1)
      have HL1 : Hid (((htN ts (ts.length - (j + 1))).set j (el (htN ts (ts.length - (j + 1))) j + (tel ts j).lat)).length = ts.length) := hid (by rw [List.length_set]; exact hll)
      have HP2 := hid p2w
      have HRN := hid hrn
      clear hb hll p0w p1w p2w hrn BW OW bw1
      generalize (htN ts (ts.length - (j + 1))).set j (el (htN ts (ts.length - (j + 1))) j + (tel ts j).lat) = O1 at *
      generalize el (htN ts (ts.length - (j + 1))) j = x at *
      generalize (tel ts j).lat = l at *
      go_wp2
      go_still_tail 11, (by kernel_rfl)
      change wpList _ _ _ _ _ wo.drew
      clear p1
      go_wp2
      clear hcj hcj' hfj hp2
      go_loopg [5] (tel ts j).needs.length (fun gg s wr => ∃ k : Nat, k ≤ (tel ts j).needs.length ∧ (tel ts j).needs.length - k ≤ gg ∧ s = .int .i64 k ∧ Aside (Below w.heap.size w wr) ∧
        Aside (Own wr w.heap.size (w.heap.size + 1) 2 1 (.slice (some ⟨w.heap.size, 0, none⟩) ts.length ts.length) ts.length (ints (ndN O1 j (tel ts j).needs k))))
      case atStart => exact ⟨0, Nat.zero_le _, by omega, rfl, BW1.out, OW1.out⟩
      case round =>
        obtain ⟨k, hk, hgk, rfl, BJ, OJ⟩ := hrel
        have hnl := HO.out.len j (by omega)
        have hp2 := bcell BJ.out HP2.out
        by_cases hlk : k < (tel ts j).needs.length
        · obtain ⟨bn, offn, rfl, hcn⟩ := (HRN.out.below BJ.out).get hlk
          have hnd := HO.out.need j (by omega) k hlk
          obtain ⟨d, hd⟩ : ∃ d : Nat, el (tel ts j).needs k = d := ⟨(el (tel ts j).needs k).toNat, by omega⟩
          rw [hd] at hcn
          have hdn : (d : Int) < (ts.length : Int) := by omega
          have hll := (ndN_length O1 j (tel ts j).needs k).trans HL1.out
          obtain ⟨hcd, hfd⟩ := own_cell OJ.out (k := d) (by omega)
          have hcj := (own_cell OJ.out (k := j) (by omega)).1
          have hst : ndN O1 j (tel ts j).needs (k + 1) = (ndN O1 j (tel ts j).needs k).set (el (tel ts j).needs k).toNat (max (el (ndN O1 j (tel ts j).needs k) (el (tel ts j).needs k).toNat) (el (ndN O1 j (tel ts j).needs k) j)) := rfl
          rw [hd, Int.toNat_natCast] at hst
          have OJ1 := hid (own_drew (own_put OJ.out d (max (el (ndN O1 j (tel ts j).needs k) d) (el (ndN O1 j (tel ts j).needs k) j))))
          rw [← hst] at OJ1
          have BJ1 := hid (bdrew (bset BJ.out (Nat.le_refl w.heap.size) (p := ⟨w.heap.size, d, none⟩) (.int .i64 (max (el (ndN O1 j (tel ts j).needs k) d) (el (ndN O1 j (tel ts j).needs k) j)))))
          clear hst hll hnd hd BJ OJ HS HB BW1 OW1 HL1 HRN HP2 HO
          generalize el (ndN O1 j (tel ts j).needs k) d = x at *
          generalize el (ndN O1 j (tel ts j).needs k) j = y at *
          generalize (tel ts j).needs.length = nl at *
          have HM := hid (s_l00Max x y)
          generalize max x y = m at *
          have hlk' : (k : Int) < (nl : Int) := by omega
          go_wp2
          refine wp_region_still_tail 12 (by kernel_rfl) (by kernel_rfl) ?_
          simp only [List.take_succ_cons, List.take_zero, List.drop_succ_cons, List.drop_zero]
          repeat still_step
          refine wpStill_step (fun K hK => ?_)
          go_simp
          refine ⟨_, (HM.out _).mono fun e w' h => ⟨h.1, h.2.symm⟩, hK _ ?_⟩
          clear hK K
          repeat still_step
          try refine wpStill_nil ?_
          change wpList _ _ _ _ _ wr.drew
          go_wp2
          go_roundg (nl - (k + 1))
          case measure => omega
          case rel => exact ⟨k + 1, by omega, by omega, by go_num, BJ1.out, OJ1.out⟩
        · have : k = (tel ts j).needs.length := by omega
          subst this
          have hlk' : ¬ (((tel ts j).needs.length : Nat) : Int) < (((tel ts j).needs.length : Nat) : Int) := by omega
          have OJ1 := hid OJ.out
          rw [← HS.out] at OJ1
          clear OJ HS HB BW1 OW1 HL1 HRN HP2 HO
          generalize (tel ts j).needs.length = nl at *
          go_wp2
          go_roundg j
          case measure => omega
          case rel => exact ⟨j, _, by omega, by omega, rfl, by omega, BJ, OJ1.out⟩
end Go.Proofs.Ytjcpjmijhloimaa
