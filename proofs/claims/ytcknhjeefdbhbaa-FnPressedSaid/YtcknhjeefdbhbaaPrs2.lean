import Derived.Test.YtcknhjeefdbhbaaPrs
import Derived.Test.YtcknhjeefdbhbaaOrd2
import Derived.Test.YtcknhjeefdbhbaaHts5
import Derived.Test.YtcknhjeefdbhbaaHts3
set_option linter.unusedVariables false
set_option linter.unusedSimpArgs false
namespace Go.Proofs.Ytcknhjeefdbhbaa
open Go.RowKit

set_option maxRecDepth 100000 in
set_option maxHeartbeats 1000000 in
theorem i_pressure (w : World) (A' A : Option Addr) (c' c : Nat) (ts : List TaskV) (xs : List Int) (hO : TOk ts) (hp : plcB ts xs = true) (hl : xs.length ≤ 1048576) (hT : RdT w A' ts) (hR : RdI w A xs) :
    Calls Try.prog 121 #[.slice A' ts.length c', .slice A xs.length c] w fun e w' => e = .returned (.int .i64 (prsI ts xs xs.length)) ∧ Below w.heap.size w w' := by
  have hfew := hO.few
  have c0 := i_places w A c xs ts.length hl (by omega) hR
  obtain ⟨hpl, hlen⟩ := m_places_yes hp
  rw [hpl] at c0
  have C0 := hid c0
  have HT := hid hT
  have HO := hid hO
  have hx8 : xs.length ≤ 8 := by omega
  have HLE : Hid ((inv xs).length = ts.length) := hid ((inv_length xs).trans hlen)
  have HLX := hid hlen
  have HC : Hid (∀ now k, cntI ts xs now (k + 1) = cntI ts xs now k + (if decide (el (inv xs) k ≤ (now : Int)) && decide ((now : Int) < el (lsN ts (inv xs) ts.length) k) then 1 else 0)) := hid fun now k => rfl
  have HCL : Hid (∀ now k, cntI ts xs now k ≤ k) := hid (cntI_le ts xs)
  have HP : Hid (∀ now, prsI ts xs (now + 1) = max (prsI ts xs now) (cntI ts xs now ts.length : Nat)) := hid fun _ => rfl
  have HPB : Hid (∀ now, 0 ≤ prsI ts xs now ∧ prsI ts xs now ≤ ts.length) := hid (prsI_bnd ts xs)
  have HLS : Hid (∀ P i, lsN ts P (i + 1) = lsJ (lsN ts P i) (el P i) (tel ts i).needs (tel ts i).needs.length) := hid fun _ _ => rfl
  have hmk := makeGoInt ts.length (by omega)
  clear c0 hT hO hp hpl hlen hR
  go_enter Try.func121, Try.ntmps121
  go_wp2_with fail
  refine C0.out.mono ?_
  rintro e w1 ⟨v, rfl, ho, hb1⟩
  obtain ⟨A1, c1, rfl, _, _, hr1⟩ := Own.int ho
  have HR1 := hid hr1
  have HB1 := hid hb1
  generalize inv xs = P at *
  clear C0 ho hr1 hb1
  go_wp2
  clear hmk
  go_loopg [28] ts.length (fun gg s wr => ∃ i : Nat, i ≤ ts.length ∧ ts.length - i ≤ gg ∧ s = .int .i64 i ∧ Aside (Below w1.heap.size w1 wr) ∧ Aside (Own wr w1.heap.size (w1.heap.size + 1) 3 1 (.slice (some ⟨w1.heap.size, 0, none⟩) ts.length ts.length) ts.length (ints (lsN ts P i))))
  case atStart => exact ⟨0, Nat.zero_le _, by omega, rfl, ballocw w1 _, by unfold Aside; simpa [lsN, ints_replicate] using own_made w1 3 (.int .i64 0) ts.length (by omega)⟩
  case round =>
    obtain ⟨i, hi, hg, rfl, BW, OW⟩ := hrel
    obtain ⟨wo, rfl⟩ : ∃ wo : World, wo = wr := ⟨_, rfl⟩
    by_cases hlt : i < ts.length
    · have hlt' : (i : Int) < (ts.length : Int) := by omega
      obtain ⟨bt, offt, A2, c2, rfl, p0w, p1w, p2w, _, hrn⟩ := (HT.out.below HB1.out).get (k := i) hlt
      have p0 := bcell BW.out p0w
      have p1 := bcell BW.out p1w
      have p2 := bcell BW.out p2w
      have hbt : Below wo.heap.size wo (wo.alloc (.cells #[.int .i64 (tel ts i).port, .int .i64 (tel ts i).lat, .slice A2 (tel ts i).needs.length c2] 132)) := ballocw wo _
      have hbv := bthen BW.out hbt
      have HBV := hid hbv
      have HOV := hid (OW.out.eqv (Eqv.of hbt (by have := (OW.out.1.lt w1.heap.size rfl).2; omega)))
      have k2 : (wo.alloc (.cells #[.int .i64 (tel ts i).port, .int .i64 (tel ts i).lat, .slice A2 (tel ts i).needs.length c2] 132)).cell? ⟨wo.heap.size, 2, none⟩ = some (.slice A2 (tel ts i).needs.length c2) := by simp
      have hnl := HO.out.len i hlt
      have HND := hid (HO.out.need i hlt)
      have HS := hid (HLS.out P i)
      have HLL := hid (lsN_length ts P i)
      have hia : (i : Int) < (P.length : Int) := by have := HLE.out; omega
      have HRN := hid hrn
      have HRP : Hid (∀ W, Below w1.heap.size w1 W → ∃ b off, A1 = some ⟨b, off, none⟩ ∧ W.cell? ⟨b, off + i, none⟩ = some (.int .i64 (el P i))) := hid (fun W hW => (HR1.out.below hW).get (by omega))
      clear hbt hbv OW BW hrn p0w p1w p2w HR1 HLE HLX HC HCL HP HPB HO HLS
      generalize el P i = y at *
      generalize lsN ts P i = O1 at *
      generalize (tel ts i).port = pp at *
      generalize (tel ts i).lat = pl at *
      go_wp2
      clear k2 p0 p1 p2
      go_loopg [36] (tel ts i).needs.length (fun gg s wr => ∃ k : Nat, k ≤ (tel ts i).needs.length ∧ (tel ts i).needs.length - k ≤ gg ∧ s = .int .i64 k ∧ Aside (Below w1.heap.size w1 wr) ∧
        Aside (Own wr w1.heap.size (w1.heap.size + 1) 3 1 (.slice (some ⟨w1.heap.size, 0, none⟩) ts.length ts.length) ts.length (ints (lsJ O1 y (tel ts i).needs k))))
      case atStart => exact ⟨0, Nat.zero_le _, by omega, rfl, HBV.out, HOV.out⟩
      case round =>
        obtain ⟨k, hk, hgk, rfl, BJ, OJ⟩ := hrel
        clear HBV HOV
        by_cases hlk : k < (tel ts i).needs.length
        · obtain ⟨bn, offn, rfl, hcn⟩ := (HRN.out.below BJ.out).get hlk
          obtain ⟨ba, offa, rfl, hca⟩ := HRP.out _ BJ.out
          have hnd := HND.out k hlk
          obtain ⟨d, hd⟩ : ∃ d : Nat, el (tel ts i).needs k = d := ⟨(el (tel ts i).needs k).toNat, by omega⟩
          rw [hd] at hcn
          have hdn : (d : Int) < (ts.length : Int) := by omega
          have hll := (lsJ_length O1 y (tel ts i).needs k).trans HLL.out
          obtain ⟨hcd, hfd⟩ := own_cell OJ.out (k := d) (by omega)
          have hst : lsJ O1 y (tel ts i).needs (k + 1) = (lsJ O1 y (tel ts i).needs k).set (el (tel ts i).needs k).toNat (max (el (lsJ O1 y (tel ts i).needs k) (el (tel ts i).needs k).toNat) y) := rfl
          rw [hd, Int.toNat_natCast] at hst
          have OJ1 := hid (own_drew (own_put OJ.out d (max (el (lsJ O1 y (tel ts i).needs k) d) y)))
          rw [← hst] at OJ1
          have BJ1 := hid (bdrew (bset BJ.out (Nat.le_refl w1.heap.size) (p := ⟨w1.heap.size, d, none⟩) (.int .i64 (max (el (lsJ O1 y (tel ts i).needs k) d) y))))
          clear hst hll hnd hd BJ OJ HS HRN HRP HND HLL HT
          generalize el (lsJ O1 y (tel ts i).needs k) d = x at *
          generalize (tel ts i).needs.length = nl at *
          by_cases hxy : x < y
          · rw [max_hi hxy] at OJ1 BJ1
            go_wp2
            go_still_tail 12, (by kernel_rfl)
            change wpList _ _ _ _ _ wr.drew
            go_wp2
            go_roundg (nl - (k + 1))
            case measure => omega
            case rel => exact ⟨k + 1, by omega, by omega, by go_num, BJ1.out, OJ1.out⟩
          · rw [max_lo hxy] at OJ1 BJ1
            go_wp2
            go_still_tail 12, (by kernel_rfl)
            change wpList _ _ _ _ _ wr.drew
            go_wp2
            go_roundg (nl - (k + 1))
            case measure => omega
            case rel => exact ⟨k + 1, by omega, by omega, by go_num, BJ1.out, OJ1.out⟩
        · have : k = (tel ts i).needs.length := by omega
          subst this
          have OJ1 := hid OJ.out
          rw [← HS.out] at OJ1
          clear OJ HS HRN HRP HND HLL HT
          generalize (tel ts i).needs.length = nl at *
          go_wp2
          go_roundg (ts.length - (i + 1))
          case measure => omega
          case rel => exact ⟨i + 1, by omega, by omega, by go_num, BJ, OJ1.out⟩
    · have : i = ts.length := by omega
      subst this
      have HBO := hid BW.out
      have HOO := hid OW.out
      have HLL := hid (lsN_length ts P ts.length)
      clear OW BW HLS HT HO
      generalize lsN ts P ts.length = L at *
      go_wp2
      go_loopg [12, 56] xs.length (fun gg m s wr => ∃ i : Nat, i ≤ xs.length ∧ xs.length - i ≤ gg ∧ s = .int .i64 i ∧ m = .int .i64 (prsI ts xs i) ∧ Aside (wo = wr))
      case atStart => exact ⟨0, Nat.zero_le _, by omega, rfl, rfl, rfl⟩
      case round =>
        obtain ⟨i, hi, hgi, rfl, rfl, BN⟩ := hrel
        obtain rfl := BN.out
        clear BN
        by_cases hli : i < xs.length
        · have hpb := HPB.out i
          obtain ⟨hpb0, hpb1⟩ := hpb
          have HPI := hid (HP.out i)
          have HCI := hid (HC.out i)
          have HCLI := hid (HCL.out i)
          have HC0 : Hid (cntI ts xs i 0 = 0) := hid rfl
          clear HPB HP HC HCL
          go_wp2
          go_loopg [14, 61] ts.length (fun gg m s wr => ∃ k : Nat, k ≤ ts.length ∧ ts.length - k ≤ gg ∧ s = .int .i64 k ∧ m = .int .i64 (cntI ts xs i k : Nat) ∧ Aside (wo = wr))
          case atStart => exact ⟨0, Nat.zero_le _, by omega, rfl, (by rw [HC0.out]; rfl), rfl⟩
          case round =>
            obtain ⟨k, hk, hgk, rfl, rfl, BN⟩ := hrel
            obtain rfl := BN.out
            clear BN
            have hcl := HCLI.out k
            by_cases hlk : k < ts.length
            · obtain ⟨ba, offa, rfl, hca⟩ := (HR1.out.below HBO.out).get (k := k) (by have := HLE.out; omega)
              have hkp : (k : Int) < (P.length : Int) := by have := HLE.out; omega
              have hkt : (k : Int) < (ts.length : Int) := by omega
              obtain ⟨hcd, hfd⟩ := own_cell HOO.out (k := k) (by have := HLL.out; omega)
              have HCK := hid (HCI.out k)
              clear hfd HCI HPI HCLI HC0 HLE HLX HLL HBO HOO HR1 HB1
              generalize el P k = x at *
              generalize el L k = y at *
              generalize cntI ts xs i k = q at *
              by_cases hx : x ≤ (i : Int)
              · by_cases hy : (i : Int) < y
                · have HQ : Hid (cntI ts xs i (k + 1) = q + 1) := hid (by rw [HCK.out]; simp [hx, hy])
                  clear HCK
                  go_wp2
                  go_roundg (ts.length - (k + 1))
                  case measure => omega
                  case rel => exact ⟨k + 1, by omega, by omega, by go_num, (by rw [HQ.out]; go_num), rfl⟩
                · have HQ : Hid (cntI ts xs i (k + 1) = q) := hid (by rw [HCK.out]; simp [hy])
                  clear HCK
                  go_wp2
                  go_roundg (ts.length - (k + 1))
                  case measure => omega
                  case rel => exact ⟨k + 1, by omega, by omega, by go_num, (by rw [HQ.out]), rfl⟩
              · have HQ : Hid (cntI ts xs i (k + 1) = q) := hid (by rw [HCK.out]; simp [hx])
                clear HCK
                go_wp2
                go_roundg (ts.length - (k + 1))
                case measure => omega
                case rel => exact ⟨k + 1, by omega, by omega, by go_num, (by rw [HQ.out]), rfl⟩
            · have : k = ts.length := by omega
              subst this
              clear HCI HCLI HC0 HLE HLX HLL HBO HOO HR1 HB1
              generalize cntI ts xs i ts.length = q at *
              generalize prsI ts xs i = z at *
              by_cases hz : z < (q : Int)
              · have HQ : Hid (prsI ts xs (i + 1) = (q : Int)) := hid (by rw [HPI.out]; omega)
                clear HPI
                go_wp2
                go_roundg (xs.length - (i + 1))
                case measure => omega
                case rel => exact ⟨i + 1, by omega, by omega, by go_num, (by rw [HQ.out]), rfl⟩
              · have HQ : Hid (prsI ts xs (i + 1) = z) := hid (by rw [HPI.out]; omega)
                clear HPI
                go_wp2
                go_roundg (xs.length - (i + 1))
                case measure => omega
                case rel => exact ⟨i + 1, by omega, by omega, by go_num, (by rw [HQ.out]), rfl⟩
        · have : i = xs.length := by omega
          subst this
          have HBW := hid (bthen HB1.out HBO.out)
          clear HPB HP HC HCL HBO HB1 HR1 HOO HLL
          go_wp2
          go_ret
          exact ⟨rfl, HBW.out⟩
end Go.Proofs.Ytcknhjeefdbhbaa
