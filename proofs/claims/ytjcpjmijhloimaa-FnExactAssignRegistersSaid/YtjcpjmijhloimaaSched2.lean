import Derived.Test.YtjcpjmijhloimaaSched
set_option linter.unusedVariables false
set_option linter.unusedSimpArgs false
namespace Go.Proofs.Ytjcpjmijhloimaa
open Go.RowKit

theorem box_new (w : World) (v : Value) (t : TypeId) : (w.alloc (.cells #[v] t)).cell? ⟨w.heap.size, 0, none⟩ = some v := by simp
theorem box_new1 (w : World) (o : Obj) (v : Value) (t : TypeId) : ((w.alloc o).alloc (.cells #[v] t)).cell? ⟨w.heap.size + 1, 0, none⟩ = some v := by
  have h := box_new (w.alloc o) v t
  rwa [show (w.alloc o).heap.size = w.heap.size + 1 by simp] at h
theorem box_new2 (w : World) (o o' : Obj) (v : Value) (t : TypeId) : (((w.alloc o).alloc o').alloc (.cells #[v] t)).cell? ⟨w.heap.size + 1 + 1, 0, none⟩ = some v := by
  have h := box_new1 (w.alloc o) o' v t
  rwa [show (w.alloc o).heap.size = w.heap.size + 1 by simp] at h
/-- Numbers that are not large. -/
def Sml (xs : List Int) : Prop := ∀ k, k < xs.length → -1000000 ≤ el xs k ∧ el xs k ≤ 1000000
theorem i_fits1 (W : World) (B D E : Nat) (A A' : Option Addr) (c c' : Nat) (xs : List Int) (ts : List TaskV) (i k : Nat) (hi : i < xs.length) (hk : k < xs.length) (hkt : k < ts.length) (hx0 : -1000000 ≤ el xs k) (hx1 : el xs k ≤ 1000000) (hl0 : 1 ≤ (tel ts k).lat) (hl1 : (tel ts k).lat ≤ 6)
    (hn : xs.length ≤ 1048576) (hn' : ts.length ≤ 1048576) (hB : W.cell? ⟨B, 0, none⟩ = some (.slice A xs.length c)) (hD : W.cell? ⟨D, 0, none⟩ = some (.int .i64 (i : Nat))) (hE : W.cell? ⟨E, 0, none⟩ = some (.slice A' ts.length c')) (hR : RdI W A xs) (hT : RdT W A' ts) :
    Calls Try.prog 176 #[.int .i64 (k : Nat), .pointer (some ⟨B, 0, none⟩), .pointer (some ⟨D, 0, none⟩), .pointer (some ⟨E, 0, none⟩)] W fun e w' => e = .returned (.bool (lateB ts xs i k)) ∧ Below W.heap.size W w' := by
  obtain ⟨b, off, rfl, hc⟩ := hR.get hi
  obtain ⟨b', off', e', hc'⟩ := hR.get hk
  cases e'
  obtain ⟨bt, offt, A1, c1, rfl, h0, h1, h2, _, _⟩ := hT.get hkt
  have hlt : (i : Int) < (xs.length : Int) := by omega
  have hlk : (k : Int) < (xs.length : Int) := by omega
  have hlt' : (k : Int) < (ts.length : Int) := by omega
  have HL : Hid (decide (el xs k + (tel ts k).lat ≤ el xs i) = lateB ts xs i k) := hid (by simp [lateB])
  clear hR hT h0 h2
  generalize lateB ts xs i k = r at HL ⊢
  generalize (tel ts k).lat = l at *
  generalize el xs k = x at *
  generalize el xs i = y at *
  go_enter Try.func176, Try.ntmps176
  go_wp2
  go_quiet (fail)
  go_wp2
  go_ret
  exact ⟨ret_b HL.out, ⟨rfl, rfl, rfl, Nat.le_refl _, fun _ _ => rfl⟩⟩
theorem i_fitsV (V : World) (B D E : Nat) (A A' : Option Addr) (c c' : Nat) (xs : List Int) (ts : List TaskV) (i : Nat) (hl : xs.length = ts.length) (hi : i < ts.length) (hO : TOk ts) (hS : Sml xs)
    (hB : V.cell? ⟨B, 0, none⟩ = some (.slice A xs.length c)) (hD : V.cell? ⟨D, 0, none⟩ = some (.int .i64 (i : Nat))) (hE : V.cell? ⟨E, 0, none⟩ = some (.slice A' ts.length c')) (hR : RdI V A xs) (hT : RdT V A' ts) (A1 : Option Addr) (c1 : Nat) (hr1 : RdI V A1 (tel ts i).needs)
    (W : World) (hW : Below V.heap.size V W) :
    Calls Try.prog 81 #[.slice A1 (tel ts i).needs.length c1, .func (.func 176) #[] #[.pointer (some ⟨B, 0, none⟩), .pointer (some ⟨D, 0, none⟩), .pointer (some ⟨E, 0, none⟩)]] W fun e w' => e = .returned (.bool (lateN ts xs i)) ∧ Below W.heap.size W w' := by
  have hfew := hO.few
  have h := areAllI W A1 (tel ts i).needs.length c1 (fun j => .int .i64 (el (tel ts i).needs j)) 176 #[.pointer (some ⟨B, 0, none⟩), .pointer (some ⟨D, 0, none⟩), .pointer (some ⟨E, 0, none⟩)] (fun j => lateB ts xs i (el (tel ts i).needs j)) (by have := hO.len i hi; omega) (hr1.below hW)
    (enters_of Try.func176 (by kernel_rfl) rfl) (fun W' hW' j hj => by
      have hnd := hO.need i hi j hj
      obtain ⟨k, hk⟩ : ∃ k : Nat, el (tel ts i).needs j = k := ⟨(el (tel ts i).needs j).toNat, by omega⟩
      have hkn : k < ts.length := by omega
      have hs := hS k (by omega)
      have hlt := hO.lat k hkn
      have h := i_fits1 W' B D E A A' c c' xs ts i k (by omega) (by omega) hkn hs.1 hs.2 hlt.1 hlt.2 (by omega) (by omega) (bcell hW' (bcell hW hB)) (bcell hW' (bcell hW hD)) (bcell hW' (bcell hW hE)) ((hR.below hW).below hW') ((hT.below hW).below hW')
      rw [← hk] at h
      exact h)
  rw [allN_ints (tel ts i).needs (lateB ts xs i)] at h
  exact h
abbrev FW (w : World) (A A' : Option Addr) (n c n' c' i : Nat) : World := ((w.alloc (.cells #[.slice A' n' c'] 63)).alloc (.cells #[.slice A n c] 25)).alloc (.cells #[.int .i64 (i : Nat)] 3)
set_option maxRecDepth 100000 in
theorem i_fits (w : World) (A A' : Option Addr) (c c' : Nat) (xs : List Int) (ts : List TaskV) (i : Nat) (hl : xs.length = ts.length) (hi : i < ts.length) (hO : TOk ts) (hS : Sml xs) (hR : RdI w A xs) (hT : RdT w A' ts) :
    Calls Try.prog 122 #[.slice A' ts.length c', .slice A xs.length c, .int .i64 (i : Nat)] w fun e w' => e = .returned (.bool (fitB ts xs i)) ∧ Below w.heap.size w w' := by
  have hfew := hO.few
  have hb3 : Below w.heap.size w (FW w A A' xs.length c ts.length c' i) := balloc (balloc (ballocw w _) _) _
  have hRf := hR.below hb3
  have hTf := hT.below hb3
  have d0 : (FW w A A' xs.length c ts.length c' i).cell? ⟨w.heap.size, 0, none⟩ = some (.slice A' ts.length c') := bcell (ballocw _ _) (bcell (ballocw _ _) (box_new w _ _))
  have d1 : (FW w A A' xs.length c ts.length c' i).cell? ⟨w.heap.size + 1, 0, none⟩ = some (.slice A xs.length c) := bcell (ballocw _ _) (box_new1 w _ _ _)
  have d2 : (FW w A A' xs.length c ts.length c' i).cell? ⟨w.heap.size + 1 + 1, 0, none⟩ = some (.int .i64 (i : Nat)) := box_new2 w _ _ _ _
  have hsz : (FW w A A' xs.length c ts.length c' i).heap.size = w.heap.size + 3 := by simp [FW]
  obtain ⟨bt, offt, A1, c1, eA, hp0, hp1, hp2, _, hr1⟩ := hTf.get hi
  have HA := hid (i_fitsV (FW w A A' xs.length c ts.length c' i) (w.heap.size + 1) (w.heap.size + 1 + 1) w.heap.size A A' c c' xs ts i hl hi hO hS d1 d2 d0 hRf hTf A1 c1 hr1)
  have HRF := hid hRf
  have HTF := hid hTf
  have HB3 := hid hb3
  have D0 := hid d0
  have D1 := hid d1
  have D2 := hid d2
  have HP2 := hid hp2
  have HEA := hid eA
  have HFB : Hid (portN ts xs i i = true → lateN ts xs i = fitB ts xs i) := hid fun h => by unfold fitB; rw [h]; rfl
  have HFF : Hid (portN ts xs i i = false → false = fitB ts xs i) := hid fun h => by unfold fitB; rw [h]; rfl
  have HLN := hid hl
  have hxl : xs.length ≤ 8 := by omega
  clear hl hRf hTf d0 d1 d2 hp0 hp1 hp2 hr1 eA hb3 hR hT hO hsz hS
  generalize hFW : FW w A A' xs.length c ts.length c' i = V at *
  have hV : ((w.alloc (.cells #[.slice A' ts.length c'] 63)).alloc (.cells #[.slice A xs.length c] 25)).alloc (.cells #[.int .i64 (i : Nat)] 3) = V := hFW
  clear hFW
  have HV := hid hV
  clear hV
  generalize lateN ts xs i = rl at HA HFB
  generalize fitB ts xs i = rf at HFB HFF ⊢
  go_enter Try.func122, Try.ntmps122
  go_wp2_with fail
  go_loopg [9] i (fun gg s wr => ∃ k : Nat, k ≤ i ∧ i - k ≤ gg ∧ s = .int .i64 k ∧ Aside (Below V.heap.size V wr) ∧ Aside (portN ts xs i k = true))
  case atStart =>
    rw [HV.out]
    exact ⟨0, Nat.zero_le _, by omega, rfl, Below.refl _ _, rfl⟩
  case round =>
    obtain ⟨k, hk, hg, rfl, BW, AL⟩ := hrel
    by_cases hlt : k < i
    · have d0 := bcell BW.out D0.out
      have d1 := bcell BW.out D1.out
      have d2 := bcell BW.out D2.out
      obtain ⟨b, off, rfl, hc⟩ := (HRF.out.below BW.out).get (k := k) (by have := HLN.out; omega)
      obtain ⟨b', off', e', hc'⟩ := (HRF.out.below BW.out).get (k := i) (by have := HLN.out; omega)
      cases e'
      obtain ⟨bt, offt, A2, c2, rfl, h0, h1, h2, _, _⟩ := (HTF.out.below BW.out).get (k := k) (by omega)
      obtain ⟨bt', offt', A3, c3, e', g0, g1, g2, _, _⟩ := (HTF.out.below BW.out).get (k := i) (by omega)
      cases e'
      have hst : portN ts xs i (k + 1) = (portN ts xs i k && !((tel ts k).port == (tel ts i).port && el xs k == el xs i)) := rfl
      rw [AL.out, Bool.true_and] at hst
      have HN : Hid (((tel ts k).port == (tel ts i).port && el xs k == el xs i) = true → false = rf) := hid fun h => HFF.out (portN_mono (j := k + 1) (by rw [hst, h]; rfl) (by omega))
      have HY : Hid (((tel ts k).port == (tel ts i).port && el xs k == el xs i) = false → portN ts xs i (k + 1) = true) := hid fun h => by rw [hst, h]; rfl
      have hi1 : (i : Int) < (xs.length : Int) := by have := HLN.out; omega
      have hi2 : (i : Int) < (ts.length : Int) := by omega
      have hk1 : (k : Int) < (xs.length : Int) := by have := HLN.out; omega
      have hk2 : (k : Int) < (ts.length : Int) := by omega
      have hki : (k : Int) < (i : Int) := by omega
      have BW2 : Hid (∀ n, Below V.heap.size V (wr.drewN n)) := hid fun n => bdrewN BW.out n
      have BW3 : Hid (∀ n, Below w.heap.size w (wr.drewN n)) := hid fun n => HB3.out.trans ((BW2.out n).mono HB3.out.size)
      clear h1 h2 g1 g2 hst HA HP2 HEA HFB HFF D0 D1 D2 HRF HTF HB3 HV BW AL
      generalize (tel ts k).port = p at *
      generalize (tel ts i).port = q at *
      generalize el xs k = x at *
      generalize el xs i = y at *
      cases hpq : (p == q) with
      | false =>
        rw [hpq] at HY
        have AL' : Aside (portN ts xs i (k + 1) = true) := HY.out rfl
        clear HY HN
        go_wp2
        go_quiet (fail)
        go_wp2
        go_roundg (i - (k + 1))
        case measure => omega
        case rel => exact ⟨k + 1, by omega, by omega, by go_num, BW2.out _, AL'⟩
      | true =>
        cases hxy : (x == y) with
        | false =>
          rw [hpq, hxy] at HY
          have AL' : Aside (portN ts xs i (k + 1) = true) := HY.out rfl
          clear HY HN
          go_wp2
          go_quiet (fail)
          go_wp2
          go_roundg (i - (k + 1))
          case measure => omega
          case rel => exact ⟨k + 1, by omega, by omega, by go_num, BW2.out _, AL'⟩
        | true =>
          rw [hpq, hxy] at HN
          have HN' := hid (HN.out rfl)
          clear HY HN
          go_wp2
          go_quiet (fail)
          go_wp2
          go_ret
          exact ⟨ret_b HN'.out, BW3.out _⟩
    · have : k = i := by omega
      subst this
      have d0 := bcell BW.out D0.out
      have d2 := bcell BW.out D2.out
      have hp2 := bcell BW.out HP2.out
      have hi2 : (k : Int) < (ts.length : Int) := by omega
      have HAA := hid (HA.out wr BW.out)
      have HF := hid (HFB.out AL.out)
      have BW2 : Hid (Below w.heap.size w wr) := hid (HB3.out.trans (BW.out.mono HB3.out.size))
      have hea := HEA.out
      subst hea
      clear HA HP2 HEA HFB HFF D0 D1 D2 HRF HTF HB3 HV BW AL
      go_wp2_with fail
      refine HAA.out.mono ?_
      rintro e w1 ⟨rfl, hb1⟩
      go_wp2_with fail
      go_ret
      exact ⟨ret_b HF.out, bthen BW2.out hb1⟩
end Go.Proofs.Ytjcpjmijhloimaa
