import Derived.Test.YtjcpjmijhloimaaLst
import Derived.Test.YtjcpjmijhloimaaSched2
import Derived.Test.YtjcpjmijhloimaaHts3
import Derived.Test.YtjcpjmijhloimaaHts4
import Derived.Test.YtjcpjmijhloimaaHts5
set_option linter.unusedVariables false
set_option linter.unusedSimpArgs false
namespace Go.Proofs.Ytjcpjmijhloimaa
open Go.RowKit

theorem upto_sml {xs : List Int} {b : Int} (h : Upto xs b) (hb : b ≤ 1000000) : Sml xs := fun k hk => by have := h k hk; omega
theorem i_ready1 (W : World) (B D E : Nat) (A A' : Option Addr) (c c' : Nat) (xs : List Int) (ts : List TaskV) (now : Int) (k : Nat) (hk : k < xs.length) (hkt : k < ts.length) (hx0 : -1000000 ≤ el xs k) (hx1 : el xs k ≤ 1000000) (hl0 : 1 ≤ (tel ts k).lat) (hl1 : (tel ts k).lat ≤ 6)
    (hn : xs.length ≤ 1048576) (hn' : ts.length ≤ 1048576) (hB : W.cell? ⟨B, 0, none⟩ = some (.slice A xs.length c)) (hD : W.cell? ⟨D, 0, none⟩ = some (.slice A' ts.length c')) (hE : W.cell? ⟨E, 0, none⟩ = some (.int .i64 now)) (hR : RdI W A xs) (hT : RdT W A' ts) :
    Calls Try.prog 217 #[.int .i64 (k : Nat), .pointer (some ⟨B, 0, none⟩), .pointer (some ⟨D, 0, none⟩), .pointer (some ⟨E, 0, none⟩)] W fun e w' => e = .returned (.bool (doneB ts xs now k)) ∧ Below W.heap.size W w' := by
  obtain ⟨b', off', rfl, hc'⟩ := hR.get hk
  obtain ⟨bt, offt, A1, c1, rfl, h0, h1, h2, _, _⟩ := hT.get hkt
  have hlk : (k : Int) < (xs.length : Int) := by omega
  have hlt' : (k : Int) < (ts.length : Int) := by omega
  have HL : Hid ((decide (0 ≤ el xs k) && decide (el xs k + (tel ts k).lat ≤ now)) = doneB ts xs now k) := hid (by simp [doneB])
  clear hR hT h0 h2
  generalize doneB ts xs now k = r at HL ⊢
  generalize (tel ts k).lat = l at *
  generalize el xs k = x at *
  by_cases hx : 0 ≤ x
  · go_enter Try.func217, Try.ntmps217
    go_wp2
    go_quiet (fail)
    go_wp2
    go_ret
    exact ⟨ret_b (by rw [← HL.out]; simp [hx]), ⟨rfl, rfl, rfl, Nat.le_refl _, fun _ _ => rfl⟩⟩
  · have hx' : decide (0 ≤ x) = false := by simpa using hx
    have HF : Hid (false = r) := hid (by rw [← HL.out, hx']; rfl)
    clear HL hx
    go_enter Try.func217, Try.ntmps217
    go_wp2
    go_quiet (fail)
    go_wp2
    go_ret
    exact ⟨ret_b HF.out, ⟨rfl, rfl, rfl, Nat.le_refl _, fun _ _ => rfl⟩⟩
theorem i_readyV (V : World) (B D E : Nat) (A A' : Option Addr) (c c' : Nat) (xs : List Int) (ts : List TaskV) (now : Int) (i : Nat) (hl : xs.length = ts.length) (hi : i < ts.length) (hO : TOk ts) (hS : Sml xs)
    (hB : V.cell? ⟨B, 0, none⟩ = some (.slice A xs.length c)) (hD : V.cell? ⟨D, 0, none⟩ = some (.slice A' ts.length c')) (hE : V.cell? ⟨E, 0, none⟩ = some (.int .i64 now)) (hR : RdI V A xs) (hT : RdT V A' ts) (A1 : Option Addr) (c1 : Nat) (hr1 : RdI V A1 (tel ts i).needs) :
    Calls Try.prog 81 #[.slice A1 (tel ts i).needs.length c1, .func (.func 217) #[] #[.pointer (some ⟨B, 0, none⟩), .pointer (some ⟨D, 0, none⟩), .pointer (some ⟨E, 0, none⟩)]] V fun e w' => e = .returned (.bool (doneN ts xs i now)) ∧ Below V.heap.size V w' := by
  have hfew := hO.few
  have h := areAllI V A1 (tel ts i).needs.length c1 (fun j => .int .i64 (el (tel ts i).needs j)) 217 #[.pointer (some ⟨B, 0, none⟩), .pointer (some ⟨D, 0, none⟩), .pointer (some ⟨E, 0, none⟩)] (fun j => doneB ts xs now (el (tel ts i).needs j)) (by have := hO.len i hi; omega) hr1
    (enters_of Try.func217 (by kernel_rfl) rfl) (fun W' hW' j hj => by
      have hnd := hO.need i hi j hj
      obtain ⟨k, hk⟩ : ∃ k : Nat, el (tel ts i).needs j = k := ⟨(el (tel ts i).needs j).toNat, by omega⟩
      have hkn : k < ts.length := by omega
      have hs := hS k (by omega)
      have hlt := hO.lat k hkn
      have h := i_ready1 W' B D E A A' c c' xs ts now k (by omega) hkn hs.1 hs.2 hlt.1 hlt.2 (by omega) (by omega) (bcell hW' hB) (bcell hW' hD) (bcell hW' hE) (hR.below hW') (hT.below hW')
      rw [← hk] at h
      exact h)
  rw [allN_ints (tel ts i).needs (doneB ts xs now)] at h
  exact h
abbrev YW (w : World) (A A' : Option Addr) (n c n' c' : Nat) (now : Int) : World := ((w.alloc (.cells #[.slice A' n' c'] 63)).alloc (.cells #[.slice A n c] 25)).alloc (.cells #[.int .i64 now] 2)
set_option maxRecDepth 100000 in
theorem i_ready (w : World) (A A' : Option Addr) (c c' : Nat) (xs : List Int) (ts : List TaskV) (now : Int) (i : Nat) (hl : xs.length = ts.length) (hi : i < ts.length) (hO : TOk ts) (hS : Sml xs) (hR : RdI w A xs) (hT : RdT w A' ts) :
    Calls Try.prog 175 #[.slice A' ts.length c', .slice A xs.length c, .int .i64 (i : Nat), .int .i64 now] w fun e w' => e = .returned (.bool (rdyB ts xs i now)) ∧ Below w.heap.size w w' := by
  have hfew := hO.few
  have hb3 : Below w.heap.size w (YW w A A' xs.length c ts.length c' now) := balloc (balloc (ballocw w _) _) _
  have hRf := hR.below hb3
  have hTf := hT.below hb3
  have d0 : (YW w A A' xs.length c ts.length c' now).cell? ⟨w.heap.size, 0, none⟩ = some (.slice A' ts.length c') := bcell (ballocw _ _) (bcell (ballocw _ _) (box_new w _ _))
  have d1 : (YW w A A' xs.length c ts.length c' now).cell? ⟨w.heap.size + 1, 0, none⟩ = some (.slice A xs.length c) := bcell (ballocw _ _) (box_new1 w _ _ _)
  have d2 : (YW w A A' xs.length c ts.length c' now).cell? ⟨w.heap.size + 1 + 1, 0, none⟩ = some (.int .i64 now) := box_new2 w _ _ _ _
  obtain ⟨bt, offt, A1, c1, eA, hp0, hp1, hp2, _, hr1⟩ := hTf.get hi
  have HA := hid (i_readyV (YW w A A' xs.length c ts.length c' now) (w.heap.size + 1) w.heap.size (w.heap.size + 1 + 1) A A' c c' xs ts now i hl hi hO hS d1 d0 d2 hRf hTf A1 c1 hr1)
  have HB3 := hid hb3
  obtain ⟨bi, offi, rfl, hci⟩ := hRf.get (k := i) (by omega)
  have hi1 : (i : Int) < (xs.length : Int) := by omega
  have hi2 : (i : Int) < (ts.length : Int) := by omega
  have hxl : xs.length ≤ 8 := by omega
  have HQ : Hid (decide (el xs i < 0) = true → doneN ts xs i now = rdyB ts xs i now) := hid fun h => by unfold rdyB; rw [h]; rfl
  have HF : Hid (decide (el xs i < 0) = false → false = rdyB ts xs i now) := hid fun h => by unfold rdyB; rw [h]; rfl
  clear hb3 hRf hTf hR hT hO hS hp0 hp1 hr1 hl
  generalize doneN ts xs i now = q at *
  generalize rdyB ts xs i now = r at *
  generalize el xs i = x at *
  subst eA
  by_cases hx : x < 0
  · have HQ' := hid (HQ.out (by simpa using hx))
    clear HQ HF
    go_enter Try.func175, Try.ntmps175
    go_wp2_with fail
    refine HA.out.mono ?_
    rintro e w1 ⟨rfl, hb1⟩
    go_wp2_with fail
    go_ret
    exact ⟨ret_b (by simpa using HQ'.out), bthen HB3.out hb1⟩
  · have hx' : decide (x < 0) = false := by simpa using hx
    have HF' := hid (HF.out hx')
    clear HQ HF HA hx
    go_enter Try.func175, Try.ntmps175
    go_wp2_with fail
    go_ret
    exact ⟨ret_b HF'.out, HB3.out⟩
def donN (ts : List TaskV) (xs : List Int) (i : Nat) (now : Int) : Nat → Bool
  | 0 => true
  | k + 1 => donN ts xs i now k && doneB ts xs now (el (tel ts i).needs k)
theorem donN_all (ts : List TaskV) (xs : List Int) (i : Nat) (now : Int) : donN ts xs i now (tel ts i).needs.length = doneN ts xs i now := by
  have : ∀ n, donN ts xs i now n = allN n (fun k => doneB ts xs now (el (tel ts i).needs k)) := fun n => by
    induction n with
    | zero => rfl
    | succ n ih => rw [allN_succ]; simp only [donN]; rw [ih]
  rw [this, doneN, allN_ints (tel ts i).needs (doneB ts xs now)]
theorem donN_mono {ts : List TaskV} {xs : List Int} {i : Nat} {now : Int} {j k : Nat} (h : donN ts xs i now j = false) (hk : j ≤ k) : donN ts xs i now k = false := by
  induction k with
  | zero => obtain rfl : j = 0 := by omega
            exact h
  | succ k ih => by_cases e : j = k + 1
                 · subst e; exact h
                 · simp only [donN]; rw [ih (by omega)]; rfl
theorem s_l06Done (w : World) (A A' : Option Addr) (c c' : Nat) (xs : List Int) (ts : List TaskV) (now : Int) (i : Nat) (hl : xs.length = ts.length) (hi : i < ts.length) (hO : TOk ts) (hS : Sml xs) (hR : RdI w A xs) (hT : RdT w A' ts) :
    Calls Try.prog 220 #[.slice A' ts.length c', .slice A xs.length c, .int .i64 (i : Nat), .int .i64 now] w fun e w' => e = .returned (.bool (doneN ts xs i now)) ∧ ∃ n, w' = w.drewN n := by
  have hfew := hO.few
  obtain ⟨bt, offt, A1, c1, rfl, hp0, hp1, hp2, _, hr1⟩ := hT.get hi
  have hnl := hO.len i hi
  have HO := hid hO
  have HS := hid hS
  have HR := hid hR
  have HT := hid hT
  have HR1 := hid hr1
  have HL := hid hl
  have HP2 := hid hp2
  have hi2 : (i : Int) < (ts.length : Int) := by omega
  have HD : Hid (∀ k, donN ts xs i now (k + 1) = (donN ts xs i now k && doneB ts xs now (el (tel ts i).needs k))) := hid fun _ => rfl
  have HE : Hid (donN ts xs i now (tel ts i).needs.length = doneN ts xs i now) := hid (donN_all ts xs i now)
  have HN : Hid (∀ k, k < (tel ts i).needs.length → donN ts xs i now k = true → doneB ts xs now (el (tel ts i).needs k) = false → false = doneN ts xs i now) := hid fun k hk h1 h2 => by
    rw [← donN_all, donN_mono (j := k + 1) (by simp only [donN]; rw [h1, h2]; rfl) (by omega)]
  clear hO hS hR hT hr1 hp0 hp1 hp2 hl
  generalize doneN ts xs i now = r at HE HN ⊢
  go_enter Try.func220, Try.ntmps220
  go_wp2
  go_loopg [9] (tel ts i).needs.length (fun gg s wr => ∃ k : Nat, k ≤ (tel ts i).needs.length ∧ (tel ts i).needs.length - k ≤ gg ∧ s = .int .i64 k ∧ Aside (∃ n, wr = w.drewN n) ∧ Aside (donN ts xs i now k = true))
  case atStart => exact ⟨0, Nat.zero_le _, by omega, rfl, ⟨0, rfl⟩, rfl⟩
  case round =>
    obtain ⟨k, hk, hgk, rfl, BW, AL⟩ := hrel
    have hb : Below w.heap.size w wr := by obtain ⟨m, hm⟩ := BW.out; rw [hm]; exact bdrewN (Below.refl w.heap.size w) m
    have p2 := bcell hb HP2.out
    by_cases hlk : k < (tel ts i).needs.length
    · obtain ⟨bn, offn, rfl, hcn⟩ := (HR1.out.below hb).get hlk
      have hnd := HO.out.need i hi k hlk
      obtain ⟨d, hd⟩ : ∃ d : Nat, el (tel ts i).needs k = d := ⟨(el (tel ts i).needs k).toNat, by omega⟩
      have hdn : d < ts.length := by omega
      have hdi : (d : Int) < (ts.length : Int) := by omega
      have hdx : (d : Int) < (xs.length : Int) := by have := HL.out; omega
      obtain ⟨bx, offx, rfl, hcx⟩ := (HR.out.below hb).get (k := d) (by omega)
      obtain ⟨bt', offt', A3, c3, e', g0, g1, g2, _, _⟩ := (HT.out.below hb).get (k := d) hdn
      cases e'
      have hs := HS.out d (by omega)
      obtain ⟨hs0, hs1⟩ := hs
      have hla := HO.out.lat d hdn
      obtain ⟨hla0, hla1⟩ := hla
      have HDB : Hid ((decide (0 ≤ el xs d) && decide (el xs d + (tel ts d).lat ≤ now)) = doneB ts xs now (el (tel ts i).needs k)) := hid (by rw [hd]; simp [doneB])
      have HDk := hid (HD.out k)
      have HNk := hid (HN.out k hlk AL.out)
      have AK := hid AL.out
      have HBN : Hid (∀ n, ∃ q, wr.drewN n = w.drewN q) := hid fun n => by obtain ⟨m, hm⟩ := BW.out; exact ⟨m + n, by rw [hm]; unfold World.drewN; simp [Nat.add_assoc]⟩
      rw [hd] at hcn
      clear g0 g2 hd hnd HD HE HN HO HS HR HT HR1 HL HP2 AL BW
      generalize doneB ts xs now (el (tel ts i).needs k) = db at *
      generalize (tel ts i).needs.length = nl at *
      generalize (tel ts d).lat = l at *
      generalize el xs d = x at *
      go_wp2
      by_cases hx : x < 0
      · have HF := hid (HNk.out (by rw [← HDB.out]; simp; omega))
        clear HNk HDB HDk
        go_quiet (fail)
        go_wp2
        go_ret
        exact ⟨ret_b HF.out, HBN.out _⟩
      · have hx' : decide (x < 0) = false := by simpa using hx
        have hx0 : 0 ≤ x := by omega
        by_cases hy : x + l ≤ now
        · have hy' : ¬ now < x + l := by omega
          have AL' : Aside (donN ts xs i now (k + 1) = true) := by unfold Aside; rw [HDk.out, AK.out, ← HDB.out]; simp [hx0, hy]
          clear HNk HDB HDk AK
          go_quiet (fail)
          go_wp2
          go_roundg (nl - (k + 1))
          case measure => omega
          case rel => exact ⟨k + 1, by omega, by omega, by go_num, HBN.out _, AL'⟩
        · have hy' : now < x + l := by omega
          have HF := hid (HNk.out (by rw [← HDB.out]; simp; omega))
          clear HNk HDB HDk
          go_quiet (fail)
          go_wp2
          go_ret
          exact ⟨ret_b HF.out, HBN.out _⟩
    · have : k = (tel ts i).needs.length := by omega
      have HF : Hid (true = r) := hid (by rw [← HE.out, ← this, AL.out])
      subst this
      clear HD HE HN HO HS HR HT HR1 HL HP2 AL
      go_wp2
      go_ret
      exact ⟨ret_b HF.out, BW.out⟩
end Go.Proofs.Ytjcpjmijhloimaa
