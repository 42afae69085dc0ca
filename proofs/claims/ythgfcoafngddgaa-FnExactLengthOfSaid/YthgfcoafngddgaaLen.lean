import Derived.Test.YthgfcoafngddgaaHts5
import Derived.Test.YthgfcoafngddgaaSched3
import Derived.Test.YthgfcoafngddgaaSched4
set_option linter.unusedVariables false
set_option linter.unusedSimpArgs false
namespace Go.Proofs.Ythgfcoafngddgaa
open Go.RowKit

/-! ### The length of a schedule -/
def lenN (ts : List TaskV) (xs : List Int) : Nat → Int
  | 0 => 0
  | k + 1 => max (lenN ts xs k) (el xs k + (tel ts k).lat)
def m_LengthOf (ts : List TaskV) (xs : List Int) : Int × Bool := if schedB ts xs then (lenN ts xs ts.length, true) else (0, false)
theorem schedB_parts {ts : List TaskV} {xs : List Int} (h : schedB ts xs = true) : tasksB ts = true ∧ xs.length = ts.length ∧ timeN xs = true := by
  simp only [schedB, Bool.and_eq_true, decide_eq_true_eq] at h; exact ⟨h.1, h.2.1, h.2.2.1⟩
set_option maxRecDepth 100000 in
theorem i_lengthOf (w : World) (A' A : Option Addr) (c' c : Nat) (ts : List TaskV) (xs : List Int) (hl : xs.length = ts.length) (hO : TOk ts) (hS : Sml xs) (hT : RdT w A' ts) (hR : RdI w A xs) :
    Calls Try.prog 83 #[.slice A' ts.length c', .slice A xs.length c] w fun e w' => e = .returned (.int .i64 (lenN ts xs ts.length)) ∧ Below w.heap.size w w' := by
  have hfew := hO.few
  have HO := hid hO
  have HT := hid hT
  have HR := hid hR
  have HS := hid hS
  have HL := hid hl
  have hxl : xs.length ≤ 8 := by omega
  clear hO hT hR hS hl
  go_enter Try.func83, Try.ntmps83
  go_wp2
  go_loopg [5, 10] ts.length (fun gg m s wr => ∃ k : Nat, k ≤ ts.length ∧ ts.length - k ≤ gg ∧ s = .int .i64 k ∧ m = .int .i64 (lenN ts xs k) ∧ Aside (Below w.heap.size w wr))
  case atStart => exact ⟨0, Nat.zero_le _, by omega, rfl, rfl, Below.refl _ _⟩
  case round =>
    obtain ⟨k, hk, hg, rfl, rfl, BW⟩ := hrel
    by_cases hlt : k < ts.length
    · have hlt' : (k : Int) < (xs.length : Int) := by have := HL.out; omega
      obtain ⟨bt, offt, A1, c1, rfl, p0, p1, p2, _, _⟩ := (HT.out.below BW.out).get hlt
      have hbt : Below wr.heap.size wr (wr.alloc (.cells #[.int .i64 (tel ts k).port, .int .i64 (tel ts k).lat, .slice A1 (tel ts k).needs.length c1] 95)) := ballocw wr _
      have hbv := bthen BW.out hbt
      obtain ⟨b, off, rfl, hc⟩ := ((HR.out.below BW.out).below hbt).get (k := k) (by have := HL.out; omega)
      have k1 : (wr.alloc (.cells #[.int .i64 (tel ts k).port, .int .i64 (tel ts k).lat, .slice A1 (tel ts k).needs.length c1] 95)).cell? ⟨wr.heap.size, 1, none⟩ = some (.int .i64 (tel ts k).lat) := by simp
      have hs := HS.out k (by have := HL.out; omega)
      obtain ⟨hs0, hs1⟩ := hs
      have hla := HO.out.lat k hlt
      obtain ⟨hla0, hla1⟩ := hla
      have HE0 : Hid (lenN ts xs (k + 1) = max (lenN ts xs k) (el xs k + (tel ts k).lat)) := hid rfl
      have HBV := hid (fun n => bdrewN hbv n)
      clear hbt hbv BW HO HT HR HS HL
      generalize (tel ts k).lat = l at *
      generalize (tel ts k).port = p at *
      generalize (tel ts k).needs.length = nl at *
      generalize el xs k = x at *
      generalize lenN ts xs k = m at *
      by_cases h : m < x + l
      · have HE : Hid (lenN ts xs (k + 1) = x + l) := hid (by rw [HE0.out]; omega)
        clear HE0
        go_wp2
        go_quiet (fail)
        go_wp2
        go_roundg (ts.length - (k + 1))
        case measure => omega
        case rel => exact ⟨k + 1, by omega, by omega, by go_num, by rw [HE.out], HBV.out _⟩
      · have HE : Hid (lenN ts xs (k + 1) = m) := hid (by rw [HE0.out]; omega)
        clear HE0
        go_wp2
        go_quiet (fail)
        go_wp2
        go_roundg (ts.length - (k + 1))
        case measure => omega
        case rel => exact ⟨k + 1, by omega, by omega, by go_num, by rw [HE.out], HBV.out _⟩
    · have : k = ts.length := by omega
      subst this
      clear HO HT HR HS HL
      go_wp2
      go_ret
      exact ⟨rfl, BW.out⟩
set_option maxRecDepth 100000 in
theorem s_l06Length (w : World) (A' A : Option Addr) (c' c : Nat) (ts : List TaskV) (xs : List Int) (hl : xs.length = ts.length) (hO : TOk ts) (hS : Sml xs) (hT : RdT w A' ts) (hR : RdI w A xs) :
    Calls Try.prog 81 #[.slice A' ts.length c', .slice A xs.length c] w fun e w' => e = .returned (.int .i64 (lenN ts xs ts.length)) ∧ Below w.heap.size w w' := by
  have hfew := hO.few
  have HO := hid hO
  have HT := hid hT
  have HR := hid hR
  have HS := hid hS
  have HL := hid hl
  have hxl : xs.length ≤ 8 := by omega
  clear hO hT hR hS hl
  rw [← HL.out]
  go_enter Try.func81, Try.ntmps81
  go_wp2
  go_loopg [5, 6] xs.length (fun gg m s wr => ∃ k : Nat, k ≤ xs.length ∧ xs.length - k ≤ gg ∧ s = .int .i64 k ∧ m = .int .i64 (lenN ts xs k) ∧ Aside (Below w.heap.size w wr))
  case atStart => exact ⟨0, Nat.zero_le _, by omega, rfl, rfl, Below.refl _ _⟩
  case round =>
    obtain ⟨k, hk, hg, rfl, rfl, BW⟩ := hrel
    by_cases hlt : k < xs.length
    · have hlt' : (k : Int) < (xs.length : Int) := by omega
      have hlt2 : (k : Int) < (ts.length : Int) := by have := HL.out; omega
      obtain ⟨bt, offt, A1, c1, rfl, p0, p1, p2, _, _⟩ := (HT.out.below BW.out).get (k := k) (by have := HL.out; omega)
      obtain ⟨b, off, rfl, hc⟩ := (HR.out.below BW.out).get hlt
      have hs := HS.out k hlt
      obtain ⟨hs0, hs1⟩ := hs
      have hla := HO.out.lat k (by have := HL.out; omega)
      obtain ⟨hla0, hla1⟩ := hla
      have HE : Hid (lenN ts xs (k + 1) = max (lenN ts xs k) (el xs k + (tel ts k).lat)) := hid rfl
      have HM := hid (s_l00Max (lenN ts xs k) (el xs k + (tel ts k).lat))
      have HBV := hid (fun n => bdrewN BW.out n)
      clear BW HO HT HR HS HL p0 p2
      generalize max (lenN ts xs k) (el xs k + (tel ts k).lat) = y at *
      generalize (tel ts k).lat = l at *
      generalize el xs k = x at *
      generalize lenN ts xs k = m at *
      go_wp2
      go_quiet (with_reducible exact Calls.quiet_of_same ((HM.out _).mono fun e w' h => ⟨h.1, h.2.symm⟩))
      go_wp2
      go_roundg (xs.length - (k + 1))
      case measure => omega
      case rel => exact ⟨k + 1, by omega, by omega, by go_num, by rw [HE.out], HBV.out _⟩
    · have : k = xs.length := by omega
      subst this
      have hlt' : ¬ ((xs.length : Nat) : Int) < ((xs.length : Nat) : Int) := by omega
      clear HO HT HR HS HL
      go_wp2
      go_ret
      exact ⟨rfl, BW.out⟩
theorem i_LengthOf (w : World) (A' A : Option Addr) (c' c : Nat) (ts : List TaskV) (xs : List Int) (hlt : tsz ts ≤ 1048576) (hT : RdT w A' ts) (hl : xs.length ≤ 1048576) (hR : RdI w A xs) :
    Calls Try.prog 26 #[.slice A' ts.length c', .slice A xs.length c] w (RetZB w (m_LengthOf ts xs)) := by
  have c0 := i_IsSchedule w A' A c' c ts xs hlt hT hl hR
  have C1 : Hid (schedB ts xs = true → ∀ W, Below w.heap.size w W → _) := hid (fun h W (hW : Below w.heap.size w W) => i_lengthOf W A' A c' c ts xs (schedB_parts h).2.1 (TOk.of (schedB_parts h).1) (Sml.of (schedB_parts h).2.2) (hT.below hW) (hR.below hW))
  have HE : Hid (m_LengthOf ts xs = if schedB ts xs then (lenN ts xs ts.length, true) else (0, false)) := hid rfl
  clear hT hR hlt hl
  generalize m_LengthOf ts xs = r at HE ⊢
  generalize lenN ts xs ts.length = H at *
  cases h0 : schedB ts xs with
  | false =>
    rw [h0] at c0 HE
    have C0 := hid c0
    clear c0 h0 C1
    go_enter Try.func26, Try.ntmps26
    go_wp2_with fail
    refine C0.out.mono ?_
    rintro e w1 ⟨rfl, hb1⟩
    go_wp2_with fail
    go_ret2
    exact ⟨by rw [HE.out]; rfl, hb1⟩
  | true =>
    rw [h0] at c0 HE
    have C0 := hid c0
    have C3 := hid (C1.out h0)
    clear c0 h0 C1
    go_enter Try.func26, Try.ntmps26
    go_wp2_with fail
    refine C0.out.mono ?_
    rintro e w1 ⟨rfl, hb1⟩
    go_wp2_with fail
    refine (C3.out _ hb1).mono ?_
    rintro e w2 ⟨rfl, hb2⟩
    go_wp2_with fail
    go_ret2
    exact ⟨by rw [HE.out]; rfl, bthen hb1 hb2⟩
theorem s_LengthOf (w : World) (A' A : Option Addr) (c' c : Nat) (ts : List TaskV) (xs : List Int) (hlt : tsz ts ≤ 1048576) (hT : RdT w A' ts) (hl : xs.length ≤ 1048576) (hR : RdI w A xs) :
    Calls Try.prog 24 #[.slice A' ts.length c', .slice A xs.length c] w (RetZB w (m_LengthOf ts xs)) := by
  have c0 := s_l06Is w A' c' ts hlt hT
  have C1 : Hid (tasksB ts = true → ∀ W, Below w.heap.size w W → _) := hid (fun h W (hW : Below w.heap.size w W) => s_l06Fits W A' A c' c ts xs (TOk.of h) hl (hT.below hW) (hR.below hW))
  have C2 : Hid (schedB ts xs = true → ∀ W, Below w.heap.size w W → _) := hid (fun h W (hW : Below w.heap.size w W) => s_l06Length W A' A c' c ts xs (schedB_parts h).2.1 (TOk.of (schedB_parts h).1) (Sml.of (schedB_parts h).2.2) (hT.below hW) (hR.below hW))
  have HE : Hid (m_LengthOf ts xs = if schedB ts xs then (lenN ts xs ts.length, true) else (0, false)) := hid rfl
  have HD : Hid ((tasksB ts && (decide (xs.length = ts.length) && (timeN xs && fitN ts xs xs.length))) = schedB ts xs) := hid rfl
  clear hT hR hlt hl
  generalize (decide (xs.length = ts.length) && (timeN xs && fitN ts xs xs.length)) = q at *
  generalize m_LengthOf ts xs = r at HE ⊢
  generalize lenN ts xs ts.length = H at *
  cases h0 : tasksB ts with
  | false =>
    rw [h0] at c0 HD
    rw [← HD.out] at HE
    have C0 := hid c0
    clear c0 h0 C1 C2 HD
    go_enter Try.func24, Try.ntmps24
    go_wp2_with fail
    refine C0.out.mono ?_
    rintro e w1 ⟨rfl, hb1⟩
    go_wp2_with fail
    go_ret2
    exact ⟨by rw [HE.out]; rfl, hb1⟩
  | true =>
    rw [h0] at c0 HD
    have C0 := hid c0
    have C3 := hid (C1.out h0)
    clear c0 h0 C1
    cases q with
    | false =>
      rw [← HD.out] at HE
      clear C2 HD
      go_enter Try.func24, Try.ntmps24
      go_wp2_with fail
      refine C0.out.mono ?_
      rintro e w1 ⟨rfl, hb1⟩
      go_wp2_with fail
      refine (C3.out _ hb1).mono ?_
      rintro e w2 ⟨rfl, hb2⟩
      go_wp2_with fail
      go_ret2
      exact ⟨by rw [HE.out]; rfl, bthen hb1 hb2⟩
    | true =>
      have C4 := hid (C2.out HD.out.symm)
      rw [← HD.out] at HE
      clear C2 HD
      go_enter Try.func24, Try.ntmps24
      go_wp2_with fail
      refine C0.out.mono ?_
      rintro e w1 ⟨rfl, hb1⟩
      go_wp2_with fail
      refine (C3.out _ hb1).mono ?_
      rintro e w2 ⟨rfl, hb2⟩
      have HB2 := hid (bthen hb1 hb2)
      clear hb1 hb2
      go_wp2_with fail
      refine (C4.out _ HB2.out).mono ?_
      rintro e w3 ⟨rfl, hb3⟩
      go_wp2_with fail
      go_ret2
      exact ⟨by rw [HE.out]; rfl, bthen HB2.out hb3⟩
end Go.Proofs.Ythgfcoafngddgaa
