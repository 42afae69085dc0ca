import Derived.Test.YtolcmehndambmaaRange2
import Derived.StillTailTactics
import Derived.Test.YtolcmehndambmaaSz
import Derived.Test.YtolcmehndambmaaBfs7
import Derived.Test.YtolcmehndambmaaBfs12
import Derived.Test.YtolcmehndambmaaBase
import Derived.Test.YtolcmehndambmaaRws3
import Derived.WalkKit
import Derived.ProofKit
import Derived.OpenShut
import Derived.Test.YtolcmehndambmaaRws
import Derived.Deep.Matrix
import Derived.Test.YtolcmehndambmaaRows
import Derived.ShutString
import Derived.ChangeOld
import Derived.Below
set_option linter.unusedVariables false
set_option linter.unusedSimpArgs false
namespace Go.Proofs.Ytolcmehndambmaa
open Go.RowKit

theorem pel_ext {xs ys : List PI} (h : xs.length = ys.length) (he : ∀ k, k < xs.length → pel xs k = pel ys k) : xs = ys := by
  apply List.ext_getElem? ; intro k
  by_cases hk : k < xs.length
  · rw [pel_get hk, pel_get (by omega), he k hk]
  · rw [List.getElem?_eq_none (by omega), List.getElem?_eq_none (by omega)]
theorem RdP.get {w : World} {A : Option Addr} {xs : List PI} (h : RdP w A xs) {k : Nat} (hk : k < xs.length) :
    ∃ b off, A = some ⟨b, off, none⟩ ∧ w.cell? ⟨b, off + k * 2, none⟩ = some (.int .i64 (pel xs k).1) ∧ w.cell? ⟨b, off + k * 2 + 1, none⟩ = some (.int .i64 (pel xs k).2) := h k hk
end Go.Proofs.Ytolcmehndambmaa
set_option linter.unusedVariables false
set_option linter.unusedSimpArgs false
namespace Go.Proofs.Ytolcmehndambmaa
open Go.RowKit

/-- Ranges of the call's own. -/
def OP (w : World) (lo hi : Nat) (v : Value) (xs : List PI) : Prop := Own w lo hi 34 2 v xs.length (ints (pfl xs))
theorem OP.eqv {w w' : World} {lo hi : Nat} {v : Value} {xs : List PI} (h : OP w lo hi v xs) (hq : Eqv lo hi w w') : OP w' lo hi v xs := Own.eqv h hq
theorem OP.shp {w : World} {lo hi : Nat} {v : Value} {xs : List PI} (h : OP w lo hi v xs) : ∃ A c, v = .slice A xs.length c ∧ xs.length ≤ c ∧ c ≤ 9223372036854775807 ∧ RdP w A xs := by
  obtain ⟨A, c, rfl, h1, h2, h3⟩ := Own.shape h
  refine ⟨A, c, rfl, h1, h2, fun k hk => ?_⟩
  rcases h3 with ⟨_, h0⟩ | ⟨g, rfl, _, _, hc, _⟩
  · omega
  · have hg := pfl_get hk
    refine ⟨g, 0, rfl, ?_, ?_⟩
    · simpa using hc (k * 2) (.int .i64 (pel xs k).1) (by unfold ints; rw [List.getElem?_map, hg.1]; rfl)
    · simpa using hc (k * 2 + 1) (.int .i64 (pel xs k).2) (by unfold ints; rw [List.getElem?_map, hg.2]; rfl)
theorem OP.rd {w : World} {lo hi c : Nat} {A : Option Addr} {xs : List PI} (h : OP w lo hi (.slice A xs.length c) xs) : RdP w A xs := by
  obtain ⟨A', c', e, _, _, hr⟩ := h.shp; cases e; exact hr
end Go.Proofs.Ytolcmehndambmaa
set_option linter.unusedVariables false
set_option linter.unusedSimpArgs false
namespace Go.Proofs.Ytolcmehndambmaa
open Go.RowKit

/-- Whether a range contains a time; how many of the first k do; the greatest such number at where one of the first k begins. -/
def cont (q : PI) (x : Int) : Bool := decide (q.1 ≤ x) && decide (x < q.2)
def cntN (xs : List PI) (x : Int) : Nat → Int
  | 0 => 0
  | k + 1 => cntN xs x k + (if cont (pel xs k) x then 1 else 0)
def widN (xs : List PI) : Nat → Int
  | 0 => 0
  | k + 1 => max (widN xs k) (cntN xs (pel xs k).1 xs.length)
theorem cntN_range (xs : List PI) (x : Int) : ∀ k : Nat, 0 ≤ cntN xs x k ∧ cntN xs x k ≤ k
  | 0 => ⟨Int.le_refl _, Int.le_refl _⟩
  | k + 1 => by have := cntN_range xs x k; simp only [cntN]; split <;> omega
theorem widN_range (xs : List PI) : ∀ k : Nat, 0 ≤ widN xs k ∧ widN xs k ≤ xs.length
  | 0 => ⟨Int.le_refl _, by simp [widN]⟩
  | k + 1 => by have := widN_range xs k; have := cntN_range xs (pel xs k).1 xs.length; simp only [widN]; omega
set_option maxRecDepth 100000 in
theorem i_width (w : World) (A : Option Addr) (c : Nat) (xs : List PI) (hl : xs.length ≤ 1048576) (hR : RdP w A xs) :
    Calls Try.prog 54 #[.slice A xs.length c] w fun e w' => e = .returned (.int .i64 (widN xs xs.length)) ∧ Below w.heap.size w w' := by
  have HR := hid hR
  clear hR
  go_enter Try.func54, Try.ntmps54
  go_wp2
  go_loopg [3, 11] xs.length (fun gg m s wr => ∃ k : Nat, k ≤ xs.length ∧ xs.length - k ≤ gg ∧ s = .int .i64 k ∧ m = .int .i64 (widN xs k) ∧ Aside (Below w.heap.size w wr))
  case atStart => exact ⟨0, Nat.zero_le _, by omega, rfl, rfl, Below.refl _ _⟩
  case round =>
    obtain ⟨k, hk, hg, rfl, rfl, BW⟩ := hrel
    by_cases hlt : k < xs.length
    · obtain ⟨b, off, rfl, hc, hc1⟩ := (HR.out.below BW.out).get hlt
      obtain ⟨wo, rfl⟩ : ∃ wo : World, wo = wr := ⟨_, rfl⟩
      rcases hp : pel xs k with ⟨x, y⟩
      simp only [hp] at hc hc1
      have HW : Hid (widN xs (k + 1) = max (widN xs k) (cntN xs x xs.length)) := hid (by simp only [widN, hp])
      clear hp
      have BW2 : Hid (Below w.heap.size w (wo.alloc (.cells #[.int .i64 x, .int .i64 y] 34))) := hid (balloc BW.out _)
      have hB := BW.out.size
      have HW1 := hid (widN_range xs k)
      have HW2 := hid (cntN_range xs x xs.length)
      have HB0 : Hid ((wo.alloc (.cells #[.int .i64 x, .int .i64 y] 34)).cell? ⟨wo.heap.size, 0, none⟩ = some (.int .i64 x)) := hid (by simp)
      go_wp2_with fail
      clear hc hc1
      go_loopg [6, 17] xs.length (fun gg m s wj => ∃ j : Nat, j ≤ xs.length ∧ xs.length - j ≤ gg ∧ s = .int .i64 j ∧ m = .int .i64 (cntN xs x j) ∧ Aside (Below (wo.alloc (.cells #[.int .i64 x, .int .i64 y] 34)).heap.size (wo.alloc (.cells #[.int .i64 x, .int .i64 y] 34)) wj))
      case atStart => exact ⟨0, Nat.zero_le _, by omega, rfl, rfl, Below.refl _ _⟩
      case round =>
        obtain ⟨j, hj, hgj, rfl, rfl, BJ⟩ := hrel
        by_cases hlj : j < xs.length
        · obtain ⟨b', off', e', hd, hd1⟩ := ((HR.out.below BW2.out).below BJ.out).get hlj
          cases e'
          have hbx := bcell BJ.out HB0.out
          have BJ2 : Hid (Below (wo.alloc (.cells #[.int .i64 x, .int .i64 y] 34)).heap.size (wo.alloc (.cells #[.int .i64 x, .int .i64 y] 34)) (wr.alloc (.cells #[.int .i64 (pel xs j).1, .int .i64 (pel xs j).2] 34))) := hid (balloc BJ.out _)
          have hsz := BJ.out.size
          obtain ⟨hcj0, hcj1⟩ := cntN_range xs x j
          rcases hp : pel xs j with ⟨p, q⟩
          have hst : cntN xs x (j + 1) = cntN xs x j + (if (decide (p ≤ x) && decide (x < q)) = true then 1 else 0) := by simp only [cntN, hp, cont]
          simp only [hp] at hd hd1 BJ2
          have hbx2 : (wr.alloc (.cells #[.int .i64 p, .int .i64 q] 34)).cell? ⟨wo.heap.size, 0, none⟩ = some (.int .i64 x) := bcell (ballocw wr _) hbx
          clear hp
          by_cases h1 : p ≤ x
          · by_cases h2 : x < q
            · skip
              have HT : Hid (cntN xs x (j + 1) = cntN xs x j + 1) := hid (by rw [hst]; simp [h1, h2])
              clear hst HW HW1 HW2 HR
              go_wp2_with fail
              go_roundg (xs.length - (j + 1))
              case measure => omega
              case rel => exact ⟨j + 1, by omega, by omega, by go_num, by rw [HT.out], BJ2.out⟩
            · skip
              have HT : Hid (cntN xs x (j + 1) = cntN xs x j) := hid (by rw [hst]; simp [h1, h2])
              clear hst HW HW1 HW2 HR
              go_wp2_with fail
              go_roundg (xs.length - (j + 1))
              case measure => omega
              case rel => exact ⟨j + 1, by omega, by omega, by go_num, by rw [HT.out], BJ2.out⟩
          · skip
            have HT : Hid (cntN xs x (j + 1) = cntN xs x j) := hid (by rw [hst]; simp [h1])
            clear hst HW HW1 HW2 HR
            go_wp2_with fail
            go_roundg (xs.length - (j + 1))
            case measure => omega
            case rel => exact ⟨j + 1, by omega, by omega, by go_num, by rw [HT.out], BJ2.out⟩
        · have : j = xs.length := by omega
          subst this
          obtain ⟨w1, w2⟩ := HW1.out
          obtain ⟨w3, w4⟩ := HW2.out
          have BF : Hid (Below w.heap.size w wr) := hid (bthen BW2.out BJ.out)
          by_cases hmx : widN xs k < cntN xs x xs.length
          · have HW' : Hid (widN xs (k + 1) = cntN xs x xs.length) := hid (by rw [HW.out]; omega)
            clear HW1 HW2 HR HB0 HW
            go_wp2_with fail
            go_roundg (xs.length - (k + 1))
            case measure => omega
            case rel => exact ⟨k + 1, by omega, by omega, by go_num, by rw [HW'.out], BF.out⟩
          · have HW' : Hid (widN xs (k + 1) = widN xs k) := hid (by rw [HW.out]; omega)
            clear HW1 HW2 HR HB0 HW
            go_wp2_with fail
            go_roundg (xs.length - (k + 1))
            case measure => omega
            case rel => exact ⟨k + 1, by omega, by omega, by go_num, by rw [HW'.out], BF.out⟩
    · have : k = xs.length := by omega
      subst this
      go_wp2_with fail
      go_ret
      exact ⟨rfl, BW.out⟩
def m_WidthOf (xs : List PI) : Int × Bool := if rngsB xs then (widN xs xs.length, true) else (0, false)
def RetNB (w : World) (r : Int × Bool) (en : Ending) (w' : World) : Prop := en = .returned (.tuple #[.int .i64 r.1, .bool r.2]) ∧ Below w.heap.size w w'
theorem i_WidthOf (w : World) (A : Option Addr) (c : Nat) (xs : List PI) (hl : xs.length ≤ 1048576) (hR : RdP w A xs) :
    Calls Try.prog 13 #[.slice A xs.length c] w (RetNB w (m_WidthOf xs)) := by
  have c0 := i_ValidRanges w A c xs hl hR
  have c1 := fun W (hW : Below w.heap.size w W) => i_width W A c xs hl (hR.below hW)
  clear hR
  unfold m_WidthOf
  generalize widN xs xs.length = r at c1 ⊢
  generalize rngsB xs = b at c0 ⊢
  cases b with
  | false =>
    clear c1
    go_enter Try.func13, Try.ntmps13
    go_wp2_with fail
    refine c0.mono ?_
    rintro e w1 ⟨rfl, hb1⟩
    go_wp2_with fail
    go_ret2
    exact ⟨rfl, hb1⟩
  | true =>
    go_enter Try.func13, Try.ntmps13
    go_wp2_with fail
    refine c0.mono ?_
    rintro e w1 ⟨rfl, hb1⟩
    go_wp2_with fail
    refine (c1 _ hb1).mono ?_
    rintro e w2 ⟨rfl, hb2⟩
    go_wp2_with fail
    go_ret2
    exact ⟨rfl, bthen hb1 hb2⟩
end Go.Proofs.Ytolcmehndambmaa
set_option linter.unusedVariables false
set_option linter.unusedSimpArgs false
namespace Go.Proofs.Ytolcmehndambmaa
open Go.RowKit

/-! ### CountReached -/
def m_CountReached (al : List (List Int)) (s : Int) : Int × Bool := if alwB al && inB s 0 5 then ((lvO al (rw_ al 0).length s.toNat).length, true) else (0, false)
theorem alw_hal {al : List (List Int)} (h : alwB al = true) : (∀ k, k < al.length → (rw_ al k).length = (rw_ al 0).length ∧ shufB (rw_ al k) = true) ∧ 1 ≤ al.length ∧ al.length ≤ 4 ∧ 1 ≤ (rw_ al 0).length ∧ (rw_ al 0).length ≤ 16 := by
  have hl := alwB_len h
  have h0 := alwB_row h (show 0 < al.length by omega)
  have hs := shufB_len h0.2
  refine ⟨fun k hk => alwB_row h hk, hl.1, hl.2, ?_, hs⟩
  have := h0.2
  simp only [shufB, Bool.and_eq_true] at this
  have := lanesB_or this.1; omega
theorem Rq_nil {O : List PQ} {L n : Nat} {T : List PQ} (h : Rq O [] L T) (hA : AllN n O) (hn : 1 ≤ n) : L = O.length := by
  obtain ⟨⟨N, e⟩, h1, h2⟩ := h
  rcases h2 with ⟨f, rfl, hf, _⟩ | ⟨rfl, rfl, _⟩
  · have hm : qel T f ∈ O := by rw [e]; exact List.mem_append_left _ (qel_mem (by omega))
    have := hA _ hm
    rw [hf] at this; simp at this; omega
  · rfl
theorem i_lengthQ (A : Option Addr) (n c : Nat) (w : World) : Calls Try.prog 95 #[.slice A n c] w fun e w' => e = .returned (.int .i64 n) ∧ w = w' := by
  go_enter Try.func95, Try.ntmps95
  go_wp2
  go_ret
  exact ⟨rfl, rfl⟩
theorem i_CountReached (w : World) (A : Option Addr) (c : Nat) (al : List (List Int)) (s : Int) (hl : rsz al ≤ 1048576) (hR : RdR w A al) :
    Calls Try.prog 38 #[.slice A al.length c, .int .i64 s] w (RetNB w (m_CountReached al s)) := by
  have hlen := rsz_len hl
  have c0 := i_areAllowed w A c al hl hR
  unfold m_CountReached
  cases h0 : alwB al with
  | false =>
    rw [h0] at c0
    have C0 := hid c0
    clear c0 h0 hR
    go_enter Try.func38, Try.ntmps38
    go_wp2_with fail
    refine C0.out.mono ?_
    rintro e w1 ⟨rfl, hb1⟩
    go_wp2_with fail
    go_ret2
    exact ⟨rfl, hb1⟩
  | true =>
    rw [h0] at c0
    have C0 := hid c0
    have c1 := fun W => i_within s 0 5 W
    cases h1 : inB s 0 5 with
    | false =>
      rw [h1] at c1
      have C1 := hid c1
      clear c0 h0 hR c1 h1
      go_enter Try.func38, Try.ntmps38
      go_wp2_with fail
      refine C0.out.mono ?_
      rintro e w1 ⟨rfl, hb1⟩
      go_wp2_with (go_at_call 94; refine (C1.out _).mono ?_; rintro e w' ⟨rfl, rfl⟩)
      go_ret2
      exact ⟨rfl, hb1⟩
    | true =>
      rw [h1] at c1
      have C1 := hid c1
      have hs := inB_iff.1 h1
      obtain ⟨q1, q2, q3, q4, q5⟩ := alw_hal h0
      obtain ⟨m, rfl⟩ : ∃ m : Nat, s = (m : Int) := ⟨s.toNat, by omega⟩
      have C2 := hid (fun W (hW : Below w.heap.size w W) => i_reached W A c al (rw_ al 0).length m q2 q3 q5 (by omega) q1 (hR.below hW))
      have HM : Hid ((m : Int).toNat = m) := hid (by omega)
      rw [HM.out]
      have hlo : (lvO al (rw_ al 0).length m).length ≤ 1365 := lv_len q3 m (by omega)
      clear c0 h0 hR c1 h1 q1 HM
      generalize hO : lvO al (rw_ al 0).length m = O at *
      clear hO
      go_enter Try.func38, Try.ntmps38
      go_wp2_with fail
      refine C0.out.mono ?_
      rintro e w1 ⟨rfl, hb1⟩
      go_wp2_with (first | (go_at_call 94; refine (C1.out _).mono ?_; rintro e w' ⟨rfl, rfl⟩) | (go_at_call 96; refine (C2.out _ hb1).mono ?_; rintro e w2 ⟨A2, c2, rfl, _, hb2⟩) | (go_at_call 95; refine (i_lengthQ _ _ _ _).mono ?_; rintro e w' ⟨rfl, rfl⟩))
      go_ret2
      exact ⟨rfl, bthen hb1 hb2⟩
theorem s_CountReached (w : World) (A : Option Addr) (c : Nat) (al : List (List Int)) (s : Int) (hl : rsz al ≤ 1048576) (hR : RdR w A al) :
    Calls Try.prog 36 #[.slice A al.length c, .int .i64 s] w (RetNB w (m_CountReached al s)) := by
  have hlen := rsz_len hl
  have c0 := s_l04Allowed w A c al hl hR
  unfold m_CountReached
  cases h0 : alwB al with
  | false =>
    rw [h0] at c0
    have C0 := hid c0
    clear c0 h0 hR
    go_enter Try.func36, Try.ntmps36
    go_wp2_with fail
    refine C0.out.mono ?_
    rintro e w1 ⟨rfl, hb1⟩
    go_wp2_with fail
    go_ret2
    exact ⟨rfl, hb1⟩
  | true =>
    rw [h0] at c0
    have C0 := hid c0
    have c1 := fun W => s_l00In s 0 5 W
    cases h1 : inB s 0 5 with
    | false =>
      rw [h1] at c1
      have C1 := hid c1
      clear c0 h0 hR c1 h1
      go_enter Try.func36, Try.ntmps36
      go_wp2_with fail
      refine C0.out.mono ?_
      rintro e w1 ⟨rfl, hb1⟩
      go_wp2_with (go_at_call 91; refine (C1.out _).mono ?_; rintro e w' ⟨rfl, rfl⟩)
      go_ret2
      exact ⟨rfl, hb1⟩
    | true =>
      rw [h1] at c1
      have C1 := hid c1
      have hs := inB_iff.1 h1
      obtain ⟨q1, q2, q3, q4, q5⟩ := alw_hal h0
      obtain ⟨m, rfl⟩ : ∃ m : Nat, s = (m : Int) := ⟨s.toNat, by omega⟩
      have C2 := hid (fun W (hW : Below w.heap.size w W) (G : Option Addr) (cg : Nat) => s_l04Reached W A G c cg al [] (rw_ al 0).length m q2 q3 q5 (by omega) q1 (hR.below hW) (by simp) (fun k hk => absurd hk (Nat.not_lt_zero _)))
      have HM : Hid ((m : Int).toNat = m) := hid (by omega)
      rw [HM.out]
      have hlo : (lvO al (rw_ al 0).length m).length ≤ 1365 := lv_len q3 m (by omega)
      have HL : Hid (∀ L T, Rq (lvO al (rw_ al 0).length m) [] L T → L = (lvO al (rw_ al 0).length m).length) := hid fun L T h => Rq_nil h (AllN.lv (fun k hk => (q1 k hk).1) m) q4
      clear c0 h0 hR c1 h1 q1 HM
      generalize hO : lvO al (rw_ al 0).length m = O at *
      clear hO
      go_enter Try.func36, Try.ntmps36
      go_wp2_with fail
      refine C0.out.mono ?_
      rintro e w1 ⟨rfl, hb1⟩
      have HB1 := hid (bthen hb1 (ballocw w1 (.cells #[] 2)))
      go_wp2_with (first | (go_at_call 91; refine (C1.out _).mono ?_; rintro e w' ⟨rfl, rfl⟩) | (go_at_call 92; refine (C2.out _ HB1.out _ _).mono ?_; rintro e w2 ⟨A2, L, c2, rfl, hb2, T, _, hrq⟩; obtain rfl := HL.out L T hrq))
      go_ret2
      exact ⟨rfl, bthen HB1.out hb2⟩
end Go.Proofs.Ytolcmehndambmaa
set_option linter.unusedVariables false
set_option linter.unusedSimpArgs false
namespace Go.Proofs.Ytolcmehndambmaa
open Go.RowKit

theorem law_CountReached (w : World) (A0 : Option Addr) (c0 : Nat) (xs0 : List (List Int)) (a1 : Int) (hl0 : BigR xs0) (hR0 : RdR w A0 xs0) :
    Calls Try.prog 6 #[.slice A0 xs0.length c0, .int .i64 a1] w fun e w' => e = .returned (.bool true) ∧ Below w.heap.size w w' := by
  have hbw := Below.refl w.heap.size w
  have ssz0 := fun W (hW : Below w.heap.size w W) => l_szInt64SSO W A0 c0 xs0 (1048576 : Int) hl0 (by omega) (by omega) (hR0.below hW)
  by_cases big0 : (1048576 : Int) < (rsz xs0 : Nat)
  · simp only [szR, if_pos big0] at ssz0
    go_enter Try.func6, Try.ntmps6
    go_wp2_with fail
    refine (ssz0 _ (Below.refl _ _)).mono ?_
    rintro e z0 ⟨rfl, hbz0⟩
    have hcz0 := hbz0
    go_wp2_with fail
    go_ret
    exact ⟨rfl, hcz0⟩
  · simp only [szR, if_neg big0] at ssz0
    have hs0 : rsz xs0 ≤ 1048576 := by omega
    go_enter Try.func6, Try.ntmps6
    have hbw := Below.refl w.heap.size w
    go_wp2_with fail
    refine (ssz0 _ hbw).mono ?_
    rintro e w1 ⟨rfl, hbw1⟩
    have hzw1 := hbw1.size
    replace hbw := bthen hbw hbw1
    clear ssz0 big0
    go_wp2_with fail
    refine (l_toInt64SSO w1 A0 c0 xs0 hs0 (hR0.below hbw)).mono ?_
    rintro e w2 ⟨vw2, rfl, how2, hbw2⟩
    have hzw2 := hbw2.size
    replace hbw := bthen hbw hbw2
    obtain ⟨Aw2, cw2, rfl, _, _, _⟩ := how2.shp
    go_wp2_with fail
    refine (s_CountReached _ _ _ _ a1 hs0 how2.rd).mono ?_
    rintro e w3 ⟨rfl, hbw3⟩
    have hzw3 := hbw3.size
    replace hbw := bthen hbw hbw3
    replace how2 := how2.eqv (Eqv.of hbw3 (by omega))
    clear how2
    go_wp2_with fail
    refine (l_toInt64SSO w3 A0 c0 xs0 hs0 (hR0.below hbw)).mono ?_
    rintro e w4 ⟨vw4, rfl, how4, hbw4⟩
    have hzw4 := hbw4.size
    replace hbw := bthen hbw hbw4
    obtain ⟨Aw4, cw4, rfl, _, _, _⟩ := how4.shp
    go_wp2_with fail
    refine (i_CountReached _ _ _ _ a1 hs0 how4.rd).mono ?_
    rintro e w5 ⟨rfl, hbw5⟩
    have hzw5 := hbw5.size
    replace hbw := bthen hbw hbw5
    replace how4 := how4.eqv (Eqv.of hbw5 (by omega))
    go_wp2_with fail
    refine (l_toInt64SSO w5 A0 c0 xs0 hs0 (hR0.below hbw)).mono ?_
    rintro e w6 ⟨vw6, rfl, how6, hbw6⟩
    have hzw6 := hbw6.size
    replace hbw := bthen hbw hbw6
    replace how4 := how4.eqv (Eqv.of hbw6 (by omega))
    obtain ⟨Aw6, cw6, rfl, _, _, _⟩ := how6.shp
    go_wp2_with fail
    refine (l_eqInt64SSO _ _ _ _ _ _ _ _ _ hs0 hs0 how4 how6).mono ?_
    rintro e w7 ⟨rfl, hbw7⟩
    have hzw7 := hbw7.size
    replace hbw := bthen hbw hbw7
    replace how4 := how4.eqv (Eqv.of hbw7 (by omega))
    replace how6 := how6.eqv (Eqv.of hbw7 (by omega))
    clear how6
    go_wp2_with fail
    go_ret
    exact ⟨rfl, hbw⟩
end Go.Proofs.Ytolcmehndambmaa
set_option linter.unusedVariables false
set_option linter.unusedSimpArgs false
namespace Go.Proofs.Ytolcmehndambmaa
open Go.ChangeShapes Go.WideShapes Go.ChangeAt Go.RowKit
theorem own : ownKnob Try.prog.godebug = none := by kernel_rfl
theorem laidOut : laidOutB Try.prog = true := by kernel_rfl
theorem cellsInt : Try.prog.cellsOf 2 = 1 := by kernel_rfl
set_option maxRecDepth 100000 in
theorem open_I {H : Type} {enc : TypeId × Value → H} {W : World} {base : Nat} {v : Value} {d : DataW H} {p : List MemPlace}
    (hv : Value.okWide Try.prog W .any base 29 v) (h : DataW.Trod enc Try.prog W 0 (fun _ => true) true 29 v d p) :
    ∃ (A : Option Addr) (c : Nat) (xs : List Int), v = .slice A xs.length c ∧ xs.length ≤ 9223372036854775807 ∧ RdI W A xs := by
  obtain ⟨a, len, cap, rfl⟩ := okWide_slice Try.underlying29 hv
  obtain ⟨fuel, hf⟩ := h
  rcases open_ints Try.underlying29 Try.underlying2 cellsInt hf with ⟨hcs, _⟩ | ⟨x, l, c, zs, hcs, _, hl, hm, hz, _, hcell, _⟩
  · simp [Value.cells] at hcs
    obtain ⟨rfl, rfl, rfl⟩ := hcs
    exact ⟨none, 0, [], rfl, by simp, fun k hk => absurd hk (Nat.not_lt_zero _)⟩
  · simp [Value.cells] at hcs
    obtain ⟨rfl, rfl, rfl⟩ := hcs
    simp only [if_true] at hz
    have hlen : (zs.take len).length = len := by rw [List.length_take]; omega
    refine ⟨some x, cap, zs.take len, by rw [hlen], by rw [hlen]; simp only [maxLen] at hm; omega, ?_⟩
    intro k hk
    rw [hlen] at hk
    have hc := hcell k (by omega)
    have he : el (zs.take len) k = zs.getD k 0 := by
      unfold el; rw [List.getD_eq_getElem?_getD, List.getD_eq_getElem?_getD, List.getElem?_take_of_lt hk]
    have hs : x.spot = none := by
      have hc0 := hcell 0 (by omega)
      cases hx : x.spot with
      | none => rfl
      | some s =>
        rw [show x.add 0 = x from rfl] at hc0
        simp only [World.cell?] at hc0
        split at hc0
        · rw [if_pos (by rw [hx]; rfl)] at hc0; cases hc0
        · cases hc0
    obtain ⟨b, off, s⟩ := x
    obtain rfl : s = none := hs
    refine ⟨b, off, rfl, ?_⟩
    show W.cell? _ = some (.int .i64 (el (List.take len zs) k))
    rw [he, ← hc]
    congr 1
    unfold Addr.add
    split
    · rename_i h; subst h; rfl
    · rfl
end Go.Proofs.Ytolcmehndambmaa
set_option linter.unusedVariables false
set_option linter.unusedSimpArgs false
namespace Go.Proofs.Ytolcmehndambmaa
open Go.ChangeShapes Go.WideShapes Go.ChangeAt Go.RowKit
theorem cellsRow : Try.prog.cellsOf 29 = 1 := by kernel_rfl
theorem flat_addr {W : World} {x : Addr} {v : Value} (h : W.cell? x = some v) : x.spot = none := by
  cases hx : x.spot with
  | none => rfl
  | some s =>
    simp only [World.cell?] at h
    split at h
    · rw [if_pos (by rw [hx]; rfl)] at h; cases h
    · cases h
set_option maxRecDepth 100000 in
theorem open_R {H : Type} {enc : TypeId × Value → H} {W : World} {base : Nat} {v : Value} {d : DataW H} {p : List MemPlace}
    (hv : Value.okWide Try.prog W .any base 35 v) (h : DataW.Trod enc Try.prog W 0 (fun _ => true) true 35 v d p) :
    ∃ (A : Option Addr) (c : Nat) (xs : List (List Int)), v = .slice A xs.length c ∧ BigR xs ∧ RdR W A xs := by
  obtain ⟨a, len, cap, rfl⟩ := okWide_slice Try.underlying35 hv
  obtain ⟨fuel, hf⟩ := h
  rcases Deep.open_int_rows Try.underlying35 Try.underlying29 Try.underlying2 cellsRow cellsInt hf with ⟨hcs, _⟩ | ⟨x, l, c, A, L, C, Z, hcs, _, hl, hm, _, hcell⟩
  · simp [Value.cells] at hcs
    obtain ⟨rfl, rfl, rfl⟩ := hcs
    exact ⟨none, 0, [], rfl, ⟨by simp, fun k hk => absurd hk (Nat.not_lt_zero _)⟩, fun _ => .slice none 0 0, fun k hk => absurd hk (Nat.not_lt_zero _), fun k hk => absurd hk (Nat.not_lt_zero _)⟩
  · simp [Value.cells] at hcs
    obtain ⟨rfl, rfl, rfl⟩ := hcs
    have hrow : ∀ k, k < len → rw_ ((List.range len).map fun r => (Z r).take (L r)) k = (Z k).take (L k) := fun k hk => by
      unfold rw_; rw [List.getD_eq_getElem?_getD]; simp [hk]
    have hlen : ∀ k, k < len → ((Z k).take (L k)).length = L k := fun k hk => by
      obtain ⟨_, h1, _, h3, _⟩ := hcell k (by omega)
      rw [List.length_take]; omega
    refine ⟨some x, cap, (List.range len).map fun r => (Z r).take (L r), by simp, ⟨by simp only [maxLen] at hm; simp; omega, fun k hk => ?_⟩, fun k => .slice (A k) (L k) (C k), fun k hk => ?_, fun k hk => ?_⟩
    · have hk' : k < len := by simpa using hk
      rw [hrow k hk', hlen k hk']
      obtain ⟨_, h1, h2, _⟩ := hcell k (by omega)
      simp only [maxLen] at h2
      omega
    · have hk' : k < len := by simpa using hk
      obtain ⟨hc, _⟩ := hcell k (by omega)
      have hs : x.spot = none := by
        have := flat_addr (hcell 0 (by omega)).1
        exact this
      obtain ⟨b, off, s⟩ := x
      obtain rfl : s = none := hs
      refine ⟨b, off, rfl, ?_⟩
      rw [← hc]
      congr 1
      unfold Addr.add
      split
      · rename_i h; subst h; rfl
      · rfl
    · have hk' : k < len := by simpa using hk
      obtain ⟨_, h1, _, h3, _, h5, h6⟩ := hcell k (by omega)
      rw [hrow k hk']
      refine ⟨A k, C k, by rw [hlen k hk'], by rw [hlen k hk']; exact h1, fun i hi => ?_⟩
      rw [hlen k hk'] at hi
      cases ha : A k with
      | none => have := h5 ha; omega
      | some a' =>
        obtain ⟨_, h7⟩ := h6 a' ha
        have hs : a'.spot = none := flat_addr (h7 0 (by omega))
        obtain ⟨b, off, s⟩ := a'
        obtain rfl : s = none := hs
        refine ⟨b, off, rfl, ?_⟩
        have he : el ((Z k).take (L k)) i = (Z k).getD i 0 := by
          unfold el; rw [List.getD_eq_getElem?_getD, List.getD_eq_getElem?_getD, List.getElem?_take_of_lt hi]
        show W.cell? _ = some (.int .i64 (el _ i))
        rw [he, ← h7 i (by omega)]
        congr 1
        unfold Addr.add
        split
        · rename_i h; subst h; rfl
        · rfl
end Go.Proofs.Ytolcmehndambmaa
/- For every input the law FnExactCountReached holds: the program's CountReached answers what the reference's answers, leaves its arguments as they are, and shares no memory; no condition. -/
set_option linter.unusedVariables false
set_option linter.unusedSimpArgs false
namespace Go.Proofs.Ytolcmehndambmaa.fnExactCountReached
open Go.ChangeShapes Go.WideShapes Go.ChangeAt Go.RowKit
open Go.ChangeMaps (open_string shut_string)
theorem own : ownKnob Try.prog.godebug = none := by kernel_rfl
theorem laidOut : laidOutB Try.prog = true := by kernel_rfl
set_option maxRecDepth 100000 in
theorem lifted (os : Os) (started : os.Started) (H : Type) (enc : TypeId × Value → H) :
    ReturnsInHanded {} Try.checked os 6 .any (Rows.fnExactCountReachedSpec.pre6 enc Try.prog Try.f6 Rows.fnExactCountReachedRow.domain false) (Rows.fnExactCountReachedSpec.post enc Try.prog Try.f6 false true false false) := by
  refine returnsInHanded_of_change (C := Try.checked) own started (by kernel_rfl) Try.func6
    (ChangeSpec.witness6 (enc := enc) (C := Try.checked) false ⟨#[], #[.slice none 0 0, .int .i64 0], []⟩ 8 (by kernel_rfl) (by kernel_rfl) (by kernel_rfl) (by kernel_rfl)) ?_
  intro W base args ds gs before hval0 hW hcnd _
  have hval : ∀ (j : Nat) t v, Try.f6.params[j]? = some t → args[j]? = some v → Value.okWide Try.prog W .any base t v := hval0
  have hW' := hW
  obtain ⟨p, q, hA0, hV, rfl, hfz, hnd⟩ := hW
  have hA : DataW.TrodAll enc Try.prog W 0 (fun _ => true) true Try.f6.params.toList args.toList ds p := hA0
  rw [Try.params6] at hA hval
  obtain ⟨v0, vs0, d0, ds0, p0, q0, hargs, rfl, rfl, h0, r0⟩ := trodAll_cons hA
  obtain ⟨v1, vs1, d1, ds1, p1, q1, rfl, rfl, rfl, h1, r1⟩ := trodAll_cons r0
  obtain ⟨rfl, rfl, rfl⟩ := trodAll_nil r1
  obtain rfl : args = #[v0, v1] := by cases args; simp_all
  obtain ⟨rfl, rfl⟩ := trodVars_none hV
  have k0 := h0
  have lt0 : ∀ x ∈ p0, x.block < W.heap.size := by obtain ⟨m, hm⟩ := k0; exact DataW.trod_lt m _ _ _ hm
  obtain ⟨A0, c0, xs0, rfl, hl0, hR0⟩ := open_R (hval 0 35 v0 rfl rfl) h0
  have k1 := h1
  have lt1 : ∀ x ∈ p1, x.block < W.heap.size := by obtain ⟨m, hm⟩ := k1; exact DataW.trod_lt m _ _ _ hm
  obtain ⟨a1, rfl, rfl, rfl, w1⟩ := open_int Try.underlying2 (hval 1 2 v1 rfl rfl) h1
  clear hA0 hval0
  refine (law_CountReached W A0 c0 xs0 a1 hl0 hR0).mono fun e W' ⟨he, bel⟩ => ?_
  subst he
  exact ⟨_, rfl, _, _, _, [], _, [], hW', trodAll_mk1 (shut_bool Try.underlying4 _), (trodAll_cons_mk (Below.trod laidOut (by kernel_rfl) (of_decide_eq_true (by kernel_rfl)) k0 bel lt0) (trodAll_cons_mk (Below.trod laidOut (by kernel_rfl) (of_decide_eq_true (by kernel_rfl)) k1 bel lt1) trodAll_mk0)), rfl, bel.frame _, fun h => by cases h⟩
theorem over : Rows.fnExactCountReachedRow.holds Try.pinned (OpenSpec.ofChange Rows.fnExactCountReachedSpec) :=
  OpenClaim.holds_of_wide 6 Try.f6 rfl rfl rfl rfl rfl rfl rfl ⟨rfl, rfl, rfl, rfl, rfl⟩ rfl rfl rfl rfl rfl (by kernel_rfl) Try.func6 (by kernel_rfl)
    (of_decide_eq_true (by kernel_rfl)) (by unfold Func.isWrapper; first | (rw [if_pos (by decide +kernel)]; kernel_rfl) | (rw [if_neg (by decide +kernel)]; exact ⟨rfl, rfl⟩))
    (fun os started H enc _ => lifted os started H enc)
theorem proved : Rows.FnExactCountReachedSaid := over
#print axioms proved
end Go.Proofs.Ytolcmehndambmaa.fnExactCountReached
