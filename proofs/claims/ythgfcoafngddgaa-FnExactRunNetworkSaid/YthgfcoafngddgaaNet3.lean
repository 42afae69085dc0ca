import Derived.Test.YthgfcoafngddgaaNet2
set_option linter.unusedVariables false
set_option linter.unusedSimpArgs false
namespace Go.Proofs.Ythgfcoafngddgaa
open Go.RowKit

theorem rws_drop {xss : List (List Int)} {k : Nat} (hk : k < xss.length) : xss.drop k = rw_ xss k :: xss.drop (k + 1) := by
  rw [List.drop_eq_getElem_cons hk]; congr 1; have := rw_get hk; rw [List.getElem?_eq_getElem hk] at this; exact Option.some.inj this
theorem s_NWa (w : World) (n : Int) (A : Option Addr) (m c : Nat) (c0 : Hid (∀ W, Calls Try.prog 165 #[.int .i64 n] W fun e w' => e = .returned (.bool false) ∧ W = w')) :
    Calls Try.prog 86 #[.int .i64 n, .slice A m c] w fun e w' => e = .returned (.bool false) ∧ w = w' := by
  go_enter Try.func86, Try.ntmps86
  go_wp2_with fail
  refine (c0.out _).mono ?_
  rintro e w' ⟨rfl, rfl⟩
  go_wp2_with fail
  go_ret
  exact ⟨rfl, rfl⟩
theorem s_NWb (w : World) (n d : Int) (A : Option Addr) (m c : Nat) (hd1 : 1 ≤ d) (hd4 : d ≤ 4) (hm : m ≤ 1048576) (hb : ((m : Int) != 2 * d - 1) = true)
    (c0 : Hid (∀ W, Calls Try.prog 165 #[.int .i64 n] W fun e w' => e = .returned (.bool true) ∧ W = w'))
    (c2 : Hid (∀ W, Calls Try.prog 167 #[.int .i64 n] W fun e w' => e = .returned (.int .i64 d) ∧ W = w')) :
    Calls Try.prog 86 #[.int .i64 n, .slice A m c] w fun e w' => e = .returned (.bool false) ∧ w = w' := by
  go_enter Try.func86, Try.ntmps86
  go_wp2_with fail
  refine (c0.out _).mono ?_
  rintro e w' ⟨rfl, rfl⟩
  go_wp2_with fail
  refine (c2.out _).mono ?_
  rintro e w' ⟨rfl, rfl⟩
  go_wp2_with fail
  go_ret
  exact ⟨rfl, rfl⟩
set_option maxRecDepth 100000 in
theorem s_NWc (w : World) (n d : Int) (A : Option Addr) (c : Nat) (xss : List (List Int)) (hd1 : 1 ≤ d) (hd4 : d ≤ 4) (h2 : 2 ≤ n) (h16 : n ≤ 16) (hl : rsz xss ≤ 1048576) (hR : RdR w A xss) (hb : ((xss.length : Int) != 2 * d - 1) = false)
    (c0 : Hid (∀ W, Calls Try.prog 165 #[.int .i64 n] W fun e w' => e = .returned (.bool true) ∧ W = w'))
    (c2 : Hid (∀ W, Calls Try.prog 167 #[.int .i64 n] W fun e w' => e = .returned (.int .i64 d) ∧ W = w')) :
    Calls Try.prog 86 #[.int .i64 n, .slice A xss.length c] w fun e w' => e = .returned (.bool (xss.all (swB n))) ∧ Below w.heap.size w w' := by
  have hm := rsz_len hl
  have HL : Hid (rsz xss ≤ 1048576) := hid hl
  have HR := hid hR
  clear hl hR
  go_enter Try.func86, Try.ntmps86
  go_wp2_with fail
  refine (c0.out _).mono ?_
  rintro e w' ⟨rfl, rfl⟩
  go_wp2_with fail
  refine (c2.out _).mono ?_
  rintro e w' ⟨rfl, rfl⟩
  clear c0 c2
  go_wp2_with fail
  go_loopg [5] xss.length (fun gg s wr => ∃ k : Nat, k ≤ xss.length ∧ xss.length - k ≤ gg ∧ s = .int .i64 k ∧ Aside (Below w.heap.size w wr) ∧ Aside (xss.all (swB n) = (xss.drop k).all (swB n)))
  case atStart => exact ⟨0, Nat.zero_le _, by omega, rfl, Below.refl _ _, rfl⟩
  case round =>
    obtain ⟨k, hk, hg, rfl, BW, AL⟩ := hrel
    by_cases hlt : k < xss.length
    · obtain ⟨b, off, A1, c1, rfl, hc, _, hr⟩ := (HR.out.below BW.out).get hlt
      have hrl : (rw_ xss k).length ≤ 1048576 := rsz_row HL.out hlt
      have hbits := s_l02Bits wr A1 c1 (rw_ xss k) (by omega) hr
      have hq := AL.out
      rw [rws_drop hlt, List.all_cons] at hq
      have hsw : swB n (rw_ xss k) = (decide (((rw_ xss k).length : Int) = n / 2) && (rw_ xss k).all (fun x => inB x 0 1)) := rfl
      cases h1 : decide (((rw_ xss k).length : Int) = n / 2) with
      | false =>
        have hb1 : (((rw_ xss k).length : Int) != n / 2) = true := by simpa using h1
        have HN : Hid (xss.all (swB n) = false) := hid (by rw [hq, hsw, h1]; simp)
        clear hbits hq hsw h1 AL hr
        generalize (rw_ xss k).length = m at *
        go_wp2_with fail
        go_ret
        exact ⟨ret_b (by rw [HN.out]), BW.out⟩
      | true =>
        have hb1 : (((rw_ xss k).length : Int) != n / 2) = false := by simpa using h1
        cases hz : (rw_ xss k).all (fun x => inB x 0 1) with
        | false =>
          rw [hz] at hbits
          have HN : Hid (xss.all (swB n) = false) := hid (by rw [hq, hsw, hz]; simp)
          have HB := hid hbits
          clear hbits hq hsw h1 AL hr hz
          generalize (rw_ xss k).length = m at *
          go_wp2_with fail
          refine HB.out.mono ?_
          rintro e w1 ⟨rfl, hb2⟩
          go_wp2_with fail
          go_ret
          exact ⟨ret_b (by rw [HN.out]), bthen BW.out hb2⟩
        | true =>
          rw [hz] at hbits
          have AL' : Aside (xss.all (swB n) = (xss.drop (k + 1)).all (swB n)) := by unfold Aside; rw [hq, hsw, hz, h1]; simp
          have HB := hid hbits
          clear hbits hq hsw h1 AL hr hz
          generalize (rw_ xss k).length = m at *
          go_wp2_with fail
          refine HB.out.mono ?_
          rintro e w1 ⟨rfl, hb2⟩
          have BW2 : Aside (Below w.heap.size w w1) := bthen BW.out hb2
          clear HB hc
          go_wp2_with fail
          go_roundg (xss.length - (k + 1))
          case measure => omega
          case rel => exact ⟨k + 1, by omega, by omega, by go_num, BW2, AL'⟩
    · have : k = xss.length := by omega
      subst this
      have HN : Hid (xss.all (swB n) = true) := hid (by rw [AL.out]; simp)
      clear AL
      go_wp2_with fail
      go_ret
      exact ⟨ret_b (by rw [HN.out]), BW.out⟩
theorem s_l04Network (w : World) (n : Int) (A : Option Addr) (c : Nat) (xss : List (List Int)) (hl : rsz xss ≤ 1048576) (hR : RdR w A xss) :
    Calls Try.prog 86 #[.int .i64 n, .slice A xss.length c] w fun e w' => e = .returned (.bool (netB n xss)) ∧ Below w.heap.size w w' := by
  have hlen := rsz_len hl
  have hd := dep_range n
  have c0 := fun W => s_l02Lanes n W
  unfold netB
  cases h0 : lanesB n with
  | false => rw [h0] at c0; exact (s_NWa w n A xss.length c (hid c0)).mono fun e w' h => ⟨by rw [h.1]; simp, h.2 ▸ Below.refl _ _⟩
  | true =>
    rw [h0] at c0
    have hor := lanesB_or h0
    have c2 := fun W => s_l04Power W n h0
    cases h1 : decide ((xss.length : Int) = 2 * dep n - 1) with
    | false => exact (s_NWb w n (dep n) A xss.length c hd.1 hd.2 hlen (by simpa using h1) (hid c0) (hid c2)).mono fun e w' h => ⟨by rw [h.1]; simp, h.2 ▸ Below.refl _ _⟩
    | true => exact (s_NWc w n (dep n) A c xss hd.1 hd.2 (by omega) (by omega) hl hR (by simpa using h1) (hid c0) (hid c2)).mono fun e w' h => ⟨by rw [h.1]; simp, h.2⟩
end Go.Proofs.Ythgfcoafngddgaa
