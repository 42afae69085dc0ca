import Derived.Test.YtmpdaafkphpnoaaBfs
import Derived.Test.YtmpdaafkphpnoaaRws
import Derived.Test.YtmpdaafkphpnoaaNet2
import Derived.Test.YtmpdaafkphpnoaaShuf
set_option linter.unusedVariables false
set_option linter.unusedSimpArgs false
namespace Go.Proofs.Ytmpdaafkphpnoaa
open Go.RowKit

/-! ### Allowed shuffles -/
def alwB (al : List (List Int)) : Bool := inB al.length 1 4 && al.all (fun s => shufB s && decide (s.length = (rw_ al 0).length))
theorem alwB_len {al : List (List Int)} (h : alwB al = true) : 1 ≤ al.length ∧ al.length ≤ 4 := by
  simp only [alwB, Bool.and_eq_true] at h
  have := inB_iff.1 h.1; omega
theorem alwB_row {al : List (List Int)} (h : alwB al = true) {k : Nat} (hk : k < al.length) : (rw_ al k).length = (rw_ al 0).length ∧ shufB (rw_ al k) = true := by
  simp only [alwB, Bool.and_eq_true, List.all_eq_true, decide_eq_true_eq] at h
  have hm : rw_ al k ∈ al := by
    have : rw_ al k = al[k] := by simp [rw_, hk]
    rw [this]; exact List.getElem_mem hk
  exact ⟨(h.2 _ hm).2, (h.2 _ hm).1⟩
theorem i_areAllowed1 (W : World) (B : Nat) (A A' : Option Addr) (c c' : Nat) (xs : List Int) (al : List (List Int)) (h1 : 1 ≤ al.length) (h4 : al.length ≤ 4) (hl : xs.length ≤ 1048576) (hB : W.cell? ⟨B, 0, none⟩ = some (.slice A al.length c)) (hR : RdR W A al) (hX : RdI W A' xs) :
    Calls Try.prog 50 #[.slice A' xs.length c', .pointer (some ⟨B, 0, none⟩)] W fun e w' => e = .returned (.bool (shufB xs && decide (xs.length = (rw_ al 0).length))) ∧ Below W.heap.size W w' := by
  have hc := hid (i_IsShuffle W A' c' xs (by omega) hX)
  have HR := hid hR
  have HB := hid hB
  have hBs : B < W.heap.size := by
    have := hB
    simp only [World.cell?] at this
    exact Classical.byContradiction fun q => by simp [Array.getElem?_eq_none (show W.heap.size ≤ B by omega)] at this
  clear hX hR hB
  cases hs : shufB xs with
  | false =>
    rw [hs] at hc
    clear hs
    go_enter Try.func50, Try.ntmps50
    go_wp2_with fail
    refine hc.out.mono ?_
    rintro e w1 ⟨rfl, hb1⟩
    go_wp2_with fail
    go_ret
    exact ⟨ret_b (by simp), hb1⟩
  | true =>
    rw [hs] at hc
    clear hs
    have hx16 : xs.length ≤ 1048576 := hl
    go_enter Try.func50, Try.ntmps50
    go_wp2_with fail
    refine hc.out.mono ?_
    rintro e w1 ⟨rfl, hb1⟩
    obtain ⟨b0, o0, A0, c0, rfl, hc0, hcc0, _⟩ := (HR.out.below hb1).get (k := 0) (by omega)
    have hB1 : w1.cell? ⟨B, 0, none⟩ = some (.slice (some ⟨b0, o0, none⟩) al.length c) := (hb1.cell (p := ⟨B, 0, none⟩) hBs).trans HB.out
    rw [Nat.add_zero] at hc0
    have hcc0' : w1.cell? ⟨b0, o0, none⟩ = some (.slice A0 (rw_ al 0).length c0) := hc0
    have hal0 : (0 : Int) < (al.length : Int) := by omega
    clear hc HR HB
    generalize hn0 : (rw_ al 0).length = n0 at *
    have HN0 := hid hn0
    clear hn0
    go_wp2_with fail
    go_ret
    exact ⟨ret_b (by rw [Bool.true_and, Bool.eq_iff_iff]; simp; have := HN0.out; omega), hb1⟩
theorem i_AWa (w : World) (A : Option Addr) (m c : Nat)
    (c1 : Hid (∀ W, Calls Try.prog 48 #[.slice A m c] W fun e w' => e = .returned (.int .i64 m) ∧ W = w'))
    (c2 : Hid (∀ W, Calls Try.prog 26 #[.int .i64 m, .int .i64 1, .int .i64 4] W fun e w' => e = .returned (.bool false) ∧ W = w')) :
    Calls Try.prog 25 #[.slice A m c] w fun e w' => e = .returned (.bool false) ∧ Below w.heap.size w w' := by
  have hb0 := ballocw w (.cells #[.slice A m c] 25)
  go_enter Try.func25, Try.ntmps25
  go_wp2_with (first | (go_at_call 48; refine (c1.out _).mono ?_; rintro e w' ⟨rfl, rfl⟩) | (go_at_call 26; refine (c2.out _).mono ?_; rintro e w' ⟨rfl, rfl⟩))
  go_ret
  exact ⟨rfl, hb0⟩
theorem i_AWb (w : World) (A : Option Addr) (m c : Nat) (b : Bool)
    (c1 : Hid (∀ W, Calls Try.prog 48 #[.slice A m c] W fun e w' => e = .returned (.int .i64 m) ∧ W = w'))
    (c2 : Hid (∀ W, Calls Try.prog 26 #[.int .i64 m, .int .i64 1, .int .i64 4] W fun e w' => e = .returned (.bool true) ∧ W = w'))
    (Q : World → Prop) (ca : Hid (∀ W, Below (w.heap.size + 1) (w.alloc (.cells #[.slice A m c] 25)) W → Calls Try.prog 49 #[.slice A m c, .func (.func 50) #[] #[.pointer (some ⟨w.heap.size, 0, none⟩)]] W fun e w' => e = .returned (.bool b) ∧ Q w')) :
    Calls Try.prog 25 #[.slice A m c] w fun e w' => e = .returned (.bool b) ∧ Q w' := by
  have hb1 : Below (w.heap.size + 1) (w.alloc (.cells #[.slice A m c] 25)) (w.alloc (.cells #[.slice A m c] 25)) := Below.refl _ _
  go_enter Try.func25, Try.ntmps25
  go_wp2_with (first | (go_at_call 48; refine (c1.out _).mono ?_; rintro e w' ⟨rfl, rfl⟩) | (go_at_call 26; refine (c2.out _).mono ?_; rintro e w' ⟨rfl, rfl⟩) | (go_at_call 49; refine (ca.out _ hb1).mono ?_; rintro e w1 ⟨rfl, hq⟩))
  go_ret
  exact ⟨rfl, hq⟩
theorem i_areAllowed (w : World) (A : Option Addr) (c : Nat) (al : List (List Int)) (hl : rsz al ≤ 1048576) (hR : RdR w A al) :
    Calls Try.prog 25 #[.slice A al.length c] w fun e w' => e = .returned (.bool (alwB al)) ∧ Below w.heap.size w w' := by
  have hlen := rsz_len hl
  have c1 := fun W => i_lengthRR A al.length c W
  have c2 := fun W => i_within (al.length : Int) 1 4 W
  unfold alwB
  cases h0 : inB (al.length : Int) 1 4 with
  | false => rw [h0] at c2; exact (i_AWa w A al.length c (hid c1) (hid c2)).mono fun e w' h => ⟨by rw [h.1]; simp, h.2⟩
  | true =>
    rw [h0] at c2
    have hr := inB_iff.1 h0
    have hb0 : Below w.heap.size w (w.alloc (.cells #[.slice A al.length c] 25)) := ballocw w _
    have hcB : (w.alloc (.cells #[.slice A al.length c] 25)).cell? ⟨w.heap.size, 0, none⟩ = some (.slice A al.length c) := by simp
    have hbW : ∀ W, Below (w.heap.size + 1) (w.alloc (.cells #[.slice A al.length c] 25)) W → Below w.heap.size w W := fun W hW => hb0.trans (hW.mono (by omega))
    have hR' := hR
    obtain ⟨f, hf, hrr⟩ := hR
    refine (i_AWb w A al.length c (al.all (fun s => shufB s && decide (s.length = (rw_ al 0).length))) (hid c1) (hid c2) (fun w' => Below w.heap.size w w') (hid fun W hW => ?_)).mono fun e w' h => ⟨by rw [h.1]; simp, h.2⟩
    have hWs := (hbW W hW).size
    have hcW := (hW.cell (p := ⟨w.heap.size, 0, none⟩) (by simp)).trans hcB
    have hRW := hR'.below (hbW W hW)
    have hall := areAllR W A al.length c f 50 #[.pointer (some ⟨w.heap.size, 0, none⟩)] (fun k => shufB (rw_ al k) && decide ((rw_ al k).length = (rw_ al 0).length)) (by omega) (hf.below (hbW W hW)) (enters_of Try.func50 (by kernel_rfl) rfl) (fun W' hW' k hk => by
      obtain ⟨A', c', e, _, hq⟩ := hrr k hk
      rw [e]
      exact i_areAllowed1 W' w.heap.size A A' c c' (rw_ al k) al (by omega) (by omega) (rsz_row hl hk) (bcell hW' hcW) (hRW.below hW') ((hq.below (hbW W hW)).below hW'))
    rw [allN_rows al (fun s => shufB s && decide (s.length = (rw_ al 0).length))] at hall
    exact hall.mono fun e w' h => ⟨h.1, bthen (hbW W hW) h.2⟩
end Go.Proofs.Ytmpdaafkphpnoaa
