import Derived.Test.YtolcmehndambmaaRange
import Derived.Test.YtolcmehndambmaaFn
set_option linter.unusedVariables false
set_option linter.unusedSimpArgs false
namespace Go.Proofs.Ytolcmehndambmaa
open Go.RowKit

theorem indexFuncP (w : World) (A : Option Addr) (c : Nat) (xs : List PI) (g : Nat) (lb : Array Value) (p : Nat → Bool) (hl : xs.length ≤ 9223372036854775807)
    (hR : RdP w A xs) (eg : Ent Try.prog g) (hp : Fv Try.prog w g lb xs.length (fun k => pv (pel xs k)) p) :
    Calls Try.prog 160 #[.slice A xs.length c, .func (.func g) #[] lb] w fun e w' => e = .returned (.int .i64 (idxN p xs.length xs.length)) ∧ Below w.heap.size w w' := by
  go_enter Try.func160, Try.ntmps160
  go_wp2
  go_loopg [5, 8] xs.length (fun gg _ s8 wr => ∃ k : Nat, k ≤ xs.length ∧ xs.length - k ≤ gg ∧ s8 = .int .i64 k ∧ Aside (Below w.heap.size w wr) ∧ Aside (idxN p xs.length xs.length = idxN p xs.length (xs.length - k)))
  case atStart => exact ⟨0, Nat.zero_le _, by omega, rfl, Below.refl _ w, rfl⟩
  case round =>
    obtain ⟨k, hk, hg, rfl, BW, IX⟩ := hrel
    by_cases hlt : k < xs.length
    · obtain ⟨b, off, rfl, hc, hc1⟩ := RdP.below hR BW.out k hlt
      have hcall := hp wr BW.out k hlt
      have hltz : (k : Int) < (xs.length : Int) := by omega
      have IX' : Aside (idxN p xs.length xs.length = if p k then (k : Int) else idxN p xs.length (xs.length - (k + 1))) := by
        have := IX.out; rw [idxN_step hlt] at this; exact this
      clear IX hR hp
      have hcall : Calls Try.prog g (#[mv (pel xs k).1 (pel xs k).2] ++ lb) wr _ := hcall
      generalize (pel xs k).1 = v1 at hc hcall
      generalize (pel xs k).2 = v2 at hc1 hcall
      cases hq : p k with
      | true =>
        rw [hq] at hcall
        have IX'' : Aside (idxN p xs.length xs.length = k) := by have := IX'.out; rw [hq] at this; exact this
        clear hq IX'
        go_wp2_with (go_at_fn g; refine hcall.mono ?_; rintro e w' ⟨rfl, hb'⟩)
        go_ret
        exact ⟨by rw [IX''.out]; rfl, bthen BW.out hb'⟩
      | false =>
        rw [hq] at hcall
        have IX'' : Aside (idxN p xs.length xs.length = idxN p xs.length (xs.length - (k + 1))) := by have := IX'.out; rw [hq] at this; exact this
        clear hq IX'
        go_wp2_with (go_at_fn g; refine hcall.mono ?_; rintro e w' ⟨rfl, hb'⟩)
        go_roundg (xs.length - (k + 1))
        case measure => omega
        case rel => exact ⟨k + 1, by omega, by omega, by go_num, bthen BW.out hb', IX''⟩
    · have hltz : ¬ (k : Int) < (xs.length : Int) := by omega
      have : k = xs.length := by omega
      subst this
      have IX' : Aside (idxN p xs.length xs.length = -1) := by have := IX.out; rw [Nat.sub_self] at this; exact this
      clear IX
      go_wp2
      go_ret
      exact ⟨by rw [IX'.out]; rfl, BW.out⟩
theorem containsFuncP (w : World) (A : Option Addr) (c : Nat) (xs : List PI) (g : Nat) (lb : Array Value) (p : Nat → Bool) (hl : xs.length ≤ 9223372036854775807)
    (hR : RdP w A xs) (eg : Ent Try.prog g) (hp : Fv Try.prog w g lb xs.length (fun k => pv (pel xs k)) p) :
    Calls Try.prog 124 #[.slice A xs.length c, .func (.func g) #[] lb] w fun e w' => e = .returned (.bool (decide (0 ≤ idxN p xs.length xs.length))) ∧ Below w.heap.size w w' := by
  have hc := indexFuncP w A c xs g lb p hl hR eg hp
  generalize idxN p xs.length xs.length = r at hc
  clear hR hp
  go_enter Try.func124, Try.ntmps124
  go_wp2_with (go_at_call 160; refine hc.mono ?_; rintro e w' ⟨rfl, hb'⟩)
  go_ret
  exact ⟨rfl, hb'⟩

theorem areAll1P (W : World) (B : Nat) (g : Nat) (lb : Array Value) (x1 x2 : Int) (b : Bool) (eg : Ent Try.prog g)
    (hc : W.cell? ⟨B, 0, none⟩ = some (.func (.func g) #[] lb)) (hp : ∀ W', Below W.heap.size W W' → Calls Try.prog g (#[mv x1 x2] ++ lb) W' fun e w' => e = .returned (.bool b) ∧ Below W'.heap.size W' w') :
    Calls Try.prog 125 #[mv x1 x2, .pointer (some ⟨B, 0, none⟩)] W fun e w' => e = .returned (.bool (!b)) ∧ Below W.heap.size W w' := by
  have hb0 := ballocw W (.cells #[.int .i64 x1, .int .i64 x2] 34)
  have hp0 := hp _ hb0
  have hc0 := bcell hb0 hc
  clear hp hc
  go_enter Try.func125, Try.ntmps125
  go_wp2_with (go_at_fn g; refine hp0.mono ?_; rintro e w' ⟨rfl, hb'⟩)
  go_ret
  exact ⟨rfl, bthen hb0 hb'⟩
theorem areAllP (w : World) (A : Option Addr) (c : Nat) (xs : List PI) (g : Nat) (lb : Array Value) (p : Nat → Bool) (hl : xs.length ≤ 9223372036854775807)
    (hR : RdP w A xs) (eg : Ent Try.prog g) (hp : Fv Try.prog w g lb xs.length (fun k => pv (pel xs k)) p) :
    Calls Try.prog 65 #[.slice A xs.length c, .func (.func g) #[] lb] w fun e w' => e = .returned (.bool (allN xs.length p)) ∧ Below w.heap.size w w' := by
  have hb1 : Below w.heap.size w (w.alloc (.cells #[.func (.func g) #[] lb] 87)) := ballocw _ _
  have hcont := containsFuncP (w.alloc (.cells #[.func (.func g) #[] lb] 87)) A c xs 125 #[.pointer (some ⟨w.heap.size, 0, none⟩)] (fun k => !p k) hl (hR.below hb1)
    (enters_of Try.func125 (by kernel_rfl) rfl) (fun W hW k hk => areAll1P W w.heap.size g lb (pel xs k).1 (pel xs k).2 (p k) eg ((hW.cell (p := ⟨w.heap.size, 0, none⟩) (by simp)).trans (by simp))
      (fun W' hW' => hp W' (bthen' (hb1.trans (hW.mono hb1.size)) hW' (bthen hb1 hW).size) k hk))
  have hcc := hcont.mono (fun e w' ⟨h1, h2⟩ => (⟨h1, bthen hb1 h2⟩ : e = Ending.returned (.bool (decide (0 ≤ idxN (fun k => !p k) xs.length xs.length))) ∧ Below w.heap.size w w'))
  rw [idxN_all] at hcc
  clear hcont hp hR hb1
  generalize allN xs.length p = r at hcc
  go_enter Try.func65, Try.ntmps65
  go_wp2_with (go_at_call 124; refine hcc.mono ?_; rintro e w' ⟨rfl, hb'⟩)
  go_ret
  exact ⟨by simp, hb'⟩
theorem allN_pairs (xs : List PI) (p : PI → Bool) : allN xs.length (fun k => p (pel xs k)) = xs.all p := by
  unfold allN
  rw [Bool.eq_iff_iff, List.all_eq_true, List.all_eq_true]
  constructor
  · intro h x hx
    obtain ⟨k, hk, rfl⟩ := List.getElem_of_mem hx
    have := h k (List.mem_range.2 hk)
    have e := pel_get hk; rw [List.getElem?_eq_getElem hk] at e; rw [Option.some.inj e]; exact this
  · intro h k hk
    exact h _ (pel_mem (List.mem_range.1 hk))
/-- A range that is valid; ranges that are. -/
def rngB (p : PI) : Bool := decide (0 ≤ p.1) && (decide (p.1 < p.2) && decide (p.2 ≤ 200))
def rngsB (xs : List PI) : Bool := decide (xs.length ≤ 12) && xs.all rngB
theorem i_ValidRanges1 (W : World) (x y : Int) : Calls Try.prog 66 #[mv x y] W fun e w' => e = .returned (.bool (rngB (x, y))) ∧ Below W.heap.size W w' := by
  unfold rngB
  by_cases h0 : 0 ≤ x
  · by_cases h1 : x < y
    · go_enter Try.func66, Try.ntmps66
      go_wp2
      go_ret
      exact ⟨ret_b (by simp [h0, h1]), ballocw _ _⟩
    · go_enter Try.func66, Try.ntmps66
      go_wp2
      go_ret
      exact ⟨ret_b (by simp [h0, h1]; try omega), ballocw _ _⟩
  · go_enter Try.func66, Try.ntmps66
    go_wp2
    go_ret
    exact ⟨ret_b (by simp [h0]; try omega), ballocw _ _⟩
theorem i_ValidRanges (w : World) (A : Option Addr) (c : Nat) (xs : List PI) (hl : xs.length ≤ 1048576) (hR : RdP w A xs) :
    Calls Try.prog 16 #[.slice A xs.length c] w fun e w' => e = .returned (.bool (rngsB xs)) ∧ Below w.heap.size w w' := by
  have hall := areAllP w A c xs 66 #[] (fun k => rngB (pel xs k)) (by omega) hR (enters_of Try.func66 (by kernel_rfl) rfl) (fun W hW k hk => i_ValidRanges1 W (pel xs k).1 (pel xs k).2)
  rw [allN_pairs] at hall
  clear hR
  unfold rngsB
  generalize xs.all rngB = r at hall ⊢
  by_cases h : xs.length ≤ 12
  · have h' : (xs.length : Int) ≤ 12 := by omega
    go_enter Try.func16, Try.ntmps16
    go_wp2_with fail
    refine hall.mono ?_
    rintro e w1 ⟨rfl, hb1⟩
    go_wp2_with fail
    go_ret
    exact ⟨ret_b (by simp [h]), hb1⟩
  · have h' : ¬ (xs.length : Int) ≤ 12 := by omega
    clear hall
    go_enter Try.func16, Try.ntmps16
    go_wp2_with fail
    go_ret
    exact ⟨ret_b (by simp [h]), Below.refl _ _⟩
end Go.Proofs.Ytolcmehndambmaa
