import Derived.Test.YtnnioicjmlfllaaGreatDoorBase
set_option linter.unusedVariables false
set_option linter.unusedSimpArgs false
namespace Go.Proofs.YtnnioicjmlfllaaGreatDoor
open Go.RowKit

theorem indexFuncI (w : World) (A : Option Addr) (n c : Nat) (f : Nat → Value) (g : Nat) (lb : Array Value) (p : Nat → Bool) (hl : n ≤ 9223372036854775807)
    (hR : Rd w A n f) (eg : Ent Tryz.prog g) (hp : Fv Tryz.prog w g lb n f p) :
    Calls Tryz.prog 180 #[.slice A n c, .func (.func g) #[] lb] w fun e w' => e = .returned (.int .i64 (idxN p n n)) ∧ Below w.heap.size w w' := by
  go_enter Tryz.func180, Tryz.ntmps180
  go_wp2
  go_loopg [5, 8] n (fun gg _ s8 wr => ∃ k : Nat, k ≤ n ∧ n - k ≤ gg ∧ s8 = .int .i64 k ∧ Aside (Below w.heap.size w wr) ∧ Aside (idxN p n n = idxN p n (n - k)))
  case atStart => exact ⟨0, Nat.zero_le _, by omega, rfl, Below.refl _ w, rfl⟩
  case round =>
    obtain ⟨k, hk, hg, rfl, BW, IX⟩ := hrel
    by_cases hlt : k < n
    · obtain ⟨b, off, rfl, hc⟩ := Rd.below hR BW.out k hlt
      have hcall := hp wr BW.out k hlt
      have hltz : (k : Int) < (n : Int) := by omega
      have IX' : Aside (idxN p n n = if p k then (k : Int) else idxN p n (n - (k + 1))) := by
        have := IX.out; rw [idxN_step hlt] at this; exact this
      clear IX hR hp
      generalize f k = v at hc hcall
      cases hq : p k with
      | true =>
        rw [hq] at hcall
        have IX'' : Aside (idxN p n n = k) := by have := IX'.out; rw [hq] at this; exact this
        clear hq IX'
        go_wp2_with (go_at_fn g; refine hcall.mono ?_; rintro e w' ⟨rfl, hb'⟩)
        go_ret
        exact ⟨by rw [IX''.out]; rfl, bthen BW.out hb'⟩
      | false =>
        rw [hq] at hcall
        have IX'' : Aside (idxN p n n = idxN p n (n - (k + 1))) := by have := IX'.out; rw [hq] at this; exact this
        clear hq IX'
        go_wp2_with (go_at_fn g; refine hcall.mono ?_; rintro e w' ⟨rfl, hb'⟩)
        go_roundg (n - (k + 1))
        case measure => omega
        case rel => exact ⟨k + 1, by omega, by omega, by go_num, bthen BW.out hb', IX''⟩
    · have hltz : ¬ (k : Int) < (n : Int) := by omega
      have : k = n := by omega
      subst this
      have IX' : Aside (idxN p k k = -1) := by have := IX.out; rw [Nat.sub_self] at this; exact this
      clear IX
      go_wp2
      go_ret
      exact ⟨by rw [IX'.out]; rfl, BW.out⟩
theorem containsFuncI (w : World) (A : Option Addr) (n c : Nat) (f : Nat → Value) (g : Nat) (lb : Array Value) (p : Nat → Bool) (hl : n ≤ 9223372036854775807)
    (hR : Rd w A n f) (eg : Ent Tryz.prog g) (hp : Fv Tryz.prog w g lb n f p) :
    Calls Tryz.prog 129 #[.slice A n c, .func (.func g) #[] lb] w fun e w' => e = .returned (.bool (decide (0 ≤ idxN p n n))) ∧ Below w.heap.size w w' := by
  have hc := indexFuncI w A n c f g lb p hl hR eg hp
  generalize idxN p n n = r at hc
  clear hR hp
  go_enter Tryz.func129, Tryz.ntmps129
  go_wp2_with (go_at_call 180; refine hc.mono ?_; rintro e w' ⟨rfl, hb'⟩)
  go_ret
  exact ⟨rfl, hb'⟩

theorem indexFuncR (w : World) (A : Option Addr) (n c : Nat) (f : Nat → Value) (g : Nat) (lb : Array Value) (p : Nat → Bool) (hl : n ≤ 9223372036854775807)
    (hR : Rd w A n f) (eg : Ent Tryz.prog g) (hp : Fv Tryz.prog w g lb n f p) :
    Calls Tryz.prog 145 #[.slice A n c, .func (.func g) #[] lb] w fun e w' => e = .returned (.int .i64 (idxN p n n)) ∧ Below w.heap.size w w' := by
  go_enter Tryz.func145, Tryz.ntmps145
  go_wp2
  go_loopg [5, 8] n (fun gg _ s8 wr => ∃ k : Nat, k ≤ n ∧ n - k ≤ gg ∧ s8 = .int .i64 k ∧ Aside (Below w.heap.size w wr) ∧ Aside (idxN p n n = idxN p n (n - k)))
  case atStart => exact ⟨0, Nat.zero_le _, by omega, rfl, Below.refl _ w, rfl⟩
  case round =>
    obtain ⟨k, hk, hg, rfl, BW, IX⟩ := hrel
    by_cases hlt : k < n
    · obtain ⟨b, off, rfl, hc⟩ := Rd.below hR BW.out k hlt
      have hcall := hp wr BW.out k hlt
      have hltz : (k : Int) < (n : Int) := by omega
      have IX' : Aside (idxN p n n = if p k then (k : Int) else idxN p n (n - (k + 1))) := by
        have := IX.out; rw [idxN_step hlt] at this; exact this
      clear IX hR hp
      generalize f k = v at hc hcall
      cases hq : p k with
      | true =>
        rw [hq] at hcall
        have IX'' : Aside (idxN p n n = k) := by have := IX'.out; rw [hq] at this; exact this
        clear hq IX'
        go_wp2_with (go_at_fn g; refine hcall.mono ?_; rintro e w' ⟨rfl, hb'⟩)
        go_ret
        exact ⟨by rw [IX''.out]; rfl, bthen BW.out hb'⟩
      | false =>
        rw [hq] at hcall
        have IX'' : Aside (idxN p n n = idxN p n (n - (k + 1))) := by have := IX'.out; rw [hq] at this; exact this
        clear hq IX'
        go_wp2_with (go_at_fn g; refine hcall.mono ?_; rintro e w' ⟨rfl, hb'⟩)
        go_roundg (n - (k + 1))
        case measure => omega
        case rel => exact ⟨k + 1, by omega, by omega, by go_num, bthen BW.out hb', IX''⟩
    · have hltz : ¬ (k : Int) < (n : Int) := by omega
      have : k = n := by omega
      subst this
      have IX' : Aside (idxN p k k = -1) := by have := IX.out; rw [Nat.sub_self] at this; exact this
      clear IX
      go_wp2
      go_ret
      exact ⟨by rw [IX'.out]; rfl, BW.out⟩
theorem containsFuncR (w : World) (A : Option Addr) (n c : Nat) (f : Nat → Value) (g : Nat) (lb : Array Value) (p : Nat → Bool) (hl : n ≤ 9223372036854775807)
    (hR : Rd w A n f) (eg : Ent Tryz.prog g) (hp : Fv Tryz.prog w g lb n f p) :
    Calls Tryz.prog 98 #[.slice A n c, .func (.func g) #[] lb] w fun e w' => e = .returned (.bool (decide (0 ≤ idxN p n n))) ∧ Below w.heap.size w w' := by
  have hc := indexFuncR w A n c f g lb p hl hR eg hp
  generalize idxN p n n = r at hc
  clear hR hp
  go_enter Tryz.func98, Tryz.ntmps98
  go_wp2_with (go_at_call 145; refine hc.mono ?_; rintro e w' ⟨rfl, hb'⟩)
  go_ret
  exact ⟨rfl, hb'⟩

theorem areAll1I (W : World) (B : Nat) (g : Nat) (lb : Array Value) (x : Value) (b : Bool) (eg : Ent Tryz.prog g)
    (hc : W.cell? ⟨B, 0, none⟩ = some (.func (.func g) #[] lb)) (hp : Calls Tryz.prog g (#[x] ++ lb) W fun e w' => e = .returned (.bool b) ∧ Below W.heap.size W w') :
    Calls Tryz.prog 130 #[x, .pointer (some ⟨B, 0, none⟩)] W fun e w' => e = .returned (.bool (!b)) ∧ Below W.heap.size W w' := by
  go_enter Tryz.func130, Tryz.ntmps130
  go_wp2_with (go_at_fn g; refine hp.mono ?_; rintro e w' ⟨rfl, hb'⟩)
  go_ret
  exact ⟨rfl, hb'⟩
theorem areAllI (w : World) (A : Option Addr) (n c : Nat) (f : Nat → Value) (g : Nat) (lb : Array Value) (p : Nat → Bool) (hl : n ≤ 9223372036854775807)
    (hR : Rd w A n f) (eg : Ent Tryz.prog g) (hp : Fv Tryz.prog w g lb n f p) :
    Calls Tryz.prog 87 #[.slice A n c, .func (.func g) #[] lb] w fun e w' => e = .returned (.bool (allN n p)) ∧ Below w.heap.size w w' := by
  have hb1 : Below w.heap.size w (w.alloc (.cells #[.func (.func g) #[] lb] 124)) := ballocw _ _
  have hcont := containsFuncI (w.alloc (.cells #[.func (.func g) #[] lb] 124)) A n c f 130 #[.pointer (some ⟨w.heap.size, 0, none⟩)] (fun k => !p k) hl (hR.below hb1)
    (enters_of Tryz.func130 (by kernel_rfl) rfl) (fun W hW k hk => areAll1I W w.heap.size g lb (f k) (p k) eg ((hW.cell (p := ⟨w.heap.size, 0, none⟩) (by simp)).trans (by simp))
      (hp W (hb1.trans (hW.mono hb1.size)) k hk))
  have hcc := hcont.mono (fun e w' ⟨h1, h2⟩ => (⟨h1, bthen hb1 h2⟩ : e = Ending.returned (.bool (decide (0 ≤ idxN (fun k => !p k) n n))) ∧ Below w.heap.size w w'))
  rw [idxN_all] at hcc
  clear hcont hp hR hb1
  generalize allN n p = r at hcc
  go_enter Tryz.func87, Tryz.ntmps87
  go_wp2_with (go_at_call 129; refine hcc.mono ?_; rintro e w' ⟨rfl, hb'⟩)
  go_ret
  exact ⟨by simp, hb'⟩
theorem areAll1R (W : World) (B : Nat) (g : Nat) (lb : Array Value) (x : Value) (b : Bool) (eg : Ent Tryz.prog g)
    (hc : W.cell? ⟨B, 0, none⟩ = some (.func (.func g) #[] lb)) (hp : Calls Tryz.prog g (#[x] ++ lb) W fun e w' => e = .returned (.bool b) ∧ Below W.heap.size W w') :
    Calls Tryz.prog 99 #[x, .pointer (some ⟨B, 0, none⟩)] W fun e w' => e = .returned (.bool (!b)) ∧ Below W.heap.size W w' := by
  go_enter Tryz.func99, Tryz.ntmps99
  go_wp2_with (go_at_fn g; refine hp.mono ?_; rintro e w' ⟨rfl, hb'⟩)
  go_ret
  exact ⟨rfl, hb'⟩
theorem areAllR (w : World) (A : Option Addr) (n c : Nat) (f : Nat → Value) (g : Nat) (lb : Array Value) (p : Nat → Bool) (hl : n ≤ 9223372036854775807)
    (hR : Rd w A n f) (eg : Ent Tryz.prog g) (hp : Fv Tryz.prog w g lb n f p) :
    Calls Tryz.prog 46 #[.slice A n c, .func (.func g) #[] lb] w fun e w' => e = .returned (.bool (allN n p)) ∧ Below w.heap.size w w' := by
  have hb1 : Below w.heap.size w (w.alloc (.cells #[.func (.func g) #[] lb] 90)) := ballocw _ _
  have hcont := containsFuncR (w.alloc (.cells #[.func (.func g) #[] lb] 90)) A n c f 99 #[.pointer (some ⟨w.heap.size, 0, none⟩)] (fun k => !p k) hl (hR.below hb1)
    (enters_of Tryz.func99 (by kernel_rfl) rfl) (fun W hW k hk => areAll1R W w.heap.size g lb (f k) (p k) eg ((hW.cell (p := ⟨w.heap.size, 0, none⟩) (by simp)).trans (by simp))
      (hp W (hb1.trans (hW.mono hb1.size)) k hk))
  have hcc := hcont.mono (fun e w' ⟨h1, h2⟩ => (⟨h1, bthen hb1 h2⟩ : e = Ending.returned (.bool (decide (0 ≤ idxN (fun k => !p k) n n))) ∧ Below w.heap.size w w'))
  rw [idxN_all] at hcc
  clear hcont hp hR hb1
  generalize allN n p = r at hcc
  go_enter Tryz.func46, Tryz.ntmps46
  go_wp2_with (go_at_call 98; refine hcc.mono ?_; rintro e w' ⟨rfl, hb'⟩)
  go_ret
  exact ⟨by simp, hb'⟩
end Go.Proofs.YtnnioicjmlfllaaGreatDoor
