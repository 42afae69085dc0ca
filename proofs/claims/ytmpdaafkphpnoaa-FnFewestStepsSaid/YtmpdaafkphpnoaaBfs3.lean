import Derived.Test.YtmpdaafkphpnoaaBfs2
import Derived.Test.YtmpdaafkphpnoaaFn
import Derived.Test.YtmpdaafkphpnoaaCalm
set_option linter.unusedVariables false
set_option linter.unusedSimpArgs false
namespace Go.Proofs.Ytmpdaafkphpnoaa
open Go.RowKit


theorem g_Equal (w : World) (A B : Option Addr) (c d : Nat) (xs ys : List Int) (hl : xs.length ≤ 9223372036854775807) (hl' : ys.length ≤ 9223372036854775807) (hA : RdI w A xs) (hB : RdI w B ys) :
    Calls Try.prog 30 #[.slice A xs.length c, .slice B ys.length d] w fun e w' => e = .returned (.bool (decide (xs = ys))) ∧ Below w.heap.size w w' := by
  by_cases hlen : xs.length = ys.length
  · have hne : ((xs.length : Int) != (ys.length : Int)) = false := by simp [hlen]
    have HL := hid hlen
    clear hlen
    go_enter Try.func30, Try.ntmps30
    go_wp2
    go_loopg [13] xs.length (fun gg s wr => ∃ k : Nat, k ≤ xs.length ∧ xs.length - k ≤ gg ∧ s = .int .i64 k ∧ Aside (Below w.heap.size w wr) ∧ Aside (∀ j, j < k → el xs j = el ys j))
    case atStart => exact ⟨0, Nat.zero_le _, by omega, rfl, Below.refl _ _, fun j hj => absurd hj (Nat.not_lt_zero _)⟩
    case round =>
      obtain ⟨k, hk, hg, rfl, BW, EQ⟩ := hrel
      by_cases hlt : k < xs.length
      · obtain ⟨b, off, rfl, hc⟩ := hA.below BW.out k hlt
        obtain ⟨b', off', rfl, hc'⟩ := hB.below BW.out k (by have := HL.out; omega)
        have hlt' : (k : Int) < (ys.length : Int) := by have := HL.out; omega
        by_cases hx : el xs k = el ys k
        · have hb : (el xs k != el ys k) = false := by simp [hx]
          have HX := hid hx
          clear hx hA hB
          go_wp2
          go_quiet (fail)
          go_wp2
          go_roundg (xs.length - (k + 1))
          case measure => omega
          case rel =>
            refine ⟨k + 1, by omega, by omega, by go_num, bdrewN BW.out _, (show Aside _ from fun j hj => ?_)⟩
            by_cases e : j = k
            · subst e; exact HX.out
            · exact EQ.out j (by omega)
        · have hb : (el xs k != el ys k) = true := by simp [hx]
          have hne' : decide (xs = ys) = false := by simp; rintro rfl; exact hx rfl
          have HN := hid hne'
          clear hx hA hB hne'
          go_wp2
          go_quiet (fail)
          go_wp2
          go_ret
          exact ⟨by rw [HN.out]; rfl, bdrewN BW.out _⟩
      · have : k = xs.length := by omega
        subst this
        have he : xs = ys := el_ext HL.out (fun k hk => EQ.out k hk)
        have HE : Aside (decide (xs = ys) = true) := by simp [Aside, he]
        clear he
        go_wp2
        go_ret
        exact ⟨by rw [HE.out]; rfl, BW.out⟩
  · have hne : ((xs.length : Int) != (ys.length : Int)) = true := by simp; omega
    have hn : decide (xs = ys) = false := by simp; rintro rfl; exact hlen rfl
    have HN := hid hn
    clear hn hlen
    go_enter Try.func30, Try.ntmps30
    go_wp2
    go_ret
    exact ⟨by rw [HN.out]; rfl, Below.refl _ _⟩

/-- A list of pairs that is read: its cells. -/
def RdQ (w : World) (A : Option Addr) (qs : List PQ) (F : Nat → Value × Value) : Prop := ∀ k, k < qs.length → ∃ b, A = some ⟨b, 0, none⟩ ∧ w.cell? ⟨b, k * 2, none⟩ = some (F k).1 ∧ w.cell? ⟨b, k * 2 + 1, none⟩ = some (F k).2
theorem RdQ.below {w W : World} {A : Option Addr} {qs : List PQ} {F : Nat → Value × Value} (h : RdQ w A qs F) (hb : Below w.heap.size w W) : RdQ W A qs F := fun k hk => by
  obtain ⟨b, e, c1, c2⟩ := h k hk
  exact ⟨b, e, bcell hb c1, bcell hb c2⟩
theorem indexFuncQ (w : World) (A : Option Addr) (c : Nat) (xs : List PQ) (g : Nat) (lb : Array Value) (p : Nat → Bool) (hl : xs.length ≤ 9223372036854775807)
    (F : Nat → Value × Value) (hR : RdQ w A xs F) (eg : Ent Try.prog g) (hp : Fv Try.prog w g lb xs.length (fun k => .agg #[(F k).1, (F k).2]) p) :
    Calls Try.prog 28 #[.slice A xs.length c, .func (.func g) #[] lb] w fun e w' => e = .returned (.int .i64 (idxN p xs.length xs.length)) ∧ Below w.heap.size w w' := by
  go_enter Try.func28, Try.ntmps28
  go_wp2
  go_loopg [5, 8] xs.length (fun gg _ s8 wr => ∃ k : Nat, k ≤ xs.length ∧ xs.length - k ≤ gg ∧ s8 = .int .i64 k ∧ Aside (Below w.heap.size w wr) ∧ Aside (idxN p xs.length xs.length = idxN p xs.length (xs.length - k)))
  case atStart => exact ⟨0, Nat.zero_le _, by omega, rfl, Below.refl _ w, rfl⟩
  case round =>
    obtain ⟨k, hk, hg, rfl, BW, IX⟩ := hrel
    by_cases hlt : k < xs.length
    · obtain ⟨b, rfl, hc, hc1⟩ := RdQ.below hR BW.out k hlt
      have hcall := hp wr BW.out k hlt
      have hltz : (k : Int) < (xs.length : Int) := by omega
      have IX' : Aside (idxN p xs.length xs.length = if p k then (k : Int) else idxN p xs.length (xs.length - (k + 1))) := by
        have := IX.out; rw [idxN_step hlt] at this; exact this
      clear IX hR hp
      have hcall : Calls Try.prog g (#[.agg #[(F k).1, (F k).2]] ++ lb) wr _ := hcall
      generalize (F k).1 = v1 at hc hcall
      generalize (F k).2 = v2 at hc1 hcall
      cases hq : p k with
      | true =>
        rw [hq] at hcall
        have IX'' : Aside (idxN p xs.length xs.length = k) := by have := IX'.out; rw [hq] at this; exact this
        clear hq IX'
        go_wp2_with (go_at_fn g; refine hcall.mono ?_; rintro e w' ⟨rfl, hb'⟩)
        go_ret
        exact ⟨by rw [IX''.out]; rfl, bthen BW.out hb'⟩
      | false =>
        rw [hq] at hcall
        have IX'' : Aside (idxN p xs.length xs.length = idxN p xs.length (xs.length - (k + 1))) := by have := IX'.out; rw [hq] at this; exact this
        clear hq IX'
        go_wp2_with (go_at_fn g; refine hcall.mono ?_; rintro e w' ⟨rfl, hb'⟩)
        go_roundg (xs.length - (k + 1))
        case measure => omega
        case rel => exact ⟨k + 1, by omega, by omega, by go_num, bthen BW.out hb', IX''⟩
    · have hltz : ¬ (k : Int) < (xs.length : Int) := by omega
      have : k = xs.length := by omega
      subst this
      have IX' : Aside (idxN p xs.length xs.length = -1) := by have := IX.out; rw [Nat.sub_self] at this; exact this
      clear IX
      go_wp2
      go_ret
      exact ⟨by rw [IX'.out]; rfl, BW.out⟩
theorem containsFuncQ (w : World) (A : Option Addr) (c : Nat) (xs : List PQ) (g : Nat) (lb : Array Value) (p : Nat → Bool) (hl : xs.length ≤ 9223372036854775807)
    (F : Nat → Value × Value) (hR : RdQ w A xs F) (eg : Ent Try.prog g) (hp : Fv Try.prog w g lb xs.length (fun k => .agg #[(F k).1, (F k).2]) p) :
    Calls Try.prog 54 #[.slice A xs.length c, .func (.func g) #[] lb] w fun e w' => e = .returned (.bool (decide (0 ≤ idxN p xs.length xs.length))) ∧ Below w.heap.size w w' := by
  have hc := indexFuncQ w A c xs g lb p hl F hR eg hp
  generalize idxN p xs.length xs.length = r at hc
  clear hR hp
  go_enter Try.func54, Try.ntmps54
  go_wp2_with (go_at_call 28; refine hc.mono ?_; rintro e w' ⟨rfl, hb'⟩)
  go_ret
  exact ⟨rfl, hb'⟩


end Go.Proofs.Ytmpdaafkphpnoaa
