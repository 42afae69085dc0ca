import Derived.Test.YtmpdaafkphpnoaaShuf
import Derived.Test.YtmpdaafkphpnoaaLawO
import Derived.Test.YtmpdaafkphpnoaaPerm
set_option linter.unusedVariables false
set_option linter.unusedSimpArgs false
namespace Go.Proofs.Ytmpdaafkphpnoaa
open Go.RowKit

def orderB (xs : List Int) : Bool := shufB xs && ordB xs xs.length
theorem ordB_step {xs : List Int} {n : Nat} : ordB xs (n + 1) = (ordB xs n && hasB xs n) := by unfold ordB; rw [List.range_succ, List.all_append]; simp
theorem ordB_mono {xs : List Int} {k n : Nat} (h : ordB xs k = false) (hk : k ≤ n) : ordB xs n = false := by
  cases hq : ordB xs n with
  | false => rfl
  | true => rw [ordB_iff] at hq; rw [← Bool.not_eq_true, ordB_iff] at h; exact absurd (fun j hj => hq j (by omega)) h

theorem s_l00Has (w : World) (A : Option Addr) (c : Nat) (xs : List Int) (v : Int) (hl : xs.length ≤ 9223372036854775807) (hR : RdI w A xs) :
    Calls Try.prog 60 #[.slice A xs.length c, .int .i64 v] w fun e w' => e = .returned (.bool (hasB xs v)) ∧ w = w' := by
  go_enter Try.func60, Try.ntmps60
  go_wp2
  go_loopg [5] xs.length (fun gg s wr => ∃ k : Nat, k ≤ xs.length ∧ xs.length - k ≤ gg ∧ s = .int .i64 k ∧ Aside (w = wr) ∧ Aside (hasB xs v = hasB (xs.drop k) v))
  case atStart => exact ⟨0, Nat.zero_le _, by omega, rfl, rfl, rfl⟩
  case round =>
    obtain ⟨k, hk, hg, rfl, BW, IX⟩ := hrel
    obtain rfl := BW.out
    by_cases hlt : k < xs.length
    · obtain ⟨b, off, rfl, hc⟩ := hR.get hlt
      have hq' : Aside (hasB xs v = (el xs k == v || hasB (xs.drop (k + 1)) v)) := by have := IX.out; rw [el_drop hlt] at this; exact this
      clear IX hR
      cases hq : (el xs k == v) with
      | true =>
        have IX'' : Aside (hasB xs v = true) := by have := hq'.out; rw [hq] at this; exact this
        clear hq'
        go_wp2
        go_ret
        exact ⟨by rw [IX''.out]; rfl, rfl⟩
      | false =>
        have IX'' : Aside (hasB xs v = hasB (xs.drop (k + 1)) v) := by have := hq'.out; rw [hq] at this; exact this
        clear hq'
        go_wp2
        go_roundg (xs.length - (k + 1))
        case measure => omega
        case rel => exact ⟨k + 1, by omega, by omega, by go_num, rfl, IX''⟩
    · have : k = xs.length := by omega
      subst this
      have IX' : Aside (hasB xs v = false) := by have := IX.out; simpa [Aside, hasB] using this
      clear IX
      go_wp2
      go_ret
      exact ⟨by rw [IX'.out]; rfl, rfl⟩

theorem s_l04Inverse (w : World) (A : Option Addr) (c : Nat) (xs : List Int) (hl : xs.length ≤ 1048576) (hin : ∀ k, k < xs.length → 0 ≤ el xs k ∧ el xs k < xs.length) (hR : RdI w A xs) :
    Calls Try.prog 80 #[.slice A xs.length c] w (RetI w 2 (invTo xs xs.length)) := by
  have hmk := makeInt xs.length (by omega)
  go_enter Try.func80, Try.ntmps80
  go_wp2
  clear hmk
  go_loopg [4] xs.length (fun gg s wr => ∃ k : Nat, k ≤ xs.length ∧ xs.length - k ≤ gg ∧ s = .int .i64 k ∧ Aside (Below w.heap.size w wr) ∧
    Aside (Own wr w.heap.size (w.heap.size + 1) 2 1 (.slice (some ⟨w.heap.size, 0, none⟩) xs.length xs.length) xs.length (ints (invTo xs k))))
  case atStart => exact ⟨0, Nat.zero_le _, by omega, rfl, ballocw w _, by unfold Aside; simpa [ints_replicate, invTo] using own_made w 2 (.int .i64 0) xs.length (by omega)⟩
  case round =>
    obtain ⟨k, hk, hg, rfl, BW, OW⟩ := hrel
    by_cases hlt : k < xs.length
    · obtain ⟨b, off, rfl, hc⟩ := (hR.below BW.out).get hlt
      obtain ⟨h1, h2⟩ := hin k hlt
      obtain ⟨m, hm⟩ := Int.eq_ofNat_of_zero_le h1
      rw [hm] at hc h2
      have hm' : m < xs.length := by omega
      obtain ⟨A', c', e', _, _, hs⟩ := OW.out.shape
      obtain ⟨rfl, rfl⟩ : A' = some ⟨w.heap.size, 0, none⟩ ∧ c' = xs.length := by cases e'; exact ⟨rfl, rfl⟩
      rcases hs with ⟨h0, _⟩ | ⟨g, hg', _, _, hcells, hfr⟩
      · cases h0
      obtain rfl : g = w.heap.size := by cases hg'; rfl
      have hck := hcells m _ (ints_get (by rw [invTo_length]; omega))
      have hfk := hfr m
      have OW' : Aside (Own (wr.setCell ⟨w.heap.size, m, none⟩ (.int .i64 (k : Nat))) w.heap.size (w.heap.size + 1) 2 1 (.slice (some ⟨w.heap.size, 0, none⟩) xs.length xs.length) xs.length (ints (invTo xs (k + 1)))) := by
        have := OW.out.set m (.int .i64 (k : Nat)); rw [ints_set] at this; show Own _ _ _ _ _ _ _ _; simp only [invTo, hm, Int.toNat_natCast]; exact this
      have BW' : Aside (Below w.heap.size w (wr.setCell ⟨w.heap.size, m, none⟩ (.int .i64 (k : Nat)))) := bset BW.out (Nat.le_refl _) _
      clear e' hg' hcells hfr OW BW hR hin h1 h2 hm
      go_wp2
      go_roundg (xs.length - (k + 1))
      case measure => omega
      case rel => exact ⟨k + 1, by omega, by omega, by go_num, BW', OW'⟩
    · have : k = xs.length := by omega
      subst this
      have hlt := (OW.out.1.lt w.heap.size rfl).2
      go_wp2
      go_ret
      refine ⟨_, rfl, ?_, BW.out⟩
      unfold OwnI; rw [invTo_length]
      exact Own.wide OW.out (Nat.le_refl _) hlt
theorem infoGoInt : (Try.prog.info? 3).map (fun i => (i.zero, i.size, i.bytes)) = some (some (.int .i64 0), 1, 8) := by kernel_rfl
/-- Where each number below n stands. -/
def m_places (xs : List Int) (n : Nat) : List Int × Bool := if decide (xs.length = n) && ordB xs n then (inv xs, true) else ([], false)
theorem places_step {xs : List Int} {k : Nat} (hk : k < xs.length) : ((inv xs).take k ++ List.replicate (xs.length - k) 0).set k (fst xs k) = (inv xs).take (k + 1) ++ List.replicate (xs.length - (k + 1)) 0 := by
  have hk' : k < (inv xs).length := by rw [inv_length]; exact hk
  have e : fst xs k = el (inv xs) k := by unfold inv; rw [el_range _ hk]
  rw [e, ← inv_length xs]
  obtain ⟨m, hm⟩ : ∃ m, (inv xs).length - k = m + 1 := ⟨(inv xs).length - k - 1, by omega⟩
  rw [el_take hk', hm, show (inv xs).length - (k + 1) = m from by omega, List.replicate_succ, List.set_append_right _ _ (by simp; omega)]
  simp [show min k (inv xs).length = k from by omega]
/-- What a call leaves that returns new numbers of Go's int, and a bool. -/
def RetGB (w : World) (r : List Int × Bool) (en : Ending) (w' : World) : Prop := ∃ v, en = .returned (.tuple #[v, .bool r.2]) ∧ OwnI w' w.heap.size w'.heap.size 3 v r.1 ∧ Below w.heap.size w w'
end Go.Proofs.Ytmpdaafkphpnoaa
