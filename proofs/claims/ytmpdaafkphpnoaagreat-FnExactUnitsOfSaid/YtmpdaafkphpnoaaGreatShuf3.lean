import Derived.Test.YtmpdaafkphpnoaaGreatShuf
import Derived.Test.YtmpdaafkphpnoaaGreatLawO
import Derived.Test.YtmpdaafkphpnoaaGreatPerm
set_option linter.unusedVariables false
set_option linter.unusedSimpArgs false
namespace Go.Proofs.YtmpdaafkphpnoaaGreat
open Go.RowKit

def orderB (xs : List Int) : Bool := shufB xs && ordB xs xs.length
theorem ordB_step {xs : List Int} {n : Nat} : ordB xs (n + 1) = (ordB xs n && hasB xs n) := by unfold ordB; rw [List.range_succ, List.all_append]; simp
theorem ordB_mono {xs : List Int} {k n : Nat} (h : ordB xs k = false) (hk : k ≤ n) : ordB xs n = false := by
  cases hq : ordB xs n with
  | false => rfl
  | true => rw [ordB_iff] at hq; rw [← Bool.not_eq_true, ordB_iff] at h; exact absurd (fun j hj => hq j (by omega)) h
theorem g_Index (w : World) (A : Option Addr) (c : Nat) (xs : List Int) (v : Int) (hl : xs.length ≤ 9223372036854775807) (hR : RdI w A xs) :
    Calls Tryz.prog 193 #[.slice A xs.length c, .int .i64 v] w fun e w' => e = .returned (.int .i64 (fst xs v)) ∧ w = w' := by
  go_enter Tryz.func193, Tryz.ntmps193
  go_wp2
  go_loopg [5, 8] xs.length (fun gg _ s8 wr => ∃ k : Nat, k ≤ xs.length ∧ xs.length - k ≤ gg ∧ s8 = .int .i64 k ∧ Aside (w = wr) ∧ Aside (fst xs v = idxN (fun k => v == el xs k) xs.length (xs.length - k)))
  case atStart => exact ⟨0, Nat.zero_le _, by omega, rfl, rfl, rfl⟩
  case round =>
    obtain ⟨k, hk, hg, rfl, BW, IX⟩ := hrel
    obtain rfl := BW.out
    by_cases hlt : k < xs.length
    · obtain ⟨b, off, rfl, hc⟩ := hR.get hlt
      have hltz : (k : Int) < (xs.length : Int) := by omega
      have IX' : Aside (fst xs v = if (v == el xs k) then (k : Int) else idxN (fun k => v == el xs k) xs.length (xs.length - (k + 1))) := by
        have := IX.out; rw [idxN_step hlt] at this; exact this
      clear IX hR
      cases hq : (v == el xs k) with
      | true =>
        have IX'' : Aside (fst xs v = k) := by have := IX'.out; rw [hq] at this; exact this
        clear IX'
        go_wp2
        go_ret
        exact ⟨by rw [IX''.out]; rfl, rfl⟩
      | false =>
        have IX'' : Aside (fst xs v = idxN (fun k => v == el xs k) xs.length (xs.length - (k + 1))) := by have := IX'.out; rw [hq] at this; exact this
        clear IX'
        go_wp2
        go_roundg (xs.length - (k + 1))
        case measure => omega
        case rel => exact ⟨k + 1, by omega, by omega, by go_num, rfl, IX''⟩
    · have hltz : ¬ (k : Int) < (xs.length : Int) := by omega
      have : k = xs.length := by omega
      subst this
      have IX' : Aside (fst xs v = -1) := by have := IX.out; rw [Nat.sub_self] at this; exact this
      clear IX
      go_wp2
      go_ret
      exact ⟨by rw [IX'.out]; rfl, rfl⟩
theorem s_l00Has (w : World) (A : Option Addr) (c : Nat) (xs : List Int) (v : Int) (hl : xs.length ≤ 9223372036854775807) (hR : RdI w A xs) :
    Calls Tryz.prog 125 #[.slice A xs.length c, .int .i64 v] w fun e w' => e = .returned (.bool (hasB xs v)) ∧ w = w' := by
  go_enter Tryz.func125, Tryz.ntmps125
  go_wp2
  go_loopg [5] xs.length (fun gg s wr => ∃ k : Nat, k ≤ xs.length ∧ xs.length - k ≤ gg ∧ s = .int .i64 k ∧ Aside (w = wr) ∧ Aside (hasB xs v = hasB (xs.drop k) v))
  case atStart => exact ⟨0, Nat.zero_le _, by omega, rfl, rfl, rfl⟩
  case round =>
    obtain ⟨k, hk, hg, rfl, BW, IX⟩ := hrel
    obtain rfl := BW.out
    by_cases hlt : k < xs.length
    · obtain ⟨b, off, rfl, hc⟩ := hR.get hlt
      have hq' : Aside (hasB xs v = (el xs k == v || hasB (xs.drop (k + 1)) v)) := by have := IX.out; rw [el_drop hlt] at this; exact this
      clear IX hR
      cases hq : (el xs k == v) with
      | true =>
        have IX'' : Aside (hasB xs v = true) := by have := hq'.out; rw [hq] at this; exact this
        clear hq'
        go_wp2
        go_ret
        exact ⟨by rw [IX''.out]; rfl, rfl⟩
      | false =>
        have IX'' : Aside (hasB xs v = hasB (xs.drop (k + 1)) v) := by have := hq'.out; rw [hq] at this; exact this
        clear hq'
        go_wp2
        go_roundg (xs.length - (k + 1))
        case measure => omega
        case rel => exact ⟨k + 1, by omega, by omega, by go_num, rfl, IX''⟩
    · have : k = xs.length := by omega
      subst this
      have IX' : Aside (hasB xs v = false) := by have := IX.out; simpa [Aside, hasB] using this
      clear IX
      go_wp2
      go_ret
      exact ⟨by rw [IX'.out]; rfl, rfl⟩

theorem infoGoInt : (Tryz.prog.info? 3).map (fun i => (i.zero, i.size, i.bytes)) = some (some (.int .i64 0), 1, 8) := by kernel_rfl
theorem makeGoInt (n : Nat) (hn : n ≤ 35184372088832) (W : World) : (Instr.makeSlice 145 (.int .i64 (n : Int)) (.int .i64 (n : Int))).run Tryz.prog W = .ok (.slice (some ⟨W.heap.size, 0, none⟩) n n) (W.alloc (.cells (madeCells #[.int .i64 0] n) 3)) :=
  run_make_row' 145 3 (.int .i64 0) 8 Tryz.underlying145 infoGoInt rfl .i64 .i64 n (by omega) (by omega) W
/-- Where each number below n stands. -/
def m_places (xs : List Int) (n : Nat) : List Int × Bool := if decide (xs.length = n) && ordB xs n then (inv xs, true) else ([], false)
theorem places_step {xs : List Int} {k : Nat} (hk : k < xs.length) : ((inv xs).take k ++ List.replicate (xs.length - k) 0).set k (fst xs k) = (inv xs).take (k + 1) ++ List.replicate (xs.length - (k + 1)) 0 := by
  have hk' : k < (inv xs).length := by rw [inv_length]; exact hk
  have e : fst xs k = el (inv xs) k := by unfold inv; rw [el_range _ hk]
  rw [e, ← inv_length xs]
  obtain ⟨m, hm⟩ : ∃ m, (inv xs).length - k = m + 1 := ⟨(inv xs).length - k - 1, by omega⟩
  rw [el_take hk', hm, show (inv xs).length - (k + 1) = m from by omega, List.replicate_succ, List.set_append_right _ _ (by simp; omega)]
  simp [show min k (inv xs).length = k from by omega]
/-- What a call leaves that returns new numbers of Go's int, and a bool. -/
def RetGB (w : World) (r : List Int × Bool) (en : Ending) (w' : World) : Prop := ∃ v, en = .returned (.tuple #[v, .bool r.2]) ∧ OwnI w' w.heap.size w'.heap.size 3 v r.1 ∧ Below w.heap.size w w'
end Go.Proofs.YtmpdaafkphpnoaaGreat
