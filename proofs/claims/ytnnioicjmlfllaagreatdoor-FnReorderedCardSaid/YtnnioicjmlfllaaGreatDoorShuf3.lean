import Derived.Test.YtnnioicjmlfllaaGreatDoorShuf
import Derived.Test.YtnnioicjmlfllaaGreatDoorLawO
import Derived.Test.YtnnioicjmlfllaaGreatDoorPerm
set_option linter.unusedVariables false
set_option linter.unusedSimpArgs false
namespace Go.Proofs.YtnnioicjmlfllaaGreatDoor
open Go.RowKit

def orderB (xs : List Int) : Bool := shufB xs && ordB xs xs.length
theorem ordB_step {xs : List Int} {n : Nat} : ordB xs (n + 1) = (ordB xs n && hasB xs n) := by unfold ordB; rw [List.range_succ, List.all_append]; simp
theorem ordB_mono {xs : List Int} {k n : Nat} (h : ordB xs k = false) (hk : k ≤ n) : ordB xs n = false := by
  cases hq : ordB xs n with
  | false => rfl
  | true => rw [ordB_iff] at hq; rw [← Bool.not_eq_true, ordB_iff] at h; exact absurd (fun j hj => hq j (by omega)) h
theorem g_Index (w : World) (A : Option Addr) (c : Nat) (xs : List Int) (v : Int) (hl : xs.length ≤ 9223372036854775807) (hR : RdI w A xs) :
    Calls Tryz.prog 97 #[.slice A xs.length c, .int .i64 v] w fun e w' => e = .returned (.int .i64 (fst xs v)) ∧ w = w' := by
  go_enter Tryz.func97, Tryz.ntmps97
  go_wp2
  go_loopg [5, 8] xs.length (fun gg _ s8 wr => ∃ k : Nat, k ≤ xs.length ∧ xs.length - k ≤ gg ∧ s8 = .int .i64 k ∧ Aside (w = wr) ∧ Aside (fst xs v = idxN (fun k => v == el xs k) xs.length (xs.length - k)))
  case atStart => exact ⟨0, Nat.zero_le _, by omega, rfl, rfl, rfl⟩
  case round =>
    obtain ⟨k, hk, hg, rfl, BW, IX⟩ := hrel
    obtain rfl := BW.out
    by_cases hlt : k < xs.length
    · obtain ⟨b, off, rfl, hc⟩ := hR.get hlt
      have hltz : (k : Int) < (xs.length : Int) := by omega
      have IX' : Aside (fst xs v = if (v == el xs k) then (k : Int) else idxN (fun k => v == el xs k) xs.length (xs.length - (k + 1))) := by
        have := IX.out; rw [idxN_step hlt] at this; exact this
      clear IX hR
      cases hq : (v == el xs k) with
      | true =>
        have IX'' : Aside (fst xs v = k) := by have := IX'.out; rw [hq] at this; exact this
        clear IX'
        go_wp2
        go_ret
        exact ⟨by rw [IX''.out]; rfl, rfl⟩
      | false =>
        have IX'' : Aside (fst xs v = idxN (fun k => v == el xs k) xs.length (xs.length - (k + 1))) := by have := IX'.out; rw [hq] at this; exact this
        clear IX'
        go_wp2
        go_roundg (xs.length - (k + 1))
        case measure => omega
        case rel => exact ⟨k + 1, by omega, by omega, by go_num, rfl, IX''⟩
    · have hltz : ¬ (k : Int) < (xs.length : Int) := by omega
      have : k = xs.length := by omega
      subst this
      have IX' : Aside (fst xs v = -1) := by have := IX.out; rw [Nat.sub_self] at this; exact this
      clear IX
      go_wp2
      go_ret
      exact ⟨by rw [IX'.out]; rfl, rfl⟩
theorem s_l00Has (w : World) (A : Option Addr) (c : Nat) (xs : List Int) (v : Int) (hl : xs.length ≤ 9223372036854775807) (hR : RdI w A xs) :
    Calls Tryz.prog 34 #[.slice A xs.length c, .int .i64 v] w fun e w' => e = .returned (.bool (hasB xs v)) ∧ w = w' := by
  go_enter Tryz.func34, Tryz.ntmps34
  go_wp2
  go_loopg [5] xs.length (fun gg s wr => ∃ k : Nat, k ≤ xs.length ∧ xs.length - k ≤ gg ∧ s = .int .i64 k ∧ Aside (w = wr) ∧ Aside (hasB xs v = hasB (xs.drop k) v))
  case atStart => exact ⟨0, Nat.zero_le _, by omega, rfl, rfl, rfl⟩
  case round =>
    obtain ⟨k, hk, hg, rfl, BW, IX⟩ := hrel
    obtain rfl := BW.out
    by_cases hlt : k < xs.length
    · obtain ⟨b, off, rfl, hc⟩ := hR.get hlt
      have hq' : Aside (hasB xs v = (el xs k == v || hasB (xs.drop (k + 1)) v)) := by have := IX.out; rw [el_drop hlt] at this; exact this
      clear IX hR
      cases hq : (el xs k == v) with
      | true =>
        have IX'' : Aside (hasB xs v = true) := by have := hq'.out; rw [hq] at this; exact this
        clear hq'
        go_wp2
        go_ret
        exact ⟨by rw [IX''.out]; rfl, rfl⟩
      | false =>
        have IX'' : Aside (hasB xs v = hasB (xs.drop (k + 1)) v) := by have := hq'.out; rw [hq] at this; exact this
        clear hq'
        go_wp2
        go_roundg (xs.length - (k + 1))
        case measure => omega
        case rel => exact ⟨k + 1, by omega, by omega, by go_num, rfl, IX''⟩
    · have : k = xs.length := by omega
      subst this
      have IX' : Aside (hasB xs v = false) := by have := IX.out; simpa [Aside, hasB] using this
      clear IX
      go_wp2
      go_ret
      exact ⟨by rw [IX'.out]; rfl, rfl⟩

theorem infoGoInt : (Tryz.prog.info? 3).map (fun i => (i.zero, i.size, i.bytes)) = some (some (.int .i64 0), 1, 8) := by kernel_rfl
theorem makeGoInt (n : Nat) (hn : n ≤ 35184372088832) (W : World) : (Instr.makeSlice 86 (.int .i64 (n : Int)) (.int .i64 (n : Int))).run Tryz.prog W = .ok (.slice (some ⟨W.heap.size, 0, none⟩) n n) (W.alloc (.cells (madeCells #[.int .i64 0] n) 3)) :=
  run_make_row' 86 3 (.int .i64 0) 8 Tryz.underlying86 infoGoInt rfl .i64 .i64 n (by omega) (by omega) W
/-- Where each number below n stands. -/
def m_places (xs : List Int) (n : Nat) : List Int × Bool := if decide (xs.length = n) && ordB xs n then (inv xs, true) else ([], false)
theorem places_step {xs : List Int} {k : Nat} (hk : k < xs.length) : ((inv xs).take k ++ List.replicate (xs.length - k) 0).set k (fst xs k) = (inv xs).take (k + 1) ++ List.replicate (xs.length - (k + 1)) 0 := by
  have hk' : k < (inv xs).length := by rw [inv_length]; exact hk
  have e : fst xs k = el (inv xs) k := by unfold inv; rw [el_range _ hk]
  rw [e, ← inv_length xs]
  obtain ⟨m, hm⟩ : ∃ m, (inv xs).length - k = m + 1 := ⟨(inv xs).length - k - 1, by omega⟩
  rw [el_take hk', hm, show (inv xs).length - (k + 1) = m from by omega, List.replicate_succ, List.set_append_right _ _ (by simp; omega)]
  simp [show min k (inv xs).length = k from by omega]
/-- What a call leaves that returns new numbers of Go's int, and a bool. -/
def RetGB (w : World) (r : List Int × Bool) (en : Ending) (w' : World) : Prop := ∃ v, en = .returned (.tuple #[v, .bool r.2]) ∧ OwnI w' w.heap.size w'.heap.size 3 v r.1 ∧ Below w.heap.size w w'
theorem i_places (w : World) (A : Option Addr) (c : Nat) (xs : List Int) (n : Nat) (hl : xs.length ≤ 1048576) (hn : n ≤ 9223372036854775807) (hR : RdI w A xs) :
    Calls Tryz.prog 45 #[.slice A xs.length c, .int .i64 (n : Nat)] w (RetGB w (m_places xs n)) := by
  by_cases hlen : xs.length = n
  · subst hlen
    have HP := hid (show m_places xs xs.length = if ordB xs xs.length then (inv xs, true) else ([], false) from by simp [m_places])
    generalize m_places xs xs.length = res at HP ⊢
    have hx := fun (W : World) (hW : Below w.heap.size w W) (v : Int) => g_Index W A c xs v (by omega) (hR.below hW)
    have hmk := makeGoInt xs.length (by omega)
    clear hR
    go_enter Tryz.func45, Tryz.ntmps45
    go_wp2
    clear hmk
    go_loopg [7, 16] xs.length (fun gg _ s wr => ∃ k : Nat, k ≤ xs.length ∧ xs.length - k ≤ gg ∧ s = .int .i64 k ∧ Aside (Below w.heap.size w wr) ∧ Aside (ordB xs k = true) ∧
      Aside (Own wr w.heap.size (w.heap.size + 1) 3 1 (.slice (some ⟨w.heap.size, 0, none⟩) xs.length xs.length) xs.length (ints ((inv xs).take k ++ List.replicate (xs.length - k) 0))))
    case atStart => exact ⟨0, Nat.zero_le _, by omega, rfl, ballocw w _, rfl, by unfold Aside; simpa [ints_replicate] using own_made w 3 (.int .i64 0) xs.length (by omega)⟩
    case round =>
      obtain ⟨k, hk, hg, rfl, BW, OR, OW⟩ := hrel
      by_cases hlt : k < xs.length
      · have hix := hx wr BW.out k
        clear hx
        obtain ⟨A', c', e', _, _, hs⟩ := OW.out.shape
        obtain ⟨rfl, rfl⟩ : A' = some ⟨w.heap.size, 0, none⟩ ∧ c' = xs.length := by cases e'; exact ⟨rfl, rfl⟩
        rcases hs with ⟨h0, _⟩ | ⟨g', hg', _, _, hcells, hfr⟩
        · cases h0
        obtain rfl : g' = w.heap.size := by cases hg'; rfl
        have hck := hcells k _ (ints_get (by simp [inv_length]; omega))
        have hfk := hfr k
        have OW' : Aside (Own (wr.setCell ⟨w.heap.size, k, none⟩ (.int .i64 (fst xs k))) w.heap.size (w.heap.size + 1) 3 1 (.slice (some ⟨w.heap.size, 0, none⟩) xs.length xs.length) xs.length (ints ((inv xs).take (k + 1) ++ List.replicate (xs.length - (k + 1)) 0))) := by
          have := OW.out.set k (.int .i64 (fst xs k)); rw [ints_set, places_step hlt] at this; exact this
        have BW' : Aside (Below w.heap.size w (wr.setCell ⟨w.heap.size, k, none⟩ (.int .i64 (fst xs k)))) := bset BW.out (Nat.le_refl _) _
        have hset : (wr.setCell ⟨w.heap.size, k, none⟩ (.int .i64 (fst xs k))).cell? ⟨w.heap.size, k, none⟩ = some (.int .i64 (fst xs k)) := World.cell?_setCell_same _ _ _ hck
        have hor : ordB xs (k + 1) = (ordB xs k && hasB xs k) := ordB_step
        rw [OR.out, Bool.true_and] at hor
        have hn' := @fst_neg xs k
        clear e' hg' hcells hfr OW BW
        by_cases hq : fst xs k < 0
        · have OR' : Aside (ordB xs xs.length = false) := by
            refine ordB_mono (k := k + 1) ?_ (by omega)
            rw [hor, ← Bool.not_eq_true, hasB_iff]; exact hn'.1 hq
          clear hor hn' OR
          go_wp2_with fail
          refine hix.mono ?_
          rintro e w2 ⟨rfl, rfl⟩
          go_wp2_with fail
          go_ret2
          exact ⟨_, by rw [HP.out, OR'.out]; rfl, by rw [HP.out, OR'.out]; exact Own.nil _ _ _ _ _, BW'.out⟩
        · have OR' : Aside (ordB xs (k + 1) = true) := by
            show _ = _
            rw [hor]; apply Classical.byContradiction; intro hh; rw [hasB_iff] at hh; exact hq (hn'.2 hh)
          clear hor hn' OR
          go_wp2_with fail
          refine hix.mono ?_
          rintro e w2 ⟨rfl, rfl⟩
          go_wp2_with fail
          go_roundg (xs.length - (k + 1))
          case measure => omega
          case rel => exact ⟨k + 1, by omega, by omega, by go_num, BW', OR', OW'⟩
      · have : k = xs.length := by omega
        subst this
        have hlt := (OW.out.1.lt w.heap.size rfl).2
        go_wp2_with fail
        go_ret2
        refine ⟨_, by rw [HP.out, OR.out]; rfl, ?_, BW.out⟩
        have := OW.out
        simp only [Nat.sub_self, List.replicate_zero, List.append_nil] at this
        rw [List.take_of_length_le (by rw [inv_length]; exact Nat.le_refl _)] at this
        rw [HP.out, OR.out]
        simp only [if_true]
        unfold OwnI
        rw [inv_length]
        exact Own.wide this (Nat.le_refl _) hlt
  · have HP := hid (show m_places xs n = ([], false) from by simp [m_places, hlen])
    have hne : ((xs.length : Int) != (n : Int)) = true := by simp; omega
    clear hlen
    go_enter Tryz.func45, Tryz.ntmps45
    go_wp2_with fail
    go_ret2
    exact ⟨_, by rw [HP.out]; rfl, by rw [HP.out]; exact Own.nil _ _ _ _ _, Below.refl _ _⟩
end Go.Proofs.YtnnioicjmlfllaaGreatDoor
