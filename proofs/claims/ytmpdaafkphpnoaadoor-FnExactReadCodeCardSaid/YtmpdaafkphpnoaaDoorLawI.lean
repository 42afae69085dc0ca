import Derived.Test.YtmpdaafkphpnoaaDoorBase
set_option linter.unusedVariables false
set_option linter.unusedSimpArgs false
namespace Go.Proofs.YtmpdaafkphpnoaaDoor
open Go.RowKit

theorem infoInt : (Tryd.prog.info? 2).map (fun i => (i.zero, i.size, i.bytes)) = some (some (.int .i64 0), 1, 8) := by kernel_rfl
theorem makeInt (n : Nat) (hn : n ≤ 35184372088832) (W : World) : (Instr.makeSlice 45 (.int .i64 (n : Int)) (.int .i64 (n : Int))).run Tryd.prog W = .ok (.slice (some ⟨W.heap.size, 0, none⟩) n n) (W.alloc (.cells (madeCells #[.int .i64 0] n) 2)) :=
  run_make_row' 45 2 (.int .i64 0) 8 Tryd.underlying45 infoInt rfl .i64 .i64 n (by omega) (by omega) W
/-- What a call leaves that returns new numbers. -/
def RetI (w : World) (e : TypeId) (xs : List Int) (en : Ending) (w' : World) : Prop := ∃ v, en = .returned v ∧ OwnI w' w.heap.size w'.heap.size e v xs ∧ Below w.heap.size w w'

theorem copy_step {xs : List Int} {k : Nat} (h : k < xs.length) :
    (xs.take k ++ List.replicate (xs.length - k) 0).set k (el xs k) = xs.take (k + 1) ++ List.replicate (xs.length - (k + 1)) 0 := by
  obtain ⟨m, hm⟩ : ∃ m, xs.length - k = m + 1 := ⟨xs.length - k - 1, by omega⟩
  rw [el_take h, hm, show xs.length - (k + 1) = m from by omega, List.replicate_succ, List.set_append_right _ _ (by simp; omega)]
  simp [show min k xs.length = k from by omega]
theorem l_toInt64S (w : World) (A : Option Addr) (c : Nat) (xs : List Int) (hl : xs.length ≤ 35184372088832) (hR : RdI w A xs) :
    Calls Tryd.prog 41 #[.slice A xs.length c] w (RetI w 2 xs) := by
  have hmk := makeInt xs.length hl
  go_enter Tryd.func41, Tryd.ntmps41
  go_wp2
  clear hmk
  go_loopg [4] xs.length (fun gg s wr => ∃ k : Nat, k ≤ xs.length ∧ xs.length - k ≤ gg ∧ s = .int .i64 k ∧ Aside (Below w.heap.size w wr) ∧
    Aside (Own wr w.heap.size (w.heap.size + 1) 2 1 (.slice (some ⟨w.heap.size, 0, none⟩) xs.length xs.length) xs.length (ints (xs.take k ++ List.replicate (xs.length - k) 0))))
  case atStart => exact ⟨0, Nat.zero_le _, by omega, rfl, ballocw w _, by unfold Aside; simpa [ints_replicate] using own_made w 2 (.int .i64 0) xs.length (by omega)⟩
  case round =>
    obtain ⟨k, hk, hg, rfl, BW, OW⟩ := hrel
    by_cases hlt : k < xs.length
    · obtain ⟨b, off, rfl, hc⟩ := hR.below BW.out k hlt
      obtain ⟨A', c', e', _, _, hs⟩ := OW.out.shape
      obtain ⟨rfl, rfl⟩ : A' = some ⟨w.heap.size, 0, none⟩ ∧ c' = xs.length := by cases e'; exact ⟨rfl, rfl⟩
      rcases hs with ⟨h0, _⟩ | ⟨g, hg', _, _, hcells, hfr⟩
      · cases h0
      obtain rfl : g = w.heap.size := by cases hg'; rfl
      have hck := hcells k _ (ints_get (by simp; omega))
      have hfk := hfr k
      have OW' : Aside (Own (wr.setCell ⟨w.heap.size, k, none⟩ (.int .i64 (el xs k))) w.heap.size (w.heap.size + 1) 2 1 (.slice (some ⟨w.heap.size, 0, none⟩) xs.length xs.length) xs.length (ints (xs.take (k + 1) ++ List.replicate (xs.length - (k + 1)) 0))) := by
        have := OW.out.set k (.int .i64 (el xs k)); rw [ints_set, copy_step hlt] at this; exact this
      have BW' : Aside (Below w.heap.size w (wr.setCell ⟨w.heap.size, k, none⟩ (.int .i64 (el xs k)))) := bset BW.out (Nat.le_refl _) _
      clear e' hg' hcells hfr OW BW hR
      go_wp2
      go_roundg (xs.length - (k + 1))
      case measure => omega
      case rel => exact ⟨k + 1, by omega, by omega, by go_num, BW', OW'⟩
    · have : k = xs.length := by omega
      subst this
      go_wp2
      go_ret
      refine ⟨_, rfl, ?_, BW.out⟩
      have hlt := BW.out.size
      have := OW.out
      simp only [List.take_length, Nat.sub_self, List.replicate_zero, List.append_nil] at this
      exact Own.wide this (Nat.le_refl _) ((this.1.lt w.heap.size rfl).2)

theorem l_eqInt64S (w : World) (A B : Option Addr) (c d : Nat) (xs ys : List Int) (hl : xs.length ≤ 9223372036854775807) (hl' : ys.length ≤ 9223372036854775807) (hA : RdI w A xs) (hB : RdI w B ys) :
    Calls Tryd.prog 50 #[.slice A xs.length c, .slice B ys.length d] w fun e w' => e = .returned (.bool (decide (xs = ys))) ∧ Below w.heap.size w w' := by
  by_cases hlen : xs.length = ys.length
  · have hne : ((xs.length : Int) != (ys.length : Int)) = false := by simp [hlen]
    have HL := hid hlen
    clear hlen
    go_enter Tryd.func50, Tryd.ntmps50
    go_wp2
    go_loopg [5] xs.length (fun gg s wr => ∃ k : Nat, k ≤ xs.length ∧ xs.length - k ≤ gg ∧ s = .int .i64 k ∧ Aside (Below w.heap.size w wr) ∧ Aside (∀ j, j < k → el xs j = el ys j))
    case atStart => exact ⟨0, Nat.zero_le _, by omega, rfl, Below.refl _ _, fun j hj => absurd hj (Nat.not_lt_zero _)⟩
    case round =>
      obtain ⟨k, hk, hg, rfl, BW, EQ⟩ := hrel
      by_cases hlt : k < xs.length
      · obtain ⟨b, off, rfl, hc⟩ := hA.below BW.out k hlt
        obtain ⟨b', off', rfl, hc'⟩ := hB.below BW.out k (by have := HL.out; omega)
        have hlt' : (k : Int) < (ys.length : Int) := by have := HL.out; omega
        by_cases hx : el xs k = el ys k
        · have hb : (el xs k != el ys k) = false := by simp [hx]
          have HX := hid hx
          clear hx hA hB
          go_wp2
          go_quiet (fail)
          go_wp2
          go_roundg (xs.length - (k + 1))
          case measure => omega
          case rel =>
            refine ⟨k + 1, by omega, by omega, by go_num, bdrewN BW.out _, (show Aside _ from fun j hj => ?_)⟩
            by_cases e : j = k
            · subst e; exact HX.out
            · exact EQ.out j (by omega)
        · have hb : (el xs k != el ys k) = true := by simp [hx]
          have hne' : decide (xs = ys) = false := by simp; rintro rfl; exact hx rfl
          have HN := hid hne'
          clear hx hA hB hne'
          go_wp2
          go_quiet (fail)
          go_wp2
          go_ret
          exact ⟨by rw [HN.out]; rfl, bdrewN BW.out _⟩
      · have : k = xs.length := by omega
        subst this
        have he : xs = ys := el_ext HL.out (fun k hk => EQ.out k hk)
        have HE : Aside (decide (xs = ys) = true) := by simp [Aside, he]
        clear he
        go_wp2
        go_ret
        exact ⟨by rw [HE.out]; rfl, BW.out⟩
  · have hne : ((xs.length : Int) != (ys.length : Int)) = true := by simp; omega
    have hn : decide (xs = ys) = false := by simp; rintro rfl; exact hlen rfl
    have HN := hid hn
    clear hn hlen
    go_enter Tryd.func50, Tryd.ntmps50
    go_wp2
    go_ret
    exact ⟨by rw [HN.out]; rfl, Below.refl _ _⟩

/-- The numbers k, k + 1 .. -/
def marks (k : Int) (n : Nat) : List Int := (List.range n).map fun i => k + (i : Nat)
theorem marks_length (k : Int) (n : Nat) : (marks k n).length = n := by simp [marks]
theorem marks_succ (k : Int) (n : Nat) : marks k (n + 1) = marks k n ++ [k + n] := by simp [marks, List.range_succ]
theorem el_marks {k : Int} {n j : Nat} (h : j < n) : el (marks k n) j = k + j := by
  have := el_get (xs := marks k n) (k := j) (by simpa [marks] using h); simp [marks, h] at this; exact this.symm
theorem mark_step {xs : List Int} {k : Nat} (m : Int) (h : k < xs.length) : (marks m k ++ xs.drop k).set k (m + k) = marks m (k + 1) ++ xs.drop (k + 1) := by
  rw [el_drop h, marks_succ, List.set_append_right _ _ (by simp [marks_length])]
  simp [marks_length]
/-- What a call leaves that writes numbers into a row that came in, and counts. -/
def Marked (w : World) (lo hi : Nat) (e : TypeId) (v : Value) (n : Nat) (m : Int) (en : Ending) (w' : World) : Prop :=
  en = .returned (.int .i64 (m + n)) ∧ OwnI w' lo hi e v (marks m n) ∧ Chg lo hi w w'
def held : List Int → Int → Int
  | [], k => k
  | x :: xs, k => if x = k then held xs (k + 1) else -1
theorem held_marks (k : Int) (n : Nat) : ∀ m, held (marks (k + m) n) (k + m) = k + m + n := by
  induction n with
  | zero => intro m; simp [marks, held]
  | succ n ih =>
    intro m
    have e : marks (k + m) (n + 1) = (k + m) :: marks (k + (m + 1)) n := by
      simp only [marks, List.range_succ_eq_map, List.map_cons, List.map_map]
      congr 1
      · simp
      · apply List.map_congr_left; intro i _; simp; omega
    rw [e]; simp only [held, if_pos]; rw [show k + m + 1 = k + (m + 1) from by omega, ih (m + 1)]; omega
end Go.Proofs.YtmpdaafkphpnoaaDoor
