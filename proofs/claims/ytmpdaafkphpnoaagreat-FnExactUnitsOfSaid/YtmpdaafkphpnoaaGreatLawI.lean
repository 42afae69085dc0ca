import Derived.Test.YtmpdaafkphpnoaaGreatBase
set_option linter.unusedVariables false
set_option linter.unusedSimpArgs false
namespace Go.Proofs.YtmpdaafkphpnoaaGreat
open Go.RowKit

theorem infoInt : (Tryz.prog.info? 2).map (fun i => (i.zero, i.size, i.bytes)) = some (some (.int .i64 0), 1, 8) := by kernel_rfl
theorem makeInt (n : Nat) (hn : n ≤ 35184372088832) (W : World) : (Instr.makeSlice 28 (.int .i64 (n : Int)) (.int .i64 (n : Int))).run Tryz.prog W = .ok (.slice (some ⟨W.heap.size, 0, none⟩) n n) (W.alloc (.cells (madeCells #[.int .i64 0] n) 2)) :=
  run_make_row' 28 2 (.int .i64 0) 8 Tryz.underlying28 infoInt rfl .i64 .i64 n (by omega) (by omega) W
/-- What a call leaves that returns new numbers. -/
def RetI (w : World) (e : TypeId) (xs : List Int) (en : Ending) (w' : World) : Prop := ∃ v, en = .returned v ∧ OwnI w' w.heap.size w'.heap.size e v xs ∧ Below w.heap.size w w'

theorem copy_step {xs : List Int} {k : Nat} (h : k < xs.length) :
    (xs.take k ++ List.replicate (xs.length - k) 0).set k (el xs k) = xs.take (k + 1) ++ List.replicate (xs.length - (k + 1)) 0 := by
  obtain ⟨m, hm⟩ : ∃ m, xs.length - k = m + 1 := ⟨xs.length - k - 1, by omega⟩
  rw [el_take h, hm, show xs.length - (k + 1) = m from by omega, List.replicate_succ, List.set_append_right _ _ (by simp; omega)]
  simp [show min k xs.length = k from by omega]
theorem l_toInt64S (w : World) (A : Option Addr) (c : Nat) (xs : List Int) (hl : xs.length ≤ 35184372088832) (hR : RdI w A xs) :
    Calls Tryz.prog 128 #[.slice A xs.length c] w (RetI w 2 xs) := by
  have hmk := makeInt xs.length hl
  go_enter Tryz.func128, Tryz.ntmps128
  go_wp2
  clear hmk
  go_loopg [4] xs.length (fun gg s wr => ∃ k : Nat, k ≤ xs.length ∧ xs.length - k ≤ gg ∧ s = .int .i64 k ∧ Aside (Below w.heap.size w wr) ∧
    Aside (Own wr w.heap.size (w.heap.size + 1) 2 1 (.slice (some ⟨w.heap.size, 0, none⟩) xs.length xs.length) xs.length (ints (xs.take k ++ List.replicate (xs.length - k) 0))))
  case atStart => exact ⟨0, Nat.zero_le _, by omega, rfl, ballocw w _, by unfold Aside; simpa [ints_replicate] using own_made w 2 (.int .i64 0) xs.length (by omega)⟩
  case round =>
    obtain ⟨k, hk, hg, rfl, BW, OW⟩ := hrel
    by_cases hlt : k < xs.length
    · obtain ⟨b, off, rfl, hc⟩ := hR.below BW.out k hlt
      obtain ⟨A', c', e', _, _, hs⟩ := OW.out.shape
      obtain ⟨rfl, rfl⟩ : A' = some ⟨w.heap.size, 0, none⟩ ∧ c' = xs.length := by cases e'; exact ⟨rfl, rfl⟩
      rcases hs with ⟨h0, _⟩ | ⟨g, hg', _, _, hcells, hfr⟩
      · cases h0
      obtain rfl : g = w.heap.size := by cases hg'; rfl
      have hck := hcells k _ (ints_get (by simp; omega))
      have hfk := hfr k
      have OW' : Aside (Own (wr.setCell ⟨w.heap.size, k, none⟩ (.int .i64 (el xs k))) w.heap.size (w.heap.size + 1) 2 1 (.slice (some ⟨w.heap.size, 0, none⟩) xs.length xs.length) xs.length (ints (xs.take (k + 1) ++ List.replicate (xs.length - (k + 1)) 0))) := by
        have := OW.out.set k (.int .i64 (el xs k)); rw [ints_set, copy_step hlt] at this; exact this
      have BW' : Aside (Below w.heap.size w (wr.setCell ⟨w.heap.size, k, none⟩ (.int .i64 (el xs k)))) := bset BW.out (Nat.le_refl _) _
      clear e' hg' hcells hfr OW BW hR
      go_wp2
      go_roundg (xs.length - (k + 1))
      case measure => omega
      case rel => exact ⟨k + 1, by omega, by omega, by go_num, BW', OW'⟩
    · have : k = xs.length := by omega
      subst this
      go_wp2
      go_ret
      refine ⟨_, rfl, ?_, BW.out⟩
      have hlt := BW.out.size
      have := OW.out
      simp only [List.take_length, Nat.sub_self, List.replicate_zero, List.append_nil] at this
      exact Own.wide this (Nat.le_refl _) ((this.1.lt w.heap.size rfl).2)

theorem l_eqInt64S (w : World) (A B : Option Addr) (c d : Nat) (xs ys : List Int) (hl : xs.length ≤ 9223372036854775807) (hl' : ys.length ≤ 9223372036854775807) (hA : RdI w A xs) (hB : RdI w B ys) :
    Calls Tryz.prog 87 #[.slice A xs.length c, .slice B ys.length d] w fun e w' => e = .returned (.bool (decide (xs = ys))) ∧ Below w.heap.size w w' := by
  by_cases hlen : xs.length = ys.length
  · have hne : ((xs.length : Int) != (ys.length : Int)) = false := by simp [hlen]
    have HL := hid hlen
    clear hlen
    go_enter Tryz.func87, Tryz.ntmps87
    go_wp2
    go_loopg [5] xs.length (fun gg s wr => ∃ k : Nat, k ≤ xs.length ∧ xs.length - k ≤ gg ∧ s = .int .i64 k ∧ Aside (Below w.heap.size w wr) ∧ Aside (∀ j, j < k → el xs j = el ys j))
    case atStart => exact ⟨0, Nat.zero_le _, by omega, rfl, Below.refl _ _, fun j hj => absurd hj (Nat.not_lt_zero _)⟩
    case round =>
      obtain ⟨k, hk, hg, rfl, BW, EQ⟩ := hrel
      by_cases hlt : k < xs.length
      · obtain ⟨b, off, rfl, hc⟩ := hA.below BW.out k hlt
        obtain ⟨b', off', rfl, hc'⟩ := hB.below BW.out k (by have := HL.out; omega)
        have hlt' : (k : Int) < (ys.length : Int) := by have := HL.out; omega
        by_cases hx : el xs k = el ys k
        · have hb : (el xs k != el ys k) = false := by simp [hx]
          have HX := hid hx
          clear hx hA hB
          go_wp2
          go_quiet (fail)
          go_wp2
          go_roundg (xs.length - (k + 1))
          case measure => omega
          case rel =>
            refine ⟨k + 1, by omega, by omega, by go_num, bdrewN BW.out _, (show Aside _ from fun j hj => ?_)⟩
            by_cases e : j = k
            · subst e; exact HX.out
            · exact EQ.out j (by omega)
        · have hb : (el xs k != el ys k) = true := by simp [hx]
          have hne' : decide (xs = ys) = false := by simp; rintro rfl; exact hx rfl
          have HN := hid hne'
          clear hx hA hB hne'
          go_wp2
          go_quiet (fail)
          go_wp2
          go_ret
          exact ⟨by rw [HN.out]; rfl, bdrewN BW.out _⟩
      · have : k = xs.length := by omega
        subst this
        have he : xs = ys := el_ext HL.out (fun k hk => EQ.out k hk)
        have HE : Aside (decide (xs = ys) = true) := by simp [Aside, he]
        clear he
        go_wp2
        go_ret
        exact ⟨by rw [HE.out]; rfl, BW.out⟩
  · have hne : ((xs.length : Int) != (ys.length : Int)) = true := by simp; omega
    have hn : decide (xs = ys) = false := by simp; rintro rfl; exact hlen rfl
    have HN := hid hn
    clear hn hlen
    go_enter Tryz.func87, Tryz.ntmps87
    go_wp2
    go_ret
    exact ⟨by rw [HN.out]; rfl, Below.refl _ _⟩

/-- The numbers k, k + 1 .. -/
def marks (k : Int) (n : Nat) : List Int := (List.range n).map fun i => k + (i : Nat)
theorem marks_length (k : Int) (n : Nat) : (marks k n).length = n := by simp [marks]
theorem marks_succ (k : Int) (n : Nat) : marks k (n + 1) = marks k n ++ [k + n] := by simp [marks, List.range_succ]
theorem el_marks {k : Int} {n j : Nat} (h : j < n) : el (marks k n) j = k + j := by
  have := el_get (xs := marks k n) (k := j) (by simpa [marks] using h); simp [marks, h] at this; exact this.symm
theorem mark_step {xs : List Int} {k : Nat} (m : Int) (h : k < xs.length) : (marks m k ++ xs.drop k).set k (m + k) = marks m (k + 1) ++ xs.drop (k + 1) := by
  rw [el_drop h, marks_succ, List.set_append_right _ _ (by simp [marks_length])]
  simp [marks_length]
/-- What a call leaves that writes numbers into a row that came in, and counts. -/
def Marked (w : World) (lo hi : Nat) (e : TypeId) (v : Value) (n : Nat) (m : Int) (en : Ending) (w' : World) : Prop :=
  en = .returned (.int .i64 (m + n)) ∧ OwnI w' lo hi e v (marks m n) ∧ Chg lo hi w w'
theorem l_markInt64S (w : World) (lo hi : Nat) (v : Value) (xs : List Int) (m : Int) (h0 : 0 ≤ m) (h1 : m + xs.length ≤ 9223372036854775807) (hO : OwnI w lo hi 2 v xs) :
    Calls Tryz.prog 88 #[v, .int .i64 m] w (Marked w lo hi 2 v xs.length m) := by
  obtain ⟨A, c, rfl, hc1, hc2, hs⟩ := hO.shape
  go_enter Tryz.func88, Tryz.ntmps88
  go_wp2
  go_loopg [1, 5] xs.length (fun gg mk s wr => ∃ k : Nat, k ≤ xs.length ∧ xs.length - k ≤ gg ∧ s = .int .i64 k ∧ mk = .int .i64 (m + k) ∧ Aside (Chg lo hi w wr) ∧
    Aside (Own wr lo hi 2 1 (.slice A xs.length c) xs.length (ints (marks m k ++ xs.drop k))))
  case atStart => exact ⟨0, Nat.zero_le _, by omega, rfl, by simp, Chg.refl _ _ _, by simpa [marks, Aside] using hO⟩
  case round =>
    clear hs hO
    obtain ⟨k, hk, hg, rfl, rfl, CW, OW⟩ := hrel
    by_cases hlt : k < xs.length
    · obtain ⟨A', c', e', _, _, hs⟩ := OW.out.shape
      obtain ⟨rfl, rfl⟩ : A' = A ∧ c' = c := by cases e'; exact ⟨rfl, rfl⟩
      rcases hs with ⟨_, h0⟩ | ⟨g, rfl, hlo, hhi, hcells, hfr⟩
      · omega
      have hck := hcells k _ (ints_get (by simp [marks_length]; omega))
      have hfk := hfr k
      have OW' : Aside (Own (wr.setCell ⟨g, k, none⟩ (.int .i64 (m + k))) lo hi 2 1 (.slice (some ⟨g, 0, none⟩) xs.length c') xs.length (ints (marks m (k + 1) ++ xs.drop (k + 1)))) := by
        have := OW.out.set k (.int .i64 (m + k)); rw [ints_set, mark_step m hlt] at this; exact this
      have CW' : Aside (Chg lo hi w (wr.setCell ⟨g, k, none⟩ (.int .i64 (m + k)))) := CW.out.trans (chg_set wr hlo hhi k _)
      clear e' hcells hfr OW CW
      have e1 : m + (k : Int) ≤ 9223372036854775806 := by omega
      have e2 : 0 ≤ m + (k : Int) := by omega
      go_wp2
      go_roundg (xs.length - (k + 1))
      case measure => omega
      case rel => exact ⟨k + 1, by omega, by omega, by go_num, by congr 1; omega, CW', OW'⟩
    · have : k = xs.length := by omega
      subst this
      go_wp2
      go_ret
      refine ⟨rfl, ?_, CW.out⟩
      have := OW.out
      simp only [List.drop_length, List.append_nil] at this
      unfold OwnI; rw [marks_length]; exact this

def held : List Int → Int → Int
  | [], k => k
  | x :: xs, k => if x = k then held xs (k + 1) else -1
theorem held_marks (k : Int) (n : Nat) : ∀ m, held (marks (k + m) n) (k + m) = k + m + n := by
  induction n with
  | zero => intro m; simp [marks, held]
  | succ n ih =>
    intro m
    have e : marks (k + m) (n + 1) = (k + m) :: marks (k + (m + 1)) n := by
      simp only [marks, List.range_succ_eq_map, List.map_cons, List.map_map]
      congr 1
      · simp
      · apply List.map_congr_left; intro i _; simp; omega
    rw [e]; simp only [held, if_pos]; rw [show k + m + 1 = k + (m + 1) from by omega, ih (m + 1)]; omega
theorem l_heldInt64S (w : World) (A : Option Addr) (c : Nat) (xs : List Int) (m : Int) (h0 : 0 ≤ m) (h1 : m + xs.length ≤ 9223372036854775807) (hA : RdI w A xs) :
    Calls Tryz.prog 89 #[.slice A xs.length c, .int .i64 m] w fun e w' => e = .returned (.int .i64 (held xs m)) ∧ Below w.heap.size w w' := by
  go_enter Tryz.func89, Tryz.ntmps89
  go_wp2
  go_loopg [1, 5] xs.length (fun gg mk s wr => ∃ k : Nat, k ≤ xs.length ∧ xs.length - k ≤ gg ∧ s = .int .i64 k ∧ mk = .int .i64 (m + k) ∧ Aside (Below w.heap.size w wr) ∧ Aside (held xs m = held (xs.drop k) (m + k)))
  case atStart => exact ⟨0, Nat.zero_le _, by omega, rfl, by simp, Below.refl _ _, by simp [Aside]⟩
  case round =>
    obtain ⟨k, hk, hg, rfl, rfl, BW, HQ⟩ := hrel
    have e1 : m + (k : Int) ≤ 9223372036854775807 := by omega
    have e2 : 0 ≤ m + (k : Int) := by omega
    by_cases hlt : k < xs.length
    · obtain ⟨b, off, rfl, hc⟩ := hA.below BW.out k hlt
      have hq := HQ.out
      rw [el_drop hlt] at hq
      simp only [held] at hq
      by_cases hx : el xs k = m + k
      · have hb : (el xs k != m + k) = false := by simp [hx]
        rw [if_pos hx] at hq
        have HQ' : Aside (held xs m = held (xs.drop (k + 1)) (m + (k + 1 : Nat))) := by rw [show m + ((k + 1 : Nat) : Int) = m + k + 1 from by omega]; exact hq
        have e3 : m + (k : Int) ≤ 9223372036854775806 := by omega
        clear hx hA hq HQ
        go_wp2
        go_roundg (xs.length - (k + 1))
        case measure => omega
        case rel => exact ⟨k + 1, by omega, by omega, by go_num, by congr 1; omega, BW.out, HQ'⟩
      · have hb : (el xs k != m + k) = true := by simp [hx]
        rw [if_neg hx] at hq
        have HQ' : Aside (held xs m = -1) := hq
        clear hx hA hq HQ
        go_wp2
        go_ret
        exact ⟨by rw [HQ'.out]; rfl, BW.out⟩
    · have : k = xs.length := by omega
      subst this
      have HQ' : Aside (held xs m = m + xs.length) := by have := HQ.out; simpa [held, Aside] using this
      clear HQ
      go_wp2
      go_ret
      exact ⟨by rw [HQ'.out]; rfl, BW.out⟩
end Go.Proofs.YtmpdaafkphpnoaaGreat
