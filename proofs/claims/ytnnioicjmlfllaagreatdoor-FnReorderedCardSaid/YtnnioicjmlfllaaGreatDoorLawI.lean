import Derived.Test.YtnnioicjmlfllaaGreatDoorBase
set_option linter.unusedVariables false
set_option linter.unusedSimpArgs false
namespace Go.Proofs.YtnnioicjmlfllaaGreatDoor
open Go.RowKit

theorem infoInt : (Tryz.prog.info? 2).map (fun i => (i.zero, i.size, i.bytes)) = some (some (.int .i64 0), 1, 8) := by kernel_rfl
theorem makeInt (n : Nat) (hn : n ≤ 35184372088832) (W : World) : (Instr.makeSlice 27 (.int .i64 (n : Int)) (.int .i64 (n : Int))).run Tryz.prog W = .ok (.slice (some ⟨W.heap.size, 0, none⟩) n n) (W.alloc (.cells (madeCells #[.int .i64 0] n) 2)) :=
  run_make_row' 27 2 (.int .i64 0) 8 Tryz.underlying27 infoInt rfl .i64 .i64 n (by omega) (by omega) W
/-- What a call leaves that returns new numbers. -/
def RetI (w : World) (e : TypeId) (xs : List Int) (en : Ending) (w' : World) : Prop := ∃ v, en = .returned v ∧ OwnI w' w.heap.size w'.heap.size e v xs ∧ Below w.heap.size w w'

theorem copy_step {xs : List Int} {k : Nat} (h : k < xs.length) :
    (xs.take k ++ List.replicate (xs.length - k) 0).set k (el xs k) = xs.take (k + 1) ++ List.replicate (xs.length - (k + 1)) 0 := by
  obtain ⟨m, hm⟩ : ∃ m, xs.length - k = m + 1 := ⟨xs.length - k - 1, by omega⟩
  rw [el_take h, hm, show xs.length - (k + 1) = m from by omega, List.replicate_succ, List.set_append_right _ _ (by simp; omega)]
  simp [show min k xs.length = k from by omega]
/-- The numbers k, k + 1 .. -/
def marks (k : Int) (n : Nat) : List Int := (List.range n).map fun i => k + (i : Nat)
theorem marks_length (k : Int) (n : Nat) : (marks k n).length = n := by simp [marks]
theorem marks_succ (k : Int) (n : Nat) : marks k (n + 1) = marks k n ++ [k + n] := by simp [marks, List.range_succ]
theorem el_marks {k : Int} {n j : Nat} (h : j < n) : el (marks k n) j = k + j := by
  have := el_get (xs := marks k n) (k := j) (by simpa [marks] using h); simp [marks, h] at this; exact this.symm
theorem mark_step {xs : List Int} {k : Nat} (m : Int) (h : k < xs.length) : (marks m k ++ xs.drop k).set k (m + k) = marks m (k + 1) ++ xs.drop (k + 1) := by
  rw [el_drop h, marks_succ, List.set_append_right _ _ (by simp [marks_length])]
  simp [marks_length]
/-- What a call leaves that writes numbers into a row that came in, and counts. -/
def Marked (w : World) (lo hi : Nat) (e : TypeId) (v : Value) (n : Nat) (m : Int) (en : Ending) (w' : World) : Prop :=
  en = .returned (.int .i64 (m + n)) ∧ OwnI w' lo hi e v (marks m n) ∧ Chg lo hi w w'
def held : List Int → Int → Int
  | [], k => k
  | x :: xs, k => if x = k then held xs (k + 1) else -1
theorem held_marks (k : Int) (n : Nat) : ∀ m, held (marks (k + m) n) (k + m) = k + m + n := by
  induction n with
  | zero => intro m; simp [marks, held]
  | succ n ih =>
    intro m
    have e : marks (k + m) (n + 1) = (k + m) :: marks (k + (m + 1)) n := by
      simp only [marks, List.range_succ_eq_map, List.map_cons, List.map_map]
      congr 1
      · simp
      · apply List.map_congr_left; intro i _; simp; omega
    rw [e]; simp only [held, if_pos]; rw [show k + m + 1 = k + (m + 1) from by omega, ih (m + 1)]; omega
end Go.Proofs.YtnnioicjmlfllaaGreatDoor
