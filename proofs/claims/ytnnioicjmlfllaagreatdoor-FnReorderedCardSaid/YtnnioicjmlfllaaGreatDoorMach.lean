import Derived.Test.YtnnioicjmlfllaaGreatDoorWord
import Derived.Laws.Rows
set_option linter.unusedVariables false
set_option linter.unusedSimpArgs false
namespace Go.Proofs.YtnnioicjmlfllaaGreatDoor
open Go.RowKit

def machB (la bi : Int) : Bool := lanesB la && bitsB bi
abbrev mv (la bi : Int) : Value := .agg #[.int .i64 la, .int .i64 bi]
theorem blk0 (w : World) (a b c : Obj) : (((w.alloc a).alloc b).alloc c).heap[w.heap.size + 1]? = some b := by
  have e : (w.alloc a).heap.size = w.heap.size + 1 := by simp
  rw [(Below.refl ((w.alloc a).alloc b).heap.size ((w.alloc a).alloc b)).alloc (Nat.le_refl _) c |>.block _ (by simp), ← e, heap_alloc_new]
theorem machine3 (w : World) (a b c : Obj) : Below w.heap.size w (((w.alloc a).alloc b).alloc c) := balloc (balloc (ballocw _ _) _) _

theorem i_ValidMachine (w : World) (la bi : Int) : Calls Tryz.prog 62 #[mv la bi] w fun e w' => e = .returned (.bool (machB la bi)) ∧ Below w.heap.size w w' := by
  have c0 := fun W => i_isLanes la W
  have c1 := fun W => i_isBits bi W
  unfold machB
  generalize lanesB la = x at c0 ⊢
  generalize bitsB bi = y at c1 ⊢
  cases x
  all_goals
    go_enter Tryz.func62, Tryz.ntmps62
    go_wp2_with (first | (go_at_call 112; refine (c0 _).mono ?_; rintro e w' ⟨rfl, rfl⟩) | (go_at_call 86; refine (c1 _).mono ?_; rintro e w' ⟨rfl, rfl⟩))
    go_ret
    exact ⟨ret_b (by simp), ballocw _ _⟩
theorem s_l05Machine (w : World) (B : Nat) (la bi : Int) (h0 : w.cell? ⟨B, 0, none⟩ = some (.int .i64 la)) (h1 : w.cell? ⟨B, 1, none⟩ = some (.int .i64 bi)) :
    Calls Tryz.prog 57 #[.pointer (some ⟨B, 0, none⟩)] w fun e w' => e = .returned (.bool (machB la bi)) ∧ w = w' := by
  have c1 := fun W => s_l01Bits bi W
  unfold machB lanesB
  generalize bitsB bi = y at c1 ⊢
  by_cases e2 : la = 2
  · subst e2
    go_enter Tryz.func57, Tryz.ntmps57
    go_wp2_with (go_at_call 104; refine (c1 _).mono ?_; rintro e w' ⟨rfl, rfl⟩)
    go_ret
    exact ⟨ret_b (by simp), rfl⟩
  by_cases e4 : la = 4
  · subst e4
    go_enter Tryz.func57, Tryz.ntmps57
    go_wp2_with (go_at_call 104; refine (c1 _).mono ?_; rintro e w' ⟨rfl, rfl⟩)
    go_ret
    exact ⟨ret_b (by simp), rfl⟩
  by_cases e8 : la = 8
  · subst e8
    go_enter Tryz.func57, Tryz.ntmps57
    go_wp2_with (go_at_call 104; refine (c1 _).mono ?_; rintro e w' ⟨rfl, rfl⟩)
    go_ret
    exact ⟨ret_b (by simp), rfl⟩
  by_cases e16 : la = 16
  · subst e16
    go_enter Tryz.func57, Tryz.ntmps57
    go_wp2_with (go_at_call 104; refine (c1 _).mono ?_; rintro e w' ⟨rfl, rfl⟩)
    go_ret
    exact ⟨ret_b (by simp), rfl⟩
  have b2 : (la == 2) = false := by simpa using e2
  have b4 : (la == 4) = false := by simpa using e4
  have b8 : (la == 8) = false := by simpa using e8
  have b16 : (la == 16) = false := by simpa using e16
  clear e2 e4 e8 e16
  go_enter Tryz.func57, Tryz.ntmps57
  go_wp2_with (go_at_call 104; refine (c1 _).mono ?_; rintro e w' ⟨rfl, rfl⟩)
  go_ret
  exact ⟨ret_b (by simp [b2, b4, b8, b16]), rfl⟩

end Go.Proofs.YtnnioicjmlfllaaGreatDoor
