import Derived.Test.YtmpdaafkphpnoaaGreatSched
set_option linter.unusedVariables false
set_option linter.unusedSimpArgs false
namespace Go.Proofs.YtmpdaafkphpnoaaGreat
open Go.RowKit

theorem box_new (w : World) (v : Value) (t : TypeId) : (w.alloc (.cells #[v] t)).cell? ⟨w.heap.size, 0, none⟩ = some v := by simp
theorem box_new1 (w : World) (o : Obj) (v : Value) (t : TypeId) : ((w.alloc o).alloc (.cells #[v] t)).cell? ⟨w.heap.size + 1, 0, none⟩ = some v := by
  have h := box_new (w.alloc o) v t
  rwa [show (w.alloc o).heap.size = w.heap.size + 1 by simp] at h
theorem box_new2 (w : World) (o o' : Obj) (v : Value) (t : TypeId) : (((w.alloc o).alloc o').alloc (.cells #[v] t)).cell? ⟨w.heap.size + 1 + 1, 0, none⟩ = some v := by
  have h := box_new1 (w.alloc o) o' v t
  rwa [show (w.alloc o).heap.size = w.heap.size + 1 by simp] at h
/-- Numbers that are not large. -/
def Sml (xs : List Int) : Prop := ∀ k, k < xs.length → -1000000 ≤ el xs k ∧ el xs k ≤ 1000000

end Go.Proofs.YtmpdaafkphpnoaaGreat
