import Derived.Test.YtmpdaafkphpnoaaDoorWord
import Derived.Laws.Rows
set_option linter.unusedVariables false
set_option linter.unusedSimpArgs false
namespace Go.Proofs.YtmpdaafkphpnoaaDoor
open Go.RowKit

def machB (la bi : Int) : Bool := lanesB la && bitsB bi
abbrev mv (la bi : Int) : Value := .agg #[.int .i64 la, .int .i64 bi]
theorem blk0 (w : World) (a b c : Obj) : (((w.alloc a).alloc b).alloc c).heap[w.heap.size + 1]? = some b := by
  have e : (w.alloc a).heap.size = w.heap.size + 1 := by simp
  rw [(Below.refl ((w.alloc a).alloc b).heap.size ((w.alloc a).alloc b)).alloc (Nat.le_refl _) c |>.block _ (by simp), ← e, heap_alloc_new]
theorem machine3 (w : World) (a b c : Obj) : Below w.heap.size w (((w.alloc a).alloc b).alloc c) := balloc (balloc (ballocw _ _) _) _


end Go.Proofs.YtmpdaafkphpnoaaDoor
