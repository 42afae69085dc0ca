import Derived.Test.YthgfcoafngddgaaHts4
set_option linter.unusedVariables false
set_option linter.unusedSimpArgs false
namespace Go.Proofs.Ythgfcoafngddgaa
open Go.RowKit

/-- What a call leaves that returns a number and a bool. -/
def RetZB (w : World) (r : Int × Bool) (en : Ending) (w' : World) : Prop := en = .returned (.tuple #[.int .i64 r.1, .bool r.2]) ∧ Below w.heap.size w w'
def m_PathBound (ts : List TaskV) : Int × Bool := if tasksB ts then (mxN (hts ts) ts.length, true) else (0, false)
def m_HeightsOf (ts : List TaskV) : List Int × Bool := if tasksB ts then (hts ts, true) else ([], false)
theorem m_HeightsOf_len (ts : List TaskV) : (m_HeightsOf ts).1.length ≤ 1048576 := by
  unfold m_HeightsOf; split
  · rename_i h; simp only [hts_length]; have := (TOk.of h).few; omega
  · simp
end Go.Proofs.Ythgfcoafngddgaa
